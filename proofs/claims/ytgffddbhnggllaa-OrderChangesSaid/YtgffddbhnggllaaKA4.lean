/- A part of the texts of one claim: the walk of the code by hand-proved contracts, and the plain law. -/
import Derived.Deep.Cut
import Derived.WalkKit
import Derived.KernelRfl
import Derived.LoopN
import Derived.Lib.Hide
import Derived.Deep.RegionWith
import Derived.BigQuiet
import Derived.MapKept
import Derived.Maps.Own
import Derived.Lib.SlKeysI
import Derived.Laws.AppendOwn
import Derived.Test.YtgffddbhnggllaaProg
import Derived.Shelf.SlGeneric
import Derived.Shelf.SlIterI.Stops
import Derived.Shelf.SlIterI.Sorted
import Derived.Ground.GgzProg
import Derived.Below
import Derived.Deep.Draws
import Derived.Deep.AppendLies
import Derived.Maps.AppendAt
import Derived.OwnWalk
import Derived.Laws.BytesArg
import Derived.Laws.MakeOwn
import Derived.Laws.OwnMore
import Derived.Deep.OwnRows
import Derived.Tactics
import Derived.Lib.ConvBytes
import Derived.Laws.Slices
import Derived.RowKit3
import Derived.Deep.LoopGhost
import Derived.Deep.QuietTactic
import Derived.WideLaws
import Derived.Deep.DeepCutAuto
import Derived.Deep.CutBlock
import Derived.Deep.RegionHeld3
import Derived.Laws.Rows
import Derived.Lib.AppendStr
import Derived.ArgAppend
import Derived.Laws.IdiomCopy
import Derived.OrdersHeld
import Derived.Laws.BitsLemmas
import Derived.RowKit
import Derived.Outline
import Derived.RangeFuncNested
import Derived.RangeFuncBound
import Derived.RangeFuncCalls
import Derived.RangeFuncLeaves
import Derived.RangeFuncBox
import Derived.Shelf.Abstract
import Derived.Shelf.RegionOpen
import Derived.OwnWalkIn
import Derived.TacticsInMore
import Derived.LoopNIn
import Derived.LoopIn
import Derived.Sort.QuietIn
import Derived.OrdersIn
import Derived.Test.YtgffddbhnggllaaKA3
set_option linter.unusedVariables false
set_option linter.unusedSimpArgs false
namespace Go.Proofs.Ytgffddbhnggllaa.Ed
open Go.RowKit Go.Shelf Go.Proofs.YtgffddbhnggllaaW.PrintWords QF
set_option maxRecDepth 1000000 in
set_option maxHeartbeats 25600000 in
theorem pdq_calls (rv : Value) (g cap : Nat) (w0 : World) : ∀ (N a b limit : Nat) (d : Array S41) (w : World), b - a < N → SB w0 w g cap d → a ≤ b → b ≤ d.size → d.size ≤ 100000 → limit ≤ 1000 → Sort.Below ltO a b d →
    Calls Try.prog 101 #[.slice (some ⟨g, 0, none⟩) d.size cap, .int .i64 a, .int .i64 b, .int .i64 limit, .func (.func 89) #[rv] #[]] w fun e w' => e = .returned (.tuple #[]) ∧ SB w0 w' g cap (Sort.pdq ltO d a b limit true true) := by
  intro N
  induction N with
  | zero => intro _ _ _ _ _ h; exact absurd h (Nat.not_lt_zero _)
  | succ N ih =>
    intro a b limit d w hN S hab hb hsz hlimit hBel0
    have mixed : Try.prog.follows .mixedOrders = true := by kernel_rfl
    have S0 := Lib.hid S
    clear S
    go_enter Try.func101, Try.ntmps101
    go_wp2
    go_loopg [1, 2, 3, 10, 11] (b - a) (fun kx s1 s2 s3 s8 s9 wr => ∃ (a' b' lim : Nat) (wb wp : Bool) (dk : Array S41), s1 = .int .i64 a' ∧ s2 = .int .i64 b' ∧ s3 = .int .i64 lim ∧ s8 = .bool wb ∧ s9 = .bool wp ∧
      a' ≤ b' ∧ b' ≤ d.size ∧ b' - a' ≤ kx ∧ kx ≤ b - a ∧ lim ≤ limit ∧ dk.size = d.size ∧ Sort.Below ltO a' b' dk ∧ Hid (SB w0 wr g cap dk) ∧ Hid (Sort.pdq ltO dk a' b' lim wb wp = Sort.pdq ltO d a b limit true true))
    case atStart => exact ⟨a, b, limit, true, true, d, rfl, rfl, rfl, rfl, rfl, hab, hb, Nat.le_refl _, Nat.le_refl _, Nat.le_refl _, rfl, hBel0, S0, rfl⟩
    case round =>
      clear S0
      obtain ⟨a', b', lim, wb, wp, dk, rfl, rfl, rfl, rfl, rfl, hab', hb', hkx, hkN, hlim, hds, hBel, S1, A⟩ := hrel
      by_cases h12 : b' - a' ≤ 12
      · have h12z : (b' : Int) - (a' : Int) ≤ 12 := by omega
        have hc := insertion_calls rv g cap a' b' dk w0 wr S1.out hab' (by omega) (by omega)
        rw [hds] at hc
        go_wp2_with ((with_reducible refine Calls.mono hc ?_); rintro e w1 ⟨rfl, hw1⟩)
        ((try simp only [Exit.inBlock, Exit.then]); refine bodyPost_ret (results_none rfl _ _ _) rfl ?_)
        refine ⟨rfl, ?_⟩
        rw [← A.out, Sort.pdq_small h12]
        exact hw1
      · have h12z : ¬ ((b' : Int) - (a' : Int) ≤ 12) := by omega
        by_cases hl0 : lim = 0
        · subst hl0
          have hc := heap_calls rv g cap a' b' dk w0 wr S1.out hab' (by omega) (by omega)
          rw [hds] at hc
          go_wp2_with ((with_reducible refine Calls.mono hc ?_); rintro e w1 ⟨rfl, hw1⟩)
          ((try simp only [Exit.inBlock, Exit.then]); refine bodyPost_ret (results_none rfl _ _ _) rfl ?_)
          refine ⟨rfl, ?_⟩
          rw [← A.out, Sort.pdq_heap h12 rfl]
          exact hw1
        · have hl0z : ¬ ((lim : Int) = 0) := by omega
          obtain ⟨R, RF⟩ := round_facts dk a' b' lim wb wp h12 hl0 (by omega) hBel
          go_upto_if 39 with fail
          go_cut [3] from 21 (fun s3 wc => s3 = .int .i64 (R.lim : Nat) ∧ Hid (SB w0 wc g cap R.d1))
          case first =>
            cases wb
            · obtain ⟨e1, e2⟩ := RF.ff rfl
              have hc := break_calls rv g cap a' (b' - a') dk w0 wr S1.out (by omega) (by omega) (by omega)
              rw [show a' + (b' - a') = b' by omega, hds, ← e1] at hc
              go_wp2_with ((with_reducible refine Calls.mono hc ?_); rintro e w1 ⟨rfl, S2⟩)
              go_meet
              case rel =>
                refine ⟨?_, Lib.hid S2⟩
                rw [e2]
                congr 1
                omega
            · obtain ⟨e1, e2⟩ := RF.tt rfl
              go_wp2_with fail
              go_meet
              case rel => exact ⟨by rw [e2], by rw [e1]; exact S1⟩
          case rest =>
            clear S1
            obtain ⟨rfl, S1⟩ := hcut
            have hc17 := pivot_calls rv g cap a' b' R.d1 w0 wc S1.out (by omega) (by have := RF.s1; omega) (by have := RF.s1; omega)
            rw [← RF.hc, show R.d1.size = d.size from RF.s1.trans hds] at hc17
            go_upto_if 56 with ((with_reducible refine Calls.mono hc17 ?_); rintro e w2 ⟨rfl, hAt2⟩)
            have S2 := Lib.hid hAt2
            clear hAt2 hc17
            go_cut [13, 14] from 21 (fun s11 s12 wc => s11 = .int .i64 (R.pivot : Nat) ∧ s12 = .int .i64 (hcode R.hint) ∧ Hid (SB w0 wc g cap R.d2))
            case first =>
              by_cases hh : R.c.2 = .decreasing
              · have hcd : hcode R.c.2 = 2 := by rw [hh]; rfl
                obtain ⟨e2, epv, eht⟩ := RF.dec hh
                have hc1 := RF.c1
                have hc18 := reverse_calls rv g cap a' b' R.d1 w0 w2 S2.out hab' (by have := RF.s1; omega) (by have := RF.s1; omega)
                rw [show R.d1.size = d.size from RF.s1.trans hds] at hc18
                go_wp2_with ((with_reducible refine Calls.mono hc18 ?_); rintro e w3 ⟨rfl, S3⟩)
                go_meet
                case rel =>
                  refine ⟨?_, by rw [eht]; rfl, by rw [e2]; exact Lib.hid S3⟩
                  rw [epv]
                  congr 1
                  omega
              · have hcd : ¬ (hcode R.c.2 = 2) := fun h => hh (by cases hq : R.c.2 <;> rw [hq] at h <;> simp [hcode] at h)
                obtain ⟨e2, epv, eht⟩ := RF.nd hh
                go_wp2_with fail
                go_meet
                case rel => exact ⟨by rw [epv], by rw [eht], by rw [e2]; exact S2⟩
            case rest =>
              obtain ⟨rfl, rfl, S3⟩ := hcut
              go_upto_region 15 with fail
              go_cut [14, 75] from 21 (fun s12 s68 wx => s12 = .int .i64 (hcode R.hint) ∧ s68 = .bool (wb && wp && decide (R.hint = .increasing)) ∧ wx = wc)
              case first =>
                cases wb <;> cases wp <;> cases hh3 : R.hint <;>
                  (have hcode3 := congrArg hcode hh3
                   simp only [hcode] at hcode3
                   go_wp2_with fail
                   go_meet
                   exact ⟨by simp [hh3, hcode], by simp [hh3, hcode], rfl⟩)
              case rest =>
                obtain ⟨rfl, rfl, rfl⟩ := hcut
                go_upto_if 75 with fail
                go_cut [] from 21 (fun wx => Hid (R.pi.2 = false) ∧ Hid (SB w0 wx g cap R.pi.1))
                case first =>
                  cases h68 : (wb && wp && decide (R.hint = .increasing))
                  · have epi := RF.no h68
                    go_wp2_with fail
                    go_meet
                    case rel => exact ⟨Lib.hid (by rw [epi]), by rw [epi]; exact S3⟩
                  · have epi := RF.yes h68
                    have hc19 := pis_calls rv g cap a' b' R.d2 w0 wc S3.out (by omega) (by have := RF.s2; omega) (by have := RF.s2; omega)
                    rw [← epi, show R.d2.size = d.size from RF.s2.trans hds] at hc19
                    cases hp2 : R.pi.2
                    · rw [hp2] at hc19
                      go_wp2_with ((with_reducible refine Calls.mono hc19 ?_); rintro e w4 ⟨rfl, S4⟩)
                      go_meet
                      case rel => exact ⟨Lib.hid hp2, Lib.hid S4⟩
                    · rw [hp2] at hc19
                      go_wp2_with ((with_reducible refine Calls.mono hc19 ?_); rintro e w4 ⟨rfl, S4⟩)
                      ((try simp only [Exit.inBlock, Exit.then]); refine bodyPost_ret (results_none rfl _ _ _) rfl ?_)
                      refine ⟨rfl, ?_⟩
                      rw [← A.out, RF.done hp2]
                      exact S4
                case rest =>
                  obtain ⟨hp2, S5⟩ := hcut
                  rcases Nat.eq_zero_or_pos a' with ha0 | ha0
                  · have ha0z : ¬ ((a' : Int) > 0) := by omega
                    have ha0y : ¬ ((0 : Int) < (a' : Int)) := by omega
                    have h87 : Hid ((decide (a' > 0) && !ltO R.pi.1[a' - 1]! R.pi.1[R.pivot]!) = false) := by show _ = _; simp [ha0]
                    have ha1 : ¬ (0 < a') := by omega
                    clear ha0
                    go_wp2_with fail
                    go_big_region_o
                    have S6 := Lib.hid S5.out.drew
                    clear S5
                    generalize wc.drew = w6 at S6 ⊢
                    obtain ⟨mid, ap, d4, hx⟩ : ∃ mid ap d4, Sort.partition ltO R.pi.1 a' b' R.pivot = (mid, ap, d4) := ⟨_, _, _, rfl⟩
                    obtain ⟨r1, r2, r3, r4, r5, r6, r7⟩ := Sort.round_part swoO (Sort.partition_holds ltO) (Nat.le_of_lt RF.pv1) RF.pv2 (show b' ≤ R.pi.1.size by have := RF.s3; omega) RF.B3 hx
                    have hc22 := part_calls rv g cap a' b' R.pivot R.pi.1 w0 w6 S6.out RF.pv1 RF.pv2 (by have := RF.s3; omega) (by have := RF.s3; omega)
                    rw [hx, show R.pi.1.size = d.size from RF.s3.trans hds] at hc22
                    have X := Lib.hid hx
                    have hs4 : d4.size = d.size := r3.trans (RF.s3.trans hds)
                    clear hx S6
                    go_upto_if 125 with ((with_reducible refine Calls.mono hc22 ?_); rintro e w7 ⟨rfl, hAt7⟩)
                    have S7 := Lib.hid hAt7
                    clear hAt7 hc22
                    by_cases h4 : mid - a' < b' - mid
                    · have h4z : (mid : Int) - (a' : Int) < (b' : Int) - (mid : Int) := by omega
                      have hih := ih a' mid R.lim d4 w7 (by omega) S7.out (by omega) (by omega) (by omega) (by have := RF.ll; omega) r4
                      rw [hs4] at hih
                      have hps := Lib.hid (Sort.pdq_sorts ltO swoO d4 a' mid R.lim true true (by omega) (by omega) r4)
                      clear S7
                      go_wp2_with ((with_reducible refine Calls.mono hih ?_); rintro e w8 ⟨rfl, S8⟩)
                      clear hih
                      go_roundg (b' - (mid + 1))
                      case measure => omega
                      case rel =>
                        have hx := X.out
                        obtain ⟨pL, sL⟩ := hps.out
                        have hll := RF.ll
                        refine ⟨mid + 1, b', R.lim, decide (mid - a' ≥ (b' - a') / 8), ap, Sort.pdq ltO d4 a' mid R.lim true true, by go_num, rfl, rfl, ?_, rfl, by omega, by omega, Nat.le_refl _, by omega, by omega, by rw [pL.1, hs4], (r6 _ pL sL).1, Lib.hid S8, Lib.hid ?_⟩
                        · exact congrArg Value.bool (eighth (by omega) (by omega))
                        · rw [← A.out, RF.left hp2.out h87.out (by rw [hx]; exact ⟨r1, r2⟩) (by rw [hx]; exact h4), hx]
                    · have h4z : ¬ ((mid : Int) - (a' : Int) < (b' : Int) - (mid : Int)) := by omega
                      have hih := ih (mid + 1) b' R.lim d4 w7 (by omega) S7.out (by omega) (by omega) (by omega) (by have := RF.ll; omega) r5
                      rw [show ((mid + 1 : Nat) : Int) = (mid : Int) + 1 by omega] at hih
                      rw [hs4] at hih
                      have hps := Lib.hid (Sort.pdq_sorts ltO swoO d4 (mid + 1) b' R.lim true true (by omega) (by omega) r5)
                      clear S7
                      go_wp2_with ((with_reducible refine Calls.mono hih ?_); rintro e w8 ⟨rfl, S8⟩)
                      clear hih
                      go_roundg (mid - a')
                      case measure => omega
                      case rel =>
                        have hx := X.out
                        obtain ⟨pL, sL⟩ := hps.out
                        have hll := RF.ll
                        refine ⟨a', mid, R.lim, decide (b' - mid ≥ (b' - a') / 8), ap, Sort.pdq ltO d4 (mid + 1) b' R.lim true true, rfl, rfl, rfl, ?_, rfl, by omega, by omega, Nat.le_refl _, by omega, by omega, by rw [pL.1, hs4], (r7 _ pL sL).1, Lib.hid S8, Lib.hid ?_⟩
                        · exact congrArg Value.bool (eighth (by omega) (by omega))
                        · rw [← A.out, RF.right hp2.out h87.out (by rw [hx]; exact ⟨r1, r2⟩) (by rw [hx]; exact h4), hx]
                  · have ha0z : (a' : Int) > 0 := by omega
                    obtain ⟨ap, hap⟩ : ∃ q, q + 1 = a' := ⟨a' - 1, by omega⟩
                    have zap : (a' : Int) = (ap : Int) + 1 := by omega
                    cases hlv : ltO R.pi.1[ap]! R.pi.1[R.pivot]! with
                    | true =>
                      have nap : (ap : Int) < (d.size : Int) := by omega
                      have w7 : IntKind.i64.wrap ((ap : Int) + 1 - 1) = (ap : Int) := by rw [show (ap : Int) + 1 - 1 = (ap : Int) by omega]; exact i64w ap (by omega)
                      have w8 : IntKind.i64.wrap (ap : Int) = (ap : Int) := i64w ap (by omega)
                      have npv : (R.pivot : Int) < (d.size : Int) := by have := RF.pv2; omega
                      have p0 := fun dr os => ((S5.out.regrown dr os).cells ap (by have h3 := RF.s3; have h4 := RF.pv2; omega)).1
                      have p1 := fun dr os => ((S5.out.regrown dr os).cells ap (by have h3 := RF.s3; have h4 := RF.pv2; omega)).2.1
                      have p2 := fun dr os => ((S5.out.regrown dr os).cells ap (by have h3 := RF.s3; have h4 := RF.pv2; omega)).2.2.1
                      have p3 := fun dr os => ((S5.out.regrown dr os).cells ap (by have h3 := RF.s3; have h4 := RF.pv2; omega)).2.2.2.1
                      have p4 := fun dr os => ((S5.out.regrown dr os).cells ap (by have h3 := RF.s3; have h4 := RF.pv2; omega)).2.2.2.2.1
                      have p5 := fun dr os => ((S5.out.regrown dr os).cells ap (by have h3 := RF.s3; have h4 := RF.pv2; omega)).2.2.2.2.2
                      have q0 := fun dr os => ((S5.out.regrown dr os).cells R.pivot (by have h3 := RF.s3; have h4 := RF.pv2; omega)).1
                      have q1 := fun dr os => ((S5.out.regrown dr os).cells R.pivot (by have h3 := RF.s3; have h4 := RF.pv2; omega)).2.1
                      have q2 := fun dr os => ((S5.out.regrown dr os).cells R.pivot (by have h3 := RF.s3; have h4 := RF.pv2; omega)).2.2.1
                      have q3 := fun dr os => ((S5.out.regrown dr os).cells R.pivot (by have h3 := RF.s3; have h4 := RF.pv2; omega)).2.2.2.1
                      have q4 := fun dr os => ((S5.out.regrown dr os).cells R.pivot (by have h3 := RF.s3; have h4 := RF.pv2; omega)).2.2.2.2.1
                      have q5 := fun dr os => ((S5.out.regrown dr os).cells R.pivot (by have h3 := RF.s3; have h4 := RF.pv2; omega)).2.2.2.2.2
                      go_wp2_with fail
                      refine wp_region_quiet_below mixed (by kernel_rfl) ?_
                      repeat (quiet_step ((go_at_call 89; refine Calls.regrown_of (cmpO_calls rv _ _ _))))
                      refine wpQuiet_nil ?_
                      intro _ hw'
                      obtain ⟨⟨dq, osq⟩, hw''⟩ := hw'
                      subst hw''
                      clear p0 p1 p2 p3 p4 p5 q0 q1 q2 q3 q4 q5
                      have S6 := Lib.hid (S5.out.regrown dq osq)
                      generalize Sort.grow (redrawn wc dq) osq = w6 at S6 ⊢
                      clear S5
                      have hz : ltO R.pi.1[ap]! R.pi.1[R.pivot]! = decide (cmpO R.pi.1[ap]! R.pi.1[R.pivot]! < 0) := rfl
                      generalize cmpO R.pi.1[ap]! R.pi.1[R.pivot]! = z at *
                      have hd : z < 0 := of_decide_eq_true (hz.symm.trans hlv)
                      have hd2 : decide (z < 0) = true := decide_eq_true hd
                      clear hz
                      rw [hd2]
                      try rw [show (!true) = false from rfl]
                      clear hd hd2
                      simp only [← zap]
                      have h87 : Hid ((decide (a' > 0) && !ltO R.pi.1[a' - 1]! R.pi.1[R.pivot]!) = false) := by show _ = _; rw [show a' - 1 = ap by omega, hlv]; simp
                      clear zap hap hlv nap npv w7 w8
                      obtain ⟨mid, ap, d4, hx⟩ : ∃ mid ap d4, Sort.partition ltO R.pi.1 a' b' R.pivot = (mid, ap, d4) := ⟨_, _, _, rfl⟩
                      obtain ⟨r1, r2, r3, r4, r5, r6, r7⟩ := Sort.round_part swoO (Sort.partition_holds ltO) (Nat.le_of_lt RF.pv1) RF.pv2 (show b' ≤ R.pi.1.size by have := RF.s3; omega) RF.B3 hx
                      have hc22 := part_calls rv g cap a' b' R.pivot R.pi.1 w0 w6 S6.out RF.pv1 RF.pv2 (by have := RF.s3; omega) (by have := RF.s3; omega)
                      rw [hx, show R.pi.1.size = d.size from RF.s3.trans hds] at hc22
                      have X := Lib.hid hx
                      have hs4 : d4.size = d.size := r3.trans (RF.s3.trans hds)
                      clear hx S6
                      go_upto_if 125 with ((with_reducible refine Calls.mono hc22 ?_); rintro e w7 ⟨rfl, hAt7⟩)
                      have S7 := Lib.hid hAt7
                      clear hAt7 hc22
                      by_cases h4 : mid - a' < b' - mid
                      · have h4z : (mid : Int) - (a' : Int) < (b' : Int) - (mid : Int) := by omega
                        have hih := ih a' mid R.lim d4 w7 (by omega) S7.out (by omega) (by omega) (by omega) (by have := RF.ll; omega) r4
                        rw [hs4] at hih
                        have hps := Lib.hid (Sort.pdq_sorts ltO swoO d4 a' mid R.lim true true (by omega) (by omega) r4)
                        clear S7
                        go_wp2_with ((with_reducible refine Calls.mono hih ?_); rintro e w8 ⟨rfl, S8⟩)
                        clear hih
                        go_roundg (b' - (mid + 1))
                        case measure => omega
                        case rel =>
                          have hx := X.out
                          obtain ⟨pL, sL⟩ := hps.out
                          have hll := RF.ll
                          refine ⟨mid + 1, b', R.lim, decide (mid - a' ≥ (b' - a') / 8), ap, Sort.pdq ltO d4 a' mid R.lim true true, by go_num, rfl, rfl, ?_, rfl, by omega, by omega, Nat.le_refl _, by omega, by omega, by rw [pL.1, hs4], (r6 _ pL sL).1, Lib.hid S8, Lib.hid ?_⟩
                          · exact congrArg Value.bool (eighth (by omega) (by omega))
                          · rw [← A.out, RF.left hp2.out h87.out (by rw [hx]; exact ⟨r1, r2⟩) (by rw [hx]; exact h4), hx]
                      · have h4z : ¬ ((mid : Int) - (a' : Int) < (b' : Int) - (mid : Int)) := by omega
                        have hih := ih (mid + 1) b' R.lim d4 w7 (by omega) S7.out (by omega) (by omega) (by omega) (by have := RF.ll; omega) r5
                        rw [show ((mid + 1 : Nat) : Int) = (mid : Int) + 1 by omega] at hih
                        rw [hs4] at hih
                        have hps := Lib.hid (Sort.pdq_sorts ltO swoO d4 (mid + 1) b' R.lim true true (by omega) (by omega) r5)
                        clear S7
                        go_wp2_with ((with_reducible refine Calls.mono hih ?_); rintro e w8 ⟨rfl, S8⟩)
                        clear hih
                        go_roundg (mid - a')
                        case measure => omega
                        case rel =>
                          have hx := X.out
                          obtain ⟨pL, sL⟩ := hps.out
                          have hll := RF.ll
                          refine ⟨a', mid, R.lim, decide (b' - mid ≥ (b' - a') / 8), ap, Sort.pdq ltO d4 (mid + 1) b' R.lim true true, rfl, rfl, rfl, ?_, rfl, by omega, by omega, Nat.le_refl _, by omega, by omega, by rw [pL.1, hs4], (r7 _ pL sL).1, Lib.hid S8, Lib.hid ?_⟩
                          · exact congrArg Value.bool (eighth (by omega) (by omega))
                          · rw [← A.out, RF.right hp2.out h87.out (by rw [hx]; exact ⟨r1, r2⟩) (by rw [hx]; exact h4), hx]
                    | false =>
                      have nap : (ap : Int) < (d.size : Int) := by omega
                      have w7 : IntKind.i64.wrap ((ap : Int) + 1 - 1) = (ap : Int) := by rw [show (ap : Int) + 1 - 1 = (ap : Int) by omega]; exact i64w ap (by omega)
                      have w8 : IntKind.i64.wrap (ap : Int) = (ap : Int) := i64w ap (by omega)
                      have npv : (R.pivot : Int) < (d.size : Int) := by have := RF.pv2; omega
                      have p0 := fun dr os => ((S5.out.regrown dr os).cells ap (by have h3 := RF.s3; have h4 := RF.pv2; omega)).1
                      have p1 := fun dr os => ((S5.out.regrown dr os).cells ap (by have h3 := RF.s3; have h4 := RF.pv2; omega)).2.1
                      have p2 := fun dr os => ((S5.out.regrown dr os).cells ap (by have h3 := RF.s3; have h4 := RF.pv2; omega)).2.2.1
                      have p3 := fun dr os => ((S5.out.regrown dr os).cells ap (by have h3 := RF.s3; have h4 := RF.pv2; omega)).2.2.2.1
                      have p4 := fun dr os => ((S5.out.regrown dr os).cells ap (by have h3 := RF.s3; have h4 := RF.pv2; omega)).2.2.2.2.1
                      have p5 := fun dr os => ((S5.out.regrown dr os).cells ap (by have h3 := RF.s3; have h4 := RF.pv2; omega)).2.2.2.2.2
                      have q0 := fun dr os => ((S5.out.regrown dr os).cells R.pivot (by have h3 := RF.s3; have h4 := RF.pv2; omega)).1
                      have q1 := fun dr os => ((S5.out.regrown dr os).cells R.pivot (by have h3 := RF.s3; have h4 := RF.pv2; omega)).2.1
                      have q2 := fun dr os => ((S5.out.regrown dr os).cells R.pivot (by have h3 := RF.s3; have h4 := RF.pv2; omega)).2.2.1
                      have q3 := fun dr os => ((S5.out.regrown dr os).cells R.pivot (by have h3 := RF.s3; have h4 := RF.pv2; omega)).2.2.2.1
                      have q4 := fun dr os => ((S5.out.regrown dr os).cells R.pivot (by have h3 := RF.s3; have h4 := RF.pv2; omega)).2.2.2.2.1
                      have q5 := fun dr os => ((S5.out.regrown dr os).cells R.pivot (by have h3 := RF.s3; have h4 := RF.pv2; omega)).2.2.2.2.2
                      go_wp2_with fail
                      refine wp_region_quiet_below mixed (by kernel_rfl) ?_
                      repeat (quiet_step ((go_at_call 89; refine Calls.regrown_of (cmpO_calls rv _ _ _))))
                      refine wpQuiet_nil ?_
                      intro _ hw'
                      obtain ⟨⟨dq, osq⟩, hw''⟩ := hw'
                      subst hw''
                      clear p0 p1 p2 p3 p4 p5 q0 q1 q2 q3 q4 q5
                      have S6 := Lib.hid (S5.out.regrown dq osq)
                      generalize Sort.grow (redrawn wc dq) osq = w6 at S6 ⊢
                      clear S5
                      have hz : ltO R.pi.1[ap]! R.pi.1[R.pivot]! = decide (cmpO R.pi.1[ap]! R.pi.1[R.pivot]! < 0) := rfl
                      generalize cmpO R.pi.1[ap]! R.pi.1[R.pivot]! = z at *
                      have hd : ¬ z < 0 := of_decide_eq_false (hz.symm.trans hlv)
                      have hd2 : decide (z < 0) = false := decide_eq_false hd
                      clear hz
                      rw [hd2]
                      try rw [show (!false) = true from rfl]
                      clear hd hd2
                      simp only [← zap]
                      have hlf : Hid (ltO R.pi.1[a' - 1]! R.pi.1[R.pivot]! = false) := by show _ = _; rw [show a' - 1 = ap by omega, hlv]
                      have h87 : Hid ((decide (a' > 0) && !ltO R.pi.1[a' - 1]! R.pi.1[R.pivot]!) = true) := by show _ = _; rw [hlf.out]; simp [ha0]
                      clear zap hap hlv nap npv w7 w8
                      obtain ⟨mid, d4, hx⟩ : ∃ mid d4, Sort.partitionEqual ltO R.pi.1 a' b' R.pivot = (mid, d4) := ⟨_, _, rfl⟩
                      obtain ⟨r1, r2, r3, r4, _⟩ := Sort.round_eq swoO (Sort.partitionEqual_holds ltO) ha0 (Nat.le_of_lt RF.pv1) RF.pv2 (show b' ≤ R.pi.1.size by have := RF.s3; omega) RF.B3 hlf.out hx
                      have hc21 := partEq_calls rv g cap a' b' R.pivot R.pi.1 w0 w6 S6.out RF.pv1 RF.pv2 (by have := RF.s3; omega) (by have := RF.s3; omega)
                      rw [hx, show R.pi.1.size = d.size from RF.s3.trans hds] at hc21
                      have X := Lib.hid hx
                      clear hx S6
                      go_wp2_with ((with_reducible refine Calls.mono hc21 ?_); rintro e w7 ⟨rfl, S7⟩)
                      clear hc21
                      go_roundg (b' - mid)
                      case measure => omega
                      case rel =>
                        have hx := X.out
                        have hll := RF.ll
                        exact ⟨mid, b', R.lim, wb, wp, d4, rfl, rfl, rfl, rfl, rfl, r2, hb', Nat.le_refl _, by omega, by omega, by rw [r3, RF.s3, hds], r4, Lib.hid S7, Lib.hid (by rw [← A.out, RF.eq hp2.out h87.out (by rw [hx]; exact ⟨r1, r2⟩), hx])⟩
end Go.Proofs.Ytgffddbhnggllaa.Ed
namespace Go.Proofs.Ytgffddbhnggllaa.Ed
open Go.RowKit Go.Shelf Go.Proofs.YtgffddbhnggllaaW.PrintWords QF
def insO (x : S41) : List S41 → List S41
  | [] => [x]
  | y :: l => if ltO x y = true then x :: y :: l else y :: insO x l
def sortO : List S41 → List S41
  | [] => []
  | x :: l => insO x (sortO l)
theorem insO_perm (x : S41) (l : List S41) : (insO x l).Perm (x :: l) := by
  induction l with
  | nil => exact List.Perm.refl _
  | cons y l ih =>
    simp only [insO]
    split
    · exact List.Perm.refl _
    · exact (List.Perm.cons y ih).trans (List.Perm.swap x y l)
theorem sortO_perm (l : List S41) : (sortO l).Perm l := by
  induction l with
  | nil => exact List.Perm.refl _
  | cons x l ih => exact (insO_perm x _).trans (List.Perm.cons x ih)
theorem sortO_len (l : List S41) : (sortO l).length = l.length := (sortO_perm l).length_eq
def SrtO (l : List S41) : Prop := l.Pairwise (fun x y => ltO y x = false)
theorem insO_sorted (x : S41) (l : List S41) (h : SrtO l) : SrtO (insO x l) := by
  unfold SrtO at *
  induction l with
  | nil => simp [insO]
  | cons y l ih =>
    rw [List.pairwise_cons] at h
    simp only [insO]
    split
    · rename_i hxy
      rw [List.pairwise_cons]
      refine ⟨fun z hz => ?_, by rw [List.pairwise_cons]; exact h⟩
      rcases List.mem_cons.1 hz with rfl | hz
      · exact swoO.asymmA hxy
      · have h1 := h.1 z hz
        cases hzx : ltO z x with
        | false => rfl
        | true =>
          have := swoO.trans z x y hzx hxy
          rw [h1] at this; cases this
    · rename_i hxy
      have hxy' : ltO x y = false := by simpa using hxy
      rw [List.pairwise_cons]
      refine ⟨fun z hz => ?_, ih h.2⟩
      rcases List.mem_cons.1 ((insO_perm x l).mem_iff.1 hz) with rfl | hz
      · exact hxy'
      · exact h.1 z hz
theorem sortO_sorted (l : List S41) : SrtO (sortO l) := by
  induction l with
  | nil => exact List.Pairwise.nil
  | cons x l ih => exact insO_sorted x _ ih
theorem ltO_anti {l : List S41} (hn : (l.map (·.f0)).Nodup) {x y : S41} (hx : x ∈ l) (hy : y ∈ l) (h1 : ltO x y = false) (h2 : ltO y x = false) : x = y := by
  rw [ltO_not] at h1 h2
  unfold befO at h1 h2
  have e : x.f0 = y.f0 := by omega
  obtain ⟨i, hi, rfl⟩ := List.mem_iff_getElem.1 hx
  obtain ⟨j, hj, rfl⟩ := List.mem_iff_getElem.1 hy
  have : i = j := by
    rcases Nat.lt_trichotomy i j with h | h | h
    · have := (List.pairwise_iff_getElem.1 hn) i j (by simpa using hi) (by simpa using hj) h
      simp at this; exact absurd e this
    · exact h
    · have := (List.pairwise_iff_getElem.1 hn) j i (by simpa using hj) (by simpa using hi) h
      simp at this; exact absurd e.symm this
  subst this; rfl
theorem sorted_one {l m k : List S41} (hn : (l.map (·.f0)).Nodup) (hm : m.Perm l) (hk : k.Perm l) (sm : SrtO m) (sk : SrtO k) : m = k :=
  List.Perm.eq_of_pairwise (le := fun x y => ltO y x = false) (fun a b ha hb h1 h2 => ltO_anti hn (hm.mem_iff.1 ha) (hk.mem_iff.1 hb) h2 h1) sm sk (hm.trans hk.symm)
theorem pdq_one (l : List S41) (lim : Nat) (hn : (l.map (·.f0)).Nodup) : (Sort.pdq ltO l.toArray 0 l.toArray.size lim true true).toList = sortO l := by
  obtain ⟨⟨hsz, _, hperm⟩, hS⟩ := Sort.pdq_sorts ltO swoO l.toArray 0 l.toArray.size lim true true (Nat.zero_le _) (Nat.le_refl _) (Or.inl rfl)
  generalize Sort.pdq ltO l.toArray 0 l.toArray.size lim true true = d' at *
  have e1 : d'.extract 0 l.toArray.size = d' := by rw [← hsz]; exact Array.extract_size
  rw [e1, Array.extract_size] at hperm
  refine sorted_one hn hperm (sortO_perm l) ?_ (sortO_sorted l)
  unfold SrtO
  rw [List.pairwise_iff_getElem]
  intro i j hi hj hij
  have hi' : i < d'.size := by simpa using hi
  have hj' : j < d'.size := by simpa using hj
  have := hS i j (Nat.zero_le _) hij (by omega)
  rw [getElem!_pos d' j hj', getElem!_pos d' i hi'] at this
  simpa using this
theorem grown_base {w W : World} {g base : Nat} (h : w.grownBy W (some g)) (hg : base ≤ g) (hb : base ≤ w.heap.size) : Below base w W :=
  (Below.refl base w).grown h hb (fun k e => by cases e; exact hg)
set_option maxRecDepth 1000000 in
set_option maxHeartbeats 4000000 in
theorem insertion_nil (c : Nat) (fv : Value) (w : World) : Calls Try.prog 109 #[.slice none 0 c, .int .i64 0, .int .i64 0, fv] w fun e w' => e = .returned (.tuple #[]) ∧ w = w' := by
  go_enter Try.func109, Try.ntmps109
  go_wp2
  refine wp_loop_rounds 1 ?_
  rw [rounds_succ]
  go_wp2
  go_end0
  exact ⟨rfl, rfl⟩
set_option maxRecDepth 1000000 in
set_option maxHeartbeats 4000000 in
theorem pdq_nil (c : Nat) (fv : Value) (lim : Int) (w : World) : Calls Try.prog 101 #[.slice none 0 c, .int .i64 0, .int .i64 0, .int .i64 lim, fv] w fun e w' => e = .returned (.tuple #[]) ∧ w = w' := by
  go_enter Try.func101, Try.ntmps101
  go_wp2
  refine wp_loop_rounds 1 ?_
  rw [rounds_succ]
  go_wp2_with ((with_reducible refine (insertion_nil _ _ _).mono ?_); rintro e w1 ⟨rfl, rfl⟩)
  first | (go_end0; exact ⟨rfl, rfl⟩) | ((try simp only [Exit.inBlock, Exit.then]); refine bodyPost_ret (results_none rfl _ _ _) rfl ?_; exact ⟨rfl, rfl⟩)
set_option maxRecDepth 1000000 in
set_option maxHeartbeats 4000000 in
theorem sort88_calls (rv v : Value) (base : Nat) (L : List S41) (w : World) (hv : RV w base v L) (hb : base ≤ w.heap.size) (hn : L.length ≤ 100000) (hnd : (L.map (·.f0)).Nodup) :
    Calls Try.prog 88 #[v, .func (.func 89) #[rv] #[]] w fun e w' => e = .returned (.tuple #[]) ∧ RV w' base v (sortO L) ∧ Below base w w' := by
  have wr : IntKind.u64.wrap (L.length : Int) = L.length := by simp [IntKind.wrap, IntKind.bits, IntKind.signed]; omega
  have hl : Calls Try.prog 102 #[.int .u64 (L.length : Int)] w fun e w' => e = .returned (.int .i64 (Lib.bitLen L.length : Nat)) ∧ w' = w := by
    have h := Try.bits_Len (L.length : Int) w (by omega) (by omega)
    rwa [Int.toNat_natCast] at h
  rcases hv with ⟨rfl, rfl⟩ | ⟨g, cap, rfl, hg, hR⟩
  · have hl0 : Calls Try.prog 102 #[.int .u64 0] w fun e w' => e = .returned (.int .i64 (Lib.bitLen 0 : Nat)) ∧ w' = w := hl
    have hp := fun lim w => pdq_nil 0 (.func (.func 89) #[rv] #[]) lim w
    clear hl wr
    go_enter Try.func88, Try.ntmps88
    go_wp2_with (first | (go_at_call 102; (with_reducible refine hl0.mono ?_); rintro e w' ⟨rfl, rfl⟩) | (go_at_call 101; (with_reducible refine (hp _ _).mono ?_); rintro e w' ⟨rfl, rfl⟩))
    go_end0
    exact ⟨rfl, .inl ⟨rfl, rfl⟩, Below.refl _ _⟩
  · have hlim : Lib.bitLen L.length ≤ 1000 := Nat.le_trans (Lib.bitLen_le L.length 64 (by omega) (by omega)) (by omega)
    have hp := pdq_calls rv g cap w (L.toArray.size + 1) 0 L.toArray.size (Lib.bitLen L.length) L.toArray w (by omega) (SB.start (by simpa using hR)) (Nat.zero_le _) (Nat.le_refl _) (by simpa using hn) hlim (Or.inl rfl)
    have e1 := pdq_one L (Lib.bitLen L.length) hnd
    generalize Sort.pdq ltO L.toArray 0 L.toArray.size (Lib.bitLen L.length) true true = d' at hp e1
    rw [List.size_toArray, Int.natCast_zero] at hp
    have hsl : (sortO L).length = L.length := sortO_len L
    have E1 := Lib.hid e1
    have HSL := Lib.hid hsl
    clear hR e1 hsl
    go_enter Try.func88, Try.ntmps88
    go_wp2_with (first | (go_at_call 102; (with_reducible refine hl.mono ?_); rintro e w' ⟨rfl, rfl⟩) | (go_at_call 101; (with_reducible refine hp.mono ?_); rintro e w' ⟨rfl, hS⟩))
    go_end0
    refine ⟨rfl, .inr ⟨g, cap, by rw [HSL.out], hg, ?_⟩, grown_base hS.gr hg hb⟩
    rw [← E1.out]; exact hS.row
end Go.Proofs.Ytgffddbhnggllaa.Ed
namespace Go.Proofs.Ytgffddbhnggllaa.Ed
open Go.RowKit Go.Proofs.YtgffddbhnggllaaW.PrintWords QF
set_option maxRecDepth 1000000 in
set_option maxHeartbeats 4000000 in
theorem right_calls (A0 : Option Addr) (c0 : Nat) (l0 : List S41) (w : World) (hr0 : Kd.C k41 w A0 l0.length l0) (hc0 : l0.length ≤ c0) :
    Calls Try.prog 29 #[.slice A0 l0.length c0] w fun e w' => e = .returned (.bool (rightL l0)) ∧ Below w.heap.size w w' := by
  have hmm := @run_makeMap Try.prog
  by_cases hl : 500 < l0.length
  · have b1 : decide (500 < l0.length) = true := decide_eq_true hl
    have b2 : decide (500 < (l0.length : Int)) = true := decide_eq_true (by omega)
    have b3 : rightL l0 = false := by unfold rightL; rw [decide_eq_false (by omega)]; rfl
    clear hl
    go_enter Try.func29, Try.ntmps29
    go_wp2
    go_ret
    exact ⟨by rw [b3]; rfl, Below.refl _ _⟩
  have b1 : decide (500 < l0.length) = false := decide_eq_false hl
  have b2 : decide (500 < (l0.length : Int)) = false := decide_eq_false (by omega)
  go_enter Try.func29, Try.ntmps29
  go_wp2
  obtain ⟨mb, hmb⟩ : ∃ mb, w.heap.size = mb := ⟨_, rfl⟩
  have hM0 : MI (w.alloc (.map #[] 0)) mb [] := ⟨#[], 0, by rw [← hmb]; exact blk_new _ _, rfl⟩
  have hB0 := (Below.refl w.heap.size w).alloc (Nat.le_refl _) (.map #[] 0)
  have hmbw : w.heap.size ≤ mb := by omega
  rw [hmb]
  go_loopw [12] (fun x W => ∃ (k : Nat) (m : List (Int × Int)), x = .int .i64 (k : Int) ∧ k ≤ l0.length ∧ MI W mb m ∧ Below w.heap.size w W ∧ (l0.take k).all rightO = true ∧ ((l0.take k).map (·.f0)).Nodup ∧ (∀ key, getM m key = if key ∈ (l0.take k).map (·.f0) then 1 else 0)) (fun x W => l0.length - (intOf x).toNat)
  case atStart => exact ⟨0, [], rfl, Nat.zero_le _, hM0, hB0, rfl, by simp, fun key => by simp [getM]⟩
  case round =>
    obtain ⟨k, m, rfl, hk, hM, hB, hA, hN, hG⟩ := hrel
    have HA := Lib.hid hA
    have HN := Lib.hid hN
    have HG := Lib.hid hG
    have HM := Lib.hid hM
    have HB := Lib.hid hB
    clear hA hN hG hM0 hB0 hM hB
    by_cases hkl : k < l0.length
    · obtain ⟨ad, e0, hx0, hx1, hx2, hx3, hx4, hx5⟩ := at_T41 (Kd.C_below hr0 HB.out) (k : Int) (by omega) (by omega)
      subst e0
      simp only [Int.toNat_natCast] at hx0 hx1 hx2 hx3 hx4 hx5
      have kk : (k : Int) < (l0.length : Int) := by omega
      obtain ⟨o, ho⟩ : ∃ o, rd_T41 l0 (k : Int) = o := ⟨_, rfl⟩
      rw [ho] at hx0 hx1 hx2 hx3 hx4 hx5
      have HO := Lib.hid ho
      clear ho
      have hB := HB.out
      go_upto_region 7 with ((with_reducible refine gate_dst (N := 5) rfl ?_); refine box_event ?hg (N := 5) ?hd (cs := #[.int .i64 0, .int .i64 0, .int .i64 0, .int .i64 0, .int .i64 0, .int .u8 0]) (t := 41) ?hr ?_; (case hd => rfl); (case hg => rfl); (case hr => first | (go_simp; done) | (go_simp; rfl)); intro gb hg w1 hbox hb; have hB1 := below_step hB hb; have HM1 := Lib.hid hb; have hge := hB.size; rw [← hg] at hge; have HL := Lib.hid (show wr.heap.size ≤ gb by omega); clear hg hb hB hx0 hx1 hx2 hx3 hx4 hx5; have y0 : w1.cell? ⟨gb, 0, none⟩ = some (.int .i64 0) := (blk_cell hbox 0).trans rfl; have y1 : w1.cell? ⟨gb, 1, none⟩ = some (.int .i64 0) := (blk_cell hbox 1).trans rfl; have y2 : w1.cell? ⟨gb, 2, none⟩ = some (.int .i64 0) := (blk_cell hbox 2).trans rfl; have y3 : w1.cell? ⟨gb, 3, none⟩ = some (.int .i64 0) := (blk_cell hbox 3).trans rfl; have y4 : w1.cell? ⟨gb, 4, none⟩ = some (.int .i64 0) := (blk_cell hbox 4).trans rfl; have y5 : w1.cell? ⟨gb, 5, none⟩ = some (.int .u8 0) := (blk_cell hbox 5).trans rfl; have f0 := blk_frozen hbox 0; have f1 := blk_frozen hbox 1; have f2 := blk_frozen hbox 2; have f3 := blk_frozen hbox 3; have f4 := blk_frozen hbox 4; have f5 := blk_frozen hbox 5)
      have hb6 := put6_box hbox o
      have hB6 := put6_below hB1 hge o
      have hM6 := MI.put6 (HM.out.below HM1.out) (g := gb) (by have := HM.out.lt; have := HL.out; omega) o
      show Code.wp _ _ _ _ (put6 w1 gb o)
      generalize put6 w1 gb o = W6 at hb6 hB6 hM6 ⊢
      clear y0 y1 y2 y3 y4 y5 f0 f1 f2 f3 f4 f5 hbox HM1 hB1
      have hgo := HO.out
      have htk : l0.take (k + 1) = l0.take k ++ [o] := by
        rw [List.take_add_one, List.getElem?_eq_getElem hkl, Option.toList_some]
        have : l0[k] = o := by rw [← HO.out]; unfold rd_T41; rw [Int.toNat_natCast, List.getD_eq_getElem?_getD, List.getElem?_eq_getElem hkl]; rfl
        rw [this]
      have hmem : o ∈ l0 := by
        have : o ∈ l0.take (k + 1) := by rw [htk]; simp
        exact List.mem_of_mem_take this
      have hlen : l0.length ≤ 500 := by omega
      have HT := Lib.hid htk
      have HE := Lib.hid hmem
      have HX := Lib.hid hlen
      have HNE := Lib.hid (show ∀ c : Nat, some gb = some mb → False by intro c e; cases e; have := HM.out.lt; have := HL.out; omega)
      have hkb : k ≤ 500 := by omega
      have hwk : wrap64 ((k : Int) + 1) = ((k + 1 : Nat) : Int) := by rw [IntWalk.wrap64_in _ (by omega)]; omega
      have HW := Lib.hid hwk
      clear htk hmem hlen hl hgo b1 b2 hwk
      by_cases hin : o.f0 ∈ (l0.take k).map (·.f0)
      · have g0 : getM m o.f0 = 1 := by rw [HG.out, if_pos hin]
        have look := hM6.look o.f0
        rw [g0] at look
        obtain ⟨W7, hrun, hM7, hg7⟩ := hM6.upd o.f0 2
        have hb7 := blk_grown hb6 hg7 (fun e => HNE.out 0 e)
        obtain ⟨x0, x1, x2, x3, x4, x5⟩ := six_cell hb6
        obtain ⟨z0, z1, z2, z3, z4, z5⟩ := six_cell hb7
        have HB7 := Lib.hid (hB6.grown hg7 hB6.size (fun j e => by cases e; exact hmbw))
        have HM7 := Lib.hid hM7
        have HK7 := Lib.hid hb7
        have HF : Hid (rightL l0 = false) := by
          have hn : ¬ (l0.map (·.f0)).Nodup := by
            intro h
            have h2 : ((l0.take (k + 1)).map (·.f0)).Nodup := h.sublist ((List.take_sublist _ _).map _)
            rw [HT.out, List.map_append, List.nodup_append] at h2
            exact h2.2.2 _ hin _ (List.mem_singleton.2 rfl) rfl
          show rightL l0 = false
          unfold rightL; rw [decide_eq_false hn]; simp
        clear hM6 hB6 hb6 hM7 hg7 hb7 g0
        cases hr : rightO o with
        | false =>
          have hc := fun w => right1_calls o w
          rw [hr] at hc
          go_wp2_with (go_at_call 65; (with_reducible refine (hc _).mono ?_); rintro e W8 ⟨rfl, hb8⟩)
          go_ret
          exact ⟨by rw [HF.out]; rfl, below_step HB7.out hb8⟩
        | true =>
          have hc := fun w => right1_calls o w
          rw [hr] at hc
          go_wp2_with (go_at_call 65; (with_reducible refine (hc _).mono ?_); rintro e W8 ⟨rfl, hb8⟩; have look8 := (HM7.out.below hb8).look o.f0; rw [getM_put, if_pos rfl] at look8; have HB8 := Lib.hid (below_step HB7.out hb8); have t0 := (six_cell (blk_below HK7.out hb8)).1; clear hb8)
          go_ret
          exact ⟨by rw [HF.out]; rfl, HB8.out⟩
      · have g0 : getM m o.f0 = 0 := by rw [HG.out, if_neg hin]
        have look := hM6.look o.f0
        rw [g0] at look
        obtain ⟨W7, hrun, hM7, hg7⟩ := hM6.upd o.f0 1
        have hb7 := blk_grown hb6 hg7 (fun e => HNE.out 0 e)
        obtain ⟨x0, x1, x2, x3, x4, x5⟩ := six_cell hb6
        obtain ⟨z0, z1, z2, z3, z4, z5⟩ := six_cell hb7
        have HB7 := Lib.hid (hB6.grown hg7 hB6.size (fun j e => by cases e; exact hmbw))
        have HM7 := Lib.hid hM7
        have HK7 := Lib.hid hb7
        clear hM6 hB6 hb6 hM7 hg7 hb7 g0
        cases hr : rightO o with
        | false =>
          have HF : Hid (rightL l0 = false) := by
            have hn : l0.all rightO = false := List.all_eq_false.2 ⟨o, HE.out, by rw [hr]; simp⟩
            show rightL l0 = false
            unfold rightL; rw [hn]; simp
          have hc := fun w => right1_calls o w
          rw [hr] at hc
          go_wp2_with (go_at_call 65; (with_reducible refine (hc _).mono ?_); rintro e W8 ⟨rfl, hb8⟩)
          go_ret
          exact ⟨by rw [HF.out]; rfl, below_step HB7.out hb8⟩
        | true =>
          have hc := fun w => right1_calls o w
          rw [hr] at hc
          go_wp2_with (go_at_call 65; (with_reducible refine (hc _).mono ?_); rintro e W8 ⟨rfl, hb8⟩; have look8 := (HM7.out.below hb8).look o.f0; rw [getM_put, if_pos rfl] at look8; have HB8 := Lib.hid (below_step HB7.out hb8); have HM8 := Lib.hid (HM7.out.below hb8); have t0 := (six_cell (blk_below HK7.out hb8)).1; clear hb8)
          go_roundw
          case rel =>
            refine ⟨k + 1, putM m o.f0 1, rfl, hkl, HM8.out, HB8.out, ?_, ?_, ?_⟩
            · rw [HT.out, List.all_append, HA.out]; simp [hr]
            · rw [HT.out, List.map_append, List.nodup_append]
              exact ⟨HN.out, by simp, fun a ha b hb => by rw [List.map_singleton, List.mem_singleton] at hb; rw [hb]; intro e; exact hin (e ▸ ha)⟩
            · intro key
              rw [getM_put, HG.out, HT.out, List.map_append]
              by_cases e : key = o.f0
              · rw [if_pos e, if_pos (by rw [e]; simp)]
              · rw [if_neg e]
                by_cases h2 : key ∈ (l0.take k).map (·.f0)
                · rw [if_pos h2, if_pos (List.mem_append_left _ h2)]
                · rw [if_neg h2, if_neg (by rw [List.mem_append, not_or]; exact ⟨h2, by simpa using e⟩)]
          case measure => simp only [intOf]; omega
    · obtain rfl : k = l0.length := by omega
      have HF : Hid (rightL l0 = true) := by
        have h1 := HA.out
        have h2 := HN.out
        rw [List.take_length] at h1 h2
        show rightL l0 = true
        unfold rightL; rw [h1, decide_eq_true h2, decide_eq_true (by omega)]; rfl
      have hB := HB.out
      go_wp2
      go_ret
      exact ⟨by rw [HF.out]; rfl, hB⟩
end Go.Proofs.Ytgffddbhnggllaa.Ed
namespace Go.Proofs.Ytgffddbhnggllaa.Ed
open Go Go.Proofs Go.RowKit Go.MapKept Go.ChangeMaps Go.Maps
open Go.WideElems (Fit rd rg pl rd_mk rg_of)
def R0 : Value → Option (DataW Unit × List MemPlace) := fun _ => some (.lit (.bool true), [])
def MP {β : Type} (P : Program) (kt : TypeId) (q : IntKind) (enc : β → Value) (W : World) (mb n : Nat) (M : Int → Option β) : Prop :=
  ∃ es clk, W.heap[mb]? = some (.map es clk) ∧ Fit P kt R0 es clk ∧ es.size ≤ n ∧ (∀ x ∈ es.toList, ∃ k b, x.key = .int q k ∧ M k = some b ∧ x.val = enc b) ∧ (∀ k b, M k = some b → ∃ x ∈ es.toList, x.key = .int q k)
def putF {β : Type} (M : Int → Option β) (k : Int) (b : β) : Int → Option β := fun x => if x = k then some b else M x
theorem mem_ins {H : Type} {x p : Lit × DataW H} {l : List (Lit × DataW H)} : p ∈ DataW.insert x l ↔ p = x ∨ p ∈ l := by
  induction l with
  | nil => simp [DataW.insert]
  | cons y l ih =>
    unfold DataW.insert
    split
    · simp
    · rw [List.mem_cons, ih, List.mem_cons]
      constructor
      · rintro (h | h | h)
        · exact .inr (.inl h)
        · exact .inl h
        · exact .inr (.inr h)
      · rintro (h | h | h)
        · exact .inr (.inl h)
        · exact .inl h
        · exact .inr (.inr h)
theorem keyOf_int_mk_any {P : Program} {k : TypeId} {q : IntKind} (hk : P.underlying k = some (.int q)) {a : Int} : keyOf P k (.int q a) = if (Lit.int q a).wf = true then some (.int q a) else none := by
  by_cases hw : (Lit.int q a).wf = true
  · rw [if_pos hw]; exact keyOf_int_mk hk hw
  · rw [if_neg hw]; simp [keyOf, hk, mapKey, hw]
section
variable {β : Type} {P : Program} {kt : TypeId} {q : IntKind} {enc : β → Value} {W : World} {mb n : Nat} {M : Int → Option β}
theorem MP.lt (h : MP P kt q enc W mb n M) : mb < W.heap.size := by
  obtain ⟨es, clk, hb, _⟩ := h
  exact (Array.getElem?_eq_some_iff.1 hb).1
theorem MP.same {W' : World} (h : MP P kt q enc W mb n M) (e : W'.heap[mb]? = W.heap[mb]?) : MP P kt q enc W' mb n M := by
  obtain ⟨es, clk, hb, h⟩ := h
  exact ⟨es, clk, e.trans hb, h⟩
theorem MP.below {W' : World} (h : MP P kt q enc W mb n M) (hb : Below W.heap.size W W') : MP P kt q enc W' mb n M := h.same (hb.block mb h.lt)
theorem MP.made (W : World) : MP (β := β) P kt q enc (W.alloc (.map #[] 0)) W.heap.size 0 (fun _ => none) :=
  ⟨#[], 0, (MapKept.heap_alloc W _).1, ⟨by simp, stamped_empty 0, by simp⟩, Nat.le_refl _, by simp, by simp⟩
theorem MP.lookup {t e : TypeId} (h : MP P kt q enc W mb n M) (hk : P.underlying kt = some (.int q)) (ht : P.underlying t = some (.map kt e)) {z : Value} (hz : (zeroValue e).run P W = .ok z W) (k : Int) (hw : (Lit.int q k).wf = true) (c : Bool) :
    (Instr.lookup t (.map (some mb)) (.int q k) c).run P W = .ok (match M k with | none => if c then .tuple #[z, .bool false] else z | some b => if c then .tuple #[enc b, .bool true] else enc b) W := by
  obtain ⟨es, clk, hb, F, _, h1, h2⟩ := h
  rcases Maps.fit_look c (int_keyed hk) ht hz hb F (keyOf_int_mk hk hw) with ⟨hrun, hne, _⟩ | ⟨e0, y, he, hkey, hrun, _⟩
  · have : M k = none := by
      cases hm : M k with
      | none => rfl
      | some b =>
        obtain ⟨x, hx, hxk⟩ := h2 k b hm
        exact absurd hxk (hne x hx)
    rw [this]; exact hrun
  · obtain ⟨k', b, e1, e2, e3⟩ := h1 e0 he
    have : k = k' := by rw [hkey] at e1; injection e1
    subst this
    rw [e2]; rw [e3] at hrun; exact hrun
theorem MP.upd {t e : TypeId} (h : MP P kt q enc W mb n M) (hk : P.underlying kt = some (.int q)) (ht : P.underlying t = some (.map kt e)) (hn : n < maxLen) (k : Int) (hw : (Lit.int q k).wf = true) (b : β) :
    ∃ W', (Instr.mapUpdate t (.map (some mb)) (.int q k) (enc b)).run P W = .ok () W' ∧ MP P kt q enc W' mb (n + 1) (putF M k b) ∧ W.grownBy W' (some mb) := by
  obtain ⟨es, clk, hb, F, hs, h1, h2⟩ := h
  have hown : W.ownsMap P kt R0 mb n (.map ((es.toList.map (rg P kt R0)).foldr DataW.insert [])) := ⟨es, clk, hb, F, hs, rfl⟩
  obtain ⟨w2, hrun2, ⟨es2, clk2, hb2, F2, hs2, _⟩, hg2⟩ := hown.update (int_keyed hk) ht hn (keyOf_int_mk hk hw) (val := enc b) (d := .lit (.bool true)) (ps := []) rfl
  obtain ⟨es', clk', hrun, F', hput, _, _, who⟩ := Maps.fit_store (R' := R0) (int_keyed hk) ht hb F (Nat.lt_of_le_of_lt hs hn) (fun _ _ _ _ hz => hz) (keyOf_int_mk hk hw) (val := enc b) (yv := (.lit (.bool true), [])) rfl
  have hW : w2 = setBlock W mb (.map es' clk') := by
    rw [hrun2] at hrun
    injection hrun
  subst hW
  have hbb : (setBlock W mb (.map es' clk')).heap[mb]? = some (.map es' clk') := heap_setBlock_same hb _
  have he : es2 = es' ∧ clk2 = clk' := by
    rw [hbb] at hb2
    injection hb2 with e
    injection e with e1 e2
    exact ⟨e1.symm, e2.symm⟩
  obtain ⟨rfl, rfl⟩ := he
  have hold : ∀ x ∈ es2.toList, ∃ k' b', x.key = .int q k' ∧ putF M k b k' = some b' ∧ x.val = enc b' := by
    intro x hx
    rcases who x hx with ⟨hx', hne⟩ | ⟨hxk, hxv⟩
    · obtain ⟨k', b', e1, e2, e3⟩ := h1 x hx'
      refine ⟨k', b', e1, ?_, e3⟩
      have : k' ≠ k := fun e => hne (by rw [e1, e])
      unfold putF; rw [if_neg this]; exact e2
    · exact ⟨k, b, hxk, by unfold putF; rw [if_pos rfl], hxv⟩
  refine ⟨_, hrun2, ⟨es2, clk2, hbb, F2, hs2, hold, ?_⟩, hg2⟩
  ·
    intro k' b' hm
    have hp1 := WideShapes.sorted_perm (es2.toList.map (rg P kt R0))
    have hp0 := WideShapes.sorted_perm (es.toList.map (rg P kt R0))
    have key : ∃ p ∈ es2.toList.map (rg P kt R0), p.1 = .int q k' := by
      by_cases e : k' = k
      · subst e
        refine ⟨(.int q k', .lit (.bool true)), hp1.mem_iff.1 ?_, rfl⟩
        rw [hput]
        exact mem_ins.2 (.inl rfl)
      · have hm' : M k' = some b' := by unfold putF at hm; rw [if_neg e] at hm; exact hm
        obtain ⟨x, hx, hxk⟩ := h2 k' b' hm'
        obtain ⟨y, hy⟩ := F.reads x hx
        have hk1 := WideElems.rd_key hy
        rw [hxk, keyOf_int_mk_any hk] at hk1
        split at hk1
        · have hy1 : y.1 = .int q k' := (Option.some.inj hk1).symm
          refine ⟨y, hp1.mem_iff.1 ?_, hy1⟩
          rw [hput]
          refine mem_ins.2 (.inr (List.mem_filter.2 ⟨hp0.mem_iff.2 (List.mem_map.2 ⟨x, hx, rg_of hy⟩), ?_⟩))
          unfold notKey
          rw [hy1]
          simp [Lit.sameKey, e]
        · cases hk1
    obtain ⟨p, hp, hpk⟩ := key
    obtain ⟨x, hx, rfl⟩ := List.mem_map.1 hp
    obtain ⟨y, hy⟩ := F2.reads x hx
    rw [rg_of hy] at hpk
    have hk1 := WideElems.rd_key hy
    rw [hpk] at hk1
    obtain ⟨k2, b2, e1, _, _⟩ := hold x hx
    rw [e1, keyOf_int_mk_any hk] at hk1
    split at hk1
    · have := Option.some.inj hk1
      injection this with _ e2
      exact ⟨x, hx, by rw [e1, e2]⟩
    · cases hk1
end
end Go.Proofs.Ytgffddbhnggllaa.Ed
namespace Go.Proofs
open Go.Shelf
def Try.keysI_ren : Go.Shelf.Ren := ⟨fun | 7 => 90 | 10 => 106 | n => n, fun | 23 => 82 | 26 => 3 | 3 => 3 | 28 => 109 | 0 => 0 | 27 => 108 | 33 => 116 | 4 => 4 | n => n, fun | n => n⟩
theorem Try.keysI : Go.Proofs.SlLaysZI.n7 Try.prog Try.keysI_ren := {
  mixed := by kernel_rfl
  f7 := ⟨Try.f90.name, by decide, Try.func90.trans (congrArg some (by kernel_rfl))⟩
  f10 := ⟨Try.f106.name, by decide, Try.func106.trans (congrArg some (by kernel_rfl))⟩
  t0 := Try.underlying0
  a0 := Try.isAgg0
  z0 := Try.sizeOf0
  v0 := Try.zeroValue0
  t4 := Try.underlying4
  a4 := Try.isAgg4
  z4 := Try.sizeOf4
  v4 := Try.zeroValue4
  t23 := Try.underlying82
  a23 := Try.isAgg82
  z23 := Try.sizeOf82
  v23 := Try.zeroValue82
  t26 := Try.underlying3
  a26 := Try.isAgg3
  z26 := Try.sizeOf3
  v26 := Try.zeroValue3
  t27 := Try.underlying108
  a27 := Try.isAgg108
  z27 := Try.sizeOf108
  v27 := Try.zeroValue108
  t28 := Try.underlying109
  a28 := Try.isAgg109
  z28 := Try.sizeOf109
  v28 := Try.zeroValue109
  t33 := Try.underlying116
  a33 := Try.isAgg116
  z33 := Try.sizeOf116
  v33 := Try.zeroValue116 }
def Try.keysO_ren : Go.Shelf.Ren := ⟨fun | 7 => 70 | 10 => 94 | n => n, fun | 23 => 92 | 26 => 3 | 3 => 41 | 28 => 109 | 0 => 0 | 27 => 108 | 33 => 116 | 4 => 4 | n => n, fun | n => n⟩
theorem Try.keysO : Go.Proofs.SlLaysZI.n7 Try.prog Try.keysO_ren := {
  mixed := by kernel_rfl
  f7 := ⟨Try.f70.name, by decide, Try.func70.trans (congrArg some (by kernel_rfl))⟩
  f10 := ⟨Try.f94.name, by decide, Try.func94.trans (congrArg some (by kernel_rfl))⟩
  t0 := Try.underlying0
  a0 := Try.isAgg0
  z0 := Try.sizeOf0
  v0 := Try.zeroValue0
  t4 := Try.underlying4
  a4 := Try.isAgg4
  z4 := Try.sizeOf4
  v4 := Try.zeroValue4
  t23 := Try.underlying92
  a23 := Try.isAgg92
  z23 := Try.sizeOf92
  v23 := Try.zeroValue92
  t26 := Try.underlying3
  a26 := Try.isAgg3
  z26 := Try.sizeOf3
  v26 := Try.zeroValue3
  t27 := Try.underlying108
  a27 := Try.isAgg108
  z27 := Try.sizeOf108
  v27 := Try.zeroValue108
  t28 := Try.underlying109
  a28 := Try.isAgg109
  z28 := Try.sizeOf109
  v28 := Try.zeroValue109
  t33 := Try.underlying116
  a33 := Try.isAgg116
  z33 := Try.sizeOf116
  v33 := Try.zeroValue116 }
def Try.sortedI_ren : Go.Shelf.Ren := ⟨fun | 6 => 69 | 8 => 92 | 9 => 93 | 11 => 107 | 13 => 102 | 12 => 108 | 23 => 117 | 24 => 118 | 14 => 120 | 15 => 121 | 16 => 122 | 17 => 123 | 18 => 124 | 19 => 125 | 20 => 126 | 21 => 127 | 22 => 128 | 25 => 134 | 26 => 130 | 27 => 131 | 28 => 135 | 29 => 136 | 30 => 119 | 31 => 138 | n => n, fun | 26 => 3 | 28 => 109 | 24 => 26 | 0 => 0 | 3 => 3 | 37 => 135 | 48 => 148 | 50 => 150 | 4 => 4 | 40 => 142 | 39 => 141 | 45 => 56 | 5 => 5 | 9 => 9 | 51 => 157 | 55 => 161 | 57 => 165 | 58 => 78 | 33 => 116 | n => n, fun | n => n⟩
theorem Try.sortedI : Go.Proofs.SlLaysZI.n6 Try.prog Try.sortedI_ren := {
  mixed := by kernel_rfl
  f6 := ⟨Try.f69.name, by decide, Try.func69.trans (congrArg some (by kernel_rfl))⟩
  f8 := ⟨Try.f92.name, by decide, Try.func92.trans (congrArg some (by kernel_rfl))⟩
  f11 := ⟨Try.f107.name, by decide, Try.func107.trans (congrArg some (by kernel_rfl))⟩
  t0 := Try.underlying0
  a0 := Try.isAgg0
  z0 := Try.sizeOf0
  v0 := Try.zeroValue0
  t24 := Try.underlying26
  a24 := Try.isAgg26
  z24 := Try.sizeOf26
  v24 := Try.zeroValue26
  t26 := Try.underlying3
  a26 := Try.isAgg3
  z26 := Try.sizeOf3
  v26 := Try.zeroValue3
  t28 := Try.underlying109
  a28 := Try.isAgg109
  z28 := Try.sizeOf109
  v28 := Try.zeroValue109
  i26 := by kernel_rfl }
end Go.Proofs
namespace Go.Proofs.Ytgffddbhnggllaa.Ed
open Go Go.Proofs Go.RowKit Go.MapKept Go.ChangeMaps Go.Maps Go.Sort Go.Shelf
open Go.WideElems (Fit rd rg pl rd_mk rg_of)
def Asc (l : List Int) : Prop := l.Pairwise (· < ·)
theorem Asc.nodup {l : List Int} (h : Asc l) : l.Nodup := h.imp (fun h => by omega)
theorem asc_one {l m : List Int} (hl : Asc l) (hm : Asc m) (h : ∀ x, x ∈ l ↔ x ∈ m) : l = m :=
  List.Perm.eq_of_pairwise (le := fun x y => x < y) (fun a b _ _ h1 h2 => by omega) hl hm ((List.perm_ext_iff_of_nodup hl.nodup hm.nodup).2 h)
theorem MP.own {β : Type} {P : Program} {kt : TypeId} {enc : β → Value} {W : World} {mb n : Nat} {M : Int → Option β} (h : MP P kt .i64 enc W mb n M) (hk : P.underlying kt = some (.int .i64)) :
    ∃ D, W.ownsMap P kt R0 mb n D ∧ Maps.size D ≤ n ∧ (∀ x, x ∈ intKeys D ↔ M x ≠ none) ∧ (intKeys D).Nodup := by
  obtain ⟨es, clk, hb, F, hs, h1, h2⟩ := h
  have hp := WideShapes.sorted_perm (es.toList.map (rg P kt R0))
  have hkey : ∀ x ∈ es.toList, ∀ k, x.key = .int .i64 k → (rg P kt R0 x).1 = .int .i64 k := by
    intro x hx k hxk
    obtain ⟨y, hy⟩ := F.reads x hx
    have hk1 := WideElems.rd_key hy
    rw [hxk, keyOf_int_mk_any hk] at hk1
    split at hk1
    · rw [rg_of hy]; exact (Option.some.inj hk1).symm
    · cases hk1
  refine ⟨_, ⟨es, clk, hb, F, hs, rfl⟩, ?_, ?_, ?_⟩
  · show (List.foldr DataW.insert [] (es.toList.map (rg P kt R0))).length ≤ n
    rw [hp.length_eq]; simpa using hs
  · intro x
    show x ∈ (List.foldr DataW.insert [] (es.toList.map (rg P kt R0))).map (fun p => Go.intOf p.1) ↔ _
    rw [(hp.map _).mem_iff, List.mem_map]
    constructor
    · rintro ⟨p, hp', rfl⟩
      obtain ⟨e, he, rfl⟩ := List.mem_map.1 hp'
      obtain ⟨k, b, e1, e2, _⟩ := h1 e he
      rw [hkey e he k e1]
      show M k ≠ none
      rw [e2]; simp
    · intro hx
      cases hm : M x with
      | none => exact absurd hm hx
      | some b =>
        obtain ⟨e, he, hek⟩ := h2 x b hm
        exact ⟨_, List.mem_map.2 ⟨e, he, rfl⟩, by rw [hkey e he x hek]; rfl⟩
  · show ((List.foldr DataW.insert [] (es.toList.map (rg P kt R0))).map (fun p => Go.intOf p.1)).Nodup
    rw [(hp.map _).nodup_iff, List.map_map]
    have hn := F.stamped.2.2
    refine List.pairwise_map.2 ((List.pairwise_map.1 hn).imp_of_mem fun {a b} ha hb hne e => hne ?_)
    obtain ⟨k, _, e1, _⟩ := h1 a ha
    obtain ⟨k2, _, e2, _⟩ := h1 b hb
    have q1 := hkey a ha k e1
    have q2 := hkey b hb k2 e2
    simp only [Function.comp] at e
    rw [q1, q2] at e
    have : k = k2 := e
    rw [e1, e2, this]
theorem asc_of_perm {ss K l : List Int} (hp : ss.Perm K) (hn : K.Nodup) (hl : Asc l) (hm : ∀ x, x ∈ l ↔ x ∈ K) : ss.mergeSort (fun x y => decide (x ≤ y)) = l := by
  have h1 : (ss.mergeSort (fun x y => decide (x ≤ y))).Pairwise (fun x y => (decide (x ≤ y)) = true) := List.pairwise_mergeSort (fun a b c h1 h2 => by simp at *; omega) (fun a b => by simp; omega) ss
  have h2 := (List.mergeSort_perm ss (fun x y => decide (x ≤ y)))
  have h3 : (ss.mergeSort (fun x y => decide (x ≤ y))).Nodup := h2.nodup_iff.2 (hp.nodup_iff.2 hn)
  refine asc_one ?_ hl (fun x => by rw [h2.mem_iff, hp.mem_iff, hm])
  have := h1.and h3
  exact this.imp (fun ⟨a, b⟩ => by simp at a; omega)
theorem sortsI (m : Nat) : AnyZI.SortsIn Try.prog Try.sortedI_ren Fence.wide m :=
  ⟨fun blk off cap ss W hH hblk hsz => callsIn_wide.2 (Try.slices_Sort_int blk off cap ss W hH hblk hsz),
   fun p cap W => callsIn_wide.2 (Try.slices_Sort_int_none p cap W)⟩
theorem keys90_calls (mb : Option Nat) (w : World) : Calls Try.prog 90 #[.map mb] w fun e w' => e = .returned (.func (.func 106) #[] #[.pointer (some ⟨w.heap.size, 0, none⟩)]) ∧ w' = w.alloc (.cells #[.map mb] 82) :=
  (callsIn_wide (n := 5)).1 (AnyZI.keys_in Try.keysI Fence.wide 5 trivial rfl mb w)
theorem keys70_calls (mb : Option Nat) (w : World) : Calls Try.prog 70 #[.map mb] w fun e w' => e = .returned (.func (.func 94) #[] #[.pointer (some ⟨w.heap.size, 0, none⟩)]) ∧ w' = w.alloc (.cells #[.map mb] 92) :=
  (callsIn_wide (n := 5)).1 (AnyZI.keys_in Try.keysO Fence.wide 5 trivial rfl mb w)
theorem sorted106_calls {β : Type} {enc : β → Value} (W : World) (B mb n : Nat) (M : Int → Option β) (hB : W.cell? ⟨B, 0, none⟩ = some (.map (some mb))) (h : MP Try.prog 3 .i64 enc W mb n M) (hn : n ≤ 100000) (l : List Int) (hl : Asc l) (hm : ∀ x, x ∈ l ↔ M x ≠ none) :
    Calls Try.prog 69 #[.func (.func 106) #[] #[.pointer (some ⟨B, 0, none⟩)]] W fun e w' => ∃ v, e = .returned v ∧ w'.ownsRow W.heap.size 3 1 v l.length (l.map (Value.int .i64)) ∧ Below W.heap.size W w' := by
  obtain ⟨D, hown, hsz, hk, hnd⟩ := h.own Try.underlying3
  have hBl : B < W.heap.size := by
    simp only [World.cell?] at hB
    cases hb : W.heap[B]? with
    | none => rw [hb] at hB; cases hB
    | some o => exact (Array.getElem?_eq_some_iff.1 hb).1
  have hseq : SeqGives Fence.wide 2 Try.prog 106 #[.pointer (some ⟨B, 0, none⟩)] encZ (fun ss => ss.Perm (intKeys D)) (Maps.size D) W :=
    AnyZI.keys_gives (ρ := Try.keysI_ren) { Try.keysI with } Fence.wide _ trivial rfl (by omega) B mb n D W hBl hB hown
  have cS := AnyZI.sorted_in Try.sortedI Fence.wide 5 trivial trivial trivial trivial rfl (by omega) (sortsI _) (enters_of Try.func93 (by kernel_rfl) rfl) 106 #[.pointer (some ⟨B, 0, none⟩)] trivial (enters_of Try.func106 (by kernel_rfl) rfl) _ _ (by unfold maxLen; omega) (by omega) _ hseq
  change CallsIn _ _ Try.prog 69 _ _ _ at cS
  refine ((callsIn_wide (n := 5)).1 cS).mono ?_
  rintro e w' ⟨v, ss, rfl, hp, hrow, _, hb⟩
  have e1 := asc_of_perm hp hnd hl (fun x => by rw [hm, hk])
  rw [e1] at hrow
  have e2 : ss.length = l.length := by rw [← e1]; exact (List.mergeSort_perm ss (fun x y => decide (x ≤ y))).length_eq.symm
  rw [e2] at hrow
  exact ⟨v, rfl, hrow, hb⟩
theorem sorted94_calls {β : Type} {enc : β → Value} (W : World) (B mb n : Nat) (M : Int → Option β) (hB : W.cell? ⟨B, 0, none⟩ = some (.map (some mb))) (h : MP Try.prog 3 .i64 enc W mb n M) (hn : n ≤ 100000) (l : List Int) (hl : Asc l) (hm : ∀ x, x ∈ l ↔ M x ≠ none) :
    Calls Try.prog 69 #[.func (.func 94) #[] #[.pointer (some ⟨B, 0, none⟩)]] W fun e w' => ∃ v, e = .returned v ∧ w'.ownsRow W.heap.size 3 1 v l.length (l.map (Value.int .i64)) ∧ Below W.heap.size W w' := by
  obtain ⟨D, hown, hsz, hk, hnd⟩ := h.own Try.underlying3
  have hBl : B < W.heap.size := by
    simp only [World.cell?] at hB
    cases hb : W.heap[B]? with
    | none => rw [hb] at hB; cases hB
    | some o => exact (Array.getElem?_eq_some_iff.1 hb).1
  have hseq : SeqGives Fence.wide 2 Try.prog 94 #[.pointer (some ⟨B, 0, none⟩)] encZ (fun ss => ss.Perm (intKeys D)) (Maps.size D) W :=
    AnyZI.keys_gives (ρ := Try.keysO_ren) { Try.keysO with } Fence.wide _ trivial rfl (by omega) B mb n D W hBl hB hown
  have cS := AnyZI.sorted_in Try.sortedI Fence.wide 5 trivial trivial trivial trivial rfl (by omega) (sortsI _) (enters_of Try.func93 (by kernel_rfl) rfl) 94 #[.pointer (some ⟨B, 0, none⟩)] trivial (enters_of Try.func94 (by kernel_rfl) rfl) _ _ (by unfold maxLen; omega) (by omega) _ hseq
  change CallsIn _ _ Try.prog 69 _ _ _ at cS
  refine ((callsIn_wide (n := 5)).1 cS).mono ?_
  rintro e w' ⟨v, ss, rfl, hp, hrow, _, hb⟩
  have e1 := asc_of_perm hp hnd hl (fun x => by rw [hm, hk])
  rw [e1] at hrow
  have e2 : ss.length = l.length := by rw [← e1]; exact (List.mergeSort_perm ss (fun x y => decide (x ≤ y))).length_eq.symm
  rw [e2] at hrow
  exact ⟨v, rfl, hrow, hb⟩
end Go.Proofs.Ytgffddbhnggllaa.Ed
namespace Go.Proofs.Ytgffddbhnggllaa.Ed
open Go.RowKit Go.Shelf Go.Proofs.YtgffddbhnggllaaW.PrintWords QF
def insI (x : Int) : List Int → List Int
  | [] => [x]
  | y :: l => if x < y then x :: y :: l else if x = y then y :: l else y :: insI x l
theorem mem_insI (x y : Int) (l : List Int) : y ∈ insI x l ↔ y = x ∨ y ∈ l := by
  induction l with
  | nil => simp [insI]
  | cons z l ih =>
    simp only [insI]
    split
    · simp
    · split
      · rename_i h; subst h; simp
      · rw [List.mem_cons, ih, List.mem_cons]
        constructor
        · rintro (h | h | h)
          · exact .inr (.inl h)
          · exact .inl h
          · exact .inr (.inr h)
        · rintro (h | h | h)
          · exact .inr (.inl h)
          · exact .inl h
          · exact .inr (.inr h)
theorem asc_insI (x : Int) (l : List Int) (h : Asc l) : Asc (insI x l) := by
  unfold Asc at *
  induction l with
  | nil => simp [insI]
  | cons z l ih =>
    rw [List.pairwise_cons] at h
    simp only [insI]
    split
    · rename_i hx
      rw [List.pairwise_cons]
      refine ⟨fun y hy => ?_, by rw [List.pairwise_cons]; exact h⟩
      rcases List.mem_cons.1 hy with rfl | hy
      · exact hx
      · have := h.1 y hy; omega
    · split
      · rw [List.pairwise_cons]; exact h
      · rw [List.pairwise_cons]
        refine ⟨fun y hy => ?_, ih h.2⟩
        rcases (mem_insI x y l).1 hy with rfl | hy
        · omega
        · exact h.1 y hy
def addA (first last : Int) (acc : List Int) (o : S41) : List Int := if inB o.f3 first last = true then insI o.f3 acc else acc
def addB (first last : Int) (acc : List Int) (o : S41) : List Int := if (inB (o.f4 + 1) first last && (o.f4 + 1 == o.f3 || o.f5 != 1)) = true then insI (o.f4 + 1) acc else acc
def addD (first last : Int) (acc : List Int) (o : S41) : List Int := addB first last (addA first last acc o) o
def daysF (first last : Int) (L : List S41) : List Int := L.foldl (addD first last) [first]
theorem asc_addA (first last : Int) (acc : List Int) (o : S41) (h : Asc acc) : Asc (addA first last acc o) := by
  unfold addA
  split
  · exact asc_insI _ _ h
  · exact h
theorem asc_addB (first last : Int) (acc : List Int) (o : S41) (h : Asc acc) : Asc (addB first last acc o) := by
  unfold addB
  split
  · exact asc_insI _ _ h
  · exact h
theorem asc_addD (first last : Int) (acc : List Int) (o : S41) (h : Asc acc) : Asc (addD first last acc o) := asc_addB _ _ _ _ (asc_addA _ _ _ _ h)
theorem asc_days (first last : Int) (L : List S41) : Asc (daysF first last L) := by
  unfold daysF
  have h : Asc [first] := List.pairwise_singleton _ _
  revert h
  generalize [first] = acc
  induction L generalizing acc with
  | nil => exact id
  | cons o L ih => intro h; exact ih _ (asc_addD first last acc o h)
theorem within_q (n lo hi : Int) (w : World) : Calls Try.prog 61 #[.int .i64 n, .int .i64 lo, .int .i64 hi] w fun e w' => e = .returned (.bool (inB n lo hi)) ∧ w = w' := by
  by_cases h1 : lo ≤ n
  · have b1 : decide (lo ≤ n) = true := decide_eq_true h1
    by_cases h2 : n ≤ hi
    · have b2 : decide (n ≤ hi) = true := decide_eq_true h2
      go_enter Try.func61, Try.ntmps61
      go_wp2
      go_ret
      exact ⟨by unfold inB; rw [b1, b2]; rfl, rfl⟩
    · have b2 : decide (n ≤ hi) = false := decide_eq_false h2
      go_enter Try.func61, Try.ntmps61
      go_wp2
      go_ret
      exact ⟨by unfold inB; rw [b1, b2]; rfl, rfl⟩
  · have b1 : decide (lo ≤ n) = false := decide_eq_false h1
    go_enter Try.func61, Try.ntmps61
    go_wp2
    go_ret
    exact ⟨by unfold inB; rw [b1]; rfl, rfl⟩
theorem i64wf (x : Int) (h1 : -100000000 ≤ x) (h2 : x ≤ 100000000) : (Lit.int .i64 x).wf = true := by
  have e1 : IntKind.i64.min = -9223372036854775808 := by decide +kernel
  have e2 : IntKind.i64.max = 9223372036854775807 := by decide +kernel
  show (decide (IntKind.i64.min ≤ x) && decide (x ≤ IntKind.i64.max)) = true
  rw [e1, e2, decide_eq_true (by omega), decide_eq_true (by omega)]; rfl
end Go.Proofs.Ytgffddbhnggllaa.Ed
namespace Go.Proofs.Ytgffddbhnggllaa.QC
open Go.RowKit Go.Proofs.YtgffddbhnggllaaW.PrintWords Go.Proofs.YtgffddbhnggllaaW.PrintLast Go.Proofs.YtgffddbhnggllaaW.PrintMore
attribute [local go_sem] max2_int min2_int max_two min_two max_three min_three max_four min_four
set_option linter.unusedVariables false
set_option linter.unusedSimpArgs false
def errW : Option Int → Value
 | none => .nilIface
 | some c => .iface 0 (.int .i64 c)
theorem errW_none : errW none = .nilIface := rfl
theorem errW_some (c : Int) : errW (some c) = .iface 0 (.int .i64 c) := rfl
end Go.Proofs.Ytgffddbhnggllaa.QC
namespace Go.Proofs.Ytgffddbhnggllaa.QC
open Go.RowKit Go.Proofs.YtgffddbhnggllaaW.PrintWords Go.Proofs.YtgffddbhnggllaaW.PrintLast Go.Proofs.YtgffddbhnggllaaW.PrintMore
attribute [local go_sem] max2_int min2_int max_two min_two max_three min_three max_four min_four
set_option linter.unusedVariables false
set_option linter.unusedSimpArgs false
def order_covers.f (a0_0 : Int) (a0_1 : Int) (a0_2 : Int) (a0_3 : Int) (a0_4 : Int) (a0_5 : Int) (a1 : Int) : Option (Bool) := if a0_3 ≤ a1 then (if a0_5 = 1 then (some true) else (some (decide (a1 ≤ a0_4)))) else (some false)
set_option maxHeartbeats 8000000 in
set_option maxRecDepth 100000 in
theorem order_covers.calls (a0_0 : Int) (a0_1 : Int) (a0_2 : Int) (a0_3 : Int) (a0_4 : Int) (a0_5 : Int) (a1 : Int) (r : Bool) (w : World) (h : order_covers.f a0_0 a0_1 a0_2 a0_3 a0_4 a0_5 a1 = some r) :
  Calls Try.prog 87 #[.agg #[.int .i64 a0_0, .int .i64 a0_1, .int .i64 a0_2, .int .i64 a0_3, .int .i64 a0_4, .int .u8 a0_5], .int .i64 a1] w fun e w' => e = .returned (.bool r) ∧ Below w.heap.size w w' := by
 have hu41 := Try.underlying41
 have HB := Aside0.mk (Below.refl w.heap.size w)
 have H : (if a0_3 ≤ a1 then (if a0_5 = 1 then (some true) else (some (decide (a1 ≤ a0_4)))) else (some false)) = some r := h
 clear h
 by_cases c3 : a0_3 ≤ a1
 ·rw [if_pos c3] at H
  have c3b0 : decide (a0_3 ≤ a1) = true := decide_eq_true c3
  clear c3
  by_cases c4 : a0_5 = 1
  ·rw [if_pos c4] at H
   have c4b0 : (a0_5 == 1) = true := beq_iff_eq.mpr c4
   have c4b1 : (a0_5 != 1) = false := bne_eq_false_iff_eq.mpr c4
   clear c4
   obtain rfl := Option.some.inj H
   go_enter Try.func87, Try.ntmps87
   go_wp2_with (first | ((with_reducible refine gate_dst (N := 2) rfl ?_); refine box_event ?hg (N := 2) ?hd (cs := #[.int .i64 a0_0, .int .i64 a0_1, .int .i64 a0_2, .int .i64 a0_3, .int .i64 a0_4, .int .u8 a0_5]) (t := 41) ?hr ?_; (case hd => rfl); (case hg => rfl); (case hr => first | (go_simp; done) | (go_simp; rfl)); intro gb101 hg w5 hbox hb; have n0_ := Aside0.mk (below_step (by repeat (first | (with_reducible first | exact HB.out | apply below_alloc | apply pw_below_drewN | apply below_drew1) | exact HB.out)) hb); have n1_ := Aside0.mk (hbox); have n2_ := Aside0.mk ((by rw [hg]; exact (below_size (by repeat (first | (with_reducible first | exact HB.out | apply below_alloc | apply pw_below_drewN | apply below_drew1) | exact HB.out))) : w.heap.size ≤ gb101)); have n3_ := Aside0.mk ((by rw [hg]; exact (below_size (by repeat (first | (with_reducible first | exact HB.out | apply below_alloc | apply pw_below_drewN | apply below_drew1) | exact HB.out))) : w.heap.size ≤ gb101)); clear HB; have HB := n0_; have BK101 := n1_; have GW101 := n2_; have GE101 := n3_; clear n0_ n1_ n2_ n3_; clear hb hbox hg; have hcz6_0 : w5.cell? ⟨gb101, 0, none⟩ = some (.int .i64 a0_0) := (blk_cell BK101.out 0).trans rfl; have hcz6_1 : w5.cell? ⟨gb101, 1, none⟩ = some (.int .i64 a0_1) := (blk_cell BK101.out 1).trans rfl; have hcz6_2 : w5.cell? ⟨gb101, 2, none⟩ = some (.int .i64 a0_2) := (blk_cell BK101.out 2).trans rfl; have hcz6_3 : w5.cell? ⟨gb101, 3, none⟩ = some (.int .i64 a0_3) := (blk_cell BK101.out 3).trans rfl; have hcz6_4 : w5.cell? ⟨gb101, 4, none⟩ = some (.int .i64 a0_4) := (blk_cell BK101.out 4).trans rfl; have hcz6_5 : w5.cell? ⟨gb101, 5, none⟩ = some (.int .u8 a0_5) := (blk_cell BK101.out 5).trans rfl; have hfz6_0 := blk_frozen BK101.out 0; have hfz6_1 := blk_frozen BK101.out 1; have hfz6_2 := blk_frozen BK101.out 2; have hfz6_3 := blk_frozen BK101.out 3; have hfz6_4 := blk_frozen BK101.out 4; have hfz6_5 := blk_frozen BK101.out 5))
   go_ret
   exact ⟨by first | rfl | (simp [errW_none, errW_some] <;> rfl) | (simp [*, errW_none, errW_some] <;> rfl), by repeat (first | (with_reducible first | exact HB.out | apply below_alloc | apply pw_below_drewN | apply below_drew1 | refine below_set ?_ GE101.out) | exact HB.out)⟩
  ·rw [if_neg c4] at H
   have c4b0 : (a0_5 == 1) = false := beq_eq_false_iff_ne.mpr c4
   have c4b1 : (a0_5 != 1) = true := bne_iff_ne.mpr c4
   obtain rfl := Option.some.inj H
   go_enter Try.func87, Try.ntmps87
   go_wp2_with (first | ((with_reducible refine gate_dst (N := 2) rfl ?_); refine box_event ?hg (N := 2) ?hd (cs := #[.int .i64 a0_0, .int .i64 a0_1, .int .i64 a0_2, .int .i64 a0_3, .int .i64 a0_4, .int .u8 a0_5]) (t := 41) ?hr ?_; (case hd => rfl); (case hg => rfl); (case hr => first | (go_simp; done) | (go_simp; rfl)); intro gb101 hg w7 hbox hb; have n0_ := Aside0.mk (below_step (by repeat (first | (with_reducible first | exact HB.out | apply below_alloc | apply pw_below_drewN | apply below_drew1) | exact HB.out)) hb); have n1_ := Aside0.mk (hbox); have n2_ := Aside0.mk ((by rw [hg]; exact (below_size (by repeat (first | (with_reducible first | exact HB.out | apply below_alloc | apply pw_below_drewN | apply below_drew1) | exact HB.out))) : w.heap.size ≤ gb101)); have n3_ := Aside0.mk ((by rw [hg]; exact (below_size (by repeat (first | (with_reducible first | exact HB.out | apply below_alloc | apply pw_below_drewN | apply below_drew1) | exact HB.out))) : w.heap.size ≤ gb101)); clear HB; have HB := n0_; have BK101 := n1_; have GW101 := n2_; have GE101 := n3_; clear n0_ n1_ n2_ n3_; clear hb hbox hg; have hcz8_0 : w7.cell? ⟨gb101, 0, none⟩ = some (.int .i64 a0_0) := (blk_cell BK101.out 0).trans rfl; have hcz8_1 : w7.cell? ⟨gb101, 1, none⟩ = some (.int .i64 a0_1) := (blk_cell BK101.out 1).trans rfl; have hcz8_2 : w7.cell? ⟨gb101, 2, none⟩ = some (.int .i64 a0_2) := (blk_cell BK101.out 2).trans rfl; have hcz8_3 : w7.cell? ⟨gb101, 3, none⟩ = some (.int .i64 a0_3) := (blk_cell BK101.out 3).trans rfl; have hcz8_4 : w7.cell? ⟨gb101, 4, none⟩ = some (.int .i64 a0_4) := (blk_cell BK101.out 4).trans rfl; have hcz8_5 : w7.cell? ⟨gb101, 5, none⟩ = some (.int .u8 a0_5) := (blk_cell BK101.out 5).trans rfl; have hfz8_0 := blk_frozen BK101.out 0; have hfz8_1 := blk_frozen BK101.out 1; have hfz8_2 := blk_frozen BK101.out 2; have hfz8_3 := blk_frozen BK101.out 3; have hfz8_4 := blk_frozen BK101.out 4; have hfz8_5 := blk_frozen BK101.out 5))
   go_ret
   exact ⟨by first | rfl | (simp [errW_none, errW_some] <;> rfl) | (simp [*, errW_none, errW_some] <;> rfl), by repeat (first | (with_reducible first | exact HB.out | apply below_alloc | apply pw_below_drewN | apply below_drew1 | refine below_set ?_ GE101.out) | exact HB.out)⟩
 ·rw [if_neg c3] at H
  have c3b0 : decide (a0_3 ≤ a1) = false := decide_eq_false c3
  clear c3
  obtain rfl := Option.some.inj H
  go_enter Try.func87, Try.ntmps87
  go_wp2_with (first | ((with_reducible refine gate_dst (N := 2) rfl ?_); refine box_event ?hg (N := 2) ?hd (cs := #[.int .i64 a0_0, .int .i64 a0_1, .int .i64 a0_2, .int .i64 a0_3, .int .i64 a0_4, .int .u8 a0_5]) (t := 41) ?hr ?_; (case hd => rfl); (case hg => rfl); (case hr => first | (go_simp; done) | (go_simp; rfl)); intro gb101 hg w9 hbox hb; have n0_ := Aside0.mk (below_step (by repeat (first | (with_reducible first | exact HB.out | apply below_alloc | apply pw_below_drewN | apply below_drew1) | exact HB.out)) hb); have n1_ := Aside0.mk (hbox); have n2_ := Aside0.mk ((by rw [hg]; exact (below_size (by repeat (first | (with_reducible first | exact HB.out | apply below_alloc | apply pw_below_drewN | apply below_drew1) | exact HB.out))) : w.heap.size ≤ gb101)); have n3_ := Aside0.mk ((by rw [hg]; exact (below_size (by repeat (first | (with_reducible first | exact HB.out | apply below_alloc | apply pw_below_drewN | apply below_drew1) | exact HB.out))) : w.heap.size ≤ gb101)); clear HB; have HB := n0_; have BK101 := n1_; have GW101 := n2_; have GE101 := n3_; clear n0_ n1_ n2_ n3_; clear hb hbox hg; have hcz10_0 : w9.cell? ⟨gb101, 0, none⟩ = some (.int .i64 a0_0) := (blk_cell BK101.out 0).trans rfl; have hcz10_1 : w9.cell? ⟨gb101, 1, none⟩ = some (.int .i64 a0_1) := (blk_cell BK101.out 1).trans rfl; have hcz10_2 : w9.cell? ⟨gb101, 2, none⟩ = some (.int .i64 a0_2) := (blk_cell BK101.out 2).trans rfl; have hcz10_3 : w9.cell? ⟨gb101, 3, none⟩ = some (.int .i64 a0_3) := (blk_cell BK101.out 3).trans rfl; have hcz10_4 : w9.cell? ⟨gb101, 4, none⟩ = some (.int .i64 a0_4) := (blk_cell BK101.out 4).trans rfl; have hcz10_5 : w9.cell? ⟨gb101, 5, none⟩ = some (.int .u8 a0_5) := (blk_cell BK101.out 5).trans rfl; have hfz10_0 := blk_frozen BK101.out 0; have hfz10_1 := blk_frozen BK101.out 1; have hfz10_2 := blk_frozen BK101.out 2; have hfz10_3 := blk_frozen BK101.out 3; have hfz10_4 := blk_frozen BK101.out 4; have hfz10_5 := blk_frozen BK101.out 5))
  go_ret
  exact ⟨by first | rfl | (simp [errW_none, errW_some] <;> rfl) | (simp [*, errW_none, errW_some] <;> rfl), by repeat (first | (with_reducible first | exact HB.out | apply below_alloc | apply pw_below_drewN | apply below_drew1 | refine below_set ?_ GE101.out) | exact HB.out)⟩
end Go.Proofs.Ytgffddbhnggllaa.QC
namespace Go.Proofs.Ytgffddbhnggllaa.Ed
open Go.RowKit Go.Shelf Go.Proofs.YtgffddbhnggllaaW.PrintWords QF
def coversO (o : S41) (day : Int) : Bool := decide (o.f3 ≤ day) && (o.f5 == 1 || decide (day ≤ o.f4))
def onF (L : List S41) (day : Int) : List S41 := sortO (L.filter fun o => coversO o day)
def ofF (L : List S41) (p : Int) : List S41 := L.filter fun o => o.f1 == p
def allF (L : List S41) (p d : Int) : List S41 × Int := if (rightL L && (inB p 1 999999 && inB d 0 730484)) = true then (onF (ofF L p) d, 0) else ([], 2)
theorem covers_f (o : S41) (d : Int) : QC.order_covers.f o.f0 o.f1 o.f2 o.f3 o.f4 o.f5 d = some (coversO o d) := by
  unfold QC.order_covers.f coversO
  by_cases h1 : o.f3 ≤ d
  · rw [if_pos h1, decide_eq_true h1]
    by_cases h2 : o.f5 = 1
    · rw [if_pos h2, beq_iff_eq.2 h2]; rfl
    · rw [if_neg h2, beq_eq_false_iff_ne.2 h2]; rfl
  · rw [if_neg h1, decide_eq_false h1]; rfl
theorem covers_calls (o : S41) (d : Int) (w : World) : Calls Try.prog 87 #[.agg #[.int .i64 o.f0, .int .i64 o.f1, .int .i64 o.f2, .int .i64 o.f3, .int .i64 o.f4, .int .u8 o.f5], .int .i64 d] w fun e w' => e = .returned (.bool (coversO o d)) ∧ Below w.heap.size w w' :=
  QC.order_covers.calls o.f0 o.f1 o.f2 o.f3 o.f4 o.f5 d (coversO o d) w (covers_f o d)
theorem RV.mono {W : World} {b base : Nat} {v : Value} {L : List S41} (h : RV W b v L) (hb : base ≤ b) : RV W base v L := by
  rcases h with h | ⟨g, cap, e, hg, hR⟩
  · exact .inl h
  · exact .inr ⟨g, cap, e, Nat.le_trans hb hg, hR⟩
set_option maxRecDepth 1000000 in
set_option maxHeartbeats 4000000 in
theorem lit86_calls (day : Int) (B : Nat) (W : World) (o : S41) (hB : W.heap[B]? = some (.cells #[.int .i64 day] 3 (0, 0))) :
    Calls Try.prog 86 (#[.agg (six o)] ++ #[.pointer (some ⟨B, 0, none⟩)]) W fun e W' => e = .returned (.bool (!coversO o day)) ∧ Below W.heap.size W W' := by
  have c1 : W.cell? ⟨B, 0, none⟩ = some (.int .i64 day) := (blk_cell hB 0).trans rfl
  have hlt := blk_lt hB
  have hc := fun w => covers_calls o day w
  clear hB
  show Calls Try.prog 86 #[.agg #[.int .i64 o.f0, .int .i64 o.f1, .int .i64 o.f2, .int .i64 o.f3, .int .i64 o.f4, .int .u8 o.f5], .pointer (some ⟨B, 0, none⟩)] W _
  generalize coversO o day = r at hc ⊢
  go_enter Try.func86, Try.ntmps86
  cases r with
  | true =>
    go_wp2_with (go_at_call 87; (with_reducible refine (hc _).mono ?_); rintro e w1 ⟨rfl, hb⟩)
    go_ret
    exact ⟨rfl, below_step (below_alloc (Below.refl _ _) _) hb⟩
  | false =>
    go_wp2_with (go_at_call 87; (with_reducible refine (hc _).mono ?_); rintro e w1 ⟨rfl, hb⟩)
    go_ret
    exact ⟨rfl, below_step (below_alloc (Below.refl _ _) _) hb⟩
set_option maxRecDepth 1000000 in
set_option maxHeartbeats 4000000 in
theorem lit83_calls (pt : Int) (B : Nat) (W : World) (o : S41) (hB : W.heap[B]? = some (.cells #[.int .i64 pt] 3 (0, 0))) :
    Calls Try.prog 83 (#[.agg (six o)] ++ #[.pointer (some ⟨B, 0, none⟩)]) W fun e W' => e = .returned (.bool (o.f1 != pt)) ∧ Below W.heap.size W W' := by
  have c1 : W.cell? ⟨B, 0, none⟩ = some (.int .i64 pt) := (blk_cell hB 0).trans rfl
  have hlt := blk_lt hB
  clear hB
  show Calls Try.prog 83 #[.agg #[.int .i64 o.f0, .int .i64 o.f1, .int .i64 o.f2, .int .i64 o.f3, .int .i64 o.f4, .int .u8 o.f5], .pointer (some ⟨B, 0, none⟩)] W _
  go_enter Try.func83, Try.ntmps83
  go_wp2
  go_ret
  exact ⟨rfl, below_alloc (Below.refl _ _) _⟩
theorem nd_filter {L : List S41} (h : (L.map (·.f0)).Nodup) (p : S41 → Bool) : ((L.filter p).map (·.f0)).Nodup := h.sublist (List.filter_sublist.map _)
set_option maxRecDepth 1000000 in
set_option maxHeartbeats 4000000 in
theorem on63_calls (v : Value) (base : Nat) (L : List S41) (day : Int) (w : World) (hv : RV w base v L) (hn : L.length ≤ 100000) (hnd : (L.map (·.f0)).Nodup) :
    Calls Try.prog 63 #[v, .int .i64 day] w fun e w' => ∃ v', e = .returned v' ∧ RV w' w.heap.size v' (onF L day) ∧ Below w.heap.size w w' := by
  obtain ⟨A0, c, rfl, hc, hr⟩ := Kd.R_reads hv.R
  have hb0 : Below w.heap.size w (w.alloc (.cells #[.int .i64 day] 3)) := below_alloc (Below.refl _ _) _
  have c1 := clone85_calls A0 c L (w.alloc (.cells #[.int .i64 day] 3)) (Kd.C_below hr hb0) hn
  have e1 : L.filter (fun x => !(!coversO x day)) = L.filter (fun x => coversO x day) := by simp
  have hnf : ∀ p : S41 → Bool, (L.filter p).length ≤ 100000 := fun p => Nat.le_trans (List.length_filter_le _ _) hn
  have HN := Lib.hid hnd
  have HE := Lib.hid e1
  have HB0 := Lib.hid hb0
  have HF := Lib.hid hnf
  clear hv hr hnd e1 hb0 hnf
  go_enter Try.func63, Try.ntmps63
  go_wp2_with (go_at_call 85; (with_reducible refine c1.mono ?_); rintro e w2 ⟨v2, rfl, hR2, hb2⟩)
  rw [World.size_alloc] at hR2 hb2
  have hz2 : w.heap.size + 1 ≤ w2.heap.size := by have := hb2.size; rwa [World.size_alloc] at this
  have hk : w2.heap[w.heap.size]? = some (.cells #[.int .i64 day] 3 (0, 0)) := (hb2.block _ (by omega)).trans (blk_new w _)
  have c2 := delete84_calls 86 #[.pointer (some ⟨w.heap.size, 0, none⟩)] (enters_of Try.func86 (by kernel_rfl) rfl) (fun o => !coversO o day) w.heap.size _ (w.heap.size + 1) v2 L w2 hR2 hn hk (by omega) hz2 (fun W x hW => lit86_calls day w.heap.size W x hW)
  rw [HE.out] at c2
  have HB2 := Lib.hid hb2
  clear hR2 hk c1 hb2
  · go_wp2_with (go_at_call 84; (with_reducible refine c2.mono ?_); rintro e w3 ⟨v3, rfl, hR3, hb3⟩)
    have c3 := fun rv => sort88_calls rv v3 (w.heap.size + 1) (L.filter fun x => coversO x day) w3 hR3 (Nat.le_trans hz2 hb3.size) (HF.out _) (nd_filter HN.out _)
    have HB3 := Lib.hid hb3
    clear hR3 hb3 c2
    go_wp2_with (go_at_call 88; (with_reducible refine (c3 _).mono ?_); rintro e w4 ⟨rfl, hR4, hb4⟩)
    go_ret
    refine ⟨v3, rfl, hR4.mono (by omega), ?_⟩
    have h2 := HB2.out.trans (HB3.out.trans hb4)
    exact HB0.out.trans (h2.mono (by omega))
set_option maxRecDepth 1000000 in
set_option maxHeartbeats 4000000 in
theorem of62_calls (A0 : Option Addr) (c : Nat) (L : List S41) (pt : Int) (w : World) (hr : Kd.C k41 w A0 L.length L) (hn : L.length ≤ 100000) :
    Calls Try.prog 62 #[.slice A0 L.length c, .int .i64 pt] w fun e w' => ∃ v', e = .returned v' ∧ RV w' w.heap.size v' (ofF L pt) ∧ Below w.heap.size w w' := by
  have hb0 : Below w.heap.size w (w.alloc (.cells #[.int .i64 pt] 3)) := below_alloc (Below.refl _ _) _
  have c1 := clone74_calls A0 c L (w.alloc (.cells #[.int .i64 pt] 3)) (Kd.C_below hr hb0) hn
  have e1 : L.filter (fun x => !(x.f1 != pt)) = ofF L pt := by unfold ofF; congr 1; funext x; simp [bne]
  have HE := Lib.hid e1
  have HB0 := Lib.hid hb0
  clear hr e1 hb0
  go_enter Try.func62, Try.ntmps62
  go_wp2_with (go_at_call 74; (with_reducible refine c1.mono ?_); rintro e w2 ⟨v2, rfl, hR2, hb2⟩)
  rw [World.size_alloc] at hR2 hb2
  have hz2 : w.heap.size + 1 ≤ w2.heap.size := by have := hb2.size; rwa [World.size_alloc] at this
  have hk : w2.heap[w.heap.size]? = some (.cells #[.int .i64 pt] 3 (0, 0)) := (hb2.block _ (by omega)).trans (blk_new w _)
  have c2 := delete82_calls 83 #[.pointer (some ⟨w.heap.size, 0, none⟩)] (enters_of Try.func83 (by kernel_rfl) rfl) (fun o => o.f1 != pt) w.heap.size _ (w.heap.size + 1) v2 L w2 hR2 hn hk (by omega) hz2 (fun W x hW => lit83_calls pt w.heap.size W x hW)
  rw [HE.out] at c2
  have HB2 := Lib.hid hb2
  clear hR2 hk c1 hb2
  go_wp2_with (go_at_call 82; (with_reducible refine c2.mono ?_); rintro e w3 ⟨v3, rfl, hR3, hb3⟩)
  go_ret
  refine ⟨v3, rfl, hR3.mono (by omega), ?_⟩
  have h2 := HB2.out.trans hb3
  exact HB0.out.trans (h2.mono (by omega))
end Go.Proofs.Ytgffddbhnggllaa.Ed
namespace Go.Proofs.Ytgffddbhnggllaa.Ed
open Go.RowKit Go.Shelf Go.Proofs.YtgffddbhnggllaaW.PrintWords QF
theorem right_len {l : List S41} (h : rightL l = true) : l.length ≤ 500 := by
  unfold rightL at h; simp at h; exact h.1
theorem right_nd {l : List S41} (h : rightL l = true) : (l.map (·.f0)).Nodup := by
  unfold rightL at h; simp at h; exact h.2.2
theorem right_all {l : List S41} (h : rightL l = true) : ∀ o ∈ l, rightO o = true := by
  unfold rightL at h; simp at h; exact h.2.1
set_option maxRecDepth 1000000 in
set_option maxHeartbeats 4000000 in
theorem all_calls (A0 : Option Addr) (c0 : Nat) (l0 : List S41) (p d : Int) (w : World) (hr0 : Kd.C k41 w A0 l0.length l0) (hc0 : l0.length ≤ c0) :
    Calls Try.prog 26 #[.slice A0 l0.length c0, .int .i64 p, .int .i64 d] w fun e w' => ∃ v0_ : Value, e = .returned (.tuple #[v0_, .int .i64 (allF l0 p d).2]) ∧ Kd.R k41 41 w' w.heap.size (fun _ => True) v0_ (allF l0 p d).1 ∧ Below w.heap.size w w' := by
  have hR := right_calls A0 c0 l0 w hr0 hc0
  cases hr : rightL l0 with
  | false =>
    have E : allF l0 p d = ([], 2) := by unfold allF; rw [if_neg (by rw [hr]; simp)]
    rw [E]
    rw [hr] at hR
    clear E hr
    go_enter Try.func26, Try.ntmps26
    go_wp2_with (go_at_call 29; (with_reducible refine hR.mono ?_); rintro e w1 ⟨rfl, hb⟩)
    go_ret2
    exact ⟨_, rfl, Kd.R_nil _ _ _ _ _, hb⟩
  | true =>
    rw [hr] at hR
    have hW := fun n lo hi w => within_q n lo hi w
    cases hp : inB p 1 999999 with
    | false =>
      have E : allF l0 p d = ([], 2) := by unfold allF; rw [if_neg (by rw [hr, hp]; simp)]
      have h1 : ∀ w, Calls Try.prog 61 #[.int .i64 p, .int .i64 1, .int .i64 999999] w fun e w' => e = .returned (.bool false) ∧ w = w' := fun w => hp ▸ within_q p 1 999999 w
      rw [E]
      clear E hr hp hW
      go_enter Try.func26, Try.ntmps26
      go_wp2_with (first | (go_at_call 29; (with_reducible refine hR.mono ?_); rintro e w1 ⟨rfl, hb⟩) | (go_at_call 61; (with_reducible refine (h1 _).mono ?_); rintro e w2 ⟨rfl, rfl⟩))
      go_ret2
      exact ⟨_, rfl, Kd.R_nil _ _ _ _ _, hb⟩
    | true =>
      have h1 : ∀ w, Calls Try.prog 61 #[.int .i64 p, .int .i64 1, .int .i64 999999] w fun e w' => e = .returned (.bool true) ∧ w = w' := fun w => hp ▸ within_q p 1 999999 w
      cases hd : inB d 0 730484 with
      | false =>
        have E : allF l0 p d = ([], 2) := by unfold allF; rw [if_neg (by rw [hr, hp, hd]; simp)]
        have h2 : ∀ w, Calls Try.prog 61 #[.int .i64 d, .int .i64 0, .int .i64 730484] w fun e w' => e = .returned (.bool false) ∧ w = w' := fun w => hd ▸ within_q d 0 730484 w
        rw [E]
        clear E hr hp hd hW
        go_enter Try.func26, Try.ntmps26
        go_wp2_with (go_at_call 29; (with_reducible refine hR.mono ?_); rintro e w1 ⟨rfl, hb⟩)
        go_wp2_with (go_at_call 61; (with_reducible refine (h1 _).mono ?_); rintro e w2 ⟨rfl, rfl⟩)
        go_wp2_with (go_at_call 61; (with_reducible refine (h2 _).mono ?_); rintro e w2 ⟨rfl, rfl⟩)
        go_ret2
        exact ⟨_, rfl, Kd.R_nil _ _ _ _ _, hb⟩
      | true =>
        have E : allF l0 p d = (onF (ofF l0 p) d, 0) := by unfold allF; rw [if_pos (by rw [hr, hp, hd]; rfl)]
        have h2 : ∀ w, Calls Try.prog 61 #[.int .i64 d, .int .i64 0, .int .i64 730484] w fun e w' => e = .returned (.bool true) ∧ w = w' := fun w => hd ▸ within_q d 0 730484 w
        rw [E]
        have hlen := right_len hr
        have HND := Lib.hid (right_nd hr)
        have HR := Lib.hid hr0
        clear E hr hp hd hW hr0
        go_enter Try.func26, Try.ntmps26
        go_wp2_with (go_at_call 29; (with_reducible refine hR.mono ?_); rintro e w1 ⟨rfl, hb⟩)
        have HB := Lib.hid hb
        clear hb hR
        go_wp2_with (go_at_call 61; (with_reducible refine (h1 _).mono ?_); rintro e w2 ⟨rfl, rfl⟩)
        go_wp2_with (go_at_call 61; (with_reducible refine (h2 _).mono ?_); rintro e w2 ⟨rfl, rfl⟩)
        clear h1 h2
        have c1 := of62_calls A0 c0 l0 p w1 (Kd.C_below HR.out HB.out) (by omega)
        go_wp2_with (go_at_call 62; (with_reducible refine c1.mono ?_); rintro e w2 ⟨v2, rfl, hR2, hb2⟩)
        have c2 := on63_calls v2 _ (ofF l0 p) d w2 hR2 (Nat.le_trans (List.length_filter_le _ _) (by omega)) (nd_filter HND.out _)
        have HB2 := Lib.hid (below_step HB.out hb2)
        clear c1 hR2 hb2 HB
        go_wp2_with (go_at_call 63; (with_reducible refine c2.mono ?_); rintro e w3 ⟨v3, rfl, hR3, hb3⟩)
        go_ret2
        exact ⟨v3, rfl, (hR3.mono HB2.out.size).R, below_step HB2.out hb3⟩
end Go.Proofs.Ytgffddbhnggllaa.Ed
namespace Go.Proofs.Ytgffddbhnggllaa.Ed
open Go.RowKit Go.Proofs.YtgffddbhnggllaaW.PrintWords QF
def okS (f : S72) : Prop := (0 ≤ f.f0 ∧ f.f0 ≤ 255) ∧ (0 ≤ f.f1 ∧ f.f1 ≤ 255) ∧ (0 ≤ f.f2 ∧ f.f2 ≤ 255) ∧ (0 ≤ f.f3 ∧ f.f3 ≤ 255) ∧ (0 ≤ f.f4 ∧ f.f4 ≤ 255)
def idB (i : Nat) : Int := 1 + (7 * (i : Int) + 3) % 20
def builtO (i : Nat) (f : S72) : S41 :=
  ⟨idB i, 1 + f.f1 % 5, if 1 + f.f0 % 3 = 3 then 0 else if 1 + f.f2 % 5 = 1 + f.f1 % 5 then 6 else 1 + f.f2 % 5, f.f3 % 80, if 1 + f.f0 % 3 = 1 then 0 else f.f3 % 80 + f.f4 % 20, 1 + f.f0 % 3⟩
def builtFrom : Nat → List S72 → List S41
  | _, [] => []
  | i, f :: l => builtO i f :: builtFrom (i + 1) l
def builtL (l : List S72) : List S41 := builtFrom 0 (l.take 20)
theorem w64n (x : Int) (h0 : -1000000000 ≤ x) (h1 : x ≤ 1000000000) : wrap64 x = x := IntWalk.wrap64_in _ (by omega)
theorem tm (x m : Int) (h : 0 ≤ x) : Int.tmod x m = x % m := Int.tmod_eq_emod_of_nonneg h
theorem w5 (x : Int) (h0 : 0 ≤ x) (h1 : x ≤ 255) : wrap64 (1 + Int.tmod (wrap64 x) 5) = 1 + x % 5 := by
  rw [w64n x (by omega) (by omega), tm x 5 h0, w64n _ (by omega) (by omega)]
theorem w20 (i : Nat) (h : i ≤ 1000) : wrap64 (1 + Int.tmod (wrap64 (wrap64 (7 * (i : Int)) + 3)) 20) = idB i := by
  rw [w64n (7 * (i : Int)) (by omega) (by omega), w64n (7 * (i : Int) + 3) (by omega) (by omega), tm _ 20 (by omega), w64n _ (by omega) (by omega)]; rfl
theorem w80 (x m : Int) (h0 : 0 ≤ x) (h1 : x ≤ 255) : Int.tmod (wrap64 x) m = x % m := by
  rw [w64n x (by omega) (by omega), tm x m h0]
theorem w3 (x : Int) (h0 : 0 ≤ x) (h1 : x ≤ 255) : (1 + Int.tmod x 3) % 256 = 1 + x % 3 := by
  rw [tm x 3 h0]; omega
theorem built_step (k : Nat) (acc : List S41) (y : List S72) (i : Nat) (hi : i < y.length) (hl : y.length ≤ 20) (f : S72) (hf : rd_T72 y i = f) (ok : okS f) (ha : acc.length ≤ 1000) :
    letterbaglaw35_Built.l0 (k + 1 + 1) acc y (y.length : Int) (i : Int) = letterbaglaw35_Built.l0 k (acc ++ [builtO i f]) y (y.length : Int) ((i + 1 : Nat) : Int) := by
  obtain ⟨⟨a0, a1⟩, ⟨b0, b1⟩, ⟨c0, c1⟩, ⟨d0, d1⟩, ⟨e0, e1⟩⟩ := ok
  have hw : wrap64 ((i : Int) + 1) = ((i + 1 : Nat) : Int) := by rw [w64n _ (by omega) (by omega)]; omega
  rw [letterbaglaw35_Built.l0, if_pos (by omega), if_pos (by omega), if_pos (by omega), hf, w5 _ b0 b1, w5 _ c0 c1, w20 i (by omega), w80 _ 80 d0 d1, w3 _ a0 a1]
  have hacc : acc.length < 2932031007402 := by omega
  have hend : wrap64 (f.f3 % 80 + Int.tmod (wrap64 f.f4) 20) = f.f3 % 80 + f.f4 % 20 := by rw [w80 _ 20 e0 e1, w64n _ (by omega) (by omega)]
  by_cases h1 : 1 + f.f2 % 5 = 1 + f.f1 % 5
  · rw [if_pos h1, letterbaglaw35_Built.j1, hend, hw]
    unfold builtO
    by_cases h2 : 1 + f.f0 % 3 = 1
    · rw [if_pos h2, if_neg (by omega), if_pos hacc, if_neg (by omega), if_pos h1, if_pos h2]
    · rw [if_neg h2]
      by_cases h3 : 1 + f.f0 % 3 = 3
      · rw [if_pos h3, if_pos hacc, if_pos h3, if_neg h2]
      · rw [if_neg h3, if_pos hacc, if_neg h3, if_pos h1, if_neg h2]
  · rw [if_neg h1, letterbaglaw35_Built.j1, hend, hw]
    unfold builtO
    by_cases h2 : 1 + f.f0 % 3 = 1
    · rw [if_pos h2, if_neg (by omega), if_pos hacc, if_neg (by omega), if_neg h1, if_pos h2]
    · rw [if_neg h2]
      by_cases h3 : 1 + f.f0 % 3 = 3
      · rw [if_pos h3, if_pos hacc, if_pos h3, if_neg h2]
      · rw [if_neg h3, if_pos hacc, if_neg h3, if_neg h1, if_neg h2]
theorem built_loop (y : List S72) (hl : y.length ≤ 20) (ok : ∀ f ∈ y, okS f) : ∀ (d i : Nat) (acc : List S41), y.length - i = d → i ≤ y.length → acc.length ≤ i →
    letterbaglaw35_Built.l0 (2 * d + 1) acc y (y.length : Int) (i : Int) = some (acc ++ builtFrom i (y.drop i)) := by
  intro d
  induction d with
  | zero =>
    intro i acc hd hi ha
    obtain rfl : i = y.length := by omega
    rw [letterbaglaw35_Built.l0, if_neg (by omega), List.drop_length]; simp [builtFrom]
  | succ d ih =>
    intro i acc hd hi ha
    have hil : i < y.length := by omega
    have hf : rd_T72 y (i : Int) = y[i] := by unfold rd_T72; rw [Int.toNat_natCast, List.getD_eq_getElem?_getD, List.getElem?_eq_getElem hil]; rfl
    rw [show 2 * (d + 1) + 1 = (2 * d + 1) + 1 + 1 by omega, built_step _ acc y i hil hl _ hf (ok _ (List.getElem_mem hil)) (by omega), ih (i + 1) _ (by omega) (by omega) (by rw [List.length_append]; simp; omega), List.drop_eq_getElem_cons hil]
    simp [builtFrom]
theorem built_f (l : List S72) (ok : ∀ f ∈ l, okS f) (k : Nat) (hk : 41 ≤ k) : letterbaglaw35_Built.f k l = some (builtL l) := by
  have hmn : mn (l.length : Int) 20 = ((min l.length 20 : Nat) : Int) := by unfold mn; split <;> omega
  have hlen : (l.take 20).length = min l.length 20 := by rw [List.length_take]; omega
  have hok : ∀ f ∈ l.take 20, okS f := fun f hf => ok f (List.mem_of_mem_take hf)
  have h0 := built_loop (l.take 20) (by omega) hok (l.take 20).length 0 [] (by omega) (by omega) (by simp)
  have hf : letterbaglaw35_Built.f (2 * (l.take 20).length + 1) l = some (builtL l) := by
    unfold letterbaglaw35_Built.f
    rw [hmn, if_pos (by omega), if_pos (by omega), Int.toNat_natCast, Option.bind_some]
    have e : l.take (min l.length 20) = l.take 20 := by
      by_cases h : l.length ≤ 20
      · rw [Nat.min_eq_left h, List.take_of_length_le (Nat.le_refl _), List.take_of_length_le h]
      · rw [Nat.min_eq_right (by omega)]
    rw [e]
    exact h0
  exact at_rounds (fun k => letterbaglaw35_Built.mono l k) (show 2 * (l.take 20).length + 1 ≤ k by omega) hf
theorem builtFrom_len (i : Nat) (l : List S72) : (builtFrom i l).length = l.length := by
  induction l generalizing i with
  | nil => rfl
  | cons f l ih => simp [builtFrom, ih]
theorem built_len (l : List S72) : (builtL l).length ≤ 20 := by unfold builtL; rw [builtFrom_len, List.length_take]; omega
structure BO (o : S41) : Prop where
  right : rightO o = true
  id : 1 ≤ o.f0 ∧ o.f0 ≤ 20
  fr : 1 ≤ o.f1 ∧ o.f1 ≤ 5
  dst : 0 ≤ o.f2 ∧ o.f2 ≤ 6
  st : 0 ≤ o.f3 ∧ o.f3 ≤ 79
  en : 0 ≤ o.f4 ∧ o.f4 ≤ 98
  kind : 1 ≤ o.f5 ∧ o.f5 ≤ 3
theorem inB_true {n lo hi : Int} (h1 : lo ≤ n) (h2 : n ≤ hi) : inB n lo hi = true := by unfold inB; simp [h1, h2]
theorem built_one (i : Nat) (f : S72) (ok : okS f) : BO (builtO i f) := by
  obtain ⟨⟨a0, a1⟩, ⟨b0, b1⟩, ⟨c0, c1⟩, ⟨d0, d1⟩, ⟨e0, e1⟩⟩ := ok
  refine ⟨?_, by unfold builtO idB; simp only; omega, by unfold builtO; simp only; omega, ?_, by unfold builtO; simp only; omega, ?_, by unfold builtO; simp only; omega⟩
  · unfold rightO builtO idB
    simp only
    rw [inB_true (by omega) (by omega), inB_true (by omega) (by omega), inB_true (by omega) (by omega)]
    simp only [Bool.true_and]
    by_cases h1 : 1 + f.f0 % 3 = 1
    · rw [if_pos h1, if_neg (by omega)]
      by_cases h2 : 1 + f.f2 % 5 = 1 + f.f1 % 5
      · rw [if_pos h2, inB_true (by omega) (by omega), bne_iff_ne.2 (by omega), if_pos h1]; rfl
      · rw [if_neg h2, inB_true (by omega) (by omega), bne_iff_ne.2 h2, if_pos h1]; rfl
    · rw [if_neg h1]
      by_cases h3 : 1 + f.f0 % 3 = 2
      · rw [if_pos h3, if_neg (by omega), if_neg h1, inB_true (n := f.f3 % 80 + f.f4 % 20) (by omega) (by omega)]
        by_cases h2 : 1 + f.f2 % 5 = 1 + f.f1 % 5
        · rw [if_pos h2, inB_true (by omega) (by omega), bne_iff_ne.2 (by omega)]; rfl
        · rw [if_neg h2, inB_true (by omega) (by omega), bne_iff_ne.2 h2]; rfl
      · rw [if_neg h3, if_pos (by omega), if_pos (by omega), if_neg h1, inB_true (n := f.f3 % 80 + f.f4 % 20) (by omega) (by omega)]; rfl
  · unfold builtO; simp only; split
    · omega
    · split <;> omega
  · unfold builtO; simp only; split <;> omega
theorem builtFrom_all (i : Nat) (l : List S72) (ok : ∀ f ∈ l, okS f) : ∀ o ∈ builtFrom i l, BO o := by
  induction l generalizing i with
  | nil => intro o ho; cases ho
  | cons f l ih =>
    intro o ho
    rcases List.mem_cons.1 ho with rfl | ho
    · exact built_one i f (ok f (by simp))
    · exact ih (i + 1) (fun f hf => ok f (by simp [hf])) o ho
theorem built_all (l : List S72) (ok : ∀ f ∈ l, okS f) : ∀ o ∈ builtL l, BO o := builtFrom_all 0 _ (fun f hf => ok f (List.mem_of_mem_take hf))
theorem builtFrom_ids (i : Nat) (l : List S72) : (builtFrom i l).map (·.f0) = (List.range' i l.length).map idB := by
  induction l generalizing i with
  | nil => rfl
  | cons f l ih => simp [builtFrom, List.range'_succ, ih, builtO]
theorem ids_nd : ((List.range' 0 20).map idB).Nodup := by decide +kernel
theorem built_nd (l : List S72) : ((builtL l).map (·.f0)).Nodup := by
  unfold builtL
  rw [builtFrom_ids]
  refine ids_nd.sublist (List.Sublist.map _ ?_)
  have : (l.take 20).length ≤ 20 := by rw [List.length_take]; omega
  obtain ⟨m, hm⟩ : ∃ m, 20 = (l.take 20).length + m := ⟨20 - (l.take 20).length, by omega⟩
  conv => rhs; rw [hm, ← List.range'_append_1]
  exact List.sublist_append_left _ _
theorem rightL_mk {l : List S41} (h1 : l.length ≤ 500) (h2 : ∀ o ∈ l, rightO o = true) (h3 : (l.map (·.f0)).Nodup) : rightL l = true := by
  unfold rightL
  rw [decide_eq_true h1, decide_eq_true h3, List.all_eq_true.2 h2]; rfl
theorem built_right (l : List S72) (ok : ∀ f ∈ l, okS f) : rightL (builtL l) = true :=
  rightL_mk (Nat.le_trans (built_len l) (by omega)) (fun o ho => (built_all l ok o ho).right) (built_nd l)
end Go.Proofs.Ytgffddbhnggllaa.Ed
namespace Go.Proofs.Ytgffddbhnggllaa.Ed
open Go.RowKit Go.Shelf Go.Proofs.YtgffddbhnggllaaW.PrintWords QF
theorem grown_trans {w w1 w2 : World} {r : Option Nat} (h : w.grownBy w1 r) (k : w1.grownBy w2 r) : w.grownBy w2 r :=
  ⟨k.os.trans h.os, k.tape.trans h.tape, k.output.trans h.output, Nat.le_trans h.size k.size, fun i hi hn => (k.block i (Nat.lt_of_lt_of_le hi h.size) hn).trans (h.block i hi hn)⟩
theorem grown_weak {w w1 w2 : World} {r : Option Nat} (h : w.grownBy w1 r) (k : w1.grownBy w2 r) : w.grownBy w2 r := grown_trans h k
theorem inB_iff {n lo hi : Int} : inB n lo hi = true ↔ lo ≤ n ∧ n ≤ hi := by unfold inB; simp
theorem MP.look_int {W : World} {mb n : Nat} {M : Int → Option Int} (h : MP Try.prog 3 .i64 (Value.int .i64) W mb n M) (hv : ∀ d b, M d = some b → 0 ≤ b ∧ b ≤ n) (k : Int) (hw : (Lit.int .i64 k).wf = true) :
    ∃ c0, (Instr.lookup 82 (.map (some mb)) (.int .i64 k) false).run Try.prog W = .ok (.int .i64 c0) W ∧ 0 ≤ c0 ∧ c0 ≤ n := by
  have := h.lookup Try.underlying3 (t := 82) Try.underlying82 (Try.zeroValue3 W) k hw false
  cases hm : M k with
  | none => rw [hm] at this; exact ⟨0, this, by omega, by omega⟩
  | some b => rw [hm] at this; exact ⟨b, this, hv k b hm⟩
theorem rightO_bd {o : S41} (h : rightO o = true) : 0 ≤ o.f3 ∧ o.f3 ≤ 730484 ∧ 0 ≤ o.f4 ∧ o.f4 ≤ 730484 := by
  unfold rightO at h
  simp only [Bool.and_eq_true] at h
  obtain ⟨_, _, h3, h4⟩ := h
  have h3 := inB_iff.1 h3
  refine ⟨h3.1, h3.2, ?_⟩
  split at h4
  · simp at h4; omega
  · split at h4
    · simp only [Bool.and_eq_true, inB_iff] at h4; omega
    · split at h4
      · simp only [Bool.and_eq_true, inB_iff] at h4; omega
      · cases h4
theorem grown_then {w W W' : World} {r : Option Nat} (h : w.grownBy W r) (hb : Below W.heap.size W W') : w.grownBy W' r :=
  ⟨hb.os.trans h.os, hb.tape.trans h.tape, hb.output.trans h.output, Nat.le_trans h.size hb.size, fun k hk hn => (hb.block k (Nat.lt_of_lt_of_le hk h.size)).trans (h.block k hk hn)⟩
def accJ (first last : Int) (acc : List Int) (o : S41) : Nat → List Int
  | 0 => acc
  | 1 => addA first last acc o
  | _ => addB first last (addA first last acc o) o
theorem days_first (first last : Int) (L : List S41) : first ∈ daysF first last L := by
  unfold daysF
  have h : first ∈ [first] := by simp
  revert h
  generalize [first] = acc
  induction L generalizing acc with
  | nil => exact id
  | cons o L ih =>
    intro h
    refine ih _ ?_
    unfold addD addB addA
    have h1 : first ∈ (if inB o.f3 first last = true then insI o.f3 acc else acc) := by
      split
      · exact (mem_insI _ _ _).2 (.inr h)
      · exact h
    split
    · exact (mem_insI _ _ _).2 (.inr h1)
    · exact h1
theorem mem_putF {M : Int → Option Int} {k b x : Int} : putF M k b x ≠ none ↔ x = k ∨ M x ≠ none := by
  unfold putF
  by_cases e : x = k
  · rw [if_pos e]; simp [e]
  · rw [if_neg e]; simp [e]
theorem putF_bd {M : Int → Option Int} {n : Nat} {k c : Int} (hv : ∀ d b, M d = some b → 0 ≤ b ∧ b ≤ n) (h0 : 0 ≤ c) (h1 : c ≤ ((n + 1 : Nat) : Int)) (x b : Int) (h : putF M k c x = some b) : 0 ≤ b ∧ b ≤ ((n + 1 : Nat) : Int) := by
  unfold putF at h
  split at h
  · cases h; exact ⟨h0, h1⟩
  · have := hv x b h; omega
set_option maxRecDepth 1000000 in
set_option maxHeartbeats 8000000 in
theorem spans64_calls (v : Value) (base : Nat) (L : List S41) (first last : Int) (w : World) (hv : RV w base v L) (hL : ∀ o ∈ L, rightO o = true) (hn : L.length ≤ 500) (h1 : 0 ≤ first) (h2 : first ≤ last) (h3 : last ≤ 730484) :
    Calls Try.prog 64 #[v, .int .i64 first, .int .i64 last] w fun e w' => ∃ Bs Bl Bc sv, e = .returned (.func (.func 91) #[] #[.pointer (some ⟨Bs, 0, none⟩), .pointer (some ⟨Bl, 0, none⟩), .pointer (some ⟨Bc, 0, none⟩)]) ∧
      w'.heap[Bs]? = some (.cells #[sv] 26 (0, 0)) ∧ w'.heap[Bl]? = some (.cells #[.int .i64 last] 3 (0, 0)) ∧ w'.heap[Bc]? = some (.cells #[v] 98 (0, 0)) ∧ w'.ownsRow w.heap.size 3 1 sv (daysF first last L).length ((daysF first last L).map (Value.int .i64)) ∧ Below w.heap.size w w' := by
  have hmm := @run_makeMap Try.prog
  obtain ⟨A0, c, rfl, hc, hr⟩ := Kd.R_reads hv.R
  obtain ⟨wa, hwa⟩ : ∃ wa, (w.alloc (.cells #[.slice A0 L.length c] 98)).alloc (.cells #[.int .i64 last] 3) = wa := ⟨_, rfl⟩
  have hsz : wa.heap.size = w.heap.size + 1 + 1 := by rw [← hwa]; simp
  obtain ⟨W1, hrun, hM1, hg1⟩ := (MP.made (β := Int) (P := Try.prog) (kt := 3) (q := .i64) (enc := Value.int .i64) wa).upd Try.underlying3 (t := 82) Try.underlying82 (by unfold maxLen; omega) first (i64wf _ (by omega) (by omega)) 1
  have hBc : W1.heap[w.heap.size]? = some (.cells #[.slice A0 L.length c] 98 (0, 0)) := by
    refine blk_grown (blk_alloc ?_ _) hg1 (fun e => by injection e; omega)
    rw [← hwa]; exact blk_alloc (blk_new w _) _
  have hBl : W1.heap[w.heap.size + 1]? = some (.cells #[.int .i64 last] 3 (0, 0)) := by
    refine blk_grown (blk_alloc ?_ _) hg1 (fun e => by injection e; omega)
    rw [← hwa]
    have := blk_new (w.alloc (.cells #[.slice A0 L.length c] 98)) (.cells #[.int .i64 last] 3)
    rwa [World.size_alloc] at this
  have hB1 : Below w.heap.size w W1 := by
    have : Below w.heap.size w (wa.alloc (.map #[] 0)) := by
      rw [← hwa]; exact below_alloc (below_alloc (below_alloc (Below.refl _ _) _) _) _
    exact this.grown hg1 this.size (fun j e => by cases e; omega)
  rw [hsz, ← hwa] at hrun
  rw [hsz] at hM1
  have HR := Lib.hid hr
  have HM0 := Lib.hid hM1
  have HB1 := Lib.hid hB1
  have HBC := Lib.hid hBc
  have HBL := Lib.hid hBl
  have c1 : W1.cell? ⟨w.heap.size, 0, none⟩ = some (.slice A0 L.length c) := (blk_cell hBc 0).trans rfl
  have hLL := Lib.hid hL
  have ms : w.heap.size + 1 + 1 < W1.heap.size := hM1.lt
  clear hwa hsz hr hM1 hg1 hv hB1 hBc hBl hL
  go_enter Try.func64, Try.ntmps64
  go_wp2
  go_loopw [18] (fun x W => ∃ (k n : Nat) (M : Int → Option Int), x = .int .i64 (k : Int) ∧ k ≤ L.length ∧ n ≤ 2 * k + 1 ∧ MP Try.prog 3 .i64 (Value.int .i64) W (w.heap.size + 1 + 1) n M ∧ (∀ d, d ∈ daysF first last (L.take k) ↔ M d ≠ none) ∧ W1.grownBy W (some (w.heap.size + 1 + 1)) ∧ (∀ d b, M d = some b → 0 ≤ b ∧ b ≤ n)) (fun x W => L.length - (intOf x).toNat)
  case atStart =>
    refine ⟨0, 1, _, rfl, Nat.zero_le _, by omega, HM0.out, fun d => ?_, ⟨rfl, rfl, rfl, Nat.le_refl _, fun _ _ _ => rfl⟩, fun d b hb => putF_bd (n := 0) (fun _ _ h => by cases h) (by omega) (by omega) d b hb⟩
    rw [mem_putF]; simp [daysF]
  case round =>
    clear c1 HM0 hrun
    obtain ⟨k, n0, M0, rfl, hk, hn0, hM0, hD0, hG0, hV0⟩ := hrel
    have HM0 := Lib.hid hM0
    have HD0 := Lib.hid hD0
    have HG0 := Lib.hid hG0
    have HV0 := Lib.hid hV0
    clear hM0 hD0 hG0 hV0
    by_cases hkl : k < L.length
    · have hBx : Below w.heap.size w wr := HB1.out.grown HG0.out HB1.out.size (fun j e => by cases e; omega)
      obtain ⟨ad, e0, hx0, hx1, hx2, hx3, hx4, hx5⟩ := at_T41 (Kd.C_below HR.out hBx) (k : Int) (by omega) (by omega)
      subst e0
      simp only [Int.toNat_natCast] at hx0 hx1 hx2 hx3 hx4 hx5
      have kk : (k : Int) < (L.length : Int) := by omega
      obtain ⟨o, ho⟩ : ∃ o, rd_T41 L (k : Int) = o := ⟨_, rfl⟩
      rw [ho] at hx0 hx1 hx2 hx3 hx4 hx5
      have hgo : L[k] = o := by rw [← ho]; unfold rd_T41; rw [Int.toNat_natCast, List.getD_eq_getElem?_getD, List.getElem?_eq_getElem hkl]; rfl
      have htk : L.take (k + 1) = L.take k ++ [o] := by
        rw [List.take_add_one, List.getElem?_eq_getElem hkl, Option.toList_some, hgo]
      have hro := hLL.out o (by rw [← hgo]; exact List.getElem_mem hkl)
      obtain ⟨r1, r2, r3, r4⟩ := rightO_bd hro
      have HT := Lib.hid htk
      clear ho hgo htk hro
      go_upto_region 5 with ((with_reducible refine gate_dst (N := 9) rfl ?_); refine box_event ?hg (N := 9) ?hd (cs := #[.int .i64 0, .int .i64 0, .int .i64 0, .int .i64 0, .int .i64 0, .int .u8 0]) (t := 41) ?hr ?_; (case hd => rfl); (case hg => rfl); (case hr => first | (go_simp; done) | (go_simp; rfl)); intro gb hg w1 hbox hb; have HM1 := Lib.hid hb; have HGB := Lib.hid hg; clear hg hb hx0 hx1 hx2 hx3 hx4 hx5; have y0 : w1.cell? ⟨gb, 0, none⟩ = some (.int .i64 0) := (blk_cell hbox 0).trans rfl; have y1 : w1.cell? ⟨gb, 1, none⟩ = some (.int .i64 0) := (blk_cell hbox 1).trans rfl; have y2 : w1.cell? ⟨gb, 2, none⟩ = some (.int .i64 0) := (blk_cell hbox 2).trans rfl; have y3 : w1.cell? ⟨gb, 3, none⟩ = some (.int .i64 0) := (blk_cell hbox 3).trans rfl; have y4 : w1.cell? ⟨gb, 4, none⟩ = some (.int .i64 0) := (blk_cell hbox 4).trans rfl; have y5 : w1.cell? ⟨gb, 5, none⟩ = some (.int .u8 0) := (blk_cell hbox 5).trans rfl; have f0 := blk_frozen hbox 0; have f1 := blk_frozen hbox 1; have f2 := blk_frozen hbox 2; have f3 := blk_frozen hbox 3; have f4 := blk_frozen hbox 4; have f5 := blk_frozen hbox 5)
      have hb6 := put6_box hbox o
      have hgb : wr.heap.size ≤ gb := by rw [HGB.out]; exact Nat.le_refl _
      have hB6 : Below wr.heap.size wr (put6 w1 gb o) := put6_below HM1.out hgb o
      show Code.wp _ _ _ _ (put6 w1 gb o)
      generalize put6 w1 gb o = W6 at hb6 hB6 ⊢
      clear y0 y1 y2 y3 y4 y5 f0 f1 f2 f3 f4 f5 hbox HM1 HGB
      have hM6 := HM0.out.below hB6
      have hG6 := grown_then HG0.out hB6
      have hmgb : w.heap.size + 1 + 1 < gb := Nat.lt_of_lt_of_le HM0.out.lt hgb
      obtain ⟨x0, x1, x2, x3, x4, x5⟩ := six_cell hb6
      have H6 := Lib.hid hb6
      have HM6 := Lib.hid hM6
      have HG6 := Lib.hid hG6
      clear hb6 hB6 hM6 hG6 HM0 HG0
      go_wp2
      obtain ⟨gl, hgl⟩ : ∃ gl, W6.heap.size = gl := ⟨_, rfl⟩
      rw [hgl]
      obtain ⟨W7, hW7⟩ : ∃ W7, W6.alloc (.cells #[.int .i64 o.f3, .int .i64 (o.f4 + 1)] 3) = W7 := ⟨_, rfl⟩
      rw [hW7]
      have hb67 : Below W6.heap.size W6 W7 := by rw [← hW7]; exact below_alloc (Below.refl _ _) _
      have HL2 : Hid (W7.heap[gl]? = some (.cells #[.int .i64 o.f3, .int .i64 (o.f4 + 1)] 3 (0, 0))) := by show _ = _; rw [← hW7, ← hgl]; exact blk_new _ _
      have HBX := Lib.hid (blk_below H6.out hb67)
      have HM7 := Lib.hid (HM6.out.below hb67)
      have HG2 := Lib.hid (grown_then HG6.out hb67)
      have HBL2 := Lib.hid (blk_grown HBL.out HG2.out (fun e => by injection e; omega))
      have hgg : gb < gl := by rw [← hgl]; exact blk_lt H6.out
      have HNB : Hid (some gb = some (w.heap.size + 1 + 1) → False) := fun e => by injection e; omega
      have HNL : Hid (some gl = some (w.heap.size + 1 + 1) → False) := fun e => by injection e; omega
      clear x0 x1 x2 x3 x4 x5 H6 HM6 HG6 hb67 hW7 hgl
      go_loopw [29] (fun x W => ∃ (j n : Nat) (M : Int → Option Int), x = .int .i64 (j : Int) ∧ j ≤ 2 ∧ n ≤ 2 * k + 1 + j ∧ MP Try.prog 3 .i64 (Value.int .i64) W (w.heap.size + 1 + 1) n M ∧ (∀ d, d ∈ accJ first last (daysF first last (L.take k)) o j ↔ M d ≠ none) ∧ W7.grownBy W (some (w.heap.size + 1 + 1)) ∧ (∀ d b, M d = some b → 0 ≤ b ∧ b ≤ n)) (fun x W => 2 - (intOf x).toNat)
      case atStart => exact ⟨0, n0, M0, rfl, by omega, by omega, HM7.out, HD0.out, ⟨rfl, rfl, rfl, Nat.le_refl _, fun _ _ _ => rfl⟩, HV0.out⟩
      case round =>
        clear HM7
        obtain ⟨j, n, M, rfl, hj, hn2, hM, hD, hGI, hV⟩ := hrel
        have HM := Lib.hid hM
        have HD := Lib.hid hD
        have HGI := Lib.hid hGI
        have HV := Lib.hid hV
        clear hM hD hGI hV
        obtain ⟨x0, x1, x2, x3, x4, x5⟩ := six_cell (blk_grown HBX.out HGI.out (fun e => HNB.out e))
        have l1 : wr.cell? ⟨w.heap.size + 1, 0, none⟩ = some (.int .i64 last) := (blk_cell (blk_grown HBL2.out HGI.out (fun e => by injection e; omega)) 0).trans rfl
        rcases (show j = 0 ∨ j = 1 ∨ j = 2 by omega) with rfl | rfl | rfl
        · have d0 : wr.cell? ⟨gl, 0, none⟩ = some (.int .i64 o.f3) := (blk_cell (blk_grown HL2.out HGI.out (fun e => HNL.out e)) 0).trans rfl
          cases hin : inB o.f3 first last with
          | true =>
            have hin2 := Lib.hid hin
            have q1 : first ≤ o.f3 ∧ o.f3 ≤ last := inB_iff.1 hin
            have q2 := q1.1
            have q3 := q1.2
            clear q1
            obtain ⟨c0, hlook, c00, c01⟩ := MP.look_int HM.out HV.out o.f3 (i64wf _ (by omega) (by omega))
            have hn1 : n ≤ 2000 := by omega
            obtain ⟨W', hrun, hM', hg'⟩ := MP.upd HM.out Try.underlying3 (t := 82) Try.underlying82 (by unfold maxLen; omega) o.f3 (i64wf _ (by omega) (by omega)) (c0 + 1)
            have HM' := Lib.hid hM'
            have HG' := Lib.hid (grown_trans HGI.out hg')
            clear hM' hg'
            have c02 : c0 ≤ 2000 := by omega
            go_wp2_with (go_at_call 61; (with_reducible refine (within_q _ _ _ _).mono ?_); rintro e w' ⟨rfl, rfl⟩)
            go_roundw
            case rel => exact ⟨1, n + 1, _, by go_num, by omega, by omega, HM'.out, fun x => by rw [mem_putF, ← HD.out]; show x ∈ addA first last (daysF first last (L.take k)) o ↔ _; unfold addA; rw [if_pos hin2.out]; exact mem_insI _ _ _, HG'.out, fun x b hb => putF_bd HV.out (by omega) (by omega) x b hb⟩
            case measure => simp only [intOf]; omega
          | false =>
            have hin2 := Lib.hid hin
            go_wp2_with (go_at_call 61; (with_reducible refine (within_q _ _ _ _).mono ?_); rintro e w' ⟨rfl, rfl⟩)
            go_roundw
            case rel => exact ⟨1, n, M, by go_num, by omega, by omega, HM.out, fun x => by rw [← HD.out]; show x ∈ addA first last (daysF first last (L.take k)) o ↔ _; unfold addA; rw [if_neg (by rw [hin2.out]; simp)]; exact Iff.rfl, HGI.out, HV.out⟩
            case measure => simp only [intOf]; omega
        · have d1 : wr.cell? ⟨gl, 1, none⟩ = some (.int .i64 (o.f4 + 1)) := (blk_cell (blk_grown HL2.out HGI.out (fun e => HNL.out e)) 1).trans rfl
          cases hin : inB (o.f4 + 1) first last with
          | true =>
            have hin2 := Lib.hid hin
            have q1 : first ≤ o.f4 + 1 ∧ o.f4 + 1 ≤ last := inB_iff.1 hin
            have q2 := q1.1
            have q3 := q1.2
            clear q1
            by_cases he : o.f4 + 1 = o.f3
            · have b1 : (o.f4 + 1 == o.f3) = true := beq_iff_eq.2 he
              have B1 := Lib.hid b1
              clear he
              obtain ⟨c0, hlook, c00, c01⟩ := MP.look_int HM.out HV.out (o.f4 + 1) (i64wf _ (by omega) (by omega))
              have hn1 : n ≤ 2000 := by omega
              obtain ⟨W', hrun, hM', hg'⟩ := MP.upd HM.out Try.underlying3 (t := 82) Try.underlying82 (by unfold maxLen; omega) (o.f4 + 1) (i64wf _ (by omega) (by omega)) (c0 + 1)
              have HM' := Lib.hid hM'
              have HG' := Lib.hid (grown_trans HGI.out hg')
              clear hM' hg'
              have c02 : c0 ≤ 2000 := by omega
              go_wp2_with (go_at_call 61; (with_reducible refine (within_q _ _ _ _).mono ?_); rintro e w' ⟨rfl, rfl⟩)
              go_roundw
              case rel => exact ⟨2, n + 1, _, by go_num, by omega, by omega, HM'.out, fun x => by rw [mem_putF, ← HD.out]; show x ∈ addB first last (addA first last (daysF first last (L.take k)) o) o ↔ _; unfold addB; rw [if_pos (by rw [hin2.out, B1.out]; rfl)]; exact mem_insI _ _ _, HG'.out, fun x b hb => putF_bd HV.out (by omega) (by omega) x b hb⟩
              case measure => simp only [intOf]; omega
            · have b1 : (o.f4 + 1 == o.f3) = false := beq_eq_false_iff_ne.2 he
              have B1 := Lib.hid b1
              clear he
              by_cases hk1 : o.f5 = 1
              · have b2 : (o.f5 != 1) = false := by rw [hk1]; rfl
                have B2 := Lib.hid b2
                clear hk1
                go_wp2_with (go_at_call 61; (with_reducible refine (within_q _ _ _ _).mono ?_); rintro e w' ⟨rfl, rfl⟩)
                go_roundw
                case rel => exact ⟨2, n, M, by go_num, by omega, by omega, HM.out, fun x => by rw [← HD.out]; show x ∈ addB first last (addA first last (daysF first last (L.take k)) o) o ↔ _; unfold addB; rw [if_neg (by rw [hin2.out, B1.out, B2.out]; simp)]; exact Iff.rfl, HGI.out, HV.out⟩
                case measure => simp only [intOf]; omega
              · have b2 : (o.f5 != 1) = true := bne_iff_ne.2 hk1
                have B2 := Lib.hid b2
                clear hk1
                obtain ⟨c0, hlook, c00, c01⟩ := MP.look_int HM.out HV.out (o.f4 + 1) (i64wf _ (by omega) (by omega))
                have hn1 : n ≤ 2000 := by omega
                obtain ⟨W', hrun, hM', hg'⟩ := MP.upd HM.out Try.underlying3 (t := 82) Try.underlying82 (by unfold maxLen; omega) (o.f4 + 1) (i64wf _ (by omega) (by omega)) (c0 + 1)
                have HM' := Lib.hid hM'
                have HG' := Lib.hid (grown_trans HGI.out hg')
                clear hM' hg'
                have c02 : c0 ≤ 2000 := by omega
                go_wp2_with (go_at_call 61; (with_reducible refine (within_q _ _ _ _).mono ?_); rintro e w' ⟨rfl, rfl⟩)
                go_roundw
                case rel => exact ⟨2, n + 1, _, by go_num, by omega, by omega, HM'.out, fun x => by rw [mem_putF, ← HD.out]; show x ∈ addB first last (addA first last (daysF first last (L.take k)) o) o ↔ _; unfold addB; rw [if_pos (by rw [hin2.out, B1.out, B2.out]; rfl)]; exact mem_insI _ _ _, HG'.out, fun x b hb => putF_bd HV.out (by omega) (by omega) x b hb⟩
                case measure => simp only [intOf]; omega
          | false =>
            have hin2 := Lib.hid hin
            go_wp2_with (go_at_call 61; (with_reducible refine (within_q _ _ _ _).mono ?_); rintro e w' ⟨rfl, rfl⟩)
            go_roundw
            case rel => exact ⟨2, n, M, by go_num, by omega, by omega, HM.out, fun x => by rw [← HD.out]; show x ∈ addB first last (addA first last (daysF first last (L.take k)) o) o ↔ _; unfold addB; rw [if_neg (by rw [hin2.out]; simp)]; exact Iff.rfl, HGI.out, HV.out⟩
            case measure => simp only [intOf]; omega
        · have hTK := HT.out
          go_wp2
          go_roundw
          case rel => exact ⟨k + 1, n, M, by go_num, hkl, by omega, HM.out, fun x => by rw [← HD.out, hTK]; unfold daysF; rw [List.foldl_append]; rfl, grown_weak HG2.out HGI.out, HV.out⟩
          case measure => simp only [intOf]; omega
    · obtain rfl : k = L.length := by omega
      have hD : ∀ x, x ∈ daysF first last L ↔ M0 x ≠ none := fun x => by have := HD0.out x; rwa [List.take_length] at this
      have hbw : Below w.heap.size w wr := HB1.out.grown HG0.out HB1.out.size (fun j e => by cases e; omega)
      have hbA : Below wr.heap.size wr (wr.alloc (.cells #[.map (some (w.heap.size + 1 + 1))] 82)) := below_alloc (Below.refl _ _) _
      have c90 := keys90_calls (some (w.heap.size + 1 + 1)) wr
      have cS := sorted106_calls (wr.alloc (.cells #[.map (some (w.heap.size + 1 + 1))] 82)) wr.heap.size (w.heap.size + 1 + 1) n0 M0 ((blk_cell (blk_new _ _) 0).trans rfl) (HM0.out.below hbA) (by omega) (daysF first last L) (asc_days _ _ _) hD
      have hlen : 0 < (daysF first last L).length := List.length_pos_of_mem (days_first first last L)
      have HBW := Lib.hid hbw
      have HBA := Lib.hid hbA
      have HBL2 := Lib.hid (blk_grown HBL.out HG0.out (fun e => by injection e; omega))
      have HBC2 := Lib.hid (blk_grown HBC.out HG0.out (fun e => by injection e; omega))
      clear hD hbw hbA
      go_wp2_with (first | (go_at_call 90; (with_reducible refine c90.mono ?_); rintro e w' ⟨rfl, rfl⟩) | (go_at_call 69; (with_reducible refine cS.mono ?_); rintro e w2 ⟨sv, rfl, hrow, hb2⟩; obtain ⟨q1, ⟨_, q2⟩ | ⟨gs, cs, cu, rfl, qs⟩⟩ := hrow; (exfalso; omega); have HRW := Lib.hid (show w2.ownsRow _ 3 1 _ _ _ from ⟨q1, .inr ⟨gs, cs, cu, rfl, qs⟩⟩); have HB2 := Lib.hid (HBA.out.trans (hb2.mono (by simp))); clear hb2 qs q1))
      go_ret
      refine ⟨w2.heap.size, w.heap.size + 1, w.heap.size, _, rfl, blk_new _ _, blk_alloc (blk_below HBL2.out HB2.out) _, blk_alloc (blk_below HBC2.out HB2.out) _, own_less (HRW.out.alloc _) (by rw [World.size_alloc]; have := HBW.out.size; omega), below_alloc (below_step HBW.out HB2.out) _⟩
end Go.Proofs.Ytgffddbhnggllaa.Ed
namespace Go.Proofs.Ytgffddbhnggllaa.Ed
open Go.RowKit Go.Shelf Go.Proofs.YtgffddbhnggllaaW.PrintWords QF
attribute [local go_sem] Oper.semAt_some
def idF (l : List S41) : Int := match l with | [] => 0 | o :: _ => o.f0
def spanAt (last : Int) (L : List S41) (starts : List Int) (k : Nat) : S54 :=
  ⟨starts[k]?.getD 0, if k + 1 < starts.length then starts[k + 1]?.getD 0 - 1 else last, idF (onF L (starts[k]?.getD 0))⟩
def upto {α : Type} (f : Nat → α) (k : Nat) : List α := (List.range k).map f
theorem upto_succ {α : Type} (f : Nat → α) (k : Nat) : upto f (k + 1) = upto f k ++ [f k] := by simp [upto, List.range_succ]
theorem upto_length {α : Type} (f : Nat → α) (k : Nat) : (upto f k).length = k := by simp [upto]
def enc54 (s : S54) : Value := .agg #[.int .i64 s.f0, .int .i64 s.f1, .int .i64 s.f2]
structure SK (n₀ Bo : Nat) (A B : World) : Prop where
  os : B.os = A.os
  tape : B.tape = A.tape
  output : B.output = A.output
  size : A.heap.size ≤ B.heap.size
  same : ∀ k, k < n₀ → k ≠ Bo → B.heap[k]? = A.heap[k]?
theorem SK.refl {n₀ Bo : Nat} {A : World} : SK n₀ Bo A A := ⟨rfl, rfl, rfl, Nat.le_refl _, fun _ _ _ => rfl⟩
theorem SK.trans {n₀ Bo : Nat} {A B C : World} (h : SK n₀ Bo A B) (k : SK n₀ Bo B C) : SK n₀ Bo A C :=
  ⟨k.os.trans h.os, k.tape.trans h.tape, k.output.trans h.output, Nat.le_trans h.size k.size, fun i h1 h2 => (k.same i h1 h2).trans (h.same i h1 h2)⟩
theorem SK.grown {n₀ Bo : Nat} {A B : World} {r : Option Nat} (h : A.grownBy B r) (hn : n₀ ≤ A.heap.size) (hr : ∀ k, r = some k → n₀ ≤ k ∨ k = Bo) : SK n₀ Bo A B :=
  ⟨h.os, h.tape, h.output, h.size, fun k h1 h2 => h.block k (Nat.lt_of_lt_of_le h1 hn) (fun e => by rcases hr k e.symm with q | q <;> omega)⟩
theorem SK.of_below {n₀ Bo : Nat} {W W' : World} (hb : Below W.heap.size W W') (hn : n₀ ≤ W.heap.size) : SK n₀ Bo W W' := SK.grown (grown_of_below hb none) hn (fun k e => by cases e)
theorem SK.below {n₀ Bo : Nat} {w0 W W' : World} (h : SK n₀ Bo w0 W) (hn : n₀ ≤ w0.heap.size) (hb : Below W.heap.size W W') : SK n₀ Bo w0 W' := h.trans (SK.of_below hb (Nat.le_trans hn h.size))
set_option maxRecDepth 1000000 in
set_option maxHeartbeats 4000000 in
theorem iter91 (n : Nat) (hn : 1 ≤ n) (l n₀ Bo Bs Bl Bc gs cs base : Nat) (cu : Array Value) (cv : Value) (starts : List Int) (last : Int) (Lc : List S41) (w0 : World)
    (hs : w0.heap[Bs]? = some (.cells #[.slice (some ⟨gs, 0, none⟩) starts.length cs] 26 (0, 0))) (hl : w0.heap[Bl]? = some (.cells #[.int .i64 last] 3 (0, 0))) (hc : w0.heap[Bc]? = some (.cells #[cv] 98 (0, 0)))
    (hg : w0.heap[gs]? = some (.cells cu 3 (0, 0))) (hcu : cu.toList.take starts.length = starts.map (Value.int .i64)) (hv : RV w0 base cv Lc)
    (b1 : Bs < n₀ ∧ Bs ≠ Bo) (b2 : Bl < n₀ ∧ Bl ≠ Bo) (b3 : Bc < n₀ ∧ Bc ≠ Bo) (b4 : gs < n₀ ∧ gs ≠ Bo) (b5 : ∀ g, cv.ownBlock = some g → g < n₀ ∧ g ≠ Bo)
    (hn0 : n₀ ≤ w0.heap.size) (hLn : Lc.length ≤ 500) (hnd : (Lc.map (·.f0)).Nodup) (hsl : starts.length ≤ 100000) (hst : ∀ x ∈ starts, 0 ≤ x ∧ x ≤ 1000000)
    (J Jx : List S54 → World → Prop) (W : World) (hJ : AbidesFrom W.heap.size J) (Kp : World → World → Prop) (hKp : ∀ A B, Kp A B → SK n₀ Bo w0 A → SK n₀ Bo w0 B)
    (hY : ∀ pre x W1, J pre W1 → pre.length < starts.length → YieldAt Fence.wide (n - 1) Try.prog l #[enc54 x] W1 fun e W' =>
      (e = .returned (.bool true) ∧ J (pre ++ [x]) W' ∧ Kp W1 W') ∨ (e = .returned (.bool false) ∧ Jx (pre ++ [x]) W'))
    (hW : SK n₀ Bo w0 W) (h0 : J [] W) :
    CallsIn Fence.wide n Try.prog 91 #[.func (.yield l) #[] #[], .pointer (some ⟨Bs, 0, none⟩), .pointer (some ⟨Bl, 0, none⟩), .pointer (some ⟨Bc, 0, none⟩)] W fun e W' => (∃ v, e = .returned v) ∧
      ((∃ ys, ys = upto (spanAt last Lc starts) starts.length ∧ J ys W') ∨ (∃ pre, True ∧ Jx pre W')) := by
  have s1 := fun W (h : SK n₀ Bo w0 W) => (h.same Bs b1.1 b1.2).trans hs
  have s2 := fun W (h : SK n₀ Bo w0 W) => (h.same Bl b2.1 b2.2).trans hl
  have s3 := fun W (h : SK n₀ Bo w0 W) => (h.same Bc b3.1 b3.2).trans hc
  have s4 := fun W (h : SK n₀ Bo w0 W) => (h.same gs b4.1 b4.2).trans hg
  have s5 : ∀ W, SK n₀ Bo w0 W → RV W base cv Lc := fun W h => by
    rcases hv with h' | ⟨g, cap, e, hg, hR⟩
    · exact .inl h'
    · refine .inr ⟨g, cap, e, hg, hR.same (h.same g ?_ ?_)⟩
      · exact (b5 g (by rw [e]; rfl)).1
      · exact (b5 g (by rw [e]; rfl)).2
  have hcell : ∀ W, SK n₀ Bo w0 W → ∀ k, k < starts.length → W.cell? ⟨gs, k, none⟩ = some (.int .i64 (starts[k]?.getD 0)) := fun W h k hk => by
    rw [blk_cell (s4 W h), ← Array.getElem?_toList]
    have : (cu.toList.take starts.length)[k]? = (starts.map (Value.int .i64))[k]? := by rw [hcu]
    rw [List.getElem?_take_of_lt hk, List.getElem?_map] at this
    rw [this, List.getElem?_eq_getElem hk]; rfl
  have S1 := Lib.hid s1
  have S2 := Lib.hid s2
  have S3 := Lib.hid s3
  have S5 := Lib.hid s5
  have HC := Lib.hid hcell
  have HJ := Lib.hid hJ
  have HY := Lib.hid hY
  have HKP := Lib.hid hKp
  have HND := Lib.hid hnd
  have HST := Lib.hid hst
  have c1 : W.cell? ⟨Bs, 0, none⟩ = some (.slice (some ⟨gs, 0, none⟩) starts.length cs) := (blk_cell (s1 W hW) 0).trans rfl
  clear s1 s2 s3 s4 s5 hcell hs hl hc hg hcu hv hJ hY hKp hnd hst
  refine callsIn_of_wp Try.func91 rfl trivial ?_ rfl
  simp only [Try.ntmps91, List.size_toArray, List.length_cons, List.length_nil, Nat.reduceAdd, Nat.reduceSub, Array.replicate_succ, Array.replicate_zero, List.push_toArray, List.append_toArray, List.nil_append, List.cons_append]
  gi_wp2
  gi_loopw [11] (fun i wr => ∃ k : Nat, k ≤ starts.length ∧ i = .int .i64 k ∧ J (upto (spanAt last Lc starts) k) wr ∧ SK n₀ Bo w0 wr) (fun i _ => starts.length - (intOf i).toNat)
  case atStart => exact ⟨0, Nat.zero_le _, rfl, h0, hW⟩
  case round =>
    clear c1
    obtain ⟨k, hk, rfl, hJs, hSK⟩ := hrel
    have d1 : wr.cell? ⟨Bs, 0, none⟩ = some (.slice (some ⟨gs, 0, none⟩) starts.length cs) := (blk_cell (S1.out wr hSK) 0).trans rfl
    have d2 : wr.cell? ⟨Bl, 0, none⟩ = some (.int .i64 last) := (blk_cell (S2.out wr hSK) 0).trans rfl
    have d3 : wr.cell? ⟨Bc, 0, none⟩ = some cv := (blk_cell (S3.out wr hSK) 0).trans rfl
    have e1 : Bs < wr.heap.size := Nat.lt_of_lt_of_le b1.1 (Nat.le_trans hn0 hSK.size)
    have e2 : Bl < wr.heap.size := Nat.lt_of_lt_of_le b2.1 (Nat.le_trans hn0 hSK.size)
    have e3 : Bc < wr.heap.size := Nat.lt_of_lt_of_le b3.1 (Nat.le_trans hn0 hSK.size)
    have e4 : gs < wr.heap.size := Nat.lt_of_lt_of_le b4.1 (Nat.le_trans hn0 hSK.size)
    by_cases hlt : k < starts.length
    · have d4 := HC.out wr hSK k hlt
      obtain ⟨d, hd⟩ : ∃ d, starts[k]?.getD 0 = d := ⟨_, rfl⟩
      have HD := Lib.hid hd
      rw [hd] at d4
      clear hd
      by_cases hl2 : k + 1 < starts.length
      · have d5 := HC.out wr hSK (k + 1) hl2
        obtain ⟨x, hx⟩ : ∃ x, starts[k + 1]?.getD 0 = x := ⟨_, rfl⟩
        have hxb : 0 ≤ x ∧ x ≤ 1000000 := by rw [← hx, List.getElem?_eq_getElem hl2]; exact HST.out _ (List.getElem_mem hl2)
        rw [hx] at d5
        have q1 := hxb.1
        have q2 := hxb.2
        have HX : Hid (spanAt last Lc starts k = ⟨d, x - 1, idF (onF Lc d)⟩) := by show _ = _; unfold spanAt; rw [HD.out, if_pos hl2, hx]
        have hlz : (k : Int) + 1 < (starts.length : Int) := by omega
        clear hx hxb
        gi_wp2
        obtain ⟨lst, hlst⟩ : ∃ lst, x - 1 = lst := ⟨_, rfl⟩
        rw [hlst] at HX ⊢
        clear hlst d5 q1 q2
        refine ⟨trivial, ?_⟩
        refine (callsIn_wide.2 (on63_calls cv base Lc d _ ((S5.out wr hSK).below (below_alloc (Below.refl _ _) _)) (by omega) HND.out)).mono ?_
        rintro e w2 ⟨v', rfl, hR2, hb2⟩
        have hbx : w2.heap[wr.heap.size]? = some (.cells #[.int .i64 d, .int .i64 lst, .int .i64 0] 54 (0, 0)) := blk_below (blk_new _ _) hb2
        have hb3 : Below wr.heap.size wr w2 := below_step (below_alloc (Below.refl _ _) _) hb2
        have hz2 : wr.heap.size < w2.heap.size := blk_lt hbx
        have y0 : w2.cell? ⟨wr.heap.size, 0, none⟩ = some (.int .i64 d) := (blk_cell hbx 0).trans rfl
        have y1 : w2.cell? ⟨wr.heap.size, 1, none⟩ = some (.int .i64 lst) := (blk_cell hbx 1).trans rfl
        have y2 : w2.cell? ⟨wr.heap.size, 2, none⟩ = some (.int .i64 0) := (blk_cell hbx 2).trans rfl
        have yf := fun i => blk_frozen hbx i
        have yf2 := yf 2
        clear yf hbx hb2
        have HB3 := Lib.hid hb3
        clear hb3
        cases hq : onF Lc d with
        | nil =>
          have HQ := Lib.hid hq
          rw [hq] at hR2
          clear hq
          have hv' : ∃ a c, v' = .slice a 0 c := by
            rcases hR2 with ⟨rfl, _⟩ | ⟨g, cap, rfl, _⟩
            · exact ⟨_, _, rfl⟩
            · exact ⟨_, _, rfl⟩
          obtain ⟨a', c', rfl⟩ := hv'
          clear hR2
          have hbw := HB3.out
          have hJ1 := HJ.out _ wr _ none hJs (grown_of_below hbw none) (fun r e => by cases e)
          have hSK1 := hSK.below hn0 hbw
          obtain ⟨fn, tmps, assign, body, hy, hR⟩ := HY.out _ ⟨d, lst, 0⟩ _ hJ1 (by rw [upto_length]; exact hlt)
          dsimp only [enc54] at hy
          have HSK1 := Lib.hid hSK1
          have HX2 : Hid (spanAt last Lc starts k = ⟨d, lst, 0⟩) := by show _ = _; rw [HX.out, HQ.out]; rfl
          clear hbw hJ1 hSK1
          gi_wp2
          refine hR.mono ?_
          rintro e W3 (⟨rfl, hJ3, hk3⟩ | ⟨rfl, hJx3⟩)
          · gi_wp2
            go_roundw
            case rel => exact ⟨k + 1, hlt, by go_num, by rw [upto_succ, HX2.out]; exact hJ3, HKP.out _ _ hk3 HSK1.out⟩
            case measure => simp only [intOf]; omega
          · gi_wp2
            refine bodyPost_ret (results_none rfl _ _ _) rfl ?_
            exact ⟨⟨_, rfl⟩, .inr ⟨_, trivial, hJx3⟩⟩
        | cons o r =>
          have HQ := Lib.hid hq
          rw [hq] at hR2
          clear hq
          rcases hR2 with ⟨_, h⟩ | ⟨g2, cap2, rfl, hg2, hRw⟩
          · cases h
          · have z0 : w2.cell? ⟨g2, 0, none⟩ = some (.int .i64 o.f0) := by
              have := hRw.cell (j := 0) (o := o) rfl 0 _ rfl
              simpa using this
            have hlen : (0 : Int) < ((r.length + 1 : Nat) : Int) := by omega
            rw [List.length_cons]
            clear hRw hg2
            have hbw := below_set HB3.out (g := wr.heap.size) (j := 2) (v := .int .i64 o.f0) (Nat.le_refl _)
            have hJ1 := HJ.out _ wr _ none hJs (grown_of_below hbw none) (fun r e => by cases e)
            have hSK1 := hSK.below hn0 hbw
            obtain ⟨fn, tmps, assign, body, hy, hR⟩ := HY.out _ ⟨d, lst, o.f0⟩ _ hJ1 (by rw [upto_length]; exact hlt)
            dsimp only [enc54] at hy
            have HSK1 := Lib.hid hSK1
            have HX2 : Hid (spanAt last Lc starts k = ⟨d, lst, o.f0⟩) := by show _ = _; rw [HX.out, HQ.out]; rfl
            clear hbw hJ1 hSK1
            gi_wp2
            refine hR.mono ?_
            rintro e W3 (⟨rfl, hJ3, hk3⟩ | ⟨rfl, hJx3⟩)
            · gi_wp2
              go_roundw
              case rel => exact ⟨k + 1, hlt, by go_num, by rw [upto_succ, HX2.out]; exact hJ3, HKP.out _ _ hk3 HSK1.out⟩
              case measure => simp only [intOf]; omega
            · gi_wp2
              refine bodyPost_ret (results_none rfl _ _ _) rfl ?_
              exact ⟨⟨_, rfl⟩, .inr ⟨_, trivial, hJx3⟩⟩
      · have HX : Hid (spanAt last Lc starts k = ⟨d, last, idF (onF Lc d)⟩) := by show _ = _; unfold spanAt; rw [HD.out, if_neg hl2]
        have hlz : ¬ ((k : Int) + 1 < (starts.length : Int)) := by omega
        gi_wp2
        refine ⟨trivial, ?_⟩
        refine (callsIn_wide.2 (on63_calls cv base Lc d _ ((S5.out wr hSK).below (below_alloc (Below.refl _ _) _)) (by omega) HND.out)).mono ?_
        rintro e w2 ⟨v', rfl, hR2, hb2⟩
        have hbx : w2.heap[wr.heap.size]? = some (.cells #[.int .i64 d, .int .i64 last, .int .i64 0] 54 (0, 0)) := blk_below (blk_new _ _) hb2
        have hb3 : Below wr.heap.size wr w2 := below_step (below_alloc (Below.refl _ _) _) hb2
        have hz2 : wr.heap.size < w2.heap.size := blk_lt hbx
        have y0 : w2.cell? ⟨wr.heap.size, 0, none⟩ = some (.int .i64 d) := (blk_cell hbx 0).trans rfl
        have y1 : w2.cell? ⟨wr.heap.size, 1, none⟩ = some (.int .i64 last) := (blk_cell hbx 1).trans rfl
        have y2 : w2.cell? ⟨wr.heap.size, 2, none⟩ = some (.int .i64 0) := (blk_cell hbx 2).trans rfl
        have yf := fun i => blk_frozen hbx i
        have yf2 := yf 2
        clear yf hbx hb2
        have HB3 := Lib.hid hb3
        clear hb3
        cases hq : onF Lc d with
        | nil =>
          have HQ := Lib.hid hq
          rw [hq] at hR2
          clear hq
          have hv' : ∃ a c, v' = .slice a 0 c := by
            rcases hR2 with ⟨rfl, _⟩ | ⟨g, cap, rfl, _⟩
            · exact ⟨_, _, rfl⟩
            · exact ⟨_, _, rfl⟩
          obtain ⟨a', c', rfl⟩ := hv'
          clear hR2
          have hbw := HB3.out
          have hJ1 := HJ.out _ wr _ none hJs (grown_of_below hbw none) (fun r e => by cases e)
          have hSK1 := hSK.below hn0 hbw
          obtain ⟨fn, tmps, assign, body, hy, hR⟩ := HY.out _ ⟨d, last, 0⟩ _ hJ1 (by rw [upto_length]; exact hlt)
          dsimp only [enc54] at hy
          have HSK1 := Lib.hid hSK1
          have HX2 : Hid (spanAt last Lc starts k = ⟨d, last, 0⟩) := by show _ = _; rw [HX.out, HQ.out]; rfl
          clear hbw hJ1 hSK1
          gi_wp2
          refine hR.mono ?_
          rintro e W3 (⟨rfl, hJ3, hk3⟩ | ⟨rfl, hJx3⟩)
          · gi_wp2
            go_roundw
            case rel => exact ⟨k + 1, hlt, by go_num, by rw [upto_succ, HX2.out]; exact hJ3, HKP.out _ _ hk3 HSK1.out⟩
            case measure => simp only [intOf]; omega
          · gi_wp2
            refine bodyPost_ret (results_none rfl _ _ _) rfl ?_
            exact ⟨⟨_, rfl⟩, .inr ⟨_, trivial, hJx3⟩⟩
        | cons o r =>
          have HQ := Lib.hid hq
          rw [hq] at hR2
          clear hq
          rcases hR2 with ⟨_, h⟩ | ⟨g2, cap2, rfl, hg2, hRw⟩
          · cases h
          · have z0 : w2.cell? ⟨g2, 0, none⟩ = some (.int .i64 o.f0) := by
              have := hRw.cell (j := 0) (o := o) rfl 0 _ rfl
              simpa using this
            have hlen : (0 : Int) < ((r.length + 1 : Nat) : Int) := by omega
            rw [List.length_cons]
            clear hRw hg2
            have hbw := below_set HB3.out (g := wr.heap.size) (j := 2) (v := .int .i64 o.f0) (Nat.le_refl _)
            have hJ1 := HJ.out _ wr _ none hJs (grown_of_below hbw none) (fun r e => by cases e)
            have hSK1 := hSK.below hn0 hbw
            obtain ⟨fn, tmps, assign, body, hy, hR⟩ := HY.out _ ⟨d, last, o.f0⟩ _ hJ1 (by rw [upto_length]; exact hlt)
            dsimp only [enc54] at hy
            have HSK1 := Lib.hid hSK1
            have HX2 : Hid (spanAt last Lc starts k = ⟨d, last, o.f0⟩) := by show _ = _; rw [HX.out, HQ.out]; rfl
            clear hbw hJ1 hSK1
            gi_wp2
            refine hR.mono ?_
            rintro e W3 (⟨rfl, hJ3, hk3⟩ | ⟨rfl, hJx3⟩)
            · gi_wp2
              go_roundw
              case rel => exact ⟨k + 1, hlt, by go_num, by rw [upto_succ, HX2.out]; exact hJ3, HKP.out _ _ hk3 HSK1.out⟩
              case measure => simp only [intOf]; omega
            · gi_wp2
              refine bodyPost_ret (results_none rfl _ _ _) rfl ?_
              exact ⟨⟨_, rfl⟩, .inr ⟨_, trivial, hJx3⟩⟩
    · obtain rfl : k = starts.length := by omega
      gi_wp2
      go_end0
      exact ⟨⟨_, rfl⟩, .inl ⟨_, rfl, hJs⟩⟩
end Go.Proofs.Ytgffddbhnggllaa.Ed
namespace Go.Proofs.Ytgffddbhnggllaa.Ed
open Go Go.Proofs Go.RowKit
def noDefer (l : List Oper) : Bool := l.all fun o => match o.op with | .defer _ => false | _ => true
theorem noDefer_spec {l : List Oper} (h : noDefer l = true) : ∀ o ∈ l, ∀ c, o.op ≠ .defer c := fun o ho c e => by
  have := List.all_eq_true.1 h o ho
  rw [e] at this
  cases this
theorem opIn_round {F : Fence} {n : Nat} {P : Program} {o : Oper} {a : Act} {w : World} {K : Act → World → Prop} {Q : Exit → Act → World → Prop} (k : Nat) (hro : F.round = none) (hd : ∀ c, o.op ≠ .defer c)
    (h : o.wpIn F n P a w K Q) : o.wpIn (F.inRound k) n P a w K Q := by
  unfold Oper.wpIn at *
  refine ⟨h.1, ?_⟩
  have h2 := h.2
  rw [hro, Oper.semAt_none] at h2
  rw [Fence.inRound_round, Oper.semAt_some _ _ _ hd]
  generalize (execOp a.eval o).run P w = r at *
  cases r with
  | ok x w' => cases x <;> exact h2
  | halt x w' => cases x <;> exact h2
theorem anyIn_round {F : Fence} {n : Nat} {P : Program} {md : Region.Mode} {ops : Array Oper} {Q : Exit → Act → World → Prop} (k : Nat) (hro : F.round = none) (hd : ∀ o ∈ ops.toList, ∀ c, o.op ≠ .defer c) :
    ∀ (fuel : Nat) (listed : Array Bool) (a : Act) (w : World), wpAnyIn F n P md ops Q fuel listed a w → wpAnyIn (F.inRound k) n P md ops Q fuel listed a w
  | 0, _, _, _, h => h
  | fuel + 1, listed, a, w, h => by
    refine ⟨h.1, fun i hi => ?_⟩
    have h2 := h.2 i hi
    unfold wpOpIn at *
    split
    · rename_i hn
      rw [hn] at h2
      exact anyIn_round k hro hd fuel _ _ _ h2
    · rename_i o ho
      simp only [ho] at h2
      split
      · rename_i hw
        simp only [hw, if_true] at h2
        exact Oper.wpIn_mono (fun a w => anyIn_round k hro hd fuel _ a w) (opIn_round k hro (hd o (by rw [← Array.getElem?_toList] at ho; exact List.mem_of_getElem? ho)) h2)
      · rename_i hw
        simp only [hw] at h2
        exact ⟨h2.1, anyIn_round k hro hd fuel _ _ _ h2.2⟩
theorem region_quiet_round {F : Fence} {n : Nat} {P : Program} {id k : Nat} {Q : Exit → Act → World → Prop} {a : Act} {w : World} {l : List Oper} (hro : F.round = none) (hm : P.follows .mixedOrders = true) (hB : Region.lexB .any l.toArray = true) (hd : noDefer l = true)
    (h : wpQuietIn F n P l.toArray (fun w' => ∃ n, w' = w.drewN n) (fun a' => ∀ w', (∃ n, w' = w.drewN n) → Q .normal a' w') l a) : (Code.region id l.toArray true).wpIn (F.inRound k) n P Q a w := by
  simp only [Region.lexB, Bool.and_eq_true] at hB
  refine wpIn_region_any hm (anyIn_round k hro (fun o ho => noDefer_spec hd o (by simpa using ho)) _ _ _ _ (wpAnyIn_of_quiet (C := fun w' => ∃ n, w' = w.drewN n) (Q := fun a' => ∀ w', (∃ n, w' = w.drewN n) → Q .normal a' w') hro (fun _ w' hw' h => h w' hw') _ _ _ _ ⟨1, rfl⟩ ?_))
  have := wpAnyQIn_lex (F := F) (n := n) (C := fun w' => ∃ n, w' = w.drewN n) (md := .any) hB.1 l 0 (Array.replicate l.toArray.size false) a (by simp) (by simpa using hB.2) h
  simpa using this
end Go.Proofs.Ytgffddbhnggllaa.Ed
namespace Go.Proofs.Ytgffddbhnggllaa.Ed
open Go.RowKit Go.Shelf Go.Proofs.YtgffddbhnggllaaW.PrintWords QF
attribute [local go_sem] Oper.semAt_some
def lastS (out : List S54) : S54 := out.getD (out.length - 1) z54
def pushS (out : List S54) (s : S54) : List S54 :=
  if 0 < out.length ∧ (lastS out).f2 = s.f2 then out.set (out.length - 1) ⟨(lastS out).f0, s.f1, (lastS out).f2⟩ else out ++ [s]
def mergeS (l : List S54) : List S54 := l.foldl pushS []
theorem mergeS_snoc (l : List S54) (x : S54) : mergeS (l ++ [x]) = pushS (mergeS l) x := by unfold mergeS; rw [List.foldl_append]; rfl
theorem pushS_len (out : List S54) (s : S54) : (pushS out s).length ≤ out.length + 1 := by
  unfold pushS; split
  · rw [List.length_set]; omega
  · rw [List.length_append]; simp
theorem mergeS_len (l : List S54) : (mergeS l).length ≤ l.length := by
  unfold mergeS
  have : ∀ (l out : List S54), (l.foldl pushS out).length ≤ out.length + l.length := by
    intro l
    induction l with
    | nil => intro out; simp
    | cons x l ih => intro out; have h1 := ih (pushS out x); have h2 := pushS_len out x; simp only [List.foldl_cons, List.length_cons]; omega
  have := this l []
  simpa using this
def three (s : S54) : List Value := [.int .i64 s.f0, .int .i64 s.f1, .int .i64 s.f2]
def flat3 (L : List S54) : List Value := L.flatMap three
theorem flat3_cons (s : S54) (L : List S54) : flat3 (s :: L) = three s ++ flat3 L := rfl
theorem flat3_append (L M : List S54) : flat3 (L ++ M) = flat3 L ++ flat3 M := List.flatMap_append
theorem flat3_len (L : List S54) : (flat3 L).length = L.length * 3 := by
  induction L with
  | nil => rfl
  | cons o L ih => rw [flat3_cons, List.length_append, ih, List.length_cons]; show 3 + _ = _; omega
theorem flat3_get (L : List S54) (j : Nat) (s : S54) (h : L[j]? = some s) (t : Nat) (v : Value) (hv : (three s)[t]? = some v) : (flat3 L)[j * 3 + t]? = some v := by
  induction L generalizing j with
  | nil => cases h
  | cons o L ih =>
    rw [flat3_cons]
    cases j with
    | zero =>
      injection h with h
      subst h
      rw [List.getElem?_append_left]
      · simpa using hv
      · have := (List.getElem?_eq_some_iff.1 hv).1; simpa using this
    | succ j =>
      rw [List.getElem?_append_right (by show 3 ≤ _; omega), show (j + 1) * 3 + t - (three o).length = j * 3 + t by show (j + 1) * 3 + t - 3 = _; omega]
      exact ih j (by simpa using h)
theorem flat3_set (L : List S54) (j : Nat) (s : S54) (h : L[j]? = some s) (v : Int) : (flat3 L).set (j * 3 + 1) (.int .i64 v) = flat3 (L.set j ⟨s.f0, v, s.f2⟩) := by
  induction L generalizing j with
  | nil => cases h
  | cons o L ih =>
    cases j with
    | zero =>
      injection h with h
      subst h
      rfl
    | succ j =>
      rw [flat3_cons, List.set_append_right _ _ (by show 3 ≤ _; omega), List.set_cons_succ, flat3_cons, show (j + 1) * 3 + 1 - (three o).length = j * 3 + 1 by show (j + 1) * 3 + 1 - 3 = _; omega, ih j (by simpa using h)]
theorem reps3 (W : World) (base : Nat) (ok : Nat → Prop) (L : List S54) : Reps (k54.M W base ok) 3 L (flat3 L) := by
  refine ⟨flat3_len L, fun j p hj => ?_⟩
  have : ((flat3 L).drop (j * 3)).take 3 = three p := by
    have e : L = L.take j ++ p :: L.drop (j + 1) := by
      have hl := (List.getElem?_eq_some_iff.1 hj)
      rw [← hl.2, ← List.drop_eq_getElem_cons hl.1, List.take_append_drop]
    have hlen : (flat3 (L.take j)).length = j * 3 := by rw [flat3_len, List.length_take, Nat.min_eq_left (Nat.le_of_lt (List.getElem?_eq_some_iff.1 hj).1)]
    rw [e, flat3_append, ← hlen, List.drop_left, flat3_cons]
    exact List.take_left' rfl
  rw [this]
  exact k54_mkM _ _ _ _
def spansF (l : List S41) (p first last : Int) : List S54 × Int :=
  if (rightL l && (inB p 1 999999 && (decide (0 ≤ first) && (decide (first ≤ last) && decide (last ≤ 730484))))) = true then (mergeS (upto (spanAt last (ofF l p) (daysF first last (ofF l p))) (daysF first last (ofF l p)).length), 0) else ([], 2)
theorem info54 : (Try.prog.info? 54).map (fun i => (i.zero, i.size, i.bytes)) = some (some (.agg #[.int .i64 0, .int .i64 0, .int .i64 0]), 3, 24) := by kernel_rfl
theorem app_sk {W w1 : World} {n₀ B : Nat} {v v' : Value} {k m : Nat} {xs ys : List Value} {tmp : Obj} (hv : Boxed W B 44 v) (hrow : W.ownsRow n₀ 54 3 v k xs) (hn₀ : n₀ ≤ W.heap.size)
    (hown' : w1.ownsRow n₀ 54 3 v' m ys) (hgrow : (W.alloc tmp).grownBy w1 v.ownBlock) :
    Boxed w1 B 44 v ∧ Boxed (w1.setCell ⟨B, 0, none⟩ v') B 44 v' ∧ (w1.setCell ⟨B, 0, none⟩ v').ownsRow n₀ 54 3 v' m ys ∧ KeepsOthers W (w1.setCell ⟨B, 0, none⟩ v') ∧ SK n₀ B W (w1.setCell ⟨B, 0, none⟩ v') := by
  obtain ⟨h1, h2, _, h4, _⟩ := hv.appended (by decide) (own_less hrow (Nat.zero_le _)) (Nat.zero_le _) (Nat.zero_le _) (own_less hown' (Nat.zero_le _)) hgrow
  refine ⟨h1, h2, hown'.kept (grownBy_setCell' w1 B v') (.inr (h1.not_row (by decide) hown').symm), h4, ?_⟩
  refine SK.trans (SK.grown (World.grownBy_alloc W tmp none) hn₀ (fun k e => by cases e)) (SK.trans (SK.grown hgrow (by simp; omega) (fun k e => ?_)) (SK.grown (grownBy_setCell' w1 B v') (by have := hgrow.size; simp at this; omega) (fun k e => by cases e; exact .inr rfl)))
  exact .inl ((hrow.lt k e).1)
theorem SK.drewN {n₀ Bo : Nat} (W : World) (k : Nat) : SK n₀ Bo W (W.drewN k) := ⟨rfl, rfl, rfl, Nat.le_refl _, fun _ _ _ => rfl⟩
theorem cell_three_new (w : World) (a b c : Value) (t : TypeId) : ∀ j u, [a, b, c][j]? = some u → (w.alloc (.cells #[a, b, c] t)).cell? ((⟨w.heap.size, 0, none⟩ : Addr).add j) = some u := by
  intro j u h
  rw [add_plain, blk_cell (blk_new _ _)]
  simpa using h
theorem name_act {F : Fence} {n : Nat} {P : Program} {c : Code} {Q : Exit → Act → World → Prop} {w : World} (a : Act) (h : ∀ T, T = a → c.wpIn F n P Q T w) : c.wpIn F n P Q a w := h a rfl
def IS (n₀ Bo : Nat) (W0 : World) (pre : List S54) (W : World) : Prop := (∃ v, Boxed W Bo 44 v ∧ W.ownsRow n₀ 54 3 v (mergeS pre).length (flat3 (mergeS pre))) ∧ SK n₀ Bo W0 W
theorem IS_own {n₀ Bo B : Nat} {W0 : World} (hn : n₀ ≤ W0.heap.size) (hB : n₀ ≤ B) : OwnFrom B (IS n₀ Bo W0) := fun s A C row hs hg hr => by
  obtain ⟨h1, h2⟩ := hs
  refine ⟨holdsRow_own n₀ Bo 44 54 3 (fun pre => (mergeS pre).length) (fun pre => flat3 (mergeS pre)) (fun _ _ => True) s A C row (by obtain ⟨v, a, b⟩ := h1; exact ⟨v, a, b, trivial⟩) hg (fun r e => (hr r e).2) |>.imp (fun v h => ⟨h.1, h.2.1⟩), ?_⟩
  exact h2.trans (SK.grown hg (Nat.le_trans hn h2.size) (fun k e => .inl (Nat.le_trans hB (hr k e).1)))
theorem insI_len (x : Int) (l : List Int) : (insI x l).length ≤ l.length + 1 := by
  induction l with
  | nil => simp [insI]
  | cons y l ih =>
    simp only [insI]
    split
    · simp
    · split
      · simp
      · simp; omega
theorem days_len (first last : Int) (L : List S41) : (daysF first last L).length ≤ 2 * L.length + 1 := by
  unfold daysF
  have : ∀ (L : List S41) (acc : List Int), (L.foldl (addD first last) acc).length ≤ acc.length + 2 * L.length := by
    intro L
    induction L with
    | nil => intro acc; simp
    | cons o L ih =>
      intro acc
      have h1 := ih (addD first last acc o)
      have h2 : (addA first last acc o).length ≤ acc.length + 1 := by
        unfold addA; split
        · exact insI_len _ _
        · omega
      have h3 : (addD first last acc o).length ≤ (addA first last acc o).length + 1 := by
        unfold addD addB; split
        · exact insI_len _ _
        · omega
      simp only [List.foldl_cons, List.length_cons]; omega
  have := this L [first]
  simp at this; omega
theorem days_bd {first last : Int} (h : first ≤ last) (L : List S41) : ∀ x ∈ daysF first last L, first ≤ x ∧ x ≤ last := by
  unfold daysF
  have h0 : ∀ x ∈ [first], first ≤ x ∧ x ≤ last := by intro x hx; simp at hx; omega
  revert h0
  generalize [first] = acc
  induction L generalizing acc with
  | nil => exact id
  | cons o L ih =>
    intro h0
    refine ih _ ?_
    have h1 : ∀ x ∈ addA first last acc o, first ≤ x ∧ x ≤ last := by
      unfold addA; split
      · rename_i hi
        intro x hx
        rcases (mem_insI _ _ _).1 hx with rfl | hx
        · exact inB_iff.1 hi
        · exact h0 x hx
      · exact h0
    unfold addD addB; split
    · rename_i hi
      simp only [Bool.and_eq_true] at hi
      intro x hx
      rcases (mem_insI _ _ _).1 hx with rfl | hx
      · exact inB_iff.1 hi.1
      · exact h1 x hx
    · exact h1
set_option maxRecDepth 1000000 in
set_option maxHeartbeats 8000000 in
theorem spans_calls (A0 : Option Addr) (c0 : Nat) (l0 : List S41) (p first last : Int) (w : World) (hr0 : Kd.C k41 w A0 l0.length l0) (hc0 : l0.length ≤ c0) :
    Calls Try.prog 28 #[.slice A0 l0.length c0, .int .i64 p, .int .i64 first, .int .i64 last] w fun e w' => ∃ v0_ : Value, e = .returned (.tuple #[v0_, .int .i64 (spansF l0 p first last).2]) ∧ Kd.R k54 54 w' w.heap.size (fun _ => True) v0_ (spansF l0 p first last).1 ∧ Below w.heap.size w w' := by
  have hR := right_calls A0 c0 l0 w hr0 hc0
  cases hr : rightL l0 with
  | false =>
    have E : spansF l0 p first last = ([], 2) := by unfold spansF; rw [if_neg (by rw [hr]; simp)]
    rw [hr] at hR
    rw [E]
    clear E hr
    go_enter Try.func28, Try.ntmps28
    go_wp2_with (go_at_call 29; (with_reducible refine hR.mono ?_); rintro e w1 ⟨rfl, hb⟩)
    go_ret2
    exact ⟨_, rfl, Kd.R_nil _ _ _ _ _, hb⟩
  | true =>
    rw [hr] at hR
    cases hp : inB p 1 999999 with
    | false =>
      have E : spansF l0 p first last = ([], 2) := by unfold spansF; rw [if_neg (by rw [hr, hp]; simp)]
      have h1 : ∀ w, Calls Try.prog 61 #[.int .i64 p, .int .i64 1, .int .i64 999999] w fun e w' => e = .returned (.bool false) ∧ w = w' := fun w => hp ▸ within_q p 1 999999 w
      clear hp
      rw [E]
      clear E hr
      go_enter Try.func28, Try.ntmps28
      go_wp2_with (go_at_call 29; (with_reducible refine hR.mono ?_); rintro e w1 ⟨rfl, hb⟩)
      go_wp2_with (go_at_call 61; (with_reducible refine (h1 _).mono ?_); rintro e w2 ⟨rfl, rfl⟩)
      go_ret2
      exact ⟨_, rfl, Kd.R_nil _ _ _ _ _, hb⟩
    | true =>
      have h1 : ∀ w, Calls Try.prog 61 #[.int .i64 p, .int .i64 1, .int .i64 999999] w fun e w' => e = .returned (.bool true) ∧ w = w' := fun w => hp ▸ within_q p 1 999999 w
      by_cases g1 : first < 0
      · have E : spansF l0 p first last = ([], 2) := by unfold spansF; rw [if_neg (by rw [hr, hp, decide_eq_false (show ¬ 0 ≤ first by omega)]; simp)]
        have g1b : decide (first < 0) = true := decide_eq_true g1
        clear hp
        rw [E]
        clear E hr
        go_enter Try.func28, Try.ntmps28
        go_wp2_with (go_at_call 29; (with_reducible refine hR.mono ?_); rintro e w1 ⟨rfl, hb⟩)
        go_wp2_with (go_at_call 61; (with_reducible refine (h1 _).mono ?_); rintro e w2 ⟨rfl, rfl⟩)
        go_ret2
        exact ⟨_, rfl, Kd.R_nil _ _ _ _ _, hb⟩
      have g1b : decide (first < 0) = false := decide_eq_false g1
      by_cases g2 : first > last
      · have E : spansF l0 p first last = ([], 2) := by unfold spansF; rw [if_neg (by rw [hr, hp, decide_eq_false (show ¬ first ≤ last by omega)]; simp)]
        have g2b : decide (last < first) = true := decide_eq_true g2
        clear hp
        rw [E]
        clear E hr
        go_enter Try.func28, Try.ntmps28
        go_wp2_with (go_at_call 29; (with_reducible refine hR.mono ?_); rintro e w1 ⟨rfl, hb⟩)
        go_wp2_with (go_at_call 61; (with_reducible refine (h1 _).mono ?_); rintro e w2 ⟨rfl, rfl⟩)
        go_ret2
        exact ⟨_, rfl, Kd.R_nil _ _ _ _ _, hb⟩
      have g2b : decide (last < first) = false := decide_eq_false (by omega)
      by_cases g3 : last > 730484
      · have E : spansF l0 p first last = ([], 2) := by unfold spansF; rw [if_neg (by rw [hr, hp, decide_eq_false (show ¬ last ≤ 730484 by omega)]; simp)]
        have g3b : decide (730484 < last) = true := decide_eq_true g3
        clear hp
        rw [E]
        clear E hr
        go_enter Try.func28, Try.ntmps28
        go_wp2_with (go_at_call 29; (with_reducible refine hR.mono ?_); rintro e w1 ⟨rfl, hb⟩)
        go_wp2_with (go_at_call 61; (with_reducible refine (h1 _).mono ?_); rintro e w2 ⟨rfl, rfl⟩)
        go_ret2
        exact ⟨_, rfl, Kd.R_nil _ _ _ _ _, hb⟩
      have g3b : decide (730484 < last) = false := decide_eq_false (by omega)
      have E : spansF l0 p first last = (mergeS (upto (spanAt last (ofF l0 p) (daysF first last (ofF l0 p))) (daysF first last (ofF l0 p)).length), 0) := by unfold spansF; rw [if_pos (by rw [hr, hp, decide_eq_true (show 0 ≤ first by omega), decide_eq_true (show first ≤ last by omega), decide_eq_true (show last ≤ 730484 by omega)]; rfl)]
      rw [E]
      have hlen := right_len hr
      have HND := Lib.hid (right_nd hr)
      have HAL := Lib.hid (right_all hr)
      have HR := Lib.hid hr0
      clear E hr hp hr0
      refine (callsIn_wide (n := 8)).1 ?_
      refine callsIn_of_wp_marks Try.func28 rfl trivial ?_ rfl
      simp only [Try.ntmps28, List.size_toArray, List.length_cons, List.length_nil, Nat.reduceAdd, Nat.reduceSub, Array.replicate_succ, Array.replicate_zero, List.push_toArray, List.append_toArray, List.nil_append, List.cons_append]
      gi_wp2
      refine ⟨trivial, ?_⟩
      refine (callsIn_wide.2 hR).mono ?_
      rintro e w1 ⟨rfl, hb1⟩
      have HB1 := Lib.hid hb1
      clear hb1 hR
      gi_wp2
      refine ⟨trivial, ?_⟩
      refine (callsIn_wide.2 (h1 _)).mono ?_
      rintro e w2 ⟨rfl, rfl⟩
      clear h1
      gi_wp2
      refine ⟨trivial, ?_⟩
      refine (callsIn_wide.2 (of62_calls A0 c0 l0 p _ (Kd.C_below HR.out (below_alloc HB1.out _)) (by omega))).mono ?_
      rintro e w3 ⟨cv, rfl, hRc, hb3⟩
      have hO3 : w3.heap[w1.heap.size]? = some (.cells #[.slice none 0 0] 44 (0, 0)) := blk_below (blk_new _ _) hb3
      have HB3 := Lib.hid (below_step (below_alloc HB1.out _) hb3)
      have HRC := Lib.hid hRc
      have HO3 := Lib.hid hO3
      clear hRc hb3 hO3
      gi_wp2
      refine ⟨trivial, ?_⟩
      refine (callsIn_wide.2 (spans64_calls cv _ (ofF l0 p) first last w3 HRC.out (fun o ho => HAL.out o (List.mem_filter.1 ho).1) (Nat.le_trans (List.length_filter_le _ _) hlen) (by omega) (by omega) (by omega))).mono ?_
      rintro e w4 ⟨Bs, Bl, Bc, sv, rfl, hs, hl, hc, hrow, hb4⟩
      have hO4 : Boxed w4 w1.heap.size 44 (.slice none 0 0) := blk_below HO3.out hb4
      have hB4 := below_step HB3.out hb4
      have hv4 := HRC.out.below hb4
      obtain ⟨q1, ⟨_, q2⟩ | ⟨gs, cs, cu, rfl, q3, q4, q5, q6, q7, q8⟩⟩ := hrow
      · exfalso
        have := List.length_pos_of_mem (days_first first last (ofF l0 p))
        omega
      rw [Nat.mul_one] at q8
      have hsz1 : w1.heap.size < w4.heap.size := hO4.lt
      have hw1 : w.heap.size ≤ w1.heap.size := HB1.out.size
      have HS := Lib.hid hs
      have HL := Lib.hid hl
      have HC := Lib.hid hc
      have HO := Lib.hid hO4
      have HB4 := Lib.hid hB4
      have HV4 := Lib.hid hv4
      have HQ4 := Lib.hid q4
      have HQ8 := Lib.hid q8
      have hdl := days_len first last (ofF l0 p)
      have hol : (ofF l0 p).length ≤ 500 := Nat.le_trans (List.length_filter_le _ _) hlen
      have HDB := Lib.hid (days_bd (by omega : first ≤ last) (ofF l0 p))
      have HN2 := Lib.hid (nd_filter HND.out (fun o => o.f1 == p))
      clear hs hl hc hO4 hB4 hv4 q1 q3 q4 q5 q6 q7 q8 hb4 HO3 HB3 HRC HR HND HAL HB1 g1b g2b g3b
      generalize hDS : daysF first last (ofF l0 p) = starts at *
      have HDS := Lib.hid hDS
      clear hDS
      gi_wp2
      refine name_act _ (fun T hT => ?_)
      refine wpIn_rangeFunc_ownH (F := Fence.wide) rfl (by omega) (gf := 91) (lb := #[.pointer (some ⟨Bs, 0, none⟩), .pointer (some ⟨Bl, 0, none⟩), .pointer (some ⟨Bc, 0, none⟩)]) (by rw [hT]; rfl) trivial (enters_of Try.func91 (by kernel_rfl) rfl)
        (encs := fun x => #[enc54 x]) (Kp := SK w4.heap.size w1.heap.size) (S := fun ys => ys = upto (spanAt last (ofF l0 p) starts) starts.length) (Sp := fun _ => True) (N := starts.length) (w0 := w4)
        (fun l J Jx W hW hJ hJx hY h0 => iter91 7 (by omega) l w4.heap.size w1.heap.size Bs Bl Bc gs cs _ cu cv starts last (ofF l0 p) w4 HS.out HL.out HC.out HQ4.out HQ8.out HV4.out
          ⟨blk_lt HS.out, blk_ne HS.out HO.out (by decide)⟩ ⟨blk_lt HL.out, blk_ne HL.out HO.out (by decide)⟩ ⟨blk_lt HC.out, blk_ne HC.out HO.out (by decide)⟩ ⟨blk_lt HQ4.out, blk_ne HQ4.out HO.out (by decide)⟩
          (fun g e => by
            rcases HV4.out with ⟨h, _⟩ | ⟨g', cap, h, _, hR⟩
            · rw [h] at e; cases e
            · rw [h] at e; cases e
              obtain ⟨rest, hc, _⟩ := hR.cells
              exact ⟨blk_lt hc, blk_ne hc HO.out (by decide)⟩)
          (Nat.le_refl _) hol HN2.out (by omega) (fun x hx => by have := HDB.out x hx; omega) J Jx W hJ (SK w4.heap.size w1.heap.size) (fun A B h k => k.trans h) hY (SK.of_below hW (Nat.le_refl _)) h0)
        SK.trans (fun W l o o' hl _ _ _ => ⟨rfl, rfl, rfl, by simp, fun k h1 h2 => World.putObj_heap_other (fun e => by omega)⟩) (Below.refl _ _) (fun _ => rfl)
        (IS w4.heap.size w1.heap.size w4) (fun _ _ _ => False) (IS_own (Nat.le_refl _) (Nat.le_refl _)) (fun _ _ _ _ _ hs _ _ => hs)
        ⟨⟨_, HO.out, World.ownsRow_nil _ _ _ _⟩, SK.refl⟩
        (fun x a' W => ∃ Bx, w4.heap.size ≤ Bx ∧ W.heap[Bx]? = some (.cells #[.int .i64 x.f0, .int .i64 x.f1, .int .i64 x.f2] 54 (0, 0)) ∧ a' = { tmps := (T.tmps.setIfInBounds 40 (enc54 x)).setIfInBounds 11 (.pointer (some ⟨Bx, 0, none⟩)), defers := [] })
        (fun x a' _ X Y row hs hg hr => by
          obtain ⟨Bx, h1, h2, h3⟩ := hs
          refine ⟨Bx, h1, blk_grown h2 hg (fun e => ?_), h3⟩
          obtain ⟨_, o, ho, hoc⟩ := hr Bx e.symm
          rw [h2] at ho; cases ho; cases hoc)
        ?assign ?body ?done ?stop
      case assign =>
        rintro l pre x W K ⟨⟨v, hv, hrow⟩, hSK⟩ hK
        subst hT
        dsimp only [enc54]
        gi_wp2
        exact hK _ _ ((KeepsOthers.alloc _ _).from _) (SK.of_below (below_alloc (Below.refl _ _) _) hSK.size) ⟨⟨v, hv.alloc _, hrow.alloc _⟩, hSK.below (Nat.le_refl _) (below_alloc (Below.refl _ _) _)⟩ ⟨W.heap.size, hSK.size, blk_new _ _, rfl⟩
      case body =>
        rintro l pre x a' W hl ⟨r, hr⟩ ⟨⟨v, hv, hrow⟩, hSK⟩ ⟨Bx, hBx, hbx, rfl⟩ hlt
        subst hT
        obtain ⟨i0, hi, hz0, hz1, hz2⟩ := info_parts info54
        have c1 := hv.cell
        have y0 : W.cell? ⟨Bx, 0, none⟩ = some (.int .i64 x.f0) := (blk_cell hbx 0).trans rfl
        have y1 : W.cell? ⟨Bx, 1, none⟩ = some (.int .i64 x.f1) := (blk_cell hbx 1).trans rfl
        have y2 : W.cell? ⟨Bx, 2, none⟩ = some (.int .i64 x.f2) := (blk_cell hbx 2).trans rfl
        have hlb : Bx < W.heap.size := blk_lt hbx
        have hlo : w1.heap.size < W.heap.size := hv.lt
        have hML : (mergeS pre).length ≤ 1001 := Nat.le_trans (mergeS_len pre) (by omega)
        have hsn := mergeS_snoc pre x
        obtain ⟨M, hM⟩ : ∃ M, mergeS pre = M := ⟨_, rfl⟩
        rw [hM] at hrow hML hsn
        have HSN := Lib.hid hsn
        have HSK := Lib.hid hSK
        have HV := Lib.hid hv
        clear hM hsn hSK hv hbx hr
        by_cases h0 : M = []
        · subst h0
          have hv' : ∃ a c, v = .slice a 0 c := by
            rcases hrow.2 with ⟨rfl, _⟩ | ⟨g, cap, cur, rfl, _⟩
            · exact ⟨_, _, rfl⟩
            · exact ⟨_, _, rfl⟩
          obtain ⟨a, c, rfl⟩ := hv'
          gi_wp2
          refine region_quiet_round (F := Fence.wide) rfl (by kernel_rfl) (by kernel_rfl) (by kernel_rfl) ?_
          repeat (gi_big_quiet_step (fail))
          refine wpQuietIn_nil ?_
          intro _ hw'
          obtain ⟨nq, rfl⟩ := hw'
          gi_wp2_with (gi_at_builtin; refine wpListIn_append_own _ rfl _ _ 44 rfl w4.heap.size 54 i0 (.agg #[.int .i64 0, .int .i64 0, .int .i64 0]) 3 24 Try.underlying44 hi hz0 hz1 hz2 rfl (by decide) _ _ _ rfl (World.ownsRow.alloc (w := W.drewN nq) hrow _) ⟨W.heap.size, 0, none⟩ 1 1 [.int .i64 x.f0, .int .i64 x.f1, .int .i64 x.f2] rfl rfl (cell_three_new (W.drewN nq) _ _ _ _) (by simp [Value.oneCell']) (by unfold maxLen; omega) (by omega) (by have := HSK.out.size; simp; omega) ?_; intro v' wq hown' hgrow _; obtain ⟨g', cap', rfl⟩ := ownsRow_succ hown'; obtain ⟨hv1, hv2, hr2, hk2, hb2⟩ := app_sk (W := W.drewN nq) HV.out hrow HSK.out.size hown' hgrow; have hc1 := hv1.cell; have hf1 := hv1.frozen)
          have hsp := SK.trans (SK.drewN (n₀ := w4.heap.size) (Bo := w1.heap.size) W nq) hb2
          have e : pushS [] x = [] ++ [x] := by unfold pushS; rw [if_neg (by simp)]
          exact ⟨((show KeepsOthers W (W.drewN nq) from ⟨Nat.le_refl _, fun _ _ h _ => h⟩).trans hk2).from _, hsp, ⟨_, hv2, by rw [HSN.out, e, flat3_append, List.length_append]; exact hr2⟩, HSK.out.trans hsp⟩
        · obtain ⟨m, hm⟩ : ∃ m, M.length = m + 1 := ⟨M.length - 1, by have := List.length_pos_iff.2 h0; omega⟩
          have hrow0 := hrow
          rw [hm] at hrow
          obtain ⟨g, cap, rfl⟩ := ownsRow_succ hrow
          have hlast : M[m]? = some (lastS M) := by
            unfold lastS
            rw [List.getD_eq_getElem?_getD, hm, Nat.add_sub_cancel, List.getElem?_eq_getElem (by omega)]; rfl
          have z2 : W.cell? ⟨g, m * 3 + 2, none⟩ = some (.int .i64 (lastS M).f2) := by
            rw [hrow.cellAt _ (by omega)]
            exact flat3_get M m _ hlast 2 _ rfl
          have z1 : W.cell? ⟨g, m * 3 + 1, none⟩ = some (.int .i64 (lastS M).f1) := by
            rw [hrow.cellAt _ (by omega)]
            exact flat3_get M m _ hlast 1 _ rfl
          have hmb : m ≤ 1000 := by omega
          have w7 : IntKind.i64.wrap ((m : Int) + 1 - 1) = (m : Int) := by rw [show (m : Int) + 1 - 1 = (m : Int) by omega]; exact i64w m (by omega)
          have w8 : IntKind.i64.wrap (m : Int) = (m : Int) := i64w m (by omega)
          have hlm : (m : Int) < ((m + 1 : Nat) : Int) := by omega
          have HLA := Lib.hid hlast
          have HM := Lib.hid hm
          have fz := hrow.frozenAt (m * 3 + 1)
          clear h0 hlast hm hrow0
          by_cases he : (lastS M).f2 = x.f2
          · have heb : ((lastS M).f2 == x.f2) = true := beq_iff_eq.2 he
            have HE := Lib.hid he
            clear he
            obtain ⟨lf, hlf⟩ : ∃ lf, (lastS M).f2 = lf := ⟨_, rfl⟩
            rw [hlf] at z2 heb
            clear hlf
            gi_wp2
            refine region_quiet_round (F := Fence.wide) rfl (by kernel_rfl) (by kernel_rfl) (by kernel_rfl) ?_
            repeat (gi_big_quiet_step (fail))
            refine wpQuietIn_nil ?_
            intro _ hw'
            obtain ⟨nq, rfl⟩ := hw'
            gi_wp2
            have hst := hrow.stored (m * 3 + 1) (.int .i64 x.f1)
            have hg0 : w4.heap.size ≤ g := (hrow.lt g rfl).1
            have hgr : (W.drewN nq).grownBy ((W.drewN nq).setCell ⟨g, m * 3 + 1, none⟩ (.int .i64 x.f1)) (some g) := (World.ownsRow.stored (w := W.drewN nq) hrow (m * 3 + 1) (.int .i64 x.f1)).2
            have hsp := SK.trans (SK.drewN (n₀ := w4.heap.size) (Bo := w1.heap.size) W nq) (SK.grown hgr HSK.out.size (fun k e => by cases e; exact .inl hg0))
            have e : pushS M x = M.set m ⟨(lastS M).f0, x.f1, (lastS M).f2⟩ := by
              unfold pushS; rw [if_pos ⟨by rw [HM.out]; omega, HE.out⟩, HM.out, Nat.add_sub_cancel]
            refine ⟨((show KeepsOthers W (W.drewN nq) from ⟨Nat.le_refl _, fun _ _ h _ => h⟩).trans (KeepsOthers.setCell _ _ _)).from _, hsp, ⟨_, Boxed.kept (W := W.drewN nq) HV.out hgr (fun e => by cases e; omega), ?_⟩, HSK.out.trans hsp⟩
            rw [HSN.out, e, ← flat3_set M m _ HLA.out, List.length_set, HM.out]
            exact (World.ownsRow.stored (w := W.drewN nq) hrow (m * 3 + 1) (.int .i64 x.f1)).1
          · have heb : ((lastS M).f2 == x.f2) = false := beq_eq_false_iff_ne.2 he
            have HE := Lib.hid he
            clear he
            obtain ⟨lf, hlf⟩ : ∃ lf, (lastS M).f2 = lf := ⟨_, rfl⟩
            rw [hlf] at z2 heb
            clear hlf
            gi_wp2
            refine region_quiet_round (F := Fence.wide) rfl (by kernel_rfl) (by kernel_rfl) (by kernel_rfl) ?_
            repeat (gi_big_quiet_step (fail))
            refine wpQuietIn_nil ?_
            intro _ hw'
            obtain ⟨nq, rfl⟩ := hw'
            gi_wp2_with (gi_at_builtin; refine wpListIn_append_own _ rfl _ _ 44 rfl w4.heap.size 54 i0 (.agg #[.int .i64 0, .int .i64 0, .int .i64 0]) 3 24 Try.underlying44 hi hz0 hz1 hz2 rfl (by decide) _ _ _ rfl (World.ownsRow.alloc (w := W.drewN nq) hrow _) ⟨W.heap.size, 0, none⟩ 1 1 [.int .i64 x.f0, .int .i64 x.f1, .int .i64 x.f2] rfl rfl (cell_three_new (W.drewN nq) _ _ _ _) (by simp [Value.oneCell']) (by unfold maxLen; omega) (by omega) (by have := HSK.out.size; simp; omega) ?_; intro v' wq hown' hgrow _; obtain ⟨g', cap', rfl⟩ := ownsRow_succ hown'; obtain ⟨hv1, hv2, hr2, hk2, hb2⟩ := app_sk (W := W.drewN nq) HV.out hrow HSK.out.size hown' hgrow; have hc1 := hv1.cell; have hf1 := hv1.frozen)
            have hsp := SK.trans (SK.drewN (n₀ := w4.heap.size) (Bo := w1.heap.size) W nq) hb2
            have e : pushS M x = M ++ [x] := by unfold pushS; rw [if_neg (fun h => HE.out h.2)]
            exact ⟨((show KeepsOthers W (W.drewN nq) from ⟨Nat.le_refl _, fun _ _ h _ => h⟩).trans hk2).from _, hsp, ⟨_, hv2, by rw [HSN.out, e, flat3_append, List.length_append, HM.out]; exact hr2⟩, HSK.out.trans hsp⟩
      case done =>
        rintro D ys W hD rfl ⟨⟨v, hv, hrow⟩, hSK⟩ hK
        subst hT
        have hc := hv.cell
        have HSK := Lib.hid hSK
        clear hSK
        gi_wp2
        refine ⟨by simp, .inl ⟨_, _, rfl, run_takeDeferred hK, ?_⟩⟩
        have hsp := HSK.out.trans (⟨rfl, rfl, rfl, by simp, fun k h1 h2 => World.putObj_heap_other (fun e => by omega)⟩ : SK w4.heap.size w1.heap.size W (W.putObj D (.deferred none)))
        obtain rfl := HDS.out
        refine ⟨_, results_tmp2 rfl _ _ _, v, rfl, ⟨fun _ _ => trivial, _, own_less (ownsRow_putObj hrow _ hK rfl) HB4.out.size, reps3 _ _ _ _⟩, ?_⟩
        exact ⟨hsp.os.trans HB4.out.os, hsp.tape.trans HB4.out.tape, hsp.output.trans HB4.out.output, Nat.le_trans HB4.out.size hsp.size, fun i hi => (hsp.same i (by omega) (by omega)).trans (HB4.out.block i hi)⟩
      case stop =>
        rintro D c pre W _ _ h _
        exact h.elim
end Go.Proofs.Ytgffddbhnggllaa.Ed
namespace Go.Proofs.Ytgffddbhnggllaa.QF
open Go.RowKit Go.Proofs.YtgffddbhnggllaaW.PrintWords Go.Proofs.YtgffddbhnggllaaW.PrintLast Go.Proofs.YtgffddbhnggllaaW.PrintMore
attribute [local go_sem] max2_int min2_int max_two min_two max_three min_three max_four min_four
set_option linter.unusedVariables false
set_option linter.unusedSimpArgs false
theorem eqA41 (d : Nat) (w : World) (x0 y0 : Int) (x1 y1 : Int) (x2 y2 : Int) (x3 y3 : Int) (x4 y4 : Int) (x5 y5 : Int) :
  (Op.equalIn (d + 2) 41 (.agg #[.int .i64 x0, .int .i64 x1, .int .i64 x2, .int .i64 x3, .int .i64 x4, .int .u8 x5]) (.agg #[.int .i64 y0, .int .i64 y1, .int .i64 y2, .int .i64 y3, .int .i64 y4, .int .u8 y5])).run Try.prog w = .ok (x0 == y0 && (x1 == y1 && (x2 == y2 && (x3 == y3 && (x4 == y4 && (x5 == y5)))))) w := by
 refine eqA_of Try.underlying41 (by kernel_rfl) ?_
 refine eqf_cons (by rfl) (by go_simp; rfl) (by go_simp; rfl) (by go_simp) ?_
 refine eqf_cons (by rfl) (by go_simp; rfl) (by go_simp; rfl) (by go_simp) ?_
 refine eqf_cons (by rfl) (by go_simp; rfl) (by go_simp; rfl) (by go_simp) ?_
 refine eqf_cons (by rfl) (by go_simp; rfl) (by go_simp; rfl) (by go_simp) ?_
 refine eqf_cons (by rfl) (by go_simp; rfl) (by go_simp; rfl) (by go_simp) ?_
 exact eqf_last (by rfl) (by go_simp; rfl) (by go_simp; rfl) (by go_simp)
end Go.Proofs.Ytgffddbhnggllaa.QF
namespace Go.Proofs.Ytgffddbhnggllaa.QF
open Go.RowKit Go.Proofs.YtgffddbhnggllaaW.PrintWords Go.Proofs.YtgffddbhnggllaaW.PrintLast Go.Proofs.YtgffddbhnggllaaW.PrintMore
attribute [local go_sem] max2_int min2_int max_two min_two max_three min_three max_four min_four
set_option linter.unusedVariables false
set_option linter.unusedSimpArgs false
def order_All.f (l0 : List S41) (a1 a2 : Int) : Option (List S41 × Int) := some (Ed.allF l0 a1 a2)
theorem order_All.calls (A0 : Option Addr) (c0 : Nat) (l0 : List (S41)) (a1 : Int) (a2 : Int) (r1 : List (S41)) (r2 : Int) (w : World) (hr0 : Kd.C k41 w A0 l0.length l0) (hc0 : l0.length ≤ c0) (h : order_All.f l0 a1 a2 = some (r1, r2)) :
  Calls Try.prog 26 #[.slice A0 l0.length c0, .int .i64 a1, .int .i64 a2] w fun e w' => ∃ v0_ : Value, e = .returned (.tuple #[v0_, .int .i64 r2]) ∧ Kd.R k41 41 w' w.heap.size (fun _ => True) v0_ r1 ∧ Below w.heap.size w w' := by
 have h' := Option.some.inj h
 have e := Ed.all_calls A0 c0 l0 a1 a2 w hr0 hc0
 rw [h'] at e
 exact e
end Go.Proofs.Ytgffddbhnggllaa.QF
namespace Go.Proofs.Ytgffddbhnggllaa.QF
open Go.RowKit Go.Proofs.YtgffddbhnggllaaW.PrintWords Go.Proofs.YtgffddbhnggllaaW.PrintLast Go.Proofs.YtgffddbhnggllaaW.PrintMore
attribute [local go_sem] max2_int min2_int max_two min_two max_three min_three max_four min_four
set_option linter.unusedVariables false
set_option linter.unusedSimpArgs false
def order_Force.f (l0 : List (S41)) (a1 : Int) (a2 : Int) : Option (Int × Int × Int × Int × Int × Int × Int) := (order_All.f l0 a1 a2).bind fun bt110 => (if bt110.2 = 0 then (if (bt110.1.length : Int) = 0 then (some (0, 0, 0, 0, 0, 0, 6)) else (if 0 < (bt110.1.length : Int) then (some ((rd_T41 bt110.1 0).f0, (rd_T41 bt110.1 0).f1, (rd_T41 bt110.1 0).f2, (rd_T41 bt110.1 0).f3, (rd_T41 bt110.1 0).f4, (rd_T41 bt110.1 0).f5, 0)) else (none))) else (some (0, 0, 0, 0, 0, 0, bt110.2)))
set_option maxHeartbeats 8000000 in
set_option maxRecDepth 100000 in
theorem order_Force.calls (A0 : Option Addr) (c0 : Nat) (l0 : List (S41)) (a1 : Int) (a2 : Int) (r1 : Int) (r2 : Int) (r3 : Int) (r4 : Int) (r5 : Int) (r6 : Int) (r7 : Int) (w : World) (hr0 : Kd.C k41 w A0 l0.length l0) (hc0 : l0.length ≤ c0) (h : order_Force.f l0 a1 a2 = some (r1, r2, r3, r4, r5, r6, r7)) :
  Calls Try.prog 27 #[.slice A0 l0.length c0, .int .i64 a1, .int .i64 a2] w fun e w' => e = .returned (.tuple #[.agg #[.int .i64 r1, .int .i64 r2, .int .i64 r3, .int .i64 r4, .int .i64 r5, .int .u8 r6], .int .i64 r7]) ∧ Below w.heap.size w w' := by
 have hu41 := Try.underlying41
 have HR0 := Aside0.mk hr0
 have HC0 := Aside0.mk hc0
 clear hr0 hc0
 have HB := Aside0.mk (Below.refl w.heap.size w)
 have H : ((order_All.f l0 a1 a2).bind fun bt110 => (if bt110.2 = 0 then (if (bt110.1.length : Int) = 0 then (some (0, 0, 0, 0, 0, 0, 6)) else (if 0 < (bt110.1.length : Int) then (some ((rd_T41 bt110.1 0).f0, (rd_T41 bt110.1 0).f1, (rd_T41 bt110.1 0).f2, (rd_T41 bt110.1 0).f3, (rd_T41 bt110.1 0).f4, (rd_T41 bt110.1 0).f5, 0)) else (none))) else (some (0, 0, 0, 0, 0, 0, bt110.2)))) = some (r1, r2, r3, r4, r5, r6, r7) := h
 clear h
 replace H := Option.bind_eq_some_iff.mp H
 obtain ⟨⟨t110, t111⟩, A40, H⟩ := H
 replace H : (if t111 = 0 then (if (t110.length : Int) = 0 then (some (0, 0, 0, 0, 0, 0, 6)) else (if 0 < (t110.length : Int) then (some ((rd_T41 t110 0).f0, (rd_T41 t110 0).f1, (rd_T41 t110 0).f2, (rd_T41 t110 0).f3, (rd_T41 t110 0).f4, (rd_T41 t110 0).f5, 0)) else (none))) else (some (0, 0, 0, 0, 0, 0, t111))) = some (r1, r2, r3, r4, r5, r6, r7) := H
 have A4 := Aside0.mk A40
 clear A40
 by_cases c5 : t111 = 0
 ·rw [if_pos c5] at H
  have c5b0 : (t111 == 0) = true := beq_iff_eq.mpr c5
  have c5b1 : (t111 != 0) = false := bne_eq_false_iff_eq.mpr c5
  clear c5
  by_cases c6 : (t110.length : Int) = 0
  ·rw [if_pos c6] at H
   have c6b0 : ((t110.length : Int) == 0) = true := beq_iff_eq.mpr c6
   have c6b1 : ((t110.length : Int) != 0) = false := bne_eq_false_iff_eq.mpr c6
   clear c6
   simp only [Option.some.injEq, Prod.mk.injEq] at H
   obtain ⟨rfl, rfl, rfl, rfl, rfl, rfl, rfl⟩ := H
   go_enter Try.func27, Try.ntmps27
   go_wp2_with (first | ((with_reducible refine gate_dst (N := 6) rfl ?_); refine box_event ?hg (N := 6) ?hd (cs := #[.int .i64 0, .int .i64 0, .int .i64 0, .int .i64 0, .int .i64 0, .int .u8 0]) (t := 41) ?hr ?_; (case hd => rfl); (case hg => rfl); (case hr => first | (go_simp; done) | (go_simp; rfl)); intro gb109 hg w7 hbox hb; have n0_ := Aside0.mk (below_step (by repeat (first | (with_reducible first | exact HB.out | apply below_alloc | apply pw_below_drewN | apply below_drew1) | exact HB.out)) hb); have n1_ := Aside0.mk (hbox); have n2_ := Aside0.mk ((by rw [hg]; exact (below_size (by repeat (first | (with_reducible first | exact HB.out | apply below_alloc | apply pw_below_drewN | apply below_drew1) | exact HB.out))) : w.heap.size ≤ gb109)); have n3_ := Aside0.mk ((by rw [hg]; exact (below_size (by repeat (first | (with_reducible first | exact HB.out | apply below_alloc | apply pw_below_drewN | apply below_drew1) | exact HB.out))) : w.heap.size ≤ gb109)); clear HB; have HB := n0_; have BK109 := n1_; have GW109 := n2_; have GE109 := n3_; clear n0_ n1_ n2_ n3_; clear hb hbox hg) | ((with_reducible refine gate_callee (f := 26) rfl ?_); refine goesL_ (some 14) rfl rfl Try.func26 (by kernel_rfl) rfl #[.slice A0 l0.length c0, .int .i64 a1, .int .i64 a2] rfl (by (try simp only [List.map_toArray, List.map_cons, List.map_nil]); first | done | rfl | (simp only [List.length_drop, List.length_take]; rfl)) ?_; (with_reducible refine (order_All.calls _ _ l0 a1 a2 t110 t111 _ ?side1 ?side2 A4.out).mono ?_); (case side1 => repeat (first | exact (Kd.C_below HR0.out HB.out) | (with_reducible refine Kd.C_alloc ?_ _) | (with_reducible refine Kd.C_drewN ?_ _) | (with_reducible refine Kd.C_drew ?_))); (case side2 => exact HC0.out); rintro e w8 ⟨v112, rfl, ho0, hb⟩; refine ⟨_, rfl, ?_⟩; have n0_ := Aside0.mk (Kd.R_lower (Kd.R_newB ho0 (g := gb109) (o := .cells #[.int .i64 0, .int .i64 0, .int .i64 0, .int .i64 0, .int .i64 0, .int .u8 0] 41 (0, 0)) (by (with_reducible repeat (first | refine blk_drewN ?_ _ | refine blk_drew ?_ | refine blk_alloc ?_ _)); exact BK109.out)) (below_size (by repeat (first | (with_reducible first | exact HB.out | apply below_alloc | apply pw_below_drewN | apply below_drew1 | refine below_set ?_ GE109.out) | exact HB.out)))); have n1_ := Aside0.mk (blk_below (g := gb109) (o := .cells #[.int .i64 0, .int .i64 0, .int .i64 0, .int .i64 0, .int .i64 0, .int .u8 0] 41 (0, 0)) (by (with_reducible repeat (first | refine blk_drewN ?_ _ | refine blk_drew ?_ | refine blk_alloc ?_ _)); exact BK109.out) hb); have n2_ := Aside0.mk (below_step (by repeat (first | (with_reducible first | exact HB.out | apply below_alloc | apply pw_below_drewN | apply below_drew1 | refine below_set ?_ GE109.out) | exact HB.out)) hb); clear BK109; clear HB; have HO113 := n0_; have BK109 := n1_; have HB := n2_; clear n0_ n1_ n2_; (try clear hb); (try clear hb2); (try clear hk); (try clear hi); (try clear ho0); obtain ⟨Ao9, co9, eo9⟩ := Kd.R_slice HO113.out; subst eo9; have hcz10_0 : w8.cell? ⟨gb109, 0, none⟩ = some (.int .i64 0) := (blk_cell BK109.out 0).trans rfl; have hcz10_1 : w8.cell? ⟨gb109, 1, none⟩ = some (.int .i64 0) := (blk_cell BK109.out 1).trans rfl; have hcz10_2 : w8.cell? ⟨gb109, 2, none⟩ = some (.int .i64 0) := (blk_cell BK109.out 2).trans rfl; have hcz10_3 : w8.cell? ⟨gb109, 3, none⟩ = some (.int .i64 0) := (blk_cell BK109.out 3).trans rfl; have hcz10_4 : w8.cell? ⟨gb109, 4, none⟩ = some (.int .i64 0) := (blk_cell BK109.out 4).trans rfl; have hcz10_5 : w8.cell? ⟨gb109, 5, none⟩ = some (.int .u8 0) := (blk_cell BK109.out 5).trans rfl; have hfz10_0 := blk_frozen BK109.out 0; have hfz10_1 := blk_frozen BK109.out 1; have hfz10_2 := blk_frozen BK109.out 2; have hfz10_3 := blk_frozen BK109.out 3; have hfz10_4 := blk_frozen BK109.out 4; have hfz10_5 := blk_frozen BK109.out 5))
   refine bodyPost_ret (results_ct rfl _ _ gb109 41 #[.int .i64 0, .int .i64 0, .int .i64 0, .int .i64 0, .int .i64 0, .int .u8 0] (0, 0) _ rfl (by (with_reducible repeat (first | refine blk_drewN ?_ _ | refine blk_drew ?_ | refine blk_alloc ?_ _)); refine blk_put (cs := #[.int .i64 0, .int .i64 0, .int .i64 0, .int .i64 0, .int .i64 0, .int .u8 0]) ?_ 5 _ rfl; (with_reducible repeat (first | refine blk_drewN ?_ _ | refine blk_drew ?_ | refine blk_alloc ?_ _)); refine blk_put (cs := #[.int .i64 0, .int .i64 0, .int .i64 0, .int .i64 0, .int .i64 0, .int .u8 0]) ?_ 4 _ rfl; (with_reducible repeat (first | refine blk_drewN ?_ _ | refine blk_drew ?_ | refine blk_alloc ?_ _)); refine blk_put (cs := #[.int .i64 0, .int .i64 0, .int .i64 0, .int .i64 0, .int .i64 0, .int .u8 0]) ?_ 3 _ rfl; (with_reducible repeat (first | refine blk_drewN ?_ _ | refine blk_drew ?_ | refine blk_alloc ?_ _)); refine blk_put (cs := #[.int .i64 0, .int .i64 0, .int .i64 0, .int .i64 0, .int .i64 0, .int .u8 0]) ?_ 2 _ rfl; (with_reducible repeat (first | refine blk_drewN ?_ _ | refine blk_drew ?_ | refine blk_alloc ?_ _)); refine blk_put (cs := #[.int .i64 0, .int .i64 0, .int .i64 0, .int .i64 0, .int .i64 0, .int .u8 0]) ?_ 1 _ rfl; (with_reducible repeat (first | refine blk_drewN ?_ _ | refine blk_drew ?_ | refine blk_alloc ?_ _)); refine blk_put (cs := #[.int .i64 0, .int .i64 0, .int .i64 0, .int .i64 0, .int .i64 0, .int .u8 0]) ?_ 0 _ rfl; (with_reducible repeat (first | refine blk_drewN ?_ _ | refine blk_drew ?_ | refine blk_alloc ?_ _)); exact BK109.out) Try.underlying41 rfl (by kernel_rfl)) rfl ?_
   exact ⟨by first | rfl | (simp [errW_none, errW_some] <;> rfl) | (simp [*, errW_none, errW_some] <;> rfl), by repeat (first | (with_reducible first | exact HB.out | apply below_alloc | apply pw_below_drewN | apply below_drew1 | refine below_set ?_ GE109.out) | exact HB.out)⟩
  ·rw [if_neg c6] at H
   have c6b0 : ((t110.length : Int) == 0) = false := beq_eq_false_iff_ne.mpr c6
   have c6b1 : ((t110.length : Int) != 0) = true := bne_iff_ne.mpr c6
   have c6b2 : ¬ (t110 = []) := fun h_ => c6 (by rw [h_]; rfl)
   by_cases c11 : 0 < (t110.length : Int)
   ·rw [if_pos c11] at H
    have c11b0 : decide (0 < (t110.length : Int)) = true := decide_eq_true c11
    have c11b1 : decide (0 < t110.length) = true := decide_eq_true (by omega)
    clear c11
    simp only [Option.some.injEq, Prod.mk.injEq] at H
    obtain ⟨rfl, rfl, rfl, rfl, rfl, rfl, rfl⟩ := H
    go_enter Try.func27, Try.ntmps27
    go_wp2_with (first | ((with_reducible refine gate_dst (N := 6) rfl ?_); refine box_event ?hg (N := 6) ?hd (cs := #[.int .i64 0, .int .i64 0, .int .i64 0, .int .i64 0, .int .i64 0, .int .u8 0]) (t := 41) ?hr ?_; (case hd => rfl); (case hg => rfl); (case hr => first | (go_simp; done) | (go_simp; rfl)); intro gb109 hg w12 hbox hb; have n0_ := Aside0.mk (below_step (by repeat (first | (with_reducible first | exact HB.out | apply below_alloc | apply pw_below_drewN | apply below_drew1) | exact HB.out)) hb); have n1_ := Aside0.mk (hbox); have n2_ := Aside0.mk ((by rw [hg]; exact (below_size (by repeat (first | (with_reducible first | exact HB.out | apply below_alloc | apply pw_below_drewN | apply below_drew1) | exact HB.out))) : w.heap.size ≤ gb109)); have n3_ := Aside0.mk ((by rw [hg]; exact (below_size (by repeat (first | (with_reducible first | exact HB.out | apply below_alloc | apply pw_below_drewN | apply below_drew1) | exact HB.out))) : w.heap.size ≤ gb109)); clear HB; have HB := n0_; have BK109 := n1_; have GW109 := n2_; have GE109 := n3_; clear n0_ n1_ n2_ n3_; clear hb hbox hg) | ((with_reducible refine gate_callee (f := 26) rfl ?_); refine goesL_ (some 14) rfl rfl Try.func26 (by kernel_rfl) rfl #[.slice A0 l0.length c0, .int .i64 a1, .int .i64 a2] rfl (by (try simp only [List.map_toArray, List.map_cons, List.map_nil]); first | done | rfl | (simp only [List.length_drop, List.length_take]; rfl)) ?_; (with_reducible refine (order_All.calls _ _ l0 a1 a2 t110 t111 _ ?side1 ?side2 A4.out).mono ?_); (case side1 => repeat (first | exact (Kd.C_below HR0.out HB.out) | (with_reducible refine Kd.C_alloc ?_ _) | (with_reducible refine Kd.C_drewN ?_ _) | (with_reducible refine Kd.C_drew ?_))); (case side2 => exact HC0.out); rintro e w13 ⟨v112, rfl, ho0, hb⟩; refine ⟨_, rfl, ?_⟩; have n0_ := Aside0.mk (Kd.R_lower (Kd.R_newB ho0 (g := gb109) (o := .cells #[.int .i64 0, .int .i64 0, .int .i64 0, .int .i64 0, .int .i64 0, .int .u8 0] 41 (0, 0)) (by (with_reducible repeat (first | refine blk_drewN ?_ _ | refine blk_drew ?_ | refine blk_alloc ?_ _)); exact BK109.out)) (below_size (by repeat (first | (with_reducible first | exact HB.out | apply below_alloc | apply pw_below_drewN | apply below_drew1 | refine below_set ?_ GE109.out) | exact HB.out)))); have n1_ := Aside0.mk (blk_below (g := gb109) (o := .cells #[.int .i64 0, .int .i64 0, .int .i64 0, .int .i64 0, .int .i64 0, .int .u8 0] 41 (0, 0)) (by (with_reducible repeat (first | refine blk_drewN ?_ _ | refine blk_drew ?_ | refine blk_alloc ?_ _)); exact BK109.out) hb); have n2_ := Aside0.mk (below_step (by repeat (first | (with_reducible first | exact HB.out | apply below_alloc | apply pw_below_drewN | apply below_drew1 | refine below_set ?_ GE109.out) | exact HB.out)) hb); clear BK109; clear HB; have HO113 := n0_; have BK109 := n1_; have HB := n2_; clear n0_ n1_ n2_; (try clear hb); (try clear hb2); (try clear hk); (try clear hi); (try clear ho0); obtain ⟨Ao14, co14, eo14⟩ := Kd.R_slice HO113.out; subst eo14; have p114 : 0 ≤ (0 : Int) := (by omega); have q114 : 0 < (t110.length : Int) := of_decide_eq_true (by first | (with_reducible assumption) | assumption); obtain ⟨ad114, e114, hx114_0, hx114_1, hx114_2, hx114_3, hx114_4, hx114_5⟩ := at_T41 (Kd.R_reads' HO113.out).2.2 0 p114 q114; cases e114; have qi114 : (0 < t110.length) = True := eq_true (by omega); (try rw [show ((0 : Int)).toNat = 0 from rfl] at hx114_0); (try rw [show 0 * 6 = 0 from rfl] at hx114_0); (try rw [Addr.add_zero'] at hx114_0); (try rw [show ((0 : Int)).toNat = 0 from rfl] at hx114_1); (try rw [show 0 * 6 = 0 from rfl] at hx114_1); (try rw [Addr.add_zero'] at hx114_1); (try rw [show ((0 : Int)).toNat = 0 from rfl] at hx114_2); (try rw [show 0 * 6 = 0 from rfl] at hx114_2); (try rw [Addr.add_zero'] at hx114_2); (try rw [show ((0 : Int)).toNat = 0 from rfl] at hx114_3); (try rw [show 0 * 6 = 0 from rfl] at hx114_3); (try rw [Addr.add_zero'] at hx114_3); (try rw [show ((0 : Int)).toNat = 0 from rfl] at hx114_4); (try rw [show 0 * 6 = 0 from rfl] at hx114_4); (try rw [Addr.add_zero'] at hx114_4); (try rw [show ((0 : Int)).toNat = 0 from rfl] at hx114_5); (try rw [show 0 * 6 = 0 from rfl] at hx114_5); (try rw [Addr.add_zero'] at hx114_5); replace p114 := eq_true p114; replace q114 := eq_true q114; have hcz15_0 : w13.cell? ⟨gb109, 0, none⟩ = some (.int .i64 0) := (blk_cell BK109.out 0).trans rfl; have hcz15_1 : w13.cell? ⟨gb109, 1, none⟩ = some (.int .i64 0) := (blk_cell BK109.out 1).trans rfl; have hcz15_2 : w13.cell? ⟨gb109, 2, none⟩ = some (.int .i64 0) := (blk_cell BK109.out 2).trans rfl; have hcz15_3 : w13.cell? ⟨gb109, 3, none⟩ = some (.int .i64 0) := (blk_cell BK109.out 3).trans rfl; have hcz15_4 : w13.cell? ⟨gb109, 4, none⟩ = some (.int .i64 0) := (blk_cell BK109.out 4).trans rfl; have hcz15_5 : w13.cell? ⟨gb109, 5, none⟩ = some (.int .u8 0) := (blk_cell BK109.out 5).trans rfl; have hfz15_0 := blk_frozen BK109.out 0; have hfz15_1 := blk_frozen BK109.out 1; have hfz15_2 := blk_frozen BK109.out 2; have hfz15_3 := blk_frozen BK109.out 3; have hfz15_4 := blk_frozen BK109.out 4; have hfz15_5 := blk_frozen BK109.out 5))
    refine bodyPost_ret (results_ct rfl _ _ gb109 41 #[.int .i64 ((rd_T41 t110 0).f0), .int .i64 ((rd_T41 t110 0).f1), .int .i64 ((rd_T41 t110 0).f2), .int .i64 ((rd_T41 t110 0).f3), .int .i64 ((rd_T41 t110 0).f4), .int .u8 ((rd_T41 t110 0).f5)] (0, 0) _ rfl (by (with_reducible repeat (first | refine blk_drewN ?_ _ | refine blk_drew ?_ | refine blk_alloc ?_ _)); refine blk_put (cs := #[.int .i64 ((rd_T41 t110 0).f0), .int .i64 ((rd_T41 t110 0).f1), .int .i64 ((rd_T41 t110 0).f2), .int .i64 ((rd_T41 t110 0).f3), .int .i64 ((rd_T41 t110 0).f4), .int .u8 0]) ?_ 5 _ rfl; (with_reducible repeat (first | refine blk_drewN ?_ _ | refine blk_drew ?_ | refine blk_alloc ?_ _)); refine blk_put (cs := #[.int .i64 ((rd_T41 t110 0).f0), .int .i64 ((rd_T41 t110 0).f1), .int .i64 ((rd_T41 t110 0).f2), .int .i64 ((rd_T41 t110 0).f3), .int .i64 0, .int .u8 0]) ?_ 4 _ rfl; (with_reducible repeat (first | refine blk_drewN ?_ _ | refine blk_drew ?_ | refine blk_alloc ?_ _)); refine blk_put (cs := #[.int .i64 ((rd_T41 t110 0).f0), .int .i64 ((rd_T41 t110 0).f1), .int .i64 ((rd_T41 t110 0).f2), .int .i64 0, .int .i64 0, .int .u8 0]) ?_ 3 _ rfl; (with_reducible repeat (first | refine blk_drewN ?_ _ | refine blk_drew ?_ | refine blk_alloc ?_ _)); refine blk_put (cs := #[.int .i64 ((rd_T41 t110 0).f0), .int .i64 ((rd_T41 t110 0).f1), .int .i64 0, .int .i64 0, .int .i64 0, .int .u8 0]) ?_ 2 _ rfl; (with_reducible repeat (first | refine blk_drewN ?_ _ | refine blk_drew ?_ | refine blk_alloc ?_ _)); refine blk_put (cs := #[.int .i64 ((rd_T41 t110 0).f0), .int .i64 0, .int .i64 0, .int .i64 0, .int .i64 0, .int .u8 0]) ?_ 1 _ rfl; (with_reducible repeat (first | refine blk_drewN ?_ _ | refine blk_drew ?_ | refine blk_alloc ?_ _)); refine blk_put (cs := #[.int .i64 0, .int .i64 0, .int .i64 0, .int .i64 0, .int .i64 0, .int .u8 0]) ?_ 0 _ rfl; (with_reducible repeat (first | refine blk_drewN ?_ _ | refine blk_drew ?_ | refine blk_alloc ?_ _)); exact BK109.out) Try.underlying41 rfl (by kernel_rfl)) rfl ?_
    exact ⟨by first | rfl | (simp [errW_none, errW_some] <;> rfl) | (simp [*, errW_none, errW_some] <;> rfl), by repeat (first | (with_reducible first | exact HB.out | apply below_alloc | apply pw_below_drewN | apply below_drew1 | refine below_set ?_ GE109.out) | exact HB.out)⟩
   ·rw [if_neg c11] at H
    exact absurd H (by simp)
 ·rw [if_neg c5] at H
  have c5b0 : (t111 == 0) = false := beq_eq_false_iff_ne.mpr c5
  have c5b1 : (t111 != 0) = true := bne_iff_ne.mpr c5
  simp only [Option.some.injEq, Prod.mk.injEq] at H
  obtain ⟨rfl, rfl, rfl, rfl, rfl, rfl, rfl⟩ := H
  go_enter Try.func27, Try.ntmps27
  go_wp2_with (first | ((with_reducible refine gate_dst (N := 6) rfl ?_); refine box_event ?hg (N := 6) ?hd (cs := #[.int .i64 0, .int .i64 0, .int .i64 0, .int .i64 0, .int .i64 0, .int .u8 0]) (t := 41) ?hr ?_; (case hd => rfl); (case hg => rfl); (case hr => first | (go_simp; done) | (go_simp; rfl)); intro gb109 hg w16 hbox hb; have n0_ := Aside0.mk (below_step (by repeat (first | (with_reducible first | exact HB.out | apply below_alloc | apply pw_below_drewN | apply below_drew1) | exact HB.out)) hb); have n1_ := Aside0.mk (hbox); have n2_ := Aside0.mk ((by rw [hg]; exact (below_size (by repeat (first | (with_reducible first | exact HB.out | apply below_alloc | apply pw_below_drewN | apply below_drew1) | exact HB.out))) : w.heap.size ≤ gb109)); have n3_ := Aside0.mk ((by rw [hg]; exact (below_size (by repeat (first | (with_reducible first | exact HB.out | apply below_alloc | apply pw_below_drewN | apply below_drew1) | exact HB.out))) : w.heap.size ≤ gb109)); clear HB; have HB := n0_; have BK109 := n1_; have GW109 := n2_; have GE109 := n3_; clear n0_ n1_ n2_ n3_; clear hb hbox hg) | ((with_reducible refine gate_callee (f := 26) rfl ?_); refine goesL_ (some 14) rfl rfl Try.func26 (by kernel_rfl) rfl #[.slice A0 l0.length c0, .int .i64 a1, .int .i64 a2] rfl (by (try simp only [List.map_toArray, List.map_cons, List.map_nil]); first | done | rfl | (simp only [List.length_drop, List.length_take]; rfl)) ?_; (with_reducible refine (order_All.calls _ _ l0 a1 a2 t110 t111 _ ?side1 ?side2 A4.out).mono ?_); (case side1 => repeat (first | exact (Kd.C_below HR0.out HB.out) | (with_reducible refine Kd.C_alloc ?_ _) | (with_reducible refine Kd.C_drewN ?_ _) | (with_reducible refine Kd.C_drew ?_))); (case side2 => exact HC0.out); rintro e w17 ⟨v112, rfl, ho0, hb⟩; refine ⟨_, rfl, ?_⟩; have n0_ := Aside0.mk (Kd.R_lower (Kd.R_newB ho0 (g := gb109) (o := .cells #[.int .i64 0, .int .i64 0, .int .i64 0, .int .i64 0, .int .i64 0, .int .u8 0] 41 (0, 0)) (by (with_reducible repeat (first | refine blk_drewN ?_ _ | refine blk_drew ?_ | refine blk_alloc ?_ _)); exact BK109.out)) (below_size (by repeat (first | (with_reducible first | exact HB.out | apply below_alloc | apply pw_below_drewN | apply below_drew1 | refine below_set ?_ GE109.out) | exact HB.out)))); have n1_ := Aside0.mk (blk_below (g := gb109) (o := .cells #[.int .i64 0, .int .i64 0, .int .i64 0, .int .i64 0, .int .i64 0, .int .u8 0] 41 (0, 0)) (by (with_reducible repeat (first | refine blk_drewN ?_ _ | refine blk_drew ?_ | refine blk_alloc ?_ _)); exact BK109.out) hb); have n2_ := Aside0.mk (below_step (by repeat (first | (with_reducible first | exact HB.out | apply below_alloc | apply pw_below_drewN | apply below_drew1 | refine below_set ?_ GE109.out) | exact HB.out)) hb); clear BK109; clear HB; have HO113 := n0_; have BK109 := n1_; have HB := n2_; clear n0_ n1_ n2_; (try clear hb); (try clear hb2); (try clear hk); (try clear hi); (try clear ho0); have hcz18_0 : w17.cell? ⟨gb109, 0, none⟩ = some (.int .i64 0) := (blk_cell BK109.out 0).trans rfl; have hcz18_1 : w17.cell? ⟨gb109, 1, none⟩ = some (.int .i64 0) := (blk_cell BK109.out 1).trans rfl; have hcz18_2 : w17.cell? ⟨gb109, 2, none⟩ = some (.int .i64 0) := (blk_cell BK109.out 2).trans rfl; have hcz18_3 : w17.cell? ⟨gb109, 3, none⟩ = some (.int .i64 0) := (blk_cell BK109.out 3).trans rfl; have hcz18_4 : w17.cell? ⟨gb109, 4, none⟩ = some (.int .i64 0) := (blk_cell BK109.out 4).trans rfl; have hcz18_5 : w17.cell? ⟨gb109, 5, none⟩ = some (.int .u8 0) := (blk_cell BK109.out 5).trans rfl; have hfz18_0 := blk_frozen BK109.out 0; have hfz18_1 := blk_frozen BK109.out 1; have hfz18_2 := blk_frozen BK109.out 2; have hfz18_3 := blk_frozen BK109.out 3; have hfz18_4 := blk_frozen BK109.out 4; have hfz18_5 := blk_frozen BK109.out 5))
  refine bodyPost_ret (results_ct rfl _ _ gb109 41 #[.int .i64 0, .int .i64 0, .int .i64 0, .int .i64 0, .int .i64 0, .int .u8 0] (0, 0) _ rfl (by (with_reducible repeat (first | refine blk_drewN ?_ _ | refine blk_drew ?_ | refine blk_alloc ?_ _)); refine blk_put (cs := #[.int .i64 0, .int .i64 0, .int .i64 0, .int .i64 0, .int .i64 0, .int .u8 0]) ?_ 5 _ rfl; (with_reducible repeat (first | refine blk_drewN ?_ _ | refine blk_drew ?_ | refine blk_alloc ?_ _)); refine blk_put (cs := #[.int .i64 0, .int .i64 0, .int .i64 0, .int .i64 0, .int .i64 0, .int .u8 0]) ?_ 4 _ rfl; (with_reducible repeat (first | refine blk_drewN ?_ _ | refine blk_drew ?_ | refine blk_alloc ?_ _)); refine blk_put (cs := #[.int .i64 0, .int .i64 0, .int .i64 0, .int .i64 0, .int .i64 0, .int .u8 0]) ?_ 3 _ rfl; (with_reducible repeat (first | refine blk_drewN ?_ _ | refine blk_drew ?_ | refine blk_alloc ?_ _)); refine blk_put (cs := #[.int .i64 0, .int .i64 0, .int .i64 0, .int .i64 0, .int .i64 0, .int .u8 0]) ?_ 2 _ rfl; (with_reducible repeat (first | refine blk_drewN ?_ _ | refine blk_drew ?_ | refine blk_alloc ?_ _)); refine blk_put (cs := #[.int .i64 0, .int .i64 0, .int .i64 0, .int .i64 0, .int .i64 0, .int .u8 0]) ?_ 1 _ rfl; (with_reducible repeat (first | refine blk_drewN ?_ _ | refine blk_drew ?_ | refine blk_alloc ?_ _)); refine blk_put (cs := #[.int .i64 0, .int .i64 0, .int .i64 0, .int .i64 0, .int .i64 0, .int .u8 0]) ?_ 0 _ rfl; (with_reducible repeat (first | refine blk_drewN ?_ _ | refine blk_drew ?_ | refine blk_alloc ?_ _)); exact BK109.out) Try.underlying41 rfl (by kernel_rfl)) rfl ?_
  exact ⟨by first | rfl | (simp [errW_none, errW_some] <;> rfl) | (simp [*, errW_none, errW_some] <;> rfl), by repeat (first | (with_reducible first | exact HB.out | apply below_alloc | apply pw_below_drewN | apply below_drew1 | refine below_set ?_ GE109.out) | exact HB.out)⟩
end Go.Proofs.Ytgffddbhnggllaa.QF
namespace Go.Proofs.Ytgffddbhnggllaa.QF
open Go.RowKit Go.Proofs.YtgffddbhnggllaaW.PrintWords Go.Proofs.YtgffddbhnggllaaW.PrintLast Go.Proofs.YtgffddbhnggllaaW.PrintMore
attribute [local go_sem] max2_int min2_int max_two min_two max_three min_three max_four min_four
set_option linter.unusedVariables false
set_option linter.unusedSimpArgs false
attribute [local go_sem high] eqA41
def letterbaglaw35_in.f (l0 : List (S41)) (a1 : Int) (a2 : Int) : Option (Int × Bool) := (order_Force.f l0 a1 a2).bind fun bt318 => (if bt318.2.2.2.2.2.2 = 0 then (if bt318.1 > 0 then (some (bt318.1, true)) else (if bt318.2.2.2.2.2.2 = 6 then (some (bt318.1, (bt318.1 == 0 && (bt318.2.1 == 0 && (bt318.2.2.1 == 0 && (bt318.2.2.2.1 == 0 && (bt318.2.2.2.2.1 == 0 && (bt318.2.2.2.2.2.1 == 0)))))))) else (some (bt318.1, false)))) else (if bt318.2.2.2.2.2.2 = 6 then (some (bt318.1, (bt318.1 == 0 && (bt318.2.1 == 0 && (bt318.2.2.1 == 0 && (bt318.2.2.2.1 == 0 && (bt318.2.2.2.2.1 == 0 && (bt318.2.2.2.2.2.1 == 0)))))))) else (some (bt318.1, false))))
set_option maxHeartbeats 8000000 in
set_option maxRecDepth 100000 in
theorem letterbaglaw35_in.calls (A0 : Option Addr) (c0 : Nat) (l0 : List (S41)) (a1 : Int) (a2 : Int) (r1 : Int) (r2 : Bool) (w : World) (hr0 : Kd.C k41 w A0 l0.length l0) (hc0 : l0.length ≤ c0) (h : letterbaglaw35_in.f l0 a1 a2 = some (r1, r2)) :
  Calls Try.prog 35 #[.slice A0 l0.length c0, .int .i64 a1, .int .i64 a2] w fun e w' => e = .returned (.tuple #[.int .i64 r1, .bool r2]) ∧ Below w.heap.size w w' := by
 have hu41 := Try.underlying41
 have HR0 := Aside0.mk hr0
 have HC0 := Aside0.mk hc0
 clear hr0 hc0
 have HB := Aside0.mk (Below.refl w.heap.size w)
 have H : ((order_Force.f l0 a1 a2).bind fun bt318 => (if bt318.2.2.2.2.2.2 = 0 then (if bt318.1 > 0 then (some (bt318.1, true)) else (if bt318.2.2.2.2.2.2 = 6 then (some (bt318.1, (bt318.1 == 0 && (bt318.2.1 == 0 && (bt318.2.2.1 == 0 && (bt318.2.2.2.1 == 0 && (bt318.2.2.2.2.1 == 0 && (bt318.2.2.2.2.2.1 == 0)))))))) else (some (bt318.1, false)))) else (if bt318.2.2.2.2.2.2 = 6 then (some (bt318.1, (bt318.1 == 0 && (bt318.2.1 == 0 && (bt318.2.2.1 == 0 && (bt318.2.2.2.1 == 0 && (bt318.2.2.2.2.1 == 0 && (bt318.2.2.2.2.2.1 == 0)))))))) else (some (bt318.1, false))))) = some (r1, r2) := h
 clear h
 replace H := Option.bind_eq_some_iff.mp H
 obtain ⟨⟨t318, t319, t320, t321, t322, t323, t324⟩, A40, H⟩ := H
 replace H : (if t324 = 0 then (if t318 > 0 then (some (t318, true)) else (if t324 = 6 then (some (t318, (t318 == 0 && (t319 == 0 && (t320 == 0 && (t321 == 0 && (t322 == 0 && (t323 == 0)))))))) else (some (t318, false)))) else (if t324 = 6 then (some (t318, (t318 == 0 && (t319 == 0 && (t320 == 0 && (t321 == 0 && (t322 == 0 && (t323 == 0)))))))) else (some (t318, false)))) = some (r1, r2) := H
 have A4 := Aside0.mk A40
 clear A40
 by_cases c5 : t324 = 0
 ·rw [if_pos c5] at H
  have c5b0 : (t324 == 0) = true := beq_iff_eq.mpr c5
  have c5b1 : (t324 != 0) = false := bne_eq_false_iff_eq.mpr c5
  clear c5
  by_cases c6 : t318 > 0
  ·rw [if_pos c6] at H
   have c6b0 : decide (0 < t318) = true := decide_eq_true c6
   clear c6
   simp only [Option.some.injEq, Prod.mk.injEq] at H
   obtain ⟨rfl, rfl⟩ := H
   go_enter Try.func35, Try.ntmps35
   go_wp2_with (first | (go_at_call 27; (with_reducible refine (order_Force.calls _ _ l0 a1 a2 t318 t319 t320 t321 t322 t323 t324 _ ?side1 ?side2 A4.out).mono ?_); (case side1 => repeat (first | exact HR0.out | (with_reducible refine Kd.C_alloc ?_ _) | (with_reducible refine Kd.C_drewN ?_ _) | (with_reducible refine Kd.C_drew ?_))); (case side2 => exact HC0.out); rintro e w7 ⟨rfl, hb⟩; have n0_ := Aside0.mk (below_step (by repeat (first | (with_reducible first | exact HB.out | apply below_alloc | apply pw_below_drewN | apply below_drew1) | exact HB.out)) hb); clear HB; have HB := n0_; clear n0_; (try clear hb); (try clear hb2); (try clear hk); (try clear hi)) | ((with_reducible refine gate_dst (N := 8) rfl ?_); refine box_event ?hg (N := 8) ?hd (cs := #[.int .i64 0, .int .i64 0, .int .i64 0, .int .i64 0, .int .i64 0, .int .u8 0]) (t := 41) ?hr ?_; (case hd => rfl); (case hg => rfl); (case hr => first | (go_simp; done) | (go_simp; rfl)); intro gb325 hg w8 hbox hb; have n0_ := Aside0.mk (below_step (by repeat (first | (with_reducible first | exact HB.out | apply below_alloc | apply pw_below_drewN | apply below_drew1) | exact HB.out)) hb); have n1_ := Aside0.mk (hbox); have n2_ := Aside0.mk ((by rw [hg]; exact (below_size (by repeat (first | (with_reducible first | exact HB.out | apply below_alloc | apply pw_below_drewN | apply below_drew1) | exact HB.out))) : w.heap.size ≤ gb325)); have n3_ := Aside0.mk ((by rw [hg]; exact (below_size (by repeat (first | (with_reducible first | exact HB.out | apply below_alloc | apply pw_below_drewN | apply below_drew1) | exact HB.out))) : w.heap.size ≤ gb325)); clear HB; have HB := n0_; have BK325 := n1_; have GW325 := n2_; have GE325 := n3_; clear n0_ n1_ n2_ n3_; clear hb hbox hg; have hcz9_0 : w8.cell? ⟨gb325, 0, none⟩ = some (.int .i64 0) := (blk_cell BK325.out 0).trans rfl; have hcz9_1 : w8.cell? ⟨gb325, 1, none⟩ = some (.int .i64 0) := (blk_cell BK325.out 1).trans rfl; have hcz9_2 : w8.cell? ⟨gb325, 2, none⟩ = some (.int .i64 0) := (blk_cell BK325.out 2).trans rfl; have hcz9_3 : w8.cell? ⟨gb325, 3, none⟩ = some (.int .i64 0) := (blk_cell BK325.out 3).trans rfl; have hcz9_4 : w8.cell? ⟨gb325, 4, none⟩ = some (.int .i64 0) := (blk_cell BK325.out 4).trans rfl; have hcz9_5 : w8.cell? ⟨gb325, 5, none⟩ = some (.int .u8 0) := (blk_cell BK325.out 5).trans rfl; have hfz9_0 := blk_frozen BK325.out 0; have hfz9_1 := blk_frozen BK325.out 1; have hfz9_2 := blk_frozen BK325.out 2; have hfz9_3 := blk_frozen BK325.out 3; have hfz9_4 := blk_frozen BK325.out 4; have hfz9_5 := blk_frozen BK325.out 5))
   repeat (go_quiet (first | (go_at_call 27; (with_reducible refine (order_Force.calls _ _ l0 a1 a2 t318 t319 t320 t321 t322 t323 t324 _ ?side1 ?side2 A4.out).mono ?_); (case side1 => repeat (first | exact HR0.out | (with_reducible refine Kd.C_alloc ?_ _) | (with_reducible refine Kd.C_drewN ?_ _) | (with_reducible refine Kd.C_drew ?_))); (case side2 => exact HC0.out); rintro e w7 ⟨rfl, hb⟩; have n0_ := Aside0.mk (below_step (by repeat (first | (with_reducible first | exact HB.out | apply below_alloc | apply pw_below_drewN | apply below_drew1) | exact HB.out)) hb); clear HB; have HB := n0_; clear n0_; (try clear hb); (try clear hb2); (try clear hk); (try clear hi)) | ((with_reducible refine gate_dst (N := 8) rfl ?_); refine box_event ?hg (N := 8) ?hd (cs := #[.int .i64 0, .int .i64 0, .int .i64 0, .int .i64 0, .int .i64 0, .int .u8 0]) (t := 41) ?hr ?_; (case hd => rfl); (case hg => rfl); (case hr => first | (go_simp; done) | (go_simp; rfl)); intro gb325 hg w8 hbox hb; have n0_ := Aside0.mk (below_step (by repeat (first | (with_reducible first | exact HB.out | apply below_alloc | apply pw_below_drewN | apply below_drew1) | exact HB.out)) hb); have n1_ := Aside0.mk (hbox); have n2_ := Aside0.mk ((by rw [hg]; exact (below_size (by repeat (first | (with_reducible first | exact HB.out | apply below_alloc | apply pw_below_drewN | apply below_drew1) | exact HB.out))) : w.heap.size ≤ gb325)); have n3_ := Aside0.mk ((by rw [hg]; exact (below_size (by repeat (first | (with_reducible first | exact HB.out | apply below_alloc | apply pw_below_drewN | apply below_drew1) | exact HB.out))) : w.heap.size ≤ gb325)); clear HB; have HB := n0_; have BK325 := n1_; have GW325 := n2_; have GE325 := n3_; clear n0_ n1_ n2_ n3_; clear hb hbox hg; have hcz9_0 : w8.cell? ⟨gb325, 0, none⟩ = some (.int .i64 0) := (blk_cell BK325.out 0).trans rfl; have hcz9_1 : w8.cell? ⟨gb325, 1, none⟩ = some (.int .i64 0) := (blk_cell BK325.out 1).trans rfl; have hcz9_2 : w8.cell? ⟨gb325, 2, none⟩ = some (.int .i64 0) := (blk_cell BK325.out 2).trans rfl; have hcz9_3 : w8.cell? ⟨gb325, 3, none⟩ = some (.int .i64 0) := (blk_cell BK325.out 3).trans rfl; have hcz9_4 : w8.cell? ⟨gb325, 4, none⟩ = some (.int .i64 0) := (blk_cell BK325.out 4).trans rfl; have hcz9_5 : w8.cell? ⟨gb325, 5, none⟩ = some (.int .u8 0) := (blk_cell BK325.out 5).trans rfl; have hfz9_0 := blk_frozen BK325.out 0; have hfz9_1 := blk_frozen BK325.out 1; have hfz9_2 := blk_frozen BK325.out 2; have hfz9_3 := blk_frozen BK325.out 3; have hfz9_4 := blk_frozen BK325.out 4; have hfz9_5 := blk_frozen BK325.out 5)); try go_wp2_with (first | (go_at_call 27; (with_reducible refine (order_Force.calls _ _ l0 a1 a2 t318 t319 t320 t321 t322 t323 t324 _ ?side1 ?side2 A4.out).mono ?_); (case side1 => repeat (first | exact HR0.out | (with_reducible refine Kd.C_alloc ?_ _) | (with_reducible refine Kd.C_drewN ?_ _) | (with_reducible refine Kd.C_drew ?_))); (case side2 => exact HC0.out); rintro e w7 ⟨rfl, hb⟩; have n0_ := Aside0.mk (below_step (by repeat (first | (with_reducible first | exact HB.out | apply below_alloc | apply pw_below_drewN | apply below_drew1) | exact HB.out)) hb); clear HB; have HB := n0_; clear n0_; (try clear hb); (try clear hb2); (try clear hk); (try clear hi)) | ((with_reducible refine gate_dst (N := 8) rfl ?_); refine box_event ?hg (N := 8) ?hd (cs := #[.int .i64 0, .int .i64 0, .int .i64 0, .int .i64 0, .int .i64 0, .int .u8 0]) (t := 41) ?hr ?_; (case hd => rfl); (case hg => rfl); (case hr => first | (go_simp; done) | (go_simp; rfl)); intro gb325 hg w8 hbox hb; have n0_ := Aside0.mk (below_step (by repeat (first | (with_reducible first | exact HB.out | apply below_alloc | apply pw_below_drewN | apply below_drew1) | exact HB.out)) hb); have n1_ := Aside0.mk (hbox); have n2_ := Aside0.mk ((by rw [hg]; exact (below_size (by repeat (first | (with_reducible first | exact HB.out | apply below_alloc | apply pw_below_drewN | apply below_drew1) | exact HB.out))) : w.heap.size ≤ gb325)); have n3_ := Aside0.mk ((by rw [hg]; exact (below_size (by repeat (first | (with_reducible first | exact HB.out | apply below_alloc | apply pw_below_drewN | apply below_drew1) | exact HB.out))) : w.heap.size ≤ gb325)); clear HB; have HB := n0_; have BK325 := n1_; have GW325 := n2_; have GE325 := n3_; clear n0_ n1_ n2_ n3_; clear hb hbox hg; have hcz9_0 : w8.cell? ⟨gb325, 0, none⟩ = some (.int .i64 0) := (blk_cell BK325.out 0).trans rfl; have hcz9_1 : w8.cell? ⟨gb325, 1, none⟩ = some (.int .i64 0) := (blk_cell BK325.out 1).trans rfl; have hcz9_2 : w8.cell? ⟨gb325, 2, none⟩ = some (.int .i64 0) := (blk_cell BK325.out 2).trans rfl; have hcz9_3 : w8.cell? ⟨gb325, 3, none⟩ = some (.int .i64 0) := (blk_cell BK325.out 3).trans rfl; have hcz9_4 : w8.cell? ⟨gb325, 4, none⟩ = some (.int .i64 0) := (blk_cell BK325.out 4).trans rfl; have hcz9_5 : w8.cell? ⟨gb325, 5, none⟩ = some (.int .u8 0) := (blk_cell BK325.out 5).trans rfl; have hfz9_0 := blk_frozen BK325.out 0; have hfz9_1 := blk_frozen BK325.out 1; have hfz9_2 := blk_frozen BK325.out 2; have hfz9_3 := blk_frozen BK325.out 3; have hfz9_4 := blk_frozen BK325.out 4; have hfz9_5 := blk_frozen BK325.out 5)))
   go_ret2
   exact ⟨by first | rfl | (simp [errW_none, errW_some] <;> rfl) | (simp [*, errW_none, errW_some] <;> rfl), by repeat (first | (with_reducible first | exact HB.out | apply below_alloc | apply pw_below_drewN | apply below_drew1 | refine below_set ?_ GE325.out) | exact HB.out)⟩
  ·rw [if_neg c6] at H
   have c6b0 : decide (0 < t318) = false := decide_eq_false c6
   clear c6
   by_cases c10 : t324 = 6
   ·rw [if_pos c10] at H
    have c10b0 : (t324 == 6) = true := beq_iff_eq.mpr c10
    have c10b1 : (t324 != 6) = false := bne_eq_false_iff_eq.mpr c10
    clear c10
    simp only [Option.some.injEq, Prod.mk.injEq] at H
    obtain ⟨rfl, rfl⟩ := H
    go_enter Try.func35, Try.ntmps35
    go_wp2_with (first | (go_at_call 27; (with_reducible refine (order_Force.calls _ _ l0 a1 a2 t318 t319 t320 t321 t322 t323 t324 _ ?side1 ?side2 A4.out).mono ?_); (case side1 => repeat (first | exact HR0.out | (with_reducible refine Kd.C_alloc ?_ _) | (with_reducible refine Kd.C_drewN ?_ _) | (with_reducible refine Kd.C_drew ?_))); (case side2 => exact HC0.out); rintro e w11 ⟨rfl, hb⟩; have n0_ := Aside0.mk (below_step (by repeat (first | (with_reducible first | exact HB.out | apply below_alloc | apply pw_below_drewN | apply below_drew1) | exact HB.out)) hb); clear HB; have HB := n0_; clear n0_; (try clear hb); (try clear hb2); (try clear hk); (try clear hi)) | ((with_reducible refine gate_dst (N := 8) rfl ?_); refine box_event ?hg (N := 8) ?hd (cs := #[.int .i64 0, .int .i64 0, .int .i64 0, .int .i64 0, .int .i64 0, .int .u8 0]) (t := 41) ?hr ?_; (case hd => rfl); (case hg => rfl); (case hr => first | (go_simp; done) | (go_simp; rfl)); intro gb325 hg w12 hbox hb; have n0_ := Aside0.mk (below_step (by repeat (first | (with_reducible first | exact HB.out | apply below_alloc | apply pw_below_drewN | apply below_drew1) | exact HB.out)) hb); have n1_ := Aside0.mk (hbox); have n2_ := Aside0.mk ((by rw [hg]; exact (below_size (by repeat (first | (with_reducible first | exact HB.out | apply below_alloc | apply pw_below_drewN | apply below_drew1) | exact HB.out))) : w.heap.size ≤ gb325)); have n3_ := Aside0.mk ((by rw [hg]; exact (below_size (by repeat (first | (with_reducible first | exact HB.out | apply below_alloc | apply pw_below_drewN | apply below_drew1) | exact HB.out))) : w.heap.size ≤ gb325)); clear HB; have HB := n0_; have BK325 := n1_; have GW325 := n2_; have GE325 := n3_; clear n0_ n1_ n2_ n3_; clear hb hbox hg; have hcz13_0 : w12.cell? ⟨gb325, 0, none⟩ = some (.int .i64 0) := (blk_cell BK325.out 0).trans rfl; have hcz13_1 : w12.cell? ⟨gb325, 1, none⟩ = some (.int .i64 0) := (blk_cell BK325.out 1).trans rfl; have hcz13_2 : w12.cell? ⟨gb325, 2, none⟩ = some (.int .i64 0) := (blk_cell BK325.out 2).trans rfl; have hcz13_3 : w12.cell? ⟨gb325, 3, none⟩ = some (.int .i64 0) := (blk_cell BK325.out 3).trans rfl; have hcz13_4 : w12.cell? ⟨gb325, 4, none⟩ = some (.int .i64 0) := (blk_cell BK325.out 4).trans rfl; have hcz13_5 : w12.cell? ⟨gb325, 5, none⟩ = some (.int .u8 0) := (blk_cell BK325.out 5).trans rfl; have hfz13_0 := blk_frozen BK325.out 0; have hfz13_1 := blk_frozen BK325.out 1; have hfz13_2 := blk_frozen BK325.out 2; have hfz13_3 := blk_frozen BK325.out 3; have hfz13_4 := blk_frozen BK325.out 4; have hfz13_5 := blk_frozen BK325.out 5))
    repeat (go_quiet (first | (go_at_call 27; (with_reducible refine (order_Force.calls _ _ l0 a1 a2 t318 t319 t320 t321 t322 t323 t324 _ ?side1 ?side2 A4.out).mono ?_); (case side1 => repeat (first | exact HR0.out | (with_reducible refine Kd.C_alloc ?_ _) | (with_reducible refine Kd.C_drewN ?_ _) | (with_reducible refine Kd.C_drew ?_))); (case side2 => exact HC0.out); rintro e w11 ⟨rfl, hb⟩; have n0_ := Aside0.mk (below_step (by repeat (first | (with_reducible first | exact HB.out | apply below_alloc | apply pw_below_drewN | apply below_drew1) | exact HB.out)) hb); clear HB; have HB := n0_; clear n0_; (try clear hb); (try clear hb2); (try clear hk); (try clear hi)) | ((with_reducible refine gate_dst (N := 8) rfl ?_); refine box_event ?hg (N := 8) ?hd (cs := #[.int .i64 0, .int .i64 0, .int .i64 0, .int .i64 0, .int .i64 0, .int .u8 0]) (t := 41) ?hr ?_; (case hd => rfl); (case hg => rfl); (case hr => first | (go_simp; done) | (go_simp; rfl)); intro gb325 hg w12 hbox hb; have n0_ := Aside0.mk (below_step (by repeat (first | (with_reducible first | exact HB.out | apply below_alloc | apply pw_below_drewN | apply below_drew1) | exact HB.out)) hb); have n1_ := Aside0.mk (hbox); have n2_ := Aside0.mk ((by rw [hg]; exact (below_size (by repeat (first | (with_reducible first | exact HB.out | apply below_alloc | apply pw_below_drewN | apply below_drew1) | exact HB.out))) : w.heap.size ≤ gb325)); have n3_ := Aside0.mk ((by rw [hg]; exact (below_size (by repeat (first | (with_reducible first | exact HB.out | apply below_alloc | apply pw_below_drewN | apply below_drew1) | exact HB.out))) : w.heap.size ≤ gb325)); clear HB; have HB := n0_; have BK325 := n1_; have GW325 := n2_; have GE325 := n3_; clear n0_ n1_ n2_ n3_; clear hb hbox hg; have hcz13_0 : w12.cell? ⟨gb325, 0, none⟩ = some (.int .i64 0) := (blk_cell BK325.out 0).trans rfl; have hcz13_1 : w12.cell? ⟨gb325, 1, none⟩ = some (.int .i64 0) := (blk_cell BK325.out 1).trans rfl; have hcz13_2 : w12.cell? ⟨gb325, 2, none⟩ = some (.int .i64 0) := (blk_cell BK325.out 2).trans rfl; have hcz13_3 : w12.cell? ⟨gb325, 3, none⟩ = some (.int .i64 0) := (blk_cell BK325.out 3).trans rfl; have hcz13_4 : w12.cell? ⟨gb325, 4, none⟩ = some (.int .i64 0) := (blk_cell BK325.out 4).trans rfl; have hcz13_5 : w12.cell? ⟨gb325, 5, none⟩ = some (.int .u8 0) := (blk_cell BK325.out 5).trans rfl; have hfz13_0 := blk_frozen BK325.out 0; have hfz13_1 := blk_frozen BK325.out 1; have hfz13_2 := blk_frozen BK325.out 2; have hfz13_3 := blk_frozen BK325.out 3; have hfz13_4 := blk_frozen BK325.out 4; have hfz13_5 := blk_frozen BK325.out 5)); try go_wp2_with (first | (go_at_call 27; (with_reducible refine (order_Force.calls _ _ l0 a1 a2 t318 t319 t320 t321 t322 t323 t324 _ ?side1 ?side2 A4.out).mono ?_); (case side1 => repeat (first | exact HR0.out | (with_reducible refine Kd.C_alloc ?_ _) | (with_reducible refine Kd.C_drewN ?_ _) | (with_reducible refine Kd.C_drew ?_))); (case side2 => exact HC0.out); rintro e w11 ⟨rfl, hb⟩; have n0_ := Aside0.mk (below_step (by repeat (first | (with_reducible first | exact HB.out | apply below_alloc | apply pw_below_drewN | apply below_drew1) | exact HB.out)) hb); clear HB; have HB := n0_; clear n0_; (try clear hb); (try clear hb2); (try clear hk); (try clear hi)) | ((with_reducible refine gate_dst (N := 8) rfl ?_); refine box_event ?hg (N := 8) ?hd (cs := #[.int .i64 0, .int .i64 0, .int .i64 0, .int .i64 0, .int .i64 0, .int .u8 0]) (t := 41) ?hr ?_; (case hd => rfl); (case hg => rfl); (case hr => first | (go_simp; done) | (go_simp; rfl)); intro gb325 hg w12 hbox hb; have n0_ := Aside0.mk (below_step (by repeat (first | (with_reducible first | exact HB.out | apply below_alloc | apply pw_below_drewN | apply below_drew1) | exact HB.out)) hb); have n1_ := Aside0.mk (hbox); have n2_ := Aside0.mk ((by rw [hg]; exact (below_size (by repeat (first | (with_reducible first | exact HB.out | apply below_alloc | apply pw_below_drewN | apply below_drew1) | exact HB.out))) : w.heap.size ≤ gb325)); have n3_ := Aside0.mk ((by rw [hg]; exact (below_size (by repeat (first | (with_reducible first | exact HB.out | apply below_alloc | apply pw_below_drewN | apply below_drew1) | exact HB.out))) : w.heap.size ≤ gb325)); clear HB; have HB := n0_; have BK325 := n1_; have GW325 := n2_; have GE325 := n3_; clear n0_ n1_ n2_ n3_; clear hb hbox hg; have hcz13_0 : w12.cell? ⟨gb325, 0, none⟩ = some (.int .i64 0) := (blk_cell BK325.out 0).trans rfl; have hcz13_1 : w12.cell? ⟨gb325, 1, none⟩ = some (.int .i64 0) := (blk_cell BK325.out 1).trans rfl; have hcz13_2 : w12.cell? ⟨gb325, 2, none⟩ = some (.int .i64 0) := (blk_cell BK325.out 2).trans rfl; have hcz13_3 : w12.cell? ⟨gb325, 3, none⟩ = some (.int .i64 0) := (blk_cell BK325.out 3).trans rfl; have hcz13_4 : w12.cell? ⟨gb325, 4, none⟩ = some (.int .i64 0) := (blk_cell BK325.out 4).trans rfl; have hcz13_5 : w12.cell? ⟨gb325, 5, none⟩ = some (.int .u8 0) := (blk_cell BK325.out 5).trans rfl; have hfz13_0 := blk_frozen BK325.out 0; have hfz13_1 := blk_frozen BK325.out 1; have hfz13_2 := blk_frozen BK325.out 2; have hfz13_3 := blk_frozen BK325.out 3; have hfz13_4 := blk_frozen BK325.out 4; have hfz13_5 := blk_frozen BK325.out 5)))
    go_ret2
    exact ⟨by first | rfl | (simp [errW_none, errW_some] <;> rfl) | (simp [*, errW_none, errW_some] <;> rfl), by repeat (first | (with_reducible first | exact HB.out | apply below_alloc | apply pw_below_drewN | apply below_drew1 | refine below_set ?_ GE325.out) | exact HB.out)⟩
   ·rw [if_neg c10] at H
    have c10b0 : (t324 == 6) = false := beq_eq_false_iff_ne.mpr c10
    have c10b1 : (t324 != 6) = true := bne_iff_ne.mpr c10
    simp only [Option.some.injEq, Prod.mk.injEq] at H
    obtain ⟨rfl, rfl⟩ := H
    go_enter Try.func35, Try.ntmps35
    go_wp2_with (first | (go_at_call 27; (with_reducible refine (order_Force.calls _ _ l0 a1 a2 t318 t319 t320 t321 t322 t323 t324 _ ?side1 ?side2 A4.out).mono ?_); (case side1 => repeat (first | exact HR0.out | (with_reducible refine Kd.C_alloc ?_ _) | (with_reducible refine Kd.C_drewN ?_ _) | (with_reducible refine Kd.C_drew ?_))); (case side2 => exact HC0.out); rintro e w14 ⟨rfl, hb⟩; have n0_ := Aside0.mk (below_step (by repeat (first | (with_reducible first | exact HB.out | apply below_alloc | apply pw_below_drewN | apply below_drew1) | exact HB.out)) hb); clear HB; have HB := n0_; clear n0_; (try clear hb); (try clear hb2); (try clear hk); (try clear hi)) | ((with_reducible refine gate_dst (N := 8) rfl ?_); refine box_event ?hg (N := 8) ?hd (cs := #[.int .i64 0, .int .i64 0, .int .i64 0, .int .i64 0, .int .i64 0, .int .u8 0]) (t := 41) ?hr ?_; (case hd => rfl); (case hg => rfl); (case hr => first | (go_simp; done) | (go_simp; rfl)); intro gb325 hg w15 hbox hb; have n0_ := Aside0.mk (below_step (by repeat (first | (with_reducible first | exact HB.out | apply below_alloc | apply pw_below_drewN | apply below_drew1) | exact HB.out)) hb); have n1_ := Aside0.mk (hbox); have n2_ := Aside0.mk ((by rw [hg]; exact (below_size (by repeat (first | (with_reducible first | exact HB.out | apply below_alloc | apply pw_below_drewN | apply below_drew1) | exact HB.out))) : w.heap.size ≤ gb325)); have n3_ := Aside0.mk ((by rw [hg]; exact (below_size (by repeat (first | (with_reducible first | exact HB.out | apply below_alloc | apply pw_below_drewN | apply below_drew1) | exact HB.out))) : w.heap.size ≤ gb325)); clear HB; have HB := n0_; have BK325 := n1_; have GW325 := n2_; have GE325 := n3_; clear n0_ n1_ n2_ n3_; clear hb hbox hg; have hcz16_0 : w15.cell? ⟨gb325, 0, none⟩ = some (.int .i64 0) := (blk_cell BK325.out 0).trans rfl; have hcz16_1 : w15.cell? ⟨gb325, 1, none⟩ = some (.int .i64 0) := (blk_cell BK325.out 1).trans rfl; have hcz16_2 : w15.cell? ⟨gb325, 2, none⟩ = some (.int .i64 0) := (blk_cell BK325.out 2).trans rfl; have hcz16_3 : w15.cell? ⟨gb325, 3, none⟩ = some (.int .i64 0) := (blk_cell BK325.out 3).trans rfl; have hcz16_4 : w15.cell? ⟨gb325, 4, none⟩ = some (.int .i64 0) := (blk_cell BK325.out 4).trans rfl; have hcz16_5 : w15.cell? ⟨gb325, 5, none⟩ = some (.int .u8 0) := (blk_cell BK325.out 5).trans rfl; have hfz16_0 := blk_frozen BK325.out 0; have hfz16_1 := blk_frozen BK325.out 1; have hfz16_2 := blk_frozen BK325.out 2; have hfz16_3 := blk_frozen BK325.out 3; have hfz16_4 := blk_frozen BK325.out 4; have hfz16_5 := blk_frozen BK325.out 5))
    repeat (go_quiet (first | (go_at_call 27; (with_reducible refine (order_Force.calls _ _ l0 a1 a2 t318 t319 t320 t321 t322 t323 t324 _ ?side1 ?side2 A4.out).mono ?_); (case side1 => repeat (first | exact HR0.out | (with_reducible refine Kd.C_alloc ?_ _) | (with_reducible refine Kd.C_drewN ?_ _) | (with_reducible refine Kd.C_drew ?_))); (case side2 => exact HC0.out); rintro e w14 ⟨rfl, hb⟩; have n0_ := Aside0.mk (below_step (by repeat (first | (with_reducible first | exact HB.out | apply below_alloc | apply pw_below_drewN | apply below_drew1) | exact HB.out)) hb); clear HB; have HB := n0_; clear n0_; (try clear hb); (try clear hb2); (try clear hk); (try clear hi)) | ((with_reducible refine gate_dst (N := 8) rfl ?_); refine box_event ?hg (N := 8) ?hd (cs := #[.int .i64 0, .int .i64 0, .int .i64 0, .int .i64 0, .int .i64 0, .int .u8 0]) (t := 41) ?hr ?_; (case hd => rfl); (case hg => rfl); (case hr => first | (go_simp; done) | (go_simp; rfl)); intro gb325 hg w15 hbox hb; have n0_ := Aside0.mk (below_step (by repeat (first | (with_reducible first | exact HB.out | apply below_alloc | apply pw_below_drewN | apply below_drew1) | exact HB.out)) hb); have n1_ := Aside0.mk (hbox); have n2_ := Aside0.mk ((by rw [hg]; exact (below_size (by repeat (first | (with_reducible first | exact HB.out | apply below_alloc | apply pw_below_drewN | apply below_drew1) | exact HB.out))) : w.heap.size ≤ gb325)); have n3_ := Aside0.mk ((by rw [hg]; exact (below_size (by repeat (first | (with_reducible first | exact HB.out | apply below_alloc | apply pw_below_drewN | apply below_drew1) | exact HB.out))) : w.heap.size ≤ gb325)); clear HB; have HB := n0_; have BK325 := n1_; have GW325 := n2_; have GE325 := n3_; clear n0_ n1_ n2_ n3_; clear hb hbox hg; have hcz16_0 : w15.cell? ⟨gb325, 0, none⟩ = some (.int .i64 0) := (blk_cell BK325.out 0).trans rfl; have hcz16_1 : w15.cell? ⟨gb325, 1, none⟩ = some (.int .i64 0) := (blk_cell BK325.out 1).trans rfl; have hcz16_2 : w15.cell? ⟨gb325, 2, none⟩ = some (.int .i64 0) := (blk_cell BK325.out 2).trans rfl; have hcz16_3 : w15.cell? ⟨gb325, 3, none⟩ = some (.int .i64 0) := (blk_cell BK325.out 3).trans rfl; have hcz16_4 : w15.cell? ⟨gb325, 4, none⟩ = some (.int .i64 0) := (blk_cell BK325.out 4).trans rfl; have hcz16_5 : w15.cell? ⟨gb325, 5, none⟩ = some (.int .u8 0) := (blk_cell BK325.out 5).trans rfl; have hfz16_0 := blk_frozen BK325.out 0; have hfz16_1 := blk_frozen BK325.out 1; have hfz16_2 := blk_frozen BK325.out 2; have hfz16_3 := blk_frozen BK325.out 3; have hfz16_4 := blk_frozen BK325.out 4; have hfz16_5 := blk_frozen BK325.out 5)); try go_wp2_with (first | (go_at_call 27; (with_reducible refine (order_Force.calls _ _ l0 a1 a2 t318 t319 t320 t321 t322 t323 t324 _ ?side1 ?side2 A4.out).mono ?_); (case side1 => repeat (first | exact HR0.out | (with_reducible refine Kd.C_alloc ?_ _) | (with_reducible refine Kd.C_drewN ?_ _) | (with_reducible refine Kd.C_drew ?_))); (case side2 => exact HC0.out); rintro e w14 ⟨rfl, hb⟩; have n0_ := Aside0.mk (below_step (by repeat (first | (with_reducible first | exact HB.out | apply below_alloc | apply pw_below_drewN | apply below_drew1) | exact HB.out)) hb); clear HB; have HB := n0_; clear n0_; (try clear hb); (try clear hb2); (try clear hk); (try clear hi)) | ((with_reducible refine gate_dst (N := 8) rfl ?_); refine box_event ?hg (N := 8) ?hd (cs := #[.int .i64 0, .int .i64 0, .int .i64 0, .int .i64 0, .int .i64 0, .int .u8 0]) (t := 41) ?hr ?_; (case hd => rfl); (case hg => rfl); (case hr => first | (go_simp; done) | (go_simp; rfl)); intro gb325 hg w15 hbox hb; have n0_ := Aside0.mk (below_step (by repeat (first | (with_reducible first | exact HB.out | apply below_alloc | apply pw_below_drewN | apply below_drew1) | exact HB.out)) hb); have n1_ := Aside0.mk (hbox); have n2_ := Aside0.mk ((by rw [hg]; exact (below_size (by repeat (first | (with_reducible first | exact HB.out | apply below_alloc | apply pw_below_drewN | apply below_drew1) | exact HB.out))) : w.heap.size ≤ gb325)); have n3_ := Aside0.mk ((by rw [hg]; exact (below_size (by repeat (first | (with_reducible first | exact HB.out | apply below_alloc | apply pw_below_drewN | apply below_drew1) | exact HB.out))) : w.heap.size ≤ gb325)); clear HB; have HB := n0_; have BK325 := n1_; have GW325 := n2_; have GE325 := n3_; clear n0_ n1_ n2_ n3_; clear hb hbox hg; have hcz16_0 : w15.cell? ⟨gb325, 0, none⟩ = some (.int .i64 0) := (blk_cell BK325.out 0).trans rfl; have hcz16_1 : w15.cell? ⟨gb325, 1, none⟩ = some (.int .i64 0) := (blk_cell BK325.out 1).trans rfl; have hcz16_2 : w15.cell? ⟨gb325, 2, none⟩ = some (.int .i64 0) := (blk_cell BK325.out 2).trans rfl; have hcz16_3 : w15.cell? ⟨gb325, 3, none⟩ = some (.int .i64 0) := (blk_cell BK325.out 3).trans rfl; have hcz16_4 : w15.cell? ⟨gb325, 4, none⟩ = some (.int .i64 0) := (blk_cell BK325.out 4).trans rfl; have hcz16_5 : w15.cell? ⟨gb325, 5, none⟩ = some (.int .u8 0) := (blk_cell BK325.out 5).trans rfl; have hfz16_0 := blk_frozen BK325.out 0; have hfz16_1 := blk_frozen BK325.out 1; have hfz16_2 := blk_frozen BK325.out 2; have hfz16_3 := blk_frozen BK325.out 3; have hfz16_4 := blk_frozen BK325.out 4; have hfz16_5 := blk_frozen BK325.out 5)))
    go_ret2
    exact ⟨by first | rfl | (simp [errW_none, errW_some] <;> rfl) | (simp [*, errW_none, errW_some] <;> rfl), by repeat (first | (with_reducible first | exact HB.out | apply below_alloc | apply pw_below_drewN | apply below_drew1 | refine below_set ?_ GE325.out) | exact HB.out)⟩
 ·rw [if_neg c5] at H
  have c5b0 : (t324 == 0) = false := beq_eq_false_iff_ne.mpr c5
  have c5b1 : (t324 != 0) = true := bne_iff_ne.mpr c5
  by_cases c17 : t324 = 6
  ·rw [if_pos c17] at H
   have c17b0 : (t324 == 6) = true := beq_iff_eq.mpr c17
   have c17b1 : (t324 != 6) = false := bne_eq_false_iff_eq.mpr c17
   clear c17
   simp only [Option.some.injEq, Prod.mk.injEq] at H
   obtain ⟨rfl, rfl⟩ := H
   go_enter Try.func35, Try.ntmps35
   go_wp2_with (first | (go_at_call 27; (with_reducible refine (order_Force.calls _ _ l0 a1 a2 t318 t319 t320 t321 t322 t323 t324 _ ?side1 ?side2 A4.out).mono ?_); (case side1 => repeat (first | exact HR0.out | (with_reducible refine Kd.C_alloc ?_ _) | (with_reducible refine Kd.C_drewN ?_ _) | (with_reducible refine Kd.C_drew ?_))); (case side2 => exact HC0.out); rintro e w18 ⟨rfl, hb⟩; have n0_ := Aside0.mk (below_step (by repeat (first | (with_reducible first | exact HB.out | apply below_alloc | apply pw_below_drewN | apply below_drew1) | exact HB.out)) hb); clear HB; have HB := n0_; clear n0_; (try clear hb); (try clear hb2); (try clear hk); (try clear hi)) | ((with_reducible refine gate_dst (N := 8) rfl ?_); refine box_event ?hg (N := 8) ?hd (cs := #[.int .i64 0, .int .i64 0, .int .i64 0, .int .i64 0, .int .i64 0, .int .u8 0]) (t := 41) ?hr ?_; (case hd => rfl); (case hg => rfl); (case hr => first | (go_simp; done) | (go_simp; rfl)); intro gb325 hg w19 hbox hb; have n0_ := Aside0.mk (below_step (by repeat (first | (with_reducible first | exact HB.out | apply below_alloc | apply pw_below_drewN | apply below_drew1) | exact HB.out)) hb); have n1_ := Aside0.mk (hbox); have n2_ := Aside0.mk ((by rw [hg]; exact (below_size (by repeat (first | (with_reducible first | exact HB.out | apply below_alloc | apply pw_below_drewN | apply below_drew1) | exact HB.out))) : w.heap.size ≤ gb325)); have n3_ := Aside0.mk ((by rw [hg]; exact (below_size (by repeat (first | (with_reducible first | exact HB.out | apply below_alloc | apply pw_below_drewN | apply below_drew1) | exact HB.out))) : w.heap.size ≤ gb325)); clear HB; have HB := n0_; have BK325 := n1_; have GW325 := n2_; have GE325 := n3_; clear n0_ n1_ n2_ n3_; clear hb hbox hg; have hcz20_0 : w19.cell? ⟨gb325, 0, none⟩ = some (.int .i64 0) := (blk_cell BK325.out 0).trans rfl; have hcz20_1 : w19.cell? ⟨gb325, 1, none⟩ = some (.int .i64 0) := (blk_cell BK325.out 1).trans rfl; have hcz20_2 : w19.cell? ⟨gb325, 2, none⟩ = some (.int .i64 0) := (blk_cell BK325.out 2).trans rfl; have hcz20_3 : w19.cell? ⟨gb325, 3, none⟩ = some (.int .i64 0) := (blk_cell BK325.out 3).trans rfl; have hcz20_4 : w19.cell? ⟨gb325, 4, none⟩ = some (.int .i64 0) := (blk_cell BK325.out 4).trans rfl; have hcz20_5 : w19.cell? ⟨gb325, 5, none⟩ = some (.int .u8 0) := (blk_cell BK325.out 5).trans rfl; have hfz20_0 := blk_frozen BK325.out 0; have hfz20_1 := blk_frozen BK325.out 1; have hfz20_2 := blk_frozen BK325.out 2; have hfz20_3 := blk_frozen BK325.out 3; have hfz20_4 := blk_frozen BK325.out 4; have hfz20_5 := blk_frozen BK325.out 5))
   repeat (go_quiet (first | (go_at_call 27; (with_reducible refine (order_Force.calls _ _ l0 a1 a2 t318 t319 t320 t321 t322 t323 t324 _ ?side1 ?side2 A4.out).mono ?_); (case side1 => repeat (first | exact HR0.out | (with_reducible refine Kd.C_alloc ?_ _) | (with_reducible refine Kd.C_drewN ?_ _) | (with_reducible refine Kd.C_drew ?_))); (case side2 => exact HC0.out); rintro e w18 ⟨rfl, hb⟩; have n0_ := Aside0.mk (below_step (by repeat (first | (with_reducible first | exact HB.out | apply below_alloc | apply pw_below_drewN | apply below_drew1) | exact HB.out)) hb); clear HB; have HB := n0_; clear n0_; (try clear hb); (try clear hb2); (try clear hk); (try clear hi)) | ((with_reducible refine gate_dst (N := 8) rfl ?_); refine box_event ?hg (N := 8) ?hd (cs := #[.int .i64 0, .int .i64 0, .int .i64 0, .int .i64 0, .int .i64 0, .int .u8 0]) (t := 41) ?hr ?_; (case hd => rfl); (case hg => rfl); (case hr => first | (go_simp; done) | (go_simp; rfl)); intro gb325 hg w19 hbox hb; have n0_ := Aside0.mk (below_step (by repeat (first | (with_reducible first | exact HB.out | apply below_alloc | apply pw_below_drewN | apply below_drew1) | exact HB.out)) hb); have n1_ := Aside0.mk (hbox); have n2_ := Aside0.mk ((by rw [hg]; exact (below_size (by repeat (first | (with_reducible first | exact HB.out | apply below_alloc | apply pw_below_drewN | apply below_drew1) | exact HB.out))) : w.heap.size ≤ gb325)); have n3_ := Aside0.mk ((by rw [hg]; exact (below_size (by repeat (first | (with_reducible first | exact HB.out | apply below_alloc | apply pw_below_drewN | apply below_drew1) | exact HB.out))) : w.heap.size ≤ gb325)); clear HB; have HB := n0_; have BK325 := n1_; have GW325 := n2_; have GE325 := n3_; clear n0_ n1_ n2_ n3_; clear hb hbox hg; have hcz20_0 : w19.cell? ⟨gb325, 0, none⟩ = some (.int .i64 0) := (blk_cell BK325.out 0).trans rfl; have hcz20_1 : w19.cell? ⟨gb325, 1, none⟩ = some (.int .i64 0) := (blk_cell BK325.out 1).trans rfl; have hcz20_2 : w19.cell? ⟨gb325, 2, none⟩ = some (.int .i64 0) := (blk_cell BK325.out 2).trans rfl; have hcz20_3 : w19.cell? ⟨gb325, 3, none⟩ = some (.int .i64 0) := (blk_cell BK325.out 3).trans rfl; have hcz20_4 : w19.cell? ⟨gb325, 4, none⟩ = some (.int .i64 0) := (blk_cell BK325.out 4).trans rfl; have hcz20_5 : w19.cell? ⟨gb325, 5, none⟩ = some (.int .u8 0) := (blk_cell BK325.out 5).trans rfl; have hfz20_0 := blk_frozen BK325.out 0; have hfz20_1 := blk_frozen BK325.out 1; have hfz20_2 := blk_frozen BK325.out 2; have hfz20_3 := blk_frozen BK325.out 3; have hfz20_4 := blk_frozen BK325.out 4; have hfz20_5 := blk_frozen BK325.out 5)); try go_wp2_with (first | (go_at_call 27; (with_reducible refine (order_Force.calls _ _ l0 a1 a2 t318 t319 t320 t321 t322 t323 t324 _ ?side1 ?side2 A4.out).mono ?_); (case side1 => repeat (first | exact HR0.out | (with_reducible refine Kd.C_alloc ?_ _) | (with_reducible refine Kd.C_drewN ?_ _) | (with_reducible refine Kd.C_drew ?_))); (case side2 => exact HC0.out); rintro e w18 ⟨rfl, hb⟩; have n0_ := Aside0.mk (below_step (by repeat (first | (with_reducible first | exact HB.out | apply below_alloc | apply pw_below_drewN | apply below_drew1) | exact HB.out)) hb); clear HB; have HB := n0_; clear n0_; (try clear hb); (try clear hb2); (try clear hk); (try clear hi)) | ((with_reducible refine gate_dst (N := 8) rfl ?_); refine box_event ?hg (N := 8) ?hd (cs := #[.int .i64 0, .int .i64 0, .int .i64 0, .int .i64 0, .int .i64 0, .int .u8 0]) (t := 41) ?hr ?_; (case hd => rfl); (case hg => rfl); (case hr => first | (go_simp; done) | (go_simp; rfl)); intro gb325 hg w19 hbox hb; have n0_ := Aside0.mk (below_step (by repeat (first | (with_reducible first | exact HB.out | apply below_alloc | apply pw_below_drewN | apply below_drew1) | exact HB.out)) hb); have n1_ := Aside0.mk (hbox); have n2_ := Aside0.mk ((by rw [hg]; exact (below_size (by repeat (first | (with_reducible first | exact HB.out | apply below_alloc | apply pw_below_drewN | apply below_drew1) | exact HB.out))) : w.heap.size ≤ gb325)); have n3_ := Aside0.mk ((by rw [hg]; exact (below_size (by repeat (first | (with_reducible first | exact HB.out | apply below_alloc | apply pw_below_drewN | apply below_drew1) | exact HB.out))) : w.heap.size ≤ gb325)); clear HB; have HB := n0_; have BK325 := n1_; have GW325 := n2_; have GE325 := n3_; clear n0_ n1_ n2_ n3_; clear hb hbox hg; have hcz20_0 : w19.cell? ⟨gb325, 0, none⟩ = some (.int .i64 0) := (blk_cell BK325.out 0).trans rfl; have hcz20_1 : w19.cell? ⟨gb325, 1, none⟩ = some (.int .i64 0) := (blk_cell BK325.out 1).trans rfl; have hcz20_2 : w19.cell? ⟨gb325, 2, none⟩ = some (.int .i64 0) := (blk_cell BK325.out 2).trans rfl; have hcz20_3 : w19.cell? ⟨gb325, 3, none⟩ = some (.int .i64 0) := (blk_cell BK325.out 3).trans rfl; have hcz20_4 : w19.cell? ⟨gb325, 4, none⟩ = some (.int .i64 0) := (blk_cell BK325.out 4).trans rfl; have hcz20_5 : w19.cell? ⟨gb325, 5, none⟩ = some (.int .u8 0) := (blk_cell BK325.out 5).trans rfl; have hfz20_0 := blk_frozen BK325.out 0; have hfz20_1 := blk_frozen BK325.out 1; have hfz20_2 := blk_frozen BK325.out 2; have hfz20_3 := blk_frozen BK325.out 3; have hfz20_4 := blk_frozen BK325.out 4; have hfz20_5 := blk_frozen BK325.out 5)))
   go_ret2
   exact ⟨by first | rfl | (simp [errW_none, errW_some] <;> rfl) | (simp [*, errW_none, errW_some] <;> rfl), by repeat (first | (with_reducible first | exact HB.out | apply below_alloc | apply pw_below_drewN | apply below_drew1 | refine below_set ?_ GE325.out) | exact HB.out)⟩
  ·rw [if_neg c17] at H
   have c17b0 : (t324 == 6) = false := beq_eq_false_iff_ne.mpr c17
   have c17b1 : (t324 != 6) = true := bne_iff_ne.mpr c17
   simp only [Option.some.injEq, Prod.mk.injEq] at H
   obtain ⟨rfl, rfl⟩ := H
   go_enter Try.func35, Try.ntmps35
   go_wp2_with (first | (go_at_call 27; (with_reducible refine (order_Force.calls _ _ l0 a1 a2 t318 t319 t320 t321 t322 t323 t324 _ ?side1 ?side2 A4.out).mono ?_); (case side1 => repeat (first | exact HR0.out | (with_reducible refine Kd.C_alloc ?_ _) | (with_reducible refine Kd.C_drewN ?_ _) | (with_reducible refine Kd.C_drew ?_))); (case side2 => exact HC0.out); rintro e w21 ⟨rfl, hb⟩; have n0_ := Aside0.mk (below_step (by repeat (first | (with_reducible first | exact HB.out | apply below_alloc | apply pw_below_drewN | apply below_drew1) | exact HB.out)) hb); clear HB; have HB := n0_; clear n0_; (try clear hb); (try clear hb2); (try clear hk); (try clear hi)) | ((with_reducible refine gate_dst (N := 8) rfl ?_); refine box_event ?hg (N := 8) ?hd (cs := #[.int .i64 0, .int .i64 0, .int .i64 0, .int .i64 0, .int .i64 0, .int .u8 0]) (t := 41) ?hr ?_; (case hd => rfl); (case hg => rfl); (case hr => first | (go_simp; done) | (go_simp; rfl)); intro gb325 hg w22 hbox hb; have n0_ := Aside0.mk (below_step (by repeat (first | (with_reducible first | exact HB.out | apply below_alloc | apply pw_below_drewN | apply below_drew1) | exact HB.out)) hb); have n1_ := Aside0.mk (hbox); have n2_ := Aside0.mk ((by rw [hg]; exact (below_size (by repeat (first | (with_reducible first | exact HB.out | apply below_alloc | apply pw_below_drewN | apply below_drew1) | exact HB.out))) : w.heap.size ≤ gb325)); have n3_ := Aside0.mk ((by rw [hg]; exact (below_size (by repeat (first | (with_reducible first | exact HB.out | apply below_alloc | apply pw_below_drewN | apply below_drew1) | exact HB.out))) : w.heap.size ≤ gb325)); clear HB; have HB := n0_; have BK325 := n1_; have GW325 := n2_; have GE325 := n3_; clear n0_ n1_ n2_ n3_; clear hb hbox hg; have hcz23_0 : w22.cell? ⟨gb325, 0, none⟩ = some (.int .i64 0) := (blk_cell BK325.out 0).trans rfl; have hcz23_1 : w22.cell? ⟨gb325, 1, none⟩ = some (.int .i64 0) := (blk_cell BK325.out 1).trans rfl; have hcz23_2 : w22.cell? ⟨gb325, 2, none⟩ = some (.int .i64 0) := (blk_cell BK325.out 2).trans rfl; have hcz23_3 : w22.cell? ⟨gb325, 3, none⟩ = some (.int .i64 0) := (blk_cell BK325.out 3).trans rfl; have hcz23_4 : w22.cell? ⟨gb325, 4, none⟩ = some (.int .i64 0) := (blk_cell BK325.out 4).trans rfl; have hcz23_5 : w22.cell? ⟨gb325, 5, none⟩ = some (.int .u8 0) := (blk_cell BK325.out 5).trans rfl; have hfz23_0 := blk_frozen BK325.out 0; have hfz23_1 := blk_frozen BK325.out 1; have hfz23_2 := blk_frozen BK325.out 2; have hfz23_3 := blk_frozen BK325.out 3; have hfz23_4 := blk_frozen BK325.out 4; have hfz23_5 := blk_frozen BK325.out 5))
   repeat (go_quiet (first | (go_at_call 27; (with_reducible refine (order_Force.calls _ _ l0 a1 a2 t318 t319 t320 t321 t322 t323 t324 _ ?side1 ?side2 A4.out).mono ?_); (case side1 => repeat (first | exact HR0.out | (with_reducible refine Kd.C_alloc ?_ _) | (with_reducible refine Kd.C_drewN ?_ _) | (with_reducible refine Kd.C_drew ?_))); (case side2 => exact HC0.out); rintro e w21 ⟨rfl, hb⟩; have n0_ := Aside0.mk (below_step (by repeat (first | (with_reducible first | exact HB.out | apply below_alloc | apply pw_below_drewN | apply below_drew1) | exact HB.out)) hb); clear HB; have HB := n0_; clear n0_; (try clear hb); (try clear hb2); (try clear hk); (try clear hi)) | ((with_reducible refine gate_dst (N := 8) rfl ?_); refine box_event ?hg (N := 8) ?hd (cs := #[.int .i64 0, .int .i64 0, .int .i64 0, .int .i64 0, .int .i64 0, .int .u8 0]) (t := 41) ?hr ?_; (case hd => rfl); (case hg => rfl); (case hr => first | (go_simp; done) | (go_simp; rfl)); intro gb325 hg w22 hbox hb; have n0_ := Aside0.mk (below_step (by repeat (first | (with_reducible first | exact HB.out | apply below_alloc | apply pw_below_drewN | apply below_drew1) | exact HB.out)) hb); have n1_ := Aside0.mk (hbox); have n2_ := Aside0.mk ((by rw [hg]; exact (below_size (by repeat (first | (with_reducible first | exact HB.out | apply below_alloc | apply pw_below_drewN | apply below_drew1) | exact HB.out))) : w.heap.size ≤ gb325)); have n3_ := Aside0.mk ((by rw [hg]; exact (below_size (by repeat (first | (with_reducible first | exact HB.out | apply below_alloc | apply pw_below_drewN | apply below_drew1) | exact HB.out))) : w.heap.size ≤ gb325)); clear HB; have HB := n0_; have BK325 := n1_; have GW325 := n2_; have GE325 := n3_; clear n0_ n1_ n2_ n3_; clear hb hbox hg; have hcz23_0 : w22.cell? ⟨gb325, 0, none⟩ = some (.int .i64 0) := (blk_cell BK325.out 0).trans rfl; have hcz23_1 : w22.cell? ⟨gb325, 1, none⟩ = some (.int .i64 0) := (blk_cell BK325.out 1).trans rfl; have hcz23_2 : w22.cell? ⟨gb325, 2, none⟩ = some (.int .i64 0) := (blk_cell BK325.out 2).trans rfl; have hcz23_3 : w22.cell? ⟨gb325, 3, none⟩ = some (.int .i64 0) := (blk_cell BK325.out 3).trans rfl; have hcz23_4 : w22.cell? ⟨gb325, 4, none⟩ = some (.int .i64 0) := (blk_cell BK325.out 4).trans rfl; have hcz23_5 : w22.cell? ⟨gb325, 5, none⟩ = some (.int .u8 0) := (blk_cell BK325.out 5).trans rfl; have hfz23_0 := blk_frozen BK325.out 0; have hfz23_1 := blk_frozen BK325.out 1; have hfz23_2 := blk_frozen BK325.out 2; have hfz23_3 := blk_frozen BK325.out 3; have hfz23_4 := blk_frozen BK325.out 4; have hfz23_5 := blk_frozen BK325.out 5)); try go_wp2_with (first | (go_at_call 27; (with_reducible refine (order_Force.calls _ _ l0 a1 a2 t318 t319 t320 t321 t322 t323 t324 _ ?side1 ?side2 A4.out).mono ?_); (case side1 => repeat (first | exact HR0.out | (with_reducible refine Kd.C_alloc ?_ _) | (with_reducible refine Kd.C_drewN ?_ _) | (with_reducible refine Kd.C_drew ?_))); (case side2 => exact HC0.out); rintro e w21 ⟨rfl, hb⟩; have n0_ := Aside0.mk (below_step (by repeat (first | (with_reducible first | exact HB.out | apply below_alloc | apply pw_below_drewN | apply below_drew1) | exact HB.out)) hb); clear HB; have HB := n0_; clear n0_; (try clear hb); (try clear hb2); (try clear hk); (try clear hi)) | ((with_reducible refine gate_dst (N := 8) rfl ?_); refine box_event ?hg (N := 8) ?hd (cs := #[.int .i64 0, .int .i64 0, .int .i64 0, .int .i64 0, .int .i64 0, .int .u8 0]) (t := 41) ?hr ?_; (case hd => rfl); (case hg => rfl); (case hr => first | (go_simp; done) | (go_simp; rfl)); intro gb325 hg w22 hbox hb; have n0_ := Aside0.mk (below_step (by repeat (first | (with_reducible first | exact HB.out | apply below_alloc | apply pw_below_drewN | apply below_drew1) | exact HB.out)) hb); have n1_ := Aside0.mk (hbox); have n2_ := Aside0.mk ((by rw [hg]; exact (below_size (by repeat (first | (with_reducible first | exact HB.out | apply below_alloc | apply pw_below_drewN | apply below_drew1) | exact HB.out))) : w.heap.size ≤ gb325)); have n3_ := Aside0.mk ((by rw [hg]; exact (below_size (by repeat (first | (with_reducible first | exact HB.out | apply below_alloc | apply pw_below_drewN | apply below_drew1) | exact HB.out))) : w.heap.size ≤ gb325)); clear HB; have HB := n0_; have BK325 := n1_; have GW325 := n2_; have GE325 := n3_; clear n0_ n1_ n2_ n3_; clear hb hbox hg; have hcz23_0 : w22.cell? ⟨gb325, 0, none⟩ = some (.int .i64 0) := (blk_cell BK325.out 0).trans rfl; have hcz23_1 : w22.cell? ⟨gb325, 1, none⟩ = some (.int .i64 0) := (blk_cell BK325.out 1).trans rfl; have hcz23_2 : w22.cell? ⟨gb325, 2, none⟩ = some (.int .i64 0) := (blk_cell BK325.out 2).trans rfl; have hcz23_3 : w22.cell? ⟨gb325, 3, none⟩ = some (.int .i64 0) := (blk_cell BK325.out 3).trans rfl; have hcz23_4 : w22.cell? ⟨gb325, 4, none⟩ = some (.int .i64 0) := (blk_cell BK325.out 4).trans rfl; have hcz23_5 : w22.cell? ⟨gb325, 5, none⟩ = some (.int .u8 0) := (blk_cell BK325.out 5).trans rfl; have hfz23_0 := blk_frozen BK325.out 0; have hfz23_1 := blk_frozen BK325.out 1; have hfz23_2 := blk_frozen BK325.out 2; have hfz23_3 := blk_frozen BK325.out 3; have hfz23_4 := blk_frozen BK325.out 4; have hfz23_5 := blk_frozen BK325.out 5)))
   go_ret2
   exact ⟨by first | rfl | (simp [errW_none, errW_some] <;> rfl) | (simp [*, errW_none, errW_some] <;> rfl), by repeat (first | (with_reducible first | exact HB.out | apply below_alloc | apply pw_below_drewN | apply below_drew1 | refine below_set ?_ GE325.out) | exact HB.out)⟩
end Go.Proofs.Ytgffddbhnggllaa.QF
namespace Go.Proofs.Ytgffddbhnggllaa.Ed
open Go.RowKit Go.Proofs.YtgffddbhnggllaaW.PrintWords QF
theorem allF_good {L : List S41} (h : rightL L = true) {p d : Int} (p0 : 1 ≤ p) (p1 : p ≤ 999999) (d0 : 0 ≤ d) (d1 : d ≤ 730484) : allF L p d = (onF (ofF L p) d, 0) := by
  unfold allF; rw [if_pos]; rw [h, inB_true p0 p1, inB_true d0 d1]; rfl
theorem mem_onF {L : List S41} {d : Int} {o : S41} : o ∈ onF L d ↔ o ∈ L ∧ coversO o d = true := by
  unfold onF; rw [(sortO_perm _).mem_iff, List.mem_filter]
theorem mem_ofF {L : List S41} {p : Int} {o : S41} : o ∈ ofF L p ↔ o ∈ L ∧ o.f1 = p := by
  unfold ofF; rw [List.mem_filter]; simp
theorem force_nil {L : List S41} (h : rightL L = true) {p d : Int} (p0 : 1 ≤ p) (p1 : p ≤ 999999) (d0 : 0 ≤ d) (d1 : d ≤ 730484) (e : onF (ofF L p) d = []) : order_Force.f L p d = some (0, 0, 0, 0, 0, 0, 6) := by
  unfold order_Force.f order_All.f
  rw [allF_good h p0 p1 d0 d1, e]
  simp
theorem force_cons {L : List S41} (h : rightL L = true) {p d : Int} (p0 : 1 ≤ p) (p1 : p ≤ 999999) (d0 : 0 ≤ d) (d1 : d ≤ 730484) {o : S41} {r : List S41} (e : onF (ofF L p) d = o :: r) : order_Force.f L p d = some (o.f0, o.f1, o.f2, o.f3, o.f4, o.f5, 0) := by
  unfold order_Force.f order_All.f
  rw [allF_good h p0 p1 d0 d1, e]
  simp [rd_T41]
theorem in_f {L : List S41} (h : rightL L = true) {p d : Int} (p0 : 1 ≤ p) (p1 : p ≤ 999999) (d0 : 0 ≤ d) (d1 : d ≤ 730484) : letterbaglaw35_in.f L p d = some (idF (onF (ofF L p) d), true) := by
  unfold letterbaglaw35_in.f
  cases e : onF (ofF L p) d with
  | nil => rw [force_nil h p0 p1 d0 d1 e]; rfl
  | cons o r =>
    rw [force_cons h p0 p1 d0 d1 e, Option.bind_some, if_pos rfl]
    have ho : o ∈ L := (mem_ofF.1 (mem_onF.1 (by rw [e]; simp)).1).1
    have hr := right_all h o ho
    unfold rightO at hr
    simp only [Bool.and_eq_true] at hr
    have := (inB_iff.1 hr.1)
    rw [if_pos (by show o.f0 > 0; omega)]; rfl
theorem pt_eq (a : Int) (h0 : 0 ≤ a) (h1 : a ≤ 255) : wrap64 (1 + Int.tmod (wrap64 a) 6) = 1 + a % 6 := by
  rw [w64n a (by omega) (by omega), tm a 6 h0, w64n _ (by omega) (by omega)]
theorem day_eq (a : Int) (h0 : 0 ≤ a) (h1 : a ≤ 255) : Int.tmod (wrap64 a) 110 = a % 110 := by
  rw [w64n a (by omega) (by omega), tm a 110 h0]
end Go.Proofs.Ytgffddbhnggllaa.Ed
namespace Go.Proofs.Ytgffddbhnggllaa.QF
open Go.RowKit Go.Proofs.YtgffddbhnggllaaW.PrintWords Go.Proofs.YtgffddbhnggllaaW.PrintLast Go.Proofs.YtgffddbhnggllaaW.PrintMore
attribute [local go_sem] max2_int min2_int max_two min_two max_three min_three max_four min_four
set_option linter.unusedVariables false
set_option linter.unusedSimpArgs false
def order_Right.f (l0 : List S41) : Option Bool := some (Ed.rightL l0)
theorem order_Right.calls (A0 : Option Addr) (c0 : Nat) (l0 : List (S41)) (r : Bool) (w : World) (hr0 : Kd.C k41 w A0 l0.length l0) (hc0 : l0.length ≤ c0) (h : order_Right.f l0 = some r) :
  Calls Try.prog 29 #[.slice A0 l0.length c0] w fun e w' => e = .returned (.bool r) ∧ Below w.heap.size w w' := by
 obtain rfl := Option.some.inj h
 exact Ed.right_calls A0 c0 l0 w hr0 hc0
end Go.Proofs.Ytgffddbhnggllaa.QF
namespace Go.Proofs.Ytgffddbhnggllaa.QF
open Go.RowKit Go.Proofs.YtgffddbhnggllaaW.PrintWords Go.Proofs.YtgffddbhnggllaaW.PrintLast Go.Proofs.YtgffddbhnggllaaW.PrintMore
attribute [local go_sem] max2_int min2_int max_two min_two max_three min_three max_four min_four
set_option linter.unusedVariables false
set_option linter.unusedSimpArgs false
def order_Spans.f (l0 : List S41) (a1 a2 a3 : Int) : Option (List S54 × Int) := some (Ed.spansF l0 a1 a2 a3)
theorem order_Spans.calls (A0 : Option Addr) (c0 : Nat) (l0 : List (S41)) (a1 : Int) (a2 : Int) (a3 : Int) (r1 : List (S54)) (r2 : Int) (w : World) (hr0 : Kd.C k41 w A0 l0.length l0) (hc0 : l0.length ≤ c0) (h : order_Spans.f l0 a1 a2 a3 = some (r1, r2)) :
  Calls Try.prog 28 #[.slice A0 l0.length c0, .int .i64 a1, .int .i64 a2, .int .i64 a3] w fun e w' => ∃ v0_ : Value, e = .returned (.tuple #[v0_, .int .i64 r2]) ∧ Kd.R k54 54 w' w.heap.size (fun _ => True) v0_ r1 ∧ Below w.heap.size w w' := by
 have h' := Option.some.inj h
 have e := Ed.spans_calls A0 c0 l0 a1 a2 a3 w hr0 hc0
 rw [h'] at e
 exact e
end Go.Proofs.Ytgffddbhnggllaa.QF
namespace Go.Proofs.Ytgffddbhnggllaa.QF
open Go.RowKit Go.Proofs.YtgffddbhnggllaaW.PrintWords Go.Proofs.YtgffddbhnggllaaW.PrintLast Go.Proofs.YtgffddbhnggllaaW.PrintMore
attribute [local go_sem] max2_int min2_int max_two min_two max_three min_three max_four min_four
set_option linter.unusedVariables false
set_option linter.unusedSimpArgs false
theorem eqA54 (d : Nat) (w : World) (x0 y0 : Int) (x1 y1 : Int) (x2 y2 : Int) :
  (Op.equalIn (d + 2) 54 (.agg #[.int .i64 x0, .int .i64 x1, .int .i64 x2]) (.agg #[.int .i64 y0, .int .i64 y1, .int .i64 y2])).run Try.prog w = .ok (x0 == y0 && (x1 == y1 && (x2 == y2))) w := by
 refine eqA_of Try.underlying54 (by kernel_rfl) ?_
 refine eqf_cons (by rfl) (by go_simp; rfl) (by go_simp; rfl) (by go_simp) ?_
 refine eqf_cons (by rfl) (by go_simp; rfl) (by go_simp; rfl) (by go_simp) ?_
 exact eqf_last (by rfl) (by go_simp; rfl) (by go_simp; rfl) (by go_simp)
end Go.Proofs.Ytgffddbhnggllaa.QF
