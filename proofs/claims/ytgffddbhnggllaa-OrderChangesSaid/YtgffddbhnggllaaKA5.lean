/- A part of the texts of one claim: the walk of the code by hand-proved contracts, and the plain law. -/
import Derived.Test.YtgffddbhnggllaaKA4
set_option linter.unusedVariables false
set_option linter.unusedSimpArgs false
namespace Go.Proofs.Ytgffddbhnggllaa.QF
open Go.RowKit Go.Proofs.YtgffddbhnggllaaW.PrintWords Go.Proofs.YtgffddbhnggllaaW.PrintLast Go.Proofs.YtgffddbhnggllaaW.PrintMore
attribute [local go_sem] max2_int min2_int max_two min_two max_three min_three max_four min_four
set_option linter.unusedVariables false
set_option linter.unusedSimpArgs false
attribute [local go_sem high] eqA54
def letterbaglaw35_sameSpans.l0 : Nat → List (S54) → List (S54) → Int → Int → Option (Bool)
 | 0, _, _, _, _ => none
 | k + 1, x0, x1, x12, x13 => if x13 < x12 then (if 0 ≤ x13 then (if x13 < (x0.length : Int) then (if x13 < (x1.length : Int) then (if (!(((rd_T54 x0 x13).f0) == ((rd_T54 x1 x13).f0)) || (!(((rd_T54 x0 x13).f1) == ((rd_T54 x1 x13).f1)) || (!(((rd_T54 x0 x13).f2) == ((rd_T54 x1 x13).f2))))) = true then (some false) else (letterbaglaw35_sameSpans.l0 k x0 x1 x12 (wrap64 (x13 + 1)))) else (none)) else (none)) else (none)) else (some true)
def letterbaglaw35_sameSpans.f (k : Nat) (l0 : List (S54)) (l1 : List (S54)) : Option (Bool) := if (l0.length : Int) = (l1.length : Int) then (letterbaglaw35_sameSpans.l0 k l0 l1 (l0.length : Int) 0) else (some false)
theorem letterbaglaw35_sameSpans.mono_l : ∀ k, (∀ y0 y1 y2 y3, LeO (letterbaglaw35_sameSpans.l0 k y0 y1 y2 y3) (letterbaglaw35_sameSpans.l0 (k + 1) y0 y1 y2 y3))
 | 0 => fun _ _ _ _ r h => by simp [letterbaglaw35_sameSpans.l0] at h
 | k + 1 => by
  have ih0 := letterbaglaw35_sameSpans.mono_l k
  ·intro y0 y1 y2 y3
   unfold letterbaglaw35_sameSpans.l0
   repeat' first
   | (with_reducible exact ih0 _ _ _ _)
   | (with_reducible exact LeO.refl _)
   | (with_reducible exact LeO.none _)
   | (with_reducible refine LeO.ite ?_ ?_)
   | (with_reducible refine LeO.bind ?_ (fun _ => ?_))
   | exact ih0 _ _ _ _
   | exact LeO.none _
   | refine LeO.ite ?_ ?_
   | refine LeO.bind ?_ (fun _ => ?_)
theorem letterbaglaw35_sameSpans.mono : ∀ a0 a1 k, LeO (letterbaglaw35_sameSpans.f k a0 a1) (letterbaglaw35_sameSpans.f (k + 1) a0 a1) := by
 intro a0 a1 k
 have ih0 := letterbaglaw35_sameSpans.mono_l k
 unfold letterbaglaw35_sameSpans.f
 repeat' first
   | (with_reducible exact ih0 _ _ _ _)
   | (with_reducible exact LeO.refl _)
   | (with_reducible exact LeO.none _)
   | (with_reducible refine LeO.ite ?_ ?_)
   | (with_reducible refine LeO.bind ?_ (fun _ => ?_))
   | exact ih0 _ _ _ _
   | exact LeO.none _
   | refine LeO.ite ?_ ?_
   | refine LeO.bind ?_ (fun _ => ?_)
set_option maxHeartbeats 8000000 in
set_option maxRecDepth 100000 in
theorem letterbaglaw35_sameSpans.calls (k : Nat) (A0 : Option Addr) (c0 : Nat) (l0 : List (S54)) (A1 : Option Addr) (c1 : Nat) (l1 : List (S54)) (r : Bool) (w : World) (hr0 : Kd.C k54 w A0 l0.length l0) (hc0 : l0.length ≤ c0) (hr1 : Kd.C k54 w A1 l1.length l1) (hc1 : l1.length ≤ c1) (h : letterbaglaw35_sameSpans.f k l0 l1 = some r) :
  Calls Try.prog 38 #[.slice A0 l0.length c0, .slice A1 l1.length c1] w fun e w' => e = .returned (.bool r) ∧ Drawn0 w w' := by
 have hu54 := Try.underlying54
 have HR0 := Aside0.mk hr0
 have HC0 := Aside0.mk hc0
 clear hr0 hc0
 have HR1 := Aside0.mk hr1
 have HC1 := Aside0.mk hc1
 clear hr1 hc1
 have H : (if (l0.length : Int) = (l1.length : Int) then (letterbaglaw35_sameSpans.l0 k l0 l1 (l0.length : Int) 0) else (some false)) = some r := h
 clear h
 by_cases c3 : (l0.length : Int) = (l1.length : Int)
 ·rw [if_pos c3] at H
  have c3b0 : ((l0.length : Int) == (l1.length : Int)) = true := beq_iff_eq.mpr c3
  have c3b1 : ((l0.length : Int) != (l1.length : Int)) = false := bne_eq_false_iff_eq.mpr c3
  have c3b2 : (l0.length == l1.length) = true := by first | simpa using c3 | (simp at c3 ⊢; omega)
  clear c3
  have H' := Aside0.mk H
  clear H
  go_enter Try.func38, Try.ntmps38
  go_wp2
  repeat (go_quiet (fail); try go_wp2)
  go_loopg [13] k (fun kq v13 w' => ∃ (x13_1 : Int), v13 = .int .i64 x13_1 ∧ Aside0 (letterbaglaw35_sameSpans.l0 kq l0 l1 (l0.length : Int) x13_1 = some r) ∧ Aside0 (kq ≤ k) ∧ Drawn0 w w')
  case atStart => exact ⟨(0), (by first | rfl | (simp; done) | (simp [*]; done)), H', ⟨Nat.le_refl _⟩, by repeat (first | exact Drawn0.refl _ | apply Drawn0.step)⟩
  case round =>
   clear H'
   try clear c1
   try clear p2
   try clear c3
   try clear c3b0
   try clear c3b1
   try clear c3b2
   obtain ⟨x13_1, rfl, HA, HK1, ⟨m1, rfl⟩⟩ := hrel
   cases gk with
   | zero => exact absurd HA.out (by simp [letterbaglaw35_sameSpans.l0])
   | succ k1 =>
    have H := HA.out
    clear HA
    simp only [letterbaglaw35_sameSpans.l0] at H
    by_cases c4 : x13_1 < (l0.length : Int)
    ·rw [if_pos c4] at H
     have c4b0 : decide (x13_1 < (l0.length : Int)) = true := decide_eq_true c4
     clear c4
     by_cases c5 : 0 ≤ x13_1
     ·rw [if_pos c5] at H
      have c5b0 : decide (0 ≤ x13_1) = true := decide_eq_true c5
      clear c5
      by_cases c6 : x13_1 < (l0.length : Int)
      ·rw [if_pos c6] at H
       have c6b0 : decide (x13_1 < (l0.length : Int)) = true := decide_eq_true c6
       clear c6
       by_cases c7 : x13_1 < (l1.length : Int)
       ·rw [if_pos c7] at H
        have c7b0 : decide (x13_1 < (l1.length : Int)) = true := decide_eq_true c7
        clear c7
        by_cases c8 : (!(((rd_T54 l0 x13_1).f0) == ((rd_T54 l1 x13_1).f0)) || (!(((rd_T54 l0 x13_1).f1) == ((rd_T54 l1 x13_1).f1)) || (!(((rd_T54 l0 x13_1).f2) == ((rd_T54 l1 x13_1).f2))))) = true
        ·rw [if_pos c8] at H
         have c8b0 : (!(((rd_T54 l0 x13_1).f0) == ((rd_T54 l1 x13_1).f0)) || (!(((rd_T54 l0 x13_1).f1) == ((rd_T54 l1 x13_1).f1)) || (!(((rd_T54 l0 x13_1).f2) == ((rd_T54 l1 x13_1).f2))))) = true := c8
         clear c8
         obtain rfl := Option.some.inj H
         have p193 : 0 ≤ (x13_1 : Int) := of_decide_eq_true (by first | (with_reducible assumption) | assumption)
         have q193 : x13_1 < (l0.length : Int) := of_decide_eq_true (by first | (with_reducible assumption) | assumption)
         obtain ⟨ad193, e193, hx193_0, hx193_1, hx193_2⟩ := at_T54 HR0.out x13_1 p193 q193
         cases e193
         replace p193 := eq_true p193
         replace q193 := eq_true q193
         have p194 : 0 ≤ (x13_1 : Int) := of_decide_eq_true (by first | (with_reducible assumption) | assumption)
         have q194 : x13_1 < (l1.length : Int) := of_decide_eq_true (by first | (with_reducible assumption) | assumption)
         obtain ⟨ad194, e194, hx194_0, hx194_1, hx194_2⟩ := at_T54 HR1.out x13_1 p194 q194
         cases e194
         replace p194 := eq_true p194
         replace q194 := eq_true q194
         go_wp2
         repeat (go_quiet (fail); try go_wp2)
         go_ret
         exact ⟨by first | rfl | (simp; done) | (simp [*]; done), by repeat (first | exact Drawn0.refl _ | apply Drawn0.step)⟩
        ·rw [if_neg c8] at H
         have c8b0 : (!(((rd_T54 l0 x13_1).f0) == ((rd_T54 l1 x13_1).f0)) || (!(((rd_T54 l0 x13_1).f1) == ((rd_T54 l1 x13_1).f1)) || (!(((rd_T54 l0 x13_1).f2) == ((rd_T54 l1 x13_1).f2))))) = false := by simpa using c8
         clear c8
         have H' := Aside0.mk H
         clear H
         have p193 : 0 ≤ (x13_1 : Int) := of_decide_eq_true (by first | (with_reducible assumption) | assumption)
         have q193 : x13_1 < (l0.length : Int) := of_decide_eq_true (by first | (with_reducible assumption) | assumption)
         obtain ⟨ad193, e193, hx193_0, hx193_1, hx193_2⟩ := at_T54 HR0.out x13_1 p193 q193
         cases e193
         replace p193 := eq_true p193
         replace q193 := eq_true q193
         have p194 : 0 ≤ (x13_1 : Int) := of_decide_eq_true (by first | (with_reducible assumption) | assumption)
         have q194 : x13_1 < (l1.length : Int) := of_decide_eq_true (by first | (with_reducible assumption) | assumption)
         obtain ⟨ad194, e194, hx194_0, hx194_1, hx194_2⟩ := at_T54 HR1.out x13_1 p194 q194
         cases e194
         replace p194 := eq_true p194
         replace q194 := eq_true q194
         go_wp2
         repeat (go_quiet (fail); try go_wp2)
         go_roundg k1
         case measure => have := HK1.out; omega
         case rel => exact ⟨(wrap64 (x13_1 + 1)), (by first | rfl | (simp; done) | (simp [*]; done)), H', ⟨by have := HK1.out; omega⟩, by repeat (first | exact Drawn0.refl _ | apply Drawn0.step)⟩
       ·rw [if_neg c7] at H
        exact absurd H (by simp)
      ·rw [if_neg c6] at H
       exact absurd H (by simp)
     ·rw [if_neg c5] at H
      exact absurd H (by simp)
    ·rw [if_neg c4] at H
     have c4b0 : decide (x13_1 < (l0.length : Int)) = false := decide_eq_false c4
     clear c4
     obtain rfl := Option.some.inj H
     go_wp2
     repeat (go_quiet (fail); try go_wp2)
     go_ret
     exact ⟨by first | rfl | (simp; done) | (simp [*]; done), by repeat (first | exact Drawn0.refl _ | apply Drawn0.step)⟩
 ·rw [if_neg c3] at H
  have c3b0 : ((l0.length : Int) == (l1.length : Int)) = false := beq_eq_false_iff_ne.mpr c3
  have c3b1 : ((l0.length : Int) != (l1.length : Int)) = true := bne_iff_ne.mpr c3
  have c3b2 : (l0.length == l1.length) = false := by first | simpa using c3 | (simp at c3 ⊢; omega)
  obtain rfl := Option.some.inj H
  go_enter Try.func38, Try.ntmps38
  go_wp2
  repeat (go_quiet (fail); try go_wp2)
  go_ret
  exact ⟨by first | rfl | (simp; done) | (simp [*]; done), by repeat (first | exact Drawn0.refl _ | apply Drawn0.step)⟩
end Go.Proofs.Ytgffddbhnggllaa.QF
namespace Go.Proofs.Ytgffddbhnggllaa.QF
open Go.RowKit Go.Proofs.YtgffddbhnggllaaW.PrintWords Go.Proofs.YtgffddbhnggllaaW.PrintLast Go.Proofs.YtgffddbhnggllaaW.PrintMore
attribute [local go_sem] max2_int min2_int max_two min_two max_three min_three max_four min_four
set_option linter.unusedVariables false
set_option linter.unusedSimpArgs false
attribute [local go_sem high] eqA41
def exampleP.f  : Option ((List (S41))) := some (([(⟨1, 7, 8, 10, 0, 1⟩ : S41), (⟨2, 7, 9, 20, 29, 2⟩ : S41), (⟨3, 7, 0, 25, 26, 3⟩ : S41)] : List (S41)))
set_option maxHeartbeats 8000000 in
set_option maxRecDepth 100000 in
theorem exampleP.calls  (r : List (S41)) (w : World) (h : exampleP.f  = some r) :
    Calls Try.prog 59 #[] w fun e w' => ∃ v0_ : Value, e = .returned (v0_) ∧ Kd.R k41 41 w' w.heap.size (fun _ => True) v0_ r ∧ Below w.heap.size w w' := by
  have hu41 := Try.underlying41
  have HB := Aside0.mk (Below.refl w.heap.size w)
  have H : (some (([(⟨1, 7, 8, 10, 0, 1⟩ : S41), (⟨2, 7, 9, 20, 29, 2⟩ : S41), (⟨3, 7, 0, 25, 26, 3⟩ : S41)] : List (S41)))) = some r := h
  clear h
  obtain ⟨y195, hy195⟩ : ∃ y_ : List (S41), y_ = (([(⟨1, 7, 8, 10, 0, 1⟩ : S41), (⟨2, 7, 9, 20, 29, 2⟩ : S41), (⟨3, 7, 0, 25, 26, 3⟩ : S41)] : List (S41))) := ⟨_, rfl⟩
  replace H : (some y195) = some r := by first | (rw [hy195]; with_reducible exact H) | (have H2_ := (Option.bind_some _ _).symm.trans H; rw [hy195]; with_reducible exact H2_) | (have H2_ := (Option.bind_some _ _).symm.trans H; with_reducible exact H2_) | with_reducible exact H | (rw [hy195]; exact H) | exact H
  have Ny195 := Aside0.mk hy195
  clear hy195
  obtain rfl := Option.some.inj H
  go_enter Try.func59, Try.ntmps59
  go_wp2_with (first | ((with_reducible refine gate_dst (N := 4) rfl ?_); refine Kd.R_lit k41 _ 41 ?hg (N := 4) ?hd (xs := ([(⟨1, 7, 8, 10, 0, 1⟩ : S41), (⟨2, 7, 9, 20, 29, 2⟩ : S41), (⟨3, 7, 0, 25, 26, 3⟩ : S41)] : List (S41))) (inner := [.int .i64 1, .int .i64 7, .int .i64 8, .int .i64 10, .int .i64 0, .int .u8 1, .int .i64 2, .int .i64 7, .int .i64 9, .int .i64 20, .int .i64 29, .int .u8 2, .int .i64 3, .int .i64 7, .int .i64 0, .int .i64 25, .int .i64 26, .int .u8 3]) (ok := fun _ => True) (okp := fun _ => True) ?hr ?hp (fun _ hk => hk) trivial (Below.refl _ _) (Nat.le_refl _) (by simp) ?_; (case hd => rfl); (case hg => rfl); (case hr => first | (go_simp; done) | (go_simp; rfl)); (case hp => exact (Reps.c6 (show Kd.M k41 _ _ _ (⟨1, 7, 8, 10, 0, 1⟩ : S41) [.int .i64 1, .int .i64 7, .int .i64 8, .int .i64 10, .int .i64 0, .int .u8 1] from (k41_mkM _ _ _ (⟨1, 7, 8, 10, 0, 1⟩ : S41) )) (Reps.c6 (show Kd.M k41 _ _ _ (⟨2, 7, 9, 20, 29, 2⟩ : S41) [.int .i64 2, .int .i64 7, .int .i64 9, .int .i64 20, .int .i64 29, .int .u8 2] from (k41_mkM _ _ _ (⟨2, 7, 9, 20, 29, 2⟩ : S41) )) (Reps.c6 (show Kd.M k41 _ _ _ (⟨3, 7, 0, 25, 26, 3⟩ : S41) [.int .i64 3, .int .i64 7, .int .i64 0, .int .i64 25, .int .i64 26, .int .u8 3] from (k41_mkM _ _ _ (⟨3, 7, 0, 25, 26, 3⟩ : S41) )) (Reps.none _ _))))); intro v196 w1 ho2 hb hg_ hnew_; clear hg_ hnew_; (first | rw [← Ny195.out] at ho2 | (simp only [Int.reduceToNat] at ho2; rw [← Ny195.out] at ho2)); have n0_ := Aside0.mk (Kd.R_lower ho2 (below_size (by repeat (first | (with_reducible first | exact HB.out | apply below_alloc | apply pw_below_drewN | apply below_drew1) | exact HB.out)))); have n1_ := Aside0.mk (below_step (by repeat (first | (with_reducible first | exact HB.out | apply below_alloc | apply pw_below_drewN | apply below_drew1) | exact HB.out)) hb); clear HB; have HO197 := n0_; have HB := n1_; clear n0_ n1_; clear hb ho2))
  go_ret
  exact ⟨_, by first | rfl | (simp [errW_none, errW_some] <;> rfl) | (simp [*, errW_none, errW_some] <;> rfl), by (with_reducible repeat (first | apply Kd.R_alloc | apply Kd.R_drewN | apply Kd.R_drew)); exact HO197.out, by repeat (first | (with_reducible first | exact HB.out | apply below_alloc | apply pw_below_drewN | apply below_drew1) | exact HB.out)⟩
def awakeP.l0 : Nat → List (S41) → List Int → Int → Int → Option (Bool)
  | 0, _, _, _, _ => none
  | k + 1, x1, x12, x13, x14 => if x14 < x13 then (if 0 ≤ x14 then (if x14 < (x12.length : Int) then ((order_Force.f x1 7 (rd x12 x14)).bind fun bt205 => ((some (([0, 1, 2, 3, 1] : List Int) : List Int)).bind fun y213 => (if x14 < (y213.length : Int) then (if bt205.1 = (rd y213 x14) then (if ((bt205.2.2.2.2.2.2 == 0) != (decide ((rd y213 x14) > 0))) = true then (some false) else (if bt205.2.2.2.2.2.2 = 0 then (awakeP.l0 k x1 x12 x13 (wrap64 (x14 + 1))) else (if bt205.2.2.2.2.2.2 = 6 then (awakeP.l0 k x1 x12 x13 (wrap64 (x14 + 1))) else (some false)))) else (some false)) else (none)))) else (none)) else (none)) else ((order_All.f x1 7 25).bind fun bt217 => ((order_Spans.f x1 7 0 40).bind fun bt221 => (if (wrap64 (bt217.2 + bt221.2)) = 0 then (if (bt217.1.length : Int) = 3 then (if 0 < (bt217.1.length : Int) then (if 2 < (x1.length : Int) then (if (((rd_T41 bt217.1 0).f0) == ((rd_T41 x1 2).f0) && (((rd_T41 bt217.1 0).f1) == ((rd_T41 x1 2).f1) && (((rd_T41 bt217.1 0).f2) == ((rd_T41 x1 2).f2) && (((rd_T41 bt217.1 0).f3) == ((rd_T41 x1 2).f3) && (((rd_T41 bt217.1 0).f4) == ((rd_T41 x1 2).f4) && (((rd_T41 bt217.1 0).f5) == ((rd_T41 x1 2).f5))))))) = true then (if 1 < (bt217.1.length : Int) then (if 1 < (x1.length : Int) then (if (((rd_T41 bt217.1 1).f0) == ((rd_T41 x1 1).f0) && (((rd_T41 bt217.1 1).f1) == ((rd_T41 x1 1).f1) && (((rd_T41 bt217.1 1).f2) == ((rd_T41 x1 1).f2) && (((rd_T41 bt217.1 1).f3) == ((rd_T41 x1 1).f3) && (((rd_T41 bt217.1 1).f4) == ((rd_T41 x1 1).f4) && (((rd_T41 bt217.1 1).f5) == ((rd_T41 x1 1).f5))))))) = true then (if 2 < (bt217.1.length : Int) then (if 0 < (x1.length : Int) then (if (((rd_T41 bt217.1 2).f0) == ((rd_T41 x1 0).f0) && (((rd_T41 bt217.1 2).f1) == ((rd_T41 x1 0).f1) && (((rd_T41 bt217.1 2).f2) == ((rd_T41 x1 0).f2) && (((rd_T41 bt217.1 2).f3) == ((rd_T41 x1 0).f3) && (((rd_T41 bt217.1 2).f4) == ((rd_T41 x1 0).f4) && (((rd_T41 bt217.1 2).f5) == ((rd_T41 x1 0).f5))))))) = true then ((letterbaglaw35_sameSpans.f k bt221.1 (([(⟨0, 9, 0⟩ : S54), (⟨10, 19, 1⟩ : S54), (⟨20, 24, 2⟩ : S54), (⟨25, 26, 3⟩ : S54), (⟨27, 29, 2⟩ : S54), (⟨30, 40, 1⟩ : S54)] : List (S54)))).bind fun t234 => (some t234)) else (some false)) else (none)) else (none)) else (some false)) else (none)) else (none)) else (some false)) else (none)) else (none)) else (some false)) else (some false))))
def awakeP.f (k : Nat)  : Option (Bool) := (exampleP.f).bind fun t198 => ((some (([5, 15, 20, 25, 30] : List Int) : List Int)).bind fun y201 => (awakeP.l0 k t198 y201 (y201.length : Int) 0))
theorem awakeP.mono_l : ∀ k, (∀ y0 y1 y2 y3, LeO (awakeP.l0 k y0 y1 y2 y3) (awakeP.l0 (k + 1) y0 y1 y2 y3))
  | 0 => fun _ _ _ _ r h => by simp [awakeP.l0] at h
  | k + 1 => by
    have ih0 := awakeP.mono_l k
    · intro y0 y1 y2 y3
      unfold awakeP.l0
      repeat' first
      | (with_reducible exact ih0 _ _ _ _)
      | (with_reducible exact letterbaglaw35_sameSpans.mono _ _ _)
      | (with_reducible exact LeO.refl _)
      | (with_reducible exact LeO.none _)
      | (with_reducible refine LeO.ite ?_ ?_)
      | (with_reducible refine LeO.bind ?_ (fun _ => ?_))
      | exact ih0 _ _ _ _
      | exact letterbaglaw35_sameSpans.mono _ _ _
      | exact LeO.none _
      | refine LeO.ite ?_ ?_
      | refine LeO.bind ?_ (fun _ => ?_)
theorem awakeP.mono : ∀ k, LeO (awakeP.f k ) (awakeP.f (k + 1) ) := by
  intro  k
  have ih0 := awakeP.mono_l k
  unfold awakeP.f
  repeat' first
      | (with_reducible exact ih0 _ _ _ _)
      | (with_reducible exact letterbaglaw35_sameSpans.mono _ _ _)
      | (with_reducible exact LeO.refl _)
      | (with_reducible exact LeO.none _)
      | (with_reducible refine LeO.ite ?_ ?_)
      | (with_reducible refine LeO.bind ?_ (fun _ => ?_))
      | exact ih0 _ _ _ _
      | exact letterbaglaw35_sameSpans.mono _ _ _
      | exact LeO.none _
      | refine LeO.ite ?_ ?_
      | refine LeO.bind ?_ (fun _ => ?_)
def awakeP.T12 : Bool × List (List Nat × List Nat) := (true, [([], []), ([], []), ([0, 1], [0, 1]), ([2], [2]), ([3], [3]), ([4], [4]), ([5, 4], [4, 5]), ([6, 4], [4, 6]), ([4, 7], [4, 7]), ([8, 4], [8]), ([9], [9]), ([10, 9], [9, 10]), ([11, 9], [9, 11]), ([9], [9]), ([13, 9], [9, 13]), ([14, 9], [9, 14]), ([12, 15, 9], [9, 12, 15]), ([9, 16], [9, 16]), ([17, 9], [17]), ([18], [18]), ([19, 18], [18, 19]), ([20, 18], [18, 20]), ([18], [18]), ([22, 18], [18, 22]), ([23, 18], [18, 23]), ([21, 24, 18], [18, 21, 24]), ([18, 25], [18, 25]), ([26, 18], [26]), ([27], [27]), ([28, 27], [27, 28]), ([29, 27], [27, 29]), ([27], [27]), ([31, 27], [27, 31]), ([32, 27], [27, 32]), ([30, 33, 27], [27, 30, 33]), ([27, 34], [27, 34]), ([35, 27], [35]), ([36], [36]), ([36], [36]), ([36], [36]), ([36], [36]), ([36], [36]), ([36], [36]), ([36], [36]), ([38, 39, 40, 41, 42, 43, 36], [36, 38, 39, 40, 41, 42, 43]), ([37, 44, 36, 36], [36, 37, 44]), ([36, 45], [36, 45]), ([46, 45, 0, 1, 2, 3, 4, 5, 6, 7, 8, 9, 10, 11, 12, 13, 14, 15, 16, 17, 18, 19, 20, 21, 22, 23, 24, 25, 26, 27, 28, 29, 30, 31, 32, 33, 34, 35, 36, 37, 38, 39, 40, 41, 42, 43, 44, 45, 46], [46])])
def awakeP.B12 : List Nat := [0, 0, 3, 7, 15, 31, 63, 127, 255, 511, 1023, 2047, 4095, 1023, 9215, 25599, 65535, 131071, 262143, 524287, 1048575, 2097151, 524287, 4718591, 13107199, 33554431, 67108863, 134217727, 268435455, 536870911, 1073741823, 268435455, 2415919103, 6710886399, 17179869183, 34359738367, 68719476735, 137438953471, 137438953471, 137438953471, 137438953471, 137438953471, 137438953471, 137438953471, 17454747090943, 35184372088831, 70368744177663, 140737488355327]
theorem awakeP.tab12 : rtab .any (opsOf Try.f23 12) = awakeP.T12 := by kernel_rfl
theorem awakeP.bits12 : waitsOk awakeP.T12.2 awakeP.B12 = true := by kernel_rfl
set_option maxHeartbeats 8000000 in
set_option maxRecDepth 100000 in
theorem awakeP.calls (k : Nat)  (r : Bool) (hr : r = true) (w : World) (h : awakeP.f k  = some r) :
    Calls Try.prog 23 #[] w fun e w' => e = .returned (.bool r) ∧ Below w.heap.size w w' := by
  have hu41 := Try.underlying41
  have hu54 := Try.underlying54
  have HB := Aside0.mk (Below.refl w.heap.size w)
  have H : ((exampleP.f).bind fun t198 => ((some (([5, 15, 20, 25, 30] : List Int) : List Int)).bind fun y201 => (awakeP.l0 k t198 y201 (y201.length : Int) 0))) = some r := h
  clear h
  replace H := Option.bind_eq_some_iff.mp H
  obtain ⟨t198, A10, H⟩ := H
  replace H : ((some (([5, 15, 20, 25, 30] : List Int) : List Int)).bind fun y201 => (awakeP.l0 k t198 y201 (y201.length : Int) 0)) = some r := H
  have A1 := Aside0.mk A10
  clear A10
  obtain ⟨y201, hy201⟩ : ∃ y_ : List Int, y_ = (([5, 15, 20, 25, 30] : List Int)) := ⟨_, rfl⟩
  replace H : (awakeP.l0 k t198 y201 (y201.length : Int) 0) = some r := by first | (rw [hy201]; with_reducible exact H) | (have H2_ := (Option.bind_some _ _).symm.trans H; rw [hy201]; with_reducible exact H2_) | (have H2_ := (Option.bind_some _ _).symm.trans H; with_reducible exact H2_) | with_reducible exact H | (rw [hy201]; exact H) | exact H
  have Ny201 := Aside0.mk hy201
  clear hy201
  have H' := Aside0.mk H
  clear H
  go_enter Try.func23, Try.ntmps23
  go_wp2_with (first | ((with_reducible refine gate_callee (f := 59) rfl ?_); refine goesL_ (some 11) rfl rfl Try.func59 (by kernel_rfl) rfl #[] rfl (by (try simp only [List.map_toArray, List.map_cons, List.map_nil]); first | done | rfl | (simp only [List.length_drop, List.length_take]; rfl)) ?_; (with_reducible refine (exampleP.calls  t198 _ A1.out).mono ?_); rintro e w2 ⟨v199, rfl, ho0, hb⟩; refine ⟨_, rfl, ?_⟩; have n0_ := Aside0.mk (Kd.R_lower ho0 (below_size (by repeat (first | (with_reducible first | exact HB.out | apply below_alloc | apply pw_below_drewN | apply below_drew1) | exact HB.out)))); have n1_ := Aside0.mk (below_step (by repeat (first | (with_reducible first | exact HB.out | apply below_alloc | apply pw_below_drewN | apply below_drew1) | exact HB.out)) hb); clear HB; have HO200 := n0_; have HB := n1_; clear n0_ n1_; (try clear hb); (try clear hb2); (try clear hk); (try clear hi); (try clear ho0)) | ((with_reducible refine gate_dst (N := 12) rfl ?_); (try (refine gate_guard (by rfl) ?_; dsimp only)); refine Kd.R_lit (Kd.int .i64) _ 3 ?hg (N := 12) ?hd (xs := ([5, 15, 20, 25, 30] : List Int)) (inner := [.int .i64 5, .int .i64 15, .int .i64 20, .int .i64 25, .int .i64 30]) (ok := fun _ => True) (okp := fun _ => True) ?hr ?hp (fun _ hk => hk) trivial (Below.refl _ _) (Nat.le_refl _) (by simp) ?_; (case hd => rfl); (case hg => rfl); (case hr => first | (go_simp; done) | (go_simp; rfl)); (case hp => exact (Reps.one (show Kd.M (Kd.int .i64) _ _ _ 5 [.int .i64 5] from rfl) (Reps.one (show Kd.M (Kd.int .i64) _ _ _ 15 [.int .i64 15] from rfl) (Reps.one (show Kd.M (Kd.int .i64) _ _ _ 20 [.int .i64 20] from rfl) (Reps.one (show Kd.M (Kd.int .i64) _ _ _ 25 [.int .i64 25] from rfl) (Reps.one (show Kd.M (Kd.int .i64) _ _ _ 30 [.int .i64 30] from rfl) (Reps.none _ _))))))); intro v202 w3 ho4 hb hg_ hnew_; clear hg_ hnew_; (first | rw [← Ny201.out] at ho4 | (simp only [Int.reduceToNat] at ho4; rw [← Ny201.out] at ho4)); have n0_ := Aside0.mk (Kd.R_below (by (with_reducible repeat (first | apply Kd.R_alloc | apply Kd.R_drewN | apply Kd.R_drew)); exact HO200.out) hb); have n1_ := Aside0.mk (Kd.R_lower ho4 (below_size (by repeat (first | (with_reducible first | exact HB.out | apply below_alloc | apply pw_below_drewN | apply below_drew1) | exact HB.out)))); have n2_ := Aside0.mk (below_step (by repeat (first | (with_reducible first | exact HB.out | apply below_alloc | apply pw_below_drewN | apply below_drew1) | exact HB.out)) hb); clear HO200; clear HB; have HO200 := n0_; have HO203 := n1_; have HB := n2_; clear n0_ n1_ n2_; clear hb ho4; obtain ⟨Ao5, co5, eo5⟩ := Kd.R_slice HO203.out; subst eo5))
  go_loopg [14] k (fun kq v14 w' => ∃ (x14_1 : Int), v14 = .int .i64 x14_1 ∧ Aside0 (awakeP.l0 kq t198 y201 (y201.length : Int) x14_1 = some r) ∧ Aside0 (kq ≤ k) ∧ Aside0 (Kd.R k41 41 w' w.heap.size (fun _ => True) v199 t198) ∧ Aside0 (Kd.R (Kd.int .i64) 3 w' w.heap.size (fun _ => True) (.slice Ao5 y201.length co5) y201) ∧ Aside0 (Below w.heap.size w w'))
  case atStart => exact ⟨(0), (by first | rfl | (simp; done) | (simp [*]; done)), H', ⟨Nat.le_refl _⟩, ⟨by (with_reducible repeat (first | apply Kd.R_alloc | apply Kd.R_drewN | apply Kd.R_drew)); exact HO200.out⟩, ⟨by (with_reducible repeat (first | apply Kd.R_alloc | apply Kd.R_drewN | apply Kd.R_drew)); exact HO203.out⟩, ⟨by repeat (first | (with_reducible first | exact HB.out | apply below_alloc | apply pw_below_drewN | apply below_drew1) | exact HB.out)⟩⟩
  case round =>
    clear H'
    try clear c2
    try clear p2
    try clear c5
    obtain ⟨x14_1, rfl, HA, HK1, HO_1, HO_12, HB⟩ := hrel
    cases gk with
    | zero => exact absurd HA.out (by simp [awakeP.l0])
    | succ k1 =>
      have H := HA.out
      clear HA
      simp only [awakeP.l0] at H
      by_cases c6 : x14_1 < (y201.length : Int)
      · rw [if_pos c6] at H
        have c6b0 : decide (x14_1 < (y201.length : Int)) = true := decide_eq_true c6
        clear c6
        by_cases c7 : 0 ≤ x14_1
        · rw [if_pos c7] at H
          have c7b0 : decide (0 ≤ x14_1) = true := decide_eq_true c7
          clear c7
          by_cases c8 : x14_1 < (y201.length : Int)
          · rw [if_pos c8] at H
            have c8b0 : decide (x14_1 < (y201.length : Int)) = true := decide_eq_true c8
            clear c8
            replace H := Option.bind_eq_some_iff.mp H
            obtain ⟨⟨t205, t206, t207, t208, t209, t210, t211⟩, A90, H⟩ := H
            replace H : ((some (([0, 1, 2, 3, 1] : List Int) : List Int)).bind fun y213 => (if x14_1 < (y213.length : Int) then (if t205 = (rd y213 x14_1) then (if ((t211 == 0) != (decide ((rd y213 x14_1) > 0))) = true then (some false) else (if t211 = 0 then (awakeP.l0 k1 t198 y201 (y201.length : Int) (wrap64 (x14_1 + 1))) else (if t211 = 6 then (awakeP.l0 k1 t198 y201 (y201.length : Int) (wrap64 (x14_1 + 1))) else (some false)))) else (some false)) else (none))) = some r := H
            have A9 := Aside0.mk A90
            clear A90
            obtain ⟨y213, hy213⟩ : ∃ y_ : List Int, y_ = (([0, 1, 2, 3, 1] : List Int)) := ⟨_, rfl⟩
            replace H : (if x14_1 < (y213.length : Int) then (if t205 = (rd y213 x14_1) then (if ((t211 == 0) != (decide ((rd y213 x14_1) > 0))) = true then (some false) else (if t211 = 0 then (awakeP.l0 k1 t198 y201 (y201.length : Int) (wrap64 (x14_1 + 1))) else (if t211 = 6 then (awakeP.l0 k1 t198 y201 (y201.length : Int) (wrap64 (x14_1 + 1))) else (some false)))) else (some false)) else (none)) = some r := by first | (rw [hy213]; with_reducible exact H) | (have H2_ := (Option.bind_some _ _).symm.trans H; rw [hy213]; with_reducible exact H2_) | (have H2_ := (Option.bind_some _ _).symm.trans H; with_reducible exact H2_) | with_reducible exact H | (rw [hy213]; exact H) | exact H
            have Ny213 := Aside0.mk hy213
            clear hy213
            by_cases c10 : x14_1 < (y213.length : Int)
            · rw [if_pos c10] at H
              have c10b0 : decide (x14_1 < (y213.length : Int)) = true := decide_eq_true c10
              clear c10
              by_cases c11 : t205 = (rd y213 x14_1)
              · rw [if_pos c11] at H
                have c11b0 : (t205 == (rd y213 x14_1)) = true := beq_iff_eq.mpr c11
                have c11b1 : (t205 != (rd y213 x14_1)) = false := bne_eq_false_iff_eq.mpr c11
                clear c11
                by_cases c12 : ((t211 == 0) != (decide ((rd y213 x14_1) > 0))) = true
                · rw [if_pos c12] at H
                  have c12b0 : ((t211 == 0) != (decide ((rd y213 x14_1) > 0))) = true := c12
                  (try (have c12b1 : decide ((t211 == 0) = (decide ((rd y213 x14_1) > 0))) = false := by simpa using c12))
                  (try (have c12b2 : ((t211 == 0) == (decide ((rd y213 x14_1) > 0))) = false := by simpa using c12))
                  (try (have c12b3 : ¬ ((t211 == 0) = (decide ((rd y213 x14_1) > 0))) := by simpa using c12))
                  clear c12
                  exact absurd (H.trans (congrArg some hr)) (by simp)
                · rw [if_neg c12] at H
                  have c12b0 : ((t211 == 0) != (decide ((rd y213 x14_1) > 0))) = false := by simpa using c12
                  (try (have c12b1 : decide ((t211 == 0) = (decide ((rd y213 x14_1) > 0))) = true := by simpa using c12))
                  (try (have c12b2 : ((t211 == 0) == (decide ((rd y213 x14_1) > 0))) = true := by simpa using c12))
                  clear c12
                  by_cases c21 : t211 = 0
                  · rw [if_pos c21] at H
                    have c21b0 : (t211 == 0) = true := beq_iff_eq.mpr c21
                    have c12p : 0 < rd y213 x14_1 := by have q := c12b0; rw [c21b0] at q; simpa using q
                    have c12d : decide (0 < rd y213 x14_1) = true := decide_eq_true c12p
                    have c21b1 : (t211 != 0) = false := bne_eq_false_iff_eq.mpr c21
                    clear c21
                    have H' := Aside0.mk H
                    clear H
                    have p204 : 0 ≤ (x14_1 : Int) := of_decide_eq_true (by first | (with_reducible assumption) | assumption)
                    have q204 : x14_1 < (y201.length : Int) := of_decide_eq_true (by first | (with_reducible assumption) | assumption)
                    obtain ⟨ad204, e204, hx204_0⟩ := Kd.at_int (Kd.R_reads' HO_12.out).2.2 x14_1 p204 q204
                    cases e204
                    replace p204 := eq_true p204
                    replace q204 := eq_true q204
                    obtain ⟨Ao22, co22, eo22⟩ := Kd.R_slice HO_1.out
                    subst eo22
                    go_wp2_with (first | ((with_reducible refine gate_callee (f := 27) rfl ?_); refine goesL_ (some 22) rfl rfl Try.func27 (by kernel_rfl) rfl #[.slice Ao22 t198.length co22, .int .i64 7, .int .i64 (rd y201 x14_1)] rfl (by (try simp only [List.map_toArray, List.map_cons, List.map_nil]); first | done | rfl | (simp only [List.length_drop, List.length_take]; rfl)) ?_; (with_reducible refine (order_Force.calls _ _ t198 7 (rd y201 x14_1) t205 t206 t207 t208 t209 t210 t211 _ ?side1 ?side2 A9.out).mono ?_); (case side1 => repeat (first | exact (Kd.R_reads' HO_1.out).2.2 | (with_reducible refine Kd.C_alloc ?_ _) | (with_reducible refine Kd.C_drewN ?_ _) | (with_reducible refine Kd.C_drew ?_))); (case side2 => exact (Kd.R_reads' HO_1.out).2.1); rintro e w23 ⟨rfl, hb⟩; refine ⟨_, rfl, ?_⟩; have n0_ := Aside0.mk (Kd.R_below (by (with_reducible repeat (first | apply Kd.R_alloc | apply Kd.R_drewN | apply Kd.R_drew)); exact HO_1.out) hb); have n1_ := Aside0.mk (Kd.R_below (by (with_reducible repeat (first | apply Kd.R_alloc | apply Kd.R_drewN | apply Kd.R_drew)); exact HO_12.out) hb); have n2_ := Aside0.mk (below_step (by repeat (first | (with_reducible first | exact HB.out | apply below_alloc | apply pw_below_drewN | apply below_drew1) | exact HB.out)) hb); clear HO_1; clear HO_12; clear HB; have HO_1 := n0_; have HO_12 := n1_; have HB := n2_; clear n0_ n1_ n2_; (try clear hb); (try clear hb2); (try clear hk); (try clear hi)) | ((with_reducible refine gate_dst (N := 4) rfl ?_); (try (refine gate_guard (by rfl) ?_; dsimp only)); refine box_event ?hg (N := 4) ?hd (cs := #[.int .i64 0, .int .i64 0, .int .i64 0, .int .i64 0, .int .i64 0, .int .u8 0]) (t := 41) ?hr ?_; (case hd => rfl); (case hg => rfl); (case hr => first | (go_simp; done) | (go_simp; rfl)); intro gb212 hg w24 hbox hb; have n0_ := Aside0.mk (Kd.R_below (Kd.R_elderB (by (with_reducible repeat (first | apply Kd.R_alloc | apply Kd.R_drewN | apply Kd.R_drew)); exact HO_1.out) gb212 (Nat.le_of_eq hg.symm)) hb); have n1_ := Aside0.mk (Kd.R_below (by (with_reducible repeat (first | apply Kd.R_alloc | apply Kd.R_drewN | apply Kd.R_drew)); exact HO_12.out) hb); have n2_ := Aside0.mk (below_step (by repeat (first | (with_reducible first | exact HB.out | apply below_alloc | apply pw_below_drewN | apply below_drew1) | exact HB.out)) hb); have n3_ := Aside0.mk (hbox); have n4_ := Aside0.mk ((by rw [hg]; exact (below_size (by repeat (first | (with_reducible first | exact HB.out | apply below_alloc | apply pw_below_drewN | apply below_drew1) | exact HB.out))) : w.heap.size ≤ gb212)); have n5_ := Aside0.mk ((by rw [hg]; exact (below_size (by repeat (first | (with_reducible first | exact HB.out | apply below_alloc | apply pw_below_drewN | apply below_drew1) | exact HB.out))) : w.heap.size ≤ gb212)); clear HO_1; clear HO_12; clear HB; have HO_1 := n0_; have HO_12 := n1_; have HB := n2_; have BK212 := n3_; have GW212 := n4_; have GE212 := n5_; clear n0_ n1_ n2_ n3_ n4_ n5_; clear hb hbox hg; have hcz25_0 : w24.cell? ⟨gb212, 0, none⟩ = some (.int .i64 0) := (blk_cell BK212.out 0).trans rfl; have hcz25_1 : w24.cell? ⟨gb212, 1, none⟩ = some (.int .i64 0) := (blk_cell BK212.out 1).trans rfl; have hcz25_2 : w24.cell? ⟨gb212, 2, none⟩ = some (.int .i64 0) := (blk_cell BK212.out 2).trans rfl; have hcz25_3 : w24.cell? ⟨gb212, 3, none⟩ = some (.int .i64 0) := (blk_cell BK212.out 3).trans rfl; have hcz25_4 : w24.cell? ⟨gb212, 4, none⟩ = some (.int .i64 0) := (blk_cell BK212.out 4).trans rfl; have hcz25_5 : w24.cell? ⟨gb212, 5, none⟩ = some (.int .u8 0) := (blk_cell BK212.out 5).trans rfl; have hfz25_0 := blk_frozen BK212.out 0; have hfz25_1 := blk_frozen BK212.out 1; have hfz25_2 := blk_frozen BK212.out 2; have hfz25_3 := blk_frozen BK212.out 3; have hfz25_4 := blk_frozen BK212.out 4; have hfz25_5 := blk_frozen BK212.out 5) | ((with_reducible refine gate_dst (N := 25) rfl ?_); (try (refine gate_guard (by rfl) ?_; dsimp only)); refine Kd.R_lit (Kd.int .i64) _ 3 ?hg (N := 25) ?hd (xs := ([0, 1, 2, 3, 1] : List Int)) (inner := [.int .i64 0, .int .i64 1, .int .i64 2, .int .i64 3, .int .i64 1]) (ok := fun _ => True) (okp := fun _ => True) ?hr ?hp (fun _ hk => hk) trivial (Below.refl _ _) (Nat.le_refl _) (by simp) ?_; (case hd => rfl); (case hg => rfl); (case hr => first | (go_simp; done) | (go_simp; rfl)); (case hp => exact (Reps.one (show Kd.M (Kd.int .i64) _ _ _ 0 [.int .i64 0] from rfl) (Reps.one (show Kd.M (Kd.int .i64) _ _ _ 1 [.int .i64 1] from rfl) (Reps.one (show Kd.M (Kd.int .i64) _ _ _ 2 [.int .i64 2] from rfl) (Reps.one (show Kd.M (Kd.int .i64) _ _ _ 3 [.int .i64 3] from rfl) (Reps.one (show Kd.M (Kd.int .i64) _ _ _ 1 [.int .i64 1] from rfl) (Reps.none _ _))))))); intro v214 w26 ho27 hb hg_ hnew_; clear hg_ hnew_; (first | rw [← Ny213.out] at ho27 | (simp only [Int.reduceToNat] at ho27; rw [← Ny213.out] at ho27)); have n0_ := Aside0.mk (Kd.R_below (by (with_reducible repeat (first | apply Kd.R_alloc | apply Kd.R_drewN | apply Kd.R_drew)); exact (Kd.R_mono (Kd.R_far (p := ⟨gb212, 5, none⟩) (Kd.R_far (p := ⟨gb212, 4, none⟩) (Kd.R_far (p := ⟨gb212, 3, none⟩) (Kd.R_far (p := ⟨gb212, 2, none⟩) (Kd.R_far (p := ⟨gb212, 1, none⟩) (Kd.R_far (p := ⟨gb212, 0, none⟩) (Kd.R_mono HO_1.out (fun k_ hk => (⟨hk, hk.2⟩ : _ ∧ k_ ≠ gb212))) (fun _ hk => hk.2) (.int .i64 t205)) (fun _ hk => hk.2) (.int .i64 t206)) (fun _ hk => hk.2) (.int .i64 t207)) (fun _ hk => hk.2) (.int .i64 t208)) (fun _ hk => hk.2) (.int .i64 t209)) (fun _ hk => hk.2) (.int .u8 t210)) (fun _ h_ => h_.1))) hb); have n1_ := Aside0.mk (Kd.R_elder' (by (with_reducible repeat (first | apply Kd.R_alloc | apply Kd.R_drewN | apply Kd.R_drew)); exact (Kd.R_mono (Kd.R_far (p := ⟨gb212, 5, none⟩) (Kd.R_far (p := ⟨gb212, 4, none⟩) (Kd.R_far (p := ⟨gb212, 3, none⟩) (Kd.R_far (p := ⟨gb212, 2, none⟩) (Kd.R_far (p := ⟨gb212, 1, none⟩) (Kd.R_far (p := ⟨gb212, 0, none⟩) (Kd.R_types HO_12.out BK212.out (by decide)) (fun _ hk => hk.2) (.int .i64 t205)) (fun _ hk => hk.2) (.int .i64 t206)) (fun _ hk => hk.2) (.int .i64 t207)) (fun _ hk => hk.2) (.int .i64 t208)) (fun _ hk => hk.2) (.int .i64 t209)) (fun _ hk => hk.2) (.int .u8 t210)) (fun _ h_ => h_.1))) (Kd.R_base ho27) hb); have n2_ := Aside0.mk (Kd.R_lower (Kd.R_new' ho27 (Kd.R_lt (by (with_reducible repeat (first | apply Kd.R_alloc | apply Kd.R_drewN | apply Kd.R_drew)); exact (Kd.R_mono (Kd.R_far (p := ⟨gb212, 5, none⟩) (Kd.R_far (p := ⟨gb212, 4, none⟩) (Kd.R_far (p := ⟨gb212, 3, none⟩) (Kd.R_far (p := ⟨gb212, 2, none⟩) (Kd.R_far (p := ⟨gb212, 1, none⟩) (Kd.R_far (p := ⟨gb212, 0, none⟩) (Kd.R_types HO_12.out BK212.out (by decide)) (fun _ hk => hk.2) (.int .i64 t205)) (fun _ hk => hk.2) (.int .i64 t206)) (fun _ hk => hk.2) (.int .i64 t207)) (fun _ hk => hk.2) (.int .i64 t208)) (fun _ hk => hk.2) (.int .i64 t209)) (fun _ hk => hk.2) (.int .u8 t210)) (fun _ h_ => h_.1))))) (below_size (by repeat (first | (with_reducible first | exact HB.out | apply below_alloc | apply pw_below_drewN | apply below_drew1 | refine below_set ?_ GE212.out) | exact HB.out)))); have n3_ := Aside0.mk (blk_below (g := gb212) (o := .cells #[.int .i64 t205, .int .i64 t206, .int .i64 t207, .int .i64 t208, .int .i64 t209, .int .u8 t210] 41 (0, 0)) (by (with_reducible repeat (first | refine blk_drewN ?_ _ | refine blk_drew ?_ | refine blk_alloc ?_ _)); refine blk_put (cs := #[.int .i64 t205, .int .i64 t206, .int .i64 t207, .int .i64 t208, .int .i64 t209, .int .u8 0]) ?_ 5 _ rfl; (with_reducible repeat (first | refine blk_drewN ?_ _ | refine blk_drew ?_ | refine blk_alloc ?_ _)); refine blk_put (cs := #[.int .i64 t205, .int .i64 t206, .int .i64 t207, .int .i64 t208, .int .i64 0, .int .u8 0]) ?_ 4 _ rfl; (with_reducible repeat (first | refine blk_drewN ?_ _ | refine blk_drew ?_ | refine blk_alloc ?_ _)); refine blk_put (cs := #[.int .i64 t205, .int .i64 t206, .int .i64 t207, .int .i64 0, .int .i64 0, .int .u8 0]) ?_ 3 _ rfl; (with_reducible repeat (first | refine blk_drewN ?_ _ | refine blk_drew ?_ | refine blk_alloc ?_ _)); refine blk_put (cs := #[.int .i64 t205, .int .i64 t206, .int .i64 0, .int .i64 0, .int .i64 0, .int .u8 0]) ?_ 2 _ rfl; (with_reducible repeat (first | refine blk_drewN ?_ _ | refine blk_drew ?_ | refine blk_alloc ?_ _)); refine blk_put (cs := #[.int .i64 t205, .int .i64 0, .int .i64 0, .int .i64 0, .int .i64 0, .int .u8 0]) ?_ 1 _ rfl; (with_reducible repeat (first | refine blk_drewN ?_ _ | refine blk_drew ?_ | refine blk_alloc ?_ _)); refine blk_put (cs := #[.int .i64 0, .int .i64 0, .int .i64 0, .int .i64 0, .int .i64 0, .int .u8 0]) ?_ 0 _ rfl; (with_reducible repeat (first | refine blk_drewN ?_ _ | refine blk_drew ?_ | refine blk_alloc ?_ _)); exact BK212.out) hb); have n4_ := Aside0.mk (below_step (by repeat (first | (with_reducible first | exact HB.out | apply below_alloc | apply pw_below_drewN | apply below_drew1 | refine below_set ?_ GE212.out) | exact HB.out)) hb); clear HO_1; clear HO_12; clear BK212; clear HB; have HO_1 := n0_; have HO_12 := n1_; have HO215 := n2_; have BK212 := n3_; have HB := n4_; clear n0_ n1_ n2_ n3_ n4_; clear hb ho27; obtain ⟨Ao28, co28, eo28⟩ := Kd.R_slice HO215.out; subst eo28; have p216 : 0 ≤ (x14_1 : Int) := of_decide_eq_true (by first | (with_reducible assumption) | assumption); have q216 : x14_1 < (y213.length : Int) := of_decide_eq_true (by first | (with_reducible assumption) | assumption); obtain ⟨ad216, e216, hx216_0⟩ := Kd.at_int (Kd.R_reads' HO215.out).2.2 x14_1 p216 q216; cases e216; replace p216 := eq_true p216; replace q216 := eq_true q216; have hcz29_0 : w26.cell? ⟨gb212, 0, none⟩ = some (.int .i64 t205) := (blk_cell BK212.out 0).trans rfl; have hcz29_1 : w26.cell? ⟨gb212, 1, none⟩ = some (.int .i64 t206) := (blk_cell BK212.out 1).trans rfl; have hcz29_2 : w26.cell? ⟨gb212, 2, none⟩ = some (.int .i64 t207) := (blk_cell BK212.out 2).trans rfl; have hcz29_3 : w26.cell? ⟨gb212, 3, none⟩ = some (.int .i64 t208) := (blk_cell BK212.out 3).trans rfl; have hcz29_4 : w26.cell? ⟨gb212, 4, none⟩ = some (.int .i64 t209) := (blk_cell BK212.out 4).trans rfl; have hcz29_5 : w26.cell? ⟨gb212, 5, none⟩ = some (.int .u8 t210) := (blk_cell BK212.out 5).trans rfl; have hfz29_0 := blk_frozen BK212.out 0; have hfz29_1 := blk_frozen BK212.out 1; have hfz29_2 := blk_frozen BK212.out 2; have hfz29_3 := blk_frozen BK212.out 3; have hfz29_4 := blk_frozen BK212.out 4; have hfz29_5 := blk_frozen BK212.out 5))
                    go_roundg k1
                    case measure => have := HK1.out; omega
                    case rel => exact ⟨(wrap64 (x14_1 + 1)), (by first | rfl | (simp; done) | (simp [*]; done)), H', ⟨by have := HK1.out; omega⟩, ⟨by (with_reducible repeat (first | apply Kd.R_alloc | apply Kd.R_drewN | apply Kd.R_drew)); exact Kd.R_mono HO_1.out (fun _ hk => trivial)⟩, ⟨by (with_reducible repeat (first | apply Kd.R_alloc | apply Kd.R_drewN | apply Kd.R_drew)); exact Kd.R_mono HO_12.out (fun _ hk => trivial)⟩, ⟨by repeat (first | (with_reducible first | exact HB.out | apply below_alloc | apply pw_below_drewN | apply below_drew1 | refine below_set ?_ GE212.out) | exact HB.out)⟩⟩
                  · rw [if_neg c21] at H
                    have c21b0 : (t211 == 0) = false := beq_eq_false_iff_ne.mpr c21
                    have c12p : ¬ 0 < rd y213 x14_1 := by have q := c12b0; rw [c21b0] at q; simpa using q
                    have c12d : decide (0 < rd y213 x14_1) = false := decide_eq_false c12p
                    have c21b1 : (t211 != 0) = true := bne_iff_ne.mpr c21
                    by_cases c30 : t211 = 6
                    · rw [if_pos c30] at H
                      have c30b0 : (t211 == 6) = true := beq_iff_eq.mpr c30
                      have c30b1 : (t211 != 6) = false := bne_eq_false_iff_eq.mpr c30
                      clear c30
                      have H' := Aside0.mk H
                      clear H
                      have p204 : 0 ≤ (x14_1 : Int) := of_decide_eq_true (by first | (with_reducible assumption) | assumption)
                      have q204 : x14_1 < (y201.length : Int) := of_decide_eq_true (by first | (with_reducible assumption) | assumption)
                      obtain ⟨ad204, e204, hx204_0⟩ := Kd.at_int (Kd.R_reads' HO_12.out).2.2 x14_1 p204 q204
                      cases e204
                      replace p204 := eq_true p204
                      replace q204 := eq_true q204
                      obtain ⟨Ao31, co31, eo31⟩ := Kd.R_slice HO_1.out
                      subst eo31
                      go_wp2_with (first | ((with_reducible refine gate_callee (f := 27) rfl ?_); refine goesL_ (some 22) rfl rfl Try.func27 (by kernel_rfl) rfl #[.slice Ao31 t198.length co31, .int .i64 7, .int .i64 (rd y201 x14_1)] rfl (by (try simp only [List.map_toArray, List.map_cons, List.map_nil]); first | done | rfl | (simp only [List.length_drop, List.length_take]; rfl)) ?_; (with_reducible refine (order_Force.calls _ _ t198 7 (rd y201 x14_1) t205 t206 t207 t208 t209 t210 t211 _ ?side1 ?side2 A9.out).mono ?_); (case side1 => repeat (first | exact (Kd.R_reads' HO_1.out).2.2 | (with_reducible refine Kd.C_alloc ?_ _) | (with_reducible refine Kd.C_drewN ?_ _) | (with_reducible refine Kd.C_drew ?_))); (case side2 => exact (Kd.R_reads' HO_1.out).2.1); rintro e w32 ⟨rfl, hb⟩; refine ⟨_, rfl, ?_⟩; have n0_ := Aside0.mk (Kd.R_below (by (with_reducible repeat (first | apply Kd.R_alloc | apply Kd.R_drewN | apply Kd.R_drew)); exact HO_1.out) hb); have n1_ := Aside0.mk (Kd.R_below (by (with_reducible repeat (first | apply Kd.R_alloc | apply Kd.R_drewN | apply Kd.R_drew)); exact HO_12.out) hb); have n2_ := Aside0.mk (below_step (by repeat (first | (with_reducible first | exact HB.out | apply below_alloc | apply pw_below_drewN | apply below_drew1) | exact HB.out)) hb); clear HO_1; clear HO_12; clear HB; have HO_1 := n0_; have HO_12 := n1_; have HB := n2_; clear n0_ n1_ n2_; (try clear hb); (try clear hb2); (try clear hk); (try clear hi)) | ((with_reducible refine gate_dst (N := 4) rfl ?_); (try (refine gate_guard (by rfl) ?_; dsimp only)); refine box_event ?hg (N := 4) ?hd (cs := #[.int .i64 0, .int .i64 0, .int .i64 0, .int .i64 0, .int .i64 0, .int .u8 0]) (t := 41) ?hr ?_; (case hd => rfl); (case hg => rfl); (case hr => first | (go_simp; done) | (go_simp; rfl)); intro gb212 hg w33 hbox hb; have n0_ := Aside0.mk (Kd.R_below (Kd.R_elderB (by (with_reducible repeat (first | apply Kd.R_alloc | apply Kd.R_drewN | apply Kd.R_drew)); exact HO_1.out) gb212 (Nat.le_of_eq hg.symm)) hb); have n1_ := Aside0.mk (Kd.R_below (by (with_reducible repeat (first | apply Kd.R_alloc | apply Kd.R_drewN | apply Kd.R_drew)); exact HO_12.out) hb); have n2_ := Aside0.mk (below_step (by repeat (first | (with_reducible first | exact HB.out | apply below_alloc | apply pw_below_drewN | apply below_drew1) | exact HB.out)) hb); have n3_ := Aside0.mk (hbox); have n4_ := Aside0.mk ((by rw [hg]; exact (below_size (by repeat (first | (with_reducible first | exact HB.out | apply below_alloc | apply pw_below_drewN | apply below_drew1) | exact HB.out))) : w.heap.size ≤ gb212)); have n5_ := Aside0.mk ((by rw [hg]; exact (below_size (by repeat (first | (with_reducible first | exact HB.out | apply below_alloc | apply pw_below_drewN | apply below_drew1) | exact HB.out))) : w.heap.size ≤ gb212)); clear HO_1; clear HO_12; clear HB; have HO_1 := n0_; have HO_12 := n1_; have HB := n2_; have BK212 := n3_; have GW212 := n4_; have GE212 := n5_; clear n0_ n1_ n2_ n3_ n4_ n5_; clear hb hbox hg; have hcz34_0 : w33.cell? ⟨gb212, 0, none⟩ = some (.int .i64 0) := (blk_cell BK212.out 0).trans rfl; have hcz34_1 : w33.cell? ⟨gb212, 1, none⟩ = some (.int .i64 0) := (blk_cell BK212.out 1).trans rfl; have hcz34_2 : w33.cell? ⟨gb212, 2, none⟩ = some (.int .i64 0) := (blk_cell BK212.out 2).trans rfl; have hcz34_3 : w33.cell? ⟨gb212, 3, none⟩ = some (.int .i64 0) := (blk_cell BK212.out 3).trans rfl; have hcz34_4 : w33.cell? ⟨gb212, 4, none⟩ = some (.int .i64 0) := (blk_cell BK212.out 4).trans rfl; have hcz34_5 : w33.cell? ⟨gb212, 5, none⟩ = some (.int .u8 0) := (blk_cell BK212.out 5).trans rfl; have hfz34_0 := blk_frozen BK212.out 0; have hfz34_1 := blk_frozen BK212.out 1; have hfz34_2 := blk_frozen BK212.out 2; have hfz34_3 := blk_frozen BK212.out 3; have hfz34_4 := blk_frozen BK212.out 4; have hfz34_5 := blk_frozen BK212.out 5) | ((with_reducible refine gate_dst (N := 25) rfl ?_); (try (refine gate_guard (by rfl) ?_; dsimp only)); refine Kd.R_lit (Kd.int .i64) _ 3 ?hg (N := 25) ?hd (xs := ([0, 1, 2, 3, 1] : List Int)) (inner := [.int .i64 0, .int .i64 1, .int .i64 2, .int .i64 3, .int .i64 1]) (ok := fun _ => True) (okp := fun _ => True) ?hr ?hp (fun _ hk => hk) trivial (Below.refl _ _) (Nat.le_refl _) (by simp) ?_; (case hd => rfl); (case hg => rfl); (case hr => first | (go_simp; done) | (go_simp; rfl)); (case hp => exact (Reps.one (show Kd.M (Kd.int .i64) _ _ _ 0 [.int .i64 0] from rfl) (Reps.one (show Kd.M (Kd.int .i64) _ _ _ 1 [.int .i64 1] from rfl) (Reps.one (show Kd.M (Kd.int .i64) _ _ _ 2 [.int .i64 2] from rfl) (Reps.one (show Kd.M (Kd.int .i64) _ _ _ 3 [.int .i64 3] from rfl) (Reps.one (show Kd.M (Kd.int .i64) _ _ _ 1 [.int .i64 1] from rfl) (Reps.none _ _))))))); intro v214 w35 ho36 hb hg_ hnew_; clear hg_ hnew_; (first | rw [← Ny213.out] at ho36 | (simp only [Int.reduceToNat] at ho36; rw [← Ny213.out] at ho36)); have n0_ := Aside0.mk (Kd.R_below (by (with_reducible repeat (first | apply Kd.R_alloc | apply Kd.R_drewN | apply Kd.R_drew)); exact (Kd.R_mono (Kd.R_far (p := ⟨gb212, 5, none⟩) (Kd.R_far (p := ⟨gb212, 4, none⟩) (Kd.R_far (p := ⟨gb212, 3, none⟩) (Kd.R_far (p := ⟨gb212, 2, none⟩) (Kd.R_far (p := ⟨gb212, 1, none⟩) (Kd.R_far (p := ⟨gb212, 0, none⟩) (Kd.R_mono HO_1.out (fun k_ hk => (⟨hk, hk.2⟩ : _ ∧ k_ ≠ gb212))) (fun _ hk => hk.2) (.int .i64 t205)) (fun _ hk => hk.2) (.int .i64 t206)) (fun _ hk => hk.2) (.int .i64 t207)) (fun _ hk => hk.2) (.int .i64 t208)) (fun _ hk => hk.2) (.int .i64 t209)) (fun _ hk => hk.2) (.int .u8 t210)) (fun _ h_ => h_.1))) hb); have n1_ := Aside0.mk (Kd.R_elder' (by (with_reducible repeat (first | apply Kd.R_alloc | apply Kd.R_drewN | apply Kd.R_drew)); exact (Kd.R_mono (Kd.R_far (p := ⟨gb212, 5, none⟩) (Kd.R_far (p := ⟨gb212, 4, none⟩) (Kd.R_far (p := ⟨gb212, 3, none⟩) (Kd.R_far (p := ⟨gb212, 2, none⟩) (Kd.R_far (p := ⟨gb212, 1, none⟩) (Kd.R_far (p := ⟨gb212, 0, none⟩) (Kd.R_types HO_12.out BK212.out (by decide)) (fun _ hk => hk.2) (.int .i64 t205)) (fun _ hk => hk.2) (.int .i64 t206)) (fun _ hk => hk.2) (.int .i64 t207)) (fun _ hk => hk.2) (.int .i64 t208)) (fun _ hk => hk.2) (.int .i64 t209)) (fun _ hk => hk.2) (.int .u8 t210)) (fun _ h_ => h_.1))) (Kd.R_base ho36) hb); have n2_ := Aside0.mk (Kd.R_lower (Kd.R_new' ho36 (Kd.R_lt (by (with_reducible repeat (first | apply Kd.R_alloc | apply Kd.R_drewN | apply Kd.R_drew)); exact (Kd.R_mono (Kd.R_far (p := ⟨gb212, 5, none⟩) (Kd.R_far (p := ⟨gb212, 4, none⟩) (Kd.R_far (p := ⟨gb212, 3, none⟩) (Kd.R_far (p := ⟨gb212, 2, none⟩) (Kd.R_far (p := ⟨gb212, 1, none⟩) (Kd.R_far (p := ⟨gb212, 0, none⟩) (Kd.R_types HO_12.out BK212.out (by decide)) (fun _ hk => hk.2) (.int .i64 t205)) (fun _ hk => hk.2) (.int .i64 t206)) (fun _ hk => hk.2) (.int .i64 t207)) (fun _ hk => hk.2) (.int .i64 t208)) (fun _ hk => hk.2) (.int .i64 t209)) (fun _ hk => hk.2) (.int .u8 t210)) (fun _ h_ => h_.1))))) (below_size (by repeat (first | (with_reducible first | exact HB.out | apply below_alloc | apply pw_below_drewN | apply below_drew1 | refine below_set ?_ GE212.out) | exact HB.out)))); have n3_ := Aside0.mk (blk_below (g := gb212) (o := .cells #[.int .i64 t205, .int .i64 t206, .int .i64 t207, .int .i64 t208, .int .i64 t209, .int .u8 t210] 41 (0, 0)) (by (with_reducible repeat (first | refine blk_drewN ?_ _ | refine blk_drew ?_ | refine blk_alloc ?_ _)); refine blk_put (cs := #[.int .i64 t205, .int .i64 t206, .int .i64 t207, .int .i64 t208, .int .i64 t209, .int .u8 0]) ?_ 5 _ rfl; (with_reducible repeat (first | refine blk_drewN ?_ _ | refine blk_drew ?_ | refine blk_alloc ?_ _)); refine blk_put (cs := #[.int .i64 t205, .int .i64 t206, .int .i64 t207, .int .i64 t208, .int .i64 0, .int .u8 0]) ?_ 4 _ rfl; (with_reducible repeat (first | refine blk_drewN ?_ _ | refine blk_drew ?_ | refine blk_alloc ?_ _)); refine blk_put (cs := #[.int .i64 t205, .int .i64 t206, .int .i64 t207, .int .i64 0, .int .i64 0, .int .u8 0]) ?_ 3 _ rfl; (with_reducible repeat (first | refine blk_drewN ?_ _ | refine blk_drew ?_ | refine blk_alloc ?_ _)); refine blk_put (cs := #[.int .i64 t205, .int .i64 t206, .int .i64 0, .int .i64 0, .int .i64 0, .int .u8 0]) ?_ 2 _ rfl; (with_reducible repeat (first | refine blk_drewN ?_ _ | refine blk_drew ?_ | refine blk_alloc ?_ _)); refine blk_put (cs := #[.int .i64 t205, .int .i64 0, .int .i64 0, .int .i64 0, .int .i64 0, .int .u8 0]) ?_ 1 _ rfl; (with_reducible repeat (first | refine blk_drewN ?_ _ | refine blk_drew ?_ | refine blk_alloc ?_ _)); refine blk_put (cs := #[.int .i64 0, .int .i64 0, .int .i64 0, .int .i64 0, .int .i64 0, .int .u8 0]) ?_ 0 _ rfl; (with_reducible repeat (first | refine blk_drewN ?_ _ | refine blk_drew ?_ | refine blk_alloc ?_ _)); exact BK212.out) hb); have n4_ := Aside0.mk (below_step (by repeat (first | (with_reducible first | exact HB.out | apply below_alloc | apply pw_below_drewN | apply below_drew1 | refine below_set ?_ GE212.out) | exact HB.out)) hb); clear HO_1; clear HO_12; clear BK212; clear HB; have HO_1 := n0_; have HO_12 := n1_; have HO215 := n2_; have BK212 := n3_; have HB := n4_; clear n0_ n1_ n2_ n3_ n4_; clear hb ho36; obtain ⟨Ao37, co37, eo37⟩ := Kd.R_slice HO215.out; subst eo37; have p216 : 0 ≤ (x14_1 : Int) := of_decide_eq_true (by first | (with_reducible assumption) | assumption); have q216 : x14_1 < (y213.length : Int) := of_decide_eq_true (by first | (with_reducible assumption) | assumption); obtain ⟨ad216, e216, hx216_0⟩ := Kd.at_int (Kd.R_reads' HO215.out).2.2 x14_1 p216 q216; cases e216; replace p216 := eq_true p216; replace q216 := eq_true q216; have hcz38_0 : w35.cell? ⟨gb212, 0, none⟩ = some (.int .i64 t205) := (blk_cell BK212.out 0).trans rfl; have hcz38_1 : w35.cell? ⟨gb212, 1, none⟩ = some (.int .i64 t206) := (blk_cell BK212.out 1).trans rfl; have hcz38_2 : w35.cell? ⟨gb212, 2, none⟩ = some (.int .i64 t207) := (blk_cell BK212.out 2).trans rfl; have hcz38_3 : w35.cell? ⟨gb212, 3, none⟩ = some (.int .i64 t208) := (blk_cell BK212.out 3).trans rfl; have hcz38_4 : w35.cell? ⟨gb212, 4, none⟩ = some (.int .i64 t209) := (blk_cell BK212.out 4).trans rfl; have hcz38_5 : w35.cell? ⟨gb212, 5, none⟩ = some (.int .u8 t210) := (blk_cell BK212.out 5).trans rfl; have hfz38_0 := blk_frozen BK212.out 0; have hfz38_1 := blk_frozen BK212.out 1; have hfz38_2 := blk_frozen BK212.out 2; have hfz38_3 := blk_frozen BK212.out 3; have hfz38_4 := blk_frozen BK212.out 4; have hfz38_5 := blk_frozen BK212.out 5))
                      go_roundg k1
                      case measure => have := HK1.out; omega
                      case rel => exact ⟨(wrap64 (x14_1 + 1)), (by first | rfl | (simp; done) | (simp [*]; done)), H', ⟨by have := HK1.out; omega⟩, ⟨by (with_reducible repeat (first | apply Kd.R_alloc | apply Kd.R_drewN | apply Kd.R_drew)); exact Kd.R_mono HO_1.out (fun _ hk => trivial)⟩, ⟨by (with_reducible repeat (first | apply Kd.R_alloc | apply Kd.R_drewN | apply Kd.R_drew)); exact Kd.R_mono HO_12.out (fun _ hk => trivial)⟩, ⟨by repeat (first | (with_reducible first | exact HB.out | apply below_alloc | apply pw_below_drewN | apply below_drew1 | refine below_set ?_ GE212.out) | exact HB.out)⟩⟩
                    · rw [if_neg c30] at H
                      have c30b0 : (t211 == 6) = false := beq_eq_false_iff_ne.mpr c30
                      have c30b1 : (t211 != 6) = true := bne_iff_ne.mpr c30
                      exact absurd (H.trans (congrArg some hr)) (by simp)
              · rw [if_neg c11] at H
                have c11b0 : (t205 == (rd y213 x14_1)) = false := beq_eq_false_iff_ne.mpr c11
                have c11b1 : (t205 != (rd y213 x14_1)) = true := bne_iff_ne.mpr c11
                exact absurd (H.trans (congrArg some hr)) (by simp)
            · rw [if_neg c10] at H
              exact absurd H (by simp)
          · rw [if_neg c8] at H
            exact absurd H (by simp)
        · rw [if_neg c7] at H
          exact absurd H (by simp)
      · rw [if_neg c6] at H
        have c6b0 : decide (x14_1 < (y201.length : Int)) = false := decide_eq_false c6
        clear c6
        replace H := Option.bind_eq_some_iff.mp H
        obtain ⟨⟨t217, t218⟩, A550, H⟩ := H
        replace H : ((order_Spans.f t198 7 0 40).bind fun bt221 => (if (wrap64 (t218 + bt221.2)) = 0 then (if (t217.length : Int) = 3 then (if 0 < (t217.length : Int) then (if 2 < (t198.length : Int) then (if (((rd_T41 t217 0).f0) == ((rd_T41 t198 2).f0) && (((rd_T41 t217 0).f1) == ((rd_T41 t198 2).f1) && (((rd_T41 t217 0).f2) == ((rd_T41 t198 2).f2) && (((rd_T41 t217 0).f3) == ((rd_T41 t198 2).f3) && (((rd_T41 t217 0).f4) == ((rd_T41 t198 2).f4) && (((rd_T41 t217 0).f5) == ((rd_T41 t198 2).f5))))))) = true then (if 1 < (t217.length : Int) then (if 1 < (t198.length : Int) then (if (((rd_T41 t217 1).f0) == ((rd_T41 t198 1).f0) && (((rd_T41 t217 1).f1) == ((rd_T41 t198 1).f1) && (((rd_T41 t217 1).f2) == ((rd_T41 t198 1).f2) && (((rd_T41 t217 1).f3) == ((rd_T41 t198 1).f3) && (((rd_T41 t217 1).f4) == ((rd_T41 t198 1).f4) && (((rd_T41 t217 1).f5) == ((rd_T41 t198 1).f5))))))) = true then (if 2 < (t217.length : Int) then (if 0 < (t198.length : Int) then (if (((rd_T41 t217 2).f0) == ((rd_T41 t198 0).f0) && (((rd_T41 t217 2).f1) == ((rd_T41 t198 0).f1) && (((rd_T41 t217 2).f2) == ((rd_T41 t198 0).f2) && (((rd_T41 t217 2).f3) == ((rd_T41 t198 0).f3) && (((rd_T41 t217 2).f4) == ((rd_T41 t198 0).f4) && (((rd_T41 t217 2).f5) == ((rd_T41 t198 0).f5))))))) = true then ((letterbaglaw35_sameSpans.f k1 bt221.1 (([(⟨0, 9, 0⟩ : S54), (⟨10, 19, 1⟩ : S54), (⟨20, 24, 2⟩ : S54), (⟨25, 26, 3⟩ : S54), (⟨27, 29, 2⟩ : S54), (⟨30, 40, 1⟩ : S54)] : List (S54)))).bind fun t234 => (some t234)) else (some false)) else (none)) else (none)) else (some false)) else (none)) else (none)) else (some false)) else (none)) else (none)) else (some false)) else (some false))) = some r := H
        have A55 := Aside0.mk A550
        clear A550
        replace H := Option.bind_eq_some_iff.mp H
        obtain ⟨⟨t221, t222⟩, A560, H⟩ := H
        replace H : (if (wrap64 (t218 + t222)) = 0 then (if (t217.length : Int) = 3 then (if 0 < (t217.length : Int) then (if 2 < (t198.length : Int) then (if (((rd_T41 t217 0).f0) == ((rd_T41 t198 2).f0) && (((rd_T41 t217 0).f1) == ((rd_T41 t198 2).f1) && (((rd_T41 t217 0).f2) == ((rd_T41 t198 2).f2) && (((rd_T41 t217 0).f3) == ((rd_T41 t198 2).f3) && (((rd_T41 t217 0).f4) == ((rd_T41 t198 2).f4) && (((rd_T41 t217 0).f5) == ((rd_T41 t198 2).f5))))))) = true then (if 1 < (t217.length : Int) then (if 1 < (t198.length : Int) then (if (((rd_T41 t217 1).f0) == ((rd_T41 t198 1).f0) && (((rd_T41 t217 1).f1) == ((rd_T41 t198 1).f1) && (((rd_T41 t217 1).f2) == ((rd_T41 t198 1).f2) && (((rd_T41 t217 1).f3) == ((rd_T41 t198 1).f3) && (((rd_T41 t217 1).f4) == ((rd_T41 t198 1).f4) && (((rd_T41 t217 1).f5) == ((rd_T41 t198 1).f5))))))) = true then (if 2 < (t217.length : Int) then (if 0 < (t198.length : Int) then (if (((rd_T41 t217 2).f0) == ((rd_T41 t198 0).f0) && (((rd_T41 t217 2).f1) == ((rd_T41 t198 0).f1) && (((rd_T41 t217 2).f2) == ((rd_T41 t198 0).f2) && (((rd_T41 t217 2).f3) == ((rd_T41 t198 0).f3) && (((rd_T41 t217 2).f4) == ((rd_T41 t198 0).f4) && (((rd_T41 t217 2).f5) == ((rd_T41 t198 0).f5))))))) = true then ((letterbaglaw35_sameSpans.f k1 t221 (([(⟨0, 9, 0⟩ : S54), (⟨10, 19, 1⟩ : S54), (⟨20, 24, 2⟩ : S54), (⟨25, 26, 3⟩ : S54), (⟨27, 29, 2⟩ : S54), (⟨30, 40, 1⟩ : S54)] : List (S54)))).bind fun t234 => (some t234)) else (some false)) else (none)) else (none)) else (some false)) else (none)) else (none)) else (some false)) else (none)) else (none)) else (some false)) else (some false)) = some r := H
        have A56 := Aside0.mk A560
        clear A560
        by_cases c57 : (wrap64 (t218 + t222)) = 0
        · rw [if_pos c57] at H
          have c57b0 : ((wrap64 (t218 + t222)) == 0) = true := beq_iff_eq.mpr c57
          have c57b1 : ((wrap64 (t218 + t222)) != 0) = false := bne_eq_false_iff_eq.mpr c57
          clear c57
          by_cases c58 : (t217.length : Int) = 3
          · rw [if_pos c58] at H
            have c58b0 : ((t217.length : Int) == 3) = true := beq_iff_eq.mpr c58
            have c58b1 : ((t217.length : Int) != 3) = false := bne_eq_false_iff_eq.mpr c58
            clear c58
            by_cases c59 : 0 < (t217.length : Int)
            · rw [if_pos c59] at H
              have c59b0 : decide (0 < (t217.length : Int)) = true := decide_eq_true c59
              have c59b1 : decide (0 < t217.length) = true := decide_eq_true (by omega)
              clear c59
              by_cases c60 : 2 < (t198.length : Int)
              · rw [if_pos c60] at H
                have c60b0 : decide (2 < (t198.length : Int)) = true := decide_eq_true c60
                have c60b1 : decide (2 < t198.length) = true := decide_eq_true (by omega)
                clear c60
                by_cases c61 : (((rd_T41 t217 0).f0) == ((rd_T41 t198 2).f0) && (((rd_T41 t217 0).f1) == ((rd_T41 t198 2).f1) && (((rd_T41 t217 0).f2) == ((rd_T41 t198 2).f2) && (((rd_T41 t217 0).f3) == ((rd_T41 t198 2).f3) && (((rd_T41 t217 0).f4) == ((rd_T41 t198 2).f4) && (((rd_T41 t217 0).f5) == ((rd_T41 t198 2).f5))))))) = true
                · rw [if_pos c61] at H
                  have c61b0 : (((rd_T41 t217 0).f0) == ((rd_T41 t198 2).f0) && (((rd_T41 t217 0).f1) == ((rd_T41 t198 2).f1) && (((rd_T41 t217 0).f2) == ((rd_T41 t198 2).f2) && (((rd_T41 t217 0).f3) == ((rd_T41 t198 2).f3) && (((rd_T41 t217 0).f4) == ((rd_T41 t198 2).f4) && (((rd_T41 t217 0).f5) == ((rd_T41 t198 2).f5))))))) = true := c61
                  (try (have c61b1 : decide (((rd_T41 t217 0).f0) = ((rd_T41 t198 2).f0) && (((rd_T41 t217 0).f1) == ((rd_T41 t198 2).f1) && (((rd_T41 t217 0).f2) == ((rd_T41 t198 2).f2) && (((rd_T41 t217 0).f3) == ((rd_T41 t198 2).f3) && (((rd_T41 t217 0).f4) == ((rd_T41 t198 2).f4) && (((rd_T41 t217 0).f5) == ((rd_T41 t198 2).f5))))))) = true := by simpa using c61))
                  (try (have c61b2 : (((rd_T41 t217 0).f0) == ((rd_T41 t198 2).f0) && (((rd_T41 t217 0).f1) == ((rd_T41 t198 2).f1) && (((rd_T41 t217 0).f2) == ((rd_T41 t198 2).f2) && (((rd_T41 t217 0).f3) == ((rd_T41 t198 2).f3) && (((rd_T41 t217 0).f4) == ((rd_T41 t198 2).f4) && (((rd_T41 t217 0).f5) == ((rd_T41 t198 2).f5))))))) = true := by simpa using c61))
                  clear c61
                  by_cases c62 : 1 < (t217.length : Int)
                  · rw [if_pos c62] at H
                    have c62b0 : decide (1 < (t217.length : Int)) = true := decide_eq_true c62
                    have c62b1 : decide (1 < t217.length) = true := decide_eq_true (by omega)
                    clear c62
                    by_cases c63 : 1 < (t198.length : Int)
                    · rw [if_pos c63] at H
                      have c63b0 : decide (1 < (t198.length : Int)) = true := decide_eq_true c63
                      have c63b1 : decide (1 < t198.length) = true := decide_eq_true (by omega)
                      clear c63
                      by_cases c64 : (((rd_T41 t217 1).f0) == ((rd_T41 t198 1).f0) && (((rd_T41 t217 1).f1) == ((rd_T41 t198 1).f1) && (((rd_T41 t217 1).f2) == ((rd_T41 t198 1).f2) && (((rd_T41 t217 1).f3) == ((rd_T41 t198 1).f3) && (((rd_T41 t217 1).f4) == ((rd_T41 t198 1).f4) && (((rd_T41 t217 1).f5) == ((rd_T41 t198 1).f5))))))) = true
                      · rw [if_pos c64] at H
                        have c64b0 : (((rd_T41 t217 1).f0) == ((rd_T41 t198 1).f0) && (((rd_T41 t217 1).f1) == ((rd_T41 t198 1).f1) && (((rd_T41 t217 1).f2) == ((rd_T41 t198 1).f2) && (((rd_T41 t217 1).f3) == ((rd_T41 t198 1).f3) && (((rd_T41 t217 1).f4) == ((rd_T41 t198 1).f4) && (((rd_T41 t217 1).f5) == ((rd_T41 t198 1).f5))))))) = true := c64
                        (try (have c64b1 : decide (((rd_T41 t217 1).f0) = ((rd_T41 t198 1).f0) && (((rd_T41 t217 1).f1) == ((rd_T41 t198 1).f1) && (((rd_T41 t217 1).f2) == ((rd_T41 t198 1).f2) && (((rd_T41 t217 1).f3) == ((rd_T41 t198 1).f3) && (((rd_T41 t217 1).f4) == ((rd_T41 t198 1).f4) && (((rd_T41 t217 1).f5) == ((rd_T41 t198 1).f5))))))) = true := by simpa using c64))
                        (try (have c64b2 : (((rd_T41 t217 1).f0) == ((rd_T41 t198 1).f0) && (((rd_T41 t217 1).f1) == ((rd_T41 t198 1).f1) && (((rd_T41 t217 1).f2) == ((rd_T41 t198 1).f2) && (((rd_T41 t217 1).f3) == ((rd_T41 t198 1).f3) && (((rd_T41 t217 1).f4) == ((rd_T41 t198 1).f4) && (((rd_T41 t217 1).f5) == ((rd_T41 t198 1).f5))))))) = true := by simpa using c64))
                        clear c64
                        by_cases c65 : 2 < (t217.length : Int)
                        · rw [if_pos c65] at H
                          have c65b0 : decide (2 < (t217.length : Int)) = true := decide_eq_true c65
                          have c65b1 : decide (2 < t217.length) = true := decide_eq_true (by omega)
                          clear c65
                          by_cases c66 : 0 < (t198.length : Int)
                          · rw [if_pos c66] at H
                            have c66b0 : decide (0 < (t198.length : Int)) = true := decide_eq_true c66
                            have c66b1 : decide (0 < t198.length) = true := decide_eq_true (by omega)
                            clear c66
                            by_cases c67 : (((rd_T41 t217 2).f0) == ((rd_T41 t198 0).f0) && (((rd_T41 t217 2).f1) == ((rd_T41 t198 0).f1) && (((rd_T41 t217 2).f2) == ((rd_T41 t198 0).f2) && (((rd_T41 t217 2).f3) == ((rd_T41 t198 0).f3) && (((rd_T41 t217 2).f4) == ((rd_T41 t198 0).f4) && (((rd_T41 t217 2).f5) == ((rd_T41 t198 0).f5))))))) = true
                            · rw [if_pos c67] at H
                              have c67b0 : (((rd_T41 t217 2).f0) == ((rd_T41 t198 0).f0) && (((rd_T41 t217 2).f1) == ((rd_T41 t198 0).f1) && (((rd_T41 t217 2).f2) == ((rd_T41 t198 0).f2) && (((rd_T41 t217 2).f3) == ((rd_T41 t198 0).f3) && (((rd_T41 t217 2).f4) == ((rd_T41 t198 0).f4) && (((rd_T41 t217 2).f5) == ((rd_T41 t198 0).f5))))))) = true := c67
                              (try (have c67b1 : decide (((rd_T41 t217 2).f0) = ((rd_T41 t198 0).f0) && (((rd_T41 t217 2).f1) == ((rd_T41 t198 0).f1) && (((rd_T41 t217 2).f2) == ((rd_T41 t198 0).f2) && (((rd_T41 t217 2).f3) == ((rd_T41 t198 0).f3) && (((rd_T41 t217 2).f4) == ((rd_T41 t198 0).f4) && (((rd_T41 t217 2).f5) == ((rd_T41 t198 0).f5))))))) = true := by simpa using c67))
                              (try (have c67b2 : (((rd_T41 t217 2).f0) == ((rd_T41 t198 0).f0) && (((rd_T41 t217 2).f1) == ((rd_T41 t198 0).f1) && (((rd_T41 t217 2).f2) == ((rd_T41 t198 0).f2) && (((rd_T41 t217 2).f3) == ((rd_T41 t198 0).f3) && (((rd_T41 t217 2).f4) == ((rd_T41 t198 0).f4) && (((rd_T41 t217 2).f5) == ((rd_T41 t198 0).f5))))))) = true := by simpa using c67))
                              clear c67
                              obtain ⟨y231, hy231⟩ : ∃ y_ : List (S54), y_ = (([(⟨0, 9, 0⟩ : S54), (⟨10, 19, 1⟩ : S54), (⟨20, 24, 2⟩ : S54), (⟨25, 26, 3⟩ : S54), (⟨27, 29, 2⟩ : S54), (⟨30, 40, 1⟩ : S54)] : List (S54))) := ⟨_, rfl⟩
                              replace H : ((letterbaglaw35_sameSpans.f k1 t221 y231).bind fun t234 => (some t234)) = some r := by first | (rw [hy231]; with_reducible exact H) | (have H2_ := (Option.bind_some _ _).symm.trans H; rw [hy231]; with_reducible exact H2_) | (have H2_ := (Option.bind_some _ _).symm.trans H; with_reducible exact H2_) | with_reducible exact H | (rw [hy231]; exact H) | exact H
                              have Ny231 := Aside0.mk hy231
                              clear hy231
                              replace H := Option.bind_eq_some_iff.mp H
                              obtain ⟨t234, A680, H⟩ := H
                              replace H : (some t234) = some r := H
                              have A68 := Aside0.mk A680
                              clear A680
                              obtain rfl := Option.some.inj H
                              obtain ⟨Ao69, co69, eo69⟩ := Kd.R_slice HO_1.out
                              subst eo69
                              try go_wp2_with (first | ((with_reducible refine gate_callee (f := 26) rfl ?_); refine goesL_ (some 51) rfl rfl Try.func26 (by kernel_rfl) rfl #[.slice Ao69 t198.length co69, .int .i64 7, .int .i64 25] rfl (by (try simp only [List.map_toArray, List.map_cons, List.map_nil]); first | done | rfl | (simp only [List.length_drop, List.length_take]; rfl)) ?_; (with_reducible refine (order_All.calls _ _ t198 7 25 t217 t218 _ ?side1 ?side2 A55.out).mono ?_); (case side1 => repeat (first | exact (Kd.R_reads' HO_1.out).2.2 | (with_reducible refine Kd.C_alloc ?_ _) | (with_reducible refine Kd.C_drewN ?_ _) | (with_reducible refine Kd.C_drew ?_))); (case side2 => exact (Kd.R_reads' HO_1.out).2.1); rintro e w70 ⟨v219, rfl, ho0, hb⟩; refine ⟨_, rfl, ?_⟩; have n0_ := Aside0.mk (Kd.R_elder' (by (with_reducible repeat (first | apply Kd.R_alloc | apply Kd.R_drewN | apply Kd.R_drew)); exact HO_1.out) (Kd.R_base ho0) hb); have n1_ := Aside0.mk (Kd.R_below (by (with_reducible repeat (first | apply Kd.R_alloc | apply Kd.R_drewN | apply Kd.R_drew)); exact HO_12.out) hb); have n2_ := Aside0.mk (Kd.R_lower (Kd.R_new' ho0 (Kd.R_lt (by (with_reducible repeat (first | apply Kd.R_alloc | apply Kd.R_drewN | apply Kd.R_drew)); exact HO_1.out))) (below_size (by repeat (first | (with_reducible first | exact HB.out | apply below_alloc | apply pw_below_drewN | apply below_drew1) | exact HB.out)))); have n3_ := Aside0.mk (below_step (by repeat (first | (with_reducible first | exact HB.out | apply below_alloc | apply pw_below_drewN | apply below_drew1) | exact HB.out)) hb); clear HO_1; clear HO_12; clear HB; have HO_1 := n0_; have HO_12 := n1_; have HO220 := n2_; have HB := n3_; clear n0_ n1_ n2_ n3_; (try clear hb); (try clear hb2); (try clear hk); (try clear hi); (try clear ho0)) | ((with_reducible refine gate_callee (f := 28) rfl ?_); refine goesL_ (some 56) rfl rfl Try.func28 (by kernel_rfl) rfl #[.slice Ao69 t198.length co69, .int .i64 7, .int .i64 0, .int .i64 40] rfl (by (try simp only [List.map_toArray, List.map_cons, List.map_nil]); first | done | rfl | (simp only [List.length_drop, List.length_take]; rfl)) ?_; (with_reducible refine (order_Spans.calls _ _ t198 7 0 40 t221 t222 _ ?side1 ?side2 A56.out).mono ?_); (case side1 => repeat (first | exact (Kd.R_reads' HO_1.out).2.2 | (with_reducible refine Kd.C_alloc ?_ _) | (with_reducible refine Kd.C_drewN ?_ _) | (with_reducible refine Kd.C_drew ?_))); (case side2 => exact (Kd.R_reads' HO_1.out).2.1); rintro e w71 ⟨v223, rfl, ho0, hb⟩; refine ⟨_, rfl, ?_⟩; have n0_ := Aside0.mk (Kd.R_below (by (with_reducible repeat (first | apply Kd.R_alloc | apply Kd.R_drewN | apply Kd.R_drew)); exact HO_1.out) hb); have n1_ := Aside0.mk (Kd.R_below (by (with_reducible repeat (first | apply Kd.R_alloc | apply Kd.R_drewN | apply Kd.R_drew)); exact HO_12.out) hb); have n2_ := Aside0.mk (Kd.R_below (by (with_reducible repeat (first | apply Kd.R_alloc | apply Kd.R_drewN | apply Kd.R_drew)); exact HO220.out) hb); have n3_ := Aside0.mk (Kd.R_lower ho0 (below_size (by repeat (first | (with_reducible first | exact HB.out | apply below_alloc | apply pw_below_drewN | apply below_drew1) | exact HB.out)))); have n4_ := Aside0.mk (below_step (by repeat (first | (with_reducible first | exact HB.out | apply below_alloc | apply pw_below_drewN | apply below_drew1) | exact HB.out)) hb); clear HO_1; clear HO_12; clear HO220; clear HB; have HO_1 := n0_; have HO_12 := n1_; have HO220 := n2_; have HO224 := n3_; have HB := n4_; clear n0_ n1_ n2_ n3_ n4_; (try clear hb); (try clear hb2); (try clear hk); (try clear hi); (try clear ho0)))
                              have n0_ := Aside0.mk (Kd.R_drew HO_1.out)
                              have n1_ := Aside0.mk (Kd.R_drew HO_12.out)
                              have n2_ := Aside0.mk (Kd.R_drew HO220.out)
                              have n3_ := Aside0.mk (Kd.R_drew HO224.out)
                              have n4_ := Aside0.mk (below_drew1 HB.out)
                              clear HO_1
                              clear HO_12
                              clear HO220
                              clear HO224
                              clear HB
                              have HO_1 := n0_
                              have HO_12 := n1_
                              have HO220 := n2_
                              have HO224 := n3_
                              have HB := n4_
                              clear n0_ n1_ n2_ n3_ n4_
                              obtain ⟨Ao73, co73, eo73⟩ := Kd.R_slice HO220.out
                              (first | subst eo73 | (injection eo73 with f1_ f2_ f3_; have f4_ := f1_.symm; have f5_ := f3_.symm; clear f1_ f2_ f3_; subst f4_; subst f5_))
                              have p225 : 0 ≤ (0 : Int) := (by omega)
                              have q225 : 0 < (t217.length : Int) := of_decide_eq_true (by first | (with_reducible assumption) | assumption)
                              obtain ⟨ad225, e225, hx225_0, hx225_1, hx225_2, hx225_3, hx225_4, hx225_5⟩ := at_T41 (Kd.R_reads' HO220.out).2.2 0 p225 q225
                              cases e225
                              have qi225 : (0 < t217.length) = True := eq_true (by omega)
                              (try rw [show ((0 : Int)).toNat = 0 from rfl] at hx225_0)
                              (try rw [show 0 * 6 = 0 from rfl] at hx225_0)
                              (try rw [Addr.add_zero'] at hx225_0)
                              (try rw [show ((0 : Int)).toNat = 0 from rfl] at hx225_1)
                              (try rw [show 0 * 6 = 0 from rfl] at hx225_1)
                              (try rw [Addr.add_zero'] at hx225_1)
                              (try rw [show ((0 : Int)).toNat = 0 from rfl] at hx225_2)
                              (try rw [show 0 * 6 = 0 from rfl] at hx225_2)
                              (try rw [Addr.add_zero'] at hx225_2)
                              (try rw [show ((0 : Int)).toNat = 0 from rfl] at hx225_3)
                              (try rw [show 0 * 6 = 0 from rfl] at hx225_3)
                              (try rw [Addr.add_zero'] at hx225_3)
                              (try rw [show ((0 : Int)).toNat = 0 from rfl] at hx225_4)
                              (try rw [show 0 * 6 = 0 from rfl] at hx225_4)
                              (try rw [Addr.add_zero'] at hx225_4)
                              (try rw [show ((0 : Int)).toNat = 0 from rfl] at hx225_5)
                              (try rw [show 0 * 6 = 0 from rfl] at hx225_5)
                              (try rw [Addr.add_zero'] at hx225_5)
                              replace p225 := eq_true p225
                              replace q225 := eq_true q225
                              have p226 : 0 ≤ (2 : Int) := (by omega)
                              have q226 : 2 < (t198.length : Int) := of_decide_eq_true (by first | (with_reducible assumption) | assumption)
                              obtain ⟨ad226, e226, hx226_0, hx226_1, hx226_2, hx226_3, hx226_4, hx226_5⟩ := at_T41 (Kd.R_reads' HO_1.out).2.2 2 p226 q226
                              cases e226
                              (try simp only [show (2 : Int).toNat = 2 from rfl, Nat.reduceMul, Nat.reduceEqDiff, Go.Addr.add, ↓reduceIte] at hx226_0)
                              (try simp only [show (2 : Int).toNat = 2 from rfl, Nat.reduceMul, Nat.reduceEqDiff, Go.Addr.add, ↓reduceIte] at hx226_1)
                              (try simp only [show (2 : Int).toNat = 2 from rfl, Nat.reduceMul, Nat.reduceEqDiff, Go.Addr.add, ↓reduceIte] at hx226_2)
                              (try simp only [show (2 : Int).toNat = 2 from rfl, Nat.reduceMul, Nat.reduceEqDiff, Go.Addr.add, ↓reduceIte] at hx226_3)
                              (try simp only [show (2 : Int).toNat = 2 from rfl, Nat.reduceMul, Nat.reduceEqDiff, Go.Addr.add, ↓reduceIte] at hx226_4)
                              (try simp only [show (2 : Int).toNat = 2 from rfl, Nat.reduceMul, Nat.reduceEqDiff, Go.Addr.add, ↓reduceIte] at hx226_5)
                              have qi226 : (2 < t198.length) = True := eq_true (by omega)
                              (try rw [show ((2 : Int)).toNat = 2 from rfl] at hx226_0)
                              (try rw [show 2 * 6 = 12 from rfl] at hx226_0)
                              (try rw [show ((2 : Int)).toNat = 2 from rfl] at hx226_1)
                              (try rw [show 2 * 6 = 12 from rfl] at hx226_1)
                              (try rw [show ((2 : Int)).toNat = 2 from rfl] at hx226_2)
                              (try rw [show 2 * 6 = 12 from rfl] at hx226_2)
                              (try rw [show ((2 : Int)).toNat = 2 from rfl] at hx226_3)
                              (try rw [show 2 * 6 = 12 from rfl] at hx226_3)
                              (try rw [show ((2 : Int)).toNat = 2 from rfl] at hx226_4)
                              (try rw [show 2 * 6 = 12 from rfl] at hx226_4)
                              (try rw [show ((2 : Int)).toNat = 2 from rfl] at hx226_5)
                              (try rw [show 2 * 6 = 12 from rfl] at hx226_5)
                              replace p226 := eq_true p226
                              replace q226 := eq_true q226
                              have p227 : 0 ≤ (1 : Int) := (by omega)
                              have q227 : 1 < (t217.length : Int) := of_decide_eq_true (by first | (with_reducible assumption) | assumption)
                              obtain ⟨ad227, e227, hx227_0, hx227_1, hx227_2, hx227_3, hx227_4, hx227_5⟩ := at_T41 (Kd.R_reads' HO220.out).2.2 1 p227 q227
                              obtain rfl : ad225 = ad227 := (by injection e227)
                              (try simp only [show (1 : Int).toNat = 1 from rfl, Nat.reduceMul, Nat.reduceEqDiff, Go.Addr.add, ↓reduceIte] at hx227_0)
                              (try simp only [show (1 : Int).toNat = 1 from rfl, Nat.reduceMul, Nat.reduceEqDiff, Go.Addr.add, ↓reduceIte] at hx227_1)
                              (try simp only [show (1 : Int).toNat = 1 from rfl, Nat.reduceMul, Nat.reduceEqDiff, Go.Addr.add, ↓reduceIte] at hx227_2)
                              (try simp only [show (1 : Int).toNat = 1 from rfl, Nat.reduceMul, Nat.reduceEqDiff, Go.Addr.add, ↓reduceIte] at hx227_3)
                              (try simp only [show (1 : Int).toNat = 1 from rfl, Nat.reduceMul, Nat.reduceEqDiff, Go.Addr.add, ↓reduceIte] at hx227_4)
                              (try simp only [show (1 : Int).toNat = 1 from rfl, Nat.reduceMul, Nat.reduceEqDiff, Go.Addr.add, ↓reduceIte] at hx227_5)
                              have qi227 : (1 < t217.length) = True := eq_true (by omega)
                              (try rw [show ((1 : Int)).toNat = 1 from rfl] at hx227_0)
                              (try rw [show 1 * 6 = 6 from rfl] at hx227_0)
                              (try rw [show ((1 : Int)).toNat = 1 from rfl] at hx227_1)
                              (try rw [show 1 * 6 = 6 from rfl] at hx227_1)
                              (try rw [show ((1 : Int)).toNat = 1 from rfl] at hx227_2)
                              (try rw [show 1 * 6 = 6 from rfl] at hx227_2)
                              (try rw [show ((1 : Int)).toNat = 1 from rfl] at hx227_3)
                              (try rw [show 1 * 6 = 6 from rfl] at hx227_3)
                              (try rw [show ((1 : Int)).toNat = 1 from rfl] at hx227_4)
                              (try rw [show 1 * 6 = 6 from rfl] at hx227_4)
                              (try rw [show ((1 : Int)).toNat = 1 from rfl] at hx227_5)
                              (try rw [show 1 * 6 = 6 from rfl] at hx227_5)
                              replace p227 := eq_true p227
                              replace q227 := eq_true q227
                              have p228 : 0 ≤ (1 : Int) := (by omega)
                              have q228 : 1 < (t198.length : Int) := of_decide_eq_true (by first | (with_reducible assumption) | assumption)
                              obtain ⟨ad228, e228, hx228_0, hx228_1, hx228_2, hx228_3, hx228_4, hx228_5⟩ := at_T41 (Kd.R_reads' HO_1.out).2.2 1 p228 q228
                              obtain rfl : ad226 = ad228 := (by injection e228)
                              (try simp only [show (1 : Int).toNat = 1 from rfl, Nat.reduceMul, Nat.reduceEqDiff, Go.Addr.add, ↓reduceIte] at hx228_0)
                              (try simp only [show (1 : Int).toNat = 1 from rfl, Nat.reduceMul, Nat.reduceEqDiff, Go.Addr.add, ↓reduceIte] at hx228_1)
                              (try simp only [show (1 : Int).toNat = 1 from rfl, Nat.reduceMul, Nat.reduceEqDiff, Go.Addr.add, ↓reduceIte] at hx228_2)
                              (try simp only [show (1 : Int).toNat = 1 from rfl, Nat.reduceMul, Nat.reduceEqDiff, Go.Addr.add, ↓reduceIte] at hx228_3)
                              (try simp only [show (1 : Int).toNat = 1 from rfl, Nat.reduceMul, Nat.reduceEqDiff, Go.Addr.add, ↓reduceIte] at hx228_4)
                              (try simp only [show (1 : Int).toNat = 1 from rfl, Nat.reduceMul, Nat.reduceEqDiff, Go.Addr.add, ↓reduceIte] at hx228_5)
                              have qi228 : (1 < t198.length) = True := eq_true (by omega)
                              (try rw [show ((1 : Int)).toNat = 1 from rfl] at hx228_0)
                              (try rw [show 1 * 6 = 6 from rfl] at hx228_0)
                              (try rw [show ((1 : Int)).toNat = 1 from rfl] at hx228_1)
                              (try rw [show 1 * 6 = 6 from rfl] at hx228_1)
                              (try rw [show ((1 : Int)).toNat = 1 from rfl] at hx228_2)
                              (try rw [show 1 * 6 = 6 from rfl] at hx228_2)
                              (try rw [show ((1 : Int)).toNat = 1 from rfl] at hx228_3)
                              (try rw [show 1 * 6 = 6 from rfl] at hx228_3)
                              (try rw [show ((1 : Int)).toNat = 1 from rfl] at hx228_4)
                              (try rw [show 1 * 6 = 6 from rfl] at hx228_4)
                              (try rw [show ((1 : Int)).toNat = 1 from rfl] at hx228_5)
                              (try rw [show 1 * 6 = 6 from rfl] at hx228_5)
                              replace p228 := eq_true p228
                              replace q228 := eq_true q228
                              have p229 : 0 ≤ (2 : Int) := (by omega)
                              have q229 : 2 < (t217.length : Int) := of_decide_eq_true (by first | (with_reducible assumption) | assumption)
                              obtain ⟨ad229, e229, hx229_0, hx229_1, hx229_2, hx229_3, hx229_4, hx229_5⟩ := at_T41 (Kd.R_reads' HO220.out).2.2 2 p229 q229
                              obtain rfl : ad225 = ad229 := (by injection e229)
                              (try simp only [show (2 : Int).toNat = 2 from rfl, Nat.reduceMul, Nat.reduceEqDiff, Go.Addr.add, ↓reduceIte] at hx229_0)
                              (try simp only [show (2 : Int).toNat = 2 from rfl, Nat.reduceMul, Nat.reduceEqDiff, Go.Addr.add, ↓reduceIte] at hx229_1)
                              (try simp only [show (2 : Int).toNat = 2 from rfl, Nat.reduceMul, Nat.reduceEqDiff, Go.Addr.add, ↓reduceIte] at hx229_2)
                              (try simp only [show (2 : Int).toNat = 2 from rfl, Nat.reduceMul, Nat.reduceEqDiff, Go.Addr.add, ↓reduceIte] at hx229_3)
                              (try simp only [show (2 : Int).toNat = 2 from rfl, Nat.reduceMul, Nat.reduceEqDiff, Go.Addr.add, ↓reduceIte] at hx229_4)
                              (try simp only [show (2 : Int).toNat = 2 from rfl, Nat.reduceMul, Nat.reduceEqDiff, Go.Addr.add, ↓reduceIte] at hx229_5)
                              have qi229 : (2 < t217.length) = True := eq_true (by omega)
                              (try rw [show ((2 : Int)).toNat = 2 from rfl] at hx229_0)
                              (try rw [show 2 * 6 = 12 from rfl] at hx229_0)
                              (try rw [show ((2 : Int)).toNat = 2 from rfl] at hx229_1)
                              (try rw [show 2 * 6 = 12 from rfl] at hx229_1)
                              (try rw [show ((2 : Int)).toNat = 2 from rfl] at hx229_2)
                              (try rw [show 2 * 6 = 12 from rfl] at hx229_2)
                              (try rw [show ((2 : Int)).toNat = 2 from rfl] at hx229_3)
                              (try rw [show 2 * 6 = 12 from rfl] at hx229_3)
                              (try rw [show ((2 : Int)).toNat = 2 from rfl] at hx229_4)
                              (try rw [show 2 * 6 = 12 from rfl] at hx229_4)
                              (try rw [show ((2 : Int)).toNat = 2 from rfl] at hx229_5)
                              (try rw [show 2 * 6 = 12 from rfl] at hx229_5)
                              replace p229 := eq_true p229
                              replace q229 := eq_true q229
                              have p230 : 0 ≤ (0 : Int) := (by omega)
                              have q230 : 0 < (t198.length : Int) := of_decide_eq_true (by first | (with_reducible assumption) | assumption)
                              obtain ⟨ad230, e230, hx230_0, hx230_1, hx230_2, hx230_3, hx230_4, hx230_5⟩ := at_T41 (Kd.R_reads' HO_1.out).2.2 0 p230 q230
                              obtain rfl : ad226 = ad230 := (by injection e230)
                              have qi230 : (0 < t198.length) = True := eq_true (by omega)
                              (try rw [show ((0 : Int)).toNat = 0 from rfl] at hx230_0)
                              (try rw [show 0 * 6 = 0 from rfl] at hx230_0)
                              (try rw [Addr.add_zero'] at hx230_0)
                              (try rw [show ((0 : Int)).toNat = 0 from rfl] at hx230_1)
                              (try rw [show 0 * 6 = 0 from rfl] at hx230_1)
                              (try rw [Addr.add_zero'] at hx230_1)
                              (try rw [show ((0 : Int)).toNat = 0 from rfl] at hx230_2)
                              (try rw [show 0 * 6 = 0 from rfl] at hx230_2)
                              (try rw [Addr.add_zero'] at hx230_2)
                              (try rw [show ((0 : Int)).toNat = 0 from rfl] at hx230_3)
                              (try rw [show 0 * 6 = 0 from rfl] at hx230_3)
                              (try rw [Addr.add_zero'] at hx230_3)
                              (try rw [show ((0 : Int)).toNat = 0 from rfl] at hx230_4)
                              (try rw [show 0 * 6 = 0 from rfl] at hx230_4)
                              (try rw [Addr.add_zero'] at hx230_4)
                              (try rw [show ((0 : Int)).toNat = 0 from rfl] at hx230_5)
                              (try rw [show 0 * 6 = 0 from rfl] at hx230_5)
                              (try rw [Addr.add_zero'] at hx230_5)
                              replace p230 := eq_true p230
                              replace q230 := eq_true q230
                              refine start_ (n := 48) (S := fun w' => w'.cell? ad225 = some (.int .i64 ((rd_T41 t217 0).f0)) ∧ w'.cell? ⟨ad225.block, ad225.off + 1, none⟩ = some (.int .i64 ((rd_T41 t217 0).f1)) ∧ w'.cell? ⟨ad225.block, ad225.off + 2, none⟩ = some (.int .i64 ((rd_T41 t217 0).f2)) ∧ w'.cell? ⟨ad225.block, ad225.off + 3, none⟩ = some (.int .i64 ((rd_T41 t217 0).f3)) ∧ w'.cell? ⟨ad225.block, ad225.off + 4, none⟩ = some (.int .i64 ((rd_T41 t217 0).f4)) ∧ w'.cell? ⟨ad225.block, ad225.off + 5, none⟩ = some (.int .u8 ((rd_T41 t217 0).f5)) ∧ w'.cell? ⟨ad226.block, ad226.off + 12, none⟩ = some (.int .i64 ((rd_T41 t198 2).f0)) ∧ w'.cell? ⟨ad226.block, ad226.off + 12 + 1, none⟩ = some (.int .i64 ((rd_T41 t198 2).f1)) ∧ w'.cell? ⟨ad226.block, ad226.off + 12 + 2, none⟩ = some (.int .i64 ((rd_T41 t198 2).f2)) ∧ w'.cell? ⟨ad226.block, ad226.off + 12 + 3, none⟩ = some (.int .i64 ((rd_T41 t198 2).f3)) ∧ w'.cell? ⟨ad226.block, ad226.off + 12 + 4, none⟩ = some (.int .i64 ((rd_T41 t198 2).f4)) ∧ w'.cell? ⟨ad226.block, ad226.off + 12 + 5, none⟩ = some (.int .u8 ((rd_T41 t198 2).f5)) ∧ w'.cell? ⟨ad225.block, ad225.off + 6, none⟩ = some (.int .i64 ((rd_T41 t217 1).f0)) ∧ w'.cell? ⟨ad225.block, ad225.off + 6 + 1, none⟩ = some (.int .i64 ((rd_T41 t217 1).f1)) ∧ w'.cell? ⟨ad225.block, ad225.off + 6 + 2, none⟩ = some (.int .i64 ((rd_T41 t217 1).f2)) ∧ w'.cell? ⟨ad225.block, ad225.off + 6 + 3, none⟩ = some (.int .i64 ((rd_T41 t217 1).f3)) ∧ w'.cell? ⟨ad225.block, ad225.off + 6 + 4, none⟩ = some (.int .i64 ((rd_T41 t217 1).f4)) ∧ w'.cell? ⟨ad225.block, ad225.off + 6 + 5, none⟩ = some (.int .u8 ((rd_T41 t217 1).f5)) ∧ w'.cell? ⟨ad226.block, ad226.off + 6, none⟩ = some (.int .i64 ((rd_T41 t198 1).f0)) ∧ w'.cell? ⟨ad226.block, ad226.off + 6 + 1, none⟩ = some (.int .i64 ((rd_T41 t198 1).f1)) ∧ w'.cell? ⟨ad226.block, ad226.off + 6 + 2, none⟩ = some (.int .i64 ((rd_T41 t198 1).f2)) ∧ w'.cell? ⟨ad226.block, ad226.off + 6 + 3, none⟩ = some (.int .i64 ((rd_T41 t198 1).f3)) ∧ w'.cell? ⟨ad226.block, ad226.off + 6 + 4, none⟩ = some (.int .i64 ((rd_T41 t198 1).f4)) ∧ w'.cell? ⟨ad226.block, ad226.off + 6 + 5, none⟩ = some (.int .u8 ((rd_T41 t198 1).f5)) ∧ w'.cell? ⟨ad225.block, ad225.off + 12, none⟩ = some (.int .i64 ((rd_T41 t217 2).f0)) ∧ w'.cell? ⟨ad225.block, ad225.off + 12 + 1, none⟩ = some (.int .i64 ((rd_T41 t217 2).f1)) ∧ w'.cell? ⟨ad225.block, ad225.off + 12 + 2, none⟩ = some (.int .i64 ((rd_T41 t217 2).f2)) ∧ w'.cell? ⟨ad225.block, ad225.off + 12 + 3, none⟩ = some (.int .i64 ((rd_T41 t217 2).f3)) ∧ w'.cell? ⟨ad225.block, ad225.off + 12 + 4, none⟩ = some (.int .i64 ((rd_T41 t217 2).f4)) ∧ w'.cell? ⟨ad225.block, ad225.off + 12 + 5, none⟩ = some (.int .u8 ((rd_T41 t217 2).f5)) ∧ w'.cell? ad226 = some (.int .i64 ((rd_T41 t198 0).f0)) ∧ w'.cell? ⟨ad226.block, ad226.off + 1, none⟩ = some (.int .i64 ((rd_T41 t198 0).f1)) ∧ w'.cell? ⟨ad226.block, ad226.off + 2, none⟩ = some (.int .i64 ((rd_T41 t198 0).f2)) ∧ w'.cell? ⟨ad226.block, ad226.off + 3, none⟩ = some (.int .i64 ((rd_T41 t198 0).f3)) ∧ w'.cell? ⟨ad226.block, ad226.off + 4, none⟩ = some (.int .i64 ((rd_T41 t198 0).f4)) ∧ w'.cell? ⟨ad226.block, ad226.off + 5, none⟩ = some (.int .u8 ((rd_T41 t198 0).f5))) (ds := []) #[false, false, false, false, false, false, false, false, false, false, false, false, false, false, false, false, false, false, false, false, false, false, false, false, false, false, false, false, false, false, false, false, false, false, false, false, false, false, false, false, false, false, false, false, false, false, false, false] (by kernel_rfl) rfl rfl ⟨hx225_0, hx225_1, hx225_2, hx225_3, hx225_4, hx225_5, hx226_0, hx226_1, hx226_2, hx226_3, hx226_4, hx226_5, hx227_0, hx227_1, hx227_2, hx227_3, hx227_4, hx227_5, hx228_0, hx228_1, hx228_2, hx228_3, hx228_4, hx228_5, hx229_0, hx229_1, hx229_2, hx229_3, hx229_4, hx229_5, hx230_0, hx230_1, hx230_2, hx230_3, hx230_4, hx230_5⟩ (fun hHeld => ?_); refine with_tabW awakeP.tab12 awakeP.bits12 (fun HT_ HW_ => ?_)
                              generalize w71.drew = w72 at HO_1 HO_12 HO220 HO224 HB hx225_0 hx225_1 hx225_2 hx225_3 hx225_4 hx225_5 hx226_0 hx226_1 hx226_2 hx226_3 hx226_4 hx226_5 hx227_0 hx227_1 hx227_2 hx227_3 hx227_4 hx227_5 hx228_0 hx228_1 hx228_2 hx228_3 hx228_4 hx228_5 hx229_0 hx229_1 hx229_2 hx229_3 hx229_4 hx229_5 hx230_0 hx230_1 hx230_2 hx230_3 hx230_4 hx230_5 hHeld ⊢
                              refine pure_ (i := 0) (N := some 59) (v := ?_) (a' := ?_) #[true, false, false, false, false, false, false, false, false, false, false, false, false, false, false, false, false, false, false, false, false, false, false, false, false, false, false, false, false, false, false, false, false, false, false, false, false, false, false, false, false, false, false, false, false, false, false, false] rfl rfl (any_of HT_.out (by kernel_rfl)) (fun _ _ _ h => h) (Or.inl ⟨by rfl, ?_⟩) ?_ ?_
                              rotate_left
                              · intro w'
                                go_simp
                                with_reducible rfl
                              rotate_left
                              · simp only [Act.put, List.setIfInBounds_toArray, List.set_cons_zero, List.set_cons_succ, i64_w, i32_w]
                                rfl
                              refine pure_ (i := 1) (N := some 60) (v := ?_) (a' := ?_) #[true, true, false, false, false, false, false, false, false, false, false, false, false, false, false, false, false, false, false, false, false, false, false, false, false, false, false, false, false, false, false, false, false, false, false, false, false, false, false, false, false, false, false, false, false, false, false, false] rfl rfl (any_of HT_.out (by kernel_rfl)) (fun _ _ _ h => h) (Or.inl ⟨by rfl, ?_⟩) ?_ ?_
                              rotate_left
                              · intro w'
                                go_simp
                                with_reducible rfl
                              rotate_left
                              · simp only [Act.put, List.setIfInBounds_toArray, List.set_cons_zero, List.set_cons_succ, i64_w, i32_w]
                                rfl
                              refine pure_ (i := 2) (N := some 61) (v := ?_) (a' := ?_) #[true, true, true, false, false, false, false, false, false, false, false, false, false, false, false, false, false, false, false, false, false, false, false, false, false, false, false, false, false, false, false, false, false, false, false, false, false, false, false, false, false, false, false, false, false, false, false, false] rfl rfl (any_of HT_.out (by kernel_rfl)) (fun _ _ _ h => h) (Or.inl ⟨by rfl, ?_⟩) ?_ ?_
                              rotate_left
                              · intro w'
                                go_simp
                                with_reducible rfl
                              rotate_left
                              · simp only [Act.put, List.setIfInBounds_toArray, List.set_cons_zero, List.set_cons_succ, i64_w, i32_w]
                                rfl
                              refine pure_ (i := 3) (N := some 62) (v := ?_) (a' := ?_) #[true, true, true, true, false, false, false, false, false, false, false, false, false, false, false, false, false, false, false, false, false, false, false, false, false, false, false, false, false, false, false, false, false, false, false, false, false, false, false, false, false, false, false, false, false, false, false, false] rfl rfl (any_of HT_.out (by kernel_rfl)) (fun _ _ _ h => h) (Or.inl ⟨by rfl, ?_⟩) ?_ ?_
                              rotate_left
                              · intro w'
                                go_simp
                                with_reducible rfl
                              rotate_left
                              · simp only [Act.put, List.setIfInBounds_toArray, List.set_cons_zero, List.set_cons_succ, i64_w, i32_w]
                                rfl
                              refine pure_ (i := 4) (N := some 63) (v := ?_) (a' := ?_) #[true, true, true, true, true, false, false, false, false, false, false, false, false, false, false, false, false, false, false, false, false, false, false, false, false, false, false, false, false, false, false, false, false, false, false, false, false, false, false, false, false, false, false, false, false, false, false, false] rfl rfl (any_of HT_.out (by kernel_rfl)) (fun _ _ _ h => h) (Or.inl ⟨by rfl, ?_⟩) ?_ ?_
                              rotate_left
                              · intro w'
                                go_simp
                                with_reducible rfl
                              rotate_left
                              · simp only [Act.put, List.setIfInBounds_toArray, List.set_cons_zero, List.set_cons_succ, i64_w, i32_w]
                                rfl
                              refine pure_ (i := 5) (N := some 64) (v := ?_) (a' := ?_) #[true, true, true, true, true, true, false, false, false, false, false, false, false, false, false, false, false, false, false, false, false, false, false, false, false, false, false, false, false, false, false, false, false, false, false, false, false, false, false, false, false, false, false, false, false, false, false, false] rfl rfl (any_of HT_.out (by kernel_rfl)) (fun _ _ _ h => h) (Or.inl ⟨by rfl, ?_⟩) ?_ ?_
                              rotate_left
                              · intro w'
                                go_simp
                                with_reducible rfl
                              rotate_left
                              · simp only [Act.put, List.setIfInBounds_toArray, List.set_cons_zero, List.set_cons_succ, i64_w, i32_w]
                                rfl
                              refine pure_ (i := 6) (N := some 65) (v := ?_) (a' := ?_) #[true, true, true, true, true, true, true, false, false, false, false, false, false, false, false, false, false, false, false, false, false, false, false, false, false, false, false, false, false, false, false, false, false, false, false, false, false, false, false, false, false, false, false, false, false, false, false, false] rfl rfl (any_of HT_.out (by kernel_rfl)) (fun _ _ _ h => h) (Or.inl ⟨by rfl, ?_⟩) ?_ ?_
                              rotate_left
                              · intro w'
                                go_simp
                                with_reducible rfl
                              rotate_left
                              · simp only [Act.put, List.setIfInBounds_toArray, List.set_cons_zero, List.set_cons_succ, i64_w, i32_w]
                                rfl
                              refine pure_ (i := 7) (N := some 66) (v := ?_) (a' := ?_) #[true, true, true, true, true, true, true, true, false, false, false, false, false, false, false, false, false, false, false, false, false, false, false, false, false, false, false, false, false, false, false, false, false, false, false, false, false, false, false, false, false, false, false, false, false, false, false, false] rfl rfl (any_of HT_.out (by kernel_rfl)) (fun _ _ _ h => h) (Or.inl ⟨by rfl, ?_⟩) ?_ ?_
                              rotate_left
                              · intro w'
                                go_simp
                                with_reducible rfl
                              rotate_left
                              · simp only [Act.put, List.setIfInBounds_toArray, List.set_cons_zero, List.set_cons_succ, i64_w, i32_w]
                                rfl
                              refine pure_ (i := 8) (N := some 67) (v := ?_) (a' := ?_) #[true, true, true, true, true, true, true, true, true, false, false, false, false, false, false, false, false, false, false, false, false, false, false, false, false, false, false, false, false, false, false, false, false, false, false, false, false, false, false, false, false, false, false, false, false, false, false, false] rfl rfl (any_of HT_.out (by kernel_rfl)) (fun _ _ _ h => h) (Or.inl ⟨by rfl, ?_⟩) ?_ ?_
                              rotate_left
                              · intro w'
                                go_simp
                                with_reducible rfl
                              rotate_left
                              · simp only [Act.put, List.setIfInBounds_toArray, List.set_cons_zero, List.set_cons_succ, i64_w, i32_w]
                                rfl
                              refine pure_ (i := 9) (N := some 68) (v := ?_) (a' := ?_) #[true, true, true, true, true, true, true, true, true, true, false, false, false, false, false, false, false, false, false, false, false, false, false, false, false, false, false, false, false, false, false, false, false, false, false, false, false, false, false, false, false, false, false, false, false, false, false, false] rfl rfl (any_of HT_.out (by kernel_rfl)) (fun _ _ _ h => h) (Or.inl ⟨by rfl, ?_⟩) ?_ ?_
                              rotate_left
                              · intro w'
                                go_simp
                                with_reducible rfl
                              rotate_left
                              · simp only [Act.put, List.setIfInBounds_toArray, List.set_cons_zero, List.set_cons_succ, i64_w, i32_w]
                                rfl
                              refine pure_ (i := 10) (N := some 69) (v := ?_) (a' := ?_) #[true, true, true, true, true, true, true, true, true, true, true, false, false, false, false, false, false, false, false, false, false, false, false, false, false, false, false, false, false, false, false, false, false, false, false, false, false, false, false, false, false, false, false, false, false, false, false, false] rfl rfl (any_of HT_.out (by kernel_rfl)) (fun _ _ _ h => h) (Or.inl ⟨by rfl, ?_⟩) ?_ ?_
                              rotate_left
                              · intro w'
                                go_simp
                                with_reducible rfl
                              rotate_left
                              · simp only [Act.put, List.setIfInBounds_toArray, List.set_cons_zero, List.set_cons_succ, i64_w, i32_w]
                                rfl
                              refine pure_ (i := 11) (N := some 70) (v := ?_) (a' := ?_) #[true, true, true, true, true, true, true, true, true, true, true, true, false, false, false, false, false, false, false, false, false, false, false, false, false, false, false, false, false, false, false, false, false, false, false, false, false, false, false, false, false, false, false, false, false, false, false, false] rfl rfl (any_of HT_.out (by kernel_rfl)) (fun _ _ _ h => h) (Or.inl ⟨by rfl, ?_⟩) ?_ ?_
                              rotate_left
                              · intro w'
                                go_simp
                                with_reducible rfl
                              rotate_left
                              · simp only [Act.put, List.setIfInBounds_toArray, List.set_cons_zero, List.set_cons_succ, i64_w, i32_w]
                                rfl
                              refine pure_ (i := 13) (N := some 72) (v := ?_) (a' := ?_) #[true, true, true, true, true, true, true, true, true, true, true, true, false, true, false, false, false, false, false, false, false, false, false, false, false, false, false, false, false, false, false, false, false, false, false, false, false, false, false, false, false, false, false, false, false, false, false, false] rfl rfl (any_of HT_.out (by kernel_rfl)) (fun _ _ _ h => h) (Or.inl ⟨by rfl, ?_⟩) ?_ ?_
                              rotate_left
                              · intro w'
                                go_simp
                                with_reducible rfl
                              rotate_left
                              · simp only [Act.put, List.setIfInBounds_toArray, List.set_cons_zero, List.set_cons_succ, i64_w, i32_w]
                                rfl
                              refine pure_ (i := 14) (N := some 73) (v := ?_) (a' := ?_) #[true, true, true, true, true, true, true, true, true, true, true, true, false, true, true, false, false, false, false, false, false, false, false, false, false, false, false, false, false, false, false, false, false, false, false, false, false, false, false, false, false, false, false, false, false, false, false, false] rfl rfl (any_of HT_.out (by kernel_rfl)) (fun _ _ _ h => h) (Or.inl ⟨by rfl, ?_⟩) ?_ ?_
                              rotate_left
                              · intro w'
                                go_simp
                                with_reducible rfl
                              rotate_left
                              · simp only [Act.put, List.setIfInBounds_toArray, List.set_cons_zero, List.set_cons_succ, i64_w, i32_w]
                                rfl
                              refine take_ (i := 12) (N := some 71) (v := ?_) (a' := ?_) #[true, true, true, true, true, true, true, true, true, true, true, true, true, true, true, false, false, false, false, false, false, false, false, false, false, false, false, false, false, false, false, false, false, false, false, false, false, false, false, false, false, false, false, false, false, false, false, false] rfl rfl (take_ofW HT_.out HW_.out (by kernel_rfl)) (fun _ _ _ h => h) (Or.inl ⟨by rfl, ?_⟩) hHeld ?_ ?_
                              rotate_left
                              · rintro w' ⟨s0, s1, s2, s3, s4, s5, s6, s7, s8, s9, s10, s11, s12, s13, s14, s15, s16, s17, s18, s19, s20, s21, s22, s23, s24, s25, s26, s27, s28, s29, s30, s31, s32, s33, s34, s35⟩
                                go_simp
                                with_reducible rfl
                              rotate_left
                              · simp only [Act.put, List.setIfInBounds_toArray, List.set_cons_zero, List.set_cons_succ, i64_w, i32_w]
                                rfl
                              refine take_ (i := 15) (N := some 74) (v := ?_) (a' := ?_) #[true, true, true, true, true, true, true, true, true, true, true, true, true, true, true, true, false, false, false, false, false, false, false, false, false, false, false, false, false, false, false, false, false, false, false, false, false, false, false, false, false, false, false, false, false, false, false, false] rfl rfl (take_ofW HT_.out HW_.out (by kernel_rfl)) (fun _ _ _ h => h) (Or.inl ⟨by rfl, ?_⟩) hHeld ?_ ?_
                              rotate_left
                              · rintro w' ⟨s0, s1, s2, s3, s4, s5, s6, s7, s8, s9, s10, s11, s12, s13, s14, s15, s16, s17, s18, s19, s20, s21, s22, s23, s24, s25, s26, s27, s28, s29, s30, s31, s32, s33, s34, s35⟩
                                go_simp
                                with_reducible rfl
                              rotate_left
                              · simp only [Act.put, List.setIfInBounds_toArray, List.set_cons_zero, List.set_cons_succ, i64_w, i32_w]
                                rfl
                              refine pure_ (i := 16) (N := some 75) (v := ?_) (a' := ?_) #[true, true, true, true, true, true, true, true, true, true, true, true, true, true, true, true, true, false, false, false, false, false, false, false, false, false, false, false, false, false, false, false, false, false, false, false, false, false, false, false, false, false, false, false, false, false, false, false] rfl rfl (any_of HT_.out (by kernel_rfl)) (fun _ _ _ h => h) (Or.inl ⟨by rfl, ?_⟩) ?_ ?_
                              rotate_left
                              · intro w'
                                go_simp
                                with_reducible rfl
                              rotate_left
                              · simp only [Act.put, List.setIfInBounds_toArray, List.set_cons_zero, List.set_cons_succ, i64_w, i32_w]
                                rfl
                              refine pure_ (i := 17) (N := some 76) (v := ?_) (a' := ?_) #[true, true, true, true, true, true, true, true, true, true, true, true, true, true, true, true, true, true, false, false, false, false, false, false, false, false, false, false, false, false, false, false, false, false, false, false, false, false, false, false, false, false, false, false, false, false, false, false] rfl rfl (any_of HT_.out (by kernel_rfl)) (fun _ _ _ h => h) (Or.inl ⟨by rfl, ?_⟩) ?_ ?_
                              rotate_left
                              · intro w'
                                go_simp
                                with_reducible rfl
                              rotate_left
                              · simp only [Act.put, List.setIfInBounds_toArray, List.set_cons_zero, List.set_cons_succ, i64_w, i32_w]
                                rfl
                              refine pure_ (i := 18) (N := some 77) (v := ?_) (a' := ?_) #[true, true, true, true, true, true, true, true, true, true, true, true, true, true, true, true, true, true, true, false, false, false, false, false, false, false, false, false, false, false, false, false, false, false, false, false, false, false, false, false, false, false, false, false, false, false, false, false] rfl rfl (any_of HT_.out (by kernel_rfl)) (fun _ _ _ h => h) (Or.inl ⟨by rfl, ?_⟩) ?_ ?_
                              rotate_left
                              · intro w'
                                go_simp
                                with_reducible rfl
                              rotate_left
                              · simp only [Act.put, List.setIfInBounds_toArray, List.set_cons_zero, List.set_cons_succ, i64_w, i32_w]
                                rfl
                              refine pure_ (i := 19) (N := some 78) (v := ?_) (a' := ?_) #[true, true, true, true, true, true, true, true, true, true, true, true, true, true, true, true, true, true, true, true, false, false, false, false, false, false, false, false, false, false, false, false, false, false, false, false, false, false, false, false, false, false, false, false, false, false, false, false] rfl rfl (any_of HT_.out (by kernel_rfl)) (fun _ _ _ h => h) (Or.inl ⟨by rfl, ?_⟩) ?_ ?_
                              rotate_left
                              · intro w'
                                go_simp
                                with_reducible rfl
                              rotate_left
                              · simp only [Act.put, List.setIfInBounds_toArray, List.set_cons_zero, List.set_cons_succ, i64_w, i32_w]
                                rfl
                              refine pure_ (i := 20) (N := some 79) (v := ?_) (a' := ?_) #[true, true, true, true, true, true, true, true, true, true, true, true, true, true, true, true, true, true, true, true, true, false, false, false, false, false, false, false, false, false, false, false, false, false, false, false, false, false, false, false, false, false, false, false, false, false, false, false] rfl rfl (any_of HT_.out (by kernel_rfl)) (fun _ _ _ h => h) (Or.inl ⟨by rfl, ?_⟩) ?_ ?_
                              rotate_left
                              · intro w'
                                go_simp
                                with_reducible rfl
                              rotate_left
                              · simp only [Act.put, List.setIfInBounds_toArray, List.set_cons_zero, List.set_cons_succ, i64_w, i32_w]
                                rfl
                              refine pure_ (i := 22) (N := some 81) (v := ?_) (a' := ?_) #[true, true, true, true, true, true, true, true, true, true, true, true, true, true, true, true, true, true, true, true, true, false, true, false, false, false, false, false, false, false, false, false, false, false, false, false, false, false, false, false, false, false, false, false, false, false, false, false] rfl rfl (any_of HT_.out (by kernel_rfl)) (fun _ _ _ h => h) (Or.inl ⟨by rfl, ?_⟩) ?_ ?_
                              rotate_left
                              · intro w'
                                go_simp
                                with_reducible rfl
                              rotate_left
                              · simp only [Act.put, List.setIfInBounds_toArray, List.set_cons_zero, List.set_cons_succ, i64_w, i32_w]
                                rfl
                              refine pure_ (i := 23) (N := some 82) (v := ?_) (a' := ?_) #[true, true, true, true, true, true, true, true, true, true, true, true, true, true, true, true, true, true, true, true, true, false, true, true, false, false, false, false, false, false, false, false, false, false, false, false, false, false, false, false, false, false, false, false, false, false, false, false] rfl rfl (any_of HT_.out (by kernel_rfl)) (fun _ _ _ h => h) (Or.inl ⟨by rfl, ?_⟩) ?_ ?_
                              rotate_left
                              · intro w'
                                go_simp
                                with_reducible rfl
                              rotate_left
                              · simp only [Act.put, List.setIfInBounds_toArray, List.set_cons_zero, List.set_cons_succ, i64_w, i32_w]
                                rfl
                              refine take_ (i := 21) (N := some 80) (v := ?_) (a' := ?_) #[true, true, true, true, true, true, true, true, true, true, true, true, true, true, true, true, true, true, true, true, true, true, true, true, false, false, false, false, false, false, false, false, false, false, false, false, false, false, false, false, false, false, false, false, false, false, false, false] rfl rfl (take_ofW HT_.out HW_.out (by kernel_rfl)) (fun _ _ _ h => h) (Or.inl ⟨by rfl, ?_⟩) hHeld ?_ ?_
                              rotate_left
                              · rintro w' ⟨s0, s1, s2, s3, s4, s5, s6, s7, s8, s9, s10, s11, s12, s13, s14, s15, s16, s17, s18, s19, s20, s21, s22, s23, s24, s25, s26, s27, s28, s29, s30, s31, s32, s33, s34, s35⟩
                                go_simp
                                with_reducible rfl
                              rotate_left
                              · simp only [Act.put, List.setIfInBounds_toArray, List.set_cons_zero, List.set_cons_succ, i64_w, i32_w]
                                rfl
                              refine take_ (i := 24) (N := some 83) (v := ?_) (a' := ?_) #[true, true, true, true, true, true, true, true, true, true, true, true, true, true, true, true, true, true, true, true, true, true, true, true, true, false, false, false, false, false, false, false, false, false, false, false, false, false, false, false, false, false, false, false, false, false, false, false] rfl rfl (take_ofW HT_.out HW_.out (by kernel_rfl)) (fun _ _ _ h => h) (Or.inl ⟨by rfl, ?_⟩) hHeld ?_ ?_
                              rotate_left
                              · rintro w' ⟨s0, s1, s2, s3, s4, s5, s6, s7, s8, s9, s10, s11, s12, s13, s14, s15, s16, s17, s18, s19, s20, s21, s22, s23, s24, s25, s26, s27, s28, s29, s30, s31, s32, s33, s34, s35⟩
                                go_simp
                                with_reducible rfl
                              rotate_left
                              · simp only [Act.put, List.setIfInBounds_toArray, List.set_cons_zero, List.set_cons_succ, i64_w, i32_w]
                                rfl
                              refine pure_ (i := 25) (N := some 84) (v := ?_) (a' := ?_) #[true, true, true, true, true, true, true, true, true, true, true, true, true, true, true, true, true, true, true, true, true, true, true, true, true, true, false, false, false, false, false, false, false, false, false, false, false, false, false, false, false, false, false, false, false, false, false, false] rfl rfl (any_of HT_.out (by kernel_rfl)) (fun _ _ _ h => h) (Or.inl ⟨by rfl, ?_⟩) ?_ ?_
                              rotate_left
                              · intro w'
                                go_simp
                                with_reducible rfl
                              rotate_left
                              · simp only [Act.put, List.setIfInBounds_toArray, List.set_cons_zero, List.set_cons_succ, i64_w, i32_w]
                                rfl
                              refine pure_ (i := 26) (N := some 85) (v := ?_) (a' := ?_) #[true, true, true, true, true, true, true, true, true, true, true, true, true, true, true, true, true, true, true, true, true, true, true, true, true, true, true, false, false, false, false, false, false, false, false, false, false, false, false, false, false, false, false, false, false, false, false, false] rfl rfl (any_of HT_.out (by kernel_rfl)) (fun _ _ _ h => h) (Or.inl ⟨by rfl, ?_⟩) ?_ ?_
                              rotate_left
                              · intro w'
                                go_simp
                                with_reducible rfl
                              rotate_left
                              · simp only [Act.put, List.setIfInBounds_toArray, List.set_cons_zero, List.set_cons_succ, i64_w, i32_w]
                                rfl
                              refine pure_ (i := 27) (N := some 86) (v := ?_) (a' := ?_) #[true, true, true, true, true, true, true, true, true, true, true, true, true, true, true, true, true, true, true, true, true, true, true, true, true, true, true, true, false, false, false, false, false, false, false, false, false, false, false, false, false, false, false, false, false, false, false, false] rfl rfl (any_of HT_.out (by kernel_rfl)) (fun _ _ _ h => h) (Or.inl ⟨by rfl, ?_⟩) ?_ ?_
                              rotate_left
                              · intro w'
                                go_simp
                                with_reducible rfl
                              rotate_left
                              · simp only [Act.put, List.setIfInBounds_toArray, List.set_cons_zero, List.set_cons_succ, i64_w, i32_w]
                                rfl
                              refine pure_ (i := 28) (N := some 87) (v := ?_) (a' := ?_) #[true, true, true, true, true, true, true, true, true, true, true, true, true, true, true, true, true, true, true, true, true, true, true, true, true, true, true, true, true, false, false, false, false, false, false, false, false, false, false, false, false, false, false, false, false, false, false, false] rfl rfl (any_of HT_.out (by kernel_rfl)) (fun _ _ _ h => h) (Or.inl ⟨by rfl, ?_⟩) ?_ ?_
                              rotate_left
                              · intro w'
                                go_simp
                                with_reducible rfl
                              rotate_left
                              · simp only [Act.put, List.setIfInBounds_toArray, List.set_cons_zero, List.set_cons_succ, i64_w, i32_w]
                                rfl
                              refine pure_ (i := 29) (N := some 88) (v := ?_) (a' := ?_) #[true, true, true, true, true, true, true, true, true, true, true, true, true, true, true, true, true, true, true, true, true, true, true, true, true, true, true, true, true, true, false, false, false, false, false, false, false, false, false, false, false, false, false, false, false, false, false, false] rfl rfl (any_of HT_.out (by kernel_rfl)) (fun _ _ _ h => h) (Or.inl ⟨by rfl, ?_⟩) ?_ ?_
                              rotate_left
                              · intro w'
                                go_simp
                                with_reducible rfl
                              rotate_left
                              · simp only [Act.put, List.setIfInBounds_toArray, List.set_cons_zero, List.set_cons_succ, i64_w, i32_w]
                                rfl
                              refine pure_ (i := 31) (N := some 90) (v := ?_) (a' := ?_) #[true, true, true, true, true, true, true, true, true, true, true, true, true, true, true, true, true, true, true, true, true, true, true, true, true, true, true, true, true, true, false, true, false, false, false, false, false, false, false, false, false, false, false, false, false, false, false, false] rfl rfl (any_of HT_.out (by kernel_rfl)) (fun _ _ _ h => h) (Or.inl ⟨by rfl, ?_⟩) ?_ ?_
                              rotate_left
                              · intro w'
                                go_simp
                                with_reducible rfl
                              rotate_left
                              · simp only [Act.put, List.setIfInBounds_toArray, List.set_cons_zero, List.set_cons_succ, i64_w, i32_w]
                                rfl
                              refine pure_ (i := 32) (N := some 91) (v := ?_) (a' := ?_) #[true, true, true, true, true, true, true, true, true, true, true, true, true, true, true, true, true, true, true, true, true, true, true, true, true, true, true, true, true, true, false, true, true, false, false, false, false, false, false, false, false, false, false, false, false, false, false, false] rfl rfl (any_of HT_.out (by kernel_rfl)) (fun _ _ _ h => h) (Or.inl ⟨by rfl, ?_⟩) ?_ ?_
                              rotate_left
                              · intro w'
                                go_simp
                                with_reducible rfl
                              rotate_left
                              · simp only [Act.put, List.setIfInBounds_toArray, List.set_cons_zero, List.set_cons_succ, i64_w, i32_w]
                                rfl
                              refine take_ (i := 30) (N := some 89) (v := ?_) (a' := ?_) #[true, true, true, true, true, true, true, true, true, true, true, true, true, true, true, true, true, true, true, true, true, true, true, true, true, true, true, true, true, true, true, true, true, false, false, false, false, false, false, false, false, false, false, false, false, false, false, false] rfl rfl (take_ofW HT_.out HW_.out (by kernel_rfl)) (fun _ _ _ h => h) (Or.inl ⟨by rfl, ?_⟩) hHeld ?_ ?_
                              rotate_left
                              · rintro w' ⟨s0, s1, s2, s3, s4, s5, s6, s7, s8, s9, s10, s11, s12, s13, s14, s15, s16, s17, s18, s19, s20, s21, s22, s23, s24, s25, s26, s27, s28, s29, s30, s31, s32, s33, s34, s35⟩
                                go_simp
                                with_reducible rfl
                              rotate_left
                              · simp only [Act.put, List.setIfInBounds_toArray, List.set_cons_zero, List.set_cons_succ, i64_w, i32_w]
                                rfl
                              refine take_ (i := 33) (N := some 92) (v := ?_) (a' := ?_) #[true, true, true, true, true, true, true, true, true, true, true, true, true, true, true, true, true, true, true, true, true, true, true, true, true, true, true, true, true, true, true, true, true, true, false, false, false, false, false, false, false, false, false, false, false, false, false, false] rfl rfl (take_ofW HT_.out HW_.out (by kernel_rfl)) (fun _ _ _ h => h) (Or.inl ⟨by rfl, ?_⟩) hHeld ?_ ?_
                              rotate_left
                              · rintro w' ⟨s0, s1, s2, s3, s4, s5, s6, s7, s8, s9, s10, s11, s12, s13, s14, s15, s16, s17, s18, s19, s20, s21, s22, s23, s24, s25, s26, s27, s28, s29, s30, s31, s32, s33, s34, s35⟩
                                go_simp
                                with_reducible rfl
                              rotate_left
                              · simp only [Act.put, List.setIfInBounds_toArray, List.set_cons_zero, List.set_cons_succ, i64_w, i32_w]
                                rfl
                              refine pure_ (i := 34) (N := some 93) (v := ?_) (a' := ?_) #[true, true, true, true, true, true, true, true, true, true, true, true, true, true, true, true, true, true, true, true, true, true, true, true, true, true, true, true, true, true, true, true, true, true, true, false, false, false, false, false, false, false, false, false, false, false, false, false] rfl rfl (any_of HT_.out (by kernel_rfl)) (fun _ _ _ h => h) (Or.inl ⟨by rfl, ?_⟩) ?_ ?_
                              rotate_left
                              · intro w'
                                go_simp
                                with_reducible rfl
                              rotate_left
                              · simp only [Act.put, List.setIfInBounds_toArray, List.set_cons_zero, List.set_cons_succ, i64_w, i32_w]
                                rfl
                              refine pure_ (i := 35) (N := some 94) (v := ?_) (a' := ?_) #[true, true, true, true, true, true, true, true, true, true, true, true, true, true, true, true, true, true, true, true, true, true, true, true, true, true, true, true, true, true, true, true, true, true, true, true, false, false, false, false, false, false, false, false, false, false, false, false] rfl rfl (any_of HT_.out (by kernel_rfl)) (fun _ _ _ h => h) (Or.inl ⟨by rfl, ?_⟩) ?_ ?_
                              rotate_left
                              · intro w'
                                go_simp
                                with_reducible rfl
                              rotate_left
                              · simp only [Act.put, List.setIfInBounds_toArray, List.set_cons_zero, List.set_cons_succ, i64_w, i32_w]
                                rfl
                              refine pure_ (i := 36) (N := some 95) (v := ?_) (a' := ?_) #[true, true, true, true, true, true, true, true, true, true, true, true, true, true, true, true, true, true, true, true, true, true, true, true, true, true, true, true, true, true, true, true, true, true, true, true, true, false, false, false, false, false, false, false, false, false, false, false] rfl rfl (any_of HT_.out (by kernel_rfl)) (fun _ _ _ h => h) (Or.inl ⟨by rfl, ?_⟩) ?_ ?_
                              rotate_left
                              · intro w'
                                go_simp
                                with_reducible rfl
                              rotate_left
                              · simp only [Act.put, List.setIfInBounds_toArray, List.set_cons_zero, List.set_cons_succ, i64_w, i32_w]
                                rfl
                              refine pure_ (i := 37) (N := some 96) (v := ?_) (a' := ?_) #[true, true, true, true, true, true, true, true, true, true, true, true, true, true, true, true, true, true, true, true, true, true, true, true, true, true, true, true, true, true, true, true, true, true, true, true, true, true, false, false, false, false, false, false, false, false, false, false] rfl rfl (any_of HT_.out (by kernel_rfl)) (fun _ _ _ h => h) (Or.inl ⟨by rfl, ?_⟩) ?_ ?_
                              rotate_left
                              · intro w'
                                go_simp
                                with_reducible rfl
                              rotate_left
                              · simp only [Act.put, List.setIfInBounds_toArray, List.set_cons_zero, List.set_cons_succ, i64_w, i32_w]
                                rfl
                              refine pure_ (i := 38) (N := some 97) (v := ?_) (a' := ?_) #[true, true, true, true, true, true, true, true, true, true, true, true, true, true, true, true, true, true, true, true, true, true, true, true, true, true, true, true, true, true, true, true, true, true, true, true, true, true, true, false, false, false, false, false, false, false, false, false] rfl rfl (any_of HT_.out (by kernel_rfl)) (fun _ _ _ h => h) (Or.inl ⟨by rfl, ?_⟩) ?_ ?_
                              rotate_left
                              · intro w'
                                go_simp
                                with_reducible rfl
                              rotate_left
                              · simp only [Act.put, List.setIfInBounds_toArray, List.set_cons_zero, List.set_cons_succ, i64_w, i32_w]
                                rfl
                              refine pure_ (i := 39) (N := some 98) (v := ?_) (a' := ?_) #[true, true, true, true, true, true, true, true, true, true, true, true, true, true, true, true, true, true, true, true, true, true, true, true, true, true, true, true, true, true, true, true, true, true, true, true, true, true, true, true, false, false, false, false, false, false, false, false] rfl rfl (any_of HT_.out (by kernel_rfl)) (fun _ _ _ h => h) (Or.inl ⟨by rfl, ?_⟩) ?_ ?_
                              rotate_left
                              · intro w'
                                go_simp
                                with_reducible rfl
                              rotate_left
                              · simp only [Act.put, List.setIfInBounds_toArray, List.set_cons_zero, List.set_cons_succ, i64_w, i32_w]
                                rfl
                              refine pure_ (i := 40) (N := some 99) (v := ?_) (a' := ?_) #[true, true, true, true, true, true, true, true, true, true, true, true, true, true, true, true, true, true, true, true, true, true, true, true, true, true, true, true, true, true, true, true, true, true, true, true, true, true, true, true, true, false, false, false, false, false, false, false] rfl rfl (any_of HT_.out (by kernel_rfl)) (fun _ _ _ h => h) (Or.inl ⟨by rfl, ?_⟩) ?_ ?_
                              rotate_left
                              · intro w'
                                go_simp
                                with_reducible rfl
                              rotate_left
                              · simp only [Act.put, List.setIfInBounds_toArray, List.set_cons_zero, List.set_cons_succ, i64_w, i32_w]
                                rfl
                              refine pure_ (i := 41) (N := some 100) (v := ?_) (a' := ?_) #[true, true, true, true, true, true, true, true, true, true, true, true, true, true, true, true, true, true, true, true, true, true, true, true, true, true, true, true, true, true, true, true, true, true, true, true, true, true, true, true, true, true, false, false, false, false, false, false] rfl rfl (any_of HT_.out (by kernel_rfl)) (fun _ _ _ h => h) (Or.inl ⟨by rfl, ?_⟩) ?_ ?_
                              rotate_left
                              · intro w'
                                go_simp
                                with_reducible rfl
                              rotate_left
                              · simp only [Act.put, List.setIfInBounds_toArray, List.set_cons_zero, List.set_cons_succ, i64_w, i32_w]
                                rfl
                              refine pure_ (i := 42) (N := some 101) (v := ?_) (a' := ?_) #[true, true, true, true, true, true, true, true, true, true, true, true, true, true, true, true, true, true, true, true, true, true, true, true, true, true, true, true, true, true, true, true, true, true, true, true, true, true, true, true, true, true, true, false, false, false, false, false] rfl rfl (any_of HT_.out (by kernel_rfl)) (fun _ _ _ h => h) (Or.inl ⟨by rfl, ?_⟩) ?_ ?_
                              rotate_left
                              · intro w'
                                go_simp
                                with_reducible rfl
                              rotate_left
                              · simp only [Act.put, List.setIfInBounds_toArray, List.set_cons_zero, List.set_cons_succ, i64_w, i32_w]
                                rfl
                              refine pure_ (i := 43) (N := some 102) (v := ?_) (a' := ?_) #[true, true, true, true, true, true, true, true, true, true, true, true, true, true, true, true, true, true, true, true, true, true, true, true, true, true, true, true, true, true, true, true, true, true, true, true, true, true, true, true, true, true, true, true, false, false, false, false] rfl rfl (any_of HT_.out (by kernel_rfl)) (fun _ _ _ h => h) (Or.inl ⟨by rfl, ?_⟩) ?_ ?_
                              rotate_left
                              · intro w'
                                go_simp
                                with_reducible rfl
                              rotate_left
                              · simp only [Act.put, List.setIfInBounds_toArray, List.set_cons_zero, List.set_cons_succ, i64_w, i32_w]
                                rfl
                              refine one_ (i := 44) (N := some 103) #[true, true, true, true, true, true, true, true, true, true, true, true, true, true, true, true, true, true, true, true, true, true, true, true, true, true, true, true, true, true, true, true, true, true, true, true, true, true, true, true, true, true, true, true, true, false, false, false] rfl rfl (one_of HT_.out (by kernel_rfl)) (by decide) (fun K hK => ?_)
                              refine Kd.R_lit_step k54 _ 54 ?hg (N := 103) ?hd (xs := ([(⟨0, 9, 0⟩ : S54), (⟨10, 19, 1⟩ : S54), (⟨20, 24, 2⟩ : S54), (⟨25, 26, 3⟩ : S54), (⟨27, 29, 2⟩ : S54), (⟨30, 40, 1⟩ : S54)] : List (S54))) (inner := [.int .i64 0, .int .i64 9, .int .i64 0, .int .i64 10, .int .i64 19, .int .i64 1, .int .i64 20, .int .i64 24, .int .i64 2, .int .i64 25, .int .i64 26, .int .i64 3, .int .i64 27, .int .i64 29, .int .i64 2, .int .i64 30, .int .i64 40, .int .i64 1]) (ok := fun _ => True) (okp := fun _ => True) ?hr ?hp (fun _ hk => hk) trivial (Below.refl _ _) (Nat.le_refl _) (by simp) ?_; (case hd => rfl); (case hg => rfl); (case hr => first | (go_simp; done) | (go_simp; rfl)); (case hp => exact (Reps.c3 (show Kd.M k54 _ _ _ (⟨0, 9, 0⟩ : S54) [.int .i64 0, .int .i64 9, .int .i64 0] from (k54_mkM _ _ _ (⟨0, 9, 0⟩ : S54) )) (Reps.c3 (show Kd.M k54 _ _ _ (⟨10, 19, 1⟩ : S54) [.int .i64 10, .int .i64 19, .int .i64 1] from (k54_mkM _ _ _ (⟨10, 19, 1⟩ : S54) )) (Reps.c3 (show Kd.M k54 _ _ _ (⟨20, 24, 2⟩ : S54) [.int .i64 20, .int .i64 24, .int .i64 2] from (k54_mkM _ _ _ (⟨20, 24, 2⟩ : S54) )) (Reps.c3 (show Kd.M k54 _ _ _ (⟨25, 26, 3⟩ : S54) [.int .i64 25, .int .i64 26, .int .i64 3] from (k54_mkM _ _ _ (⟨25, 26, 3⟩ : S54) )) (Reps.c3 (show Kd.M k54 _ _ _ (⟨27, 29, 2⟩ : S54) [.int .i64 27, .int .i64 29, .int .i64 2] from (k54_mkM _ _ _ (⟨27, 29, 2⟩ : S54) )) (Reps.c3 (show Kd.M k54 _ _ _ (⟨30, 40, 1⟩ : S54) [.int .i64 30, .int .i64 40, .int .i64 1] from (k54_mkM _ _ _ (⟨30, 40, 1⟩ : S54) )) (Reps.none _ _))))))))
                              intro v232 w74 ho75 hb hg_ hnew_
                              have HS0_ := (hb.cell (World.block_lt_of_cell? _ _ (hHeld.1))).trans (hHeld.1)
                              have HS1_ := (hb.cell (World.block_lt_of_cell? _ _ (hHeld.2.1))).trans (hHeld.2.1)
                              have HS2_ := (hb.cell (World.block_lt_of_cell? _ _ (hHeld.2.2.1))).trans (hHeld.2.2.1)
                              have HS3_ := (hb.cell (World.block_lt_of_cell? _ _ (hHeld.2.2.2.1))).trans (hHeld.2.2.2.1)
                              have HS4_ := (hb.cell (World.block_lt_of_cell? _ _ (hHeld.2.2.2.2.1))).trans (hHeld.2.2.2.2.1)
                              have HS5_ := (hb.cell (World.block_lt_of_cell? _ _ (hHeld.2.2.2.2.2.1))).trans (hHeld.2.2.2.2.2.1)
                              have HS6_ := (hb.cell (World.block_lt_of_cell? _ _ (hHeld.2.2.2.2.2.2.1))).trans (hHeld.2.2.2.2.2.2.1)
                              have HS7_ := (hb.cell (World.block_lt_of_cell? _ _ (hHeld.2.2.2.2.2.2.2.1))).trans (hHeld.2.2.2.2.2.2.2.1)
                              have HS8_ := (hb.cell (World.block_lt_of_cell? _ _ (hHeld.2.2.2.2.2.2.2.2.1))).trans (hHeld.2.2.2.2.2.2.2.2.1)
                              have HS9_ := (hb.cell (World.block_lt_of_cell? _ _ (hHeld.2.2.2.2.2.2.2.2.2.1))).trans (hHeld.2.2.2.2.2.2.2.2.2.1)
                              have HS10_ := (hb.cell (World.block_lt_of_cell? _ _ (hHeld.2.2.2.2.2.2.2.2.2.2.1))).trans (hHeld.2.2.2.2.2.2.2.2.2.2.1)
                              have HS11_ := (hb.cell (World.block_lt_of_cell? _ _ (hHeld.2.2.2.2.2.2.2.2.2.2.2.1))).trans (hHeld.2.2.2.2.2.2.2.2.2.2.2.1)
                              have HS12_ := (hb.cell (World.block_lt_of_cell? _ _ (hHeld.2.2.2.2.2.2.2.2.2.2.2.2.1))).trans (hHeld.2.2.2.2.2.2.2.2.2.2.2.2.1)
                              have HS13_ := (hb.cell (World.block_lt_of_cell? _ _ (hHeld.2.2.2.2.2.2.2.2.2.2.2.2.2.1))).trans (hHeld.2.2.2.2.2.2.2.2.2.2.2.2.2.1)
                              have HS14_ := (hb.cell (World.block_lt_of_cell? _ _ (hHeld.2.2.2.2.2.2.2.2.2.2.2.2.2.2.1))).trans (hHeld.2.2.2.2.2.2.2.2.2.2.2.2.2.2.1)
                              have HS15_ := (hb.cell (World.block_lt_of_cell? _ _ (hHeld.2.2.2.2.2.2.2.2.2.2.2.2.2.2.2.1))).trans (hHeld.2.2.2.2.2.2.2.2.2.2.2.2.2.2.2.1)
                              have HS16_ := (hb.cell (World.block_lt_of_cell? _ _ (hHeld.2.2.2.2.2.2.2.2.2.2.2.2.2.2.2.2.1))).trans (hHeld.2.2.2.2.2.2.2.2.2.2.2.2.2.2.2.2.1)
                              have HS17_ := (hb.cell (World.block_lt_of_cell? _ _ (hHeld.2.2.2.2.2.2.2.2.2.2.2.2.2.2.2.2.2.1))).trans (hHeld.2.2.2.2.2.2.2.2.2.2.2.2.2.2.2.2.2.1)
                              have HS18_ := (hb.cell (World.block_lt_of_cell? _ _ (hHeld.2.2.2.2.2.2.2.2.2.2.2.2.2.2.2.2.2.2.1))).trans (hHeld.2.2.2.2.2.2.2.2.2.2.2.2.2.2.2.2.2.2.1)
                              have HS19_ := (hb.cell (World.block_lt_of_cell? _ _ (hHeld.2.2.2.2.2.2.2.2.2.2.2.2.2.2.2.2.2.2.2.1))).trans (hHeld.2.2.2.2.2.2.2.2.2.2.2.2.2.2.2.2.2.2.2.1)
                              have HS20_ := (hb.cell (World.block_lt_of_cell? _ _ (hHeld.2.2.2.2.2.2.2.2.2.2.2.2.2.2.2.2.2.2.2.2.1))).trans (hHeld.2.2.2.2.2.2.2.2.2.2.2.2.2.2.2.2.2.2.2.2.1)
                              have HS21_ := (hb.cell (World.block_lt_of_cell? _ _ (hHeld.2.2.2.2.2.2.2.2.2.2.2.2.2.2.2.2.2.2.2.2.2.1))).trans (hHeld.2.2.2.2.2.2.2.2.2.2.2.2.2.2.2.2.2.2.2.2.2.1)
                              have HS22_ := (hb.cell (World.block_lt_of_cell? _ _ (hHeld.2.2.2.2.2.2.2.2.2.2.2.2.2.2.2.2.2.2.2.2.2.2.1))).trans (hHeld.2.2.2.2.2.2.2.2.2.2.2.2.2.2.2.2.2.2.2.2.2.2.1)
                              have HS23_ := (hb.cell (World.block_lt_of_cell? _ _ (hHeld.2.2.2.2.2.2.2.2.2.2.2.2.2.2.2.2.2.2.2.2.2.2.2.1))).trans (hHeld.2.2.2.2.2.2.2.2.2.2.2.2.2.2.2.2.2.2.2.2.2.2.2.1)
                              have HS24_ := (hb.cell (World.block_lt_of_cell? _ _ (hHeld.2.2.2.2.2.2.2.2.2.2.2.2.2.2.2.2.2.2.2.2.2.2.2.2.1))).trans (hHeld.2.2.2.2.2.2.2.2.2.2.2.2.2.2.2.2.2.2.2.2.2.2.2.2.1)
                              have HS25_ := (hb.cell (World.block_lt_of_cell? _ _ (hHeld.2.2.2.2.2.2.2.2.2.2.2.2.2.2.2.2.2.2.2.2.2.2.2.2.2.1))).trans (hHeld.2.2.2.2.2.2.2.2.2.2.2.2.2.2.2.2.2.2.2.2.2.2.2.2.2.1)
                              have HS26_ := (hb.cell (World.block_lt_of_cell? _ _ (hHeld.2.2.2.2.2.2.2.2.2.2.2.2.2.2.2.2.2.2.2.2.2.2.2.2.2.2.1))).trans (hHeld.2.2.2.2.2.2.2.2.2.2.2.2.2.2.2.2.2.2.2.2.2.2.2.2.2.2.1)
                              have HS27_ := (hb.cell (World.block_lt_of_cell? _ _ (hHeld.2.2.2.2.2.2.2.2.2.2.2.2.2.2.2.2.2.2.2.2.2.2.2.2.2.2.2.1))).trans (hHeld.2.2.2.2.2.2.2.2.2.2.2.2.2.2.2.2.2.2.2.2.2.2.2.2.2.2.2.1)
                              have HS28_ := (hb.cell (World.block_lt_of_cell? _ _ (hHeld.2.2.2.2.2.2.2.2.2.2.2.2.2.2.2.2.2.2.2.2.2.2.2.2.2.2.2.2.1))).trans (hHeld.2.2.2.2.2.2.2.2.2.2.2.2.2.2.2.2.2.2.2.2.2.2.2.2.2.2.2.2.1)
                              have HS29_ := (hb.cell (World.block_lt_of_cell? _ _ (hHeld.2.2.2.2.2.2.2.2.2.2.2.2.2.2.2.2.2.2.2.2.2.2.2.2.2.2.2.2.2.1))).trans (hHeld.2.2.2.2.2.2.2.2.2.2.2.2.2.2.2.2.2.2.2.2.2.2.2.2.2.2.2.2.2.1)
                              have HS30_ := (hb.cell (World.block_lt_of_cell? _ _ (hHeld.2.2.2.2.2.2.2.2.2.2.2.2.2.2.2.2.2.2.2.2.2.2.2.2.2.2.2.2.2.2.1))).trans (hHeld.2.2.2.2.2.2.2.2.2.2.2.2.2.2.2.2.2.2.2.2.2.2.2.2.2.2.2.2.2.2.1)
                              have HS31_ := (hb.cell (World.block_lt_of_cell? _ _ (hHeld.2.2.2.2.2.2.2.2.2.2.2.2.2.2.2.2.2.2.2.2.2.2.2.2.2.2.2.2.2.2.2.1))).trans (hHeld.2.2.2.2.2.2.2.2.2.2.2.2.2.2.2.2.2.2.2.2.2.2.2.2.2.2.2.2.2.2.2.1)
                              have HS32_ := (hb.cell (World.block_lt_of_cell? _ _ (hHeld.2.2.2.2.2.2.2.2.2.2.2.2.2.2.2.2.2.2.2.2.2.2.2.2.2.2.2.2.2.2.2.2.1))).trans (hHeld.2.2.2.2.2.2.2.2.2.2.2.2.2.2.2.2.2.2.2.2.2.2.2.2.2.2.2.2.2.2.2.2.1)
                              have HS33_ := (hb.cell (World.block_lt_of_cell? _ _ (hHeld.2.2.2.2.2.2.2.2.2.2.2.2.2.2.2.2.2.2.2.2.2.2.2.2.2.2.2.2.2.2.2.2.2.1))).trans (hHeld.2.2.2.2.2.2.2.2.2.2.2.2.2.2.2.2.2.2.2.2.2.2.2.2.2.2.2.2.2.2.2.2.2.1)
                              have HS34_ := (hb.cell (World.block_lt_of_cell? _ _ (hHeld.2.2.2.2.2.2.2.2.2.2.2.2.2.2.2.2.2.2.2.2.2.2.2.2.2.2.2.2.2.2.2.2.2.2.1))).trans (hHeld.2.2.2.2.2.2.2.2.2.2.2.2.2.2.2.2.2.2.2.2.2.2.2.2.2.2.2.2.2.2.2.2.2.2.1)
                              have HS35_ := (hb.cell (World.block_lt_of_cell? _ _ (hHeld.2.2.2.2.2.2.2.2.2.2.2.2.2.2.2.2.2.2.2.2.2.2.2.2.2.2.2.2.2.2.2.2.2.2.2))).trans (hHeld.2.2.2.2.2.2.2.2.2.2.2.2.2.2.2.2.2.2.2.2.2.2.2.2.2.2.2.2.2.2.2.2.2.2.2)
                              clear hg_ hnew_
                              (first | rw [← Ny231.out] at ho75 | (simp only [Int.reduceToNat] at ho75; rw [← Ny231.out] at ho75))
                              have n0_ := Aside0.mk (Kd.R_below (by (with_reducible repeat (first | apply Kd.R_alloc | apply Kd.R_drewN | apply Kd.R_drew)); exact HO_1.out) hb)
                              have n1_ := Aside0.mk (Kd.R_below (by (with_reducible repeat (first | apply Kd.R_alloc | apply Kd.R_drewN | apply Kd.R_drew)); exact HO_12.out) hb)
                              have n2_ := Aside0.mk (Kd.R_below (by (with_reducible repeat (first | apply Kd.R_alloc | apply Kd.R_drewN | apply Kd.R_drew)); exact HO220.out) hb)
                              have n3_ := Aside0.mk (Kd.R_elder' (by (with_reducible repeat (first | apply Kd.R_alloc | apply Kd.R_drewN | apply Kd.R_drew)); exact HO224.out) (Kd.R_base ho75) hb)
                              have n4_ := Aside0.mk (Kd.R_lower (Kd.R_new' ho75 (Kd.R_lt (by (with_reducible repeat (first | apply Kd.R_alloc | apply Kd.R_drewN | apply Kd.R_drew)); exact HO224.out))) (below_size (by repeat (first | (with_reducible first | exact HB.out | apply below_alloc | apply pw_below_drewN | apply below_drew1) | exact HB.out))))
                              have n5_ := Aside0.mk (below_step (by repeat (first | (with_reducible first | exact HB.out | apply below_alloc | apply pw_below_drewN | apply below_drew1) | exact HB.out)) hb)
                              clear HO_1
                              clear HO_12
                              clear HO220
                              clear HO224
                              clear HB
                              have HO_1 := n0_
                              have HO_12 := n1_
                              have HO220 := n2_
                              have HO224 := n3_
                              have HO233 := n4_
                              have HB := n5_
                              clear n0_ n1_ n2_ n3_ n4_ n5_
                              clear hb ho75
                              obtain ⟨Ao76, co76, eo76⟩ := Kd.R_slice HO224.out
                              (first | subst eo76 | (injection eo76 with f1_ f2_ f3_; have f4_ := f1_.symm; have f5_ := f3_.symm; clear f1_ f2_ f3_; subst f4_; subst f5_))
                              obtain ⟨Ao77, co77, eo77⟩ := Kd.R_slice HO233.out
                              (first | subst eo77 | (injection eo77 with f1_ f2_ f3_; have f4_ := f1_.symm; have f5_ := f3_.symm; clear f1_ f2_ f3_; subst f4_; subst f5_))
                              refine hK.out _ _ ⟨HS0_, HS1_, HS2_, HS3_, HS4_, HS5_, HS6_, HS7_, HS8_, HS9_, HS10_, HS11_, HS12_, HS13_, HS14_, HS15_, HS16_, HS17_, HS18_, HS19_, HS20_, HS21_, HS22_, HS23_, HS24_, HS25_, HS26_, HS27_, HS28_, HS29_, HS30_, HS31_, HS32_, HS33_, HS34_, HS35_⟩ (fun hHeld => ?_)
                              clear hK K
                              refine norm_ (a' := ?_) ?_ ?_
                              rotate_left
                              · show Act.put _ (some 103) _ = _
                                simp only [Act.put, List.setIfInBounds_toArray, List.set_cons_zero, List.set_cons_succ, i64_w, i32_w]
                                rfl
                              refine one_ (i := 45) (N := some 104) #[true, true, true, true, true, true, true, true, true, true, true, true, true, true, true, true, true, true, true, true, true, true, true, true, true, true, true, true, true, true, true, true, true, true, true, true, true, true, true, true, true, true, true, true, true, true, false, false] rfl rfl (one_of HT_.out (by kernel_rfl)) (by decide) (fun K hK => ?_)
                              refine goes_ Try.func38 (by kernel_rfl) rfl #[.slice Ao76 t221.length co76, .slice Ao77 y231.length co77] (by rfl) rfl rfl (by (try simp only [List.map_toArray, List.map_cons, List.map_nil]); first | done | rfl | (simp only [List.length_drop, List.length_take]; rfl)) ?_
                              with_reducible refine (letterbaglaw35_sameSpans.calls k1 _ _ t221 _ _ y231 t234 _ ?side1 ?side2 ?side3 ?side4 A68.out).mono ?_
                              (case side1 => repeat (first | exact (Kd.R_reads' HO224.out).2.2 | (with_reducible refine Kd.C_alloc ?_ _) | (with_reducible refine Kd.C_drewN ?_ _) | (with_reducible refine Kd.C_drew ?_)))
                              (case side2 => exact (Kd.R_reads' HO224.out).2.1)
                              (case side3 => repeat (first | exact (Kd.R_reads' HO233.out).2.2 | (with_reducible refine Kd.C_alloc ?_ _) | (with_reducible refine Kd.C_drewN ?_ _) | (with_reducible refine Kd.C_drew ?_)))
                              (case side4 => exact (Kd.R_reads' HO233.out).2.1)
                              rintro e w' ⟨rfl, ⟨nd, rfl⟩⟩
                              refine ⟨_, rfl, ?_⟩
                              refine hK.out _ _ ⟨hHeld.1, hHeld.2.1, hHeld.2.2.1, hHeld.2.2.2.1, hHeld.2.2.2.2.1, hHeld.2.2.2.2.2.1, hHeld.2.2.2.2.2.2.1, hHeld.2.2.2.2.2.2.2.1, hHeld.2.2.2.2.2.2.2.2.1, hHeld.2.2.2.2.2.2.2.2.2.1, hHeld.2.2.2.2.2.2.2.2.2.2.1, hHeld.2.2.2.2.2.2.2.2.2.2.2.1, hHeld.2.2.2.2.2.2.2.2.2.2.2.2.1, hHeld.2.2.2.2.2.2.2.2.2.2.2.2.2.1, hHeld.2.2.2.2.2.2.2.2.2.2.2.2.2.2.1, hHeld.2.2.2.2.2.2.2.2.2.2.2.2.2.2.2.1, hHeld.2.2.2.2.2.2.2.2.2.2.2.2.2.2.2.2.1, hHeld.2.2.2.2.2.2.2.2.2.2.2.2.2.2.2.2.2.1, hHeld.2.2.2.2.2.2.2.2.2.2.2.2.2.2.2.2.2.2.1, hHeld.2.2.2.2.2.2.2.2.2.2.2.2.2.2.2.2.2.2.2.1, hHeld.2.2.2.2.2.2.2.2.2.2.2.2.2.2.2.2.2.2.2.2.1, hHeld.2.2.2.2.2.2.2.2.2.2.2.2.2.2.2.2.2.2.2.2.2.1, hHeld.2.2.2.2.2.2.2.2.2.2.2.2.2.2.2.2.2.2.2.2.2.2.1, hHeld.2.2.2.2.2.2.2.2.2.2.2.2.2.2.2.2.2.2.2.2.2.2.2.1, hHeld.2.2.2.2.2.2.2.2.2.2.2.2.2.2.2.2.2.2.2.2.2.2.2.2.1, hHeld.2.2.2.2.2.2.2.2.2.2.2.2.2.2.2.2.2.2.2.2.2.2.2.2.2.1, hHeld.2.2.2.2.2.2.2.2.2.2.2.2.2.2.2.2.2.2.2.2.2.2.2.2.2.2.1, hHeld.2.2.2.2.2.2.2.2.2.2.2.2.2.2.2.2.2.2.2.2.2.2.2.2.2.2.2.1, hHeld.2.2.2.2.2.2.2.2.2.2.2.2.2.2.2.2.2.2.2.2.2.2.2.2.2.2.2.2.1, hHeld.2.2.2.2.2.2.2.2.2.2.2.2.2.2.2.2.2.2.2.2.2.2.2.2.2.2.2.2.2.1, hHeld.2.2.2.2.2.2.2.2.2.2.2.2.2.2.2.2.2.2.2.2.2.2.2.2.2.2.2.2.2.2.1, hHeld.2.2.2.2.2.2.2.2.2.2.2.2.2.2.2.2.2.2.2.2.2.2.2.2.2.2.2.2.2.2.2.1, hHeld.2.2.2.2.2.2.2.2.2.2.2.2.2.2.2.2.2.2.2.2.2.2.2.2.2.2.2.2.2.2.2.2.1, hHeld.2.2.2.2.2.2.2.2.2.2.2.2.2.2.2.2.2.2.2.2.2.2.2.2.2.2.2.2.2.2.2.2.2.1, hHeld.2.2.2.2.2.2.2.2.2.2.2.2.2.2.2.2.2.2.2.2.2.2.2.2.2.2.2.2.2.2.2.2.2.2.1, hHeld.2.2.2.2.2.2.2.2.2.2.2.2.2.2.2.2.2.2.2.2.2.2.2.2.2.2.2.2.2.2.2.2.2.2.2⟩ (fun hHeld => ?_)
                              clear hK K
                              refine norm_ (a' := ?_) ?_ ?_
                              rotate_left
                              · show Act.put _ (some 104) _ = _
                                simp only [Act.put, List.setIfInBounds_toArray, List.set_cons_zero, List.set_cons_succ, i64_w, i32_w]
                                rfl
                              refine pure_ (i := 46) (N := some 105) (v := ?_) (a' := ?_) #[true, true, true, true, true, true, true, true, true, true, true, true, true, true, true, true, true, true, true, true, true, true, true, true, true, true, true, true, true, true, true, true, true, true, true, true, true, true, true, true, true, true, true, true, true, true, true, false] rfl rfl (any_of HT_.out (by kernel_rfl)) (fun _ _ _ h => h) (Or.inl ⟨by rfl, ?_⟩) ?_ ?_
                              rotate_left
                              · intro w'
                                go_simp
                                with_reducible rfl
                              rotate_left
                              · simp only [Act.put, List.setIfInBounds_toArray, List.set_cons_zero, List.set_cons_succ, i64_w, i32_w]
                                rfl
                              refine pure_ (i := 47) (N := some 0) (v := ?_) (a' := ?_) #[true, true, true, true, true, true, true, true, true, true, true, true, true, true, true, true, true, true, true, true, true, true, true, true, true, true, true, true, true, true, true, true, true, true, true, true, true, true, true, true, true, true, true, true, true, true, true, true] rfl rfl (any_of HT_.out (by kernel_rfl)) (fun _ _ _ h => h) (Or.inl ⟨by rfl, ?_⟩) ?_ ?_
                              rotate_left
                              · intro w'
                                go_simp
                                with_reducible rfl
                              rotate_left
                              · simp only [Act.put, List.setIfInBounds_toArray, List.set_cons_zero, List.set_cons_succ, i64_w, i32_w]
                                rfl
                              refine done_ (done_of HT_.out (by kernel_rfl)) ?_
                              try go_wp2
                              go_ret
                              exact ⟨by first | rfl | (simp [errW_none, errW_some] <;> rfl) | (simp [*, errW_none, errW_some] <;> rfl), by repeat (first | (with_reducible first | exact HB.out | apply below_alloc | apply pw_below_drewN | apply below_drew1) | exact HB.out)⟩
                            · rw [if_neg c67] at H
                              have c67b0 : (((rd_T41 t217 2).f0) == ((rd_T41 t198 0).f0) && (((rd_T41 t217 2).f1) == ((rd_T41 t198 0).f1) && (((rd_T41 t217 2).f2) == ((rd_T41 t198 0).f2) && (((rd_T41 t217 2).f3) == ((rd_T41 t198 0).f3) && (((rd_T41 t217 2).f4) == ((rd_T41 t198 0).f4) && (((rd_T41 t217 2).f5) == ((rd_T41 t198 0).f5))))))) = false := by simpa using c67
                              (try (have c67b1 : decide (((rd_T41 t217 2).f0) = ((rd_T41 t198 0).f0) && (((rd_T41 t217 2).f1) == ((rd_T41 t198 0).f1) && (((rd_T41 t217 2).f2) == ((rd_T41 t198 0).f2) && (((rd_T41 t217 2).f3) == ((rd_T41 t198 0).f3) && (((rd_T41 t217 2).f4) == ((rd_T41 t198 0).f4) && (((rd_T41 t217 2).f5) == ((rd_T41 t198 0).f5))))))) = false := by simpa using c67))
                              (try (have c67b2 : (((rd_T41 t217 2).f0) == ((rd_T41 t198 0).f0) && (((rd_T41 t217 2).f1) == ((rd_T41 t198 0).f1) && (((rd_T41 t217 2).f2) == ((rd_T41 t198 0).f2) && (((rd_T41 t217 2).f3) == ((rd_T41 t198 0).f3) && (((rd_T41 t217 2).f4) == ((rd_T41 t198 0).f4) && (((rd_T41 t217 2).f5) == ((rd_T41 t198 0).f5))))))) = false := by simpa using c67))
                              (try (have c67b3 : ¬ (((rd_T41 t217 2).f0) = ((rd_T41 t198 0).f0) && (((rd_T41 t217 2).f1) == ((rd_T41 t198 0).f1) && (((rd_T41 t217 2).f2) == ((rd_T41 t198 0).f2) && (((rd_T41 t217 2).f3) == ((rd_T41 t198 0).f3) && (((rd_T41 t217 2).f4) == ((rd_T41 t198 0).f4) && (((rd_T41 t217 2).f5) == ((rd_T41 t198 0).f5))))))) := by simpa using c67))
                              clear c67
                              exact absurd (H.trans (congrArg some hr)) (by simp)
                          · rw [if_neg c66] at H
                            exact absurd H (by simp)
                        · rw [if_neg c65] at H
                          exact absurd H (by simp)
                      · rw [if_neg c64] at H
                        have c64b0 : (((rd_T41 t217 1).f0) == ((rd_T41 t198 1).f0) && (((rd_T41 t217 1).f1) == ((rd_T41 t198 1).f1) && (((rd_T41 t217 1).f2) == ((rd_T41 t198 1).f2) && (((rd_T41 t217 1).f3) == ((rd_T41 t198 1).f3) && (((rd_T41 t217 1).f4) == ((rd_T41 t198 1).f4) && (((rd_T41 t217 1).f5) == ((rd_T41 t198 1).f5))))))) = false := by simpa using c64
                        (try (have c64b1 : decide (((rd_T41 t217 1).f0) = ((rd_T41 t198 1).f0) && (((rd_T41 t217 1).f1) == ((rd_T41 t198 1).f1) && (((rd_T41 t217 1).f2) == ((rd_T41 t198 1).f2) && (((rd_T41 t217 1).f3) == ((rd_T41 t198 1).f3) && (((rd_T41 t217 1).f4) == ((rd_T41 t198 1).f4) && (((rd_T41 t217 1).f5) == ((rd_T41 t198 1).f5))))))) = false := by simpa using c64))
                        (try (have c64b2 : (((rd_T41 t217 1).f0) == ((rd_T41 t198 1).f0) && (((rd_T41 t217 1).f1) == ((rd_T41 t198 1).f1) && (((rd_T41 t217 1).f2) == ((rd_T41 t198 1).f2) && (((rd_T41 t217 1).f3) == ((rd_T41 t198 1).f3) && (((rd_T41 t217 1).f4) == ((rd_T41 t198 1).f4) && (((rd_T41 t217 1).f5) == ((rd_T41 t198 1).f5))))))) = false := by simpa using c64))
                        (try (have c64b3 : ¬ (((rd_T41 t217 1).f0) = ((rd_T41 t198 1).f0) && (((rd_T41 t217 1).f1) == ((rd_T41 t198 1).f1) && (((rd_T41 t217 1).f2) == ((rd_T41 t198 1).f2) && (((rd_T41 t217 1).f3) == ((rd_T41 t198 1).f3) && (((rd_T41 t217 1).f4) == ((rd_T41 t198 1).f4) && (((rd_T41 t217 1).f5) == ((rd_T41 t198 1).f5))))))) := by simpa using c64))
                        clear c64
                        exact absurd (H.trans (congrArg some hr)) (by simp)
                    · rw [if_neg c63] at H
                      exact absurd H (by simp)
                  · rw [if_neg c62] at H
                    exact absurd H (by simp)
                · rw [if_neg c61] at H
                  have c61b0 : (((rd_T41 t217 0).f0) == ((rd_T41 t198 2).f0) && (((rd_T41 t217 0).f1) == ((rd_T41 t198 2).f1) && (((rd_T41 t217 0).f2) == ((rd_T41 t198 2).f2) && (((rd_T41 t217 0).f3) == ((rd_T41 t198 2).f3) && (((rd_T41 t217 0).f4) == ((rd_T41 t198 2).f4) && (((rd_T41 t217 0).f5) == ((rd_T41 t198 2).f5))))))) = false := by simpa using c61
                  (try (have c61b1 : decide (((rd_T41 t217 0).f0) = ((rd_T41 t198 2).f0) && (((rd_T41 t217 0).f1) == ((rd_T41 t198 2).f1) && (((rd_T41 t217 0).f2) == ((rd_T41 t198 2).f2) && (((rd_T41 t217 0).f3) == ((rd_T41 t198 2).f3) && (((rd_T41 t217 0).f4) == ((rd_T41 t198 2).f4) && (((rd_T41 t217 0).f5) == ((rd_T41 t198 2).f5))))))) = false := by simpa using c61))
                  (try (have c61b2 : (((rd_T41 t217 0).f0) == ((rd_T41 t198 2).f0) && (((rd_T41 t217 0).f1) == ((rd_T41 t198 2).f1) && (((rd_T41 t217 0).f2) == ((rd_T41 t198 2).f2) && (((rd_T41 t217 0).f3) == ((rd_T41 t198 2).f3) && (((rd_T41 t217 0).f4) == ((rd_T41 t198 2).f4) && (((rd_T41 t217 0).f5) == ((rd_T41 t198 2).f5))))))) = false := by simpa using c61))
                  (try (have c61b3 : ¬ (((rd_T41 t217 0).f0) = ((rd_T41 t198 2).f0) && (((rd_T41 t217 0).f1) == ((rd_T41 t198 2).f1) && (((rd_T41 t217 0).f2) == ((rd_T41 t198 2).f2) && (((rd_T41 t217 0).f3) == ((rd_T41 t198 2).f3) && (((rd_T41 t217 0).f4) == ((rd_T41 t198 2).f4) && (((rd_T41 t217 0).f5) == ((rd_T41 t198 2).f5))))))) := by simpa using c61))
                  clear c61
                  exact absurd (H.trans (congrArg some hr)) (by simp)
              · rw [if_neg c60] at H
                exact absurd H (by simp)
            · rw [if_neg c59] at H
              exact absurd H (by simp)
          · rw [if_neg c58] at H
            have c58b0 : ((t217.length : Int) == 3) = false := beq_eq_false_iff_ne.mpr c58
            have c58b1 : ((t217.length : Int) != 3) = true := bne_iff_ne.mpr c58
            exact absurd (H.trans (congrArg some hr)) (by simp)
        · rw [if_neg c57] at H
          have c57b0 : ((wrap64 (t218 + t222)) == 0) = false := beq_eq_false_iff_ne.mpr c57
          have c57b1 : ((wrap64 (t218 + t222)) != 0) = true := bne_iff_ne.mpr c57
          exact absurd (H.trans (congrArg some hr)) (by simp)
end Go.Proofs.Ytgffddbhnggllaa.QF
namespace Go.Proofs.Ytgffddbhnggllaa.Ed
open Go.RowKit Go.Proofs.YtgffddbhnggllaaW.PrintWords QF
set_option maxRecDepth 1000000 in
theorem awake_val : awakeP.f 30 = some true := by decide +kernel
theorem awake_calls (w : World) : Calls Try.prog 23 #[] w fun e w' => e = .returned (.bool true) ∧ Below w.heap.size w w' := awakeP.calls 30 true rfl w awake_val
end Go.Proofs.Ytgffddbhnggllaa.Ed
namespace Go.Proofs.Ytgffddbhnggllaa.QF
open Go.RowKit Go.Proofs.YtgffddbhnggllaaW.PrintWords Go.Proofs.YtgffddbhnggllaaW.PrintLast Go.Proofs.YtgffddbhnggllaaW.PrintMore
attribute [local go_sem] max2_int min2_int max_two min_two max_three min_three max_four min_four
set_option linter.unusedVariables false
set_option linter.unusedSimpArgs false
def letterbaglaw35_awake.f : Option Bool := some true
theorem letterbaglaw35_awake.calls (r : Bool) (w : World) (h : letterbaglaw35_awake.f = some r) :
  Calls Try.prog 23 #[] w fun e w' => e = .returned (.bool r) ∧ Below w.heap.size w w' := by
 obtain rfl := Option.some.inj h
 exact Ed.awake_calls w
end Go.Proofs.Ytgffddbhnggllaa.QF
