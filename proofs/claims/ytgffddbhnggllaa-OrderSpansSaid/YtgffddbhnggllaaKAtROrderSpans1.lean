/- A part of the texts of one claim: the walk of the code by hand-proved contracts, and the plain law. -/
import Derived.JoinedOf
import Derived.Test.YtgffddbhnggllaaRows
import Derived.WalkKit
import Derived.ProofKit
import Derived.OpenShut
import Derived.ShutString
import Derived.ChangeOld
import Derived.Below
import Derived.SizedLaws
import Derived.Lib.SmallJoins
import Derived.Deep.Slices
import Derived.Deep.Fields
import Derived.ChangeSame
import Derived.Test.YtgffddbhnggllaaKA6
set_option linter.unusedVariables false
set_option linter.unusedSimpArgs false
namespace Go.Proofs.Ytgffddbhnggllaa.Ed
theorem both_t {a b : Bool} (h : a = true) (k : b = true) : (a && b) = true := by rw [h, k]; rfl
theorem cl1 : (laidOutB Try.pinned.checked.prog) = true := by kernel_rfl
theorem cl2 : (mapsRowed Try.pinned.checked.prog) = true := by kernel_rfl
theorem cl6 : ((Try.pinned.checked.prog.stops == [])) = true := by kernel_rfl
theorem cl8 : ((Try.pinned.checked.prog.stopKnobs == [])) = true := by kernel_rfl
theorem cl24 : (Try.pinned.checked.prog.stopsHeard) = true := by kernel_rfl
theorem cl25 : (Try.pinned.checked.prog.mayEnter) = true := by kernel_rfl
end Go.Proofs.Ytgffddbhnggllaa.Ed
namespace Go.Proofs.Ytgffddbhnggllaa.orderSpans
theorem cl0 : (Rows.orderSpansRow.wf (OpenSpec.ofChange Rows.orderSpansSpec)) = true := by kernel_rfl
theorem cl3 : (Try.f7.params.all (Try.pinned.checked.prog.readableRec ·)) = true := by kernel_rfl
theorem cl4 : (namedTie Try.pinned.checked.prog Rows.orderSpansRow.named Rows.orderSpansSpec.vars) = true := by kernel_rfl
theorem cl5 : ((Rows.orderSpansRow.stops == [])) = true := by kernel_rfl
theorem cl7 : ((Rows.orderSpansRow.knobs == [])) = true := by kernel_rfl
theorem cl9 : ((Rows.orderSpansRow.inPlace == Try.pinned.checked.prog.inPlace 7)) = true := by kernel_rfl
theorem cl10 : ((Rows.orderSpansRow.unfollowed == Try.pinned.checked.prog.unfollowed 7)) = true := by kernel_rfl
theorem cl11 : ((Rows.orderSpansRow.recurses == Try.pinned.checked.prog.recurses 7)) = true := by kernel_rfl
theorem cl12 : ((Rows.orderSpansRow.named == Try.pinned.checked.prog.varsNamed 7)) = true := by kernel_rfl
theorem cl13 : ((Rows.orderSpansRow.maps == (Try.f7.params.toList ++ Rows.orderSpansSpec.plain.varTypes Try.pinned.checked.prog).any (Try.pinned.checked.prog.mapsRec ·))) = true := by kernel_rfl
theorem cl14 : ((Rows.orderSpansRow.ifaces == (Try.f7.params.toList ++ Rows.orderSpansSpec.plain.varTypes Try.pinned.checked.prog).any (Try.pinned.checked.prog.ifacesRec ·))) = true := by kernel_rfl
theorem cl15 : ((Rows.orderSpansRow.mapsOut == Try.pinned.checked.prog.mapsAmong Try.f7.resultTypes.toList)) = true := by kernel_rfl
theorem cl16 : ((Rows.orderSpansRow.loops == (Try.f7.params.toList ++ Rows.orderSpansSpec.plain.varTypes Try.pinned.checked.prog).any (Try.pinned.checked.prog.loopsFrom ·))) = true := by kernel_rfl
theorem cl17 : ((Rows.orderSpansRow.wideKeys == (Try.f7.params.toList ++ Rows.orderSpansSpec.plain.varTypes Try.pinned.checked.prog ++ Try.f7.resultTypes.toList).any (Try.pinned.checked.prog.wideKeysFrom ·))) = true := by kernel_rfl
theorem cl18 : (Rows.orderSpansSpec.vars.all (Try.pinned.checked.prog.varReadable ·)) = true := by kernel_rfl
theorem cl19 : (Try.f7.resultTypes.all (fun t => Try.pinned.checked.prog.readableRec t && decide (t < Try.pinned.checked.prog.types.size))) = true := by kernel_rfl
theorem cl20 : ((Rows.orderSpansRow.ifacesOut == Try.f7.resultTypes.toList.any (Try.pinned.checked.prog.ifacesRec ·))) = true := by kernel_rfl
theorem cl21 : ((Rows.orderSpansRow.loopsOut == Try.f7.resultTypes.toList.any (Try.pinned.checked.prog.loopsFrom ·))) = true := by kernel_rfl
theorem cl22 : ((Rows.orderSpansRow.plainKeys == Try.pinned.checked.prog.plainKeys)) = true := by kernel_rfl
theorem cl23 : (Rows.orderSpansRow.shortTexts.isNone) = true := by kernel_rfl
theorem cl26 : ((Rows.orderSpansRow.lifted == Try.pinned.checked.prog.liftsFinal)) = true := by kernel_rfl
theorem cl27 : ((Try.pinned.checked.prog.make == some Rows.orderSpansRow.make)) = true := by kernel_rfl
theorem cl28 : ((Rows.orderSpansRow.kinds == (if Rows.orderSpansRow.domain.isEmpty then [] else Try.f7.params.toList.map fun t => match Try.pinned.checked.prog.underlying t with | some (.int k) => some k | _ => none))) = true := by kernel_rfl
theorem cl29 : ((Rows.orderSpansRow.pinned == Rows.orderSpansRow.pinnedBy)) = true := by kernel_rfl
theorem cl30 : ((Rows.orderSpansRow.veiled == (Try.f7.params.toList ++ Rows.orderSpansSpec.plain.varTypes Try.pinned.checked.prog ++ Try.f7.resultTypes.toList).any (Try.pinned.checked.prog.veiledRec ·))) = true := by kernel_rfl
theorem cl31 : (Rows.orderSpansRow.veiledFits Try.pinned.checked.prog Try.f7.params.toList (Try.f7.params.toList ++ Rows.orderSpansSpec.plain.varTypes Try.pinned.checked.prog ++ Try.f7.resultTypes.toList)) = true := by kernel_rfl
set_option maxRecDepth 100000 in
theorem closed : joinedFacts Try.pinned.checked.prog 7 Try.f7 Rows.orderSpansSpec Rows.orderSpansRow = true := by
  unfold joinedFacts
  refine Ed.both_t ?_ cl31
  refine Ed.both_t ?_ cl30
  refine Ed.both_t ?_ cl29
  refine Ed.both_t ?_ cl28
  refine Ed.both_t ?_ cl27
  refine Ed.both_t ?_ cl26
  refine Ed.both_t ?_ Ed.cl25
  refine Ed.both_t ?_ Ed.cl24
  refine Ed.both_t ?_ cl23
  refine Ed.both_t ?_ cl22
  refine Ed.both_t ?_ cl21
  refine Ed.both_t ?_ cl20
  refine Ed.both_t ?_ cl19
  refine Ed.both_t ?_ cl18
  refine Ed.both_t ?_ cl17
  refine Ed.both_t ?_ cl16
  refine Ed.both_t ?_ cl15
  refine Ed.both_t ?_ cl14
  refine Ed.both_t ?_ cl13
  refine Ed.both_t ?_ cl12
  refine Ed.both_t ?_ cl11
  refine Ed.both_t ?_ cl10
  refine Ed.both_t ?_ cl9
  refine Ed.both_t ?_ Ed.cl8
  refine Ed.both_t ?_ cl7
  refine Ed.both_t ?_ Ed.cl6
  refine Ed.both_t ?_ cl5
  refine Ed.both_t ?_ cl4
  refine Ed.both_t ?_ cl3
  refine Ed.both_t ?_ Ed.cl2
  refine Ed.both_t ?_ Ed.cl1
  exact cl0
end Go.Proofs.Ytgffddbhnggllaa.orderSpans
namespace Go.Proofs.Ytgffddbhnggllaa.QF
open Go.RowKit Go.Proofs.YtgffddbhnggllaaW.PrintWords Go.Proofs.YtgffddbhnggllaaW.PrintLast Go.Proofs.YtgffddbhnggllaaW.PrintMore
attribute [local go_sem] max2_int min2_int max_two min_two max_three min_three max_four min_four
set_option linter.unusedVariables false
set_option linter.unusedSimpArgs false
mutual
def letterbaglaw35_OrderSpans.j0 : Nat → List (S41) → Int → Int → Int → List (S54) → Bool → Option (Bool)
 | 0, _, _, _, _, _, _ => none
 | k + 1, x9, x10, x11, x12, x13, x52 => if x52 = true then (some false) else (letterbaglaw35_OrderSpans.l0 k x9 x10 x12 x13 x11 x13 (x13.length : Int) 0)
def letterbaglaw35_OrderSpans.l0 : Nat → List (S41) → Int → Int → List (S54) → Int → List (S54) → Int → Int → Option (Bool)
 | 0, _, _, _, _, _, _, _, _ => none
 | k + 1, x9, x10, x12, x13, x15, x54, x55, x56 => if x56 < x55 then (if 0 ≤ x56 then (if x56 < (x54.length : Int) then (if ((rd_T54 x54 x56).f0) = x15 then (if ((rd_T54 x54 x56).f1) < ((rd_T54 x54 x56).f0) then (letterbaglaw35_OrderSpans.j2 k x9 x10 x12 x13 x15 x54 x55 x56 true ((rd_T54 x54 x56).f0) ((rd_T54 x54 x56).f1) ((rd_T54 x54 x56).f2)) else (if x56 > 0 then (if 0 ≤ (wrap64 (x56 - 1)) then (if (wrap64 (x56 - 1)) < (x13.length : Int) then (letterbaglaw35_OrderSpans.j2 k x9 x10 x12 x13 x15 x54 x55 x56 (((rd_T54 x54 x56).f2) == ((rd_T54 x13 (wrap64 (x56 - 1))).f2)) ((rd_T54 x54 x56).f0) ((rd_T54 x54 x56).f1) ((rd_T54 x54 x56).f2)) else (none)) else (none)) else (letterbaglaw35_OrderSpans.j2 k x9 x10 x12 x13 x15 x54 x55 x56 false ((rd_T54 x54 x56).f0) ((rd_T54 x54 x56).f1) ((rd_T54 x54 x56).f2)))) else (letterbaglaw35_OrderSpans.j2 k x9 x10 x12 x13 x15 x54 x55 x56 true ((rd_T54 x54 x56).f0) ((rd_T54 x54 x56).f1) ((rd_T54 x54 x56).f2))) else (none)) else (none)) else (if x15 = (wrap64 (x12 + 1)) then ((letterbaglaw35_awake.f).bind fun t351 => (some t351)) else (some false))
def letterbaglaw35_OrderSpans.j2 : Nat → List (S41) → Int → Int → List (S54) → Int → List (S54) → Int → Int → Bool → Int → Int → Int → Option (Bool)
 | 0, _, _, _, _, _, _, _, _, _, _, _, _ => none
 | k + 1, x9, x10, x12, x13, x15, x54, x55, x56, x86, x354000, x354001, x354002 => if x86 = true then (some false) else (letterbaglaw35_OrderSpans.l1 k x9 x10 x12 x13 x15 x54 x55 x56 x354000 x354001 x354002)
def letterbaglaw35_OrderSpans.l1 : Nat → List (S41) → Int → Int → List (S54) → Int → List (S54) → Int → Int → Int → Int → Int → Option (Bool)
 | 0, _, _, _, _, _, _, _, _, _, _, _ => none
 | k + 1, x9, x10, x12, x13, x15, x54, x55, x56, x354000, x354001, x354002 => if x15 ≤ x354001 then (letterbaglaw35_OrderSpans.j4 k x9 x10 x12 x13 x15 x54 x55 x56 (decide (x15 ≤ x12)) x354000 x354001 x354002) else (letterbaglaw35_OrderSpans.j4 k x9 x10 x12 x13 x15 x54 x55 x56 false x354000 x354001 x354002)
def letterbaglaw35_OrderSpans.j4 : Nat → List (S41) → Int → Int → List (S54) → Int → List (S54) → Int → Int → Bool → Int → Int → Int → Option (Bool)
 | 0, _, _, _, _, _, _, _, _, _, _, _, _ => none
 | k + 1, x9, x10, x12, x13, x15, x54, x55, x56, x95, x354000, x354001, x354002 => if x95 = true then ((letterbaglaw35_in.f x9 x10 x15).bind fun bt355 => (if bt355.2 = true then (if bt355.1 = x354002 then (letterbaglaw35_OrderSpans.l1 k x9 x10 x12 x13 (wrap64 (x15 + 1)) x54 x55 x56 x354000 x354001 x354002) else (some false)) else (some false))) else (if x15 = (wrap64 (x354001 + 1)) then (letterbaglaw35_OrderSpans.l0 k x9 x10 x12 x13 x15 x54 x55 (wrap64 (x56 + 1))) else (some false))
end
def letterbaglaw35_OrderSpans.f (k : Nat) (l0 : List (S72)) (a1 : Int) (a2 : Int) (a3 : Int) : Option (Bool) := (letterbaglaw35_Built.f k l0).bind fun t344 => ((order_Spans.f t344 (wrap64 (1 + (Int.tmod (wrap64 (a1)) 6))) (mn (Int.tmod (wrap64 (a2)) 110) (Int.tmod (wrap64 (a3)) 110)) (mx (Int.tmod (wrap64 (a2)) 110) (Int.tmod (wrap64 (a3)) 110))).bind fun bt347 => (if bt347.2 = 0 then (letterbaglaw35_OrderSpans.j0 k t344 (wrap64 (1 + (Int.tmod (wrap64 (a1)) 6))) (mn (Int.tmod (wrap64 (a2)) 110) (Int.tmod (wrap64 (a3)) 110)) (mx (Int.tmod (wrap64 (a2)) 110) (Int.tmod (wrap64 (a3)) 110)) bt347.1 ((bt347.1.length : Int) == 0)) else (letterbaglaw35_OrderSpans.j0 k t344 (wrap64 (1 + (Int.tmod (wrap64 (a1)) 6))) (mn (Int.tmod (wrap64 (a2)) 110) (Int.tmod (wrap64 (a3)) 110)) (mx (Int.tmod (wrap64 (a2)) 110) (Int.tmod (wrap64 (a3)) 110)) bt347.1 true)))
theorem letterbaglaw35_OrderSpans.mono_l : ∀ k, (∀ y0 y1 y2 y3 y4 y5, LeO (letterbaglaw35_OrderSpans.j0 k y0 y1 y2 y3 y4 y5) (letterbaglaw35_OrderSpans.j0 (k + 1) y0 y1 y2 y3 y4 y5)) ∧ (∀ y0 y1 y2 y3 y4 y5 y6 y7, LeO (letterbaglaw35_OrderSpans.l0 k y0 y1 y2 y3 y4 y5 y6 y7) (letterbaglaw35_OrderSpans.l0 (k + 1) y0 y1 y2 y3 y4 y5 y6 y7)) ∧ (∀ y0 y1 y2 y3 y4 y5 y6 y7 y8 y9 y10 y11, LeO (letterbaglaw35_OrderSpans.j2 k y0 y1 y2 y3 y4 y5 y6 y7 y8 y9 y10 y11) (letterbaglaw35_OrderSpans.j2 (k + 1) y0 y1 y2 y3 y4 y5 y6 y7 y8 y9 y10 y11)) ∧ (∀ y0 y1 y2 y3 y4 y5 y6 y7 y8 y9 y10, LeO (letterbaglaw35_OrderSpans.l1 k y0 y1 y2 y3 y4 y5 y6 y7 y8 y9 y10) (letterbaglaw35_OrderSpans.l1 (k + 1) y0 y1 y2 y3 y4 y5 y6 y7 y8 y9 y10)) ∧ (∀ y0 y1 y2 y3 y4 y5 y6 y7 y8 y9 y10 y11, LeO (letterbaglaw35_OrderSpans.j4 k y0 y1 y2 y3 y4 y5 y6 y7 y8 y9 y10 y11) (letterbaglaw35_OrderSpans.j4 (k + 1) y0 y1 y2 y3 y4 y5 y6 y7 y8 y9 y10 y11))
 | 0 => ⟨fun _ _ _ _ _ _ r h => by simp [letterbaglaw35_OrderSpans.j0] at h, fun _ _ _ _ _ _ _ _ r h => by simp [letterbaglaw35_OrderSpans.l0] at h, fun _ _ _ _ _ _ _ _ _ _ _ _ r h => by simp [letterbaglaw35_OrderSpans.j2] at h, fun _ _ _ _ _ _ _ _ _ _ _ r h => by simp [letterbaglaw35_OrderSpans.l1] at h, fun _ _ _ _ _ _ _ _ _ _ _ _ r h => by simp [letterbaglaw35_OrderSpans.j4] at h⟩
 | k + 1 => by
  obtain ⟨ih0, ih1, ih2, ih3, ih4⟩ := letterbaglaw35_OrderSpans.mono_l k
  refine ⟨?_, ?_, ?_, ?_, ?_⟩
  ·intro y0 y1 y2 y3 y4 y5
   unfold letterbaglaw35_OrderSpans.j0
   repeat' first
   | (with_reducible exact ih0 _ _ _ _ _ _)
   | (with_reducible exact ih1 _ _ _ _ _ _ _ _)
   | (with_reducible exact ih2 _ _ _ _ _ _ _ _ _ _ _ _)
   | (with_reducible exact ih3 _ _ _ _ _ _ _ _ _ _ _)
   | (with_reducible exact ih4 _ _ _ _ _ _ _ _ _ _ _ _)
   | (with_reducible exact letterbaglaw35_Built.mono _ _)
   | (with_reducible exact LeO.refl _)
   | (with_reducible exact LeO.none _)
   | (with_reducible refine LeO.ite ?_ ?_)
   | (with_reducible refine LeO.bind ?_ (fun _ => ?_))
   | exact ih0 _ _ _ _ _ _
   | exact ih1 _ _ _ _ _ _ _ _
   | exact ih2 _ _ _ _ _ _ _ _ _ _ _ _
   | exact ih3 _ _ _ _ _ _ _ _ _ _ _
   | exact ih4 _ _ _ _ _ _ _ _ _ _ _ _
   | exact letterbaglaw35_Built.mono _ _
   | exact LeO.none _
   | refine LeO.ite ?_ ?_
   | refine LeO.bind ?_ (fun _ => ?_)
  ·intro y0 y1 y2 y3 y4 y5 y6 y7
   unfold letterbaglaw35_OrderSpans.l0
   repeat' first
   | (with_reducible exact ih0 _ _ _ _ _ _)
   | (with_reducible exact ih1 _ _ _ _ _ _ _ _)
   | (with_reducible exact ih2 _ _ _ _ _ _ _ _ _ _ _ _)
   | (with_reducible exact ih3 _ _ _ _ _ _ _ _ _ _ _)
   | (with_reducible exact ih4 _ _ _ _ _ _ _ _ _ _ _ _)
   | (with_reducible exact letterbaglaw35_Built.mono _ _)
   | (with_reducible exact LeO.refl _)
   | (with_reducible exact LeO.none _)
   | (with_reducible refine LeO.ite ?_ ?_)
   | (with_reducible refine LeO.bind ?_ (fun _ => ?_))
   | exact ih0 _ _ _ _ _ _
   | exact ih1 _ _ _ _ _ _ _ _
   | exact ih2 _ _ _ _ _ _ _ _ _ _ _ _
   | exact ih3 _ _ _ _ _ _ _ _ _ _ _
   | exact ih4 _ _ _ _ _ _ _ _ _ _ _ _
   | exact letterbaglaw35_Built.mono _ _
   | exact LeO.none _
   | refine LeO.ite ?_ ?_
   | refine LeO.bind ?_ (fun _ => ?_)
  ·intro y0 y1 y2 y3 y4 y5 y6 y7 y8 y9 y10 y11
   unfold letterbaglaw35_OrderSpans.j2
   repeat' first
   | (with_reducible exact ih0 _ _ _ _ _ _)
   | (with_reducible exact ih1 _ _ _ _ _ _ _ _)
   | (with_reducible exact ih2 _ _ _ _ _ _ _ _ _ _ _ _)
   | (with_reducible exact ih3 _ _ _ _ _ _ _ _ _ _ _)
   | (with_reducible exact ih4 _ _ _ _ _ _ _ _ _ _ _ _)
   | (with_reducible exact letterbaglaw35_Built.mono _ _)
   | (with_reducible exact LeO.refl _)
   | (with_reducible exact LeO.none _)
   | (with_reducible refine LeO.ite ?_ ?_)
   | (with_reducible refine LeO.bind ?_ (fun _ => ?_))
   | exact ih0 _ _ _ _ _ _
   | exact ih1 _ _ _ _ _ _ _ _
   | exact ih2 _ _ _ _ _ _ _ _ _ _ _ _
   | exact ih3 _ _ _ _ _ _ _ _ _ _ _
   | exact ih4 _ _ _ _ _ _ _ _ _ _ _ _
   | exact letterbaglaw35_Built.mono _ _
   | exact LeO.none _
   | refine LeO.ite ?_ ?_
   | refine LeO.bind ?_ (fun _ => ?_)
  ·intro y0 y1 y2 y3 y4 y5 y6 y7 y8 y9 y10
   unfold letterbaglaw35_OrderSpans.l1
   repeat' first
   | (with_reducible exact ih0 _ _ _ _ _ _)
   | (with_reducible exact ih1 _ _ _ _ _ _ _ _)
   | (with_reducible exact ih2 _ _ _ _ _ _ _ _ _ _ _ _)
   | (with_reducible exact ih3 _ _ _ _ _ _ _ _ _ _ _)
   | (with_reducible exact ih4 _ _ _ _ _ _ _ _ _ _ _ _)
   | (with_reducible exact letterbaglaw35_Built.mono _ _)
   | (with_reducible exact LeO.refl _)
   | (with_reducible exact LeO.none _)
   | (with_reducible refine LeO.ite ?_ ?_)
   | (with_reducible refine LeO.bind ?_ (fun _ => ?_))
   | exact ih0 _ _ _ _ _ _
   | exact ih1 _ _ _ _ _ _ _ _
   | exact ih2 _ _ _ _ _ _ _ _ _ _ _ _
   | exact ih3 _ _ _ _ _ _ _ _ _ _ _
   | exact ih4 _ _ _ _ _ _ _ _ _ _ _ _
   | exact letterbaglaw35_Built.mono _ _
   | exact LeO.none _
   | refine LeO.ite ?_ ?_
   | refine LeO.bind ?_ (fun _ => ?_)
  ·intro y0 y1 y2 y3 y4 y5 y6 y7 y8 y9 y10 y11
   unfold letterbaglaw35_OrderSpans.j4
   repeat' first
   | (with_reducible exact ih0 _ _ _ _ _ _)
   | (with_reducible exact ih1 _ _ _ _ _ _ _ _)
   | (with_reducible exact ih2 _ _ _ _ _ _ _ _ _ _ _ _)
   | (with_reducible exact ih3 _ _ _ _ _ _ _ _ _ _ _)
   | (with_reducible exact ih4 _ _ _ _ _ _ _ _ _ _ _ _)
   | (with_reducible exact letterbaglaw35_Built.mono _ _)
   | (with_reducible exact LeO.refl _)
   | (with_reducible exact LeO.none _)
   | (with_reducible refine LeO.ite ?_ ?_)
   | (with_reducible refine LeO.bind ?_ (fun _ => ?_))
   | exact ih0 _ _ _ _ _ _
   | exact ih1 _ _ _ _ _ _ _ _
   | exact ih2 _ _ _ _ _ _ _ _ _ _ _ _
   | exact ih3 _ _ _ _ _ _ _ _ _ _ _
   | exact ih4 _ _ _ _ _ _ _ _ _ _ _ _
   | exact letterbaglaw35_Built.mono _ _
   | exact LeO.none _
   | refine LeO.ite ?_ ?_
   | refine LeO.bind ?_ (fun _ => ?_)
theorem letterbaglaw35_OrderSpans.mono : ∀ a0 a1 a2 a3 k, LeO (letterbaglaw35_OrderSpans.f k a0 a1 a2 a3) (letterbaglaw35_OrderSpans.f (k + 1) a0 a1 a2 a3) := by
 intro a0 a1 a2 a3 k
 obtain ⟨ih0, ih1, ih2, ih3, ih4⟩ := letterbaglaw35_OrderSpans.mono_l k
 unfold letterbaglaw35_OrderSpans.f
 repeat' first
   | (with_reducible exact ih0 _ _ _ _ _ _)
   | (with_reducible exact ih1 _ _ _ _ _ _ _ _)
   | (with_reducible exact ih2 _ _ _ _ _ _ _ _ _ _ _ _)
   | (with_reducible exact ih3 _ _ _ _ _ _ _ _ _ _ _)
   | (with_reducible exact ih4 _ _ _ _ _ _ _ _ _ _ _ _)
   | (with_reducible exact letterbaglaw35_Built.mono _ _)
   | (with_reducible exact LeO.refl _)
   | (with_reducible exact LeO.none _)
   | (with_reducible refine LeO.ite ?_ ?_)
   | (with_reducible refine LeO.bind ?_ (fun _ => ?_))
   | exact ih0 _ _ _ _ _ _
   | exact ih1 _ _ _ _ _ _ _ _
   | exact ih2 _ _ _ _ _ _ _ _ _ _ _ _
   | exact ih3 _ _ _ _ _ _ _ _ _ _ _
   | exact ih4 _ _ _ _ _ _ _ _ _ _ _ _
   | exact letterbaglaw35_Built.mono _ _
   | exact LeO.none _
   | refine LeO.ite ?_ ?_
   | refine LeO.bind ?_ (fun _ => ?_)
set_option maxHeartbeats 8000000 in
set_option maxRecDepth 100000 in
theorem letterbaglaw35_OrderSpans.calls (k : Nat) (A0 : Option Addr) (c0 : Nat) (l0 : List (S72)) (a1 : Int) (a2 : Int) (a3 : Int) (r : Bool) (w : World) (hr0 : Kd.C k72 w A0 l0.length l0) (hc0 : l0.length ≤ c0) (h : letterbaglaw35_OrderSpans.f k l0 a1 a2 a3 = some r) :
  Calls Try.prog 7 #[.slice A0 l0.length c0, .int .u8 a1, .int .u8 a2, .int .u8 a3] w fun e w' => e = .returned (.bool r) ∧ Below w.heap.size w w' := by
 have hu54 := Try.underlying54
 have HR0 := Aside0.mk hr0
 have HC0 := Aside0.mk hc0
 clear hr0 hc0
 have HB := Aside0.mk (Below.refl w.heap.size w)
 have H : ((letterbaglaw35_Built.f k l0).bind fun t344 => ((order_Spans.f t344 (wrap64 (1 + (Int.tmod (wrap64 (a1)) 6))) (mn (Int.tmod (wrap64 (a2)) 110) (Int.tmod (wrap64 (a3)) 110)) (mx (Int.tmod (wrap64 (a2)) 110) (Int.tmod (wrap64 (a3)) 110))).bind fun bt347 => (if bt347.2 = 0 then (letterbaglaw35_OrderSpans.j0 k t344 (wrap64 (1 + (Int.tmod (wrap64 (a1)) 6))) (mn (Int.tmod (wrap64 (a2)) 110) (Int.tmod (wrap64 (a3)) 110)) (mx (Int.tmod (wrap64 (a2)) 110) (Int.tmod (wrap64 (a3)) 110)) bt347.1 ((bt347.1.length : Int) == 0)) else (letterbaglaw35_OrderSpans.j0 k t344 (wrap64 (1 + (Int.tmod (wrap64 (a1)) 6))) (mn (Int.tmod (wrap64 (a2)) 110) (Int.tmod (wrap64 (a3)) 110)) (mx (Int.tmod (wrap64 (a2)) 110) (Int.tmod (wrap64 (a3)) 110)) bt347.1 true)))) = some r := h
 clear h
 replace H := Option.bind_eq_some_iff.mp H
 obtain ⟨t344, A50, H⟩ := H
 replace H : ((order_Spans.f t344 (wrap64 (1 + (Int.tmod (wrap64 (a1)) 6))) (mn (Int.tmod (wrap64 (a2)) 110) (Int.tmod (wrap64 (a3)) 110)) (mx (Int.tmod (wrap64 (a2)) 110) (Int.tmod (wrap64 (a3)) 110))).bind fun bt347 => (if bt347.2 = 0 then (letterbaglaw35_OrderSpans.j0 k t344 (wrap64 (1 + (Int.tmod (wrap64 (a1)) 6))) (mn (Int.tmod (wrap64 (a2)) 110) (Int.tmod (wrap64 (a3)) 110)) (mx (Int.tmod (wrap64 (a2)) 110) (Int.tmod (wrap64 (a3)) 110)) bt347.1 ((bt347.1.length : Int) == 0)) else (letterbaglaw35_OrderSpans.j0 k t344 (wrap64 (1 + (Int.tmod (wrap64 (a1)) 6))) (mn (Int.tmod (wrap64 (a2)) 110) (Int.tmod (wrap64 (a3)) 110)) (mx (Int.tmod (wrap64 (a2)) 110) (Int.tmod (wrap64 (a3)) 110)) bt347.1 true))) = some r := H
 have A5 := Aside0.mk A50
 clear A50
 obtain ⟨ji6, hji6⟩ : ∃ j_ : Int, (mn (Int.tmod (wrap64 (a2)) 110) (Int.tmod (wrap64 (a3)) 110)) = j_ := ⟨_, rfl⟩
 replace H : ((order_Spans.f t344 (wrap64 (1 + (Int.tmod (wrap64 (a1)) 6))) (ji6) (mx (Int.tmod (wrap64 (a2)) 110) (Int.tmod (wrap64 (a3)) 110))).bind fun bt347 => (if bt347.2 = 0 then (letterbaglaw35_OrderSpans.j0 k t344 (wrap64 (1 + (Int.tmod (wrap64 (a1)) 6))) ji6 (mx (Int.tmod (wrap64 (a2)) 110) (Int.tmod (wrap64 (a3)) 110)) bt347.1 ((bt347.1.length : Int) == 0)) else (letterbaglaw35_OrderSpans.j0 k t344 (wrap64 (1 + (Int.tmod (wrap64 (a1)) 6))) ji6 (mx (Int.tmod (wrap64 (a2)) 110) (Int.tmod (wrap64 (a3)) 110)) bt347.1 true))) = some r := by first | (rw [hji6] at H; exact H) | (simp only [hji6] at H ⊢; exact H)
 (try rw [hji6] at A5)
 have hji6_ : (if (Int.tmod (wrap64 (a3)) 110) < (Int.tmod (wrap64 (a2)) 110) then (Int.tmod (wrap64 (a3)) 110) else (Int.tmod (wrap64 (a2)) 110)) = ji6 := hji6
 obtain ⟨ji7, hji7⟩ : ∃ j_ : Int, (mx (Int.tmod (wrap64 (a2)) 110) (Int.tmod (wrap64 (a3)) 110)) = j_ := ⟨_, rfl⟩
 replace H : ((order_Spans.f t344 (wrap64 (1 + (Int.tmod (wrap64 (a1)) 6))) (ji6) (ji7)).bind fun bt347 => (if bt347.2 = 0 then (letterbaglaw35_OrderSpans.j0 k t344 (wrap64 (1 + (Int.tmod (wrap64 (a1)) 6))) ji6 ji7 bt347.1 ((bt347.1.length : Int) == 0)) else (letterbaglaw35_OrderSpans.j0 k t344 (wrap64 (1 + (Int.tmod (wrap64 (a1)) 6))) ji6 ji7 bt347.1 true))) = some r := by first | (rw [hji7] at H; exact H) | (simp only [hji7] at H ⊢; exact H)
 (try rw [hji7] at A5)
 have hji7_ : (if (Int.tmod (wrap64 (a2)) 110) < (Int.tmod (wrap64 (a3)) 110) then (Int.tmod (wrap64 (a3)) 110) else (Int.tmod (wrap64 (a2)) 110)) = ji7 := hji7
 replace H := Option.bind_eq_some_iff.mp H
 obtain ⟨⟨t347, t348⟩, A80, H⟩ := H
 replace H : (if t348 = 0 then (letterbaglaw35_OrderSpans.j0 k t344 (wrap64 (1 + (Int.tmod (wrap64 (a1)) 6))) ji6 ji7 t347 ((t347.length : Int) == 0)) else (letterbaglaw35_OrderSpans.j0 k t344 (wrap64 (1 + (Int.tmod (wrap64 (a1)) 6))) ji6 ji7 t347 true)) = some r := H
 have A8 := Aside0.mk A80
 clear A80
 have HC9 := Aside0.mk H
 clear H
 go_enter Try.func7, Try.ntmps7
 go_upto_region 5 with (first | (go_at_call 19; (with_reducible refine (letterbaglaw35_Built.calls k _ _ l0 t344 _ ?side1 ?side2 A5.out).mono ?_); (case side1 => repeat (first | exact HR0.out | (with_reducible refine Kd.C_alloc ?_ _) | (with_reducible refine Kd.C_drewN ?_ _) | (with_reducible refine Kd.C_drew ?_))); (case side2 => exact HC0.out); rintro e w10 ⟨v345, rfl, ho0, hb⟩; have n0_ := Aside0.mk (Kd.R_lower ho0 (below_size (by repeat (first | (with_reducible first | exact HB.out | apply below_alloc | apply pw_below_drewN | apply below_drew1) | exact HB.out)))); have n1_ := Aside0.mk (below_step (by repeat (first | (with_reducible first | exact HB.out | apply below_alloc | apply pw_below_drewN | apply below_drew1) | exact HB.out)) hb); clear HB; have HO346 := n0_; have HB := n1_; clear n0_ n1_; (try clear hb); (try clear hb2); (try clear hk); (try clear hi); (try clear ho0); obtain ⟨Ao11, co11, eo11⟩ := Kd.R_slice HO346.out; subst eo11) | (go_at_call 28; (with_reducible refine (order_Spans.calls _ _ t344 (wrap64 (1 + (Int.tmod (wrap64 (a1)) 6))) ji6 ji7 t347 t348 _ ?side1 ?side2 A8.out).mono ?_); (case side1 => repeat (first | exact (Kd.R_reads' HO346.out).2.2 | (with_reducible refine Kd.C_alloc ?_ _) | (with_reducible refine Kd.C_drewN ?_ _) | (with_reducible refine Kd.C_drew ?_))); (case side2 => exact (Kd.R_reads' HO346.out).2.1); rintro e w12 ⟨v349, rfl, ho0, hb⟩; have n0_ := Aside0.mk (Kd.R_below (by (with_reducible repeat (first | apply Kd.R_alloc | apply Kd.R_drewN | apply Kd.R_drew)); exact HO346.out) hb); have n1_ := Aside0.mk (Kd.R_lower ho0 (below_size (by repeat (first | (with_reducible first | exact HB.out | apply below_alloc | apply pw_below_drewN | apply below_drew1) | exact HB.out)))); have n2_ := Aside0.mk (below_step (by repeat (first | (with_reducible first | exact HB.out | apply below_alloc | apply pw_below_drewN | apply below_drew1) | exact HB.out)) hb); clear HO346; clear HB; have HO346 := n0_; have HO350 := n1_; have HB := n2_; clear n0_ n1_ n2_; (try clear hb); (try clear hb2); (try clear hk); (try clear hi); (try clear ho0)))
 repeat (go_quiet (first | (go_at_call 19; (with_reducible refine (letterbaglaw35_Built.calls k _ _ l0 t344 _ ?side1 ?side2 A5.out).mono ?_); (case side1 => repeat (first | exact HR0.out | (with_reducible refine Kd.C_alloc ?_ _) | (with_reducible refine Kd.C_drewN ?_ _) | (with_reducible refine Kd.C_drew ?_))); (case side2 => exact HC0.out); rintro e w10 ⟨v345, rfl, ho0, hb⟩; have n0_ := Aside0.mk (Kd.R_lower ho0 (below_size (by repeat (first | (with_reducible first | exact HB.out | apply below_alloc | apply pw_below_drewN | apply below_drew1) | exact HB.out)))); have n1_ := Aside0.mk (below_step (by repeat (first | (with_reducible first | exact HB.out | apply below_alloc | apply pw_below_drewN | apply below_drew1) | exact HB.out)) hb); clear HB; have HO346 := n0_; have HB := n1_; clear n0_ n1_; (try clear hb); (try clear hb2); (try clear hk); (try clear hi); (try clear ho0); obtain ⟨Ao11, co11, eo11⟩ := Kd.R_slice HO346.out; subst eo11) | (go_at_call 28; (with_reducible refine (order_Spans.calls _ _ t344 (wrap64 (1 + (Int.tmod (wrap64 (a1)) 6))) ji6 ji7 t347 t348 _ ?side1 ?side2 A8.out).mono ?_); (case side1 => repeat (first | exact (Kd.R_reads' HO346.out).2.2 | (with_reducible refine Kd.C_alloc ?_ _) | (with_reducible refine Kd.C_drewN ?_ _) | (with_reducible refine Kd.C_drew ?_))); (case side2 => exact (Kd.R_reads' HO346.out).2.1); rintro e w12 ⟨v349, rfl, ho0, hb⟩; have n0_ := Aside0.mk (Kd.R_below (by (with_reducible repeat (first | apply Kd.R_alloc | apply Kd.R_drewN | apply Kd.R_drew)); exact HO346.out) hb); have n1_ := Aside0.mk (Kd.R_lower ho0 (below_size (by repeat (first | (with_reducible first | exact HB.out | apply below_alloc | apply pw_below_drewN | apply below_drew1) | exact HB.out)))); have n2_ := Aside0.mk (below_step (by repeat (first | (with_reducible first | exact HB.out | apply below_alloc | apply pw_below_drewN | apply below_drew1) | exact HB.out)) hb); clear HO346; clear HB; have HO346 := n0_; have HO350 := n1_; have HB := n2_; clear n0_ n1_ n2_; (try clear hb); (try clear hb2); (try clear hk); (try clear hi); (try clear ho0))); go_upto_region 5 with (first | (go_at_call 19; (with_reducible refine (letterbaglaw35_Built.calls k _ _ l0 t344 _ ?side1 ?side2 A5.out).mono ?_); (case side1 => repeat (first | exact HR0.out | (with_reducible refine Kd.C_alloc ?_ _) | (with_reducible refine Kd.C_drewN ?_ _) | (with_reducible refine Kd.C_drew ?_))); (case side2 => exact HC0.out); rintro e w10 ⟨v345, rfl, ho0, hb⟩; have n0_ := Aside0.mk (Kd.R_lower ho0 (below_size (by repeat (first | (with_reducible first | exact HB.out | apply below_alloc | apply pw_below_drewN | apply below_drew1) | exact HB.out)))); have n1_ := Aside0.mk (below_step (by repeat (first | (with_reducible first | exact HB.out | apply below_alloc | apply pw_below_drewN | apply below_drew1) | exact HB.out)) hb); clear HB; have HO346 := n0_; have HB := n1_; clear n0_ n1_; (try clear hb); (try clear hb2); (try clear hk); (try clear hi); (try clear ho0); obtain ⟨Ao11, co11, eo11⟩ := Kd.R_slice HO346.out; subst eo11) | (go_at_call 28; (with_reducible refine (order_Spans.calls _ _ t344 (wrap64 (1 + (Int.tmod (wrap64 (a1)) 6))) ji6 ji7 t347 t348 _ ?side1 ?side2 A8.out).mono ?_); (case side1 => repeat (first | exact (Kd.R_reads' HO346.out).2.2 | (with_reducible refine Kd.C_alloc ?_ _) | (with_reducible refine Kd.C_drewN ?_ _) | (with_reducible refine Kd.C_drew ?_))); (case side2 => exact (Kd.R_reads' HO346.out).2.1); rintro e w12 ⟨v349, rfl, ho0, hb⟩; have n0_ := Aside0.mk (Kd.R_below (by (with_reducible repeat (first | apply Kd.R_alloc | apply Kd.R_drewN | apply Kd.R_drew)); exact HO346.out) hb); have n1_ := Aside0.mk (Kd.R_lower ho0 (below_size (by repeat (first | (with_reducible first | exact HB.out | apply below_alloc | apply pw_below_drewN | apply below_drew1) | exact HB.out)))); have n2_ := Aside0.mk (below_step (by repeat (first | (with_reducible first | exact HB.out | apply below_alloc | apply pw_below_drewN | apply below_drew1) | exact HB.out)) hb); clear HO346; clear HB; have HO346 := n0_; have HO350 := n1_; have HB := n2_; clear n0_ n1_ n2_; (try clear hb); (try clear hb2); (try clear hk); (try clear hi); (try clear ho0))))
 (try simp only [Act.put, List.setIfInBounds_toArray, List.set_cons_zero, List.set_cons_succ])
 go_cut [52] (fun v52 wc => ∃ (kq : Nat) (x52_8 : Bool), v52 = .bool x52_8 ∧ Aside0 (letterbaglaw35_OrderSpans.j0 kq t344 (wrap64 (1 + (Int.tmod (wrap64 (a1)) 6))) ji6 ji7 t347 x52_8 = some r) ∧ Aside0 (kq ≤ k) ∧ Aside0 (Kd.R k41 41 wc w.heap.size (fun _ => True) (.slice Ao11 t344.length co11) t344) ∧ Aside0 (Kd.R k54 54 wc w.heap.size (fun _ => True) v349 t347) ∧ Aside0 (Below w.heap.size w wc))
 case first =>
  have H := HC9.out
  clear HC9
  by_cases c13 : t348 = 0
  ·rw [if_pos c13] at H
   have c13b0 : (t348 == 0) = true := beq_iff_eq.mpr c13
   have c13b1 : (t348 != 0) = false := bne_eq_false_iff_eq.mpr c13
   clear c13
   (first | rw [c13b0] | (simp only [i64_w, i32_w]; rw [c13b0]) | skip)
   have H' := Aside0.mk H
   clear H
   obtain ⟨Ao14, co14, eo14⟩ := Kd.R_slice HO350.out
   subst eo14
   go_wp2
   repeat (go_quiet (fail); try go_wp2)
   go_meet
   case rel => exact ⟨_, (((t347.length : Int) == 0)), (by first | rfl | (simp; done) | (simp [*]; done)), H', ⟨by first | omega | exact Nat.le_refl _⟩, ⟨by (with_reducible repeat (first | apply Kd.R_alloc | apply Kd.R_drewN | apply Kd.R_drew)); exact HO346.out⟩, ⟨by (with_reducible repeat (first | apply Kd.R_alloc | apply Kd.R_drewN | apply Kd.R_drew)); exact HO350.out⟩, ⟨by repeat (first | (with_reducible first | exact HB.out | apply below_alloc | apply pw_below_drewN | apply below_drew1) | exact HB.out)⟩⟩
  ·rw [if_neg c13] at H
   have c13b0 : (t348 == 0) = false := beq_eq_false_iff_ne.mpr c13
   have c13b1 : (t348 != 0) = true := bne_iff_ne.mpr c13
   (first | rw [c13b0] | (simp only [i64_w, i32_w]; rw [c13b0]) | skip)
   have H' := Aside0.mk H
   clear H
   go_wp2
   repeat (go_quiet (fail); try go_wp2)
   go_meet
   case rel => exact ⟨_, (true), (by first | rfl | (simp; done) | (simp [*]; done)), H', ⟨by first | omega | exact Nat.le_refl _⟩, ⟨by (with_reducible repeat (first | apply Kd.R_alloc | apply Kd.R_drewN | apply Kd.R_drew)); exact HO346.out⟩, ⟨by (with_reducible repeat (first | apply Kd.R_alloc | apply Kd.R_drewN | apply Kd.R_drew)); exact HO350.out⟩, ⟨by repeat (first | (with_reducible first | exact HB.out | apply below_alloc | apply pw_below_drewN | apply below_drew1) | exact HB.out)⟩⟩
 case rest =>
  clear HC9
  try clear c1
  try clear p2
  try clear p6
  try clear c7
  try clear c13
  try clear c13b0
  try clear c13b1
  obtain ⟨kq, x52_8, rfl, HA, HJ8, HO_9, HO_13, HB⟩ := hcut
  cases kq with
  | zero => exact absurd HA.out (by simp [letterbaglaw35_OrderSpans.j0])
  | succ kj8 =>
   have H := HA.out
   clear HA
   simp only [letterbaglaw35_OrderSpans.j0] at H
   by_cases c15 : x52_8 = true
   ·subst c15
    have H1 : (some false) = some r := by rw [if_pos rfl] at H; exact H
    clear H
    have H := H1
    clear H1
    obtain rfl := Option.some.inj H
    go_wp2
    repeat (go_quiet (fail); try go_wp2)
    go_ret
    exact ⟨by first | rfl | (simp [errW_none, errW_some] <;> rfl) | (simp only [← hji6, ← hji7]; first | rfl | (simp [errW_none, errW_some] <;> rfl)) | (simp [*, errW_none, errW_some] <;> rfl), by repeat (first | (with_reducible first | exact HB.out | apply below_alloc | apply pw_below_drewN | apply below_drew1) | exact HB.out)⟩
   ·replace c15 := Bool.eq_false_iff.mpr c15
    subst c15
    have H1 : (letterbaglaw35_OrderSpans.l0 kj8 t344 (wrap64 (1 + (Int.tmod (wrap64 (a1)) 6))) ji7 t347 ji6 t347 (t347.length : Int) 0) = some r := by rw [if_neg (show ¬ (false = true) by decide)] at H; exact H
    clear H
    have H := H1
    clear H1
    have H' := Aside0.mk H
    clear H
    obtain ⟨Ao16, co16, eo16⟩ := Kd.R_slice HO_13.out
    subst eo16
    go_wp2
    repeat (go_quiet (fail); try go_wp2)
    go_loopg [15, 56] kj8 (fun kq v15 v56 w' => ∃ (x15_2 : Int) (x56_2 : Int), v15 = .int .i64 x15_2 ∧ v56 = .int .i64 x56_2 ∧ Aside0 (letterbaglaw35_OrderSpans.l0 kq t344 (wrap64 (1 + (Int.tmod (wrap64 (a1)) 6))) ji7 t347 x15_2 t347 (t347.length : Int) x56_2 = some r) ∧ Aside0 (kq ≤ kj8) ∧ Aside0 (Kd.R k41 41 w' w.heap.size (fun _ => True) (.slice Ao11 t344.length co11) t344) ∧ Aside0 (Kd.R k54 54 w' w.heap.size (fun _ => True) (.slice Ao16 t347.length co16) t347) ∧ Aside0 (Kd.R k54 54 w' w.heap.size (fun _ => True) (.slice Ao16 t347.length co16) t347) ∧ Aside0 (Below w.heap.size w w'))
    case atStart => exact ⟨(ji6), (0), (by first | rfl | (simp; done) | (simp only [← hji6] <;> (first | rfl | simp)) | (simp [*]; done)), (by first | rfl | (simp; done) | (simp [*]; done)), H', ⟨Nat.le_refl _⟩, ⟨by (with_reducible repeat (first | apply Kd.R_alloc | apply Kd.R_drewN | apply Kd.R_drew)); exact HO_9.out⟩, ⟨by (with_reducible repeat (first | apply Kd.R_alloc | apply Kd.R_drewN | apply Kd.R_drew)); exact HO_13.out⟩, ⟨by (with_reducible repeat (first | apply Kd.R_alloc | apply Kd.R_drewN | apply Kd.R_drew)); exact HO_13.out⟩, ⟨by repeat (first | (with_reducible first | exact HB.out | apply below_alloc | apply pw_below_drewN | apply below_drew1) | exact HB.out)⟩⟩
    case round =>
     clear H'
     try clear c1
     try clear p2
     try clear p6
     try clear c7
     try clear c13
     try clear c13b0
     try clear c13b1
     try clear c15
     try clear p2
     try clear p6
     obtain ⟨x15_2, x56_2, rfl, rfl, HA, HK2, HO_9, HO_13, HO_54, HB⟩ := hrel
     cases gk with
     | zero => exact absurd HA.out (by simp [letterbaglaw35_OrderSpans.l0])
     | succ k2 =>
      have H := HA.out
      clear HA
      simp only [letterbaglaw35_OrderSpans.l0] at H
      by_cases c17 : x56_2 < (t347.length : Int)
      ·rw [if_pos c17] at H
       have c17b0 : decide (x56_2 < (t347.length : Int)) = true := decide_eq_true c17
       clear c17
       by_cases c18 : 0 ≤ x56_2
       ·rw [if_pos c18] at H
        have c18b0 : decide (0 ≤ x56_2) = true := decide_eq_true c18
        clear c18
        by_cases c19 : x56_2 < (t347.length : Int)
        ·rw [if_pos c19] at H
         have c19b0 : decide (x56_2 < (t347.length : Int)) = true := decide_eq_true c19
         clear c19
         have HC20 := Aside0.mk H
         clear H
         have p352 : 0 ≤ (x56_2 : Int) := of_decide_eq_true (by first | (with_reducible assumption) | assumption)
         have q352 : x56_2 < (t347.length : Int) := of_decide_eq_true (by first | (with_reducible assumption) | assumption)
         obtain ⟨ad352, e352, hx352_0, hx352_1, hx352_2⟩ := at_T54 (Kd.R_reads' HO_54.out).2.2 x56_2 p352 q352
         cases e352
         replace p352 := eq_true p352
         replace q352 := eq_true q352
         go_upto_region 11 with (first | ((with_reducible refine gate_dst (N := 17) rfl ?_); (try (refine gate_guard (by rfl) ?_; dsimp only)); refine box_event ?hg (N := 17) ?hd (cs := #[.int .i64 0, .int .i64 0, .int .i64 0]) (t := 54) ?hr ?_; (case hd => rfl); (case hg => rfl); (case hr => first | (go_simp; done) | (go_simp; rfl)); intro gb353 hg w21 hbox hb; have n0_ := Aside0.mk (Kd.R_below (by (with_reducible repeat (first | apply Kd.R_alloc | apply Kd.R_drewN | apply Kd.R_drew)); exact HO_9.out) hb); have n1_ := Aside0.mk (Kd.R_below (Kd.R_elderB (by (with_reducible repeat (first | apply Kd.R_alloc | apply Kd.R_drewN | apply Kd.R_drew)); exact HO_13.out) gb353 (Nat.le_of_eq hg.symm)) hb); have n2_ := Aside0.mk (Kd.R_below (Kd.R_elderB (by (with_reducible repeat (first | apply Kd.R_alloc | apply Kd.R_drewN | apply Kd.R_drew)); exact HO_54.out) gb353 (Nat.le_of_eq hg.symm)) hb); have n3_ := Aside0.mk (below_step (by repeat (first | (with_reducible first | exact HB.out | apply below_alloc | apply pw_below_drewN | apply below_drew1) | exact HB.out)) hb); have n4_ := Aside0.mk (hbox); have n5_ := Aside0.mk ((by rw [hg]; exact (below_size (by repeat (first | (with_reducible first | exact HB.out | apply below_alloc | apply pw_below_drewN | apply below_drew1) | exact HB.out))) : w.heap.size ≤ gb353)); have n6_ := Aside0.mk ((by rw [hg]; exact (below_size (by repeat (first | (with_reducible first | exact HB.out | apply below_alloc | apply pw_below_drewN | apply below_drew1) | exact HB.out))) : w.heap.size ≤ gb353)); clear HO_9; clear HO_13; clear HO_54; clear HB; have HO_9 := n0_; have HO_13 := n1_; have HO_54 := n2_; have HB := n3_; have BK353 := n4_; have GW353 := n5_; have GE353 := n6_; clear n0_ n1_ n2_ n3_ n4_ n5_ n6_; clear hb hbox hg; have hcz22_0 : w21.cell? ⟨gb353, 0, none⟩ = some (.int .i64 0) := (blk_cell BK353.out 0).trans rfl; have hcz22_1 : w21.cell? ⟨gb353, 1, none⟩ = some (.int .i64 0) := (blk_cell BK353.out 1).trans rfl; have hcz22_2 : w21.cell? ⟨gb353, 2, none⟩ = some (.int .i64 0) := (blk_cell BK353.out 2).trans rfl; have hfz22_0 := blk_frozen BK353.out 0; have hfz22_1 := blk_frozen BK353.out 1; have hfz22_2 := blk_frozen BK353.out 2))
         repeat (go_quiet (first | ((with_reducible refine gate_dst (N := 17) rfl ?_); (try (refine gate_guard (by rfl) ?_; dsimp only)); refine box_event ?hg (N := 17) ?hd (cs := #[.int .i64 0, .int .i64 0, .int .i64 0]) (t := 54) ?hr ?_; (case hd => rfl); (case hg => rfl); (case hr => first | (go_simp; done) | (go_simp; rfl)); intro gb353 hg w21 hbox hb; have n0_ := Aside0.mk (Kd.R_below (by (with_reducible repeat (first | apply Kd.R_alloc | apply Kd.R_drewN | apply Kd.R_drew)); exact HO_9.out) hb); have n1_ := Aside0.mk (Kd.R_below (Kd.R_elderB (by (with_reducible repeat (first | apply Kd.R_alloc | apply Kd.R_drewN | apply Kd.R_drew)); exact HO_13.out) gb353 (Nat.le_of_eq hg.symm)) hb); have n2_ := Aside0.mk (Kd.R_below (Kd.R_elderB (by (with_reducible repeat (first | apply Kd.R_alloc | apply Kd.R_drewN | apply Kd.R_drew)); exact HO_54.out) gb353 (Nat.le_of_eq hg.symm)) hb); have n3_ := Aside0.mk (below_step (by repeat (first | (with_reducible first | exact HB.out | apply below_alloc | apply pw_below_drewN | apply below_drew1) | exact HB.out)) hb); have n4_ := Aside0.mk (hbox); have n5_ := Aside0.mk ((by rw [hg]; exact (below_size (by repeat (first | (with_reducible first | exact HB.out | apply below_alloc | apply pw_below_drewN | apply below_drew1) | exact HB.out))) : w.heap.size ≤ gb353)); have n6_ := Aside0.mk ((by rw [hg]; exact (below_size (by repeat (first | (with_reducible first | exact HB.out | apply below_alloc | apply pw_below_drewN | apply below_drew1) | exact HB.out))) : w.heap.size ≤ gb353)); clear HO_9; clear HO_13; clear HO_54; clear HB; have HO_9 := n0_; have HO_13 := n1_; have HO_54 := n2_; have HB := n3_; have BK353 := n4_; have GW353 := n5_; have GE353 := n6_; clear n0_ n1_ n2_ n3_ n4_ n5_ n6_; clear hb hbox hg; have hcz22_0 : w21.cell? ⟨gb353, 0, none⟩ = some (.int .i64 0) := (blk_cell BK353.out 0).trans rfl; have hcz22_1 : w21.cell? ⟨gb353, 1, none⟩ = some (.int .i64 0) := (blk_cell BK353.out 1).trans rfl; have hcz22_2 : w21.cell? ⟨gb353, 2, none⟩ = some (.int .i64 0) := (blk_cell BK353.out 2).trans rfl; have hfz22_0 := blk_frozen BK353.out 0; have hfz22_1 := blk_frozen BK353.out 1; have hfz22_2 := blk_frozen BK353.out 2)); go_upto_region 11 with (first | ((with_reducible refine gate_dst (N := 17) rfl ?_); (try (refine gate_guard (by rfl) ?_; dsimp only)); refine box_event ?hg (N := 17) ?hd (cs := #[.int .i64 0, .int .i64 0, .int .i64 0]) (t := 54) ?hr ?_; (case hd => rfl); (case hg => rfl); (case hr => first | (go_simp; done) | (go_simp; rfl)); intro gb353 hg w21 hbox hb; have n0_ := Aside0.mk (Kd.R_below (by (with_reducible repeat (first | apply Kd.R_alloc | apply Kd.R_drewN | apply Kd.R_drew)); exact HO_9.out) hb); have n1_ := Aside0.mk (Kd.R_below (Kd.R_elderB (by (with_reducible repeat (first | apply Kd.R_alloc | apply Kd.R_drewN | apply Kd.R_drew)); exact HO_13.out) gb353 (Nat.le_of_eq hg.symm)) hb); have n2_ := Aside0.mk (Kd.R_below (Kd.R_elderB (by (with_reducible repeat (first | apply Kd.R_alloc | apply Kd.R_drewN | apply Kd.R_drew)); exact HO_54.out) gb353 (Nat.le_of_eq hg.symm)) hb); have n3_ := Aside0.mk (below_step (by repeat (first | (with_reducible first | exact HB.out | apply below_alloc | apply pw_below_drewN | apply below_drew1) | exact HB.out)) hb); have n4_ := Aside0.mk (hbox); have n5_ := Aside0.mk ((by rw [hg]; exact (below_size (by repeat (first | (with_reducible first | exact HB.out | apply below_alloc | apply pw_below_drewN | apply below_drew1) | exact HB.out))) : w.heap.size ≤ gb353)); have n6_ := Aside0.mk ((by rw [hg]; exact (below_size (by repeat (first | (with_reducible first | exact HB.out | apply below_alloc | apply pw_below_drewN | apply below_drew1) | exact HB.out))) : w.heap.size ≤ gb353)); clear HO_9; clear HO_13; clear HO_54; clear HB; have HO_9 := n0_; have HO_13 := n1_; have HO_54 := n2_; have HB := n3_; have BK353 := n4_; have GW353 := n5_; have GE353 := n6_; clear n0_ n1_ n2_ n3_ n4_ n5_ n6_; clear hb hbox hg; have hcz22_0 : w21.cell? ⟨gb353, 0, none⟩ = some (.int .i64 0) := (blk_cell BK353.out 0).trans rfl; have hcz22_1 : w21.cell? ⟨gb353, 1, none⟩ = some (.int .i64 0) := (blk_cell BK353.out 1).trans rfl; have hcz22_2 : w21.cell? ⟨gb353, 2, none⟩ = some (.int .i64 0) := (blk_cell BK353.out 2).trans rfl; have hfz22_0 := blk_frozen BK353.out 0; have hfz22_1 := blk_frozen BK353.out 1; have hfz22_2 := blk_frozen BK353.out 2)))
         (try simp only [Act.put, List.setIfInBounds_toArray, List.set_cons_zero, List.set_cons_succ])
         go_cut [86] (fun v86 wc => ∃ (kq : Nat) (x86_19 : Bool), v86 = .bool x86_19 ∧ Aside0 (letterbaglaw35_OrderSpans.j2 kq t344 (wrap64 (1 + (Int.tmod (wrap64 (a1)) 6))) ji7 t347 x15_2 t347 (t347.length : Int) x56_2 x86_19 ((rd_T54 t347 x56_2).f0) ((rd_T54 t347 x56_2).f1) ((rd_T54 t347 x56_2).f2) = some r) ∧ Aside0 (kq ≤ k2) ∧ Aside0 (Kd.R k41 41 wc w.heap.size (fun _ => True) (.slice Ao11 t344.length co11) t344) ∧ Aside0 (Kd.R k54 54 wc w.heap.size (fun k_ => k_ ≠ gb353) (.slice (some ad352) t347.length co16) t347) ∧ Aside0 (Kd.R k54 54 wc w.heap.size (fun k_ => k_ ≠ gb353) (.slice (some ad352) t347.length co16) t347) ∧ Aside0 (wc.heap[gb353]? = some (.cells #[.int .i64 ((rd_T54 t347 x56_2).f0), .int .i64 ((rd_T54 t347 x56_2).f1), .int .i64 ((rd_T54 t347 x56_2).f2)] 54 (0, 0))) ∧ Aside0 (Below w.heap.size w wc))
         case first =>
          have H := HC20.out
          clear HC20
          by_cases c23 : ((rd_T54 t347 x56_2).f0) = x15_2
          ·rw [if_pos c23] at H
           have c23b0 : (((rd_T54 t347 x56_2).f0) == x15_2) = true := beq_iff_eq.mpr c23
           have c23b1 : (((rd_T54 t347 x56_2).f0) != x15_2) = false := bne_eq_false_iff_eq.mpr c23
           clear c23
           (first | rw [c23b0] | (simp only [i64_w, i32_w]; rw [c23b0]) | skip)
           by_cases c24 : ((rd_T54 t347 x56_2).f1) < ((rd_T54 t347 x56_2).f0)
           ·rw [if_pos c24] at H
            have c24b0 : decide (((rd_T54 t347 x56_2).f1) < ((rd_T54 t347 x56_2).f0)) = true := decide_eq_true c24
            clear c24
            have H' := Aside0.mk H
            clear H
            have hcz25_0 : w21.cell? ⟨gb353, 0, none⟩ = some (.int .i64 0) := (blk_cell BK353.out 0).trans rfl
            have hcz25_1 : w21.cell? ⟨gb353, 1, none⟩ = some (.int .i64 0) := (blk_cell BK353.out 1).trans rfl
            have hcz25_2 : w21.cell? ⟨gb353, 2, none⟩ = some (.int .i64 0) := (blk_cell BK353.out 2).trans rfl
            have hfz25_0 := blk_frozen BK353.out 0
            have hfz25_1 := blk_frozen BK353.out 1
            have hfz25_2 := blk_frozen BK353.out 2
            go_wp2
            repeat (go_quiet (fail); try go_wp2)
            go_meet
            case rel => exact ⟨_, (true), (by first | rfl | (simp; done) | (simp [*]; done)), H', ⟨by have := HJ8.out; have := HK2.out; first | omega | exact Nat.le_refl _⟩, ⟨by (with_reducible repeat (first | apply Kd.R_alloc | apply Kd.R_drewN | apply Kd.R_drew)); exact Kd.R_mono (Kd.R_far (p := ⟨gb353, 2, none⟩) (Kd.R_far (p := ⟨gb353, 1, none⟩) (Kd.R_far (p := ⟨gb353, 0, none⟩) (Kd.R_types HO_9.out BK353.out (by decide)) (fun _ hk => hk.2) (.int .i64 ((rd_T54 t347 x56_2).f0))) (fun _ hk => hk.2) (.int .i64 ((rd_T54 t347 x56_2).f1))) (fun _ hk => hk.2) (.int .i64 ((rd_T54 t347 x56_2).f2))) (fun _ hk => trivial)⟩, ⟨by (with_reducible repeat (first | apply Kd.R_alloc | apply Kd.R_drewN | apply Kd.R_drew)); exact Kd.R_mono (Kd.R_far (p := ⟨gb353, 2, none⟩) (Kd.R_far (p := ⟨gb353, 1, none⟩) (Kd.R_far (p := ⟨gb353, 0, none⟩) (Kd.R_mono HO_13.out (fun k_ hk => (⟨hk, hk.2⟩ : _ ∧ k_ ≠ gb353))) (fun _ hk => hk.2) (.int .i64 ((rd_T54 t347 x56_2).f0))) (fun _ hk => hk.2) (.int .i64 ((rd_T54 t347 x56_2).f1))) (fun _ hk => hk.2) (.int .i64 ((rd_T54 t347 x56_2).f2))) (fun _ hk => hk.1.2)⟩, ⟨by (with_reducible repeat (first | apply Kd.R_alloc | apply Kd.R_drewN | apply Kd.R_drew)); exact Kd.R_mono (Kd.R_far (p := ⟨gb353, 2, none⟩) (Kd.R_far (p := ⟨gb353, 1, none⟩) (Kd.R_far (p := ⟨gb353, 0, none⟩) (Kd.R_mono HO_54.out (fun k_ hk => (⟨hk, hk.2⟩ : _ ∧ k_ ≠ gb353))) (fun _ hk => hk.2) (.int .i64 ((rd_T54 t347 x56_2).f0))) (fun _ hk => hk.2) (.int .i64 ((rd_T54 t347 x56_2).f1))) (fun _ hk => hk.2) (.int .i64 ((rd_T54 t347 x56_2).f2))) (fun _ hk => hk.1.2)⟩, ⟨by (with_reducible repeat (first | refine blk_drewN ?_ _ | refine blk_drew ?_ | refine blk_alloc ?_ _)); refine blk_put (cs := #[.int .i64 ((rd_T54 t347 x56_2).f0), .int .i64 ((rd_T54 t347 x56_2).f1), .int .i64 0]) ?_ 2 _ rfl; (with_reducible repeat (first | refine blk_drewN ?_ _ | refine blk_drew ?_ | refine blk_alloc ?_ _)); refine blk_put (cs := #[.int .i64 ((rd_T54 t347 x56_2).f0), .int .i64 0, .int .i64 0]) ?_ 1 _ rfl; (with_reducible repeat (first | refine blk_drewN ?_ _ | refine blk_drew ?_ | refine blk_alloc ?_ _)); refine blk_put (cs := #[.int .i64 0, .int .i64 0, .int .i64 0]) ?_ 0 _ rfl; (with_reducible repeat (first | refine blk_drewN ?_ _ | refine blk_drew ?_ | refine blk_alloc ?_ _)); exact BK353.out⟩, ⟨by repeat (first | (with_reducible first | exact HB.out | apply below_alloc | apply pw_below_drewN | apply below_drew1 | refine below_set ?_ GE353.out) | exact HB.out)⟩⟩
           ·rw [if_neg c24] at H
            have c24b0 : decide (((rd_T54 t347 x56_2).f1) < ((rd_T54 t347 x56_2).f0)) = false := decide_eq_false c24
            clear c24
            by_cases c26 : x56_2 > 0
            ·rw [if_pos c26] at H
             have c26b0 : decide (0 < x56_2) = true := decide_eq_true c26
             clear c26
             obtain ⟨ji27, hji27⟩ : ∃ j_ : Int, (wrap64 (x56_2 - 1)) = j_ := ⟨_, rfl⟩
             replace H : (if 0 ≤ (ji27) then (if (ji27) < (t347.length : Int) then (letterbaglaw35_OrderSpans.j2 k2 t344 (wrap64 (1 + (Int.tmod (wrap64 (a1)) 6))) ji7 t347 x15_2 t347 (t347.length : Int) x56_2 (((rd_T54 t347 x56_2).f2) == ((rd_T54 t347 (ji27)).f2)) ((rd_T54 t347 x56_2).f0) ((rd_T54 t347 x56_2).f1) ((rd_T54 t347 x56_2).f2)) else (none)) else (none)) = some r := by first | (rw [hji27] at H; exact H) | (simp only [hji27] at H ⊢; exact H)
             have hji27w : (IntKind.i64.wrap (x56_2 - 1)) = ji27 := (i64_w _).trans hji27
             by_cases c28 : 0 ≤ (ji27)
             ·rw [if_pos c28] at H
              have c28b0 : decide (0 ≤ (ji27)) = true := decide_eq_true c28
              clear c28
              by_cases c29 : (ji27) < (t347.length : Int)
              ·rw [if_pos c29] at H
               have c29b0 : decide ((ji27) < (t347.length : Int)) = true := decide_eq_true c29
               clear c29
               have H' := Aside0.mk H
               clear H
               have hcz30_0 : w21.cell? ⟨gb353, 0, none⟩ = some (.int .i64 0) := (blk_cell BK353.out 0).trans rfl
               have hcz30_1 : w21.cell? ⟨gb353, 1, none⟩ = some (.int .i64 0) := (blk_cell BK353.out 1).trans rfl
               have hcz30_2 : w21.cell? ⟨gb353, 2, none⟩ = some (.int .i64 0) := (blk_cell BK353.out 2).trans rfl
               have hfz30_0 := blk_frozen BK353.out 0
               have hfz30_1 := blk_frozen BK353.out 1
               have hfz30_2 := blk_frozen BK353.out 2
               have p354 : 0 ≤ ((ji27) : Int) := of_decide_eq_true (by first | (with_reducible assumption) | assumption)
               have q354 : (ji27) < (t347.length : Int) := of_decide_eq_true (by first | (with_reducible assumption) | assumption)
               obtain ⟨ad354, e354, hx354_0, hx354_1, hx354_2⟩ := at_T54 (Kd.R_reads' HO_13.out).2.2 (ji27) p354 q354
               obtain rfl : ad352 = ad354 := (by injection e354)
               have hn354_0 : ad352.block ≠ gb353 := (HO_13.out.1 _ rfl).2
               have hn354_1 : ad352.block ≠ gb353 := (HO_13.out.1 _ rfl).2
               have hn354_2 : ad352.block ≠ gb353 := (HO_13.out.1 _ rfl).2
               replace hx354_0 := (cell_far (p := ⟨gb353, 0, none⟩) (by first | (rw [add_block]; exact hn354_0) | (show (Addr.add _ _).block ≠ _; rw [add_block]; exact hn354_0) | exact hn354_0) (.int .i64 ((rd_T54 t347 x56_2).f0))).trans hx354_0
               replace hx354_1 := (cell_far (p := ⟨gb353, 0, none⟩) (by first | (rw [add_block]; exact hn354_0) | (show (Addr.add _ _).block ≠ _; rw [add_block]; exact hn354_0) | exact hn354_0) (.int .i64 ((rd_T54 t347 x56_2).f0))).trans hx354_1
               replace hx354_2 := (cell_far (p := ⟨gb353, 0, none⟩) (by first | (rw [add_block]; exact hn354_0) | (show (Addr.add _ _).block ≠ _; rw [add_block]; exact hn354_0) | exact hn354_0) (.int .i64 ((rd_T54 t347 x56_2).f0))).trans hx354_2
               replace hx354_0 := (cell_far (p := ⟨gb353, 1, none⟩) (by first | (rw [add_block]; exact hn354_1) | (show (Addr.add _ _).block ≠ _; rw [add_block]; exact hn354_1) | exact hn354_1) (.int .i64 ((rd_T54 t347 x56_2).f1))).trans hx354_0
               replace hx354_1 := (cell_far (p := ⟨gb353, 1, none⟩) (by first | (rw [add_block]; exact hn354_1) | (show (Addr.add _ _).block ≠ _; rw [add_block]; exact hn354_1) | exact hn354_1) (.int .i64 ((rd_T54 t347 x56_2).f1))).trans hx354_1
               replace hx354_2 := (cell_far (p := ⟨gb353, 1, none⟩) (by first | (rw [add_block]; exact hn354_1) | (show (Addr.add _ _).block ≠ _; rw [add_block]; exact hn354_1) | exact hn354_1) (.int .i64 ((rd_T54 t347 x56_2).f1))).trans hx354_2
               replace hx354_0 := (cell_far (p := ⟨gb353, 2, none⟩) (by first | (rw [add_block]; exact hn354_2) | (show (Addr.add _ _).block ≠ _; rw [add_block]; exact hn354_2) | exact hn354_2) (.int .i64 ((rd_T54 t347 x56_2).f2))).trans hx354_0
               replace hx354_1 := (cell_far (p := ⟨gb353, 2, none⟩) (by first | (rw [add_block]; exact hn354_2) | (show (Addr.add _ _).block ≠ _; rw [add_block]; exact hn354_2) | exact hn354_2) (.int .i64 ((rd_T54 t347 x56_2).f2))).trans hx354_1
               replace hx354_2 := (cell_far (p := ⟨gb353, 2, none⟩) (by first | (rw [add_block]; exact hn354_2) | (show (Addr.add _ _).block ≠ _; rw [add_block]; exact hn354_2) | exact hn354_2) (.int .i64 ((rd_T54 t347 x56_2).f2))).trans hx354_2
               (try have hy354_0 := fun (n_ : Nat) => (show (((((w21.drewN n_).setCell ⟨gb353, 0, none⟩ (.int .i64 ((rd_T54 t347 x56_2).f0))).setCell ⟨gb353, 1, none⟩ (.int .i64 ((rd_T54 t347 x56_2).f1))).setCell ⟨gb353, 2, none⟩ (.int .i64 ((rd_T54 t347 x56_2).f2)))).cell? _ = some _ from hx354_0))
               (try have hy354_1 := fun (n_ : Nat) => (show (((((w21.drewN n_).setCell ⟨gb353, 0, none⟩ (.int .i64 ((rd_T54 t347 x56_2).f0))).setCell ⟨gb353, 1, none⟩ (.int .i64 ((rd_T54 t347 x56_2).f1))).setCell ⟨gb353, 2, none⟩ (.int .i64 ((rd_T54 t347 x56_2).f2)))).cell? _ = some _ from hx354_1))
               (try have hy354_2 := fun (n_ : Nat) => (show (((((w21.drewN n_).setCell ⟨gb353, 0, none⟩ (.int .i64 ((rd_T54 t347 x56_2).f0))).setCell ⟨gb353, 1, none⟩ (.int .i64 ((rd_T54 t347 x56_2).f1))).setCell ⟨gb353, 2, none⟩ (.int .i64 ((rd_T54 t347 x56_2).f2)))).cell? _ = some _ from hx354_2))
               clear hn354_0
               clear hn354_1
               clear hn354_2
               replace p354 := eq_true p354
               replace q354 := eq_true q354
               go_wp2
               repeat (go_quiet (fail); try go_wp2)
               go_meet
               case rel => exact ⟨_, ((((rd_T54 t347 x56_2).f2) == ((rd_T54 t347 (ji27)).f2))), (by first | rfl | (simp; done) | (simp only [← hji27] <;> (first | rfl | simp)) | (simp [*]; done)), H', ⟨by have := HJ8.out; have := HK2.out; first | omega | exact Nat.le_refl _⟩, ⟨by (with_reducible repeat (first | apply Kd.R_alloc | apply Kd.R_drewN | apply Kd.R_drew)); exact Kd.R_mono (Kd.R_far (p := ⟨gb353, 2, none⟩) (Kd.R_far (p := ⟨gb353, 1, none⟩) (Kd.R_far (p := ⟨gb353, 0, none⟩) (Kd.R_types HO_9.out BK353.out (by decide)) (fun _ hk => hk.2) (.int .i64 ((rd_T54 t347 x56_2).f0))) (fun _ hk => hk.2) (.int .i64 ((rd_T54 t347 x56_2).f1))) (fun _ hk => hk.2) (.int .i64 ((rd_T54 t347 x56_2).f2))) (fun _ hk => trivial)⟩, ⟨by (with_reducible repeat (first | apply Kd.R_alloc | apply Kd.R_drewN | apply Kd.R_drew)); exact Kd.R_mono (Kd.R_far (p := ⟨gb353, 2, none⟩) (Kd.R_far (p := ⟨gb353, 1, none⟩) (Kd.R_far (p := ⟨gb353, 0, none⟩) (Kd.R_mono HO_13.out (fun k_ hk => (⟨hk, hk.2⟩ : _ ∧ k_ ≠ gb353))) (fun _ hk => hk.2) (.int .i64 ((rd_T54 t347 x56_2).f0))) (fun _ hk => hk.2) (.int .i64 ((rd_T54 t347 x56_2).f1))) (fun _ hk => hk.2) (.int .i64 ((rd_T54 t347 x56_2).f2))) (fun _ hk => hk.1.2)⟩, ⟨by (with_reducible repeat (first | apply Kd.R_alloc | apply Kd.R_drewN | apply Kd.R_drew)); exact Kd.R_mono (Kd.R_far (p := ⟨gb353, 2, none⟩) (Kd.R_far (p := ⟨gb353, 1, none⟩) (Kd.R_far (p := ⟨gb353, 0, none⟩) (Kd.R_mono HO_54.out (fun k_ hk => (⟨hk, hk.2⟩ : _ ∧ k_ ≠ gb353))) (fun _ hk => hk.2) (.int .i64 ((rd_T54 t347 x56_2).f0))) (fun _ hk => hk.2) (.int .i64 ((rd_T54 t347 x56_2).f1))) (fun _ hk => hk.2) (.int .i64 ((rd_T54 t347 x56_2).f2))) (fun _ hk => hk.1.2)⟩, ⟨by (with_reducible repeat (first | refine blk_drewN ?_ _ | refine blk_drew ?_ | refine blk_alloc ?_ _)); refine blk_put (cs := #[.int .i64 ((rd_T54 t347 x56_2).f0), .int .i64 ((rd_T54 t347 x56_2).f1), .int .i64 0]) ?_ 2 _ rfl; (with_reducible repeat (first | refine blk_drewN ?_ _ | refine blk_drew ?_ | refine blk_alloc ?_ _)); refine blk_put (cs := #[.int .i64 ((rd_T54 t347 x56_2).f0), .int .i64 0, .int .i64 0]) ?_ 1 _ rfl; (with_reducible repeat (first | refine blk_drewN ?_ _ | refine blk_drew ?_ | refine blk_alloc ?_ _)); refine blk_put (cs := #[.int .i64 0, .int .i64 0, .int .i64 0]) ?_ 0 _ rfl; (with_reducible repeat (first | refine blk_drewN ?_ _ | refine blk_drew ?_ | refine blk_alloc ?_ _)); exact BK353.out⟩, ⟨by repeat (first | (with_reducible first | exact HB.out | apply below_alloc | apply pw_below_drewN | apply below_drew1 | refine below_set ?_ GE353.out) | exact HB.out)⟩⟩
              ·rw [if_neg c29] at H
               exact absurd H (by simp)
             ·rw [if_neg c28] at H
              exact absurd H (by simp)
            ·rw [if_neg c26] at H
             have c26b0 : decide (0 < x56_2) = false := decide_eq_false c26
             clear c26
             have H' := Aside0.mk H
             clear H
             have hcz31_0 : w21.cell? ⟨gb353, 0, none⟩ = some (.int .i64 0) := (blk_cell BK353.out 0).trans rfl
             have hcz31_1 : w21.cell? ⟨gb353, 1, none⟩ = some (.int .i64 0) := (blk_cell BK353.out 1).trans rfl
             have hcz31_2 : w21.cell? ⟨gb353, 2, none⟩ = some (.int .i64 0) := (blk_cell BK353.out 2).trans rfl
             have hfz31_0 := blk_frozen BK353.out 0
             have hfz31_1 := blk_frozen BK353.out 1
             have hfz31_2 := blk_frozen BK353.out 2
             go_wp2
             repeat (go_quiet (fail); try go_wp2)
             go_meet
             case rel => exact ⟨_, (false), (by first | rfl | (simp; done) | (simp [*]; done)), H', ⟨by have := HJ8.out; have := HK2.out; first | omega | exact Nat.le_refl _⟩, ⟨by (with_reducible repeat (first | apply Kd.R_alloc | apply Kd.R_drewN | apply Kd.R_drew)); exact Kd.R_mono (Kd.R_far (p := ⟨gb353, 2, none⟩) (Kd.R_far (p := ⟨gb353, 1, none⟩) (Kd.R_far (p := ⟨gb353, 0, none⟩) (Kd.R_types HO_9.out BK353.out (by decide)) (fun _ hk => hk.2) (.int .i64 ((rd_T54 t347 x56_2).f0))) (fun _ hk => hk.2) (.int .i64 ((rd_T54 t347 x56_2).f1))) (fun _ hk => hk.2) (.int .i64 ((rd_T54 t347 x56_2).f2))) (fun _ hk => trivial)⟩, ⟨by (with_reducible repeat (first | apply Kd.R_alloc | apply Kd.R_drewN | apply Kd.R_drew)); exact Kd.R_mono (Kd.R_far (p := ⟨gb353, 2, none⟩) (Kd.R_far (p := ⟨gb353, 1, none⟩) (Kd.R_far (p := ⟨gb353, 0, none⟩) (Kd.R_mono HO_13.out (fun k_ hk => (⟨hk, hk.2⟩ : _ ∧ k_ ≠ gb353))) (fun _ hk => hk.2) (.int .i64 ((rd_T54 t347 x56_2).f0))) (fun _ hk => hk.2) (.int .i64 ((rd_T54 t347 x56_2).f1))) (fun _ hk => hk.2) (.int .i64 ((rd_T54 t347 x56_2).f2))) (fun _ hk => hk.1.2)⟩, ⟨by (with_reducible repeat (first | apply Kd.R_alloc | apply Kd.R_drewN | apply Kd.R_drew)); exact Kd.R_mono (Kd.R_far (p := ⟨gb353, 2, none⟩) (Kd.R_far (p := ⟨gb353, 1, none⟩) (Kd.R_far (p := ⟨gb353, 0, none⟩) (Kd.R_mono HO_54.out (fun k_ hk => (⟨hk, hk.2⟩ : _ ∧ k_ ≠ gb353))) (fun _ hk => hk.2) (.int .i64 ((rd_T54 t347 x56_2).f0))) (fun _ hk => hk.2) (.int .i64 ((rd_T54 t347 x56_2).f1))) (fun _ hk => hk.2) (.int .i64 ((rd_T54 t347 x56_2).f2))) (fun _ hk => hk.1.2)⟩, ⟨by (with_reducible repeat (first | refine blk_drewN ?_ _ | refine blk_drew ?_ | refine blk_alloc ?_ _)); refine blk_put (cs := #[.int .i64 ((rd_T54 t347 x56_2).f0), .int .i64 ((rd_T54 t347 x56_2).f1), .int .i64 0]) ?_ 2 _ rfl; (with_reducible repeat (first | refine blk_drewN ?_ _ | refine blk_drew ?_ | refine blk_alloc ?_ _)); refine blk_put (cs := #[.int .i64 ((rd_T54 t347 x56_2).f0), .int .i64 0, .int .i64 0]) ?_ 1 _ rfl; (with_reducible repeat (first | refine blk_drewN ?_ _ | refine blk_drew ?_ | refine blk_alloc ?_ _)); refine blk_put (cs := #[.int .i64 0, .int .i64 0, .int .i64 0]) ?_ 0 _ rfl; (with_reducible repeat (first | refine blk_drewN ?_ _ | refine blk_drew ?_ | refine blk_alloc ?_ _)); exact BK353.out⟩, ⟨by repeat (first | (with_reducible first | exact HB.out | apply below_alloc | apply pw_below_drewN | apply below_drew1 | refine below_set ?_ GE353.out) | exact HB.out)⟩⟩
          ·rw [if_neg c23] at H
           have c23b0 : (((rd_T54 t347 x56_2).f0) == x15_2) = false := beq_eq_false_iff_ne.mpr c23
           have c23b1 : (((rd_T54 t347 x56_2).f0) != x15_2) = true := bne_iff_ne.mpr c23
           (first | rw [c23b0] | (simp only [i64_w, i32_w]; rw [c23b0]) | skip)
           have H' := Aside0.mk H
           clear H
           have hcz32_0 : w21.cell? ⟨gb353, 0, none⟩ = some (.int .i64 0) := (blk_cell BK353.out 0).trans rfl
           have hcz32_1 : w21.cell? ⟨gb353, 1, none⟩ = some (.int .i64 0) := (blk_cell BK353.out 1).trans rfl
           have hcz32_2 : w21.cell? ⟨gb353, 2, none⟩ = some (.int .i64 0) := (blk_cell BK353.out 2).trans rfl
           have hfz32_0 := blk_frozen BK353.out 0
           have hfz32_1 := blk_frozen BK353.out 1
           have hfz32_2 := blk_frozen BK353.out 2
           go_wp2
           repeat (go_quiet (fail); try go_wp2)
           go_meet
           case rel => exact ⟨_, (true), (by first | rfl | (simp; done) | (simp [*]; done)), H', ⟨by have := HJ8.out; have := HK2.out; first | omega | exact Nat.le_refl _⟩, ⟨by (with_reducible repeat (first | apply Kd.R_alloc | apply Kd.R_drewN | apply Kd.R_drew)); exact Kd.R_mono (Kd.R_far (p := ⟨gb353, 2, none⟩) (Kd.R_far (p := ⟨gb353, 1, none⟩) (Kd.R_far (p := ⟨gb353, 0, none⟩) (Kd.R_types HO_9.out BK353.out (by decide)) (fun _ hk => hk.2) (.int .i64 ((rd_T54 t347 x56_2).f0))) (fun _ hk => hk.2) (.int .i64 ((rd_T54 t347 x56_2).f1))) (fun _ hk => hk.2) (.int .i64 ((rd_T54 t347 x56_2).f2))) (fun _ hk => trivial)⟩, ⟨by (with_reducible repeat (first | apply Kd.R_alloc | apply Kd.R_drewN | apply Kd.R_drew)); exact Kd.R_mono (Kd.R_far (p := ⟨gb353, 2, none⟩) (Kd.R_far (p := ⟨gb353, 1, none⟩) (Kd.R_far (p := ⟨gb353, 0, none⟩) (Kd.R_mono HO_13.out (fun k_ hk => (⟨hk, hk.2⟩ : _ ∧ k_ ≠ gb353))) (fun _ hk => hk.2) (.int .i64 ((rd_T54 t347 x56_2).f0))) (fun _ hk => hk.2) (.int .i64 ((rd_T54 t347 x56_2).f1))) (fun _ hk => hk.2) (.int .i64 ((rd_T54 t347 x56_2).f2))) (fun _ hk => hk.1.2)⟩, ⟨by (with_reducible repeat (first | apply Kd.R_alloc | apply Kd.R_drewN | apply Kd.R_drew)); exact Kd.R_mono (Kd.R_far (p := ⟨gb353, 2, none⟩) (Kd.R_far (p := ⟨gb353, 1, none⟩) (Kd.R_far (p := ⟨gb353, 0, none⟩) (Kd.R_mono HO_54.out (fun k_ hk => (⟨hk, hk.2⟩ : _ ∧ k_ ≠ gb353))) (fun _ hk => hk.2) (.int .i64 ((rd_T54 t347 x56_2).f0))) (fun _ hk => hk.2) (.int .i64 ((rd_T54 t347 x56_2).f1))) (fun _ hk => hk.2) (.int .i64 ((rd_T54 t347 x56_2).f2))) (fun _ hk => hk.1.2)⟩, ⟨by (with_reducible repeat (first | refine blk_drewN ?_ _ | refine blk_drew ?_ | refine blk_alloc ?_ _)); refine blk_put (cs := #[.int .i64 ((rd_T54 t347 x56_2).f0), .int .i64 ((rd_T54 t347 x56_2).f1), .int .i64 0]) ?_ 2 _ rfl; (with_reducible repeat (first | refine blk_drewN ?_ _ | refine blk_drew ?_ | refine blk_alloc ?_ _)); refine blk_put (cs := #[.int .i64 ((rd_T54 t347 x56_2).f0), .int .i64 0, .int .i64 0]) ?_ 1 _ rfl; (with_reducible repeat (first | refine blk_drewN ?_ _ | refine blk_drew ?_ | refine blk_alloc ?_ _)); refine blk_put (cs := #[.int .i64 0, .int .i64 0, .int .i64 0]) ?_ 0 _ rfl; (with_reducible repeat (first | refine blk_drewN ?_ _ | refine blk_drew ?_ | refine blk_alloc ?_ _)); exact BK353.out⟩, ⟨by repeat (first | (with_reducible first | exact HB.out | apply below_alloc | apply pw_below_drewN | apply below_drew1 | refine below_set ?_ GE353.out) | exact HB.out)⟩⟩
         case rest =>
          clear HC20
          try clear c1
          try clear c2
          try clear p2
          try clear p3
          try clear q3
          try clear hx3
          try clear p6
          try clear c7
          try clear c13
          try clear c13b0
          try clear c13b1
          try clear c15
          try clear c17
          try clear c17b0
          try clear c18
          try clear c18b0
          try clear c19
          try clear c19b0
          try clear c23
          try clear c23b0
          try clear c23b1
          try clear c24
          try clear c24b0
          try clear c26
          try clear c26b0
          try clear c28
          try clear c28b0
          try clear c29
          try clear c29b0
          try clear hcz22_0
          try clear hcz22_1
          try clear hcz22_2
          try clear hcz25_0
          try clear hcz25_1
          try clear hcz25_2
          try clear hcz30_0
          try clear hcz30_1
          try clear hcz30_2
          try clear hcz31_0
          try clear hcz31_1
          try clear hcz31_2
          try clear hcz32_0
          try clear hcz32_1
          try clear hcz32_2
          try clear hfz22_0
          try clear hfz22_1
          try clear hfz22_2
          try clear hfz25_0
          try clear hfz25_1
          try clear hfz25_2
          try clear hfz30_0
          try clear hfz30_1
          try clear hfz30_2
          try clear hfz31_0
          try clear hfz31_1
          try clear hfz31_2
          try clear hfz32_0
          try clear hfz32_1
          try clear hfz32_2
          try clear hx352_0
          try clear hx352_1
          try clear hx352_2
          try clear hx354_0
          try clear hx354_1
          try clear hx354_2
          try clear p2
          try clear p352
          try clear p354
          try clear p6
          try clear q352
          try clear q354
          obtain ⟨kq, x86_19, rfl, HA, HJ19, HO_9, HO_13, HO_54, BK353, HB⟩ := hcut
          cases kq with
          | zero => exact absurd HA.out (by simp [letterbaglaw35_OrderSpans.j2])
          | succ kj19 =>
           have H := HA.out
           clear HA
           simp only [letterbaglaw35_OrderSpans.j2] at H
           by_cases c33 : x86_19 = true
           ·subst c33
            have H1 : (some false) = some r := by rw [if_pos rfl] at H; exact H
            clear H
            have H := H1
            clear H1
            obtain rfl := Option.some.inj H
            go_wp2
            repeat (go_quiet (fail); try go_wp2)
            go_ret
            exact ⟨by first | rfl | (simp [errW_none, errW_some] <;> rfl) | (simp only [← hji6, ← hji7]; first | rfl | (simp [errW_none, errW_some] <;> rfl)) | (simp [*, errW_none, errW_some] <;> rfl), by repeat (first | (with_reducible first | exact HB.out | apply below_alloc | apply pw_below_drewN | apply below_drew1 | refine below_set ?_ GE353.out) | exact HB.out)⟩
           ·replace c33 := Bool.eq_false_iff.mpr c33
            subst c33
            have H1 : (letterbaglaw35_OrderSpans.l1 kj19 t344 (wrap64 (1 + (Int.tmod (wrap64 (a1)) 6))) ji7 t347 x15_2 t347 (t347.length : Int) x56_2 ((rd_T54 t347 x56_2).f0) ((rd_T54 t347 x56_2).f1) ((rd_T54 t347 x56_2).f2)) = some r := by rw [if_neg (show ¬ (false = true) by decide)] at H; exact H
            clear H
            have H := H1
            clear H1
            have H' := Aside0.mk H
            clear H
            go_wp2
            repeat (go_quiet (fail); try go_wp2)
            go_loopg [15] kj19 (fun kq v15 w' => ∃ (x15_4 : Int), v15 = .int .i64 x15_4 ∧ Aside0 (letterbaglaw35_OrderSpans.l1 kq t344 (wrap64 (1 + (Int.tmod (wrap64 (a1)) 6))) ji7 t347 x15_4 t347 (t347.length : Int) x56_2 ((rd_T54 t347 x56_2).f0) ((rd_T54 t347 x56_2).f1) ((rd_T54 t347 x56_2).f2) = some r) ∧ Aside0 (kq ≤ kj19) ∧ Aside0 (Kd.R k41 41 w' w.heap.size (fun _ => True) (.slice Ao11 t344.length co11) t344) ∧ Aside0 (Kd.R k54 54 w' w.heap.size (fun k_ => k_ ≠ gb353) (.slice (some ad352) t347.length co16) t347) ∧ Aside0 (Kd.R k54 54 w' w.heap.size (fun k_ => k_ ≠ gb353) (.slice (some ad352) t347.length co16) t347) ∧ Aside0 (w'.heap[gb353]? = some (.cells #[.int .i64 ((rd_T54 t347 x56_2).f0), .int .i64 ((rd_T54 t347 x56_2).f1), .int .i64 ((rd_T54 t347 x56_2).f2)] 54 (0, 0))) ∧ Aside0 (Below w.heap.size w w'))
            case atStart => exact ⟨(x15_2), (by first | rfl | (simp; done) | (simp [*]; done)), H', ⟨Nat.le_refl _⟩, ⟨by (with_reducible repeat (first | apply Kd.R_alloc | apply Kd.R_drewN | apply Kd.R_drew)); exact HO_9.out⟩, ⟨by (with_reducible repeat (first | apply Kd.R_alloc | apply Kd.R_drewN | apply Kd.R_drew)); exact HO_13.out⟩, ⟨by (with_reducible repeat (first | apply Kd.R_alloc | apply Kd.R_drewN | apply Kd.R_drew)); exact HO_54.out⟩, ⟨by (with_reducible repeat (first | refine blk_drewN ?_ _ | refine blk_drew ?_ | refine blk_alloc ?_ _)); exact BK353.out⟩, ⟨by repeat (first | (with_reducible first | exact HB.out | apply below_alloc | apply pw_below_drewN | apply below_drew1 | refine below_set ?_ GE353.out) | exact HB.out)⟩⟩
            case round =>
             clear H'
             try clear c1
             try clear c2
             try clear p2
             try clear c3
             try clear p3
             try clear q3
             try clear hx3
             try clear p6
             try clear c7
             try clear c13
             try clear c13b0
             try clear c13b1
             try clear c15
             try clear c17
             try clear c17b0
             try clear c18
             try clear c18b0
             try clear c19
             try clear c19b0
             try clear c23
             try clear c23b0
             try clear c23b1
             try clear c24
             try clear c24b0
             try clear c26
             try clear c26b0
             try clear c28
             try clear c28b0
             try clear c29
             try clear c29b0
             try clear c33
             try clear hcz22_0
             try clear hcz22_1
             try clear hcz22_2
             try clear hcz25_0
             try clear hcz25_1
             try clear hcz25_2
             try clear hcz30_0
             try clear hcz30_1
             try clear hcz30_2
             try clear hcz31_0
             try clear hcz31_1
             try clear hcz31_2
             try clear hcz32_0
             try clear hcz32_1
             try clear hcz32_2
             try clear hfz22_0
             try clear hfz22_1
             try clear hfz22_2
             try clear hfz25_0
             try clear hfz25_1
             try clear hfz25_2
             try clear hfz30_0
             try clear hfz30_1
             try clear hfz30_2
             try clear hfz31_0
             try clear hfz31_1
             try clear hfz31_2
             try clear hfz32_0
             try clear hfz32_1
             try clear hfz32_2
             try clear hx352_0
             try clear hx352_1
             try clear hx352_2
             try clear hx354_0
             try clear hx354_1
             try clear hx354_2
             try clear p2
             try clear p3
             try clear p352
             try clear p354
             try clear p6
             try clear q3
             try clear q352
             try clear q354
             obtain ⟨x15_4, rfl, HA, HK4, HO_9, HO_13, HO_54, BK353, HB⟩ := hrel
             cases gk with
             | zero => exact absurd HA.out (by simp [letterbaglaw35_OrderSpans.l1])
             | succ k4 =>
              have H := HA.out
              clear HA
              simp only [letterbaglaw35_OrderSpans.l1] at H
              have HC34 := Aside0.mk H
              clear H
              go_upto_region 13 with (fail)
              repeat (go_quiet (fail); go_upto_region 13 with (fail))
              go_cut [95] (fun v95 wc => ∃ (kq : Nat) (x95_33 : Bool), v95 = .bool x95_33 ∧ Aside0 (letterbaglaw35_OrderSpans.j4 kq t344 (wrap64 (1 + (Int.tmod (wrap64 (a1)) 6))) ji7 t347 x15_4 t347 (t347.length : Int) x56_2 x95_33 ((rd_T54 t347 x56_2).f0) ((rd_T54 t347 x56_2).f1) ((rd_T54 t347 x56_2).f2) = some r) ∧ Aside0 (kq ≤ k4) ∧ Aside0 (Kd.R k41 41 wc w.heap.size (fun _ => True) (.slice Ao11 t344.length co11) t344) ∧ Aside0 (Kd.R k54 54 wc w.heap.size (fun k_ => k_ ≠ gb353) (.slice (some ad352) t347.length co16) t347) ∧ Aside0 (Kd.R k54 54 wc w.heap.size (fun k_ => k_ ≠ gb353) (.slice (some ad352) t347.length co16) t347) ∧ Aside0 (wc.heap[gb353]? = some (.cells #[.int .i64 ((rd_T54 t347 x56_2).f0), .int .i64 ((rd_T54 t347 x56_2).f1), .int .i64 ((rd_T54 t347 x56_2).f2)] 54 (0, 0))) ∧ Aside0 (Below w.heap.size w wc))
              case first =>
               have H := HC34.out
               clear HC34
               by_cases c35 : x15_4 ≤ ((rd_T54 t347 x56_2).f1)
               ·rw [if_pos c35] at H
                have c35b0 : decide (x15_4 ≤ ((rd_T54 t347 x56_2).f1)) = true := decide_eq_true c35
                clear c35
                (first | rw [c35b0] | (simp only [i64_w, i32_w]; rw [c35b0]) | skip)
                have H' := Aside0.mk H
                clear H
                have hcz36_0 : wr.cell? ⟨gb353, 0, none⟩ = some (.int .i64 ((rd_T54 t347 x56_2).f0)) := (blk_cell BK353.out 0).trans rfl
                have hcz36_1 : wr.cell? ⟨gb353, 1, none⟩ = some (.int .i64 ((rd_T54 t347 x56_2).f1)) := (blk_cell BK353.out 1).trans rfl
                have hcz36_2 : wr.cell? ⟨gb353, 2, none⟩ = some (.int .i64 ((rd_T54 t347 x56_2).f2)) := (blk_cell BK353.out 2).trans rfl
                have hfz36_0 := blk_frozen BK353.out 0
                have hfz36_1 := blk_frozen BK353.out 1
                have hfz36_2 := blk_frozen BK353.out 2
                go_wp2
                repeat (go_quiet (fail); try go_wp2)
                go_meet
                case rel => exact ⟨_, (decide (x15_4 ≤ ji7)), (by first | rfl | (simp; done) | (simp only [← hji7] <;> (first | rfl | simp)) | (simp [*]; done)), H', ⟨by have := HJ8.out; have := HK2.out; have := HJ19.out; have := HK4.out; first | omega | exact Nat.le_refl _⟩, ⟨by (with_reducible repeat (first | apply Kd.R_alloc | apply Kd.R_drewN | apply Kd.R_drew)); exact HO_9.out⟩, ⟨by (with_reducible repeat (first | apply Kd.R_alloc | apply Kd.R_drewN | apply Kd.R_drew)); exact HO_13.out⟩, ⟨by (with_reducible repeat (first | apply Kd.R_alloc | apply Kd.R_drewN | apply Kd.R_drew)); exact HO_54.out⟩, ⟨by (with_reducible repeat (first | refine blk_drewN ?_ _ | refine blk_drew ?_ | refine blk_alloc ?_ _)); exact BK353.out⟩, ⟨by repeat (first | (with_reducible first | exact HB.out | apply below_alloc | apply pw_below_drewN | apply below_drew1 | refine below_set ?_ GE353.out) | exact HB.out)⟩⟩
               ·rw [if_neg c35] at H
                have c35b0 : decide (x15_4 ≤ ((rd_T54 t347 x56_2).f1)) = false := decide_eq_false c35
                clear c35
                (first | rw [c35b0] | (simp only [i64_w, i32_w]; rw [c35b0]) | skip)
                have H' := Aside0.mk H
                clear H
                have hcz37_0 : wr.cell? ⟨gb353, 0, none⟩ = some (.int .i64 ((rd_T54 t347 x56_2).f0)) := (blk_cell BK353.out 0).trans rfl
                have hcz37_1 : wr.cell? ⟨gb353, 1, none⟩ = some (.int .i64 ((rd_T54 t347 x56_2).f1)) := (blk_cell BK353.out 1).trans rfl
                have hcz37_2 : wr.cell? ⟨gb353, 2, none⟩ = some (.int .i64 ((rd_T54 t347 x56_2).f2)) := (blk_cell BK353.out 2).trans rfl
                have hfz37_0 := blk_frozen BK353.out 0
                have hfz37_1 := blk_frozen BK353.out 1
                have hfz37_2 := blk_frozen BK353.out 2
                go_wp2
                repeat (go_quiet (fail); try go_wp2)
                go_meet
                case rel => exact ⟨_, (false), (by first | rfl | (simp; done) | (simp [*]; done)), H', ⟨by have := HJ8.out; have := HK2.out; have := HJ19.out; have := HK4.out; first | omega | exact Nat.le_refl _⟩, ⟨by (with_reducible repeat (first | apply Kd.R_alloc | apply Kd.R_drewN | apply Kd.R_drew)); exact HO_9.out⟩, ⟨by (with_reducible repeat (first | apply Kd.R_alloc | apply Kd.R_drewN | apply Kd.R_drew)); exact HO_13.out⟩, ⟨by (with_reducible repeat (first | apply Kd.R_alloc | apply Kd.R_drewN | apply Kd.R_drew)); exact HO_54.out⟩, ⟨by (with_reducible repeat (first | refine blk_drewN ?_ _ | refine blk_drew ?_ | refine blk_alloc ?_ _)); exact BK353.out⟩, ⟨by repeat (first | (with_reducible first | exact HB.out | apply below_alloc | apply pw_below_drewN | apply below_drew1 | refine below_set ?_ GE353.out) | exact HB.out)⟩⟩
              case rest =>
               clear HC34
               try clear c1
               try clear c2
               try clear p2
               try clear c3
               try clear p3
               try clear q3
               try clear hx3
               try clear p6
               try clear c7
               try clear c13
               try clear c13b0
               try clear c13b1
               try clear c15
               try clear c17
               try clear c17b0
               try clear c18
               try clear c18b0
               try clear c19
               try clear c19b0
               try clear c23
               try clear c23b0
               try clear c23b1
               try clear c24
               try clear c24b0
               try clear c26
               try clear c26b0
               try clear c28
               try clear c28b0
               try clear c29
               try clear c29b0
               try clear c33
               try clear c35
               try clear c35b0
               try clear p35
               try clear q35
               try clear hx35
               try clear hcz22_0
               try clear hcz22_1
               try clear hcz22_2
               try clear hcz25_0
               try clear hcz25_1
               try clear hcz25_2
               try clear hcz30_0
               try clear hcz30_1
               try clear hcz30_2
               try clear hcz31_0
               try clear hcz31_1
               try clear hcz31_2
               try clear hcz32_0
               try clear hcz32_1
               try clear hcz32_2
               try clear hcz36_0
               try clear hcz36_1
               try clear hcz36_2
               try clear hcz37_0
               try clear hcz37_1
               try clear hcz37_2
               try clear hfz22_0
               try clear hfz22_1
               try clear hfz22_2
               try clear hfz25_0
               try clear hfz25_1
               try clear hfz25_2
               try clear hfz30_0
               try clear hfz30_1
               try clear hfz30_2
               try clear hfz31_0
               try clear hfz31_1
               try clear hfz31_2
               try clear hfz32_0
               try clear hfz32_1
               try clear hfz32_2
               try clear hfz36_0
               try clear hfz36_1
               try clear hfz36_2
               try clear hfz37_0
               try clear hfz37_1
               try clear hfz37_2
               try clear hx352_0
               try clear hx352_1
               try clear hx352_2
               try clear hx354_0
               try clear hx354_1
               try clear hx354_2
               try clear p2
               try clear p3
               try clear p352
               try clear p354
               try clear p6
               try clear q3
               try clear q352
               try clear q354
               obtain ⟨kq, x95_33, rfl, HA, HJ33, HO_9, HO_13, HO_54, BK353, HB⟩ := hcut
               cases kq with
               | zero => exact absurd HA.out (by simp [letterbaglaw35_OrderSpans.j4])
               | succ kj33 =>
                have H := HA.out
                clear HA
                simp only [letterbaglaw35_OrderSpans.j4] at H
                by_cases c38 : x95_33 = true
                ·subst c38
                 have H1 : ((letterbaglaw35_in.f t344 (wrap64 (1 + (Int.tmod (wrap64 (a1)) 6))) x15_4).bind fun bt355 => (if bt355.2 = true then (if bt355.1 = ((rd_T54 t347 x56_2).f2) then (letterbaglaw35_OrderSpans.l1 kj33 t344 (wrap64 (1 + (Int.tmod (wrap64 (a1)) 6))) ji7 t347 (wrap64 (x15_4 + 1)) t347 (t347.length : Int) x56_2 ((rd_T54 t347 x56_2).f0) ((rd_T54 t347 x56_2).f1) ((rd_T54 t347 x56_2).f2)) else (some false)) else (some false))) = some r := by rw [if_pos rfl] at H; exact H
                 clear H
                 have H := H1
                 clear H1
                 replace H := Option.bind_eq_some_iff.mp H
                 obtain ⟨⟨t355, t356⟩, A390, H⟩ := H
                 replace H : (if t356 = true then (if t355 = ((rd_T54 t347 x56_2).f2) then (letterbaglaw35_OrderSpans.l1 kj33 t344 (wrap64 (1 + (Int.tmod (wrap64 (a1)) 6))) ji7 t347 (wrap64 (x15_4 + 1)) t347 (t347.length : Int) x56_2 ((rd_T54 t347 x56_2).f0) ((rd_T54 t347 x56_2).f1) ((rd_T54 t347 x56_2).f2)) else (some false)) else (some false)) = some r := H
                 have A39 := Aside0.mk A390
                 clear A390
                 by_cases c40 : t356 = true
                 ·subst c40
                  have H1 : (if t355 = ((rd_T54 t347 x56_2).f2) then (letterbaglaw35_OrderSpans.l1 kj33 t344 (wrap64 (1 + (Int.tmod (wrap64 (a1)) 6))) ji7 t347 (wrap64 (x15_4 + 1)) t347 (t347.length : Int) x56_2 ((rd_T54 t347 x56_2).f0) ((rd_T54 t347 x56_2).f1) ((rd_T54 t347 x56_2).f2)) else (some false)) = some r := by rw [if_pos rfl] at H; exact H
                  clear H
                  have H := H1
                  clear H1
                  by_cases c41 : t355 = ((rd_T54 t347 x56_2).f2)
                  ·rw [if_pos c41] at H
                   have c41b0 : (t355 == ((rd_T54 t347 x56_2).f2)) = true := beq_iff_eq.mpr c41
                   have c41b1 : (t355 != ((rd_T54 t347 x56_2).f2)) = false := bne_eq_false_iff_eq.mpr c41
                   clear c41
                   have H' := Aside0.mk H
                   clear H
                   go_wp2_with (first | (go_at_call 35; (with_reducible refine (letterbaglaw35_in.calls _ _ t344 (wrap64 (1 + (Int.tmod (wrap64 (a1)) 6))) x15_4 t355 true _ ?side1 ?side2 A39.out).mono ?_); (case side1 => repeat (first | exact (Kd.R_reads' HO_9.out).2.2 | (with_reducible refine Kd.C_alloc ?_ _) | (with_reducible refine Kd.C_drewN ?_ _) | (with_reducible refine Kd.C_drew ?_))); (case side2 => exact (Kd.R_reads' HO_9.out).2.1); rintro e w42 ⟨rfl, hb⟩; have n0_ := Aside0.mk (Kd.R_below (by (with_reducible repeat (first | apply Kd.R_alloc | apply Kd.R_drewN | apply Kd.R_drew)); exact HO_9.out) hb); have n1_ := Aside0.mk (Kd.R_below (by (with_reducible repeat (first | apply Kd.R_alloc | apply Kd.R_drewN | apply Kd.R_drew)); exact HO_13.out) hb); have n2_ := Aside0.mk (Kd.R_below (by (with_reducible repeat (first | apply Kd.R_alloc | apply Kd.R_drewN | apply Kd.R_drew)); exact HO_54.out) hb); have n3_ := Aside0.mk (blk_below (g := gb353) (o := .cells #[.int .i64 ((rd_T54 t347 x56_2).f0), .int .i64 ((rd_T54 t347 x56_2).f1), .int .i64 ((rd_T54 t347 x56_2).f2)] 54 (0, 0)) (by (with_reducible repeat (first | refine blk_drewN ?_ _ | refine blk_drew ?_ | refine blk_alloc ?_ _)); exact BK353.out) hb); have n4_ := Aside0.mk (below_step (by repeat (first | (with_reducible first | exact HB.out | apply below_alloc | apply pw_below_drewN | apply below_drew1 | refine below_set ?_ GE353.out) | exact HB.out)) hb); clear HO_9; clear HO_13; clear HO_54; clear BK353; clear HB; have HO_9 := n0_; have HO_13 := n1_; have HO_54 := n2_; have BK353 := n3_; have HB := n4_; clear n0_ n1_ n2_ n3_ n4_; (try clear hb); (try clear hb2); (try clear hk); (try clear hi); have hcz43_0 : w42.cell? ⟨gb353, 0, none⟩ = some (.int .i64 ((rd_T54 t347 x56_2).f0)) := (blk_cell BK353.out 0).trans rfl; have hcz43_1 : w42.cell? ⟨gb353, 1, none⟩ = some (.int .i64 ((rd_T54 t347 x56_2).f1)) := (blk_cell BK353.out 1).trans rfl; have hcz43_2 : w42.cell? ⟨gb353, 2, none⟩ = some (.int .i64 ((rd_T54 t347 x56_2).f2)) := (blk_cell BK353.out 2).trans rfl; have hfz43_0 := blk_frozen BK353.out 0; have hfz43_1 := blk_frozen BK353.out 1; have hfz43_2 := blk_frozen BK353.out 2))
                   repeat (go_quiet (first | (go_at_call 35; (with_reducible refine (letterbaglaw35_in.calls _ _ t344 (wrap64 (1 + (Int.tmod (wrap64 (a1)) 6))) x15_4 t355 true _ ?side1 ?side2 A39.out).mono ?_); (case side1 => repeat (first | exact (Kd.R_reads' HO_9.out).2.2 | (with_reducible refine Kd.C_alloc ?_ _) | (with_reducible refine Kd.C_drewN ?_ _) | (with_reducible refine Kd.C_drew ?_))); (case side2 => exact (Kd.R_reads' HO_9.out).2.1); rintro e w42 ⟨rfl, hb⟩; have n0_ := Aside0.mk (Kd.R_below (by (with_reducible repeat (first | apply Kd.R_alloc | apply Kd.R_drewN | apply Kd.R_drew)); exact HO_9.out) hb); have n1_ := Aside0.mk (Kd.R_below (by (with_reducible repeat (first | apply Kd.R_alloc | apply Kd.R_drewN | apply Kd.R_drew)); exact HO_13.out) hb); have n2_ := Aside0.mk (Kd.R_below (by (with_reducible repeat (first | apply Kd.R_alloc | apply Kd.R_drewN | apply Kd.R_drew)); exact HO_54.out) hb); have n3_ := Aside0.mk (blk_below (g := gb353) (o := .cells #[.int .i64 ((rd_T54 t347 x56_2).f0), .int .i64 ((rd_T54 t347 x56_2).f1), .int .i64 ((rd_T54 t347 x56_2).f2)] 54 (0, 0)) (by (with_reducible repeat (first | refine blk_drewN ?_ _ | refine blk_drew ?_ | refine blk_alloc ?_ _)); exact BK353.out) hb); have n4_ := Aside0.mk (below_step (by repeat (first | (with_reducible first | exact HB.out | apply below_alloc | apply pw_below_drewN | apply below_drew1 | refine below_set ?_ GE353.out) | exact HB.out)) hb); clear HO_9; clear HO_13; clear HO_54; clear BK353; clear HB; have HO_9 := n0_; have HO_13 := n1_; have HO_54 := n2_; have BK353 := n3_; have HB := n4_; clear n0_ n1_ n2_ n3_ n4_; (try clear hb); (try clear hb2); (try clear hk); (try clear hi); have hcz43_0 : w42.cell? ⟨gb353, 0, none⟩ = some (.int .i64 ((rd_T54 t347 x56_2).f0)) := (blk_cell BK353.out 0).trans rfl; have hcz43_1 : w42.cell? ⟨gb353, 1, none⟩ = some (.int .i64 ((rd_T54 t347 x56_2).f1)) := (blk_cell BK353.out 1).trans rfl; have hcz43_2 : w42.cell? ⟨gb353, 2, none⟩ = some (.int .i64 ((rd_T54 t347 x56_2).f2)) := (blk_cell BK353.out 2).trans rfl; have hfz43_0 := blk_frozen BK353.out 0; have hfz43_1 := blk_frozen BK353.out 1; have hfz43_2 := blk_frozen BK353.out 2)); try go_wp2_with (first | (go_at_call 35; (with_reducible refine (letterbaglaw35_in.calls _ _ t344 (wrap64 (1 + (Int.tmod (wrap64 (a1)) 6))) x15_4 t355 true _ ?side1 ?side2 A39.out).mono ?_); (case side1 => repeat (first | exact (Kd.R_reads' HO_9.out).2.2 | (with_reducible refine Kd.C_alloc ?_ _) | (with_reducible refine Kd.C_drewN ?_ _) | (with_reducible refine Kd.C_drew ?_))); (case side2 => exact (Kd.R_reads' HO_9.out).2.1); rintro e w42 ⟨rfl, hb⟩; have n0_ := Aside0.mk (Kd.R_below (by (with_reducible repeat (first | apply Kd.R_alloc | apply Kd.R_drewN | apply Kd.R_drew)); exact HO_9.out) hb); have n1_ := Aside0.mk (Kd.R_below (by (with_reducible repeat (first | apply Kd.R_alloc | apply Kd.R_drewN | apply Kd.R_drew)); exact HO_13.out) hb); have n2_ := Aside0.mk (Kd.R_below (by (with_reducible repeat (first | apply Kd.R_alloc | apply Kd.R_drewN | apply Kd.R_drew)); exact HO_54.out) hb); have n3_ := Aside0.mk (blk_below (g := gb353) (o := .cells #[.int .i64 ((rd_T54 t347 x56_2).f0), .int .i64 ((rd_T54 t347 x56_2).f1), .int .i64 ((rd_T54 t347 x56_2).f2)] 54 (0, 0)) (by (with_reducible repeat (first | refine blk_drewN ?_ _ | refine blk_drew ?_ | refine blk_alloc ?_ _)); exact BK353.out) hb); have n4_ := Aside0.mk (below_step (by repeat (first | (with_reducible first | exact HB.out | apply below_alloc | apply pw_below_drewN | apply below_drew1 | refine below_set ?_ GE353.out) | exact HB.out)) hb); clear HO_9; clear HO_13; clear HO_54; clear BK353; clear HB; have HO_9 := n0_; have HO_13 := n1_; have HO_54 := n2_; have BK353 := n3_; have HB := n4_; clear n0_ n1_ n2_ n3_ n4_; (try clear hb); (try clear hb2); (try clear hk); (try clear hi); have hcz43_0 : w42.cell? ⟨gb353, 0, none⟩ = some (.int .i64 ((rd_T54 t347 x56_2).f0)) := (blk_cell BK353.out 0).trans rfl; have hcz43_1 : w42.cell? ⟨gb353, 1, none⟩ = some (.int .i64 ((rd_T54 t347 x56_2).f1)) := (blk_cell BK353.out 1).trans rfl; have hcz43_2 : w42.cell? ⟨gb353, 2, none⟩ = some (.int .i64 ((rd_T54 t347 x56_2).f2)) := (blk_cell BK353.out 2).trans rfl; have hfz43_0 := blk_frozen BK353.out 0; have hfz43_1 := blk_frozen BK353.out 1; have hfz43_2 := blk_frozen BK353.out 2)))
                   go_roundg kj33
                   case measure => have := HJ8.out; have := HK2.out; have := HJ19.out; have := HK4.out; have := HJ33.out; omega
                   case rel => exact ⟨(wrap64 (x15_4 + 1)), (by first | rfl | (simp; done) | (simp [*]; done)), H', ⟨by have := HJ8.out; have := HK2.out; have := HJ19.out; have := HK4.out; have := HJ33.out; omega⟩, ⟨by (with_reducible repeat (first | apply Kd.R_alloc | apply Kd.R_drewN | apply Kd.R_drew)); exact HO_9.out⟩, ⟨by (with_reducible repeat (first | apply Kd.R_alloc | apply Kd.R_drewN | apply Kd.R_drew)); exact HO_13.out⟩, ⟨by (with_reducible repeat (first | apply Kd.R_alloc | apply Kd.R_drewN | apply Kd.R_drew)); exact HO_54.out⟩, ⟨by (with_reducible repeat (first | refine blk_drewN ?_ _ | refine blk_drew ?_ | refine blk_alloc ?_ _)); exact BK353.out⟩, ⟨by repeat (first | (with_reducible first | exact HB.out | apply below_alloc | apply pw_below_drewN | apply below_drew1 | refine below_set ?_ GE353.out) | exact HB.out)⟩⟩
                  ·rw [if_neg c41] at H
                   have c41b0 : (t355 == ((rd_T54 t347 x56_2).f2)) = false := beq_eq_false_iff_ne.mpr c41
                   have c41b1 : (t355 != ((rd_T54 t347 x56_2).f2)) = true := bne_iff_ne.mpr c41
                   obtain rfl := Option.some.inj H
                   go_wp2_with (first | (go_at_call 35; (with_reducible refine (letterbaglaw35_in.calls _ _ t344 (wrap64 (1 + (Int.tmod (wrap64 (a1)) 6))) x15_4 t355 true _ ?side1 ?side2 A39.out).mono ?_); (case side1 => repeat (first | exact (Kd.R_reads' HO_9.out).2.2 | (with_reducible refine Kd.C_alloc ?_ _) | (with_reducible refine Kd.C_drewN ?_ _) | (with_reducible refine Kd.C_drew ?_))); (case side2 => exact (Kd.R_reads' HO_9.out).2.1); rintro e w44 ⟨rfl, hb⟩; have n0_ := Aside0.mk (Kd.R_below (by (with_reducible repeat (first | apply Kd.R_alloc | apply Kd.R_drewN | apply Kd.R_drew)); exact HO_9.out) hb); have n1_ := Aside0.mk (Kd.R_below (by (with_reducible repeat (first | apply Kd.R_alloc | apply Kd.R_drewN | apply Kd.R_drew)); exact HO_13.out) hb); have n2_ := Aside0.mk (Kd.R_below (by (with_reducible repeat (first | apply Kd.R_alloc | apply Kd.R_drewN | apply Kd.R_drew)); exact HO_54.out) hb); have n3_ := Aside0.mk (blk_below (g := gb353) (o := .cells #[.int .i64 ((rd_T54 t347 x56_2).f0), .int .i64 ((rd_T54 t347 x56_2).f1), .int .i64 ((rd_T54 t347 x56_2).f2)] 54 (0, 0)) (by (with_reducible repeat (first | refine blk_drewN ?_ _ | refine blk_drew ?_ | refine blk_alloc ?_ _)); exact BK353.out) hb); have n4_ := Aside0.mk (below_step (by repeat (first | (with_reducible first | exact HB.out | apply below_alloc | apply pw_below_drewN | apply below_drew1 | refine below_set ?_ GE353.out) | exact HB.out)) hb); clear HO_9; clear HO_13; clear HO_54; clear BK353; clear HB; have HO_9 := n0_; have HO_13 := n1_; have HO_54 := n2_; have BK353 := n3_; have HB := n4_; clear n0_ n1_ n2_ n3_ n4_; (try clear hb); (try clear hb2); (try clear hk); (try clear hi); have hcz45_0 : w44.cell? ⟨gb353, 0, none⟩ = some (.int .i64 ((rd_T54 t347 x56_2).f0)) := (blk_cell BK353.out 0).trans rfl; have hcz45_1 : w44.cell? ⟨gb353, 1, none⟩ = some (.int .i64 ((rd_T54 t347 x56_2).f1)) := (blk_cell BK353.out 1).trans rfl; have hcz45_2 : w44.cell? ⟨gb353, 2, none⟩ = some (.int .i64 ((rd_T54 t347 x56_2).f2)) := (blk_cell BK353.out 2).trans rfl; have hfz45_0 := blk_frozen BK353.out 0; have hfz45_1 := blk_frozen BK353.out 1; have hfz45_2 := blk_frozen BK353.out 2))
                   repeat (go_quiet (first | (go_at_call 35; (with_reducible refine (letterbaglaw35_in.calls _ _ t344 (wrap64 (1 + (Int.tmod (wrap64 (a1)) 6))) x15_4 t355 true _ ?side1 ?side2 A39.out).mono ?_); (case side1 => repeat (first | exact (Kd.R_reads' HO_9.out).2.2 | (with_reducible refine Kd.C_alloc ?_ _) | (with_reducible refine Kd.C_drewN ?_ _) | (with_reducible refine Kd.C_drew ?_))); (case side2 => exact (Kd.R_reads' HO_9.out).2.1); rintro e w44 ⟨rfl, hb⟩; have n0_ := Aside0.mk (Kd.R_below (by (with_reducible repeat (first | apply Kd.R_alloc | apply Kd.R_drewN | apply Kd.R_drew)); exact HO_9.out) hb); have n1_ := Aside0.mk (Kd.R_below (by (with_reducible repeat (first | apply Kd.R_alloc | apply Kd.R_drewN | apply Kd.R_drew)); exact HO_13.out) hb); have n2_ := Aside0.mk (Kd.R_below (by (with_reducible repeat (first | apply Kd.R_alloc | apply Kd.R_drewN | apply Kd.R_drew)); exact HO_54.out) hb); have n3_ := Aside0.mk (blk_below (g := gb353) (o := .cells #[.int .i64 ((rd_T54 t347 x56_2).f0), .int .i64 ((rd_T54 t347 x56_2).f1), .int .i64 ((rd_T54 t347 x56_2).f2)] 54 (0, 0)) (by (with_reducible repeat (first | refine blk_drewN ?_ _ | refine blk_drew ?_ | refine blk_alloc ?_ _)); exact BK353.out) hb); have n4_ := Aside0.mk (below_step (by repeat (first | (with_reducible first | exact HB.out | apply below_alloc | apply pw_below_drewN | apply below_drew1 | refine below_set ?_ GE353.out) | exact HB.out)) hb); clear HO_9; clear HO_13; clear HO_54; clear BK353; clear HB; have HO_9 := n0_; have HO_13 := n1_; have HO_54 := n2_; have BK353 := n3_; have HB := n4_; clear n0_ n1_ n2_ n3_ n4_; (try clear hb); (try clear hb2); (try clear hk); (try clear hi); have hcz45_0 : w44.cell? ⟨gb353, 0, none⟩ = some (.int .i64 ((rd_T54 t347 x56_2).f0)) := (blk_cell BK353.out 0).trans rfl; have hcz45_1 : w44.cell? ⟨gb353, 1, none⟩ = some (.int .i64 ((rd_T54 t347 x56_2).f1)) := (blk_cell BK353.out 1).trans rfl; have hcz45_2 : w44.cell? ⟨gb353, 2, none⟩ = some (.int .i64 ((rd_T54 t347 x56_2).f2)) := (blk_cell BK353.out 2).trans rfl; have hfz45_0 := blk_frozen BK353.out 0; have hfz45_1 := blk_frozen BK353.out 1; have hfz45_2 := blk_frozen BK353.out 2)); try go_wp2_with (first | (go_at_call 35; (with_reducible refine (letterbaglaw35_in.calls _ _ t344 (wrap64 (1 + (Int.tmod (wrap64 (a1)) 6))) x15_4 t355 true _ ?side1 ?side2 A39.out).mono ?_); (case side1 => repeat (first | exact (Kd.R_reads' HO_9.out).2.2 | (with_reducible refine Kd.C_alloc ?_ _) | (with_reducible refine Kd.C_drewN ?_ _) | (with_reducible refine Kd.C_drew ?_))); (case side2 => exact (Kd.R_reads' HO_9.out).2.1); rintro e w44 ⟨rfl, hb⟩; have n0_ := Aside0.mk (Kd.R_below (by (with_reducible repeat (first | apply Kd.R_alloc | apply Kd.R_drewN | apply Kd.R_drew)); exact HO_9.out) hb); have n1_ := Aside0.mk (Kd.R_below (by (with_reducible repeat (first | apply Kd.R_alloc | apply Kd.R_drewN | apply Kd.R_drew)); exact HO_13.out) hb); have n2_ := Aside0.mk (Kd.R_below (by (with_reducible repeat (first | apply Kd.R_alloc | apply Kd.R_drewN | apply Kd.R_drew)); exact HO_54.out) hb); have n3_ := Aside0.mk (blk_below (g := gb353) (o := .cells #[.int .i64 ((rd_T54 t347 x56_2).f0), .int .i64 ((rd_T54 t347 x56_2).f1), .int .i64 ((rd_T54 t347 x56_2).f2)] 54 (0, 0)) (by (with_reducible repeat (first | refine blk_drewN ?_ _ | refine blk_drew ?_ | refine blk_alloc ?_ _)); exact BK353.out) hb); have n4_ := Aside0.mk (below_step (by repeat (first | (with_reducible first | exact HB.out | apply below_alloc | apply pw_below_drewN | apply below_drew1 | refine below_set ?_ GE353.out) | exact HB.out)) hb); clear HO_9; clear HO_13; clear HO_54; clear BK353; clear HB; have HO_9 := n0_; have HO_13 := n1_; have HO_54 := n2_; have BK353 := n3_; have HB := n4_; clear n0_ n1_ n2_ n3_ n4_; (try clear hb); (try clear hb2); (try clear hk); (try clear hi); have hcz45_0 : w44.cell? ⟨gb353, 0, none⟩ = some (.int .i64 ((rd_T54 t347 x56_2).f0)) := (blk_cell BK353.out 0).trans rfl; have hcz45_1 : w44.cell? ⟨gb353, 1, none⟩ = some (.int .i64 ((rd_T54 t347 x56_2).f1)) := (blk_cell BK353.out 1).trans rfl; have hcz45_2 : w44.cell? ⟨gb353, 2, none⟩ = some (.int .i64 ((rd_T54 t347 x56_2).f2)) := (blk_cell BK353.out 2).trans rfl; have hfz45_0 := blk_frozen BK353.out 0; have hfz45_1 := blk_frozen BK353.out 1; have hfz45_2 := blk_frozen BK353.out 2)))
                   go_ret
                   exact ⟨by first | rfl | (simp [errW_none, errW_some] <;> rfl) | (simp only [← hji6, ← hji7]; first | rfl | (simp [errW_none, errW_some] <;> rfl)) | (simp [*, errW_none, errW_some] <;> rfl), by repeat (first | (with_reducible first | exact HB.out | apply below_alloc | apply pw_below_drewN | apply below_drew1 | refine below_set ?_ GE353.out) | exact HB.out)⟩
                 ·replace c40 := Bool.eq_false_iff.mpr c40
                  subst c40
                  have H1 : (some false) = some r := by rw [if_neg (show ¬ (false = true) by decide)] at H; exact H
                  clear H
                  have H := H1
                  clear H1
                  obtain rfl := Option.some.inj H
                  go_wp2_with (first | (go_at_call 35; (with_reducible refine (letterbaglaw35_in.calls _ _ t344 (wrap64 (1 + (Int.tmod (wrap64 (a1)) 6))) x15_4 t355 false _ ?side1 ?side2 A39.out).mono ?_); (case side1 => repeat (first | exact (Kd.R_reads' HO_9.out).2.2 | (with_reducible refine Kd.C_alloc ?_ _) | (with_reducible refine Kd.C_drewN ?_ _) | (with_reducible refine Kd.C_drew ?_))); (case side2 => exact (Kd.R_reads' HO_9.out).2.1); rintro e w46 ⟨rfl, hb⟩; have n0_ := Aside0.mk (Kd.R_below (by (with_reducible repeat (first | apply Kd.R_alloc | apply Kd.R_drewN | apply Kd.R_drew)); exact HO_9.out) hb); have n1_ := Aside0.mk (Kd.R_below (by (with_reducible repeat (first | apply Kd.R_alloc | apply Kd.R_drewN | apply Kd.R_drew)); exact HO_13.out) hb); have n2_ := Aside0.mk (Kd.R_below (by (with_reducible repeat (first | apply Kd.R_alloc | apply Kd.R_drewN | apply Kd.R_drew)); exact HO_54.out) hb); have n3_ := Aside0.mk (blk_below (g := gb353) (o := .cells #[.int .i64 ((rd_T54 t347 x56_2).f0), .int .i64 ((rd_T54 t347 x56_2).f1), .int .i64 ((rd_T54 t347 x56_2).f2)] 54 (0, 0)) (by (with_reducible repeat (first | refine blk_drewN ?_ _ | refine blk_drew ?_ | refine blk_alloc ?_ _)); exact BK353.out) hb); have n4_ := Aside0.mk (below_step (by repeat (first | (with_reducible first | exact HB.out | apply below_alloc | apply pw_below_drewN | apply below_drew1 | refine below_set ?_ GE353.out) | exact HB.out)) hb); clear HO_9; clear HO_13; clear HO_54; clear BK353; clear HB; have HO_9 := n0_; have HO_13 := n1_; have HO_54 := n2_; have BK353 := n3_; have HB := n4_; clear n0_ n1_ n2_ n3_ n4_; (try clear hb); (try clear hb2); (try clear hk); (try clear hi)))
                  repeat (go_quiet (first | (go_at_call 35; (with_reducible refine (letterbaglaw35_in.calls _ _ t344 (wrap64 (1 + (Int.tmod (wrap64 (a1)) 6))) x15_4 t355 false _ ?side1 ?side2 A39.out).mono ?_); (case side1 => repeat (first | exact (Kd.R_reads' HO_9.out).2.2 | (with_reducible refine Kd.C_alloc ?_ _) | (with_reducible refine Kd.C_drewN ?_ _) | (with_reducible refine Kd.C_drew ?_))); (case side2 => exact (Kd.R_reads' HO_9.out).2.1); rintro e w46 ⟨rfl, hb⟩; have n0_ := Aside0.mk (Kd.R_below (by (with_reducible repeat (first | apply Kd.R_alloc | apply Kd.R_drewN | apply Kd.R_drew)); exact HO_9.out) hb); have n1_ := Aside0.mk (Kd.R_below (by (with_reducible repeat (first | apply Kd.R_alloc | apply Kd.R_drewN | apply Kd.R_drew)); exact HO_13.out) hb); have n2_ := Aside0.mk (Kd.R_below (by (with_reducible repeat (first | apply Kd.R_alloc | apply Kd.R_drewN | apply Kd.R_drew)); exact HO_54.out) hb); have n3_ := Aside0.mk (blk_below (g := gb353) (o := .cells #[.int .i64 ((rd_T54 t347 x56_2).f0), .int .i64 ((rd_T54 t347 x56_2).f1), .int .i64 ((rd_T54 t347 x56_2).f2)] 54 (0, 0)) (by (with_reducible repeat (first | refine blk_drewN ?_ _ | refine blk_drew ?_ | refine blk_alloc ?_ _)); exact BK353.out) hb); have n4_ := Aside0.mk (below_step (by repeat (first | (with_reducible first | exact HB.out | apply below_alloc | apply pw_below_drewN | apply below_drew1 | refine below_set ?_ GE353.out) | exact HB.out)) hb); clear HO_9; clear HO_13; clear HO_54; clear BK353; clear HB; have HO_9 := n0_; have HO_13 := n1_; have HO_54 := n2_; have BK353 := n3_; have HB := n4_; clear n0_ n1_ n2_ n3_ n4_; (try clear hb); (try clear hb2); (try clear hk); (try clear hi))); try go_wp2_with (first | (go_at_call 35; (with_reducible refine (letterbaglaw35_in.calls _ _ t344 (wrap64 (1 + (Int.tmod (wrap64 (a1)) 6))) x15_4 t355 false _ ?side1 ?side2 A39.out).mono ?_); (case side1 => repeat (first | exact (Kd.R_reads' HO_9.out).2.2 | (with_reducible refine Kd.C_alloc ?_ _) | (with_reducible refine Kd.C_drewN ?_ _) | (with_reducible refine Kd.C_drew ?_))); (case side2 => exact (Kd.R_reads' HO_9.out).2.1); rintro e w46 ⟨rfl, hb⟩; have n0_ := Aside0.mk (Kd.R_below (by (with_reducible repeat (first | apply Kd.R_alloc | apply Kd.R_drewN | apply Kd.R_drew)); exact HO_9.out) hb); have n1_ := Aside0.mk (Kd.R_below (by (with_reducible repeat (first | apply Kd.R_alloc | apply Kd.R_drewN | apply Kd.R_drew)); exact HO_13.out) hb); have n2_ := Aside0.mk (Kd.R_below (by (with_reducible repeat (first | apply Kd.R_alloc | apply Kd.R_drewN | apply Kd.R_drew)); exact HO_54.out) hb); have n3_ := Aside0.mk (blk_below (g := gb353) (o := .cells #[.int .i64 ((rd_T54 t347 x56_2).f0), .int .i64 ((rd_T54 t347 x56_2).f1), .int .i64 ((rd_T54 t347 x56_2).f2)] 54 (0, 0)) (by (with_reducible repeat (first | refine blk_drewN ?_ _ | refine blk_drew ?_ | refine blk_alloc ?_ _)); exact BK353.out) hb); have n4_ := Aside0.mk (below_step (by repeat (first | (with_reducible first | exact HB.out | apply below_alloc | apply pw_below_drewN | apply below_drew1 | refine below_set ?_ GE353.out) | exact HB.out)) hb); clear HO_9; clear HO_13; clear HO_54; clear BK353; clear HB; have HO_9 := n0_; have HO_13 := n1_; have HO_54 := n2_; have BK353 := n3_; have HB := n4_; clear n0_ n1_ n2_ n3_ n4_; (try clear hb); (try clear hb2); (try clear hk); (try clear hi))))
                  go_ret
                  exact ⟨by first | rfl | (simp [errW_none, errW_some] <;> rfl) | (simp only [← hji6, ← hji7]; first | rfl | (simp [errW_none, errW_some] <;> rfl)) | (simp [*, errW_none, errW_some] <;> rfl), by repeat (first | (with_reducible first | exact HB.out | apply below_alloc | apply pw_below_drewN | apply below_drew1 | refine below_set ?_ GE353.out) | exact HB.out)⟩
                ·replace c38 := Bool.eq_false_iff.mpr c38
                 subst c38
                 have H1 : (if x15_4 = (wrap64 (((rd_T54 t347 x56_2).f1) + 1)) then (letterbaglaw35_OrderSpans.l0 kj33 t344 (wrap64 (1 + (Int.tmod (wrap64 (a1)) 6))) ji7 t347 x15_4 t347 (t347.length : Int) (wrap64 (x56_2 + 1))) else (some false)) = some r := by rw [if_neg (show ¬ (false = true) by decide)] at H; exact H
                 clear H
                 have H := H1
                 clear H1
                 by_cases c47 : x15_4 = (wrap64 (((rd_T54 t347 x56_2).f1) + 1))
                 ·rw [if_pos c47] at H
                  have c47b0 : (x15_4 == (wrap64 (((rd_T54 t347 x56_2).f1) + 1))) = true := beq_iff_eq.mpr c47
                  have c47b1 : (x15_4 != (wrap64 (((rd_T54 t347 x56_2).f1) + 1))) = false := bne_eq_false_iff_eq.mpr c47
                  clear c47
                  have H' := Aside0.mk H
                  clear H
                  have hcz48_0 : wc.cell? ⟨gb353, 0, none⟩ = some (.int .i64 ((rd_T54 t347 x56_2).f0)) := (blk_cell BK353.out 0).trans rfl
                  have hcz48_1 : wc.cell? ⟨gb353, 1, none⟩ = some (.int .i64 ((rd_T54 t347 x56_2).f1)) := (blk_cell BK353.out 1).trans rfl
                  have hcz48_2 : wc.cell? ⟨gb353, 2, none⟩ = some (.int .i64 ((rd_T54 t347 x56_2).f2)) := (blk_cell BK353.out 2).trans rfl
                  have hfz48_0 := blk_frozen BK353.out 0
                  have hfz48_1 := blk_frozen BK353.out 1
                  have hfz48_2 := blk_frozen BK353.out 2
                  go_wp2
                  repeat (go_quiet (fail); try go_wp2)
                  go_roundg kj33
                  case measure => have := HJ8.out; have := HK2.out; have := HJ19.out; have := HK4.out; have := HJ33.out; omega
                  case rel => exact ⟨(x15_4), (wrap64 (x56_2 + 1)), (by first | rfl | (simp; done) | (simp [*]; done)), (by first | rfl | (simp; done) | (simp [*]; done)), H', ⟨by have := HJ8.out; have := HK2.out; have := HJ19.out; have := HK4.out; have := HJ33.out; omega⟩, ⟨by (with_reducible repeat (first | apply Kd.R_alloc | apply Kd.R_drewN | apply Kd.R_drew)); exact HO_9.out⟩, ⟨by (with_reducible repeat (first | apply Kd.R_alloc | apply Kd.R_drewN | apply Kd.R_drew)); exact Kd.R_mono HO_13.out (fun _ hk => trivial)⟩, ⟨by (with_reducible repeat (first | apply Kd.R_alloc | apply Kd.R_drewN | apply Kd.R_drew)); exact Kd.R_mono HO_54.out (fun _ hk => trivial)⟩, ⟨by repeat (first | (with_reducible first | exact HB.out | apply below_alloc | apply pw_below_drewN | apply below_drew1 | refine below_set ?_ GE353.out) | exact HB.out)⟩⟩
                 ·rw [if_neg c47] at H
                  have c47b0 : (x15_4 == (wrap64 (((rd_T54 t347 x56_2).f1) + 1))) = false := beq_eq_false_iff_ne.mpr c47
                  have c47b1 : (x15_4 != (wrap64 (((rd_T54 t347 x56_2).f1) + 1))) = true := bne_iff_ne.mpr c47
                  obtain rfl := Option.some.inj H
                  have hcz49_0 : wc.cell? ⟨gb353, 0, none⟩ = some (.int .i64 ((rd_T54 t347 x56_2).f0)) := (blk_cell BK353.out 0).trans rfl
                  have hcz49_1 : wc.cell? ⟨gb353, 1, none⟩ = some (.int .i64 ((rd_T54 t347 x56_2).f1)) := (blk_cell BK353.out 1).trans rfl
                  have hcz49_2 : wc.cell? ⟨gb353, 2, none⟩ = some (.int .i64 ((rd_T54 t347 x56_2).f2)) := (blk_cell BK353.out 2).trans rfl
                  have hfz49_0 := blk_frozen BK353.out 0
                  have hfz49_1 := blk_frozen BK353.out 1
                  have hfz49_2 := blk_frozen BK353.out 2
                  go_wp2
                  repeat (go_quiet (fail); try go_wp2)
                  go_ret
                  exact ⟨by first | rfl | (simp [errW_none, errW_some] <;> rfl) | (simp only [← hji6, ← hji7]; first | rfl | (simp [errW_none, errW_some] <;> rfl)) | (simp [*, errW_none, errW_some] <;> rfl), by repeat (first | (with_reducible first | exact HB.out | apply below_alloc | apply pw_below_drewN | apply below_drew1 | refine below_set ?_ GE353.out) | exact HB.out)⟩
        ·rw [if_neg c19] at H
         exact absurd H (by simp)
       ·rw [if_neg c18] at H
        exact absurd H (by simp)
      ·rw [if_neg c17] at H
       have c17b0 : decide (x56_2 < (t347.length : Int)) = false := decide_eq_false c17
       clear c17
       by_cases c50 : x15_2 = (wrap64 (ji7 + 1))
       ·rw [if_pos c50] at H
        have c50b0 : (x15_2 == (wrap64 (ji7 + 1))) = true := beq_iff_eq.mpr c50
        have c50b1 : (x15_2 != (wrap64 (ji7 + 1))) = false := bne_eq_false_iff_eq.mpr c50
        clear c50
        replace H := Option.bind_eq_some_iff.mp H
        obtain ⟨t351, A510, H⟩ := H
        replace H : (some t351) = some r := H
        have A51 := Aside0.mk A510
        clear A510
        obtain rfl := Option.some.inj H
        go_wp2_with (first | (go_at_call 23; (with_reducible refine (letterbaglaw35_awake.calls  t351 _ A51.out).mono ?_); rintro e w52 ⟨rfl, hb⟩; have n0_ := Aside0.mk (Kd.R_below (by (with_reducible repeat (first | apply Kd.R_alloc | apply Kd.R_drewN | apply Kd.R_drew)); exact HO_9.out) hb); have n1_ := Aside0.mk (Kd.R_below (by (with_reducible repeat (first | apply Kd.R_alloc | apply Kd.R_drewN | apply Kd.R_drew)); exact HO_13.out) hb); have n2_ := Aside0.mk (Kd.R_below (by (with_reducible repeat (first | apply Kd.R_alloc | apply Kd.R_drewN | apply Kd.R_drew)); exact HO_54.out) hb); have n3_ := Aside0.mk (below_step (by repeat (first | (with_reducible first | exact HB.out | apply below_alloc | apply pw_below_drewN | apply below_drew1) | exact HB.out)) hb); clear HO_9; clear HO_13; clear HO_54; clear HB; have HO_9 := n0_; have HO_13 := n1_; have HO_54 := n2_; have HB := n3_; clear n0_ n1_ n2_ n3_; (try clear hb); (try clear hb2); (try clear hk); (try clear hi)))
        repeat (go_quiet (first | (go_at_call 23; (with_reducible refine (letterbaglaw35_awake.calls  t351 _ A51.out).mono ?_); rintro e w52 ⟨rfl, hb⟩; have n0_ := Aside0.mk (Kd.R_below (by (with_reducible repeat (first | apply Kd.R_alloc | apply Kd.R_drewN | apply Kd.R_drew)); exact HO_9.out) hb); have n1_ := Aside0.mk (Kd.R_below (by (with_reducible repeat (first | apply Kd.R_alloc | apply Kd.R_drewN | apply Kd.R_drew)); exact HO_13.out) hb); have n2_ := Aside0.mk (Kd.R_below (by (with_reducible repeat (first | apply Kd.R_alloc | apply Kd.R_drewN | apply Kd.R_drew)); exact HO_54.out) hb); have n3_ := Aside0.mk (below_step (by repeat (first | (with_reducible first | exact HB.out | apply below_alloc | apply pw_below_drewN | apply below_drew1) | exact HB.out)) hb); clear HO_9; clear HO_13; clear HO_54; clear HB; have HO_9 := n0_; have HO_13 := n1_; have HO_54 := n2_; have HB := n3_; clear n0_ n1_ n2_ n3_; (try clear hb); (try clear hb2); (try clear hk); (try clear hi))); try go_wp2_with (first | (go_at_call 23; (with_reducible refine (letterbaglaw35_awake.calls  t351 _ A51.out).mono ?_); rintro e w52 ⟨rfl, hb⟩; have n0_ := Aside0.mk (Kd.R_below (by (with_reducible repeat (first | apply Kd.R_alloc | apply Kd.R_drewN | apply Kd.R_drew)); exact HO_9.out) hb); have n1_ := Aside0.mk (Kd.R_below (by (with_reducible repeat (first | apply Kd.R_alloc | apply Kd.R_drewN | apply Kd.R_drew)); exact HO_13.out) hb); have n2_ := Aside0.mk (Kd.R_below (by (with_reducible repeat (first | apply Kd.R_alloc | apply Kd.R_drewN | apply Kd.R_drew)); exact HO_54.out) hb); have n3_ := Aside0.mk (below_step (by repeat (first | (with_reducible first | exact HB.out | apply below_alloc | apply pw_below_drewN | apply below_drew1) | exact HB.out)) hb); clear HO_9; clear HO_13; clear HO_54; clear HB; have HO_9 := n0_; have HO_13 := n1_; have HO_54 := n2_; have HB := n3_; clear n0_ n1_ n2_ n3_; (try clear hb); (try clear hb2); (try clear hk); (try clear hi))))
        go_ret
        exact ⟨by first | rfl | (simp [errW_none, errW_some] <;> rfl) | (simp only [← hji6, ← hji7]; first | rfl | (simp [errW_none, errW_some] <;> rfl)) | (simp [*, errW_none, errW_some] <;> rfl), by repeat (first | (with_reducible first | exact HB.out | apply below_alloc | apply pw_below_drewN | apply below_drew1) | exact HB.out)⟩
       ·rw [if_neg c50] at H
        have c50b0 : (x15_2 == (wrap64 (ji7 + 1))) = false := beq_eq_false_iff_ne.mpr c50
        have c50b1 : (x15_2 != (wrap64 (ji7 + 1))) = true := bne_iff_ne.mpr c50
        obtain rfl := Option.some.inj H
        go_wp2
        repeat (go_quiet (fail); try go_wp2)
        go_ret
        exact ⟨by first | rfl | (simp [errW_none, errW_some] <;> rfl) | (simp only [← hji6, ← hji7]; first | rfl | (simp [errW_none, errW_some] <;> rfl)) | (simp [*, errW_none, errW_some] <;> rfl), by repeat (first | (with_reducible first | exact HB.out | apply below_alloc | apply pw_below_drewN | apply below_drew1) | exact HB.out)⟩
end Go.Proofs.Ytgffddbhnggllaa.QF
namespace Go.Proofs.Ytgffddbhnggllaa.Ed
open Go.RowKit Go.Proofs.YtgffddbhnggllaaW.PrintWords QF
open letterbaglaw35_OrderSpans
theorem mem_addA {first last x : Int} {acc : List Int} {o : S41} : x ∈ addA first last acc o ↔ x ∈ acc ∨ (x = o.f3 ∧ inB o.f3 first last = true) := by
  unfold addA
  split
  · rename_i h; rw [mem_insI]; constructor
    · rintro (h' | h')
      · exact .inr ⟨h', h⟩
      · exact .inl h'
    · rintro (h' | h')
      · exact .inr h'
      · exact .inl h'.1
  · rename_i h; constructor
    · intro h'; exact .inl h'
    · rintro (h' | h')
      · exact h'
      · exact absurd h'.2 h
theorem mem_addB {first last x : Int} {acc : List Int} {o : S41} : x ∈ addB first last acc o ↔ x ∈ acc ∨ (x = o.f4 + 1 ∧ (inB (o.f4 + 1) first last && (o.f4 + 1 == o.f3 || o.f5 != 1)) = true) := by
  unfold addB
  split
  · rename_i h; rw [mem_insI]; constructor
    · rintro (h' | h')
      · exact .inr ⟨h', h⟩
      · exact .inl h'
    · rintro (h' | h')
      · exact .inr h'
      · exact .inl h'.1
  · rename_i h; constructor
    · intro h'; exact .inl h'
    · rintro (h' | h')
      · exact h'
      · exact absurd h'.2 h
theorem mem_fold {first last x : Int} {L : List S41} {acc : List Int} : x ∈ L.foldl (addD first last) acc ↔ x ∈ acc ∨ ∃ o ∈ L, (x = o.f3 ∧ inB o.f3 first last = true) ∨ (x = o.f4 + 1 ∧ (inB (o.f4 + 1) first last && (o.f4 + 1 == o.f3 || o.f5 != 1)) = true) := by
  induction L generalizing acc with
  | nil => simp
  | cons o L ih =>
    rw [List.foldl_cons, ih]
    unfold addD
    rw [mem_addB, mem_addA]
    constructor
    · rintro (((h | h) | h) | ⟨q, hq, h⟩)
      · exact .inl h
      · exact .inr ⟨o, List.mem_cons_self .., .inl h⟩
      · exact .inr ⟨o, List.mem_cons_self .., .inr h⟩
      · exact .inr ⟨q, List.mem_cons_of_mem _ hq, h⟩
    · rintro (h | ⟨q, hq, h⟩)
      · exact .inl (.inl (.inl h))
      · rcases List.mem_cons.1 hq with rfl | hq
        · rcases h with h | h
          · exact .inl (.inl (.inr h))
          · exact .inl (.inr h)
        · exact .inr ⟨q, hq, h⟩
theorem onF_const {L : List S41} {first last s d : Int} (h1 : first ≤ s) (h2 : s ≤ d) (h3 : d ≤ last) (hno : ∀ x ∈ daysF first last L, ¬ (s < x ∧ x ≤ d)) : onF L d = onF L s := by
  unfold onF
  congr 1
  apply List.filter_congr
  intro o ho
  have ha : ¬ (s < o.f3 ∧ o.f3 ≤ d) := fun h => hno o.f3 (mem_fold.2 (.inr ⟨o, ho, .inl ⟨rfl, inB_iff.2 ⟨by omega, by omega⟩⟩⟩)) h
  have hb : o.f5 ≠ 1 → ¬ (s < o.f4 + 1 ∧ o.f4 + 1 ≤ d) := fun hk h => hno (o.f4 + 1) (mem_fold.2 (.inr ⟨o, ho, .inr ⟨rfl, by rw [inB_iff.2 ⟨by omega, by omega⟩, bne_iff_ne.2 hk]; simp⟩⟩)) h
  rw [Bool.eq_iff_iff, covers_iff, covers_iff]
  by_cases hk : o.f5 = 1
  · constructor
    · rintro ⟨p, _⟩; exact ⟨by omega, .inl hk⟩
    · rintro ⟨p, _⟩; exact ⟨by omega, .inl hk⟩
  · have hb := hb hk
    constructor
    · rintro ⟨p, q⟩; exact ⟨by omega, .inr (by rcases q with q | q <;> omega)⟩
    · rintro ⟨p, q⟩; exact ⟨by omega, .inr (by rcases q with q | q <;> omega)⟩
def gS (l : List S54) (i : Nat) : S54 := l.getD i z54
theorem gS_set (l : List S54) (j : Nat) (x : S54) (i : Nat) : gS (l.set j x) i = if i = j ∧ j < l.length then x else gS l i := by
  unfold gS
  rw [List.getD_eq_getElem?_getD, List.getD_eq_getElem?_getD, List.getElem?_set]
  by_cases h : j = i
  · subst h
    by_cases h2 : j < l.length
    · rw [if_pos rfl, if_pos h2, if_pos ⟨rfl, h2⟩]; rfl
    · rw [if_pos rfl, if_neg h2, if_neg (fun q => h2 q.2), List.getElem?_eq_none (by omega)]
  · rw [if_neg h, if_neg (fun q => h q.1.symm)]
theorem gS_snoc (l : List S54) (x : S54) (i : Nat) (h : i ≤ l.length) : gS (l ++ [x]) i = if i = l.length then x else gS l i := by
  unfold gS
  rw [List.getD_eq_getElem?_getD, List.getD_eq_getElem?_getD, List.getElem?_append]
  by_cases h2 : i < l.length
  · rw [if_pos h2, if_neg (by omega)]
  · obtain rfl : i = l.length := by omega
    rw [if_neg h2, if_pos rfl]; simp
structure Ch (I : Int → Int) (a b : Int) (l : List S54) : Prop where
  first : 0 < l.length → (gS l 0).f0 = a
  next : ∀ i, i + 1 < l.length → (gS l (i + 1)).f0 = (gS l i).f1 + 1 ∧ (gS l i).f2 ≠ (gS l (i + 1)).f2
  each : ∀ i, i < l.length → (gS l i).f0 ≤ (gS l i).f1 ∧ (gS l i).f1 ≤ b ∧ a ≤ (gS l i).f0 ∧ ∀ d, (gS l i).f0 ≤ d → d ≤ (gS l i).f1 → I d = (gS l i).f2
  last : 0 < l.length → (gS l (l.length - 1)).f1 = b
theorem lastS_g (l : List S54) : lastS l = gS l (l.length - 1) := rfl
theorem ch_push {I : Int → Int} {a b : Int} {l : List S54} (h : Ch I a b l) (s : S54) (hs : s.f0 ≤ s.f1) (h0 : l.length = 0 → s.f0 = a) (h1 : 0 < l.length → s.f0 = b + 1 ∧ a ≤ b + 1) (hI : ∀ d, s.f0 ≤ d → d ≤ s.f1 → I d = s.f2) :
    Ch I a s.f1 (pushS l s) ∧ 0 < (pushS l s).length := by
  unfold pushS
  split
  · rename_i hm
    obtain ⟨hl, he⟩ := hm
    rw [lastS_g] at he ⊢
    have hlast := h.last hl
    have h1 := h1 hl
    have hg : ∀ i, gS (l.set (l.length - 1) ⟨(gS l (l.length - 1)).f0, s.f1, (gS l (l.length - 1)).f2⟩) i = if i = l.length - 1 then ⟨(gS l (l.length - 1)).f0, s.f1, (gS l (l.length - 1)).f2⟩ else gS l i := by
      intro i
      rw [gS_set]
      by_cases q : i = l.length - 1
      · rw [if_pos ⟨q, by omega⟩, if_pos q]
      · rw [if_neg (fun z => q z.1), if_neg q]
    refine ⟨⟨fun _ => ?_, fun i hi => ?_, fun i hi => ?_, fun _ => ?_⟩, by rw [List.length_set]; exact hl⟩
    · rw [hg]
      split
      · rename_i q; rw [← q]; exact h.first hl
      · exact h.first hl
    · rw [List.length_set] at hi
      rw [hg, hg, if_neg (show ¬ i = l.length - 1 by omega)]
      split
      · rename_i q; have := h.next i hi; rw [q] at this; exact this
      · exact h.next i hi
    · rw [List.length_set] at hi
      rw [hg]
      split
      · rename_i q
        have e := h.each (l.length - 1) (by omega)
        refine ⟨by simp only; omega, Int.le_refl _, e.2.2.1, fun d h2 h3 => ?_⟩
        by_cases hd : d ≤ b
        · exact e.2.2.2 d h2 (by omega)
        · rw [he]; exact hI d (by omega) h3
      · have e := h.each i hi
        exact ⟨e.1, by omega, e.2.2.1, e.2.2.2⟩
    · rw [List.length_set, hg, if_pos rfl]
  · rename_i hm
    refine ⟨⟨fun _ => ?_, fun i hi => ?_, fun i hi => ?_, fun _ => ?_⟩, by simp⟩
    · rw [gS_snoc _ _ _ (by omega)]
      split
      · rename_i q; exact h0 q.symm
      · exact h.first (by omega)
    · rw [List.length_append, List.length_singleton] at hi
      rw [gS_snoc _ _ _ (by omega), gS_snoc _ _ _ (by omega), if_neg (show ¬ i = l.length by omega)]
      split
      · rename_i q
        have hl : 0 < l.length := by omega
        have e := h.last hl
        rw [show i = l.length - 1 by omega]
        refine ⟨by rw [e]; exact (h1 hl).1, fun e2 => hm ⟨hl, ?_⟩⟩
        rw [lastS_g]; exact e2
      · exact h.next i (by omega)
    · rw [List.length_append, List.length_singleton] at hi
      rw [gS_snoc _ _ _ (by omega)]
      split
      · rename_i q
        refine ⟨hs, Int.le_refl _, ?_, hI⟩
        by_cases hl : 0 < l.length
        · have := h1 hl; omega
        · rw [h0 (by omega)]; exact Int.le_refl _
      · have hl : 0 < l.length := by omega
        have e := h.each i (by omega)
        have := h1 hl
        exact ⟨e.1, by omega, e.2.2.1, e.2.2.2⟩
    · rw [List.length_append, List.length_singleton, Nat.add_sub_cancel, gS_snoc _ _ _ (by omega), if_pos rfl]
theorem spans_ch {L : List S41} {first last : Int} (hfl : first ≤ last) : Ch (fun d => idF (onF L d)) first last (mergeS (upto (spanAt last L (daysF first last L)) (daysF first last L).length)) ∧ 0 < (mergeS (upto (spanAt last L (daysF first last L)) (daysF first last L).length)).length := by
  have hasc := asc_days first last L
  have hbd := days_bd hfl L
  have hfst := days_first first last L
  have hconst : ∀ s d, first ≤ s → s ≤ d → d ≤ last → (∀ x ∈ daysF first last L, ¬ (s < x ∧ x ≤ d)) → onF L d = onF L s := fun s d h1 h2 h3 h => onF_const h1 h2 h3 h
  generalize daysF first last L = st at hasc hbd hfst hconst
  have hg : ∀ i, i < st.length → ∃ x, st[i]? = some x ∧ first ≤ x ∧ x ≤ last := fun i hi => ⟨st[i], List.getElem?_eq_getElem hi, hbd _ (List.getElem_mem hi)⟩
  have hlt : ∀ (i j : Nat) (x y : Int), i < j → st[i]? = some x → st[j]? = some y → x < y := by
    intro i j x y hij hx hy
    obtain ⟨hi, rfl⟩ := List.getElem?_eq_some_iff.1 hx
    obtain ⟨hj, rfl⟩ := List.getElem?_eq_some_iff.1 hy
    exact List.pairwise_iff_getElem.1 hasc i j hi hj hij
  have hpos : 0 < st.length := List.length_pos_of_mem hfst
  have h00 : st[0]? = some first := by
    obtain ⟨x, hx, h1, h2⟩ := hg 0 hpos
    obtain ⟨j, hj⟩ := List.getElem?_of_mem hfst
    rcases Nat.eq_zero_or_pos j with rfl | h
    · exact hj
    · have := hlt 0 j x first h hx hj; omega
  have key : ∀ k, k ≤ st.length → Ch (fun d => idF (onF L d)) first (if k < st.length then st[k]?.getD 0 - 1 else last) (mergeS (upto (spanAt last L st) k)) ∧ (0 < k → 0 < (mergeS (upto (spanAt last L st) k)).length) ∧ (k = 0 → (mergeS (upto (spanAt last L st) k)).length = 0) := by
    intro k
    induction k with
    | zero =>
      intro _
      have : mergeS (upto (spanAt last L st) 0) = [] := rfl
      rw [this]
      exact ⟨⟨fun h => by simp at h, fun i h => by simp at h, fun i h => by simp at h, fun h => by simp at h⟩, fun h => by omega, fun _ => rfl⟩
    | succ k ih =>
      intro hk
      obtain ⟨ih, ihp, ihz⟩ := ih (by omega)
      rw [if_pos (by omega)] at ih
      rw [upto_succ, mergeS_snoc]
      obtain ⟨x, hx, hx1, hx2⟩ := hg k (by omega)
      rw [hx, Option.getD_some] at ih
      have hend : x ≤ (spanAt last L st k).f1 ∧ (spanAt last L st k).f1 ≤ last ∧ (∀ y ∈ st, ¬ (x < y ∧ y ≤ (spanAt last L st k).f1)) ∧ (spanAt last L st k).f1 = (if k + 1 < st.length then st[k + 1]?.getD 0 - 1 else last) := by
        unfold spanAt
        simp only
        by_cases h : k + 1 < st.length
        · obtain ⟨y, hy, hy1, hy2⟩ := hg (k + 1) h
          rw [if_pos h, hy, Option.getD_some]
          have := hlt k (k + 1) x y (by omega) hx hy
          refine ⟨by omega, by omega, fun z hz hc => ?_, trivial⟩
          obtain ⟨j, hj⟩ := List.getElem?_of_mem hz
          rcases Nat.lt_trichotomy j (k + 1) with q | rfl | q
          · rcases Nat.lt_or_ge j k with q2 | q2
            · have := hlt j k z x q2 hj hx; omega
            · obtain rfl : j = k := by omega
              rw [hx] at hj; obtain rfl := Option.some.inj hj; omega
          · rw [hy] at hj; obtain rfl := Option.some.inj hj; omega
          · have := hlt (k + 1) j y z q hy hj; omega
        · rw [if_neg h]
          refine ⟨by omega, by omega, fun z hz hc => ?_, trivial⟩
          obtain ⟨j, hj⟩ := List.getElem?_of_mem hz
          have hjl := (List.getElem?_eq_some_iff.1 hj).1
          rcases Nat.lt_or_ge j k with q2 | q2
          · have := hlt j k z x q2 hj hx; omega
          · obtain rfl : j = k := by omega
            rw [hx] at hj; obtain rfl := Option.some.inj hj; omega
      have e0 : (spanAt last L st k).f0 = x := by unfold spanAt; simp only; rw [hx, Option.getD_some]
      have e2 : (spanAt last L st k).f2 = idF (onF L x) := by unfold spanAt; simp only; rw [hx, Option.getD_some]
      have hp := ch_push ih (spanAt last L st k) (by rw [e0]; exact hend.1)
        (fun hz => by
          rw [e0]
          rcases Nat.eq_zero_or_pos k with rfl | q
          · rw [h00] at hx; exact (Option.some.inj hx).symm
          · have := ihp q; omega)
        (fun hz => ⟨by rw [e0]; omega, by omega⟩)
        (fun d h1 h2 => by
          rw [e0] at h1
          rw [e2]
          show idF (onF L d) = _
          rw [hconst x d hx1 h1 (by omega) (fun y hy hc => hend.2.2.1 y hy ⟨hc.1, by omega⟩)])
      rw [hend.2.2.2] at hp
      exact ⟨hp.1, fun _ => hp.2, fun h => by omega⟩
  obtain ⟨h1, h2, _⟩ := key st.length (Nat.le_refl _)
  rw [if_neg (by omega)] at h1
  exact ⟨h1, h2 hpos⟩
section
variable (l0 : List S41) (p last : Int) (S : List S54) (I : Int → Int) (first : Int)
theorem spans_l1 (hch : Ch I first last S) (hI : ∀ d, first ≤ d → d ≤ last → letterbaglaw35_in.f l0 p d = some (I d, true)) (h0 : 0 ≤ first) (hl : last ≤ 1000) (i : Nat) (hi : i < S.length)
    (next : Ev (fun k => letterbaglaw35_OrderSpans.l0 k l0 p last S ((gS S i).f1 + 1) S (S.length : Int) (wrap64 ((i : Int) + 1))) true) : ∀ (m : Nat) (d : Int), ((gS S i).f1 + 1 - d).toNat = m → (gS S i).f0 ≤ d → d ≤ (gS S i).f1 + 1 →
    Ev (fun k => letterbaglaw35_OrderSpans.l1 k l0 p last S d S (S.length : Int) (i : Int) (gS S i).f0 (gS S i).f1 (gS S i).f2) true := by
  obtain ⟨e1, e2, e3, e4⟩ := hch.each i hi
  intro m
  induction m with
  | zero =>
    intro d hm h1 h2
    have hd : d = (gS S i).f1 + 1 := by omega
    subst hd
    refine Ev.step (f := fun k => letterbaglaw35_OrderSpans.j4 k l0 p last S ((gS S i).f1 + 1) S (S.length : Int) (i : Int) false (gS S i).f0 (gS S i).f1 (gS S i).f2) (fun k => by rw [letterbaglaw35_OrderSpans.l1, if_neg (by omega)]) ?_
    refine Ev.step (fun k => ?_) next
    rw [letterbaglaw35_OrderSpans.j4, if_neg (by simp), w64n _ (by omega) (by omega), if_pos rfl]
  | succ m ih =>
    intro d hm h1 h2
    refine Ev.step (f := fun k => letterbaglaw35_OrderSpans.j4 k l0 p last S d S (S.length : Int) (i : Int) true (gS S i).f0 (gS S i).f1 (gS S i).f2) (fun k => by rw [letterbaglaw35_OrderSpans.l1, if_pos (by omega), decide_eq_true (by omega)]) ?_
    refine Ev.step (fun k => ?_) (ih (d + 1) (by omega) (by omega) (by omega))
    rw [letterbaglaw35_OrderSpans.j4, if_pos rfl, hI d (by omega) (by omega), Option.bind_some, if_pos rfl, if_pos (e4 d h1 (by omega)), w64n _ (by omega) (by omega)]
theorem spans_l0 (hch : Ch I first last S) (hI : ∀ d, first ≤ d → d ≤ last → letterbaglaw35_in.f l0 p d = some (I d, true)) (h0 : 0 ≤ first) (hl : last ≤ 1000) (hpos : 0 < S.length) (hlen : S.length ≤ 100000) : ∀ (m i : Nat), S.length - i = m → i ≤ S.length →
    Ev (fun k => letterbaglaw35_OrderSpans.l0 k l0 p last S (if i = 0 then first else (gS S (i - 1)).f1 + 1) S (S.length : Int) (i : Int)) true := by
  intro m
  induction m with
  | zero =>
    intro i hm hi
    obtain rfl : i = S.length := by omega
    have e := hch.each (S.length - 1) (by omega)
    have e2 := hch.last hpos
    rw [if_neg (show ¬ S.length = 0 by omega), e2]
    refine Ev.step (f := fun _ => some true) (fun k => ?_) (Ev.now _)
    rw [letterbaglaw35_OrderSpans.l0, if_neg (by omega), if_pos (by rw [w64n _ (by omega) (by omega)])]
    rfl
  | succ m ih =>
    intro i hm hi
    have hil : i < S.length := by omega
    have e : rd_T54 S (i : Int) = gS S i := by unfold rd_T54 gS; rw [Int.toNat_natCast]
    obtain ⟨e1, e2, e3, e4⟩ := hch.each i hil
    have hst : (gS S i).f0 = (if i = 0 then first else (gS S (i - 1)).f1 + 1) := by
      by_cases h : i = 0
      · subst h; rw [if_pos rfl]; exact hch.first hpos
      · rw [if_neg h]
        have := (hch.next (i - 1) (by omega)).1
        rwa [show i - 1 + 1 = i by omega] at this
    rw [← hst]
    have next := ih (i + 1) (by omega) (by omega)
    rw [if_neg (by omega), Nat.add_sub_cancel, ← wsucc i (by omega)] at next
    have h1 := spans_l1 l0 p last S I first hch hI h0 hl i hil next _ (gS S i).f0 rfl (by omega) (by omega)
    refine Ev.step (f := fun k => letterbaglaw35_OrderSpans.j2 k l0 p last S (gS S i).f0 S (S.length : Int) (i : Int) false (gS S i).f0 (gS S i).f1 (gS S i).f2) (fun k => ?_) (Ev.step (fun k => ?_) h1)
    · rw [letterbaglaw35_OrderSpans.l0, if_pos (by omega), if_pos (by omega), if_pos (by omega), e, if_pos rfl, if_neg (by omega)]
      by_cases h : i = 0
      · subst h; rw [if_neg (by omega)]
      · have hj : wrap64 ((i : Int) - 1) = ((i - 1 : Nat) : Int) := by rw [w64n _ (by omega) (by omega)]; omega
        have ej : rd_T54 S ((i - 1 : Nat) : Int) = gS S (i - 1) := by unfold rd_T54 gS; rw [Int.toNat_natCast]
        have hne := (hch.next (i - 1) (by omega)).2
        rw [show i - 1 + 1 = i by omega] at hne
        rw [if_pos (by omega), hj, if_pos (by omega), if_pos (by omega), ej, beq_eq_false_iff_ne.2 (Ne.symm hne)]
    · rw [letterbaglaw35_OrderSpans.j2, if_neg (by simp)]
end
theorem mnmx (a b : Int) : mn a b ≤ mx a b ∧ (mn a b = a ∨ mn a b = b) ∧ (mx a b = a ∨ mx a b = b) := by
  unfold mn mx
  split <;> split <;> omega
theorem spans_good {L : List S41} (h : rightL L = true) {p a b : Int} (p0 : 1 ≤ p) (p1 : p ≤ 999999) (h0 : 0 ≤ a) (h1 : a ≤ b) (h2 : b ≤ 730484) : spansF L p a b = (mergeS (upto (spanAt b (ofF L p) (daysF a b (ofF L p))) (daysF a b (ofF L p)).length), 0) := by
  unfold spansF
  rw [if_pos]
  rw [h, inB_true p0 p1, decide_eq_true h0, decide_eq_true h1, decide_eq_true h2]; rfl
theorem spans_true (l : List S72) (ok : ∀ f ∈ l, okS f) (a1 a2 a3 : Int) (h1 : 0 ≤ a1) (h2 : a1 ≤ 255) (h3 : 0 ≤ a2) (h4 : a2 ≤ 255) (h5 : 0 ≤ a3) (h6 : a3 ≤ 255) : ∃ k, letterbaglaw35_OrderSpans.f k l a1 a2 a3 = some true := by
  have hr := built_right l ok
  have hlen := built_len l
  have p0 : 1 ≤ 1 + a1 % 6 := by omega
  have p1 : 1 + a1 % 6 ≤ 999999 := by omega
  obtain ⟨q0, q1, q2⟩ := mnmx (a2 % 110) (a3 % 110)
  have d0 : 0 ≤ mn (a2 % 110) (a3 % 110) := by omega
  have d1 : mx (a2 % 110) (a3 % 110) ≤ 109 := by omega
  clear q1 q2
  have hch := spans_ch (L := ofF (builtL l) (1 + a1 % 6)) q0
  have hlen2 : (mergeS (upto (spanAt (mx (a2 % 110) (a3 % 110)) (ofF (builtL l) (1 + a1 % 6)) (daysF (mn (a2 % 110) (a3 % 110)) (mx (a2 % 110) (a3 % 110)) (ofF (builtL l) (1 + a1 % 6)))) (daysF (mn (a2 % 110) (a3 % 110)) (mx (a2 % 110) (a3 % 110)) (ofF (builtL l) (1 + a1 % 6))).length)).length ≤ 1000 := by
    refine Nat.le_trans (mergeS_len _) ?_
    rw [upto_length]
    refine Nat.le_trans (days_len _ _ _) ?_
    have : (ofF (builtL l) (1 + a1 % 6)).length ≤ (builtL l).length := List.length_filter_le _ _
    omega
  have hg := spans_good hr p0 p1 d0 q0 (by omega)
  generalize mergeS (upto (spanAt (mx (a2 % 110) (a3 % 110)) (ofF (builtL l) (1 + a1 % 6)) (daysF (mn (a2 % 110) (a3 % 110)) (mx (a2 % 110) (a3 % 110)) (ofF (builtL l) (1 + a1 % 6)))) (daysF (mn (a2 % 110) (a3 % 110)) (mx (a2 % 110) (a3 % 110)) (ofF (builtL l) (1 + a1 % 6))).length) = S at hch hlen2 hg
  have hev := spans_l0 (builtL l) (1 + a1 % 6) (mx (a2 % 110) (a3 % 110)) S _ (mn (a2 % 110) (a3 % 110)) hch.1 (fun d e1 e2 => in_f hr p0 p1 (by omega) (by omega)) d0 (by omega) hch.2 (by omega) _ 0 rfl (by omega)
  rw [if_pos rfl] at hev
  obtain ⟨K, hK⟩ := Ev.step (g := fun k => letterbaglaw35_OrderSpans.j0 k (builtL l) (1 + a1 % 6) (mn (a2 % 110) (a3 % 110)) (mx (a2 % 110) (a3 % 110)) S false) (fun k => by rw [letterbaglaw35_OrderSpans.j0, if_neg (by simp)]; rfl) hev
  refine ⟨max K 41, ?_⟩
  unfold letterbaglaw35_OrderSpans.f
  rw [built_f l ok _ (by omega), Option.bind_some, pt_eq a1 h1 h2, day_eq a2 h3 h4, day_eq a3 h5 h6]
  unfold order_Spans.f
  rw [hg, Option.bind_some, if_pos rfl]
  rw [show (((S.length : Nat) : Int) == 0) = false from beq_eq_false_iff_ne.2 (by have := hch.2; omega)]
  exact hK _ (by omega)
theorem spans_walk (A : Option Addr) (len cap : Nat) (l : List S72) (a1 a2 a3 : Int) (w : World) (h1 : l.length = len) (h2 : len ≤ cap) (h3 : Kd.C k72 w A len l) (h4 : ∀ o ∈ l, okS o) (h5 : (Lit.int .u8 a1).wf = true) (h6 : (Lit.int .u8 a2).wf = true) (h7 : (Lit.int .u8 a3).wf = true) :
    Calls Try.prog 7 #[.slice A len cap, .int .u8 a1, .int .u8 a2, .int .u8 a3] w fun e w' => e = .returned (.bool true) ∧ Below w.heap.size w w' := by
  subst h1
  obtain ⟨k, h⟩ := spans_true l h4 a1 a2 a3 (u8_in h5).1 (u8_in h5).2 (u8_in h6).1 (u8_in h6).2 (u8_in h7).1 (u8_in h7).2
  exact letterbaglaw35_OrderSpans.calls k A cap l a1 a2 a3 true w h3 h2 h
end Go.Proofs.Ytgffddbhnggllaa.Ed
namespace Go.Proofs.Ytgffddbhnggllaa.orderSpans
open Go.ChangeShapes Go.WideShapes Go.ChangeAt Go.RowKit Go.Joins
open Go.ChangeMaps (open_string shut_string)
set_option linter.unusedVariables false
theorem own : ownKnob Try.prog.godebug = none := by kernel_rfl
theorem laidOut : laidOutB Try.prog = true := by kernel_rfl
set_option maxRecDepth 100000 in
theorem lifted (os : Os) (started : os.Started) (H : Type) (enc : TypeId × Value → H) :
    ReturnsInHanded {} Try.checked os 7 .any (Rows.orderSpansSpec.pre6 enc Try.prog Try.f7 Rows.orderSpansRow.domain false) (Rows.orderSpansSpec.post enc Try.prog Try.f7 false true false false) := by
  refine returnsInHanded_of_change_sized (C := Try.checked) own started (by kernel_rfl) Try.func7
    (ChangeSpec.witness6 (enc := enc) (C := Try.checked) false ⟨#[], #[.slice none 0 0, .int .u8 0, .int .u8 0, .int .u8 0], []⟩ 8 (by kernel_rfl) (by kernel_rfl) (by kernel_rfl) (by kernel_rfl)) ?_
  intro W base args ds gs before hval0 hW hcnd hsz0 _
  have hsz : (DataW.weightsEach Try.prog (Try.f7.params.toList ++ Rows.orderSpansSpec.plain.varTypes Try.prog) (ds ++ gs)).all (· ≤ reachBytes) = true := hsz0
  have hval : ∀ (j : Nat) t v, Try.f7.params[j]? = some t → args[j]? = some v → Value.okWide Try.prog W .any base t v := hval0
  have hW' := hW
  obtain ⟨p, q, hA0, hV, rfl, hfz, hnd⟩ := hW
  have hA : DataW.TrodAll enc Try.prog W 0 (fun _ => true) true Try.f7.params.toList args.toList ds p := hA0
  rw [Try.params7] at hA hval hsz
  obtain ⟨v0, vs0, d0, ds0, p0, q0, hargs, rfl, rfl, h0, r0⟩ := trodAll_cons hA
  obtain ⟨v1, vs1, d1, ds1, p1, q1, rfl, rfl, rfl, h1, r1⟩ := trodAll_cons r0
  obtain ⟨v2, vs2, d2, ds2, p2, q2, rfl, rfl, rfl, h2, r2⟩ := trodAll_cons r1
  obtain ⟨v3, vs3, d3, ds3, p3, q3, rfl, rfl, rfl, h3, r3⟩ := trodAll_cons r2
  obtain ⟨rfl, rfl, rfl⟩ := trodAll_nil r3
  obtain rfl : args = #[v0, v1, v2, v3] := by cases args; simp_all
  obtain ⟨rfl, rfl⟩ := trodVars_none hV
  obtain ⟨a0, len0, cap0, rfl⟩ := okWide_slice Try.underlying22 (hval 0 22 v0 rfl rfl)
  have k0 := h0
  have lt0 : ∀ x ∈ p0, x.block < W.heap.size := by obtain ⟨m, hm⟩ := k0; exact DataW.trod_lt m _ _ _ hm
  obtain ⟨z0, n0, l0, w0, b0⟩ := Ed.open_forms h0 rfl
  obtain ⟨a1, rfl, rfl, rfl, w1⟩ := open_int Try.underlying5 (hval 1 5 v1 rfl rfl) h1
  obtain ⟨a2, rfl, rfl, rfl, w2⟩ := open_int Try.underlying5 (hval 2 5 v2 rfl rfl) h2
  obtain ⟨a3, rfl, rfl, rfl, w3⟩ := open_int Try.underlying5 (hval 3 5 v3 rfl rfl) h3
  clear hA0 hval0 hsz0 hsz
  refine (Ed.spans_walk a0 len0 cap0 z0 a1 a2 a3 W n0 l0 w0 b0 w1 w2 w3).mono fun e W' ⟨he, bel⟩ => ?_
  subst he
  exact ⟨_, rfl, _, _, _, [], _, [], hW', trodAll_mk1 (shut_bool Try.underlying4 _), (trodAll_cons_mk (Below.trod laidOut (by kernel_rfl) (of_decide_eq_true (by kernel_rfl)) k0 bel lt0) (trodAll_cons_mk (shut_int Try.underlying5 w1) (trodAll_cons_mk (shut_int Try.underlying5 w2) (trodAll_cons_mk (shut_int Try.underlying5 w3) trodAll_mk0)))), rfl, bel.frame _, fun h => by cases h⟩
theorem over : Rows.orderSpansRow.holds Try.pinned (OpenSpec.ofChange Rows.orderSpansSpec) :=
  OpenClaim.holds_of_wide 7 Try.f7 rfl rfl rfl rfl rfl rfl rfl ⟨rfl, rfl, rfl, rfl, rfl⟩ rfl rfl rfl rfl rfl (by kernel_rfl) Try.func7 closed
    (of_decide_eq_true (by kernel_rfl)) (by unfold Func.isWrapper; first | (rw [if_pos (by decide +kernel)]; kernel_rfl) | (rw [if_neg (by decide +kernel)]; exact ⟨rfl, rfl⟩))
    (fun os started H enc _ => lifted os started H enc)
theorem proved : Rows.OrderSpansSaid := over
#print axioms proved
end Go.Proofs.Ytgffddbhnggllaa.orderSpans
namespace Go.Proofs.Ytgffddbhnggllaa
theorem orderSpans_holds : Rows.OrderSpansSaid := orderSpans.proved
end Go.Proofs.Ytgffddbhnggllaa
