/- A part of the texts of one claim: the walk of the code by hand-proved contracts, and the plain law. -/
import Derived.Deep.Slices
import Derived.Deep.Fields
import Derived.ChangeSame
import Derived.Test.YtgffddbhnggllaaKA5
set_option linter.unusedVariables false
set_option linter.unusedSimpArgs false
namespace Go.Proofs.Ytgffddbhnggllaa.QF
open Go.RowKit Go.Proofs.YtgffddbhnggllaaW.PrintWords Go.Proofs.YtgffddbhnggllaaW.PrintLast Go.Proofs.YtgffddbhnggllaaW.PrintMore
attribute [local go_sem] max2_int min2_int max_two min_two max_three min_three max_four min_four
set_option linter.unusedVariables false
set_option linter.unusedSimpArgs false
mutual
def letterbaglaw35_OrderRules.j0 : Nat → List (S41) → Int → Int → List (S41) → Bool → Option (Bool)
 | 0, _, _, _, _, _ => none
 | k + 1, x7, x8, x9, x10, x74 => if x74 = true then (some false) else (letterbaglaw35_OrderRules.l0 k x8 x9 x10 0 x7 (x7.length : Int) 0)
def letterbaglaw35_OrderRules.l0 : Nat → Int → Int → List (S41) → Int → List (S41) → Int → Int → Option (Bool)
 | 0, _, _, _, _, _, _, _ => none
 | k + 1, x8, x9, x10, x14, x75, x76, x77 => if x77 < x76 then (if 0 ≤ x77 then (if x77 < (x75.length : Int) then (if ((rd_T41 x75 x77).f1) = x8 then (if ((rd_T41 x75 x77).f3) ≤ x9 then (if ((rd_T41 x75 x77).f5) = 1 then (letterbaglaw35_OrderRules.l0 k x8 x9 x10 (wrap64 (x14 + 1)) x75 x76 (wrap64 (x77 + 1))) else (if x9 ≤ ((rd_T41 x75 x77).f4) then (letterbaglaw35_OrderRules.l0 k x8 x9 x10 (wrap64 (x14 + 1)) x75 x76 (wrap64 (x77 + 1))) else (letterbaglaw35_OrderRules.l0 k x8 x9 x10 x14 x75 x76 (wrap64 (x77 + 1))))) else (letterbaglaw35_OrderRules.l0 k x8 x9 x10 x14 x75 x76 (wrap64 (x77 + 1)))) else (letterbaglaw35_OrderRules.l0 k x8 x9 x10 x14 x75 x76 (wrap64 (x77 + 1)))) else (none)) else (none)) else (letterbaglaw35_OrderRules.l1 k x8 x9 x10 x14 x10 (x10.length : Int) 0)
def letterbaglaw35_OrderRules.l1 : Nat → Int → Int → List (S41) → Int → List (S41) → Int → Int → Option (Bool)
 | 0, _, _, _, _, _, _, _ => none
 | k + 1, x8, x9, x10, x14, x105, x106, x107 => if x107 < x106 then (if 0 ≤ x107 then (if x107 < (x105.length : Int) then (if ((rd_T41 x105 x107).f1) = x8 then (if ((rd_T41 x105 x107).f3) > x9 then (letterbaglaw35_OrderRules.j3 k x8 x9 x10 x14 x107 x105 x106 x107 true ((rd_T41 x105 x107).f0) ((rd_T41 x105 x107).f1) ((rd_T41 x105 x107).f2) ((rd_T41 x105 x107).f3) ((rd_T41 x105 x107).f4) ((rd_T41 x105 x107).f5)) else (if ((rd_T41 x105 x107).f5) = 1 then (letterbaglaw35_OrderRules.j3 k x8 x9 x10 x14 x107 x105 x106 x107 false ((rd_T41 x105 x107).f0) ((rd_T41 x105 x107).f1) ((rd_T41 x105 x107).f2) ((rd_T41 x105 x107).f3) ((rd_T41 x105 x107).f4) ((rd_T41 x105 x107).f5)) else (letterbaglaw35_OrderRules.j3 k x8 x9 x10 x14 x107 x105 x106 x107 (decide (x9 > ((rd_T41 x105 x107).f4))) ((rd_T41 x105 x107).f0) ((rd_T41 x105 x107).f1) ((rd_T41 x105 x107).f2) ((rd_T41 x105 x107).f3) ((rd_T41 x105 x107).f4) ((rd_T41 x105 x107).f5)))) else (letterbaglaw35_OrderRules.j3 k x8 x9 x10 x14 x107 x105 x106 x107 true ((rd_T41 x105 x107).f0) ((rd_T41 x105 x107).f1) ((rd_T41 x105 x107).f2) ((rd_T41 x105 x107).f3) ((rd_T41 x105 x107).f4) ((rd_T41 x105 x107).f5))) else (none)) else (none)) else (if x14 = (x10.length : Int) then ((letterbaglaw35_awake.f).bind fun t339 => (some t339)) else (some false))
def letterbaglaw35_OrderRules.j3 : Nat → Int → Int → List (S41) → Int → Int → List (S41) → Int → Int → Bool → Int → Int → Int → Int → Int → Int → Option (Bool)
 | 0, _, _, _, _, _, _, _, _, _, _, _, _, _, _, _ => none
 | k + 1, x8, x9, x10, x14, x17, x105, x106, x107, x132, x342000, x342001, x342002, x342003, x342004, x342005 => if x132 = true then (some false) else (if x17 = 0 then (letterbaglaw35_OrderRules.l1 k x8 x9 x10 x14 x105 x106 (wrap64 (x107 + 1))) else (if 0 ≤ (wrap64 (x17 - 1)) then (if (wrap64 (x17 - 1)) < (x10.length : Int) then (if ((rd_T41 x10 (wrap64 (x17 - 1))).f5) = x342005 then (letterbaglaw35_OrderRules.j4 k x8 x9 x10 x14 x105 x106 x107 false x342000 x342001 x342002 x342003 x342004 x342005 ((rd_T41 x10 (wrap64 (x17 - 1))).f0) ((rd_T41 x10 (wrap64 (x17 - 1))).f1) ((rd_T41 x10 (wrap64 (x17 - 1))).f2) ((rd_T41 x10 (wrap64 (x17 - 1))).f3) ((rd_T41 x10 (wrap64 (x17 - 1))).f4) ((rd_T41 x10 (wrap64 (x17 - 1))).f5)) else (if ((rd_T41 x10 (wrap64 (x17 - 1))).f5) = 3 then (letterbaglaw35_OrderRules.j4 k x8 x9 x10 x14 x105 x106 x107 true x342000 x342001 x342002 x342003 x342004 x342005 ((rd_T41 x10 (wrap64 (x17 - 1))).f0) ((rd_T41 x10 (wrap64 (x17 - 1))).f1) ((rd_T41 x10 (wrap64 (x17 - 1))).f2) ((rd_T41 x10 (wrap64 (x17 - 1))).f3) ((rd_T41 x10 (wrap64 (x17 - 1))).f4) ((rd_T41 x10 (wrap64 (x17 - 1))).f5)) else (letterbaglaw35_OrderRules.j4 k x8 x9 x10 x14 x105 x106 x107 (x342005 == 3) x342000 x342001 x342002 x342003 x342004 x342005 ((rd_T41 x10 (wrap64 (x17 - 1))).f0) ((rd_T41 x10 (wrap64 (x17 - 1))).f1) ((rd_T41 x10 (wrap64 (x17 - 1))).f2) ((rd_T41 x10 (wrap64 (x17 - 1))).f3) ((rd_T41 x10 (wrap64 (x17 - 1))).f4) ((rd_T41 x10 (wrap64 (x17 - 1))).f5)))) else (none)) else (none)))
def letterbaglaw35_OrderRules.j4 : Nat → Int → Int → List (S41) → Int → List (S41) → Int → Int → Bool → Int → Int → Int → Int → Int → Int → Int → Int → Int → Int → Int → Int → Option (Bool)
 | 0, _, _, _, _, _, _, _, _, _, _, _, _, _, _, _, _, _, _, _, _ => none
 | k + 1, x8, x9, x10, x14, x105, x106, x107, x140, x342000, x342001, x342002, x342003, x342004, x342005, x344000, x344001, x344002, x344003, x344004, x344005 => if x140 = true then (if x342005 = 3 then (some false) else (letterbaglaw35_OrderRules.l1 k x8 x9 x10 x14 x105 x106 (wrap64 (x107 + 1)))) else (if x344003 < x342003 then (some false) else (if x344003 = x342003 then (if x344000 ≤ x342000 then (some false) else (letterbaglaw35_OrderRules.l1 k x8 x9 x10 x14 x105 x106 (wrap64 (x107 + 1)))) else (letterbaglaw35_OrderRules.l1 k x8 x9 x10 x14 x105 x106 (wrap64 (x107 + 1)))))
end
def letterbaglaw35_OrderRules.f (k : Nat) (l0 : List (S72)) (a1 : Int) (a2 : Int) : Option (Bool) := (letterbaglaw35_Built.f k l0).bind fun t326 => ((order_All.f t326 (wrap64 (1 + (Int.tmod (wrap64 (a1)) 6))) (Int.tmod (wrap64 (a2)) 110)).bind fun bt329 => ((letterbaglaw35_in.f t326 (wrap64 (1 + (Int.tmod (wrap64 (a1)) 6))) (Int.tmod (wrap64 (a2)) 110)).bind fun bt333 => (if bt329.2 = 0 then (if bt333.2 = true then ((order_Right.f t326).bind fun t335 => (if t335 = true then (if ((bt333.1 == 0) != ((bt329.1.length : Int) == 0)) = true then (letterbaglaw35_OrderRules.j0 k t326 (wrap64 (1 + (Int.tmod (wrap64 (a1)) 6))) (Int.tmod (wrap64 (a2)) 110) bt329.1 true) else (if (bt329.1.length : Int) > 0 then (if 0 < (bt329.1.length : Int) then (letterbaglaw35_OrderRules.j0 k t326 (wrap64 (1 + (Int.tmod (wrap64 (a1)) 6))) (Int.tmod (wrap64 (a2)) 110) bt329.1 (((rd_T41 bt329.1 0).f0) != bt333.1)) else (none)) else (letterbaglaw35_OrderRules.j0 k t326 (wrap64 (1 + (Int.tmod (wrap64 (a1)) 6))) (Int.tmod (wrap64 (a2)) 110) bt329.1 false))) else (letterbaglaw35_OrderRules.j0 k t326 (wrap64 (1 + (Int.tmod (wrap64 (a1)) 6))) (Int.tmod (wrap64 (a2)) 110) bt329.1 true))) else (letterbaglaw35_OrderRules.j0 k t326 (wrap64 (1 + (Int.tmod (wrap64 (a1)) 6))) (Int.tmod (wrap64 (a2)) 110) bt329.1 true)) else (letterbaglaw35_OrderRules.j0 k t326 (wrap64 (1 + (Int.tmod (wrap64 (a1)) 6))) (Int.tmod (wrap64 (a2)) 110) bt329.1 true))))
theorem letterbaglaw35_OrderRules.mono_l : ∀ k, (∀ y0 y1 y2 y3 y4, LeO (letterbaglaw35_OrderRules.j0 k y0 y1 y2 y3 y4) (letterbaglaw35_OrderRules.j0 (k + 1) y0 y1 y2 y3 y4)) ∧ (∀ y0 y1 y2 y3 y4 y5 y6, LeO (letterbaglaw35_OrderRules.l0 k y0 y1 y2 y3 y4 y5 y6) (letterbaglaw35_OrderRules.l0 (k + 1) y0 y1 y2 y3 y4 y5 y6)) ∧ (∀ y0 y1 y2 y3 y4 y5 y6, LeO (letterbaglaw35_OrderRules.l1 k y0 y1 y2 y3 y4 y5 y6) (letterbaglaw35_OrderRules.l1 (k + 1) y0 y1 y2 y3 y4 y5 y6)) ∧ (∀ y0 y1 y2 y3 y4 y5 y6 y7 y8 y9 y10 y11 y12 y13 y14, LeO (letterbaglaw35_OrderRules.j3 k y0 y1 y2 y3 y4 y5 y6 y7 y8 y9 y10 y11 y12 y13 y14) (letterbaglaw35_OrderRules.j3 (k + 1) y0 y1 y2 y3 y4 y5 y6 y7 y8 y9 y10 y11 y12 y13 y14)) ∧ (∀ y0 y1 y2 y3 y4 y5 y6 y7 y8 y9 y10 y11 y12 y13 y14 y15 y16 y17 y18 y19, LeO (letterbaglaw35_OrderRules.j4 k y0 y1 y2 y3 y4 y5 y6 y7 y8 y9 y10 y11 y12 y13 y14 y15 y16 y17 y18 y19) (letterbaglaw35_OrderRules.j4 (k + 1) y0 y1 y2 y3 y4 y5 y6 y7 y8 y9 y10 y11 y12 y13 y14 y15 y16 y17 y18 y19))
 | 0 => ⟨fun _ _ _ _ _ r h => by simp [letterbaglaw35_OrderRules.j0] at h, fun _ _ _ _ _ _ _ r h => by simp [letterbaglaw35_OrderRules.l0] at h, fun _ _ _ _ _ _ _ r h => by simp [letterbaglaw35_OrderRules.l1] at h, fun _ _ _ _ _ _ _ _ _ _ _ _ _ _ _ r h => by simp [letterbaglaw35_OrderRules.j3] at h, fun _ _ _ _ _ _ _ _ _ _ _ _ _ _ _ _ _ _ _ _ r h => by simp [letterbaglaw35_OrderRules.j4] at h⟩
 | k + 1 => by
  obtain ⟨ih0, ih1, ih2, ih3, ih4⟩ := letterbaglaw35_OrderRules.mono_l k
  refine ⟨?_, ?_, ?_, ?_, ?_⟩
  ·intro y0 y1 y2 y3 y4
   unfold letterbaglaw35_OrderRules.j0
   repeat' first
   | (with_reducible exact ih0 _ _ _ _ _)
   | (with_reducible exact ih1 _ _ _ _ _ _ _)
   | (with_reducible exact ih2 _ _ _ _ _ _ _)
   | (with_reducible exact ih3 _ _ _ _ _ _ _ _ _ _ _ _ _ _ _)
   | (with_reducible exact ih4 _ _ _ _ _ _ _ _ _ _ _ _ _ _ _ _ _ _ _ _)
   | (with_reducible exact letterbaglaw35_Built.mono _ _)
   | (with_reducible exact LeO.refl _)
   | (with_reducible exact LeO.none _)
   | (with_reducible refine LeO.ite ?_ ?_)
   | (with_reducible refine LeO.bind ?_ (fun _ => ?_))
   | exact ih0 _ _ _ _ _
   | exact ih1 _ _ _ _ _ _ _
   | exact ih2 _ _ _ _ _ _ _
   | exact ih3 _ _ _ _ _ _ _ _ _ _ _ _ _ _ _
   | exact ih4 _ _ _ _ _ _ _ _ _ _ _ _ _ _ _ _ _ _ _ _
   | exact letterbaglaw35_Built.mono _ _
   | exact LeO.none _
   | refine LeO.ite ?_ ?_
   | refine LeO.bind ?_ (fun _ => ?_)
  ·intro y0 y1 y2 y3 y4 y5 y6
   unfold letterbaglaw35_OrderRules.l0
   repeat' first
   | (with_reducible exact ih0 _ _ _ _ _)
   | (with_reducible exact ih1 _ _ _ _ _ _ _)
   | (with_reducible exact ih2 _ _ _ _ _ _ _)
   | (with_reducible exact ih3 _ _ _ _ _ _ _ _ _ _ _ _ _ _ _)
   | (with_reducible exact ih4 _ _ _ _ _ _ _ _ _ _ _ _ _ _ _ _ _ _ _ _)
   | (with_reducible exact letterbaglaw35_Built.mono _ _)
   | (with_reducible exact LeO.refl _)
   | (with_reducible exact LeO.none _)
   | (with_reducible refine LeO.ite ?_ ?_)
   | (with_reducible refine LeO.bind ?_ (fun _ => ?_))
   | exact ih0 _ _ _ _ _
   | exact ih1 _ _ _ _ _ _ _
   | exact ih2 _ _ _ _ _ _ _
   | exact ih3 _ _ _ _ _ _ _ _ _ _ _ _ _ _ _
   | exact ih4 _ _ _ _ _ _ _ _ _ _ _ _ _ _ _ _ _ _ _ _
   | exact letterbaglaw35_Built.mono _ _
   | exact LeO.none _
   | refine LeO.ite ?_ ?_
   | refine LeO.bind ?_ (fun _ => ?_)
  ·intro y0 y1 y2 y3 y4 y5 y6
   unfold letterbaglaw35_OrderRules.l1
   repeat' first
   | (with_reducible exact ih0 _ _ _ _ _)
   | (with_reducible exact ih1 _ _ _ _ _ _ _)
   | (with_reducible exact ih2 _ _ _ _ _ _ _)
   | (with_reducible exact ih3 _ _ _ _ _ _ _ _ _ _ _ _ _ _ _)
   | (with_reducible exact ih4 _ _ _ _ _ _ _ _ _ _ _ _ _ _ _ _ _ _ _ _)
   | (with_reducible exact letterbaglaw35_Built.mono _ _)
   | (with_reducible exact LeO.refl _)
   | (with_reducible exact LeO.none _)
   | (with_reducible refine LeO.ite ?_ ?_)
   | (with_reducible refine LeO.bind ?_ (fun _ => ?_))
   | exact ih0 _ _ _ _ _
   | exact ih1 _ _ _ _ _ _ _
   | exact ih2 _ _ _ _ _ _ _
   | exact ih3 _ _ _ _ _ _ _ _ _ _ _ _ _ _ _
   | exact ih4 _ _ _ _ _ _ _ _ _ _ _ _ _ _ _ _ _ _ _ _
   | exact letterbaglaw35_Built.mono _ _
   | exact LeO.none _
   | refine LeO.ite ?_ ?_
   | refine LeO.bind ?_ (fun _ => ?_)
  ·intro y0 y1 y2 y3 y4 y5 y6 y7 y8 y9 y10 y11 y12 y13 y14
   unfold letterbaglaw35_OrderRules.j3
   repeat' first
   | (with_reducible exact ih0 _ _ _ _ _)
   | (with_reducible exact ih1 _ _ _ _ _ _ _)
   | (with_reducible exact ih2 _ _ _ _ _ _ _)
   | (with_reducible exact ih3 _ _ _ _ _ _ _ _ _ _ _ _ _ _ _)
   | (with_reducible exact ih4 _ _ _ _ _ _ _ _ _ _ _ _ _ _ _ _ _ _ _ _)
   | (with_reducible exact letterbaglaw35_Built.mono _ _)
   | (with_reducible exact LeO.refl _)
   | (with_reducible exact LeO.none _)
   | (with_reducible refine LeO.ite ?_ ?_)
   | (with_reducible refine LeO.bind ?_ (fun _ => ?_))
   | exact ih0 _ _ _ _ _
   | exact ih1 _ _ _ _ _ _ _
   | exact ih2 _ _ _ _ _ _ _
   | exact ih3 _ _ _ _ _ _ _ _ _ _ _ _ _ _ _
   | exact ih4 _ _ _ _ _ _ _ _ _ _ _ _ _ _ _ _ _ _ _ _
   | exact letterbaglaw35_Built.mono _ _
   | exact LeO.none _
   | refine LeO.ite ?_ ?_
   | refine LeO.bind ?_ (fun _ => ?_)
  ·intro y0 y1 y2 y3 y4 y5 y6 y7 y8 y9 y10 y11 y12 y13 y14 y15 y16 y17 y18 y19
   unfold letterbaglaw35_OrderRules.j4
   repeat' first
   | (with_reducible exact ih0 _ _ _ _ _)
   | (with_reducible exact ih1 _ _ _ _ _ _ _)
   | (with_reducible exact ih2 _ _ _ _ _ _ _)
   | (with_reducible exact ih3 _ _ _ _ _ _ _ _ _ _ _ _ _ _ _)
   | (with_reducible exact ih4 _ _ _ _ _ _ _ _ _ _ _ _ _ _ _ _ _ _ _ _)
   | (with_reducible exact letterbaglaw35_Built.mono _ _)
   | (with_reducible exact LeO.refl _)
   | (with_reducible exact LeO.none _)
   | (with_reducible refine LeO.ite ?_ ?_)
   | (with_reducible refine LeO.bind ?_ (fun _ => ?_))
   | exact ih0 _ _ _ _ _
   | exact ih1 _ _ _ _ _ _ _
   | exact ih2 _ _ _ _ _ _ _
   | exact ih3 _ _ _ _ _ _ _ _ _ _ _ _ _ _ _
   | exact ih4 _ _ _ _ _ _ _ _ _ _ _ _ _ _ _ _ _ _ _ _
   | exact letterbaglaw35_Built.mono _ _
   | exact LeO.none _
   | refine LeO.ite ?_ ?_
   | refine LeO.bind ?_ (fun _ => ?_)
theorem letterbaglaw35_OrderRules.mono : ∀ a0 a1 a2 k, LeO (letterbaglaw35_OrderRules.f k a0 a1 a2) (letterbaglaw35_OrderRules.f (k + 1) a0 a1 a2) := by
 intro a0 a1 a2 k
 obtain ⟨ih0, ih1, ih2, ih3, ih4⟩ := letterbaglaw35_OrderRules.mono_l k
 unfold letterbaglaw35_OrderRules.f
 repeat' first
   | (with_reducible exact ih0 _ _ _ _ _)
   | (with_reducible exact ih1 _ _ _ _ _ _ _)
   | (with_reducible exact ih2 _ _ _ _ _ _ _)
   | (with_reducible exact ih3 _ _ _ _ _ _ _ _ _ _ _ _ _ _ _)
   | (with_reducible exact ih4 _ _ _ _ _ _ _ _ _ _ _ _ _ _ _ _ _ _ _ _)
   | (with_reducible exact letterbaglaw35_Built.mono _ _)
   | (with_reducible exact LeO.refl _)
   | (with_reducible exact LeO.none _)
   | (with_reducible refine LeO.ite ?_ ?_)
   | (with_reducible refine LeO.bind ?_ (fun _ => ?_))
   | exact ih0 _ _ _ _ _
   | exact ih1 _ _ _ _ _ _ _
   | exact ih2 _ _ _ _ _ _ _
   | exact ih3 _ _ _ _ _ _ _ _ _ _ _ _ _ _ _
   | exact ih4 _ _ _ _ _ _ _ _ _ _ _ _ _ _ _ _ _ _ _ _
   | exact letterbaglaw35_Built.mono _ _
   | exact LeO.none _
   | refine LeO.ite ?_ ?_
   | refine LeO.bind ?_ (fun _ => ?_)
set_option maxHeartbeats 8000000 in
set_option maxRecDepth 100000 in
theorem letterbaglaw35_OrderRules.calls (k : Nat) (A0 : Option Addr) (c0 : Nat) (l0 : List (S72)) (a1 : Int) (a2 : Int) (r : Bool) (w : World) (hr0 : Kd.C k72 w A0 l0.length l0) (hc0 : l0.length ≤ c0) (h : letterbaglaw35_OrderRules.f k l0 a1 a2 = some r) :
  Calls Try.prog 5 #[.slice A0 l0.length c0, .int .u8 a1, .int .u8 a2] w fun e w' => e = .returned (.bool r) ∧ Below w.heap.size w w' := by
 have hu41 := Try.underlying41
 have HR0 := Aside0.mk hr0
 have HC0 := Aside0.mk hc0
 clear hr0 hc0
 have HB := Aside0.mk (Below.refl w.heap.size w)
 have H : ((letterbaglaw35_Built.f k l0).bind fun t326 => ((order_All.f t326 (wrap64 (1 + (Int.tmod (wrap64 (a1)) 6))) (Int.tmod (wrap64 (a2)) 110)).bind fun bt329 => ((letterbaglaw35_in.f t326 (wrap64 (1 + (Int.tmod (wrap64 (a1)) 6))) (Int.tmod (wrap64 (a2)) 110)).bind fun bt333 => (if bt329.2 = 0 then (if bt333.2 = true then ((order_Right.f t326).bind fun t335 => (if t335 = true then (if ((bt333.1 == 0) != ((bt329.1.length : Int) == 0)) = true then (letterbaglaw35_OrderRules.j0 k t326 (wrap64 (1 + (Int.tmod (wrap64 (a1)) 6))) (Int.tmod (wrap64 (a2)) 110) bt329.1 true) else (if (bt329.1.length : Int) > 0 then (if 0 < (bt329.1.length : Int) then (letterbaglaw35_OrderRules.j0 k t326 (wrap64 (1 + (Int.tmod (wrap64 (a1)) 6))) (Int.tmod (wrap64 (a2)) 110) bt329.1 (((rd_T41 bt329.1 0).f0) != bt333.1)) else (none)) else (letterbaglaw35_OrderRules.j0 k t326 (wrap64 (1 + (Int.tmod (wrap64 (a1)) 6))) (Int.tmod (wrap64 (a2)) 110) bt329.1 false))) else (letterbaglaw35_OrderRules.j0 k t326 (wrap64 (1 + (Int.tmod (wrap64 (a1)) 6))) (Int.tmod (wrap64 (a2)) 110) bt329.1 true))) else (letterbaglaw35_OrderRules.j0 k t326 (wrap64 (1 + (Int.tmod (wrap64 (a1)) 6))) (Int.tmod (wrap64 (a2)) 110) bt329.1 true)) else (letterbaglaw35_OrderRules.j0 k t326 (wrap64 (1 + (Int.tmod (wrap64 (a1)) 6))) (Int.tmod (wrap64 (a2)) 110) bt329.1 true))))) = some r := h
 clear h
 replace H := Option.bind_eq_some_iff.mp H
 obtain ⟨t326, A40, H⟩ := H
 replace H : ((order_All.f t326 (wrap64 (1 + (Int.tmod (wrap64 (a1)) 6))) (Int.tmod (wrap64 (a2)) 110)).bind fun bt329 => ((letterbaglaw35_in.f t326 (wrap64 (1 + (Int.tmod (wrap64 (a1)) 6))) (Int.tmod (wrap64 (a2)) 110)).bind fun bt333 => (if bt329.2 = 0 then (if bt333.2 = true then ((order_Right.f t326).bind fun t335 => (if t335 = true then (if ((bt333.1 == 0) != ((bt329.1.length : Int) == 0)) = true then (letterbaglaw35_OrderRules.j0 k t326 (wrap64 (1 + (Int.tmod (wrap64 (a1)) 6))) (Int.tmod (wrap64 (a2)) 110) bt329.1 true) else (if (bt329.1.length : Int) > 0 then (if 0 < (bt329.1.length : Int) then (letterbaglaw35_OrderRules.j0 k t326 (wrap64 (1 + (Int.tmod (wrap64 (a1)) 6))) (Int.tmod (wrap64 (a2)) 110) bt329.1 (((rd_T41 bt329.1 0).f0) != bt333.1)) else (none)) else (letterbaglaw35_OrderRules.j0 k t326 (wrap64 (1 + (Int.tmod (wrap64 (a1)) 6))) (Int.tmod (wrap64 (a2)) 110) bt329.1 false))) else (letterbaglaw35_OrderRules.j0 k t326 (wrap64 (1 + (Int.tmod (wrap64 (a1)) 6))) (Int.tmod (wrap64 (a2)) 110) bt329.1 true))) else (letterbaglaw35_OrderRules.j0 k t326 (wrap64 (1 + (Int.tmod (wrap64 (a1)) 6))) (Int.tmod (wrap64 (a2)) 110) bt329.1 true)) else (letterbaglaw35_OrderRules.j0 k t326 (wrap64 (1 + (Int.tmod (wrap64 (a1)) 6))) (Int.tmod (wrap64 (a2)) 110) bt329.1 true)))) = some r := H
 have A4 := Aside0.mk A40
 clear A40
 replace H := Option.bind_eq_some_iff.mp H
 obtain ⟨⟨t329, t330⟩, A50, H⟩ := H
 replace H : ((letterbaglaw35_in.f t326 (wrap64 (1 + (Int.tmod (wrap64 (a1)) 6))) (Int.tmod (wrap64 (a2)) 110)).bind fun bt333 => (if t330 = 0 then (if bt333.2 = true then ((order_Right.f t326).bind fun t335 => (if t335 = true then (if ((bt333.1 == 0) != ((t329.length : Int) == 0)) = true then (letterbaglaw35_OrderRules.j0 k t326 (wrap64 (1 + (Int.tmod (wrap64 (a1)) 6))) (Int.tmod (wrap64 (a2)) 110) t329 true) else (if (t329.length : Int) > 0 then (if 0 < (t329.length : Int) then (letterbaglaw35_OrderRules.j0 k t326 (wrap64 (1 + (Int.tmod (wrap64 (a1)) 6))) (Int.tmod (wrap64 (a2)) 110) t329 (((rd_T41 t329 0).f0) != bt333.1)) else (none)) else (letterbaglaw35_OrderRules.j0 k t326 (wrap64 (1 + (Int.tmod (wrap64 (a1)) 6))) (Int.tmod (wrap64 (a2)) 110) t329 false))) else (letterbaglaw35_OrderRules.j0 k t326 (wrap64 (1 + (Int.tmod (wrap64 (a1)) 6))) (Int.tmod (wrap64 (a2)) 110) t329 true))) else (letterbaglaw35_OrderRules.j0 k t326 (wrap64 (1 + (Int.tmod (wrap64 (a1)) 6))) (Int.tmod (wrap64 (a2)) 110) t329 true)) else (letterbaglaw35_OrderRules.j0 k t326 (wrap64 (1 + (Int.tmod (wrap64 (a1)) 6))) (Int.tmod (wrap64 (a2)) 110) t329 true))) = some r := H
 have A5 := Aside0.mk A50
 clear A50
 replace H := Option.bind_eq_some_iff.mp H
 obtain ⟨⟨t333, t334⟩, A60, H⟩ := H
 replace H : (if t330 = 0 then (if t334 = true then ((order_Right.f t326).bind fun t335 => (if t335 = true then (if ((t333 == 0) != ((t329.length : Int) == 0)) = true then (letterbaglaw35_OrderRules.j0 k t326 (wrap64 (1 + (Int.tmod (wrap64 (a1)) 6))) (Int.tmod (wrap64 (a2)) 110) t329 true) else (if (t329.length : Int) > 0 then (if 0 < (t329.length : Int) then (letterbaglaw35_OrderRules.j0 k t326 (wrap64 (1 + (Int.tmod (wrap64 (a1)) 6))) (Int.tmod (wrap64 (a2)) 110) t329 (((rd_T41 t329 0).f0) != t333)) else (none)) else (letterbaglaw35_OrderRules.j0 k t326 (wrap64 (1 + (Int.tmod (wrap64 (a1)) 6))) (Int.tmod (wrap64 (a2)) 110) t329 false))) else (letterbaglaw35_OrderRules.j0 k t326 (wrap64 (1 + (Int.tmod (wrap64 (a1)) 6))) (Int.tmod (wrap64 (a2)) 110) t329 true))) else (letterbaglaw35_OrderRules.j0 k t326 (wrap64 (1 + (Int.tmod (wrap64 (a1)) 6))) (Int.tmod (wrap64 (a2)) 110) t329 true)) else (letterbaglaw35_OrderRules.j0 k t326 (wrap64 (1 + (Int.tmod (wrap64 (a1)) 6))) (Int.tmod (wrap64 (a2)) 110) t329 true)) = some r := H
 have A6 := Aside0.mk A60
 clear A60
 have HC7 := Aside0.mk H
 clear H
 go_enter Try.func5, Try.ntmps5
 go_upto_region 5 with (first | ((with_reducible refine gate_callee (f := 19) rfl ?_); refine goesL_ (some 21) rfl rfl Try.func19 (by kernel_rfl) rfl #[.slice A0 l0.length c0] rfl (by (try simp only [List.map_toArray, List.map_cons, List.map_nil]); first | done | rfl | (simp only [List.length_drop, List.length_take]; rfl)) ?_; (with_reducible refine (letterbaglaw35_Built.calls k _ _ l0 t326 _ ?side1 ?side2 A4.out).mono ?_); (case side1 => repeat (first | exact HR0.out | (with_reducible refine Kd.C_alloc ?_ _) | (with_reducible refine Kd.C_drewN ?_ _) | (with_reducible refine Kd.C_drew ?_))); (case side2 => exact HC0.out); rintro e w8 ⟨v327, rfl, ho0, hb⟩; refine ⟨_, rfl, ?_⟩; have n0_ := Aside0.mk (Kd.R_lower ho0 (below_size (by repeat (first | (with_reducible first | exact HB.out | apply below_alloc | apply pw_below_drewN | apply below_drew1) | exact HB.out)))); have n1_ := Aside0.mk (below_step (by repeat (first | (with_reducible first | exact HB.out | apply below_alloc | apply pw_below_drewN | apply below_drew1) | exact HB.out)) hb); clear HB; have HO328 := n0_; have HB := n1_; clear n0_ n1_; (try clear hb); (try clear hb2); (try clear hk); (try clear hi); (try clear ho0); obtain ⟨Ao9, co9, eo9⟩ := Kd.R_slice HO328.out; subst eo9) | ((with_reducible refine gate_callee (f := 26) rfl ?_); refine goesL_ (some 33) rfl rfl Try.func26 (by kernel_rfl) rfl #[.slice Ao9 t326.length co9, .int .i64 (wrap64 (1 + (Int.tmod (wrap64 (a1)) 6))), .int .i64 (Int.tmod (wrap64 (a2)) 110)] rfl (by (try simp only [List.map_toArray, List.map_cons, List.map_nil]); first | done | rfl | (simp only [List.length_drop, List.length_take]; rfl)) ?_; (with_reducible refine (order_All.calls _ _ t326 (wrap64 (1 + (Int.tmod (wrap64 (a1)) 6))) (Int.tmod (wrap64 (a2)) 110) t329 t330 _ ?side1 ?side2 A5.out).mono ?_); (case side1 => repeat (first | exact (Kd.R_reads' HO328.out).2.2 | (with_reducible refine Kd.C_alloc ?_ _) | (with_reducible refine Kd.C_drewN ?_ _) | (with_reducible refine Kd.C_drew ?_))); (case side2 => exact (Kd.R_reads' HO328.out).2.1); rintro e w10 ⟨v331, rfl, ho0, hb⟩; refine ⟨_, rfl, ?_⟩; have n0_ := Aside0.mk (Kd.R_elder' (by (with_reducible repeat (first | apply Kd.R_alloc | apply Kd.R_drewN | apply Kd.R_drew)); exact HO328.out) (Kd.R_base ho0) hb); have n1_ := Aside0.mk (Kd.R_lower (Kd.R_new' ho0 (Kd.R_lt (by (with_reducible repeat (first | apply Kd.R_alloc | apply Kd.R_drewN | apply Kd.R_drew)); exact HO328.out))) (below_size (by repeat (first | (with_reducible first | exact HB.out | apply below_alloc | apply pw_below_drewN | apply below_drew1) | exact HB.out)))); have n2_ := Aside0.mk (below_step (by repeat (first | (with_reducible first | exact HB.out | apply below_alloc | apply pw_below_drewN | apply below_drew1) | exact HB.out)) hb); clear HO328; clear HB; have HO328 := n0_; have HO332 := n1_; have HB := n2_; clear n0_ n1_ n2_; (try clear hb); (try clear hb2); (try clear hk); (try clear hi); (try clear ho0)) | ((with_reducible refine gate_callee (f := 35) rfl ?_); refine goesL_ (some 40) rfl rfl Try.func35 (by kernel_rfl) rfl #[.slice Ao9 t326.length co9, .int .i64 (wrap64 (1 + (Int.tmod (wrap64 (a1)) 6))), .int .i64 (Int.tmod (wrap64 (a2)) 110)] rfl (by (try simp only [List.map_toArray, List.map_cons, List.map_nil]); first | done | rfl | (simp only [List.length_drop, List.length_take]; rfl)) ?_; (with_reducible refine (letterbaglaw35_in.calls _ _ t326 (wrap64 (1 + (Int.tmod (wrap64 (a1)) 6))) (Int.tmod (wrap64 (a2)) 110) t333 t334 _ ?side1 ?side2 A6.out).mono ?_); (case side1 => repeat (first | exact (Kd.R_reads' HO328.out).2.2 | (with_reducible refine Kd.C_alloc ?_ _) | (with_reducible refine Kd.C_drewN ?_ _) | (with_reducible refine Kd.C_drew ?_))); (case side2 => exact (Kd.R_reads' HO328.out).2.1); rintro e w11 ⟨rfl, hb⟩; refine ⟨_, rfl, ?_⟩; have n0_ := Aside0.mk (Kd.R_below (by (with_reducible repeat (first | apply Kd.R_alloc | apply Kd.R_drewN | apply Kd.R_drew)); exact HO328.out) hb); have n1_ := Aside0.mk (Kd.R_below (by (with_reducible repeat (first | apply Kd.R_alloc | apply Kd.R_drewN | apply Kd.R_drew)); exact HO332.out) hb); have n2_ := Aside0.mk (below_step (by repeat (first | (with_reducible first | exact HB.out | apply below_alloc | apply pw_below_drewN | apply below_drew1) | exact HB.out)) hb); clear HO328; clear HO332; clear HB; have HO328 := n0_; have HO332 := n1_; have HB := n2_; clear n0_ n1_ n2_; (try clear hb); (try clear hb2); (try clear hk); (try clear hi)))
 (try simp only [Act.put, List.setIfInBounds_toArray, List.set_cons_zero, List.set_cons_succ])
 go_cut [74] (fun v74 wc => ∃ (kq : Nat) (x74_6 : Bool), v74 = .bool x74_6 ∧ Aside0 (letterbaglaw35_OrderRules.j0 kq t326 (wrap64 (1 + (Int.tmod (wrap64 (a1)) 6))) (Int.tmod (wrap64 (a2)) 110) t329 x74_6 = some r) ∧ Aside0 (kq ≤ k) ∧ Aside0 (Kd.R k41 41 wc w.heap.size (fun k_ => some k_ ≠ (v331 : Value).ownBlock) (.slice Ao9 t326.length co9) t326) ∧ Aside0 (Kd.R k41 41 wc w.heap.size (fun k_ => some k_ ≠ ((.slice Ao9 t326.length co9) : Value).ownBlock) v331 t329) ∧ Aside0 (Below w.heap.size w wc))
 case first =>
  have H := HC7.out
  clear HC7
  by_cases c12 : t330 = 0
  ·rw [if_pos c12] at H
   have c12b0 : (t330 == 0) = true := beq_iff_eq.mpr c12
   have c12b1 : (t330 != 0) = false := bne_eq_false_iff_eq.mpr c12
   clear c12
   (first | rw [c12b0] | (simp only [i64_w, i32_w]; rw [c12b0]) | skip)
   by_cases c13 : t334 = true
   ·subst c13
    have H1 : ((order_Right.f t326).bind fun t335 => (if t335 = true then (if ((t333 == 0) != ((t329.length : Int) == 0)) = true then (letterbaglaw35_OrderRules.j0 k t326 (wrap64 (1 + (Int.tmod (wrap64 (a1)) 6))) (Int.tmod (wrap64 (a2)) 110) t329 true) else (if (t329.length : Int) > 0 then (if 0 < (t329.length : Int) then (letterbaglaw35_OrderRules.j0 k t326 (wrap64 (1 + (Int.tmod (wrap64 (a1)) 6))) (Int.tmod (wrap64 (a2)) 110) t329 (((rd_T41 t329 0).f0) != t333)) else (none)) else (letterbaglaw35_OrderRules.j0 k t326 (wrap64 (1 + (Int.tmod (wrap64 (a1)) 6))) (Int.tmod (wrap64 (a2)) 110) t329 false))) else (letterbaglaw35_OrderRules.j0 k t326 (wrap64 (1 + (Int.tmod (wrap64 (a1)) 6))) (Int.tmod (wrap64 (a2)) 110) t329 true))) = some r := by rw [if_pos rfl] at H; exact H
    clear H
    have H := H1
    clear H1
    replace H := Option.bind_eq_some_iff.mp H
    obtain ⟨t335, A140, H⟩ := H
    replace H : (if t335 = true then (if ((t333 == 0) != ((t329.length : Int) == 0)) = true then (letterbaglaw35_OrderRules.j0 k t326 (wrap64 (1 + (Int.tmod (wrap64 (a1)) 6))) (Int.tmod (wrap64 (a2)) 110) t329 true) else (if (t329.length : Int) > 0 then (if 0 < (t329.length : Int) then (letterbaglaw35_OrderRules.j0 k t326 (wrap64 (1 + (Int.tmod (wrap64 (a1)) 6))) (Int.tmod (wrap64 (a2)) 110) t329 (((rd_T41 t329 0).f0) != t333)) else (none)) else (letterbaglaw35_OrderRules.j0 k t326 (wrap64 (1 + (Int.tmod (wrap64 (a1)) 6))) (Int.tmod (wrap64 (a2)) 110) t329 false))) else (letterbaglaw35_OrderRules.j0 k t326 (wrap64 (1 + (Int.tmod (wrap64 (a1)) 6))) (Int.tmod (wrap64 (a2)) 110) t329 true)) = some r := H
    have A14 := Aside0.mk A140
    clear A140
    by_cases c15 : t335 = true
    ·subst c15
     have H1 : (if ((t333 == 0) != ((t329.length : Int) == 0)) = true then (letterbaglaw35_OrderRules.j0 k t326 (wrap64 (1 + (Int.tmod (wrap64 (a1)) 6))) (Int.tmod (wrap64 (a2)) 110) t329 true) else (if (t329.length : Int) > 0 then (if 0 < (t329.length : Int) then (letterbaglaw35_OrderRules.j0 k t326 (wrap64 (1 + (Int.tmod (wrap64 (a1)) 6))) (Int.tmod (wrap64 (a2)) 110) t329 (((rd_T41 t329 0).f0) != t333)) else (none)) else (letterbaglaw35_OrderRules.j0 k t326 (wrap64 (1 + (Int.tmod (wrap64 (a1)) 6))) (Int.tmod (wrap64 (a2)) 110) t329 false))) = some r := by rw [if_pos rfl] at H; exact H
     clear H
     have H := H1
     clear H1
     by_cases c16 : ((t333 == 0) != ((t329.length : Int) == 0)) = true
     ·rw [if_pos c16] at H
      have c16b0 : ((t333 == 0) != ((t329.length : Int) == 0)) = true := c16
      (try (have c16b1 : decide ((t333 == 0) = ((t329.length : Int) == 0)) = false := by simpa using c16))
      (try (have c16b2 : ((t333 == 0) == ((t329.length : Int) == 0)) = false := by simpa using c16))
      (try (have c16b3 : ¬ ((t333 == 0) = ((t329.length : Int) == 0)) := by simpa using c16))
      clear c16
      have H' := Aside0.mk H
      clear H
      go_wp2_with (first | (go_at_call 29; (with_reducible refine (order_Right.calls _ _ t326 true _ ?side1 ?side2 A14.out).mono ?_); (case side1 => repeat (first | exact (Kd.R_reads' HO328.out).2.2 | (with_reducible refine Kd.C_alloc ?_ _) | (with_reducible refine Kd.C_drewN ?_ _) | (with_reducible refine Kd.C_drew ?_))); (case side2 => exact (Kd.R_reads' HO328.out).2.1); rintro e w17 ⟨rfl, hb⟩; have n0_ := Aside0.mk (Kd.R_below (by (with_reducible repeat (first | apply Kd.R_alloc | apply Kd.R_drewN | apply Kd.R_drew)); exact HO328.out) hb); have n1_ := Aside0.mk (Kd.R_below (by (with_reducible repeat (first | apply Kd.R_alloc | apply Kd.R_drewN | apply Kd.R_drew)); exact HO332.out) hb); have n2_ := Aside0.mk (below_step (by repeat (first | (with_reducible first | exact HB.out | apply below_alloc | apply pw_below_drewN | apply below_drew1) | exact HB.out)) hb); clear HO328; clear HO332; clear HB; have HO328 := n0_; have HO332 := n1_; have HB := n2_; clear n0_ n1_ n2_; (try clear hb); (try clear hb2); (try clear hk); (try clear hi); obtain ⟨Ao18, co18, eo18⟩ := Kd.R_slice HO332.out; subst eo18))
      go_meet
      case rel => exact ⟨_, (true), (by first | rfl | (simp; done) | (simp [*]; done)), H', ⟨by first | omega | exact Nat.le_refl _⟩, ⟨by (with_reducible repeat (first | apply Kd.R_alloc | apply Kd.R_drewN | apply Kd.R_drew)); exact Kd.R_mono HO328.out (fun _ hk => hk.2)⟩, ⟨by (with_reducible repeat (first | apply Kd.R_alloc | apply Kd.R_drewN | apply Kd.R_drew)); exact Kd.R_mono HO332.out (fun _ hk => hk.2)⟩, ⟨by repeat (first | (with_reducible first | exact HB.out | apply below_alloc | apply pw_below_drewN | apply below_drew1) | exact HB.out)⟩⟩
     ·rw [if_neg c16] at H
      have c16b0 : ((t333 == 0) != ((t329.length : Int) == 0)) = false := by simpa using c16
      (try (have c16b1 : decide ((t333 == 0) = ((t329.length : Int) == 0)) = true := by simpa using c16))
      (try (have c16b2 : ((t333 == 0) == ((t329.length : Int) == 0)) = true := by simpa using c16))
      clear c16
      by_cases c19 : (t329.length : Int) > 0
      ·rw [if_pos c19] at H
       have c19b0 : decide (0 < (t329.length : Int)) = true := decide_eq_true c19
       have c19b1 : decide (0 < t329.length) = true := decide_eq_true (by omega)
       clear c19
       by_cases c20 : 0 < (t329.length : Int)
       ·rw [if_pos c20] at H
        have c20b0 : decide (0 < (t329.length : Int)) = true := decide_eq_true c20
        have c20b1 : decide (0 < t329.length) = true := decide_eq_true (by omega)
        clear c20
        have H' := Aside0.mk H
        clear H
        go_wp2_with (first | (go_at_call 29; (with_reducible refine (order_Right.calls _ _ t326 true _ ?side1 ?side2 A14.out).mono ?_); (case side1 => repeat (first | exact (Kd.R_reads' HO328.out).2.2 | (with_reducible refine Kd.C_alloc ?_ _) | (with_reducible refine Kd.C_drewN ?_ _) | (with_reducible refine Kd.C_drew ?_))); (case side2 => exact (Kd.R_reads' HO328.out).2.1); rintro e w21 ⟨rfl, hb⟩; have n0_ := Aside0.mk (Kd.R_below (by (with_reducible repeat (first | apply Kd.R_alloc | apply Kd.R_drewN | apply Kd.R_drew)); exact HO328.out) hb); have n1_ := Aside0.mk (Kd.R_below (by (with_reducible repeat (first | apply Kd.R_alloc | apply Kd.R_drewN | apply Kd.R_drew)); exact HO332.out) hb); have n2_ := Aside0.mk (below_step (by repeat (first | (with_reducible first | exact HB.out | apply below_alloc | apply pw_below_drewN | apply below_drew1) | exact HB.out)) hb); clear HO328; clear HO332; clear HB; have HO328 := n0_; have HO332 := n1_; have HB := n2_; clear n0_ n1_ n2_; (try clear hb); (try clear hb2); (try clear hk); (try clear hi); obtain ⟨Ao22, co22, eo22⟩ := Kd.R_slice HO332.out; subst eo22; have p336 : 0 ≤ (0 : Int) := (by omega); have q336 : 0 < (t329.length : Int) := of_decide_eq_true (by first | (with_reducible assumption) | assumption); obtain ⟨ad336, e336, hx336_0, hx336_1, hx336_2, hx336_3, hx336_4, hx336_5⟩ := at_T41 (Kd.R_reads' HO332.out).2.2 0 p336 q336; cases e336; have qi336 : (0 < t329.length) = True := eq_true (by omega); (try rw [show ((0 : Int)).toNat = 0 from rfl] at hx336_0); (try rw [show 0 * 6 = 0 from rfl] at hx336_0); (try rw [Addr.add_zero'] at hx336_0); (try rw [show ((0 : Int)).toNat = 0 from rfl] at hx336_1); (try rw [show 0 * 6 = 0 from rfl] at hx336_1); (try rw [Addr.add_zero'] at hx336_1); (try rw [show ((0 : Int)).toNat = 0 from rfl] at hx336_2); (try rw [show 0 * 6 = 0 from rfl] at hx336_2); (try rw [Addr.add_zero'] at hx336_2); (try rw [show ((0 : Int)).toNat = 0 from rfl] at hx336_3); (try rw [show 0 * 6 = 0 from rfl] at hx336_3); (try rw [Addr.add_zero'] at hx336_3); (try rw [show ((0 : Int)).toNat = 0 from rfl] at hx336_4); (try rw [show 0 * 6 = 0 from rfl] at hx336_4); (try rw [Addr.add_zero'] at hx336_4); (try rw [show ((0 : Int)).toNat = 0 from rfl] at hx336_5); (try rw [show 0 * 6 = 0 from rfl] at hx336_5); (try rw [Addr.add_zero'] at hx336_5); replace p336 := eq_true p336; replace q336 := eq_true q336))
        go_meet
        case rel => exact ⟨_, ((((rd_T41 t329 0).f0) != t333)), (by first | rfl | (simp; done) | (simp [*]; done)), H', ⟨by first | omega | exact Nat.le_refl _⟩, ⟨by (with_reducible repeat (first | apply Kd.R_alloc | apply Kd.R_drewN | apply Kd.R_drew)); exact Kd.R_mono HO328.out (fun _ hk => hk.2)⟩, ⟨by (with_reducible repeat (first | apply Kd.R_alloc | apply Kd.R_drewN | apply Kd.R_drew)); exact Kd.R_mono HO332.out (fun _ hk => hk.2)⟩, ⟨by repeat (first | (with_reducible first | exact HB.out | apply below_alloc | apply pw_below_drewN | apply below_drew1) | exact HB.out)⟩⟩
       ·rw [if_neg c20] at H
        exact absurd H (by simp)
      ·rw [if_neg c19] at H
       have c19b0 : decide (0 < (t329.length : Int)) = false := decide_eq_false c19
       have c19b1 : decide (0 < t329.length) = false := decide_eq_false (by omega)
       clear c19
       have H' := Aside0.mk H
       clear H
       go_wp2_with (first | (go_at_call 29; (with_reducible refine (order_Right.calls _ _ t326 true _ ?side1 ?side2 A14.out).mono ?_); (case side1 => repeat (first | exact (Kd.R_reads' HO328.out).2.2 | (with_reducible refine Kd.C_alloc ?_ _) | (with_reducible refine Kd.C_drewN ?_ _) | (with_reducible refine Kd.C_drew ?_))); (case side2 => exact (Kd.R_reads' HO328.out).2.1); rintro e w23 ⟨rfl, hb⟩; have n0_ := Aside0.mk (Kd.R_below (by (with_reducible repeat (first | apply Kd.R_alloc | apply Kd.R_drewN | apply Kd.R_drew)); exact HO328.out) hb); have n1_ := Aside0.mk (Kd.R_below (by (with_reducible repeat (first | apply Kd.R_alloc | apply Kd.R_drewN | apply Kd.R_drew)); exact HO332.out) hb); have n2_ := Aside0.mk (below_step (by repeat (first | (with_reducible first | exact HB.out | apply below_alloc | apply pw_below_drewN | apply below_drew1) | exact HB.out)) hb); clear HO328; clear HO332; clear HB; have HO328 := n0_; have HO332 := n1_; have HB := n2_; clear n0_ n1_ n2_; (try clear hb); (try clear hb2); (try clear hk); (try clear hi); obtain ⟨Ao24, co24, eo24⟩ := Kd.R_slice HO332.out; subst eo24))
       go_meet
       case rel => exact ⟨_, (false), (by first | rfl | (simp; done) | (simp [*]; done)), H', ⟨by first | omega | exact Nat.le_refl _⟩, ⟨by (with_reducible repeat (first | apply Kd.R_alloc | apply Kd.R_drewN | apply Kd.R_drew)); exact Kd.R_mono HO328.out (fun _ hk => hk.2)⟩, ⟨by (with_reducible repeat (first | apply Kd.R_alloc | apply Kd.R_drewN | apply Kd.R_drew)); exact Kd.R_mono HO332.out (fun _ hk => hk.2)⟩, ⟨by repeat (first | (with_reducible first | exact HB.out | apply below_alloc | apply pw_below_drewN | apply below_drew1) | exact HB.out)⟩⟩
    ·replace c15 := Bool.eq_false_iff.mpr c15
     subst c15
     have H1 : (letterbaglaw35_OrderRules.j0 k t326 (wrap64 (1 + (Int.tmod (wrap64 (a1)) 6))) (Int.tmod (wrap64 (a2)) 110) t329 true) = some r := by rw [if_neg (show ¬ (false = true) by decide)] at H; exact H
     clear H
     have H := H1
     clear H1
     have H' := Aside0.mk H
     clear H
     go_wp2_with (first | (go_at_call 29; (with_reducible refine (order_Right.calls _ _ t326 false _ ?side1 ?side2 A14.out).mono ?_); (case side1 => repeat (first | exact (Kd.R_reads' HO328.out).2.2 | (with_reducible refine Kd.C_alloc ?_ _) | (with_reducible refine Kd.C_drewN ?_ _) | (with_reducible refine Kd.C_drew ?_))); (case side2 => exact (Kd.R_reads' HO328.out).2.1); rintro e w25 ⟨rfl, hb⟩; have n0_ := Aside0.mk (Kd.R_below (by (with_reducible repeat (first | apply Kd.R_alloc | apply Kd.R_drewN | apply Kd.R_drew)); exact HO328.out) hb); have n1_ := Aside0.mk (Kd.R_below (by (with_reducible repeat (first | apply Kd.R_alloc | apply Kd.R_drewN | apply Kd.R_drew)); exact HO332.out) hb); have n2_ := Aside0.mk (below_step (by repeat (first | (with_reducible first | exact HB.out | apply below_alloc | apply pw_below_drewN | apply below_drew1) | exact HB.out)) hb); clear HO328; clear HO332; clear HB; have HO328 := n0_; have HO332 := n1_; have HB := n2_; clear n0_ n1_ n2_; (try clear hb); (try clear hb2); (try clear hk); (try clear hi)))
     go_meet
     case rel => exact ⟨_, (true), (by first | rfl | (simp; done) | (simp [*]; done)), H', ⟨by first | omega | exact Nat.le_refl _⟩, ⟨by (with_reducible repeat (first | apply Kd.R_alloc | apply Kd.R_drewN | apply Kd.R_drew)); exact Kd.R_mono HO328.out (fun _ hk => hk.2)⟩, ⟨by (with_reducible repeat (first | apply Kd.R_alloc | apply Kd.R_drewN | apply Kd.R_drew)); exact Kd.R_mono HO332.out (fun _ hk => hk.2)⟩, ⟨by repeat (first | (with_reducible first | exact HB.out | apply below_alloc | apply pw_below_drewN | apply below_drew1) | exact HB.out)⟩⟩
   ·replace c13 := Bool.eq_false_iff.mpr c13
    subst c13
    have H1 : (letterbaglaw35_OrderRules.j0 k t326 (wrap64 (1 + (Int.tmod (wrap64 (a1)) 6))) (Int.tmod (wrap64 (a2)) 110) t329 true) = some r := by rw [if_neg (show ¬ (false = true) by decide)] at H; exact H
    clear H
    have H := H1
    clear H1
    have H' := Aside0.mk H
    clear H
    go_wp2
    go_meet
    case rel => exact ⟨_, (true), (by first | rfl | (simp; done) | (simp [*]; done)), H', ⟨by first | omega | exact Nat.le_refl _⟩, ⟨by (with_reducible repeat (first | apply Kd.R_alloc | apply Kd.R_drewN | apply Kd.R_drew)); exact Kd.R_mono HO328.out (fun _ hk => hk.2)⟩, ⟨by (with_reducible repeat (first | apply Kd.R_alloc | apply Kd.R_drewN | apply Kd.R_drew)); exact Kd.R_mono HO332.out (fun _ hk => hk.2)⟩, ⟨by repeat (first | (with_reducible first | exact HB.out | apply below_alloc | apply pw_below_drewN | apply below_drew1) | exact HB.out)⟩⟩
  ·rw [if_neg c12] at H
   have c12b0 : (t330 == 0) = false := beq_eq_false_iff_ne.mpr c12
   have c12b1 : (t330 != 0) = true := bne_iff_ne.mpr c12
   (first | rw [c12b0] | (simp only [i64_w, i32_w]; rw [c12b0]) | skip)
   have H' := Aside0.mk H
   clear H
   go_wp2
   go_meet
   case rel => exact ⟨_, (true), (by first | rfl | (simp; done) | (simp [*]; done)), H', ⟨by first | omega | exact Nat.le_refl _⟩, ⟨by (with_reducible repeat (first | apply Kd.R_alloc | apply Kd.R_drewN | apply Kd.R_drew)); exact Kd.R_mono HO328.out (fun _ hk => hk.2)⟩, ⟨by (with_reducible repeat (first | apply Kd.R_alloc | apply Kd.R_drewN | apply Kd.R_drew)); exact Kd.R_mono HO332.out (fun _ hk => hk.2)⟩, ⟨by repeat (first | (with_reducible first | exact HB.out | apply below_alloc | apply pw_below_drewN | apply below_drew1) | exact HB.out)⟩⟩
 case rest =>
  clear HC7
  try clear c1
  try clear c2
  try clear p2
  try clear c3
  try clear p3
  try clear q3
  try clear hx3
  try clear qi3
  try clear c5
  try clear p6
  try clear c12
  try clear c12b0
  try clear c12b1
  try clear c13
  try clear c15
  try clear c16
  try clear c16b0
  try clear c16b1
  try clear c16b2
  try clear c19
  try clear c19b0
  try clear c19b1
  try clear c20
  try clear c20b0
  try clear c20b1
  try clear hx336_0
  try clear hx336_1
  try clear hx336_2
  try clear hx336_3
  try clear hx336_4
  try clear hx336_5
  try clear p336
  try clear q336
  obtain ⟨kq, x74_6, rfl, HA, HJ6, HO_7, HO_10, HB⟩ := hcut
  cases kq with
  | zero => exact absurd HA.out (by simp [letterbaglaw35_OrderRules.j0])
  | succ kj6 =>
   have H := HA.out
   clear HA
   simp only [letterbaglaw35_OrderRules.j0] at H
   by_cases c26 : x74_6 = true
   ·subst c26
    have H1 : (some false) = some r := by rw [if_pos rfl] at H; exact H
    clear H
    have H := H1
    clear H1
    obtain rfl := Option.some.inj H
    go_wp2
    go_ret
    exact ⟨by first | rfl | (simp [errW_none, errW_some] <;> rfl) | (simp [*, errW_none, errW_some] <;> rfl), by repeat (first | (with_reducible first | exact HB.out | apply below_alloc | apply pw_below_drewN | apply below_drew1) | exact HB.out)⟩
   ·replace c26 := Bool.eq_false_iff.mpr c26
    subst c26
    have H1 : (letterbaglaw35_OrderRules.l0 kj6 (wrap64 (1 + (Int.tmod (wrap64 (a1)) 6))) (Int.tmod (wrap64 (a2)) 110) t329 0 t326 (t326.length : Int) 0) = some r := by rw [if_neg (show ¬ (false = true) by decide)] at H; exact H
    clear H
    have H := H1
    clear H1
    have H' := Aside0.mk H
    clear H
    go_wp2
    go_loopg [14, 77] kj6 (fun kq v14 v77 w' => ∃ (x14_2 : Int) (x77_2 : Int), v14 = .int .i64 x14_2 ∧ v77 = .int .i64 x77_2 ∧ Aside0 (letterbaglaw35_OrderRules.l0 kq (wrap64 (1 + (Int.tmod (wrap64 (a1)) 6))) (Int.tmod (wrap64 (a2)) 110) t329 x14_2 t326 (t326.length : Int) x77_2 = some r) ∧ Aside0 (kq ≤ kj6) ∧ Aside0 (Kd.R k41 41 w' w.heap.size (fun k_ => some k_ ≠ ((.slice Ao9 t326.length co9) : Value).ownBlock) v331 t329) ∧ Aside0 (Kd.R k41 41 w' w.heap.size (fun k_ => some k_ ≠ (v331 : Value).ownBlock) (.slice Ao9 t326.length co9) t326) ∧ Aside0 (Below w.heap.size w w'))
    case atStart => exact ⟨(0), (0), (by first | rfl | (simp; done) | (simp [*]; done)), (by first | rfl | (simp; done) | (simp [*]; done)), H', ⟨Nat.le_refl _⟩, ⟨by (with_reducible repeat (first | apply Kd.R_alloc | apply Kd.R_drewN | apply Kd.R_drew)); exact HO_10.out⟩, ⟨by (with_reducible repeat (first | apply Kd.R_alloc | apply Kd.R_drewN | apply Kd.R_drew)); exact HO_7.out⟩, ⟨by repeat (first | (with_reducible first | exact HB.out | apply below_alloc | apply pw_below_drewN | apply below_drew1) | exact HB.out)⟩⟩
    case round =>
     clear H'
     try clear c1
     try clear c2
     try clear p2
     try clear c3
     try clear p3
     try clear q3
     try clear hx3
     try clear qi3
     try clear c5
     try clear p6
     try clear c12
     try clear c12b0
     try clear c12b1
     try clear c13
     try clear c15
     try clear c16
     try clear c16b0
     try clear c16b1
     try clear c16b2
     try clear c19
     try clear c19b0
     try clear c19b1
     try clear c20
     try clear c20b0
     try clear c20b1
     try clear c26
     try clear hx336_0
     try clear hx336_1
     try clear hx336_2
     try clear hx336_3
     try clear hx336_4
     try clear hx336_5
     try clear p2
     try clear p3
     try clear p336
     try clear p6
     try clear q3
     try clear q336
     obtain ⟨x14_2, x77_2, rfl, rfl, HA, HK2, HO_10, HO_75, HB⟩ := hrel
     cases gk with
     | zero => exact absurd HA.out (by simp [letterbaglaw35_OrderRules.l0])
     | succ k2 =>
      have H := HA.out
      clear HA
      simp only [letterbaglaw35_OrderRules.l0] at H
      by_cases c27 : x77_2 < (t326.length : Int)
      ·rw [if_pos c27] at H
       have c27b0 : decide (x77_2 < (t326.length : Int)) = true := decide_eq_true c27
       clear c27
       by_cases c28 : 0 ≤ x77_2
       ·rw [if_pos c28] at H
        have c28b0 : decide (0 ≤ x77_2) = true := decide_eq_true c28
        clear c28
        by_cases c29 : x77_2 < (t326.length : Int)
        ·rw [if_pos c29] at H
         have c29b0 : decide (x77_2 < (t326.length : Int)) = true := decide_eq_true c29
         clear c29
         by_cases c30 : ((rd_T41 t326 x77_2).f1) = (wrap64 (1 + (Int.tmod (wrap64 (a1)) 6)))
         ·rw [if_pos c30] at H
          have c30b0 : (((rd_T41 t326 x77_2).f1) == (wrap64 (1 + (Int.tmod (wrap64 (a1)) 6)))) = true := beq_iff_eq.mpr c30
          have c30b1 : (((rd_T41 t326 x77_2).f1) != (wrap64 (1 + (Int.tmod (wrap64 (a1)) 6)))) = false := bne_eq_false_iff_eq.mpr c30
          clear c30
          by_cases c31 : ((rd_T41 t326 x77_2).f3) ≤ (Int.tmod (wrap64 (a2)) 110)
          ·rw [if_pos c31] at H
           have c31b0 : decide (((rd_T41 t326 x77_2).f3) ≤ (Int.tmod (wrap64 (a2)) 110)) = true := decide_eq_true c31
           clear c31
           by_cases c32 : ((rd_T41 t326 x77_2).f5) = 1
           ·rw [if_pos c32] at H
            have c32b0 : (((rd_T41 t326 x77_2).f5) == 1) = true := beq_iff_eq.mpr c32
            have c32b1 : (((rd_T41 t326 x77_2).f5) != 1) = false := bne_eq_false_iff_eq.mpr c32
            clear c32
            have H' := Aside0.mk H
            clear H
            have p337 : 0 ≤ (x77_2 : Int) := of_decide_eq_true (by first | (with_reducible assumption) | assumption)
            have q337 : x77_2 < (t326.length : Int) := of_decide_eq_true (by first | (with_reducible assumption) | assumption)
            obtain ⟨ad337, e337, hx337_0, hx337_1, hx337_2, hx337_3, hx337_4, hx337_5⟩ := at_T41 (Kd.R_reads' HO_75.out).2.2 x77_2 p337 q337
            cases e337
            replace p337 := eq_true p337
            replace q337 := eq_true q337
            go_wp2_with (first | ((with_reducible refine gate_dst (N := 16) rfl ?_); (try (refine gate_guard (by rfl) ?_; dsimp only)); refine box_event ?hg (N := 16) ?hd (cs := #[.int .i64 0, .int .i64 0, .int .i64 0, .int .i64 0, .int .i64 0, .int .u8 0]) (t := 41) ?hr ?_; (case hd => rfl); (case hg => rfl); (case hr => first | (go_simp; done) | (go_simp; rfl)); intro gb338 hg w33 hbox hb; have n0_ := Aside0.mk (Kd.R_below (Kd.R_elderB (by (with_reducible repeat (first | apply Kd.R_alloc | apply Kd.R_drewN | apply Kd.R_drew)); exact HO_10.out) gb338 (Nat.le_of_eq hg.symm)) hb); have n1_ := Aside0.mk (Kd.R_below (Kd.R_elderB (by (with_reducible repeat (first | apply Kd.R_alloc | apply Kd.R_drewN | apply Kd.R_drew)); exact HO_75.out) gb338 (Nat.le_of_eq hg.symm)) hb); have n2_ := Aside0.mk (below_step (by repeat (first | (with_reducible first | exact HB.out | apply below_alloc | apply pw_below_drewN | apply below_drew1) | exact HB.out)) hb); have n3_ := Aside0.mk (hbox); have n4_ := Aside0.mk ((by rw [hg]; exact (below_size (by repeat (first | (with_reducible first | exact HB.out | apply below_alloc | apply pw_below_drewN | apply below_drew1) | exact HB.out))) : w.heap.size ≤ gb338)); have n5_ := Aside0.mk ((by rw [hg]; exact (below_size (by repeat (first | (with_reducible first | exact HB.out | apply below_alloc | apply pw_below_drewN | apply below_drew1) | exact HB.out))) : w.heap.size ≤ gb338)); clear HO_10; clear HO_75; clear HB; have HO_10 := n0_; have HO_75 := n1_; have HB := n2_; have BK338 := n3_; have GW338 := n4_; have GE338 := n5_; clear n0_ n1_ n2_ n3_ n4_ n5_; clear hb hbox hg; have hcz34_0 : w33.cell? ⟨gb338, 0, none⟩ = some (.int .i64 0) := (blk_cell BK338.out 0).trans rfl; have hcz34_1 : w33.cell? ⟨gb338, 1, none⟩ = some (.int .i64 0) := (blk_cell BK338.out 1).trans rfl; have hcz34_2 : w33.cell? ⟨gb338, 2, none⟩ = some (.int .i64 0) := (blk_cell BK338.out 2).trans rfl; have hcz34_3 : w33.cell? ⟨gb338, 3, none⟩ = some (.int .i64 0) := (blk_cell BK338.out 3).trans rfl; have hcz34_4 : w33.cell? ⟨gb338, 4, none⟩ = some (.int .i64 0) := (blk_cell BK338.out 4).trans rfl; have hcz34_5 : w33.cell? ⟨gb338, 5, none⟩ = some (.int .u8 0) := (blk_cell BK338.out 5).trans rfl; have hfz34_0 := blk_frozen BK338.out 0; have hfz34_1 := blk_frozen BK338.out 1; have hfz34_2 := blk_frozen BK338.out 2; have hfz34_3 := blk_frozen BK338.out 3; have hfz34_4 := blk_frozen BK338.out 4; have hfz34_5 := blk_frozen BK338.out 5))
            go_roundg k2
            case measure => have := HJ6.out; have := HK2.out; omega
            case rel => exact ⟨(wrap64 (x14_2 + 1)), (wrap64 (x77_2 + 1)), (by first | rfl | (simp; done) | (simp [*]; done)), (by first | rfl | (simp; done) | (simp [*]; done)), H', ⟨by have := HJ6.out; have := HK2.out; omega⟩, ⟨by (with_reducible repeat (first | apply Kd.R_alloc | apply Kd.R_drewN | apply Kd.R_drew)); exact Kd.R_mono (Kd.R_far (p := ⟨gb338, 5, none⟩) (Kd.R_far (p := ⟨gb338, 4, none⟩) (Kd.R_far (p := ⟨gb338, 3, none⟩) (Kd.R_far (p := ⟨gb338, 2, none⟩) (Kd.R_far (p := ⟨gb338, 1, none⟩) (Kd.R_far (p := ⟨gb338, 0, none⟩) (Kd.R_mono HO_10.out (fun k_ hk => (⟨hk, hk.2⟩ : _ ∧ k_ ≠ gb338))) (fun _ hk => hk.2) (.int .i64 ((rd_T41 t326 x77_2).f0))) (fun _ hk => hk.2) (.int .i64 ((rd_T41 t326 x77_2).f1))) (fun _ hk => hk.2) (.int .i64 ((rd_T41 t326 x77_2).f2))) (fun _ hk => hk.2) (.int .i64 ((rd_T41 t326 x77_2).f3))) (fun _ hk => hk.2) (.int .i64 ((rd_T41 t326 x77_2).f4))) (fun _ hk => hk.2) (.int .u8 ((rd_T41 t326 x77_2).f5))) (fun _ hk => hk.1.1)⟩, ⟨by (with_reducible repeat (first | apply Kd.R_alloc | apply Kd.R_drewN | apply Kd.R_drew)); exact Kd.R_mono (Kd.R_far (p := ⟨gb338, 5, none⟩) (Kd.R_far (p := ⟨gb338, 4, none⟩) (Kd.R_far (p := ⟨gb338, 3, none⟩) (Kd.R_far (p := ⟨gb338, 2, none⟩) (Kd.R_far (p := ⟨gb338, 1, none⟩) (Kd.R_far (p := ⟨gb338, 0, none⟩) (Kd.R_mono HO_75.out (fun k_ hk => (⟨hk, hk.2⟩ : _ ∧ k_ ≠ gb338))) (fun _ hk => hk.2) (.int .i64 ((rd_T41 t326 x77_2).f0))) (fun _ hk => hk.2) (.int .i64 ((rd_T41 t326 x77_2).f1))) (fun _ hk => hk.2) (.int .i64 ((rd_T41 t326 x77_2).f2))) (fun _ hk => hk.2) (.int .i64 ((rd_T41 t326 x77_2).f3))) (fun _ hk => hk.2) (.int .i64 ((rd_T41 t326 x77_2).f4))) (fun _ hk => hk.2) (.int .u8 ((rd_T41 t326 x77_2).f5))) (fun _ hk => hk.1.1)⟩, ⟨by repeat (first | (with_reducible first | exact HB.out | apply below_alloc | apply pw_below_drewN | apply below_drew1 | refine below_set ?_ GE338.out) | exact HB.out)⟩⟩
           ·rw [if_neg c32] at H
            have c32b0 : (((rd_T41 t326 x77_2).f5) == 1) = false := beq_eq_false_iff_ne.mpr c32
            have c32b1 : (((rd_T41 t326 x77_2).f5) != 1) = true := bne_iff_ne.mpr c32
            by_cases c35 : (Int.tmod (wrap64 (a2)) 110) ≤ ((rd_T41 t326 x77_2).f4)
            ·rw [if_pos c35] at H
             have c35b0 : decide ((Int.tmod (wrap64 (a2)) 110) ≤ ((rd_T41 t326 x77_2).f4)) = true := decide_eq_true c35
             clear c35
             have H' := Aside0.mk H
             clear H
             have p337 : 0 ≤ (x77_2 : Int) := of_decide_eq_true (by first | (with_reducible assumption) | assumption)
             have q337 : x77_2 < (t326.length : Int) := of_decide_eq_true (by first | (with_reducible assumption) | assumption)
             obtain ⟨ad337, e337, hx337_0, hx337_1, hx337_2, hx337_3, hx337_4, hx337_5⟩ := at_T41 (Kd.R_reads' HO_75.out).2.2 x77_2 p337 q337
             cases e337
             replace p337 := eq_true p337
             replace q337 := eq_true q337
             go_wp2_with (first | ((with_reducible refine gate_dst (N := 16) rfl ?_); (try (refine gate_guard (by rfl) ?_; dsimp only)); refine box_event ?hg (N := 16) ?hd (cs := #[.int .i64 0, .int .i64 0, .int .i64 0, .int .i64 0, .int .i64 0, .int .u8 0]) (t := 41) ?hr ?_; (case hd => rfl); (case hg => rfl); (case hr => first | (go_simp; done) | (go_simp; rfl)); intro gb338 hg w36 hbox hb; have n0_ := Aside0.mk (Kd.R_below (Kd.R_elderB (by (with_reducible repeat (first | apply Kd.R_alloc | apply Kd.R_drewN | apply Kd.R_drew)); exact HO_10.out) gb338 (Nat.le_of_eq hg.symm)) hb); have n1_ := Aside0.mk (Kd.R_below (Kd.R_elderB (by (with_reducible repeat (first | apply Kd.R_alloc | apply Kd.R_drewN | apply Kd.R_drew)); exact HO_75.out) gb338 (Nat.le_of_eq hg.symm)) hb); have n2_ := Aside0.mk (below_step (by repeat (first | (with_reducible first | exact HB.out | apply below_alloc | apply pw_below_drewN | apply below_drew1) | exact HB.out)) hb); have n3_ := Aside0.mk (hbox); have n4_ := Aside0.mk ((by rw [hg]; exact (below_size (by repeat (first | (with_reducible first | exact HB.out | apply below_alloc | apply pw_below_drewN | apply below_drew1) | exact HB.out))) : w.heap.size ≤ gb338)); have n5_ := Aside0.mk ((by rw [hg]; exact (below_size (by repeat (first | (with_reducible first | exact HB.out | apply below_alloc | apply pw_below_drewN | apply below_drew1) | exact HB.out))) : w.heap.size ≤ gb338)); clear HO_10; clear HO_75; clear HB; have HO_10 := n0_; have HO_75 := n1_; have HB := n2_; have BK338 := n3_; have GW338 := n4_; have GE338 := n5_; clear n0_ n1_ n2_ n3_ n4_ n5_; clear hb hbox hg; have hcz37_0 : w36.cell? ⟨gb338, 0, none⟩ = some (.int .i64 0) := (blk_cell BK338.out 0).trans rfl; have hcz37_1 : w36.cell? ⟨gb338, 1, none⟩ = some (.int .i64 0) := (blk_cell BK338.out 1).trans rfl; have hcz37_2 : w36.cell? ⟨gb338, 2, none⟩ = some (.int .i64 0) := (blk_cell BK338.out 2).trans rfl; have hcz37_3 : w36.cell? ⟨gb338, 3, none⟩ = some (.int .i64 0) := (blk_cell BK338.out 3).trans rfl; have hcz37_4 : w36.cell? ⟨gb338, 4, none⟩ = some (.int .i64 0) := (blk_cell BK338.out 4).trans rfl; have hcz37_5 : w36.cell? ⟨gb338, 5, none⟩ = some (.int .u8 0) := (blk_cell BK338.out 5).trans rfl; have hfz37_0 := blk_frozen BK338.out 0; have hfz37_1 := blk_frozen BK338.out 1; have hfz37_2 := blk_frozen BK338.out 2; have hfz37_3 := blk_frozen BK338.out 3; have hfz37_4 := blk_frozen BK338.out 4; have hfz37_5 := blk_frozen BK338.out 5))
             go_roundg k2
             case measure => have := HJ6.out; have := HK2.out; omega
             case rel => exact ⟨(wrap64 (x14_2 + 1)), (wrap64 (x77_2 + 1)), (by first | rfl | (simp; done) | (simp [*]; done)), (by first | rfl | (simp; done) | (simp [*]; done)), H', ⟨by have := HJ6.out; have := HK2.out; omega⟩, ⟨by (with_reducible repeat (first | apply Kd.R_alloc | apply Kd.R_drewN | apply Kd.R_drew)); exact Kd.R_mono (Kd.R_far (p := ⟨gb338, 5, none⟩) (Kd.R_far (p := ⟨gb338, 4, none⟩) (Kd.R_far (p := ⟨gb338, 3, none⟩) (Kd.R_far (p := ⟨gb338, 2, none⟩) (Kd.R_far (p := ⟨gb338, 1, none⟩) (Kd.R_far (p := ⟨gb338, 0, none⟩) (Kd.R_mono HO_10.out (fun k_ hk => (⟨hk, hk.2⟩ : _ ∧ k_ ≠ gb338))) (fun _ hk => hk.2) (.int .i64 ((rd_T41 t326 x77_2).f0))) (fun _ hk => hk.2) (.int .i64 ((rd_T41 t326 x77_2).f1))) (fun _ hk => hk.2) (.int .i64 ((rd_T41 t326 x77_2).f2))) (fun _ hk => hk.2) (.int .i64 ((rd_T41 t326 x77_2).f3))) (fun _ hk => hk.2) (.int .i64 ((rd_T41 t326 x77_2).f4))) (fun _ hk => hk.2) (.int .u8 ((rd_T41 t326 x77_2).f5))) (fun _ hk => hk.1.1)⟩, ⟨by (with_reducible repeat (first | apply Kd.R_alloc | apply Kd.R_drewN | apply Kd.R_drew)); exact Kd.R_mono (Kd.R_far (p := ⟨gb338, 5, none⟩) (Kd.R_far (p := ⟨gb338, 4, none⟩) (Kd.R_far (p := ⟨gb338, 3, none⟩) (Kd.R_far (p := ⟨gb338, 2, none⟩) (Kd.R_far (p := ⟨gb338, 1, none⟩) (Kd.R_far (p := ⟨gb338, 0, none⟩) (Kd.R_mono HO_75.out (fun k_ hk => (⟨hk, hk.2⟩ : _ ∧ k_ ≠ gb338))) (fun _ hk => hk.2) (.int .i64 ((rd_T41 t326 x77_2).f0))) (fun _ hk => hk.2) (.int .i64 ((rd_T41 t326 x77_2).f1))) (fun _ hk => hk.2) (.int .i64 ((rd_T41 t326 x77_2).f2))) (fun _ hk => hk.2) (.int .i64 ((rd_T41 t326 x77_2).f3))) (fun _ hk => hk.2) (.int .i64 ((rd_T41 t326 x77_2).f4))) (fun _ hk => hk.2) (.int .u8 ((rd_T41 t326 x77_2).f5))) (fun _ hk => hk.1.1)⟩, ⟨by repeat (first | (with_reducible first | exact HB.out | apply below_alloc | apply pw_below_drewN | apply below_drew1 | refine below_set ?_ GE338.out) | exact HB.out)⟩⟩
            ·rw [if_neg c35] at H
             have c35b0 : decide ((Int.tmod (wrap64 (a2)) 110) ≤ ((rd_T41 t326 x77_2).f4)) = false := decide_eq_false c35
             clear c35
             have H' := Aside0.mk H
             clear H
             have p337 : 0 ≤ (x77_2 : Int) := of_decide_eq_true (by first | (with_reducible assumption) | assumption)
             have q337 : x77_2 < (t326.length : Int) := of_decide_eq_true (by first | (with_reducible assumption) | assumption)
             obtain ⟨ad337, e337, hx337_0, hx337_1, hx337_2, hx337_3, hx337_4, hx337_5⟩ := at_T41 (Kd.R_reads' HO_75.out).2.2 x77_2 p337 q337
             cases e337
             replace p337 := eq_true p337
             replace q337 := eq_true q337
             go_wp2_with (first | ((with_reducible refine gate_dst (N := 16) rfl ?_); (try (refine gate_guard (by rfl) ?_; dsimp only)); refine box_event ?hg (N := 16) ?hd (cs := #[.int .i64 0, .int .i64 0, .int .i64 0, .int .i64 0, .int .i64 0, .int .u8 0]) (t := 41) ?hr ?_; (case hd => rfl); (case hg => rfl); (case hr => first | (go_simp; done) | (go_simp; rfl)); intro gb338 hg w38 hbox hb; have n0_ := Aside0.mk (Kd.R_below (Kd.R_elderB (by (with_reducible repeat (first | apply Kd.R_alloc | apply Kd.R_drewN | apply Kd.R_drew)); exact HO_10.out) gb338 (Nat.le_of_eq hg.symm)) hb); have n1_ := Aside0.mk (Kd.R_below (Kd.R_elderB (by (with_reducible repeat (first | apply Kd.R_alloc | apply Kd.R_drewN | apply Kd.R_drew)); exact HO_75.out) gb338 (Nat.le_of_eq hg.symm)) hb); have n2_ := Aside0.mk (below_step (by repeat (first | (with_reducible first | exact HB.out | apply below_alloc | apply pw_below_drewN | apply below_drew1) | exact HB.out)) hb); have n3_ := Aside0.mk (hbox); have n4_ := Aside0.mk ((by rw [hg]; exact (below_size (by repeat (first | (with_reducible first | exact HB.out | apply below_alloc | apply pw_below_drewN | apply below_drew1) | exact HB.out))) : w.heap.size ≤ gb338)); have n5_ := Aside0.mk ((by rw [hg]; exact (below_size (by repeat (first | (with_reducible first | exact HB.out | apply below_alloc | apply pw_below_drewN | apply below_drew1) | exact HB.out))) : w.heap.size ≤ gb338)); clear HO_10; clear HO_75; clear HB; have HO_10 := n0_; have HO_75 := n1_; have HB := n2_; have BK338 := n3_; have GW338 := n4_; have GE338 := n5_; clear n0_ n1_ n2_ n3_ n4_ n5_; clear hb hbox hg; have hcz39_0 : w38.cell? ⟨gb338, 0, none⟩ = some (.int .i64 0) := (blk_cell BK338.out 0).trans rfl; have hcz39_1 : w38.cell? ⟨gb338, 1, none⟩ = some (.int .i64 0) := (blk_cell BK338.out 1).trans rfl; have hcz39_2 : w38.cell? ⟨gb338, 2, none⟩ = some (.int .i64 0) := (blk_cell BK338.out 2).trans rfl; have hcz39_3 : w38.cell? ⟨gb338, 3, none⟩ = some (.int .i64 0) := (blk_cell BK338.out 3).trans rfl; have hcz39_4 : w38.cell? ⟨gb338, 4, none⟩ = some (.int .i64 0) := (blk_cell BK338.out 4).trans rfl; have hcz39_5 : w38.cell? ⟨gb338, 5, none⟩ = some (.int .u8 0) := (blk_cell BK338.out 5).trans rfl; have hfz39_0 := blk_frozen BK338.out 0; have hfz39_1 := blk_frozen BK338.out 1; have hfz39_2 := blk_frozen BK338.out 2; have hfz39_3 := blk_frozen BK338.out 3; have hfz39_4 := blk_frozen BK338.out 4; have hfz39_5 := blk_frozen BK338.out 5))
             go_roundg k2
             case measure => have := HJ6.out; have := HK2.out; omega
             case rel => exact ⟨(x14_2), (wrap64 (x77_2 + 1)), (by first | rfl | (simp; done) | (simp [*]; done)), (by first | rfl | (simp; done) | (simp [*]; done)), H', ⟨by have := HJ6.out; have := HK2.out; omega⟩, ⟨by (with_reducible repeat (first | apply Kd.R_alloc | apply Kd.R_drewN | apply Kd.R_drew)); exact Kd.R_mono (Kd.R_far (p := ⟨gb338, 5, none⟩) (Kd.R_far (p := ⟨gb338, 4, none⟩) (Kd.R_far (p := ⟨gb338, 3, none⟩) (Kd.R_far (p := ⟨gb338, 2, none⟩) (Kd.R_far (p := ⟨gb338, 1, none⟩) (Kd.R_far (p := ⟨gb338, 0, none⟩) (Kd.R_mono HO_10.out (fun k_ hk => (⟨hk, hk.2⟩ : _ ∧ k_ ≠ gb338))) (fun _ hk => hk.2) (.int .i64 ((rd_T41 t326 x77_2).f0))) (fun _ hk => hk.2) (.int .i64 ((rd_T41 t326 x77_2).f1))) (fun _ hk => hk.2) (.int .i64 ((rd_T41 t326 x77_2).f2))) (fun _ hk => hk.2) (.int .i64 ((rd_T41 t326 x77_2).f3))) (fun _ hk => hk.2) (.int .i64 ((rd_T41 t326 x77_2).f4))) (fun _ hk => hk.2) (.int .u8 ((rd_T41 t326 x77_2).f5))) (fun _ hk => hk.1.1)⟩, ⟨by (with_reducible repeat (first | apply Kd.R_alloc | apply Kd.R_drewN | apply Kd.R_drew)); exact Kd.R_mono (Kd.R_far (p := ⟨gb338, 5, none⟩) (Kd.R_far (p := ⟨gb338, 4, none⟩) (Kd.R_far (p := ⟨gb338, 3, none⟩) (Kd.R_far (p := ⟨gb338, 2, none⟩) (Kd.R_far (p := ⟨gb338, 1, none⟩) (Kd.R_far (p := ⟨gb338, 0, none⟩) (Kd.R_mono HO_75.out (fun k_ hk => (⟨hk, hk.2⟩ : _ ∧ k_ ≠ gb338))) (fun _ hk => hk.2) (.int .i64 ((rd_T41 t326 x77_2).f0))) (fun _ hk => hk.2) (.int .i64 ((rd_T41 t326 x77_2).f1))) (fun _ hk => hk.2) (.int .i64 ((rd_T41 t326 x77_2).f2))) (fun _ hk => hk.2) (.int .i64 ((rd_T41 t326 x77_2).f3))) (fun _ hk => hk.2) (.int .i64 ((rd_T41 t326 x77_2).f4))) (fun _ hk => hk.2) (.int .u8 ((rd_T41 t326 x77_2).f5))) (fun _ hk => hk.1.1)⟩, ⟨by repeat (first | (with_reducible first | exact HB.out | apply below_alloc | apply pw_below_drewN | apply below_drew1 | refine below_set ?_ GE338.out) | exact HB.out)⟩⟩
          ·rw [if_neg c31] at H
           have c31b0 : decide (((rd_T41 t326 x77_2).f3) ≤ (Int.tmod (wrap64 (a2)) 110)) = false := decide_eq_false c31
           clear c31
           have H' := Aside0.mk H
           clear H
           have p337 : 0 ≤ (x77_2 : Int) := of_decide_eq_true (by first | (with_reducible assumption) | assumption)
           have q337 : x77_2 < (t326.length : Int) := of_decide_eq_true (by first | (with_reducible assumption) | assumption)
           obtain ⟨ad337, e337, hx337_0, hx337_1, hx337_2, hx337_3, hx337_4, hx337_5⟩ := at_T41 (Kd.R_reads' HO_75.out).2.2 x77_2 p337 q337
           cases e337
           replace p337 := eq_true p337
           replace q337 := eq_true q337
           go_wp2_with (first | ((with_reducible refine gate_dst (N := 16) rfl ?_); (try (refine gate_guard (by rfl) ?_; dsimp only)); refine box_event ?hg (N := 16) ?hd (cs := #[.int .i64 0, .int .i64 0, .int .i64 0, .int .i64 0, .int .i64 0, .int .u8 0]) (t := 41) ?hr ?_; (case hd => rfl); (case hg => rfl); (case hr => first | (go_simp; done) | (go_simp; rfl)); intro gb338 hg w40 hbox hb; have n0_ := Aside0.mk (Kd.R_below (Kd.R_elderB (by (with_reducible repeat (first | apply Kd.R_alloc | apply Kd.R_drewN | apply Kd.R_drew)); exact HO_10.out) gb338 (Nat.le_of_eq hg.symm)) hb); have n1_ := Aside0.mk (Kd.R_below (Kd.R_elderB (by (with_reducible repeat (first | apply Kd.R_alloc | apply Kd.R_drewN | apply Kd.R_drew)); exact HO_75.out) gb338 (Nat.le_of_eq hg.symm)) hb); have n2_ := Aside0.mk (below_step (by repeat (first | (with_reducible first | exact HB.out | apply below_alloc | apply pw_below_drewN | apply below_drew1) | exact HB.out)) hb); have n3_ := Aside0.mk (hbox); have n4_ := Aside0.mk ((by rw [hg]; exact (below_size (by repeat (first | (with_reducible first | exact HB.out | apply below_alloc | apply pw_below_drewN | apply below_drew1) | exact HB.out))) : w.heap.size ≤ gb338)); have n5_ := Aside0.mk ((by rw [hg]; exact (below_size (by repeat (first | (with_reducible first | exact HB.out | apply below_alloc | apply pw_below_drewN | apply below_drew1) | exact HB.out))) : w.heap.size ≤ gb338)); clear HO_10; clear HO_75; clear HB; have HO_10 := n0_; have HO_75 := n1_; have HB := n2_; have BK338 := n3_; have GW338 := n4_; have GE338 := n5_; clear n0_ n1_ n2_ n3_ n4_ n5_; clear hb hbox hg; have hcz41_0 : w40.cell? ⟨gb338, 0, none⟩ = some (.int .i64 0) := (blk_cell BK338.out 0).trans rfl; have hcz41_1 : w40.cell? ⟨gb338, 1, none⟩ = some (.int .i64 0) := (blk_cell BK338.out 1).trans rfl; have hcz41_2 : w40.cell? ⟨gb338, 2, none⟩ = some (.int .i64 0) := (blk_cell BK338.out 2).trans rfl; have hcz41_3 : w40.cell? ⟨gb338, 3, none⟩ = some (.int .i64 0) := (blk_cell BK338.out 3).trans rfl; have hcz41_4 : w40.cell? ⟨gb338, 4, none⟩ = some (.int .i64 0) := (blk_cell BK338.out 4).trans rfl; have hcz41_5 : w40.cell? ⟨gb338, 5, none⟩ = some (.int .u8 0) := (blk_cell BK338.out 5).trans rfl; have hfz41_0 := blk_frozen BK338.out 0; have hfz41_1 := blk_frozen BK338.out 1; have hfz41_2 := blk_frozen BK338.out 2; have hfz41_3 := blk_frozen BK338.out 3; have hfz41_4 := blk_frozen BK338.out 4; have hfz41_5 := blk_frozen BK338.out 5))
           go_roundg k2
           case measure => have := HJ6.out; have := HK2.out; omega
           case rel => exact ⟨(x14_2), (wrap64 (x77_2 + 1)), (by first | rfl | (simp; done) | (simp [*]; done)), (by first | rfl | (simp; done) | (simp [*]; done)), H', ⟨by have := HJ6.out; have := HK2.out; omega⟩, ⟨by (with_reducible repeat (first | apply Kd.R_alloc | apply Kd.R_drewN | apply Kd.R_drew)); exact Kd.R_mono (Kd.R_far (p := ⟨gb338, 5, none⟩) (Kd.R_far (p := ⟨gb338, 4, none⟩) (Kd.R_far (p := ⟨gb338, 3, none⟩) (Kd.R_far (p := ⟨gb338, 2, none⟩) (Kd.R_far (p := ⟨gb338, 1, none⟩) (Kd.R_far (p := ⟨gb338, 0, none⟩) (Kd.R_mono HO_10.out (fun k_ hk => (⟨hk, hk.2⟩ : _ ∧ k_ ≠ gb338))) (fun _ hk => hk.2) (.int .i64 ((rd_T41 t326 x77_2).f0))) (fun _ hk => hk.2) (.int .i64 ((rd_T41 t326 x77_2).f1))) (fun _ hk => hk.2) (.int .i64 ((rd_T41 t326 x77_2).f2))) (fun _ hk => hk.2) (.int .i64 ((rd_T41 t326 x77_2).f3))) (fun _ hk => hk.2) (.int .i64 ((rd_T41 t326 x77_2).f4))) (fun _ hk => hk.2) (.int .u8 ((rd_T41 t326 x77_2).f5))) (fun _ hk => hk.1.1)⟩, ⟨by (with_reducible repeat (first | apply Kd.R_alloc | apply Kd.R_drewN | apply Kd.R_drew)); exact Kd.R_mono (Kd.R_far (p := ⟨gb338, 5, none⟩) (Kd.R_far (p := ⟨gb338, 4, none⟩) (Kd.R_far (p := ⟨gb338, 3, none⟩) (Kd.R_far (p := ⟨gb338, 2, none⟩) (Kd.R_far (p := ⟨gb338, 1, none⟩) (Kd.R_far (p := ⟨gb338, 0, none⟩) (Kd.R_mono HO_75.out (fun k_ hk => (⟨hk, hk.2⟩ : _ ∧ k_ ≠ gb338))) (fun _ hk => hk.2) (.int .i64 ((rd_T41 t326 x77_2).f0))) (fun _ hk => hk.2) (.int .i64 ((rd_T41 t326 x77_2).f1))) (fun _ hk => hk.2) (.int .i64 ((rd_T41 t326 x77_2).f2))) (fun _ hk => hk.2) (.int .i64 ((rd_T41 t326 x77_2).f3))) (fun _ hk => hk.2) (.int .i64 ((rd_T41 t326 x77_2).f4))) (fun _ hk => hk.2) (.int .u8 ((rd_T41 t326 x77_2).f5))) (fun _ hk => hk.1.1)⟩, ⟨by repeat (first | (with_reducible first | exact HB.out | apply below_alloc | apply pw_below_drewN | apply below_drew1 | refine below_set ?_ GE338.out) | exact HB.out)⟩⟩
         ·rw [if_neg c30] at H
          have c30b0 : (((rd_T41 t326 x77_2).f1) == (wrap64 (1 + (Int.tmod (wrap64 (a1)) 6)))) = false := beq_eq_false_iff_ne.mpr c30
          have c30b1 : (((rd_T41 t326 x77_2).f1) != (wrap64 (1 + (Int.tmod (wrap64 (a1)) 6)))) = true := bne_iff_ne.mpr c30
          have H' := Aside0.mk H
          clear H
          have p337 : 0 ≤ (x77_2 : Int) := of_decide_eq_true (by first | (with_reducible assumption) | assumption)
          have q337 : x77_2 < (t326.length : Int) := of_decide_eq_true (by first | (with_reducible assumption) | assumption)
          obtain ⟨ad337, e337, hx337_0, hx337_1, hx337_2, hx337_3, hx337_4, hx337_5⟩ := at_T41 (Kd.R_reads' HO_75.out).2.2 x77_2 p337 q337
          cases e337
          replace p337 := eq_true p337
          replace q337 := eq_true q337
          go_wp2_with (first | ((with_reducible refine gate_dst (N := 16) rfl ?_); (try (refine gate_guard (by rfl) ?_; dsimp only)); refine box_event ?hg (N := 16) ?hd (cs := #[.int .i64 0, .int .i64 0, .int .i64 0, .int .i64 0, .int .i64 0, .int .u8 0]) (t := 41) ?hr ?_; (case hd => rfl); (case hg => rfl); (case hr => first | (go_simp; done) | (go_simp; rfl)); intro gb338 hg w42 hbox hb; have n0_ := Aside0.mk (Kd.R_below (Kd.R_elderB (by (with_reducible repeat (first | apply Kd.R_alloc | apply Kd.R_drewN | apply Kd.R_drew)); exact HO_10.out) gb338 (Nat.le_of_eq hg.symm)) hb); have n1_ := Aside0.mk (Kd.R_below (Kd.R_elderB (by (with_reducible repeat (first | apply Kd.R_alloc | apply Kd.R_drewN | apply Kd.R_drew)); exact HO_75.out) gb338 (Nat.le_of_eq hg.symm)) hb); have n2_ := Aside0.mk (below_step (by repeat (first | (with_reducible first | exact HB.out | apply below_alloc | apply pw_below_drewN | apply below_drew1) | exact HB.out)) hb); have n3_ := Aside0.mk (hbox); have n4_ := Aside0.mk ((by rw [hg]; exact (below_size (by repeat (first | (with_reducible first | exact HB.out | apply below_alloc | apply pw_below_drewN | apply below_drew1) | exact HB.out))) : w.heap.size ≤ gb338)); have n5_ := Aside0.mk ((by rw [hg]; exact (below_size (by repeat (first | (with_reducible first | exact HB.out | apply below_alloc | apply pw_below_drewN | apply below_drew1) | exact HB.out))) : w.heap.size ≤ gb338)); clear HO_10; clear HO_75; clear HB; have HO_10 := n0_; have HO_75 := n1_; have HB := n2_; have BK338 := n3_; have GW338 := n4_; have GE338 := n5_; clear n0_ n1_ n2_ n3_ n4_ n5_; clear hb hbox hg; have hcz43_0 : w42.cell? ⟨gb338, 0, none⟩ = some (.int .i64 0) := (blk_cell BK338.out 0).trans rfl; have hcz43_1 : w42.cell? ⟨gb338, 1, none⟩ = some (.int .i64 0) := (blk_cell BK338.out 1).trans rfl; have hcz43_2 : w42.cell? ⟨gb338, 2, none⟩ = some (.int .i64 0) := (blk_cell BK338.out 2).trans rfl; have hcz43_3 : w42.cell? ⟨gb338, 3, none⟩ = some (.int .i64 0) := (blk_cell BK338.out 3).trans rfl; have hcz43_4 : w42.cell? ⟨gb338, 4, none⟩ = some (.int .i64 0) := (blk_cell BK338.out 4).trans rfl; have hcz43_5 : w42.cell? ⟨gb338, 5, none⟩ = some (.int .u8 0) := (blk_cell BK338.out 5).trans rfl; have hfz43_0 := blk_frozen BK338.out 0; have hfz43_1 := blk_frozen BK338.out 1; have hfz43_2 := blk_frozen BK338.out 2; have hfz43_3 := blk_frozen BK338.out 3; have hfz43_4 := blk_frozen BK338.out 4; have hfz43_5 := blk_frozen BK338.out 5))
          go_roundg k2
          case measure => have := HJ6.out; have := HK2.out; omega
          case rel => exact ⟨(x14_2), (wrap64 (x77_2 + 1)), (by first | rfl | (simp; done) | (simp [*]; done)), (by first | rfl | (simp; done) | (simp [*]; done)), H', ⟨by have := HJ6.out; have := HK2.out; omega⟩, ⟨by (with_reducible repeat (first | apply Kd.R_alloc | apply Kd.R_drewN | apply Kd.R_drew)); exact Kd.R_mono (Kd.R_far (p := ⟨gb338, 5, none⟩) (Kd.R_far (p := ⟨gb338, 4, none⟩) (Kd.R_far (p := ⟨gb338, 3, none⟩) (Kd.R_far (p := ⟨gb338, 2, none⟩) (Kd.R_far (p := ⟨gb338, 1, none⟩) (Kd.R_far (p := ⟨gb338, 0, none⟩) (Kd.R_mono HO_10.out (fun k_ hk => (⟨hk, hk.2⟩ : _ ∧ k_ ≠ gb338))) (fun _ hk => hk.2) (.int .i64 ((rd_T41 t326 x77_2).f0))) (fun _ hk => hk.2) (.int .i64 ((rd_T41 t326 x77_2).f1))) (fun _ hk => hk.2) (.int .i64 ((rd_T41 t326 x77_2).f2))) (fun _ hk => hk.2) (.int .i64 ((rd_T41 t326 x77_2).f3))) (fun _ hk => hk.2) (.int .i64 ((rd_T41 t326 x77_2).f4))) (fun _ hk => hk.2) (.int .u8 ((rd_T41 t326 x77_2).f5))) (fun _ hk => hk.1.1)⟩, ⟨by (with_reducible repeat (first | apply Kd.R_alloc | apply Kd.R_drewN | apply Kd.R_drew)); exact Kd.R_mono (Kd.R_far (p := ⟨gb338, 5, none⟩) (Kd.R_far (p := ⟨gb338, 4, none⟩) (Kd.R_far (p := ⟨gb338, 3, none⟩) (Kd.R_far (p := ⟨gb338, 2, none⟩) (Kd.R_far (p := ⟨gb338, 1, none⟩) (Kd.R_far (p := ⟨gb338, 0, none⟩) (Kd.R_mono HO_75.out (fun k_ hk => (⟨hk, hk.2⟩ : _ ∧ k_ ≠ gb338))) (fun _ hk => hk.2) (.int .i64 ((rd_T41 t326 x77_2).f0))) (fun _ hk => hk.2) (.int .i64 ((rd_T41 t326 x77_2).f1))) (fun _ hk => hk.2) (.int .i64 ((rd_T41 t326 x77_2).f2))) (fun _ hk => hk.2) (.int .i64 ((rd_T41 t326 x77_2).f3))) (fun _ hk => hk.2) (.int .i64 ((rd_T41 t326 x77_2).f4))) (fun _ hk => hk.2) (.int .u8 ((rd_T41 t326 x77_2).f5))) (fun _ hk => hk.1.1)⟩, ⟨by repeat (first | (with_reducible first | exact HB.out | apply below_alloc | apply pw_below_drewN | apply below_drew1 | refine below_set ?_ GE338.out) | exact HB.out)⟩⟩
        ·rw [if_neg c29] at H
         exact absurd H (by simp)
       ·rw [if_neg c28] at H
        exact absurd H (by simp)
      ·rw [if_neg c27] at H
       have c27b0 : decide (x77_2 < (t326.length : Int)) = false := decide_eq_false c27
       clear c27
       have H' := Aside0.mk H
       clear H
       obtain ⟨Ao44, co44, eo44⟩ := Kd.R_slice HO_10.out
       subst eo44
       go_wp2
       go_loopg [107] k2 (fun kq v107 w' => ∃ (x107_3 : Int), v107 = .int .i64 x107_3 ∧ Aside0 (letterbaglaw35_OrderRules.l1 kq (wrap64 (1 + (Int.tmod (wrap64 (a1)) 6))) (Int.tmod (wrap64 (a2)) 110) t329 x14_2 t329 (t329.length : Int) x107_3 = some r) ∧ Aside0 (kq ≤ k2) ∧ Aside0 (Kd.R k41 41 w' w.heap.size (fun _ => True) (.slice Ao44 t329.length co44) t329) ∧ Aside0 (Kd.R k41 41 w' w.heap.size (fun _ => True) (.slice Ao44 t329.length co44) t329) ∧ Aside0 (Below w.heap.size w w'))
       case atStart => exact ⟨(0), (by first | rfl | (simp; done) | (simp [*]; done)), H', ⟨Nat.le_refl _⟩, ⟨by (with_reducible repeat (first | apply Kd.R_alloc | apply Kd.R_drewN | apply Kd.R_drew)); exact Kd.R_mono HO_10.out (fun _ hk => trivial)⟩, ⟨by (with_reducible repeat (first | apply Kd.R_alloc | apply Kd.R_drewN | apply Kd.R_drew)); exact Kd.R_mono HO_10.out (fun _ hk => trivial)⟩, ⟨by repeat (first | (with_reducible first | exact HB.out | apply below_alloc | apply pw_below_drewN | apply below_drew1) | exact HB.out)⟩⟩
       case round =>
        clear H'
        try clear c1
        try clear c2
        try clear p2
        try clear c3
        try clear p3
        try clear q3
        try clear hx3
        try clear qi3
        try clear c5
        try clear p6
        try clear c12
        try clear c12b0
        try clear c12b1
        try clear c13
        try clear c15
        try clear c16
        try clear c16b0
        try clear c16b1
        try clear c16b2
        try clear c19
        try clear c19b0
        try clear c19b1
        try clear c20
        try clear c20b0
        try clear c20b1
        try clear c26
        try clear c27
        try clear c27b0
        try clear c28
        try clear c28b0
        try clear c29
        try clear c29b0
        try clear c30
        try clear c30b0
        try clear c30b1
        try clear c31
        try clear c31b0
        try clear c32
        try clear c32b0
        try clear c32b1
        try clear p33
        try clear q33
        try clear hx33
        try clear qi33
        try clear c35
        try clear c35b0
        try clear hcz34_0
        try clear hcz34_1
        try clear hcz34_2
        try clear hcz34_3
        try clear hcz34_4
        try clear hcz34_5
        try clear hcz37_0
        try clear hcz37_1
        try clear hcz37_2
        try clear hcz37_3
        try clear hcz37_4
        try clear hcz37_5
        try clear hcz39_0
        try clear hcz39_1
        try clear hcz39_2
        try clear hcz39_3
        try clear hcz39_4
        try clear hcz39_5
        try clear hcz41_0
        try clear hcz41_1
        try clear hcz41_2
        try clear hcz41_3
        try clear hcz41_4
        try clear hcz41_5
        try clear hcz43_0
        try clear hcz43_1
        try clear hcz43_2
        try clear hcz43_3
        try clear hcz43_4
        try clear hcz43_5
        try clear hfz34_0
        try clear hfz34_1
        try clear hfz34_2
        try clear hfz34_3
        try clear hfz34_4
        try clear hfz34_5
        try clear hfz37_0
        try clear hfz37_1
        try clear hfz37_2
        try clear hfz37_3
        try clear hfz37_4
        try clear hfz37_5
        try clear hfz39_0
        try clear hfz39_1
        try clear hfz39_2
        try clear hfz39_3
        try clear hfz39_4
        try clear hfz39_5
        try clear hfz41_0
        try clear hfz41_1
        try clear hfz41_2
        try clear hfz41_3
        try clear hfz41_4
        try clear hfz41_5
        try clear hfz43_0
        try clear hfz43_1
        try clear hfz43_2
        try clear hfz43_3
        try clear hfz43_4
        try clear hfz43_5
        try clear hx336_0
        try clear hx336_1
        try clear hx336_2
        try clear hx336_3
        try clear hx336_4
        try clear hx336_5
        try clear hx337_0
        try clear hx337_1
        try clear hx337_2
        try clear hx337_3
        try clear hx337_4
        try clear hx337_5
        try clear p2
        try clear p3
        try clear p336
        try clear p337
        try clear p6
        try clear q3
        try clear q336
        try clear q337
        obtain ⟨x107_3, rfl, HA, HK3, HO_10, HO_105, HB⟩ := hrel
        cases gk with
        | zero => exact absurd HA.out (by simp [letterbaglaw35_OrderRules.l1])
        | succ k3 =>
         have H := HA.out
         clear HA
         simp only [letterbaglaw35_OrderRules.l1] at H
         by_cases c45 : x107_3 < (t329.length : Int)
         ·rw [if_pos c45] at H
          have c45b0 : decide (x107_3 < (t329.length : Int)) = true := decide_eq_true c45
          clear c45
          by_cases c46 : 0 ≤ x107_3
          ·rw [if_pos c46] at H
           have c46b0 : decide (0 ≤ x107_3) = true := decide_eq_true c46
           clear c46
           by_cases c47 : x107_3 < (t329.length : Int)
           ·rw [if_pos c47] at H
            have c47b0 : decide (x107_3 < (t329.length : Int)) = true := decide_eq_true c47
            clear c47
            have HC48 := Aside0.mk H
            clear H
            have p340 : 0 ≤ (x107_3 : Int) := of_decide_eq_true (by first | (with_reducible assumption) | assumption)
            have q340 : x107_3 < (t329.length : Int) := of_decide_eq_true (by first | (with_reducible assumption) | assumption)
            obtain ⟨ad340, e340, hx340_0, hx340_1, hx340_2, hx340_3, hx340_4, hx340_5⟩ := at_T41 (Kd.R_reads' HO_105.out).2.2 x107_3 p340 q340
            cases e340
            replace p340 := eq_true p340
            replace q340 := eq_true q340
            go_upto_region 17 with (first | ((with_reducible refine gate_dst (N := 18) rfl ?_); (try (refine gate_guard (by rfl) ?_; dsimp only)); refine box_event ?hg (N := 18) ?hd (cs := #[.int .i64 0, .int .i64 0, .int .i64 0, .int .i64 0, .int .i64 0, .int .u8 0]) (t := 41) ?hr ?_; (case hd => rfl); (case hg => rfl); (case hr => first | (go_simp; done) | (go_simp; rfl)); intro gb341 hg w49 hbox hb; have n0_ := Aside0.mk (Kd.R_below (Kd.R_elderB (by (with_reducible repeat (first | apply Kd.R_alloc | apply Kd.R_drewN | apply Kd.R_drew)); exact HO_10.out) gb341 (Nat.le_of_eq hg.symm)) hb); have n1_ := Aside0.mk (Kd.R_below (Kd.R_elderB (by (with_reducible repeat (first | apply Kd.R_alloc | apply Kd.R_drewN | apply Kd.R_drew)); exact HO_105.out) gb341 (Nat.le_of_eq hg.symm)) hb); have n2_ := Aside0.mk (below_step (by repeat (first | (with_reducible first | exact HB.out | apply below_alloc | apply pw_below_drewN | apply below_drew1) | exact HB.out)) hb); have n3_ := Aside0.mk (hbox); have n4_ := Aside0.mk ((by rw [hg]; exact (below_size (by repeat (first | (with_reducible first | exact HB.out | apply below_alloc | apply pw_below_drewN | apply below_drew1) | exact HB.out))) : w.heap.size ≤ gb341)); have n5_ := Aside0.mk ((by rw [hg]; exact (below_size (by repeat (first | (with_reducible first | exact HB.out | apply below_alloc | apply pw_below_drewN | apply below_drew1) | exact HB.out))) : w.heap.size ≤ gb341)); clear HO_10; clear HO_105; clear HB; have HO_10 := n0_; have HO_105 := n1_; have HB := n2_; have BK341 := n3_; have GW341 := n4_; have GE341 := n5_; clear n0_ n1_ n2_ n3_ n4_ n5_; clear hb hbox hg; have hcz50_0 : w49.cell? ⟨gb341, 0, none⟩ = some (.int .i64 0) := (blk_cell BK341.out 0).trans rfl; have hcz50_1 : w49.cell? ⟨gb341, 1, none⟩ = some (.int .i64 0) := (blk_cell BK341.out 1).trans rfl; have hcz50_2 : w49.cell? ⟨gb341, 2, none⟩ = some (.int .i64 0) := (blk_cell BK341.out 2).trans rfl; have hcz50_3 : w49.cell? ⟨gb341, 3, none⟩ = some (.int .i64 0) := (blk_cell BK341.out 3).trans rfl; have hcz50_4 : w49.cell? ⟨gb341, 4, none⟩ = some (.int .i64 0) := (blk_cell BK341.out 4).trans rfl; have hcz50_5 : w49.cell? ⟨gb341, 5, none⟩ = some (.int .u8 0) := (blk_cell BK341.out 5).trans rfl; have hfz50_0 := blk_frozen BK341.out 0; have hfz50_1 := blk_frozen BK341.out 1; have hfz50_2 := blk_frozen BK341.out 2; have hfz50_3 := blk_frozen BK341.out 3; have hfz50_4 := blk_frozen BK341.out 4; have hfz50_5 := blk_frozen BK341.out 5))
            (try simp only [Act.put, List.setIfInBounds_toArray, List.set_cons_zero, List.set_cons_succ])
            go_cut [132] (fun v132 wc => ∃ (kq : Nat) (x132_47 : Bool), v132 = .bool x132_47 ∧ Aside0 (letterbaglaw35_OrderRules.j3 kq (wrap64 (1 + (Int.tmod (wrap64 (a1)) 6))) (Int.tmod (wrap64 (a2)) 110) t329 x14_2 x107_3 t329 (t329.length : Int) x107_3 x132_47 ((rd_T41 t329 x107_3).f0) ((rd_T41 t329 x107_3).f1) ((rd_T41 t329 x107_3).f2) ((rd_T41 t329 x107_3).f3) ((rd_T41 t329 x107_3).f4) ((rd_T41 t329 x107_3).f5) = some r) ∧ Aside0 (kq ≤ k3) ∧ Aside0 (Kd.R k41 41 wc w.heap.size (fun k_ => k_ ≠ gb341) (.slice (some ad340) t329.length co44) t329) ∧ Aside0 (Kd.R k41 41 wc w.heap.size (fun k_ => k_ ≠ gb341) (.slice (some ad340) t329.length co44) t329) ∧ Aside0 (wc.heap[gb341]? = some (.cells #[.int .i64 ((rd_T41 t329 x107_3).f0), .int .i64 ((rd_T41 t329 x107_3).f1), .int .i64 ((rd_T41 t329 x107_3).f2), .int .i64 ((rd_T41 t329 x107_3).f3), .int .i64 ((rd_T41 t329 x107_3).f4), .int .u8 ((rd_T41 t329 x107_3).f5)] 41 (0, 0))) ∧ Aside0 (Below w.heap.size w wc))
            case first =>
             have H := HC48.out
             clear HC48
             by_cases c51 : ((rd_T41 t329 x107_3).f1) = (wrap64 (1 + (Int.tmod (wrap64 (a1)) 6)))
             ·rw [if_pos c51] at H
              have c51b0 : (((rd_T41 t329 x107_3).f1) == (wrap64 (1 + (Int.tmod (wrap64 (a1)) 6)))) = true := beq_iff_eq.mpr c51
              have c51b1 : (((rd_T41 t329 x107_3).f1) != (wrap64 (1 + (Int.tmod (wrap64 (a1)) 6)))) = false := bne_eq_false_iff_eq.mpr c51
              clear c51
              (first | rw [c51b0] | (simp only [i64_w, i32_w]; rw [c51b0]) | skip)
              by_cases c52 : ((rd_T41 t329 x107_3).f3) > (Int.tmod (wrap64 (a2)) 110)
              ·rw [if_pos c52] at H
               have c52b0 : decide ((Int.tmod (wrap64 (a2)) 110) < ((rd_T41 t329 x107_3).f3)) = true := decide_eq_true c52
               clear c52
               have H' := Aside0.mk H
               clear H
               have hcz53_0 : w49.cell? ⟨gb341, 0, none⟩ = some (.int .i64 0) := (blk_cell BK341.out 0).trans rfl
               have hcz53_1 : w49.cell? ⟨gb341, 1, none⟩ = some (.int .i64 0) := (blk_cell BK341.out 1).trans rfl
               have hcz53_2 : w49.cell? ⟨gb341, 2, none⟩ = some (.int .i64 0) := (blk_cell BK341.out 2).trans rfl
               have hcz53_3 : w49.cell? ⟨gb341, 3, none⟩ = some (.int .i64 0) := (blk_cell BK341.out 3).trans rfl
               have hcz53_4 : w49.cell? ⟨gb341, 4, none⟩ = some (.int .i64 0) := (blk_cell BK341.out 4).trans rfl
               have hcz53_5 : w49.cell? ⟨gb341, 5, none⟩ = some (.int .u8 0) := (blk_cell BK341.out 5).trans rfl
               have hfz53_0 := blk_frozen BK341.out 0
               have hfz53_1 := blk_frozen BK341.out 1
               have hfz53_2 := blk_frozen BK341.out 2
               have hfz53_3 := blk_frozen BK341.out 3
               have hfz53_4 := blk_frozen BK341.out 4
               have hfz53_5 := blk_frozen BK341.out 5
               go_wp2
               go_meet
               case rel => exact ⟨_, (true), (by first | rfl | (simp; done) | (simp [*]; done)), H', ⟨by have := HJ6.out; have := HK2.out; have := HK3.out; first | omega | exact Nat.le_refl _⟩, ⟨by (with_reducible repeat (first | apply Kd.R_alloc | apply Kd.R_drewN | apply Kd.R_drew)); exact Kd.R_mono (Kd.R_far (p := ⟨gb341, 5, none⟩) (Kd.R_far (p := ⟨gb341, 4, none⟩) (Kd.R_far (p := ⟨gb341, 3, none⟩) (Kd.R_far (p := ⟨gb341, 2, none⟩) (Kd.R_far (p := ⟨gb341, 1, none⟩) (Kd.R_far (p := ⟨gb341, 0, none⟩) (Kd.R_mono HO_10.out (fun k_ hk => (⟨hk, hk.2⟩ : _ ∧ k_ ≠ gb341))) (fun _ hk => hk.2) (.int .i64 ((rd_T41 t329 x107_3).f0))) (fun _ hk => hk.2) (.int .i64 ((rd_T41 t329 x107_3).f1))) (fun _ hk => hk.2) (.int .i64 ((rd_T41 t329 x107_3).f2))) (fun _ hk => hk.2) (.int .i64 ((rd_T41 t329 x107_3).f3))) (fun _ hk => hk.2) (.int .i64 ((rd_T41 t329 x107_3).f4))) (fun _ hk => hk.2) (.int .u8 ((rd_T41 t329 x107_3).f5))) (fun _ hk => hk.1.2)⟩, ⟨by (with_reducible repeat (first | apply Kd.R_alloc | apply Kd.R_drewN | apply Kd.R_drew)); exact Kd.R_mono (Kd.R_far (p := ⟨gb341, 5, none⟩) (Kd.R_far (p := ⟨gb341, 4, none⟩) (Kd.R_far (p := ⟨gb341, 3, none⟩) (Kd.R_far (p := ⟨gb341, 2, none⟩) (Kd.R_far (p := ⟨gb341, 1, none⟩) (Kd.R_far (p := ⟨gb341, 0, none⟩) (Kd.R_mono HO_105.out (fun k_ hk => (⟨hk, hk.2⟩ : _ ∧ k_ ≠ gb341))) (fun _ hk => hk.2) (.int .i64 ((rd_T41 t329 x107_3).f0))) (fun _ hk => hk.2) (.int .i64 ((rd_T41 t329 x107_3).f1))) (fun _ hk => hk.2) (.int .i64 ((rd_T41 t329 x107_3).f2))) (fun _ hk => hk.2) (.int .i64 ((rd_T41 t329 x107_3).f3))) (fun _ hk => hk.2) (.int .i64 ((rd_T41 t329 x107_3).f4))) (fun _ hk => hk.2) (.int .u8 ((rd_T41 t329 x107_3).f5))) (fun _ hk => hk.1.2)⟩, ⟨by (with_reducible repeat (first | refine blk_drewN ?_ _ | refine blk_drew ?_ | refine blk_alloc ?_ _)); refine blk_put (cs := #[.int .i64 ((rd_T41 t329 x107_3).f0), .int .i64 ((rd_T41 t329 x107_3).f1), .int .i64 ((rd_T41 t329 x107_3).f2), .int .i64 ((rd_T41 t329 x107_3).f3), .int .i64 ((rd_T41 t329 x107_3).f4), .int .u8 0]) ?_ 5 _ rfl; (with_reducible repeat (first | refine blk_drewN ?_ _ | refine blk_drew ?_ | refine blk_alloc ?_ _)); refine blk_put (cs := #[.int .i64 ((rd_T41 t329 x107_3).f0), .int .i64 ((rd_T41 t329 x107_3).f1), .int .i64 ((rd_T41 t329 x107_3).f2), .int .i64 ((rd_T41 t329 x107_3).f3), .int .i64 0, .int .u8 0]) ?_ 4 _ rfl; (with_reducible repeat (first | refine blk_drewN ?_ _ | refine blk_drew ?_ | refine blk_alloc ?_ _)); refine blk_put (cs := #[.int .i64 ((rd_T41 t329 x107_3).f0), .int .i64 ((rd_T41 t329 x107_3).f1), .int .i64 ((rd_T41 t329 x107_3).f2), .int .i64 0, .int .i64 0, .int .u8 0]) ?_ 3 _ rfl; (with_reducible repeat (first | refine blk_drewN ?_ _ | refine blk_drew ?_ | refine blk_alloc ?_ _)); refine blk_put (cs := #[.int .i64 ((rd_T41 t329 x107_3).f0), .int .i64 ((rd_T41 t329 x107_3).f1), .int .i64 0, .int .i64 0, .int .i64 0, .int .u8 0]) ?_ 2 _ rfl; (with_reducible repeat (first | refine blk_drewN ?_ _ | refine blk_drew ?_ | refine blk_alloc ?_ _)); refine blk_put (cs := #[.int .i64 ((rd_T41 t329 x107_3).f0), .int .i64 0, .int .i64 0, .int .i64 0, .int .i64 0, .int .u8 0]) ?_ 1 _ rfl; (with_reducible repeat (first | refine blk_drewN ?_ _ | refine blk_drew ?_ | refine blk_alloc ?_ _)); refine blk_put (cs := #[.int .i64 0, .int .i64 0, .int .i64 0, .int .i64 0, .int .i64 0, .int .u8 0]) ?_ 0 _ rfl; (with_reducible repeat (first | refine blk_drewN ?_ _ | refine blk_drew ?_ | refine blk_alloc ?_ _)); exact BK341.out⟩, ⟨by repeat (first | (with_reducible first | exact HB.out | apply below_alloc | apply pw_below_drewN | apply below_drew1 | refine below_set ?_ GE341.out) | exact HB.out)⟩⟩
              ·rw [if_neg c52] at H
               have c52b0 : decide ((Int.tmod (wrap64 (a2)) 110) < ((rd_T41 t329 x107_3).f3)) = false := decide_eq_false c52
               clear c52
               by_cases c54 : ((rd_T41 t329 x107_3).f5) = 1
               ·rw [if_pos c54] at H
                have c54b0 : (((rd_T41 t329 x107_3).f5) == 1) = true := beq_iff_eq.mpr c54
                have c54b1 : (((rd_T41 t329 x107_3).f5) != 1) = false := bne_eq_false_iff_eq.mpr c54
                clear c54
                have H' := Aside0.mk H
                clear H
                have hcz55_0 : w49.cell? ⟨gb341, 0, none⟩ = some (.int .i64 0) := (blk_cell BK341.out 0).trans rfl
                have hcz55_1 : w49.cell? ⟨gb341, 1, none⟩ = some (.int .i64 0) := (blk_cell BK341.out 1).trans rfl
                have hcz55_2 : w49.cell? ⟨gb341, 2, none⟩ = some (.int .i64 0) := (blk_cell BK341.out 2).trans rfl
                have hcz55_3 : w49.cell? ⟨gb341, 3, none⟩ = some (.int .i64 0) := (blk_cell BK341.out 3).trans rfl
                have hcz55_4 : w49.cell? ⟨gb341, 4, none⟩ = some (.int .i64 0) := (blk_cell BK341.out 4).trans rfl
                have hcz55_5 : w49.cell? ⟨gb341, 5, none⟩ = some (.int .u8 0) := (blk_cell BK341.out 5).trans rfl
                have hfz55_0 := blk_frozen BK341.out 0
                have hfz55_1 := blk_frozen BK341.out 1
                have hfz55_2 := blk_frozen BK341.out 2
                have hfz55_3 := blk_frozen BK341.out 3
                have hfz55_4 := blk_frozen BK341.out 4
                have hfz55_5 := blk_frozen BK341.out 5
                go_wp2
                go_meet
                case rel => exact ⟨_, (false), (by first | rfl | (simp; done) | (simp [*]; done)), H', ⟨by have := HJ6.out; have := HK2.out; have := HK3.out; first | omega | exact Nat.le_refl _⟩, ⟨by (with_reducible repeat (first | apply Kd.R_alloc | apply Kd.R_drewN | apply Kd.R_drew)); exact Kd.R_mono (Kd.R_far (p := ⟨gb341, 5, none⟩) (Kd.R_far (p := ⟨gb341, 4, none⟩) (Kd.R_far (p := ⟨gb341, 3, none⟩) (Kd.R_far (p := ⟨gb341, 2, none⟩) (Kd.R_far (p := ⟨gb341, 1, none⟩) (Kd.R_far (p := ⟨gb341, 0, none⟩) (Kd.R_mono HO_10.out (fun k_ hk => (⟨hk, hk.2⟩ : _ ∧ k_ ≠ gb341))) (fun _ hk => hk.2) (.int .i64 ((rd_T41 t329 x107_3).f0))) (fun _ hk => hk.2) (.int .i64 ((rd_T41 t329 x107_3).f1))) (fun _ hk => hk.2) (.int .i64 ((rd_T41 t329 x107_3).f2))) (fun _ hk => hk.2) (.int .i64 ((rd_T41 t329 x107_3).f3))) (fun _ hk => hk.2) (.int .i64 ((rd_T41 t329 x107_3).f4))) (fun _ hk => hk.2) (.int .u8 ((rd_T41 t329 x107_3).f5))) (fun _ hk => hk.1.2)⟩, ⟨by (with_reducible repeat (first | apply Kd.R_alloc | apply Kd.R_drewN | apply Kd.R_drew)); exact Kd.R_mono (Kd.R_far (p := ⟨gb341, 5, none⟩) (Kd.R_far (p := ⟨gb341, 4, none⟩) (Kd.R_far (p := ⟨gb341, 3, none⟩) (Kd.R_far (p := ⟨gb341, 2, none⟩) (Kd.R_far (p := ⟨gb341, 1, none⟩) (Kd.R_far (p := ⟨gb341, 0, none⟩) (Kd.R_mono HO_105.out (fun k_ hk => (⟨hk, hk.2⟩ : _ ∧ k_ ≠ gb341))) (fun _ hk => hk.2) (.int .i64 ((rd_T41 t329 x107_3).f0))) (fun _ hk => hk.2) (.int .i64 ((rd_T41 t329 x107_3).f1))) (fun _ hk => hk.2) (.int .i64 ((rd_T41 t329 x107_3).f2))) (fun _ hk => hk.2) (.int .i64 ((rd_T41 t329 x107_3).f3))) (fun _ hk => hk.2) (.int .i64 ((rd_T41 t329 x107_3).f4))) (fun _ hk => hk.2) (.int .u8 ((rd_T41 t329 x107_3).f5))) (fun _ hk => hk.1.2)⟩, ⟨by (with_reducible repeat (first | refine blk_drewN ?_ _ | refine blk_drew ?_ | refine blk_alloc ?_ _)); refine blk_put (cs := #[.int .i64 ((rd_T41 t329 x107_3).f0), .int .i64 ((rd_T41 t329 x107_3).f1), .int .i64 ((rd_T41 t329 x107_3).f2), .int .i64 ((rd_T41 t329 x107_3).f3), .int .i64 ((rd_T41 t329 x107_3).f4), .int .u8 0]) ?_ 5 _ rfl; (with_reducible repeat (first | refine blk_drewN ?_ _ | refine blk_drew ?_ | refine blk_alloc ?_ _)); refine blk_put (cs := #[.int .i64 ((rd_T41 t329 x107_3).f0), .int .i64 ((rd_T41 t329 x107_3).f1), .int .i64 ((rd_T41 t329 x107_3).f2), .int .i64 ((rd_T41 t329 x107_3).f3), .int .i64 0, .int .u8 0]) ?_ 4 _ rfl; (with_reducible repeat (first | refine blk_drewN ?_ _ | refine blk_drew ?_ | refine blk_alloc ?_ _)); refine blk_put (cs := #[.int .i64 ((rd_T41 t329 x107_3).f0), .int .i64 ((rd_T41 t329 x107_3).f1), .int .i64 ((rd_T41 t329 x107_3).f2), .int .i64 0, .int .i64 0, .int .u8 0]) ?_ 3 _ rfl; (with_reducible repeat (first | refine blk_drewN ?_ _ | refine blk_drew ?_ | refine blk_alloc ?_ _)); refine blk_put (cs := #[.int .i64 ((rd_T41 t329 x107_3).f0), .int .i64 ((rd_T41 t329 x107_3).f1), .int .i64 0, .int .i64 0, .int .i64 0, .int .u8 0]) ?_ 2 _ rfl; (with_reducible repeat (first | refine blk_drewN ?_ _ | refine blk_drew ?_ | refine blk_alloc ?_ _)); refine blk_put (cs := #[.int .i64 ((rd_T41 t329 x107_3).f0), .int .i64 0, .int .i64 0, .int .i64 0, .int .i64 0, .int .u8 0]) ?_ 1 _ rfl; (with_reducible repeat (first | refine blk_drewN ?_ _ | refine blk_drew ?_ | refine blk_alloc ?_ _)); refine blk_put (cs := #[.int .i64 0, .int .i64 0, .int .i64 0, .int .i64 0, .int .i64 0, .int .u8 0]) ?_ 0 _ rfl; (with_reducible repeat (first | refine blk_drewN ?_ _ | refine blk_drew ?_ | refine blk_alloc ?_ _)); exact BK341.out⟩, ⟨by repeat (first | (with_reducible first | exact HB.out | apply below_alloc | apply pw_below_drewN | apply below_drew1 | refine below_set ?_ GE341.out) | exact HB.out)⟩⟩
               ·rw [if_neg c54] at H
                have c54b0 : (((rd_T41 t329 x107_3).f5) == 1) = false := beq_eq_false_iff_ne.mpr c54
                have c54b1 : (((rd_T41 t329 x107_3).f5) != 1) = true := bne_iff_ne.mpr c54
                have H' := Aside0.mk H
                clear H
                have hcz56_0 : w49.cell? ⟨gb341, 0, none⟩ = some (.int .i64 0) := (blk_cell BK341.out 0).trans rfl
                have hcz56_1 : w49.cell? ⟨gb341, 1, none⟩ = some (.int .i64 0) := (blk_cell BK341.out 1).trans rfl
                have hcz56_2 : w49.cell? ⟨gb341, 2, none⟩ = some (.int .i64 0) := (blk_cell BK341.out 2).trans rfl
                have hcz56_3 : w49.cell? ⟨gb341, 3, none⟩ = some (.int .i64 0) := (blk_cell BK341.out 3).trans rfl
                have hcz56_4 : w49.cell? ⟨gb341, 4, none⟩ = some (.int .i64 0) := (blk_cell BK341.out 4).trans rfl
                have hcz56_5 : w49.cell? ⟨gb341, 5, none⟩ = some (.int .u8 0) := (blk_cell BK341.out 5).trans rfl
                have hfz56_0 := blk_frozen BK341.out 0
                have hfz56_1 := blk_frozen BK341.out 1
                have hfz56_2 := blk_frozen BK341.out 2
                have hfz56_3 := blk_frozen BK341.out 3
                have hfz56_4 := blk_frozen BK341.out 4
                have hfz56_5 := blk_frozen BK341.out 5
                go_wp2
                go_meet
                case rel => exact ⟨_, (decide ((Int.tmod (wrap64 (a2)) 110) > ((rd_T41 t329 x107_3).f4))), (by first | rfl | (simp; done) | (simp [*]; done)), H', ⟨by have := HJ6.out; have := HK2.out; have := HK3.out; first | omega | exact Nat.le_refl _⟩, ⟨by (with_reducible repeat (first | apply Kd.R_alloc | apply Kd.R_drewN | apply Kd.R_drew)); exact Kd.R_mono (Kd.R_far (p := ⟨gb341, 5, none⟩) (Kd.R_far (p := ⟨gb341, 4, none⟩) (Kd.R_far (p := ⟨gb341, 3, none⟩) (Kd.R_far (p := ⟨gb341, 2, none⟩) (Kd.R_far (p := ⟨gb341, 1, none⟩) (Kd.R_far (p := ⟨gb341, 0, none⟩) (Kd.R_mono HO_10.out (fun k_ hk => (⟨hk, hk.2⟩ : _ ∧ k_ ≠ gb341))) (fun _ hk => hk.2) (.int .i64 ((rd_T41 t329 x107_3).f0))) (fun _ hk => hk.2) (.int .i64 ((rd_T41 t329 x107_3).f1))) (fun _ hk => hk.2) (.int .i64 ((rd_T41 t329 x107_3).f2))) (fun _ hk => hk.2) (.int .i64 ((rd_T41 t329 x107_3).f3))) (fun _ hk => hk.2) (.int .i64 ((rd_T41 t329 x107_3).f4))) (fun _ hk => hk.2) (.int .u8 ((rd_T41 t329 x107_3).f5))) (fun _ hk => hk.1.2)⟩, ⟨by (with_reducible repeat (first | apply Kd.R_alloc | apply Kd.R_drewN | apply Kd.R_drew)); exact Kd.R_mono (Kd.R_far (p := ⟨gb341, 5, none⟩) (Kd.R_far (p := ⟨gb341, 4, none⟩) (Kd.R_far (p := ⟨gb341, 3, none⟩) (Kd.R_far (p := ⟨gb341, 2, none⟩) (Kd.R_far (p := ⟨gb341, 1, none⟩) (Kd.R_far (p := ⟨gb341, 0, none⟩) (Kd.R_mono HO_105.out (fun k_ hk => (⟨hk, hk.2⟩ : _ ∧ k_ ≠ gb341))) (fun _ hk => hk.2) (.int .i64 ((rd_T41 t329 x107_3).f0))) (fun _ hk => hk.2) (.int .i64 ((rd_T41 t329 x107_3).f1))) (fun _ hk => hk.2) (.int .i64 ((rd_T41 t329 x107_3).f2))) (fun _ hk => hk.2) (.int .i64 ((rd_T41 t329 x107_3).f3))) (fun _ hk => hk.2) (.int .i64 ((rd_T41 t329 x107_3).f4))) (fun _ hk => hk.2) (.int .u8 ((rd_T41 t329 x107_3).f5))) (fun _ hk => hk.1.2)⟩, ⟨by (with_reducible repeat (first | refine blk_drewN ?_ _ | refine blk_drew ?_ | refine blk_alloc ?_ _)); refine blk_put (cs := #[.int .i64 ((rd_T41 t329 x107_3).f0), .int .i64 ((rd_T41 t329 x107_3).f1), .int .i64 ((rd_T41 t329 x107_3).f2), .int .i64 ((rd_T41 t329 x107_3).f3), .int .i64 ((rd_T41 t329 x107_3).f4), .int .u8 0]) ?_ 5 _ rfl; (with_reducible repeat (first | refine blk_drewN ?_ _ | refine blk_drew ?_ | refine blk_alloc ?_ _)); refine blk_put (cs := #[.int .i64 ((rd_T41 t329 x107_3).f0), .int .i64 ((rd_T41 t329 x107_3).f1), .int .i64 ((rd_T41 t329 x107_3).f2), .int .i64 ((rd_T41 t329 x107_3).f3), .int .i64 0, .int .u8 0]) ?_ 4 _ rfl; (with_reducible repeat (first | refine blk_drewN ?_ _ | refine blk_drew ?_ | refine blk_alloc ?_ _)); refine blk_put (cs := #[.int .i64 ((rd_T41 t329 x107_3).f0), .int .i64 ((rd_T41 t329 x107_3).f1), .int .i64 ((rd_T41 t329 x107_3).f2), .int .i64 0, .int .i64 0, .int .u8 0]) ?_ 3 _ rfl; (with_reducible repeat (first | refine blk_drewN ?_ _ | refine blk_drew ?_ | refine blk_alloc ?_ _)); refine blk_put (cs := #[.int .i64 ((rd_T41 t329 x107_3).f0), .int .i64 ((rd_T41 t329 x107_3).f1), .int .i64 0, .int .i64 0, .int .i64 0, .int .u8 0]) ?_ 2 _ rfl; (with_reducible repeat (first | refine blk_drewN ?_ _ | refine blk_drew ?_ | refine blk_alloc ?_ _)); refine blk_put (cs := #[.int .i64 ((rd_T41 t329 x107_3).f0), .int .i64 0, .int .i64 0, .int .i64 0, .int .i64 0, .int .u8 0]) ?_ 1 _ rfl; (with_reducible repeat (first | refine blk_drewN ?_ _ | refine blk_drew ?_ | refine blk_alloc ?_ _)); refine blk_put (cs := #[.int .i64 0, .int .i64 0, .int .i64 0, .int .i64 0, .int .i64 0, .int .u8 0]) ?_ 0 _ rfl; (with_reducible repeat (first | refine blk_drewN ?_ _ | refine blk_drew ?_ | refine blk_alloc ?_ _)); exact BK341.out⟩, ⟨by repeat (first | (with_reducible first | exact HB.out | apply below_alloc | apply pw_below_drewN | apply below_drew1 | refine below_set ?_ GE341.out) | exact HB.out)⟩⟩
             ·rw [if_neg c51] at H
              have c51b0 : (((rd_T41 t329 x107_3).f1) == (wrap64 (1 + (Int.tmod (wrap64 (a1)) 6)))) = false := beq_eq_false_iff_ne.mpr c51
              have c51b1 : (((rd_T41 t329 x107_3).f1) != (wrap64 (1 + (Int.tmod (wrap64 (a1)) 6)))) = true := bne_iff_ne.mpr c51
              (first | rw [c51b0] | (simp only [i64_w, i32_w]; rw [c51b0]) | skip)
              have H' := Aside0.mk H
              clear H
              have hcz57_0 : w49.cell? ⟨gb341, 0, none⟩ = some (.int .i64 0) := (blk_cell BK341.out 0).trans rfl
              have hcz57_1 : w49.cell? ⟨gb341, 1, none⟩ = some (.int .i64 0) := (blk_cell BK341.out 1).trans rfl
              have hcz57_2 : w49.cell? ⟨gb341, 2, none⟩ = some (.int .i64 0) := (blk_cell BK341.out 2).trans rfl
              have hcz57_3 : w49.cell? ⟨gb341, 3, none⟩ = some (.int .i64 0) := (blk_cell BK341.out 3).trans rfl
              have hcz57_4 : w49.cell? ⟨gb341, 4, none⟩ = some (.int .i64 0) := (blk_cell BK341.out 4).trans rfl
              have hcz57_5 : w49.cell? ⟨gb341, 5, none⟩ = some (.int .u8 0) := (blk_cell BK341.out 5).trans rfl
              have hfz57_0 := blk_frozen BK341.out 0
              have hfz57_1 := blk_frozen BK341.out 1
              have hfz57_2 := blk_frozen BK341.out 2
              have hfz57_3 := blk_frozen BK341.out 3
              have hfz57_4 := blk_frozen BK341.out 4
              have hfz57_5 := blk_frozen BK341.out 5
              go_wp2
              go_meet
              case rel => exact ⟨_, (true), (by first | rfl | (simp; done) | (simp [*]; done)), H', ⟨by have := HJ6.out; have := HK2.out; have := HK3.out; first | omega | exact Nat.le_refl _⟩, ⟨by (with_reducible repeat (first | apply Kd.R_alloc | apply Kd.R_drewN | apply Kd.R_drew)); exact Kd.R_mono (Kd.R_far (p := ⟨gb341, 5, none⟩) (Kd.R_far (p := ⟨gb341, 4, none⟩) (Kd.R_far (p := ⟨gb341, 3, none⟩) (Kd.R_far (p := ⟨gb341, 2, none⟩) (Kd.R_far (p := ⟨gb341, 1, none⟩) (Kd.R_far (p := ⟨gb341, 0, none⟩) (Kd.R_mono HO_10.out (fun k_ hk => (⟨hk, hk.2⟩ : _ ∧ k_ ≠ gb341))) (fun _ hk => hk.2) (.int .i64 ((rd_T41 t329 x107_3).f0))) (fun _ hk => hk.2) (.int .i64 ((rd_T41 t329 x107_3).f1))) (fun _ hk => hk.2) (.int .i64 ((rd_T41 t329 x107_3).f2))) (fun _ hk => hk.2) (.int .i64 ((rd_T41 t329 x107_3).f3))) (fun _ hk => hk.2) (.int .i64 ((rd_T41 t329 x107_3).f4))) (fun _ hk => hk.2) (.int .u8 ((rd_T41 t329 x107_3).f5))) (fun _ hk => hk.1.2)⟩, ⟨by (with_reducible repeat (first | apply Kd.R_alloc | apply Kd.R_drewN | apply Kd.R_drew)); exact Kd.R_mono (Kd.R_far (p := ⟨gb341, 5, none⟩) (Kd.R_far (p := ⟨gb341, 4, none⟩) (Kd.R_far (p := ⟨gb341, 3, none⟩) (Kd.R_far (p := ⟨gb341, 2, none⟩) (Kd.R_far (p := ⟨gb341, 1, none⟩) (Kd.R_far (p := ⟨gb341, 0, none⟩) (Kd.R_mono HO_105.out (fun k_ hk => (⟨hk, hk.2⟩ : _ ∧ k_ ≠ gb341))) (fun _ hk => hk.2) (.int .i64 ((rd_T41 t329 x107_3).f0))) (fun _ hk => hk.2) (.int .i64 ((rd_T41 t329 x107_3).f1))) (fun _ hk => hk.2) (.int .i64 ((rd_T41 t329 x107_3).f2))) (fun _ hk => hk.2) (.int .i64 ((rd_T41 t329 x107_3).f3))) (fun _ hk => hk.2) (.int .i64 ((rd_T41 t329 x107_3).f4))) (fun _ hk => hk.2) (.int .u8 ((rd_T41 t329 x107_3).f5))) (fun _ hk => hk.1.2)⟩, ⟨by (with_reducible repeat (first | refine blk_drewN ?_ _ | refine blk_drew ?_ | refine blk_alloc ?_ _)); refine blk_put (cs := #[.int .i64 ((rd_T41 t329 x107_3).f0), .int .i64 ((rd_T41 t329 x107_3).f1), .int .i64 ((rd_T41 t329 x107_3).f2), .int .i64 ((rd_T41 t329 x107_3).f3), .int .i64 ((rd_T41 t329 x107_3).f4), .int .u8 0]) ?_ 5 _ rfl; (with_reducible repeat (first | refine blk_drewN ?_ _ | refine blk_drew ?_ | refine blk_alloc ?_ _)); refine blk_put (cs := #[.int .i64 ((rd_T41 t329 x107_3).f0), .int .i64 ((rd_T41 t329 x107_3).f1), .int .i64 ((rd_T41 t329 x107_3).f2), .int .i64 ((rd_T41 t329 x107_3).f3), .int .i64 0, .int .u8 0]) ?_ 4 _ rfl; (with_reducible repeat (first | refine blk_drewN ?_ _ | refine blk_drew ?_ | refine blk_alloc ?_ _)); refine blk_put (cs := #[.int .i64 ((rd_T41 t329 x107_3).f0), .int .i64 ((rd_T41 t329 x107_3).f1), .int .i64 ((rd_T41 t329 x107_3).f2), .int .i64 0, .int .i64 0, .int .u8 0]) ?_ 3 _ rfl; (with_reducible repeat (first | refine blk_drewN ?_ _ | refine blk_drew ?_ | refine blk_alloc ?_ _)); refine blk_put (cs := #[.int .i64 ((rd_T41 t329 x107_3).f0), .int .i64 ((rd_T41 t329 x107_3).f1), .int .i64 0, .int .i64 0, .int .i64 0, .int .u8 0]) ?_ 2 _ rfl; (with_reducible repeat (first | refine blk_drewN ?_ _ | refine blk_drew ?_ | refine blk_alloc ?_ _)); refine blk_put (cs := #[.int .i64 ((rd_T41 t329 x107_3).f0), .int .i64 0, .int .i64 0, .int .i64 0, .int .i64 0, .int .u8 0]) ?_ 1 _ rfl; (with_reducible repeat (first | refine blk_drewN ?_ _ | refine blk_drew ?_ | refine blk_alloc ?_ _)); refine blk_put (cs := #[.int .i64 0, .int .i64 0, .int .i64 0, .int .i64 0, .int .i64 0, .int .u8 0]) ?_ 0 _ rfl; (with_reducible repeat (first | refine blk_drewN ?_ _ | refine blk_drew ?_ | refine blk_alloc ?_ _)); exact BK341.out⟩, ⟨by repeat (first | (with_reducible first | exact HB.out | apply below_alloc | apply pw_below_drewN | apply below_drew1 | refine below_set ?_ GE341.out) | exact HB.out)⟩⟩
            case rest =>
             clear HC48
             try clear c1
             try clear c2
             try clear p2
             try clear c3
             try clear p3
             try clear q3
             try clear hx3
             try clear qi3
             try clear c4
             try clear c5
             try clear p6
             try clear c12
             try clear c12b0
             try clear c12b1
             try clear c13
             try clear c15
             try clear c16
             try clear c16b0
             try clear c16b1
             try clear c16b2
             try clear c19
             try clear c19b0
             try clear c19b1
             try clear c20
             try clear c20b0
             try clear c20b1
             try clear c26
             try clear c27
             try clear c27b0
             try clear c28
             try clear c28b0
             try clear c29
             try clear c29b0
             try clear c30
             try clear c30b0
             try clear c30b1
             try clear c31
             try clear c31b0
             try clear c32
             try clear c32b0
             try clear c32b1
             try clear p33
             try clear q33
             try clear hx33
             try clear qi33
             try clear p34
             try clear q34
             try clear hx34
             try clear c35
             try clear c35b0
             try clear c45
             try clear c45b0
             try clear c46
             try clear c46b0
             try clear c47
             try clear c47b0
             try clear c51
             try clear c51b0
             try clear c51b1
             try clear c52
             try clear c52b0
             try clear c54
             try clear c54b0
             try clear c54b1
             try clear hcz34_0
             try clear hcz34_1
             try clear hcz34_2
             try clear hcz34_3
             try clear hcz34_4
             try clear hcz34_5
             try clear hcz37_0
             try clear hcz37_1
             try clear hcz37_2
             try clear hcz37_3
             try clear hcz37_4
             try clear hcz37_5
             try clear hcz39_0
             try clear hcz39_1
             try clear hcz39_2
             try clear hcz39_3
             try clear hcz39_4
             try clear hcz39_5
             try clear hcz41_0
             try clear hcz41_1
             try clear hcz41_2
             try clear hcz41_3
             try clear hcz41_4
             try clear hcz41_5
             try clear hcz43_0
             try clear hcz43_1
             try clear hcz43_2
             try clear hcz43_3
             try clear hcz43_4
             try clear hcz43_5
             try clear hcz50_0
             try clear hcz50_1
             try clear hcz50_2
             try clear hcz50_3
             try clear hcz50_4
             try clear hcz50_5
             try clear hcz53_0
             try clear hcz53_1
             try clear hcz53_2
             try clear hcz53_3
             try clear hcz53_4
             try clear hcz53_5
             try clear hcz55_0
             try clear hcz55_1
             try clear hcz55_2
             try clear hcz55_3
             try clear hcz55_4
             try clear hcz55_5
             try clear hcz56_0
             try clear hcz56_1
             try clear hcz56_2
             try clear hcz56_3
             try clear hcz56_4
             try clear hcz56_5
             try clear hcz57_0
             try clear hcz57_1
             try clear hcz57_2
             try clear hcz57_3
             try clear hcz57_4
             try clear hcz57_5
             try clear hfz34_0
             try clear hfz34_1
             try clear hfz34_2
             try clear hfz34_3
             try clear hfz34_4
             try clear hfz34_5
             try clear hfz37_0
             try clear hfz37_1
             try clear hfz37_2
             try clear hfz37_3
             try clear hfz37_4
             try clear hfz37_5
             try clear hfz39_0
             try clear hfz39_1
             try clear hfz39_2
             try clear hfz39_3
             try clear hfz39_4
             try clear hfz39_5
             try clear hfz41_0
             try clear hfz41_1
             try clear hfz41_2
             try clear hfz41_3
             try clear hfz41_4
             try clear hfz41_5
             try clear hfz43_0
             try clear hfz43_1
             try clear hfz43_2
             try clear hfz43_3
             try clear hfz43_4
             try clear hfz43_5
             try clear hfz50_0
             try clear hfz50_1
             try clear hfz50_2
             try clear hfz50_3
             try clear hfz50_4
             try clear hfz50_5
             try clear hfz53_0
             try clear hfz53_1
             try clear hfz53_2
             try clear hfz53_3
             try clear hfz53_4
             try clear hfz53_5
             try clear hfz55_0
             try clear hfz55_1
             try clear hfz55_2
             try clear hfz55_3
             try clear hfz55_4
             try clear hfz55_5
             try clear hfz56_0
             try clear hfz56_1
             try clear hfz56_2
             try clear hfz56_3
             try clear hfz56_4
             try clear hfz56_5
             try clear hfz57_0
             try clear hfz57_1
             try clear hfz57_2
             try clear hfz57_3
             try clear hfz57_4
             try clear hfz57_5
             try clear hx336_0
             try clear hx336_1
             try clear hx336_2
             try clear hx336_3
             try clear hx336_4
             try clear hx336_5
             try clear hx337_0
             try clear hx337_1
             try clear hx337_2
             try clear hx337_3
             try clear hx337_4
             try clear hx337_5
             try clear hx340_0
             try clear hx340_1
             try clear hx340_2
             try clear hx340_3
             try clear hx340_4
             try clear hx340_5
             try clear p2
             try clear p3
             try clear p33
             try clear p336
             try clear p337
             try clear p340
             try clear p6
             try clear q3
             try clear q33
             try clear q336
             try clear q337
             try clear q340
             obtain ⟨kq, x132_47, rfl, HA, HJ47, HO_10, HO_105, BK341, HB⟩ := hcut
             cases kq with
             | zero => exact absurd HA.out (by simp [letterbaglaw35_OrderRules.j3])
             | succ kj47 =>
              have H := HA.out
              clear HA
              simp only [letterbaglaw35_OrderRules.j3] at H
              by_cases c58 : x132_47 = true
              ·subst c58
               have H1 : (some false) = some r := by rw [if_pos rfl] at H; exact H
               clear H
               have H := H1
               clear H1
               obtain rfl := Option.some.inj H
               go_wp2
               go_ret
               exact ⟨by first | rfl | (simp [errW_none, errW_some] <;> rfl) | (simp [*, errW_none, errW_some] <;> rfl), by repeat (first | (with_reducible first | exact HB.out | apply below_alloc | apply pw_below_drewN | apply below_drew1 | refine below_set ?_ GE341.out) | exact HB.out)⟩
              ·replace c58 := Bool.eq_false_iff.mpr c58
               subst c58
               have H1 : (if x107_3 = 0 then (letterbaglaw35_OrderRules.l1 kj47 (wrap64 (1 + (Int.tmod (wrap64 (a1)) 6))) (Int.tmod (wrap64 (a2)) 110) t329 x14_2 t329 (t329.length : Int) (wrap64 (x107_3 + 1))) else (if 0 ≤ (wrap64 (x107_3 - 1)) then (if (wrap64 (x107_3 - 1)) < (t329.length : Int) then (if ((rd_T41 t329 (wrap64 (x107_3 - 1))).f5) = ((rd_T41 t329 x107_3).f5) then (letterbaglaw35_OrderRules.j4 kj47 (wrap64 (1 + (Int.tmod (wrap64 (a1)) 6))) (Int.tmod (wrap64 (a2)) 110) t329 x14_2 t329 (t329.length : Int) x107_3 false ((rd_T41 t329 x107_3).f0) ((rd_T41 t329 x107_3).f1) ((rd_T41 t329 x107_3).f2) ((rd_T41 t329 x107_3).f3) ((rd_T41 t329 x107_3).f4) ((rd_T41 t329 x107_3).f5) ((rd_T41 t329 (wrap64 (x107_3 - 1))).f0) ((rd_T41 t329 (wrap64 (x107_3 - 1))).f1) ((rd_T41 t329 (wrap64 (x107_3 - 1))).f2) ((rd_T41 t329 (wrap64 (x107_3 - 1))).f3) ((rd_T41 t329 (wrap64 (x107_3 - 1))).f4) ((rd_T41 t329 (wrap64 (x107_3 - 1))).f5)) else (if ((rd_T41 t329 (wrap64 (x107_3 - 1))).f5) = 3 then (letterbaglaw35_OrderRules.j4 kj47 (wrap64 (1 + (Int.tmod (wrap64 (a1)) 6))) (Int.tmod (wrap64 (a2)) 110) t329 x14_2 t329 (t329.length : Int) x107_3 true ((rd_T41 t329 x107_3).f0) ((rd_T41 t329 x107_3).f1) ((rd_T41 t329 x107_3).f2) ((rd_T41 t329 x107_3).f3) ((rd_T41 t329 x107_3).f4) ((rd_T41 t329 x107_3).f5) ((rd_T41 t329 (wrap64 (x107_3 - 1))).f0) ((rd_T41 t329 (wrap64 (x107_3 - 1))).f1) ((rd_T41 t329 (wrap64 (x107_3 - 1))).f2) ((rd_T41 t329 (wrap64 (x107_3 - 1))).f3) ((rd_T41 t329 (wrap64 (x107_3 - 1))).f4) ((rd_T41 t329 (wrap64 (x107_3 - 1))).f5)) else (letterbaglaw35_OrderRules.j4 kj47 (wrap64 (1 + (Int.tmod (wrap64 (a1)) 6))) (Int.tmod (wrap64 (a2)) 110) t329 x14_2 t329 (t329.length : Int) x107_3 (((rd_T41 t329 x107_3).f5) == 3) ((rd_T41 t329 x107_3).f0) ((rd_T41 t329 x107_3).f1) ((rd_T41 t329 x107_3).f2) ((rd_T41 t329 x107_3).f3) ((rd_T41 t329 x107_3).f4) ((rd_T41 t329 x107_3).f5) ((rd_T41 t329 (wrap64 (x107_3 - 1))).f0) ((rd_T41 t329 (wrap64 (x107_3 - 1))).f1) ((rd_T41 t329 (wrap64 (x107_3 - 1))).f2) ((rd_T41 t329 (wrap64 (x107_3 - 1))).f3) ((rd_T41 t329 (wrap64 (x107_3 - 1))).f4) ((rd_T41 t329 (wrap64 (x107_3 - 1))).f5)))) else (none)) else (none))) = some r := by rw [if_neg (show ¬ (false = true) by decide)] at H; exact H
               clear H
               have H := H1
               clear H1
               by_cases c59 : x107_3 = 0
               ·rw [if_pos c59] at H
                have c59b0 : (x107_3 == 0) = true := beq_iff_eq.mpr c59
                have c59b1 : (x107_3 != 0) = false := bne_eq_false_iff_eq.mpr c59
                clear c59
                have H' := Aside0.mk H
                clear H
                go_wp2
                go_roundg kj47
                case measure => have := HJ6.out; have := HK2.out; have := HK3.out; have := HJ47.out; omega
                case rel => exact ⟨(wrap64 (x107_3 + 1)), (by first | rfl | (simp; done) | (simp [*]; done)), H', ⟨by have := HJ6.out; have := HK2.out; have := HK3.out; have := HJ47.out; omega⟩, ⟨by (with_reducible repeat (first | apply Kd.R_alloc | apply Kd.R_drewN | apply Kd.R_drew)); exact Kd.R_mono HO_10.out (fun _ hk => trivial)⟩, ⟨by (with_reducible repeat (first | apply Kd.R_alloc | apply Kd.R_drewN | apply Kd.R_drew)); exact Kd.R_mono HO_105.out (fun _ hk => trivial)⟩, ⟨by repeat (first | (with_reducible first | exact HB.out | apply below_alloc | apply pw_below_drewN | apply below_drew1 | refine below_set ?_ GE341.out) | exact HB.out)⟩⟩
               ·rw [if_neg c59] at H
                have c59b0 : (x107_3 == 0) = false := beq_eq_false_iff_ne.mpr c59
                have c59b1 : (x107_3 != 0) = true := bne_iff_ne.mpr c59
                obtain ⟨ji60, hji60⟩ : ∃ j_ : Int, (wrap64 (x107_3 - 1)) = j_ := ⟨_, rfl⟩
                replace H : (if 0 ≤ (ji60) then (if (ji60) < (t329.length : Int) then (if ((rd_T41 t329 (ji60)).f5) = ((rd_T41 t329 x107_3).f5) then (letterbaglaw35_OrderRules.j4 kj47 (wrap64 (1 + (Int.tmod (wrap64 (a1)) 6))) (Int.tmod (wrap64 (a2)) 110) t329 x14_2 t329 (t329.length : Int) x107_3 false ((rd_T41 t329 x107_3).f0) ((rd_T41 t329 x107_3).f1) ((rd_T41 t329 x107_3).f2) ((rd_T41 t329 x107_3).f3) ((rd_T41 t329 x107_3).f4) ((rd_T41 t329 x107_3).f5) ((rd_T41 t329 (ji60)).f0) ((rd_T41 t329 (ji60)).f1) ((rd_T41 t329 (ji60)).f2) ((rd_T41 t329 (ji60)).f3) ((rd_T41 t329 (ji60)).f4) ((rd_T41 t329 (ji60)).f5)) else (if ((rd_T41 t329 (ji60)).f5) = 3 then (letterbaglaw35_OrderRules.j4 kj47 (wrap64 (1 + (Int.tmod (wrap64 (a1)) 6))) (Int.tmod (wrap64 (a2)) 110) t329 x14_2 t329 (t329.length : Int) x107_3 true ((rd_T41 t329 x107_3).f0) ((rd_T41 t329 x107_3).f1) ((rd_T41 t329 x107_3).f2) ((rd_T41 t329 x107_3).f3) ((rd_T41 t329 x107_3).f4) ((rd_T41 t329 x107_3).f5) ((rd_T41 t329 (ji60)).f0) ((rd_T41 t329 (ji60)).f1) ((rd_T41 t329 (ji60)).f2) ((rd_T41 t329 (ji60)).f3) ((rd_T41 t329 (ji60)).f4) ((rd_T41 t329 (ji60)).f5)) else (letterbaglaw35_OrderRules.j4 kj47 (wrap64 (1 + (Int.tmod (wrap64 (a1)) 6))) (Int.tmod (wrap64 (a2)) 110) t329 x14_2 t329 (t329.length : Int) x107_3 (((rd_T41 t329 x107_3).f5) == 3) ((rd_T41 t329 x107_3).f0) ((rd_T41 t329 x107_3).f1) ((rd_T41 t329 x107_3).f2) ((rd_T41 t329 x107_3).f3) ((rd_T41 t329 x107_3).f4) ((rd_T41 t329 x107_3).f5) ((rd_T41 t329 (ji60)).f0) ((rd_T41 t329 (ji60)).f1) ((rd_T41 t329 (ji60)).f2) ((rd_T41 t329 (ji60)).f3) ((rd_T41 t329 (ji60)).f4) ((rd_T41 t329 (ji60)).f5)))) else (none)) else (none)) = some r := by first | (rw [hji60] at H; exact H) | (simp only [hji60] at H ⊢; exact H)
                have hji60w : (IntKind.i64.wrap (x107_3 - 1)) = ji60 := (i64_w _).trans hji60
                by_cases c61 : 0 ≤ (ji60)
                ·rw [if_pos c61] at H
                 have c61b0 : decide (0 ≤ (ji60)) = true := decide_eq_true c61
                 clear c61
                 by_cases c62 : (ji60) < (t329.length : Int)
                 ·rw [if_pos c62] at H
                  have c62b0 : decide ((ji60) < (t329.length : Int)) = true := decide_eq_true c62
                  clear c62
                  have HC63 := Aside0.mk H
                  clear H
                  have p342 : 0 ≤ ((ji60) : Int) := of_decide_eq_true (by first | (with_reducible assumption) | assumption)
                  have q342 : (ji60) < (t329.length : Int) := of_decide_eq_true (by first | (with_reducible assumption) | assumption)
                  obtain ⟨ad342, e342, hx342_0, hx342_1, hx342_2, hx342_3, hx342_4, hx342_5⟩ := at_T41 (Kd.R_reads' HO_10.out).2.2 (ji60) p342 q342
                  obtain rfl : ad340 = ad342 := (by injection e342)
                  replace p342 := eq_true p342
                  replace q342 := eq_true q342
                  go_upto_region 21 with (first | ((with_reducible refine gate_dst (N := 19) rfl ?_); (try (refine gate_guard (by rfl) ?_; dsimp only)); refine box_event ?hg (N := 19) ?hd (cs := #[.int .i64 0, .int .i64 0, .int .i64 0, .int .i64 0, .int .i64 0, .int .u8 0]) (t := 41) ?hr ?_; (case hd => rfl); (case hg => rfl); (case hr => first | (go_simp; done) | (go_simp; rfl)); intro gb343 hg w64 hbox hb; have n0_ := Aside0.mk (Kd.R_below (Kd.R_elderB (by (with_reducible repeat (first | apply Kd.R_alloc | apply Kd.R_drewN | apply Kd.R_drew)); exact HO_10.out) gb343 (Nat.le_of_eq hg.symm)) hb); have n1_ := Aside0.mk (Kd.R_below (Kd.R_elderB (by (with_reducible repeat (first | apply Kd.R_alloc | apply Kd.R_drewN | apply Kd.R_drew)); exact HO_105.out) gb343 (Nat.le_of_eq hg.symm)) hb); have n2_ := Aside0.mk (blk_below (g := gb341) (o := .cells #[.int .i64 ((rd_T41 t329 x107_3).f0), .int .i64 ((rd_T41 t329 x107_3).f1), .int .i64 ((rd_T41 t329 x107_3).f2), .int .i64 ((rd_T41 t329 x107_3).f3), .int .i64 ((rd_T41 t329 x107_3).f4), .int .u8 ((rd_T41 t329 x107_3).f5)] 41 (0, 0)) (by (with_reducible repeat (first | refine blk_drewN ?_ _ | refine blk_drew ?_ | refine blk_alloc ?_ _)); exact BK341.out) hb); have n3_ := Aside0.mk (below_step (by repeat (first | (with_reducible first | exact HB.out | apply below_alloc | apply pw_below_drewN | apply below_drew1 | refine below_set ?_ GE341.out) | exact HB.out)) hb); have n4_ := Aside0.mk (hbox); have n5_ := Aside0.mk ((by rw [hg]; exact (below_size (by repeat (first | (with_reducible first | exact HB.out | apply below_alloc | apply pw_below_drewN | apply below_drew1 | refine below_set ?_ GE341.out) | exact HB.out))) : w.heap.size ≤ gb343)); have n6_ := Aside0.mk ((by rw [hg]; exact (below_size (by repeat (first | (with_reducible first | exact HB.out | apply below_alloc | apply pw_below_drewN | apply below_drew1 | refine below_set ?_ GE341.out) | exact HB.out))) : w.heap.size ≤ gb343)); have n7_ := Aside0.mk ((by rw [hg]; exact Nat.ne_of_lt (blk_lt (g := gb341) (o := .cells #[.int .i64 ((rd_T41 t329 x107_3).f0), .int .i64 ((rd_T41 t329 x107_3).f1), .int .i64 ((rd_T41 t329 x107_3).f2), .int .i64 ((rd_T41 t329 x107_3).f3), .int .i64 ((rd_T41 t329 x107_3).f4), .int .u8 ((rd_T41 t329 x107_3).f5)] 41 (0, 0)) (by (with_reducible repeat (first | refine blk_drewN ?_ _ | refine blk_drew ?_ | refine blk_alloc ?_ _)); exact BK341.out)) : gb341 ≠ gb343)); have n8_ := Aside0.mk ((by rw [hg]; exact Nat.ne_of_gt (blk_lt (g := gb341) (o := .cells #[.int .i64 ((rd_T41 t329 x107_3).f0), .int .i64 ((rd_T41 t329 x107_3).f1), .int .i64 ((rd_T41 t329 x107_3).f2), .int .i64 ((rd_T41 t329 x107_3).f3), .int .i64 ((rd_T41 t329 x107_3).f4), .int .u8 ((rd_T41 t329 x107_3).f5)] 41 (0, 0)) (by (with_reducible repeat (first | refine blk_drewN ?_ _ | refine blk_drew ?_ | refine blk_alloc ?_ _)); exact BK341.out)) : gb343 ≠ gb341)); clear HO_10; clear HO_105; clear BK341; clear HB; have HO_10 := n0_; have HO_105 := n1_; have BK341 := n2_; have HB := n3_; have BK343 := n4_; have GW343 := n5_; have GE343 := n6_; have NB341_343 := n7_; have NB343_341 := n8_; clear n0_ n1_ n2_ n3_ n4_ n5_ n6_ n7_ n8_; clear hb hbox hg; have hnb65 := NB343_341.out; have hnc65 := NB341_343.out; have hcz66_0 : w64.cell? ⟨gb343, 0, none⟩ = some (.int .i64 0) := (blk_cell BK343.out 0).trans rfl; have hcz66_1 : w64.cell? ⟨gb343, 1, none⟩ = some (.int .i64 0) := (blk_cell BK343.out 1).trans rfl; have hcz66_2 : w64.cell? ⟨gb343, 2, none⟩ = some (.int .i64 0) := (blk_cell BK343.out 2).trans rfl; have hcz66_3 : w64.cell? ⟨gb343, 3, none⟩ = some (.int .i64 0) := (blk_cell BK343.out 3).trans rfl; have hcz66_4 : w64.cell? ⟨gb343, 4, none⟩ = some (.int .i64 0) := (blk_cell BK343.out 4).trans rfl; have hcz66_5 : w64.cell? ⟨gb343, 5, none⟩ = some (.int .u8 0) := (blk_cell BK343.out 5).trans rfl; have hfz66_0 := blk_frozen BK343.out 0; have hfz66_1 := blk_frozen BK343.out 1; have hfz66_2 := blk_frozen BK343.out 2; have hfz66_3 := blk_frozen BK343.out 3; have hfz66_4 := blk_frozen BK343.out 4; have hfz66_5 := blk_frozen BK343.out 5))
                  (try simp only [Act.put, List.setIfInBounds_toArray, List.set_cons_zero, List.set_cons_succ])
                  go_cut [140] (fun v140 wc => ∃ (kq : Nat) (x140_62 : Bool), v140 = .bool x140_62 ∧ Aside0 (letterbaglaw35_OrderRules.j4 kq (wrap64 (1 + (Int.tmod (wrap64 (a1)) 6))) (Int.tmod (wrap64 (a2)) 110) t329 x14_2 t329 (t329.length : Int) x107_3 x140_62 ((rd_T41 t329 x107_3).f0) ((rd_T41 t329 x107_3).f1) ((rd_T41 t329 x107_3).f2) ((rd_T41 t329 x107_3).f3) ((rd_T41 t329 x107_3).f4) ((rd_T41 t329 x107_3).f5) ((rd_T41 t329 (ji60)).f0) ((rd_T41 t329 (ji60)).f1) ((rd_T41 t329 (ji60)).f2) ((rd_T41 t329 (ji60)).f3) ((rd_T41 t329 (ji60)).f4) ((rd_T41 t329 (ji60)).f5) = some r) ∧ Aside0 (kq ≤ kj47) ∧ Aside0 (Kd.R k41 41 wc w.heap.size (fun k_ => k_ ≠ gb341 ∧ k_ ≠ gb343) (.slice (some ad340) t329.length co44) t329) ∧ Aside0 (Kd.R k41 41 wc w.heap.size (fun k_ => k_ ≠ gb341 ∧ k_ ≠ gb343) (.slice (some ad340) t329.length co44) t329) ∧ Aside0 (wc.heap[gb341]? = some (.cells #[.int .i64 ((rd_T41 t329 x107_3).f0), .int .i64 ((rd_T41 t329 x107_3).f1), .int .i64 ((rd_T41 t329 x107_3).f2), .int .i64 ((rd_T41 t329 x107_3).f3), .int .i64 ((rd_T41 t329 x107_3).f4), .int .u8 ((rd_T41 t329 x107_3).f5)] 41 (0, 0))) ∧ Aside0 (wc.heap[gb343]? = some (.cells #[.int .i64 ((rd_T41 t329 (ji60)).f0), .int .i64 ((rd_T41 t329 (ji60)).f1), .int .i64 ((rd_T41 t329 (ji60)).f2), .int .i64 ((rd_T41 t329 (ji60)).f3), .int .i64 ((rd_T41 t329 (ji60)).f4), .int .u8 ((rd_T41 t329 (ji60)).f5)] 41 (0, 0))) ∧ Aside0 (Below w.heap.size w wc))
                  case first =>
                   have H := HC63.out
                   clear HC63
                   by_cases c67 : ((rd_T41 t329 (ji60)).f5) = ((rd_T41 t329 x107_3).f5)
                   ·rw [if_pos c67] at H
                    have c67b0 : (((rd_T41 t329 (ji60)).f5) == ((rd_T41 t329 x107_3).f5)) = true := beq_iff_eq.mpr c67
                    have c67b1 : (((rd_T41 t329 (ji60)).f5) != ((rd_T41 t329 x107_3).f5)) = false := bne_eq_false_iff_eq.mpr c67
                    clear c67
                    (first | rw [c67b0] | (simp only [i64_w, i32_w]; rw [c67b0]) | skip)
                    have H' := Aside0.mk H
                    clear H
                    have hnb68 := NB343_341.out
                    have hnc68 := NB341_343.out
                    have hcz69_0 : w64.cell? ⟨gb343, 0, none⟩ = some (.int .i64 0) := (blk_cell BK343.out 0).trans rfl
                    have hcz69_1 : w64.cell? ⟨gb343, 1, none⟩ = some (.int .i64 0) := (blk_cell BK343.out 1).trans rfl
                    have hcz69_2 : w64.cell? ⟨gb343, 2, none⟩ = some (.int .i64 0) := (blk_cell BK343.out 2).trans rfl
                    have hcz69_3 : w64.cell? ⟨gb343, 3, none⟩ = some (.int .i64 0) := (blk_cell BK343.out 3).trans rfl
                    have hcz69_4 : w64.cell? ⟨gb343, 4, none⟩ = some (.int .i64 0) := (blk_cell BK343.out 4).trans rfl
                    have hcz69_5 : w64.cell? ⟨gb343, 5, none⟩ = some (.int .u8 0) := (blk_cell BK343.out 5).trans rfl
                    have hfz69_0 := blk_frozen BK343.out 0
                    have hfz69_1 := blk_frozen BK343.out 1
                    have hfz69_2 := blk_frozen BK343.out 2
                    have hfz69_3 := blk_frozen BK343.out 3
                    have hfz69_4 := blk_frozen BK343.out 4
                    have hfz69_5 := blk_frozen BK343.out 5
                    have hcz70_0 : w64.cell? ⟨gb341, 0, none⟩ = some (.int .i64 ((rd_T41 t329 x107_3).f0)) := (blk_cell BK341.out 0).trans rfl
                    have hcz70_1 : w64.cell? ⟨gb341, 1, none⟩ = some (.int .i64 ((rd_T41 t329 x107_3).f1)) := (blk_cell BK341.out 1).trans rfl
                    have hcz70_2 : w64.cell? ⟨gb341, 2, none⟩ = some (.int .i64 ((rd_T41 t329 x107_3).f2)) := (blk_cell BK341.out 2).trans rfl
                    have hcz70_3 : w64.cell? ⟨gb341, 3, none⟩ = some (.int .i64 ((rd_T41 t329 x107_3).f3)) := (blk_cell BK341.out 3).trans rfl
                    have hcz70_4 : w64.cell? ⟨gb341, 4, none⟩ = some (.int .i64 ((rd_T41 t329 x107_3).f4)) := (blk_cell BK341.out 4).trans rfl
                    have hcz70_5 : w64.cell? ⟨gb341, 5, none⟩ = some (.int .u8 ((rd_T41 t329 x107_3).f5)) := (blk_cell BK341.out 5).trans rfl
                    have hfz70_0 := blk_frozen BK341.out 0
                    have hfz70_1 := blk_frozen BK341.out 1
                    have hfz70_2 := blk_frozen BK341.out 2
                    have hfz70_3 := blk_frozen BK341.out 3
                    have hfz70_4 := blk_frozen BK341.out 4
                    have hfz70_5 := blk_frozen BK341.out 5
                    go_wp2
                    go_meet
                    case rel => exact ⟨_, (false), (by first | rfl | (simp; done) | (simp [*]; done)), H', ⟨by have := HJ6.out; have := HK2.out; have := HK3.out; have := HJ47.out; first | omega | exact Nat.le_refl _⟩, ⟨by (with_reducible repeat (first | apply Kd.R_alloc | apply Kd.R_drewN | apply Kd.R_drew)); exact Kd.R_mono (Kd.R_far (p := ⟨gb343, 5, none⟩) (Kd.R_far (p := ⟨gb343, 4, none⟩) (Kd.R_far (p := ⟨gb343, 3, none⟩) (Kd.R_far (p := ⟨gb343, 2, none⟩) (Kd.R_far (p := ⟨gb343, 1, none⟩) (Kd.R_far (p := ⟨gb343, 0, none⟩) (Kd.R_mono HO_10.out (fun k_ hk => (⟨hk, hk.2⟩ : _ ∧ k_ ≠ gb343))) (fun _ hk => hk.2) (.int .i64 ((rd_T41 t329 (ji60)).f0))) (fun _ hk => hk.2) (.int .i64 ((rd_T41 t329 (ji60)).f1))) (fun _ hk => hk.2) (.int .i64 ((rd_T41 t329 (ji60)).f2))) (fun _ hk => hk.2) (.int .i64 ((rd_T41 t329 (ji60)).f3))) (fun _ hk => hk.2) (.int .i64 ((rd_T41 t329 (ji60)).f4))) (fun _ hk => hk.2) (.int .u8 ((rd_T41 t329 (ji60)).f5))) (fun _ hk => ⟨hk.1.1, hk.1.2⟩)⟩, ⟨by (with_reducible repeat (first | apply Kd.R_alloc | apply Kd.R_drewN | apply Kd.R_drew)); exact Kd.R_mono (Kd.R_far (p := ⟨gb343, 5, none⟩) (Kd.R_far (p := ⟨gb343, 4, none⟩) (Kd.R_far (p := ⟨gb343, 3, none⟩) (Kd.R_far (p := ⟨gb343, 2, none⟩) (Kd.R_far (p := ⟨gb343, 1, none⟩) (Kd.R_far (p := ⟨gb343, 0, none⟩) (Kd.R_mono HO_105.out (fun k_ hk => (⟨hk, hk.2⟩ : _ ∧ k_ ≠ gb343))) (fun _ hk => hk.2) (.int .i64 ((rd_T41 t329 (ji60)).f0))) (fun _ hk => hk.2) (.int .i64 ((rd_T41 t329 (ji60)).f1))) (fun _ hk => hk.2) (.int .i64 ((rd_T41 t329 (ji60)).f2))) (fun _ hk => hk.2) (.int .i64 ((rd_T41 t329 (ji60)).f3))) (fun _ hk => hk.2) (.int .i64 ((rd_T41 t329 (ji60)).f4))) (fun _ hk => hk.2) (.int .u8 ((rd_T41 t329 (ji60)).f5))) (fun _ hk => ⟨hk.1.1, hk.1.2⟩)⟩, ⟨by (with_reducible repeat (first | refine blk_drewN ?_ _ | refine blk_drew ?_ | refine blk_alloc ?_ _)); refine blk_far ?_ NB341_343.out _; (with_reducible repeat (first | refine blk_drewN ?_ _ | refine blk_drew ?_ | refine blk_alloc ?_ _)); refine blk_far ?_ NB341_343.out _; (with_reducible repeat (first | refine blk_drewN ?_ _ | refine blk_drew ?_ | refine blk_alloc ?_ _)); refine blk_far ?_ NB341_343.out _; (with_reducible repeat (first | refine blk_drewN ?_ _ | refine blk_drew ?_ | refine blk_alloc ?_ _)); refine blk_far ?_ NB341_343.out _; (with_reducible repeat (first | refine blk_drewN ?_ _ | refine blk_drew ?_ | refine blk_alloc ?_ _)); refine blk_far ?_ NB341_343.out _; (with_reducible repeat (first | refine blk_drewN ?_ _ | refine blk_drew ?_ | refine blk_alloc ?_ _)); refine blk_far ?_ NB341_343.out _; (with_reducible repeat (first | refine blk_drewN ?_ _ | refine blk_drew ?_ | refine blk_alloc ?_ _)); exact BK341.out⟩, ⟨by (with_reducible repeat (first | refine blk_drewN ?_ _ | refine blk_drew ?_ | refine blk_alloc ?_ _)); refine blk_put (cs := #[.int .i64 ((rd_T41 t329 (ji60)).f0), .int .i64 ((rd_T41 t329 (ji60)).f1), .int .i64 ((rd_T41 t329 (ji60)).f2), .int .i64 ((rd_T41 t329 (ji60)).f3), .int .i64 ((rd_T41 t329 (ji60)).f4), .int .u8 0]) ?_ 5 _ rfl; (with_reducible repeat (first | refine blk_drewN ?_ _ | refine blk_drew ?_ | refine blk_alloc ?_ _)); refine blk_put (cs := #[.int .i64 ((rd_T41 t329 (ji60)).f0), .int .i64 ((rd_T41 t329 (ji60)).f1), .int .i64 ((rd_T41 t329 (ji60)).f2), .int .i64 ((rd_T41 t329 (ji60)).f3), .int .i64 0, .int .u8 0]) ?_ 4 _ rfl; (with_reducible repeat (first | refine blk_drewN ?_ _ | refine blk_drew ?_ | refine blk_alloc ?_ _)); refine blk_put (cs := #[.int .i64 ((rd_T41 t329 (ji60)).f0), .int .i64 ((rd_T41 t329 (ji60)).f1), .int .i64 ((rd_T41 t329 (ji60)).f2), .int .i64 0, .int .i64 0, .int .u8 0]) ?_ 3 _ rfl; (with_reducible repeat (first | refine blk_drewN ?_ _ | refine blk_drew ?_ | refine blk_alloc ?_ _)); refine blk_put (cs := #[.int .i64 ((rd_T41 t329 (ji60)).f0), .int .i64 ((rd_T41 t329 (ji60)).f1), .int .i64 0, .int .i64 0, .int .i64 0, .int .u8 0]) ?_ 2 _ rfl; (with_reducible repeat (first | refine blk_drewN ?_ _ | refine blk_drew ?_ | refine blk_alloc ?_ _)); refine blk_put (cs := #[.int .i64 ((rd_T41 t329 (ji60)).f0), .int .i64 0, .int .i64 0, .int .i64 0, .int .i64 0, .int .u8 0]) ?_ 1 _ rfl; (with_reducible repeat (first | refine blk_drewN ?_ _ | refine blk_drew ?_ | refine blk_alloc ?_ _)); refine blk_put (cs := #[.int .i64 0, .int .i64 0, .int .i64 0, .int .i64 0, .int .i64 0, .int .u8 0]) ?_ 0 _ rfl; (with_reducible repeat (first | refine blk_drewN ?_ _ | refine blk_drew ?_ | refine blk_alloc ?_ _)); exact BK343.out⟩, ⟨by repeat (first | (with_reducible first | exact HB.out | apply below_alloc | apply pw_below_drewN | apply below_drew1 | refine below_set ?_ GE341.out | refine below_set ?_ GE343.out) | exact HB.out)⟩⟩
                   ·rw [if_neg c67] at H
                    have c67b0 : (((rd_T41 t329 (ji60)).f5) == ((rd_T41 t329 x107_3).f5)) = false := beq_eq_false_iff_ne.mpr c67
                    have c67b1 : (((rd_T41 t329 (ji60)).f5) != ((rd_T41 t329 x107_3).f5)) = true := bne_iff_ne.mpr c67
                    (first | rw [c67b0] | (simp only [i64_w, i32_w]; rw [c67b0]) | skip)
                    by_cases c71 : ((rd_T41 t329 (ji60)).f5) = 3
                    ·rw [if_pos c71] at H
                     have c71b0 : (((rd_T41 t329 (ji60)).f5) == 3) = true := beq_iff_eq.mpr c71
                     have c71b1 : (((rd_T41 t329 (ji60)).f5) != 3) = false := bne_eq_false_iff_eq.mpr c71
                     clear c71
                     have H' := Aside0.mk H
                     clear H
                     have hnb72 := NB343_341.out
                     have hnc72 := NB341_343.out
                     have hcz73_0 : w64.cell? ⟨gb343, 0, none⟩ = some (.int .i64 0) := (blk_cell BK343.out 0).trans rfl
                     have hcz73_1 : w64.cell? ⟨gb343, 1, none⟩ = some (.int .i64 0) := (blk_cell BK343.out 1).trans rfl
                     have hcz73_2 : w64.cell? ⟨gb343, 2, none⟩ = some (.int .i64 0) := (blk_cell BK343.out 2).trans rfl
                     have hcz73_3 : w64.cell? ⟨gb343, 3, none⟩ = some (.int .i64 0) := (blk_cell BK343.out 3).trans rfl
                     have hcz73_4 : w64.cell? ⟨gb343, 4, none⟩ = some (.int .i64 0) := (blk_cell BK343.out 4).trans rfl
                     have hcz73_5 : w64.cell? ⟨gb343, 5, none⟩ = some (.int .u8 0) := (blk_cell BK343.out 5).trans rfl
                     have hfz73_0 := blk_frozen BK343.out 0
                     have hfz73_1 := blk_frozen BK343.out 1
                     have hfz73_2 := blk_frozen BK343.out 2
                     have hfz73_3 := blk_frozen BK343.out 3
                     have hfz73_4 := blk_frozen BK343.out 4
                     have hfz73_5 := blk_frozen BK343.out 5
                     have hcz74_0 : w64.cell? ⟨gb341, 0, none⟩ = some (.int .i64 ((rd_T41 t329 x107_3).f0)) := (blk_cell BK341.out 0).trans rfl
                     have hcz74_1 : w64.cell? ⟨gb341, 1, none⟩ = some (.int .i64 ((rd_T41 t329 x107_3).f1)) := (blk_cell BK341.out 1).trans rfl
                     have hcz74_2 : w64.cell? ⟨gb341, 2, none⟩ = some (.int .i64 ((rd_T41 t329 x107_3).f2)) := (blk_cell BK341.out 2).trans rfl
                     have hcz74_3 : w64.cell? ⟨gb341, 3, none⟩ = some (.int .i64 ((rd_T41 t329 x107_3).f3)) := (blk_cell BK341.out 3).trans rfl
                     have hcz74_4 : w64.cell? ⟨gb341, 4, none⟩ = some (.int .i64 ((rd_T41 t329 x107_3).f4)) := (blk_cell BK341.out 4).trans rfl
                     have hcz74_5 : w64.cell? ⟨gb341, 5, none⟩ = some (.int .u8 ((rd_T41 t329 x107_3).f5)) := (blk_cell BK341.out 5).trans rfl
                     have hfz74_0 := blk_frozen BK341.out 0
                     have hfz74_1 := blk_frozen BK341.out 1
                     have hfz74_2 := blk_frozen BK341.out 2
                     have hfz74_3 := blk_frozen BK341.out 3
                     have hfz74_4 := blk_frozen BK341.out 4
                     have hfz74_5 := blk_frozen BK341.out 5
                     go_wp2
                     go_meet
                     case rel => exact ⟨_, (true), (by first | rfl | (simp; done) | (simp [*]; done)), H', ⟨by have := HJ6.out; have := HK2.out; have := HK3.out; have := HJ47.out; first | omega | exact Nat.le_refl _⟩, ⟨by (with_reducible repeat (first | apply Kd.R_alloc | apply Kd.R_drewN | apply Kd.R_drew)); exact Kd.R_mono (Kd.R_far (p := ⟨gb343, 5, none⟩) (Kd.R_far (p := ⟨gb343, 4, none⟩) (Kd.R_far (p := ⟨gb343, 3, none⟩) (Kd.R_far (p := ⟨gb343, 2, none⟩) (Kd.R_far (p := ⟨gb343, 1, none⟩) (Kd.R_far (p := ⟨gb343, 0, none⟩) (Kd.R_mono HO_10.out (fun k_ hk => (⟨hk, hk.2⟩ : _ ∧ k_ ≠ gb343))) (fun _ hk => hk.2) (.int .i64 ((rd_T41 t329 (ji60)).f0))) (fun _ hk => hk.2) (.int .i64 ((rd_T41 t329 (ji60)).f1))) (fun _ hk => hk.2) (.int .i64 ((rd_T41 t329 (ji60)).f2))) (fun _ hk => hk.2) (.int .i64 ((rd_T41 t329 (ji60)).f3))) (fun _ hk => hk.2) (.int .i64 ((rd_T41 t329 (ji60)).f4))) (fun _ hk => hk.2) (.int .u8 ((rd_T41 t329 (ji60)).f5))) (fun _ hk => ⟨hk.1.1, hk.1.2⟩)⟩, ⟨by (with_reducible repeat (first | apply Kd.R_alloc | apply Kd.R_drewN | apply Kd.R_drew)); exact Kd.R_mono (Kd.R_far (p := ⟨gb343, 5, none⟩) (Kd.R_far (p := ⟨gb343, 4, none⟩) (Kd.R_far (p := ⟨gb343, 3, none⟩) (Kd.R_far (p := ⟨gb343, 2, none⟩) (Kd.R_far (p := ⟨gb343, 1, none⟩) (Kd.R_far (p := ⟨gb343, 0, none⟩) (Kd.R_mono HO_105.out (fun k_ hk => (⟨hk, hk.2⟩ : _ ∧ k_ ≠ gb343))) (fun _ hk => hk.2) (.int .i64 ((rd_T41 t329 (ji60)).f0))) (fun _ hk => hk.2) (.int .i64 ((rd_T41 t329 (ji60)).f1))) (fun _ hk => hk.2) (.int .i64 ((rd_T41 t329 (ji60)).f2))) (fun _ hk => hk.2) (.int .i64 ((rd_T41 t329 (ji60)).f3))) (fun _ hk => hk.2) (.int .i64 ((rd_T41 t329 (ji60)).f4))) (fun _ hk => hk.2) (.int .u8 ((rd_T41 t329 (ji60)).f5))) (fun _ hk => ⟨hk.1.1, hk.1.2⟩)⟩, ⟨by (with_reducible repeat (first | refine blk_drewN ?_ _ | refine blk_drew ?_ | refine blk_alloc ?_ _)); refine blk_far ?_ NB341_343.out _; (with_reducible repeat (first | refine blk_drewN ?_ _ | refine blk_drew ?_ | refine blk_alloc ?_ _)); refine blk_far ?_ NB341_343.out _; (with_reducible repeat (first | refine blk_drewN ?_ _ | refine blk_drew ?_ | refine blk_alloc ?_ _)); refine blk_far ?_ NB341_343.out _; (with_reducible repeat (first | refine blk_drewN ?_ _ | refine blk_drew ?_ | refine blk_alloc ?_ _)); refine blk_far ?_ NB341_343.out _; (with_reducible repeat (first | refine blk_drewN ?_ _ | refine blk_drew ?_ | refine blk_alloc ?_ _)); refine blk_far ?_ NB341_343.out _; (with_reducible repeat (first | refine blk_drewN ?_ _ | refine blk_drew ?_ | refine blk_alloc ?_ _)); refine blk_far ?_ NB341_343.out _; (with_reducible repeat (first | refine blk_drewN ?_ _ | refine blk_drew ?_ | refine blk_alloc ?_ _)); exact BK341.out⟩, ⟨by (with_reducible repeat (first | refine blk_drewN ?_ _ | refine blk_drew ?_ | refine blk_alloc ?_ _)); refine blk_put (cs := #[.int .i64 ((rd_T41 t329 (ji60)).f0), .int .i64 ((rd_T41 t329 (ji60)).f1), .int .i64 ((rd_T41 t329 (ji60)).f2), .int .i64 ((rd_T41 t329 (ji60)).f3), .int .i64 ((rd_T41 t329 (ji60)).f4), .int .u8 0]) ?_ 5 _ rfl; (with_reducible repeat (first | refine blk_drewN ?_ _ | refine blk_drew ?_ | refine blk_alloc ?_ _)); refine blk_put (cs := #[.int .i64 ((rd_T41 t329 (ji60)).f0), .int .i64 ((rd_T41 t329 (ji60)).f1), .int .i64 ((rd_T41 t329 (ji60)).f2), .int .i64 ((rd_T41 t329 (ji60)).f3), .int .i64 0, .int .u8 0]) ?_ 4 _ rfl; (with_reducible repeat (first | refine blk_drewN ?_ _ | refine blk_drew ?_ | refine blk_alloc ?_ _)); refine blk_put (cs := #[.int .i64 ((rd_T41 t329 (ji60)).f0), .int .i64 ((rd_T41 t329 (ji60)).f1), .int .i64 ((rd_T41 t329 (ji60)).f2), .int .i64 0, .int .i64 0, .int .u8 0]) ?_ 3 _ rfl; (with_reducible repeat (first | refine blk_drewN ?_ _ | refine blk_drew ?_ | refine blk_alloc ?_ _)); refine blk_put (cs := #[.int .i64 ((rd_T41 t329 (ji60)).f0), .int .i64 ((rd_T41 t329 (ji60)).f1), .int .i64 0, .int .i64 0, .int .i64 0, .int .u8 0]) ?_ 2 _ rfl; (with_reducible repeat (first | refine blk_drewN ?_ _ | refine blk_drew ?_ | refine blk_alloc ?_ _)); refine blk_put (cs := #[.int .i64 ((rd_T41 t329 (ji60)).f0), .int .i64 0, .int .i64 0, .int .i64 0, .int .i64 0, .int .u8 0]) ?_ 1 _ rfl; (with_reducible repeat (first | refine blk_drewN ?_ _ | refine blk_drew ?_ | refine blk_alloc ?_ _)); refine blk_put (cs := #[.int .i64 0, .int .i64 0, .int .i64 0, .int .i64 0, .int .i64 0, .int .u8 0]) ?_ 0 _ rfl; (with_reducible repeat (first | refine blk_drewN ?_ _ | refine blk_drew ?_ | refine blk_alloc ?_ _)); exact BK343.out⟩, ⟨by repeat (first | (with_reducible first | exact HB.out | apply below_alloc | apply pw_below_drewN | apply below_drew1 | refine below_set ?_ GE341.out | refine below_set ?_ GE343.out) | exact HB.out)⟩⟩
                    ·rw [if_neg c71] at H
                     have c71b0 : (((rd_T41 t329 (ji60)).f5) == 3) = false := beq_eq_false_iff_ne.mpr c71
                     have c71b1 : (((rd_T41 t329 (ji60)).f5) != 3) = true := bne_iff_ne.mpr c71
                     have H' := Aside0.mk H
                     clear H
                     have hnb75 := NB343_341.out
                     have hnc75 := NB341_343.out
                     have hcz76_0 : w64.cell? ⟨gb343, 0, none⟩ = some (.int .i64 0) := (blk_cell BK343.out 0).trans rfl
                     have hcz76_1 : w64.cell? ⟨gb343, 1, none⟩ = some (.int .i64 0) := (blk_cell BK343.out 1).trans rfl
                     have hcz76_2 : w64.cell? ⟨gb343, 2, none⟩ = some (.int .i64 0) := (blk_cell BK343.out 2).trans rfl
                     have hcz76_3 : w64.cell? ⟨gb343, 3, none⟩ = some (.int .i64 0) := (blk_cell BK343.out 3).trans rfl
                     have hcz76_4 : w64.cell? ⟨gb343, 4, none⟩ = some (.int .i64 0) := (blk_cell BK343.out 4).trans rfl
                     have hcz76_5 : w64.cell? ⟨gb343, 5, none⟩ = some (.int .u8 0) := (blk_cell BK343.out 5).trans rfl
                     have hfz76_0 := blk_frozen BK343.out 0
                     have hfz76_1 := blk_frozen BK343.out 1
                     have hfz76_2 := blk_frozen BK343.out 2
                     have hfz76_3 := blk_frozen BK343.out 3
                     have hfz76_4 := blk_frozen BK343.out 4
                     have hfz76_5 := blk_frozen BK343.out 5
                     have hcz77_0 : w64.cell? ⟨gb341, 0, none⟩ = some (.int .i64 ((rd_T41 t329 x107_3).f0)) := (blk_cell BK341.out 0).trans rfl
                     have hcz77_1 : w64.cell? ⟨gb341, 1, none⟩ = some (.int .i64 ((rd_T41 t329 x107_3).f1)) := (blk_cell BK341.out 1).trans rfl
                     have hcz77_2 : w64.cell? ⟨gb341, 2, none⟩ = some (.int .i64 ((rd_T41 t329 x107_3).f2)) := (blk_cell BK341.out 2).trans rfl
                     have hcz77_3 : w64.cell? ⟨gb341, 3, none⟩ = some (.int .i64 ((rd_T41 t329 x107_3).f3)) := (blk_cell BK341.out 3).trans rfl
                     have hcz77_4 : w64.cell? ⟨gb341, 4, none⟩ = some (.int .i64 ((rd_T41 t329 x107_3).f4)) := (blk_cell BK341.out 4).trans rfl
                     have hcz77_5 : w64.cell? ⟨gb341, 5, none⟩ = some (.int .u8 ((rd_T41 t329 x107_3).f5)) := (blk_cell BK341.out 5).trans rfl
                     have hfz77_0 := blk_frozen BK341.out 0
                     have hfz77_1 := blk_frozen BK341.out 1
                     have hfz77_2 := blk_frozen BK341.out 2
                     have hfz77_3 := blk_frozen BK341.out 3
                     have hfz77_4 := blk_frozen BK341.out 4
                     have hfz77_5 := blk_frozen BK341.out 5
                     go_wp2
                     go_meet
                     case rel => exact ⟨_, ((((rd_T41 t329 x107_3).f5) == 3)), (by first | rfl | (simp; done) | (simp [*]; done)), H', ⟨by have := HJ6.out; have := HK2.out; have := HK3.out; have := HJ47.out; first | omega | exact Nat.le_refl _⟩, ⟨by (with_reducible repeat (first | apply Kd.R_alloc | apply Kd.R_drewN | apply Kd.R_drew)); exact Kd.R_mono (Kd.R_far (p := ⟨gb343, 5, none⟩) (Kd.R_far (p := ⟨gb343, 4, none⟩) (Kd.R_far (p := ⟨gb343, 3, none⟩) (Kd.R_far (p := ⟨gb343, 2, none⟩) (Kd.R_far (p := ⟨gb343, 1, none⟩) (Kd.R_far (p := ⟨gb343, 0, none⟩) (Kd.R_mono HO_10.out (fun k_ hk => (⟨hk, hk.2⟩ : _ ∧ k_ ≠ gb343))) (fun _ hk => hk.2) (.int .i64 ((rd_T41 t329 (ji60)).f0))) (fun _ hk => hk.2) (.int .i64 ((rd_T41 t329 (ji60)).f1))) (fun _ hk => hk.2) (.int .i64 ((rd_T41 t329 (ji60)).f2))) (fun _ hk => hk.2) (.int .i64 ((rd_T41 t329 (ji60)).f3))) (fun _ hk => hk.2) (.int .i64 ((rd_T41 t329 (ji60)).f4))) (fun _ hk => hk.2) (.int .u8 ((rd_T41 t329 (ji60)).f5))) (fun _ hk => ⟨hk.1.1, hk.1.2⟩)⟩, ⟨by (with_reducible repeat (first | apply Kd.R_alloc | apply Kd.R_drewN | apply Kd.R_drew)); exact Kd.R_mono (Kd.R_far (p := ⟨gb343, 5, none⟩) (Kd.R_far (p := ⟨gb343, 4, none⟩) (Kd.R_far (p := ⟨gb343, 3, none⟩) (Kd.R_far (p := ⟨gb343, 2, none⟩) (Kd.R_far (p := ⟨gb343, 1, none⟩) (Kd.R_far (p := ⟨gb343, 0, none⟩) (Kd.R_mono HO_105.out (fun k_ hk => (⟨hk, hk.2⟩ : _ ∧ k_ ≠ gb343))) (fun _ hk => hk.2) (.int .i64 ((rd_T41 t329 (ji60)).f0))) (fun _ hk => hk.2) (.int .i64 ((rd_T41 t329 (ji60)).f1))) (fun _ hk => hk.2) (.int .i64 ((rd_T41 t329 (ji60)).f2))) (fun _ hk => hk.2) (.int .i64 ((rd_T41 t329 (ji60)).f3))) (fun _ hk => hk.2) (.int .i64 ((rd_T41 t329 (ji60)).f4))) (fun _ hk => hk.2) (.int .u8 ((rd_T41 t329 (ji60)).f5))) (fun _ hk => ⟨hk.1.1, hk.1.2⟩)⟩, ⟨by (with_reducible repeat (first | refine blk_drewN ?_ _ | refine blk_drew ?_ | refine blk_alloc ?_ _)); refine blk_far ?_ NB341_343.out _; (with_reducible repeat (first | refine blk_drewN ?_ _ | refine blk_drew ?_ | refine blk_alloc ?_ _)); refine blk_far ?_ NB341_343.out _; (with_reducible repeat (first | refine blk_drewN ?_ _ | refine blk_drew ?_ | refine blk_alloc ?_ _)); refine blk_far ?_ NB341_343.out _; (with_reducible repeat (first | refine blk_drewN ?_ _ | refine blk_drew ?_ | refine blk_alloc ?_ _)); refine blk_far ?_ NB341_343.out _; (with_reducible repeat (first | refine blk_drewN ?_ _ | refine blk_drew ?_ | refine blk_alloc ?_ _)); refine blk_far ?_ NB341_343.out _; (with_reducible repeat (first | refine blk_drewN ?_ _ | refine blk_drew ?_ | refine blk_alloc ?_ _)); refine blk_far ?_ NB341_343.out _; (with_reducible repeat (first | refine blk_drewN ?_ _ | refine blk_drew ?_ | refine blk_alloc ?_ _)); exact BK341.out⟩, ⟨by (with_reducible repeat (first | refine blk_drewN ?_ _ | refine blk_drew ?_ | refine blk_alloc ?_ _)); refine blk_put (cs := #[.int .i64 ((rd_T41 t329 (ji60)).f0), .int .i64 ((rd_T41 t329 (ji60)).f1), .int .i64 ((rd_T41 t329 (ji60)).f2), .int .i64 ((rd_T41 t329 (ji60)).f3), .int .i64 ((rd_T41 t329 (ji60)).f4), .int .u8 0]) ?_ 5 _ rfl; (with_reducible repeat (first | refine blk_drewN ?_ _ | refine blk_drew ?_ | refine blk_alloc ?_ _)); refine blk_put (cs := #[.int .i64 ((rd_T41 t329 (ji60)).f0), .int .i64 ((rd_T41 t329 (ji60)).f1), .int .i64 ((rd_T41 t329 (ji60)).f2), .int .i64 ((rd_T41 t329 (ji60)).f3), .int .i64 0, .int .u8 0]) ?_ 4 _ rfl; (with_reducible repeat (first | refine blk_drewN ?_ _ | refine blk_drew ?_ | refine blk_alloc ?_ _)); refine blk_put (cs := #[.int .i64 ((rd_T41 t329 (ji60)).f0), .int .i64 ((rd_T41 t329 (ji60)).f1), .int .i64 ((rd_T41 t329 (ji60)).f2), .int .i64 0, .int .i64 0, .int .u8 0]) ?_ 3 _ rfl; (with_reducible repeat (first | refine blk_drewN ?_ _ | refine blk_drew ?_ | refine blk_alloc ?_ _)); refine blk_put (cs := #[.int .i64 ((rd_T41 t329 (ji60)).f0), .int .i64 ((rd_T41 t329 (ji60)).f1), .int .i64 0, .int .i64 0, .int .i64 0, .int .u8 0]) ?_ 2 _ rfl; (with_reducible repeat (first | refine blk_drewN ?_ _ | refine blk_drew ?_ | refine blk_alloc ?_ _)); refine blk_put (cs := #[.int .i64 ((rd_T41 t329 (ji60)).f0), .int .i64 0, .int .i64 0, .int .i64 0, .int .i64 0, .int .u8 0]) ?_ 1 _ rfl; (with_reducible repeat (first | refine blk_drewN ?_ _ | refine blk_drew ?_ | refine blk_alloc ?_ _)); refine blk_put (cs := #[.int .i64 0, .int .i64 0, .int .i64 0, .int .i64 0, .int .i64 0, .int .u8 0]) ?_ 0 _ rfl; (with_reducible repeat (first | refine blk_drewN ?_ _ | refine blk_drew ?_ | refine blk_alloc ?_ _)); exact BK343.out⟩, ⟨by repeat (first | (with_reducible first | exact HB.out | apply below_alloc | apply pw_below_drewN | apply below_drew1 | refine below_set ?_ GE341.out | refine below_set ?_ GE343.out) | exact HB.out)⟩⟩
                  case rest =>
                   clear HC63
                   try clear c1
                   try clear c2
                   try clear p2
                   try clear c3
                   try clear p3
                   try clear q3
                   try clear hx3
                   try clear qi3
                   try clear c4
                   try clear c5
                   try clear c6
                   try clear p6
                   try clear c7
                   try clear c12
                   try clear c12b0
                   try clear c12b1
                   try clear c13
                   try clear c15
                   try clear c16
                   try clear c16b0
                   try clear c16b1
                   try clear c16b2
                   try clear c19
                   try clear c19b0
                   try clear c19b1
                   try clear c20
                   try clear c20b0
                   try clear c20b1
                   try clear c26
                   try clear c27
                   try clear c27b0
                   try clear c28
                   try clear c28b0
                   try clear c29
                   try clear c29b0
                   try clear c30
                   try clear c30b0
                   try clear c30b1
                   try clear c31
                   try clear c31b0
                   try clear c32
                   try clear c32b0
                   try clear c32b1
                   try clear p33
                   try clear q33
                   try clear hx33
                   try clear qi33
                   try clear p34
                   try clear q34
                   try clear hx34
                   try clear c35
                   try clear c35b0
                   try clear c45
                   try clear c45b0
                   try clear c46
                   try clear c46b0
                   try clear c47
                   try clear c47b0
                   try clear c51
                   try clear c51b0
                   try clear c51b1
                   try clear c52
                   try clear c52b0
                   try clear c54
                   try clear c54b0
                   try clear c54b1
                   try clear c58
                   try clear c59
                   try clear c59b0
                   try clear c59b1
                   try clear c61
                   try clear c61b0
                   try clear c62
                   try clear c62b0
                   try clear p64
                   try clear c65
                   try clear c67
                   try clear c67b0
                   try clear c67b1
                   try clear c68
                   try clear c71
                   try clear c71b0
                   try clear c71b1
                   try clear c72
                   try clear c75
                   try clear hcz34_0
                   try clear hcz34_1
                   try clear hcz34_2
                   try clear hcz34_3
                   try clear hcz34_4
                   try clear hcz34_5
                   try clear hcz37_0
                   try clear hcz37_1
                   try clear hcz37_2
                   try clear hcz37_3
                   try clear hcz37_4
                   try clear hcz37_5
                   try clear hcz39_0
                   try clear hcz39_1
                   try clear hcz39_2
                   try clear hcz39_3
                   try clear hcz39_4
                   try clear hcz39_5
                   try clear hcz41_0
                   try clear hcz41_1
                   try clear hcz41_2
                   try clear hcz41_3
                   try clear hcz41_4
                   try clear hcz41_5
                   try clear hcz43_0
                   try clear hcz43_1
                   try clear hcz43_2
                   try clear hcz43_3
                   try clear hcz43_4
                   try clear hcz43_5
                   try clear hcz50_0
                   try clear hcz50_1
                   try clear hcz50_2
                   try clear hcz50_3
                   try clear hcz50_4
                   try clear hcz50_5
                   try clear hcz53_0
                   try clear hcz53_1
                   try clear hcz53_2
                   try clear hcz53_3
                   try clear hcz53_4
                   try clear hcz53_5
                   try clear hcz55_0
                   try clear hcz55_1
                   try clear hcz55_2
                   try clear hcz55_3
                   try clear hcz55_4
                   try clear hcz55_5
                   try clear hcz56_0
                   try clear hcz56_1
                   try clear hcz56_2
                   try clear hcz56_3
                   try clear hcz56_4
                   try clear hcz56_5
                   try clear hcz57_0
                   try clear hcz57_1
                   try clear hcz57_2
                   try clear hcz57_3
                   try clear hcz57_4
                   try clear hcz57_5
                   try clear hcz66_0
                   try clear hcz66_1
                   try clear hcz66_2
                   try clear hcz66_3
                   try clear hcz66_4
                   try clear hcz66_5
                   try clear hcz69_0
                   try clear hcz69_1
                   try clear hcz69_2
                   try clear hcz69_3
                   try clear hcz69_4
                   try clear hcz69_5
                   try clear hcz70_0
                   try clear hcz70_1
                   try clear hcz70_2
                   try clear hcz70_3
                   try clear hcz70_4
                   try clear hcz70_5
                   try clear hcz73_0
                   try clear hcz73_1
                   try clear hcz73_2
                   try clear hcz73_3
                   try clear hcz73_4
                   try clear hcz73_5
                   try clear hcz74_0
                   try clear hcz74_1
                   try clear hcz74_2
                   try clear hcz74_3
                   try clear hcz74_4
                   try clear hcz74_5
                   try clear hcz76_0
                   try clear hcz76_1
                   try clear hcz76_2
                   try clear hcz76_3
                   try clear hcz76_4
                   try clear hcz76_5
                   try clear hcz77_0
                   try clear hcz77_1
                   try clear hcz77_2
                   try clear hcz77_3
                   try clear hcz77_4
                   try clear hcz77_5
                   try clear hfz34_0
                   try clear hfz34_1
                   try clear hfz34_2
                   try clear hfz34_3
                   try clear hfz34_4
                   try clear hfz34_5
                   try clear hfz37_0
                   try clear hfz37_1
                   try clear hfz37_2
                   try clear hfz37_3
                   try clear hfz37_4
                   try clear hfz37_5
                   try clear hfz39_0
                   try clear hfz39_1
                   try clear hfz39_2
                   try clear hfz39_3
                   try clear hfz39_4
                   try clear hfz39_5
                   try clear hfz41_0
                   try clear hfz41_1
                   try clear hfz41_2
                   try clear hfz41_3
                   try clear hfz41_4
                   try clear hfz41_5
                   try clear hfz43_0
                   try clear hfz43_1
                   try clear hfz43_2
                   try clear hfz43_3
                   try clear hfz43_4
                   try clear hfz43_5
                   try clear hfz50_0
                   try clear hfz50_1
                   try clear hfz50_2
                   try clear hfz50_3
                   try clear hfz50_4
                   try clear hfz50_5
                   try clear hfz53_0
                   try clear hfz53_1
                   try clear hfz53_2
                   try clear hfz53_3
                   try clear hfz53_4
                   try clear hfz53_5
                   try clear hfz55_0
                   try clear hfz55_1
                   try clear hfz55_2
                   try clear hfz55_3
                   try clear hfz55_4
                   try clear hfz55_5
                   try clear hfz56_0
                   try clear hfz56_1
                   try clear hfz56_2
                   try clear hfz56_3
                   try clear hfz56_4
                   try clear hfz56_5
                   try clear hfz57_0
                   try clear hfz57_1
                   try clear hfz57_2
                   try clear hfz57_3
                   try clear hfz57_4
                   try clear hfz57_5
                   try clear hfz66_0
                   try clear hfz66_1
                   try clear hfz66_2
                   try clear hfz66_3
                   try clear hfz66_4
                   try clear hfz66_5
                   try clear hfz69_0
                   try clear hfz69_1
                   try clear hfz69_2
                   try clear hfz69_3
                   try clear hfz69_4
                   try clear hfz69_5
                   try clear hfz70_0
                   try clear hfz70_1
                   try clear hfz70_2
                   try clear hfz70_3
                   try clear hfz70_4
                   try clear hfz70_5
                   try clear hfz73_0
                   try clear hfz73_1
                   try clear hfz73_2
                   try clear hfz73_3
                   try clear hfz73_4
                   try clear hfz73_5
                   try clear hfz74_0
                   try clear hfz74_1
                   try clear hfz74_2
                   try clear hfz74_3
                   try clear hfz74_4
                   try clear hfz74_5
                   try clear hfz76_0
                   try clear hfz76_1
                   try clear hfz76_2
                   try clear hfz76_3
                   try clear hfz76_4
                   try clear hfz76_5
                   try clear hfz77_0
                   try clear hfz77_1
                   try clear hfz77_2
                   try clear hfz77_3
                   try clear hfz77_4
                   try clear hfz77_5
                   try clear hx336_0
                   try clear hx336_1
                   try clear hx336_2
                   try clear hx336_3
                   try clear hx336_4
                   try clear hx336_5
                   try clear hx337_0
                   try clear hx337_1
                   try clear hx337_2
                   try clear hx337_3
                   try clear hx337_4
                   try clear hx337_5
                   try clear hx340_0
                   try clear hx340_1
                   try clear hx340_2
                   try clear hx340_3
                   try clear hx340_4
                   try clear hx340_5
                   try clear hx342_0
                   try clear hx342_1
                   try clear hx342_2
                   try clear hx342_3
                   try clear hx342_4
                   try clear hx342_5
                   try clear p2
                   try clear p3
                   try clear p33
                   try clear p336
                   try clear p337
                   try clear p34
                   try clear p340
                   try clear p342
                   try clear p6
                   try clear q3
                   try clear q33
                   try clear q336
                   try clear q337
                   try clear q34
                   try clear q340
                   try clear q342
                   obtain ⟨kq, x140_62, rfl, HA, HJ62, HO_10, HO_105, BK341, BK343, HB⟩ := hcut
                   cases kq with
                   | zero => exact absurd HA.out (by simp [letterbaglaw35_OrderRules.j4])
                   | succ kj62 =>
                    have H := HA.out
                    clear HA
                    simp only [letterbaglaw35_OrderRules.j4] at H
                    by_cases c78 : x140_62 = true
                    ·subst c78
                     have H1 : (if ((rd_T41 t329 x107_3).f5) = 3 then (some false) else (letterbaglaw35_OrderRules.l1 kj62 (wrap64 (1 + (Int.tmod (wrap64 (a1)) 6))) (Int.tmod (wrap64 (a2)) 110) t329 x14_2 t329 (t329.length : Int) (wrap64 (x107_3 + 1)))) = some r := by rw [if_pos rfl] at H; exact H
                     clear H
                     have H := H1
                     clear H1
                     by_cases c79 : ((rd_T41 t329 x107_3).f5) = 3
                     ·rw [if_pos c79] at H
                      have c79b0 : (((rd_T41 t329 x107_3).f5) == 3) = true := beq_iff_eq.mpr c79
                      have c79b1 : (((rd_T41 t329 x107_3).f5) != 3) = false := bne_eq_false_iff_eq.mpr c79
                      clear c79
                      obtain rfl := Option.some.inj H
                      have hnb80 := NB341_343.out
                      have hnc80 := NB343_341.out
                      have hcz81_0 : wc.cell? ⟨gb341, 0, none⟩ = some (.int .i64 ((rd_T41 t329 x107_3).f0)) := (blk_cell BK341.out 0).trans rfl
                      have hcz81_1 : wc.cell? ⟨gb341, 1, none⟩ = some (.int .i64 ((rd_T41 t329 x107_3).f1)) := (blk_cell BK341.out 1).trans rfl
                      have hcz81_2 : wc.cell? ⟨gb341, 2, none⟩ = some (.int .i64 ((rd_T41 t329 x107_3).f2)) := (blk_cell BK341.out 2).trans rfl
                      have hcz81_3 : wc.cell? ⟨gb341, 3, none⟩ = some (.int .i64 ((rd_T41 t329 x107_3).f3)) := (blk_cell BK341.out 3).trans rfl
                      have hcz81_4 : wc.cell? ⟨gb341, 4, none⟩ = some (.int .i64 ((rd_T41 t329 x107_3).f4)) := (blk_cell BK341.out 4).trans rfl
                      have hcz81_5 : wc.cell? ⟨gb341, 5, none⟩ = some (.int .u8 ((rd_T41 t329 x107_3).f5)) := (blk_cell BK341.out 5).trans rfl
                      have hfz81_0 := blk_frozen BK341.out 0
                      have hfz81_1 := blk_frozen BK341.out 1
                      have hfz81_2 := blk_frozen BK341.out 2
                      have hfz81_3 := blk_frozen BK341.out 3
                      have hfz81_4 := blk_frozen BK341.out 4
                      have hfz81_5 := blk_frozen BK341.out 5
                      go_wp2
                      go_ret
                      exact ⟨by first | rfl | (simp [errW_none, errW_some] <;> rfl) | (simp only [← hji60]; first | rfl | (simp [errW_none, errW_some] <;> rfl)) | (simp [*, errW_none, errW_some] <;> rfl), by repeat (first | (with_reducible first | exact HB.out | apply below_alloc | apply pw_below_drewN | apply below_drew1 | refine below_set ?_ GE341.out | refine below_set ?_ GE343.out) | exact HB.out)⟩
                     ·rw [if_neg c79] at H
                      have c79b0 : (((rd_T41 t329 x107_3).f5) == 3) = false := beq_eq_false_iff_ne.mpr c79
                      have c79b1 : (((rd_T41 t329 x107_3).f5) != 3) = true := bne_iff_ne.mpr c79
                      have H' := Aside0.mk H
                      clear H
                      have hnb82 := NB341_343.out
                      have hnc82 := NB343_341.out
                      have hcz83_0 : wc.cell? ⟨gb341, 0, none⟩ = some (.int .i64 ((rd_T41 t329 x107_3).f0)) := (blk_cell BK341.out 0).trans rfl
                      have hcz83_1 : wc.cell? ⟨gb341, 1, none⟩ = some (.int .i64 ((rd_T41 t329 x107_3).f1)) := (blk_cell BK341.out 1).trans rfl
                      have hcz83_2 : wc.cell? ⟨gb341, 2, none⟩ = some (.int .i64 ((rd_T41 t329 x107_3).f2)) := (blk_cell BK341.out 2).trans rfl
                      have hcz83_3 : wc.cell? ⟨gb341, 3, none⟩ = some (.int .i64 ((rd_T41 t329 x107_3).f3)) := (blk_cell BK341.out 3).trans rfl
                      have hcz83_4 : wc.cell? ⟨gb341, 4, none⟩ = some (.int .i64 ((rd_T41 t329 x107_3).f4)) := (blk_cell BK341.out 4).trans rfl
                      have hcz83_5 : wc.cell? ⟨gb341, 5, none⟩ = some (.int .u8 ((rd_T41 t329 x107_3).f5)) := (blk_cell BK341.out 5).trans rfl
                      have hfz83_0 := blk_frozen BK341.out 0
                      have hfz83_1 := blk_frozen BK341.out 1
                      have hfz83_2 := blk_frozen BK341.out 2
                      have hfz83_3 := blk_frozen BK341.out 3
                      have hfz83_4 := blk_frozen BK341.out 4
                      have hfz83_5 := blk_frozen BK341.out 5
                      go_wp2
                      go_roundg kj62
                      case measure => have := HJ6.out; have := HK2.out; have := HK3.out; have := HJ47.out; have := HJ62.out; omega
                      case rel => exact ⟨(wrap64 (x107_3 + 1)), (by first | rfl | (simp; done) | (simp [*]; done)), H', ⟨by have := HJ6.out; have := HK2.out; have := HK3.out; have := HJ47.out; have := HJ62.out; omega⟩, ⟨by (with_reducible repeat (first | apply Kd.R_alloc | apply Kd.R_drewN | apply Kd.R_drew)); exact Kd.R_mono HO_10.out (fun _ hk => trivial)⟩, ⟨by (with_reducible repeat (first | apply Kd.R_alloc | apply Kd.R_drewN | apply Kd.R_drew)); exact Kd.R_mono HO_105.out (fun _ hk => trivial)⟩, ⟨by repeat (first | (with_reducible first | exact HB.out | apply below_alloc | apply pw_below_drewN | apply below_drew1 | refine below_set ?_ GE341.out | refine below_set ?_ GE343.out) | exact HB.out)⟩⟩
                    ·replace c78 := Bool.eq_false_iff.mpr c78
                     subst c78
                     have H1 : (if ((rd_T41 t329 (ji60)).f3) < ((rd_T41 t329 x107_3).f3) then (some false) else (if ((rd_T41 t329 (ji60)).f3) = ((rd_T41 t329 x107_3).f3) then (if ((rd_T41 t329 (ji60)).f0) ≤ ((rd_T41 t329 x107_3).f0) then (some false) else (letterbaglaw35_OrderRules.l1 kj62 (wrap64 (1 + (Int.tmod (wrap64 (a1)) 6))) (Int.tmod (wrap64 (a2)) 110) t329 x14_2 t329 (t329.length : Int) (wrap64 (x107_3 + 1)))) else (letterbaglaw35_OrderRules.l1 kj62 (wrap64 (1 + (Int.tmod (wrap64 (a1)) 6))) (Int.tmod (wrap64 (a2)) 110) t329 x14_2 t329 (t329.length : Int) (wrap64 (x107_3 + 1))))) = some r := by rw [if_neg (show ¬ (false = true) by decide)] at H; exact H
                     clear H
                     have H := H1
                     clear H1
                     by_cases c84 : ((rd_T41 t329 (ji60)).f3) < ((rd_T41 t329 x107_3).f3)
                     ·rw [if_pos c84] at H
                      have c84b0 : decide (((rd_T41 t329 (ji60)).f3) < ((rd_T41 t329 x107_3).f3)) = true := decide_eq_true c84
                      clear c84
                      obtain rfl := Option.some.inj H
                      have hnb85 := NB343_341.out
                      have hnc85 := NB341_343.out
                      have hcz86_0 : wc.cell? ⟨gb343, 0, none⟩ = some (.int .i64 ((rd_T41 t329 (ji60)).f0)) := (blk_cell BK343.out 0).trans rfl
                      have hcz86_1 : wc.cell? ⟨gb343, 1, none⟩ = some (.int .i64 ((rd_T41 t329 (ji60)).f1)) := (blk_cell BK343.out 1).trans rfl
                      have hcz86_2 : wc.cell? ⟨gb343, 2, none⟩ = some (.int .i64 ((rd_T41 t329 (ji60)).f2)) := (blk_cell BK343.out 2).trans rfl
                      have hcz86_3 : wc.cell? ⟨gb343, 3, none⟩ = some (.int .i64 ((rd_T41 t329 (ji60)).f3)) := (blk_cell BK343.out 3).trans rfl
                      have hcz86_4 : wc.cell? ⟨gb343, 4, none⟩ = some (.int .i64 ((rd_T41 t329 (ji60)).f4)) := (blk_cell BK343.out 4).trans rfl
                      have hcz86_5 : wc.cell? ⟨gb343, 5, none⟩ = some (.int .u8 ((rd_T41 t329 (ji60)).f5)) := (blk_cell BK343.out 5).trans rfl
                      have hfz86_0 := blk_frozen BK343.out 0
                      have hfz86_1 := blk_frozen BK343.out 1
                      have hfz86_2 := blk_frozen BK343.out 2
                      have hfz86_3 := blk_frozen BK343.out 3
                      have hfz86_4 := blk_frozen BK343.out 4
                      have hfz86_5 := blk_frozen BK343.out 5
                      have hcz87_0 : wc.cell? ⟨gb341, 0, none⟩ = some (.int .i64 ((rd_T41 t329 x107_3).f0)) := (blk_cell BK341.out 0).trans rfl
                      have hcz87_1 : wc.cell? ⟨gb341, 1, none⟩ = some (.int .i64 ((rd_T41 t329 x107_3).f1)) := (blk_cell BK341.out 1).trans rfl
                      have hcz87_2 : wc.cell? ⟨gb341, 2, none⟩ = some (.int .i64 ((rd_T41 t329 x107_3).f2)) := (blk_cell BK341.out 2).trans rfl
                      have hcz87_3 : wc.cell? ⟨gb341, 3, none⟩ = some (.int .i64 ((rd_T41 t329 x107_3).f3)) := (blk_cell BK341.out 3).trans rfl
                      have hcz87_4 : wc.cell? ⟨gb341, 4, none⟩ = some (.int .i64 ((rd_T41 t329 x107_3).f4)) := (blk_cell BK341.out 4).trans rfl
                      have hcz87_5 : wc.cell? ⟨gb341, 5, none⟩ = some (.int .u8 ((rd_T41 t329 x107_3).f5)) := (blk_cell BK341.out 5).trans rfl
                      have hfz87_0 := blk_frozen BK341.out 0
                      have hfz87_1 := blk_frozen BK341.out 1
                      have hfz87_2 := blk_frozen BK341.out 2
                      have hfz87_3 := blk_frozen BK341.out 3
                      have hfz87_4 := blk_frozen BK341.out 4
                      have hfz87_5 := blk_frozen BK341.out 5
                      go_wp2
                      go_ret
                      exact ⟨by first | rfl | (simp [errW_none, errW_some] <;> rfl) | (simp only [← hji60]; first | rfl | (simp [errW_none, errW_some] <;> rfl)) | (simp [*, errW_none, errW_some] <;> rfl), by repeat (first | (with_reducible first | exact HB.out | apply below_alloc | apply pw_below_drewN | apply below_drew1 | refine below_set ?_ GE341.out | refine below_set ?_ GE343.out) | exact HB.out)⟩
                     ·rw [if_neg c84] at H
                      have c84b0 : decide (((rd_T41 t329 (ji60)).f3) < ((rd_T41 t329 x107_3).f3)) = false := decide_eq_false c84
                      clear c84
                      by_cases c88 : ((rd_T41 t329 (ji60)).f3) = ((rd_T41 t329 x107_3).f3)
                      ·rw [if_pos c88] at H
                       have c88b0 : (((rd_T41 t329 (ji60)).f3) == ((rd_T41 t329 x107_3).f3)) = true := beq_iff_eq.mpr c88
                       have c88b1 : (((rd_T41 t329 (ji60)).f3) != ((rd_T41 t329 x107_3).f3)) = false := bne_eq_false_iff_eq.mpr c88
                       clear c88
                       by_cases c89 : ((rd_T41 t329 (ji60)).f0) ≤ ((rd_T41 t329 x107_3).f0)
                       ·rw [if_pos c89] at H
                        have c89b0 : decide (((rd_T41 t329 (ji60)).f0) ≤ ((rd_T41 t329 x107_3).f0)) = true := decide_eq_true c89
                        clear c89
                        obtain rfl := Option.some.inj H
                        have hnb90 := NB343_341.out
                        have hnc90 := NB341_343.out
                        have hcz91_0 : wc.cell? ⟨gb343, 0, none⟩ = some (.int .i64 ((rd_T41 t329 (ji60)).f0)) := (blk_cell BK343.out 0).trans rfl
                        have hcz91_1 : wc.cell? ⟨gb343, 1, none⟩ = some (.int .i64 ((rd_T41 t329 (ji60)).f1)) := (blk_cell BK343.out 1).trans rfl
                        have hcz91_2 : wc.cell? ⟨gb343, 2, none⟩ = some (.int .i64 ((rd_T41 t329 (ji60)).f2)) := (blk_cell BK343.out 2).trans rfl
                        have hcz91_3 : wc.cell? ⟨gb343, 3, none⟩ = some (.int .i64 ((rd_T41 t329 (ji60)).f3)) := (blk_cell BK343.out 3).trans rfl
                        have hcz91_4 : wc.cell? ⟨gb343, 4, none⟩ = some (.int .i64 ((rd_T41 t329 (ji60)).f4)) := (blk_cell BK343.out 4).trans rfl
                        have hcz91_5 : wc.cell? ⟨gb343, 5, none⟩ = some (.int .u8 ((rd_T41 t329 (ji60)).f5)) := (blk_cell BK343.out 5).trans rfl
                        have hfz91_0 := blk_frozen BK343.out 0
                        have hfz91_1 := blk_frozen BK343.out 1
                        have hfz91_2 := blk_frozen BK343.out 2
                        have hfz91_3 := blk_frozen BK343.out 3
                        have hfz91_4 := blk_frozen BK343.out 4
                        have hfz91_5 := blk_frozen BK343.out 5
                        have hcz92_0 : wc.cell? ⟨gb341, 0, none⟩ = some (.int .i64 ((rd_T41 t329 x107_3).f0)) := (blk_cell BK341.out 0).trans rfl
                        have hcz92_1 : wc.cell? ⟨gb341, 1, none⟩ = some (.int .i64 ((rd_T41 t329 x107_3).f1)) := (blk_cell BK341.out 1).trans rfl
                        have hcz92_2 : wc.cell? ⟨gb341, 2, none⟩ = some (.int .i64 ((rd_T41 t329 x107_3).f2)) := (blk_cell BK341.out 2).trans rfl
                        have hcz92_3 : wc.cell? ⟨gb341, 3, none⟩ = some (.int .i64 ((rd_T41 t329 x107_3).f3)) := (blk_cell BK341.out 3).trans rfl
                        have hcz92_4 : wc.cell? ⟨gb341, 4, none⟩ = some (.int .i64 ((rd_T41 t329 x107_3).f4)) := (blk_cell BK341.out 4).trans rfl
                        have hcz92_5 : wc.cell? ⟨gb341, 5, none⟩ = some (.int .u8 ((rd_T41 t329 x107_3).f5)) := (blk_cell BK341.out 5).trans rfl
                        have hfz92_0 := blk_frozen BK341.out 0
                        have hfz92_1 := blk_frozen BK341.out 1
                        have hfz92_2 := blk_frozen BK341.out 2
                        have hfz92_3 := blk_frozen BK341.out 3
                        have hfz92_4 := blk_frozen BK341.out 4
                        have hfz92_5 := blk_frozen BK341.out 5
                        go_wp2
                        go_ret
                        exact ⟨by first | rfl | (simp [errW_none, errW_some] <;> rfl) | (simp only [← hji60]; first | rfl | (simp [errW_none, errW_some] <;> rfl)) | (simp [*, errW_none, errW_some] <;> rfl), by repeat (first | (with_reducible first | exact HB.out | apply below_alloc | apply pw_below_drewN | apply below_drew1 | refine below_set ?_ GE341.out | refine below_set ?_ GE343.out) | exact HB.out)⟩
                       ·rw [if_neg c89] at H
                        have c89b0 : decide (((rd_T41 t329 (ji60)).f0) ≤ ((rd_T41 t329 x107_3).f0)) = false := decide_eq_false c89
                        clear c89
                        have H' := Aside0.mk H
                        clear H
                        have hnb93 := NB343_341.out
                        have hnc93 := NB341_343.out
                        have hcz94_0 : wc.cell? ⟨gb343, 0, none⟩ = some (.int .i64 ((rd_T41 t329 (ji60)).f0)) := (blk_cell BK343.out 0).trans rfl
                        have hcz94_1 : wc.cell? ⟨gb343, 1, none⟩ = some (.int .i64 ((rd_T41 t329 (ji60)).f1)) := (blk_cell BK343.out 1).trans rfl
                        have hcz94_2 : wc.cell? ⟨gb343, 2, none⟩ = some (.int .i64 ((rd_T41 t329 (ji60)).f2)) := (blk_cell BK343.out 2).trans rfl
                        have hcz94_3 : wc.cell? ⟨gb343, 3, none⟩ = some (.int .i64 ((rd_T41 t329 (ji60)).f3)) := (blk_cell BK343.out 3).trans rfl
                        have hcz94_4 : wc.cell? ⟨gb343, 4, none⟩ = some (.int .i64 ((rd_T41 t329 (ji60)).f4)) := (blk_cell BK343.out 4).trans rfl
                        have hcz94_5 : wc.cell? ⟨gb343, 5, none⟩ = some (.int .u8 ((rd_T41 t329 (ji60)).f5)) := (blk_cell BK343.out 5).trans rfl
                        have hfz94_0 := blk_frozen BK343.out 0
                        have hfz94_1 := blk_frozen BK343.out 1
                        have hfz94_2 := blk_frozen BK343.out 2
                        have hfz94_3 := blk_frozen BK343.out 3
                        have hfz94_4 := blk_frozen BK343.out 4
                        have hfz94_5 := blk_frozen BK343.out 5
                        have hcz95_0 : wc.cell? ⟨gb341, 0, none⟩ = some (.int .i64 ((rd_T41 t329 x107_3).f0)) := (blk_cell BK341.out 0).trans rfl
                        have hcz95_1 : wc.cell? ⟨gb341, 1, none⟩ = some (.int .i64 ((rd_T41 t329 x107_3).f1)) := (blk_cell BK341.out 1).trans rfl
                        have hcz95_2 : wc.cell? ⟨gb341, 2, none⟩ = some (.int .i64 ((rd_T41 t329 x107_3).f2)) := (blk_cell BK341.out 2).trans rfl
                        have hcz95_3 : wc.cell? ⟨gb341, 3, none⟩ = some (.int .i64 ((rd_T41 t329 x107_3).f3)) := (blk_cell BK341.out 3).trans rfl
                        have hcz95_4 : wc.cell? ⟨gb341, 4, none⟩ = some (.int .i64 ((rd_T41 t329 x107_3).f4)) := (blk_cell BK341.out 4).trans rfl
                        have hcz95_5 : wc.cell? ⟨gb341, 5, none⟩ = some (.int .u8 ((rd_T41 t329 x107_3).f5)) := (blk_cell BK341.out 5).trans rfl
                        have hfz95_0 := blk_frozen BK341.out 0
                        have hfz95_1 := blk_frozen BK341.out 1
                        have hfz95_2 := blk_frozen BK341.out 2
                        have hfz95_3 := blk_frozen BK341.out 3
                        have hfz95_4 := blk_frozen BK341.out 4
                        have hfz95_5 := blk_frozen BK341.out 5
                        go_wp2
                        go_roundg kj62
                        case measure => have := HJ6.out; have := HK2.out; have := HK3.out; have := HJ47.out; have := HJ62.out; omega
                        case rel => exact ⟨(wrap64 (x107_3 + 1)), (by first | rfl | (simp; done) | (simp [*]; done)), H', ⟨by have := HJ6.out; have := HK2.out; have := HK3.out; have := HJ47.out; have := HJ62.out; omega⟩, ⟨by (with_reducible repeat (first | apply Kd.R_alloc | apply Kd.R_drewN | apply Kd.R_drew)); exact Kd.R_mono HO_10.out (fun _ hk => trivial)⟩, ⟨by (with_reducible repeat (first | apply Kd.R_alloc | apply Kd.R_drewN | apply Kd.R_drew)); exact Kd.R_mono HO_105.out (fun _ hk => trivial)⟩, ⟨by repeat (first | (with_reducible first | exact HB.out | apply below_alloc | apply pw_below_drewN | apply below_drew1 | refine below_set ?_ GE341.out | refine below_set ?_ GE343.out) | exact HB.out)⟩⟩
                      ·rw [if_neg c88] at H
                       have c88b0 : (((rd_T41 t329 (ji60)).f3) == ((rd_T41 t329 x107_3).f3)) = false := beq_eq_false_iff_ne.mpr c88
                       have c88b1 : (((rd_T41 t329 (ji60)).f3) != ((rd_T41 t329 x107_3).f3)) = true := bne_iff_ne.mpr c88
                       have H' := Aside0.mk H
                       clear H
                       have hnb96 := NB343_341.out
                       have hnc96 := NB341_343.out
                       have hcz97_0 : wc.cell? ⟨gb343, 0, none⟩ = some (.int .i64 ((rd_T41 t329 (ji60)).f0)) := (blk_cell BK343.out 0).trans rfl
                       have hcz97_1 : wc.cell? ⟨gb343, 1, none⟩ = some (.int .i64 ((rd_T41 t329 (ji60)).f1)) := (blk_cell BK343.out 1).trans rfl
                       have hcz97_2 : wc.cell? ⟨gb343, 2, none⟩ = some (.int .i64 ((rd_T41 t329 (ji60)).f2)) := (blk_cell BK343.out 2).trans rfl
                       have hcz97_3 : wc.cell? ⟨gb343, 3, none⟩ = some (.int .i64 ((rd_T41 t329 (ji60)).f3)) := (blk_cell BK343.out 3).trans rfl
                       have hcz97_4 : wc.cell? ⟨gb343, 4, none⟩ = some (.int .i64 ((rd_T41 t329 (ji60)).f4)) := (blk_cell BK343.out 4).trans rfl
                       have hcz97_5 : wc.cell? ⟨gb343, 5, none⟩ = some (.int .u8 ((rd_T41 t329 (ji60)).f5)) := (blk_cell BK343.out 5).trans rfl
                       have hfz97_0 := blk_frozen BK343.out 0
                       have hfz97_1 := blk_frozen BK343.out 1
                       have hfz97_2 := blk_frozen BK343.out 2
                       have hfz97_3 := blk_frozen BK343.out 3
                       have hfz97_4 := blk_frozen BK343.out 4
                       have hfz97_5 := blk_frozen BK343.out 5
                       have hcz98_0 : wc.cell? ⟨gb341, 0, none⟩ = some (.int .i64 ((rd_T41 t329 x107_3).f0)) := (blk_cell BK341.out 0).trans rfl
                       have hcz98_1 : wc.cell? ⟨gb341, 1, none⟩ = some (.int .i64 ((rd_T41 t329 x107_3).f1)) := (blk_cell BK341.out 1).trans rfl
                       have hcz98_2 : wc.cell? ⟨gb341, 2, none⟩ = some (.int .i64 ((rd_T41 t329 x107_3).f2)) := (blk_cell BK341.out 2).trans rfl
                       have hcz98_3 : wc.cell? ⟨gb341, 3, none⟩ = some (.int .i64 ((rd_T41 t329 x107_3).f3)) := (blk_cell BK341.out 3).trans rfl
                       have hcz98_4 : wc.cell? ⟨gb341, 4, none⟩ = some (.int .i64 ((rd_T41 t329 x107_3).f4)) := (blk_cell BK341.out 4).trans rfl
                       have hcz98_5 : wc.cell? ⟨gb341, 5, none⟩ = some (.int .u8 ((rd_T41 t329 x107_3).f5)) := (blk_cell BK341.out 5).trans rfl
                       have hfz98_0 := blk_frozen BK341.out 0
                       have hfz98_1 := blk_frozen BK341.out 1
                       have hfz98_2 := blk_frozen BK341.out 2
                       have hfz98_3 := blk_frozen BK341.out 3
                       have hfz98_4 := blk_frozen BK341.out 4
                       have hfz98_5 := blk_frozen BK341.out 5
                       go_wp2
                       go_roundg kj62
                       case measure => have := HJ6.out; have := HK2.out; have := HK3.out; have := HJ47.out; have := HJ62.out; omega
                       case rel => exact ⟨(wrap64 (x107_3 + 1)), (by first | rfl | (simp; done) | (simp [*]; done)), H', ⟨by have := HJ6.out; have := HK2.out; have := HK3.out; have := HJ47.out; have := HJ62.out; omega⟩, ⟨by (with_reducible repeat (first | apply Kd.R_alloc | apply Kd.R_drewN | apply Kd.R_drew)); exact Kd.R_mono HO_10.out (fun _ hk => trivial)⟩, ⟨by (with_reducible repeat (first | apply Kd.R_alloc | apply Kd.R_drewN | apply Kd.R_drew)); exact Kd.R_mono HO_105.out (fun _ hk => trivial)⟩, ⟨by repeat (first | (with_reducible first | exact HB.out | apply below_alloc | apply pw_below_drewN | apply below_drew1 | refine below_set ?_ GE341.out | refine below_set ?_ GE343.out) | exact HB.out)⟩⟩
                 ·rw [if_neg c62] at H
                  exact absurd H (by simp)
                ·rw [if_neg c61] at H
                 exact absurd H (by simp)
           ·rw [if_neg c47] at H
            exact absurd H (by simp)
          ·rw [if_neg c46] at H
           exact absurd H (by simp)
         ·rw [if_neg c45] at H
          have c45b0 : decide (x107_3 < (t329.length : Int)) = false := decide_eq_false c45
          clear c45
          by_cases c99 : x14_2 = (t329.length : Int)
          ·rw [if_pos c99] at H
           have c99b0 : (x14_2 == (t329.length : Int)) = true := beq_iff_eq.mpr c99
           have c99b1 : (x14_2 != (t329.length : Int)) = false := bne_eq_false_iff_eq.mpr c99
           clear c99
           replace H := Option.bind_eq_some_iff.mp H
           obtain ⟨t339, A1000, H⟩ := H
           replace H : (some t339) = some r := H
           have A100 := Aside0.mk A1000
           clear A1000
           obtain rfl := Option.some.inj H
           go_wp2_with (first | (go_at_call 23; (with_reducible refine (letterbaglaw35_awake.calls  t339 _ A100.out).mono ?_); rintro e w101 ⟨rfl, hb⟩; have n0_ := Aside0.mk (Kd.R_below (by (with_reducible repeat (first | apply Kd.R_alloc | apply Kd.R_drewN | apply Kd.R_drew)); exact HO_10.out) hb); have n1_ := Aside0.mk (Kd.R_below (by (with_reducible repeat (first | apply Kd.R_alloc | apply Kd.R_drewN | apply Kd.R_drew)); exact HO_105.out) hb); have n2_ := Aside0.mk (below_step (by repeat (first | (with_reducible first | exact HB.out | apply below_alloc | apply pw_below_drewN | apply below_drew1) | exact HB.out)) hb); clear HO_10; clear HO_105; clear HB; have HO_10 := n0_; have HO_105 := n1_; have HB := n2_; clear n0_ n1_ n2_; (try clear hb); (try clear hb2); (try clear hk); (try clear hi)))
           go_ret
           exact ⟨by first | rfl | (simp [errW_none, errW_some] <;> rfl) | (simp [*, errW_none, errW_some] <;> rfl), by repeat (first | (with_reducible first | exact HB.out | apply below_alloc | apply pw_below_drewN | apply below_drew1) | exact HB.out)⟩
          ·rw [if_neg c99] at H
           have c99b0 : (x14_2 == (t329.length : Int)) = false := beq_eq_false_iff_ne.mpr c99
           have c99b1 : (x14_2 != (t329.length : Int)) = true := bne_iff_ne.mpr c99
           obtain rfl := Option.some.inj H
           go_wp2
           go_ret
           exact ⟨by first | rfl | (simp [errW_none, errW_some] <;> rfl) | (simp [*, errW_none, errW_some] <;> rfl), by repeat (first | (with_reducible first | exact HB.out | apply below_alloc | apply pw_below_drewN | apply below_drew1) | exact HB.out)⟩
end Go.Proofs.Ytgffddbhnggllaa.QF
namespace Go.Proofs.Ytgffddbhnggllaa.Ed
open Go.RowKit Go.Proofs.YtgffddbhnggllaaW.PrintWords QF
open letterbaglaw35_OrderRules
theorem rd_get (L : List S41) (i : Nat) (h : i < L.length) : rd_T41 L (i : Int) = L[i] := by
  unfold rd_T41; rw [Int.toNat_natCast, List.getD_eq_getElem?_getD, List.getElem?_eq_getElem h]; rfl
theorem wsucc (i : Nat) (h : i ≤ 100000) : wrap64 ((i : Int) + 1) = ((i + 1 : Nat) : Int) := by rw [w64n _ (by omega) (by omega)]; omega
def hitO (p d : Int) (o : S41) : Bool := o.f1 == p && coversO o d
theorem covers_iff {o : S41} {d : Int} : coversO o d = true ↔ o.f3 ≤ d ∧ (o.f5 = 1 ∨ d ≤ o.f4) := by unfold coversO; simp
theorem rules_l0 (p d : Int) (A L : List S41) (hL : L.length ≤ 1000) (g : Int → Bool)
    (hf : ∀ n : Nat, n ≤ 1000 → Ev (fun k => letterbaglaw35_OrderRules.l1 k p d A (n : Int) A (A.length : Int) 0) (g n)) : ∀ (m i n : Nat), L.length - i = m → i ≤ L.length → n ≤ i →
    Ev (fun k => letterbaglaw35_OrderRules.l0 k p d A (n : Int) L (L.length : Int) (i : Int)) (g ((n + ((L.drop i).filter (hitO p d)).length : Nat) : Int)) := by
  intro m
  induction m with
  | zero =>
    intro i n hm hi hn
    obtain rfl : i = L.length := by omega
    refine Ev.step (f := fun k => letterbaglaw35_OrderRules.l1 k p d A (n : Int) A (A.length : Int) 0) (fun k => by rw [letterbaglaw35_OrderRules.l0, if_neg (by omega)]) ?_
    rw [List.drop_length]
    exact hf n (by omega)
  | succ m ih =>
    intro i n hm hi hn
    have hil : i < L.length := by omega
    have e := rd_get L i hil
    rw [List.drop_eq_getElem_cons hil]
    generalize L[i] = o at e ⊢
    have hno : ∀ b : Bool, b = hitO p d o → ((o :: L.drop (i + 1)).filter (hitO p d)).length = (if b = true then 1 else 0) + ((L.drop (i + 1)).filter (hitO p d)).length := by
      intro b hb
      rw [List.filter_cons, ← hb]
      cases b <;> simp <;> omega
    have yes : hitO p d o = true → Ev (fun k => letterbaglaw35_OrderRules.l0 k p d A (wrap64 ((n : Int) + 1)) L (L.length : Int) (wrap64 ((i : Int) + 1))) (g ((n + ((o :: L.drop (i + 1)).filter (hitO p d)).length : Nat) : Int)) := fun h => by
      rw [wsucc n (by omega), wsucc i (by omega), hno true h.symm, if_pos rfl]
      have := ih (i + 1) (n + 1) (by omega) (by omega) (by omega)
      rw [show n + (1 + ((L.drop (i + 1)).filter (hitO p d)).length) = n + 1 + ((L.drop (i + 1)).filter (hitO p d)).length by omega]
      exact this
    have no : hitO p d o = false → Ev (fun k => letterbaglaw35_OrderRules.l0 k p d A (n : Int) L (L.length : Int) (wrap64 ((i : Int) + 1))) (g ((n + ((o :: L.drop (i + 1)).filter (hitO p d)).length : Nat) : Int)) := fun h => by
      rw [wsucc i (by omega), hno false h.symm, if_neg (by simp), Nat.zero_add]
      exact ih (i + 1) n (by omega) (by omega) (by omega)
    by_cases h1 : o.f1 = p
    · by_cases h2 : o.f3 ≤ d
      · by_cases h3 : o.f5 = 1
        · refine Ev.step (fun k => ?_) (yes (by unfold hitO; rw [beq_iff_eq.2 h1, covers_iff.2 ⟨h2, .inl h3⟩]; rfl))
          rw [letterbaglaw35_OrderRules.l0, if_pos (by omega), if_pos (by omega), if_pos (by omega), e, if_pos h1, if_pos h2, if_pos h3]
        · by_cases h4 : d ≤ o.f4
          · refine Ev.step (fun k => ?_) (yes (by unfold hitO; rw [beq_iff_eq.2 h1, covers_iff.2 ⟨h2, .inr h4⟩]; rfl))
            rw [letterbaglaw35_OrderRules.l0, if_pos (by omega), if_pos (by omega), if_pos (by omega), e, if_pos h1, if_pos h2, if_neg h3, if_pos h4]
          · refine Ev.step (fun k => ?_) (no (by
              unfold hitO
              have : coversO o d = false := by
                cases hc : coversO o d with
                | false => rfl
                | true => have := covers_iff.1 hc; omega
              rw [this]; simp))
            rw [letterbaglaw35_OrderRules.l0, if_pos (by omega), if_pos (by omega), if_pos (by omega), e, if_pos h1, if_pos h2, if_neg h3, if_neg h4]
      · refine Ev.step (fun k => ?_) (no (by
          unfold hitO
          have : coversO o d = false := by
            cases hc : coversO o d with
            | false => rfl
            | true => have := covers_iff.1 hc; omega
          rw [this]; simp))
        rw [letterbaglaw35_OrderRules.l0, if_pos (by omega), if_pos (by omega), if_pos (by omega), e, if_pos h1, if_neg h2]
    · refine Ev.step (fun k => ?_) (no (by unfold hitO; rw [beq_eq_false_iff_ne.2 h1]; rfl))
      rw [letterbaglaw35_OrderRules.l0, if_pos (by omega), if_pos (by omega), if_pos (by omega), e, if_neg h1]
def Step1 (a o : S41) : Prop := if (a.f5 ≠ o.f5 ∧ (a.f5 = 3 ∨ o.f5 = 3)) then o.f5 ≠ 3 else (o.f3 < a.f3 ∨ o.f3 = a.f3 ∧ o.f0 < a.f0)
theorem rules_l1 (p d : Int) (A : List S41) (n : Int) (hA : A.length ≤ 1000) (hm : ∀ o ∈ A, o.f1 = p ∧ coversO o d = true) (hs : ∀ i, (h : i + 1 < A.length) → Step1 A[i] A[i + 1]) : ∀ (m i : Nat), A.length - i = m → i ≤ A.length →
    Ev (fun k => letterbaglaw35_OrderRules.l1 k p d A n A (A.length : Int) (i : Int)) (decide (n = (A.length : Int))) := by
  intro m
  induction m with
  | zero =>
    intro i hm' hi
    obtain rfl : i = A.length := by omega
    refine Ev.step (f := fun _ => some (decide (n = (A.length : Int)))) (fun k => ?_) (Ev.now _)
    rw [letterbaglaw35_OrderRules.l1, if_neg (by omega)]
    by_cases h : n = (A.length : Int)
    · rw [if_pos h, decide_eq_true h]; rfl
    · rw [if_neg h, decide_eq_false h]
  | succ m ih =>
    intro i hm' hi
    have hil : i < A.length := by omega
    have e := rd_get A i hil
    have ho := hm A[i] (List.getElem_mem hil)
    have next := ih (i + 1) (by omega) (by omega)
    rw [← wsucc i (by omega)] at next
    obtain ⟨h1, h2⟩ := ho
    have h2 := covers_iff.1 h2
    refine Ev.step (f := fun k => letterbaglaw35_OrderRules.j3 k p d A n (i : Int) A (A.length : Int) (i : Int) false A[i].f0 A[i].f1 A[i].f2 A[i].f3 A[i].f4 A[i].f5) (fun k => ?_) ?_
    · rw [letterbaglaw35_OrderRules.l1, if_pos (by omega), if_pos (by omega), if_pos (by omega), e, if_pos h1, if_neg (by omega)]
      by_cases h3 : A[i].f5 = 1
      · rw [if_pos h3]
      · rw [if_neg h3, decide_eq_false (by omega)]
    · by_cases h0 : i = 0
      · refine Ev.step (fun k => ?_) next
        rw [letterbaglaw35_OrderRules.j3, if_neg (by simp), if_pos (by omega)]
      · obtain ⟨j, rfl⟩ : ∃ j, i = j + 1 := ⟨i - 1, by omega⟩
        have hj : wrap64 (((j + 1 : Nat) : Int) - 1) = (j : Int) := by rw [w64n _ (by omega) (by omega)]; omega
        have ej := rd_get A j (by omega)
        have hst := hs j hil
        generalize A[j + 1] = o at *
        generalize A[j] = a at *
        unfold Step1 at hst
        by_cases hk : a.f5 ≠ o.f5 ∧ (a.f5 = 3 ∨ o.f5 = 3)
        · rw [if_pos hk] at hst
          refine Ev.step (f := fun k => letterbaglaw35_OrderRules.j4 k p d A n A (A.length : Int) ((j + 1 : Nat) : Int) true o.f0 o.f1 o.f2 o.f3 o.f4 o.f5 a.f0 a.f1 a.f2 a.f3 a.f4 a.f5) (fun k => ?_) (Ev.step (fun k => ?_) next)
          · rw [letterbaglaw35_OrderRules.j3, if_neg (by simp), if_neg (by omega), hj, if_pos (by omega), if_pos (by omega), ej, if_neg hk.1]
            rcases hk.2 with h | h
            · rw [if_pos h]
            · exact absurd h hst
          · rw [letterbaglaw35_OrderRules.j4, if_pos rfl, if_neg hst]
        · rw [if_neg hk] at hst
          refine Ev.step (f := fun k => letterbaglaw35_OrderRules.j4 k p d A n A (A.length : Int) ((j + 1 : Nat) : Int) false o.f0 o.f1 o.f2 o.f3 o.f4 o.f5 a.f0 a.f1 a.f2 a.f3 a.f4 a.f5) (fun k => ?_) (Ev.step (fun k => ?_) next)
          · rw [letterbaglaw35_OrderRules.j3, if_neg (by simp), if_neg (by omega), hj, if_pos (by omega), if_pos (by omega), ej]
            by_cases h5 : a.f5 = o.f5
            · rw [if_pos h5]
            · have h6 : ¬ a.f5 = 3 := fun h => hk ⟨h5, .inl h⟩
              have h7 : ¬ o.f5 = 3 := fun h => hk ⟨h5, .inr h⟩
              rw [if_neg h5, if_neg h6, beq_eq_false_iff_ne.2 h7]
          · rw [letterbaglaw35_OrderRules.j4, if_neg (by simp)]
            rcases hst with h | ⟨h, h'⟩
            · rw [if_neg (by omega), if_neg (by omega)]
            · rw [if_neg (by omega), if_pos h.symm, if_neg (by omega)]
theorem step1_of {a o : S41} (h : befO a o) : Step1 a o := by
  unfold befO rankO at h
  unfold Step1
  split
  · rename_i hk
    intro h3
    rcases hk.2 with q | q
    · exact hk.1 (q.trans h3.symm)
    · rw [if_pos h3] at h
      by_cases q2 : a.f5 = 3
      · exact hk.1 (q2.trans h3.symm)
      · rw [if_neg q2] at h; omega
  · rename_i hk
    by_cases q : a.f5 = 3
    · by_cases q2 : o.f5 = 3
      · rw [if_pos q, if_pos q2] at h; omega
      · exact absurd ⟨fun e => q2 (e ▸ q), .inl q⟩ hk
    · by_cases q2 : o.f5 = 3
      · exact absurd ⟨fun e => q (e ▸ q2), .inr q2⟩ hk
      · rw [if_neg q, if_neg q2] at h; omega
theorem nd_perm {L M : List S41} (h : (L.map (·.f0)).Nodup) (hp : M.Perm L) : (M.map (·.f0)).Nodup := (hp.map _).nodup_iff.2 h
theorem onF_nd {L : List S41} (h : (L.map (·.f0)).Nodup) (d : Int) : ((onF L d).map (·.f0)).Nodup := nd_perm (nd_filter h _) (sortO_perm _)
theorem onF_steps {L : List S41} (h : (L.map (·.f0)).Nodup) (d : Int) (i : Nat) (hi : i + 1 < (onF L d).length) : befO (onF L d)[i] (onF L d)[i + 1] := by
  have hs0 := sortO_sorted (L.filter fun o => coversO o d)
  have hn0 := onF_nd h d
  have key : ∀ M : List S41, SrtO M → (M.map (·.f0)).Nodup → ∀ (i : Nat) (hi : i + 1 < M.length), befO M[i] M[i + 1] := by
    intro M hs hn i hi
    have hs := List.pairwise_iff_getElem.1 hs i (i + 1) (by omega) hi (by omega)
    have hn := List.pairwise_iff_getElem.1 hn i (i + 1) (by rw [List.length_map]; omega) (by rw [List.length_map]; omega) (by omega)
    simp only [List.getElem_map] at hn
    rw [ltO_not] at hs
    unfold befO at hs ⊢
    omega
  exact key _ hs0 hn0 i hi
theorem onof_len (L : List S41) (p d : Int) : (onF (ofF L p) d).length = (L.filter (hitO p d)).length := by
  unfold onF
  rw [sortO_len]
  unfold ofF
  rw [List.filter_filter]
  congr 1
  apply List.filter_congr
  intro o _
  unfold hitO
  rw [Bool.and_comm]
theorem rules_true (l : List S72) (ok : ∀ f ∈ l, okS f) (a1 a2 : Int) (h1 : 0 ≤ a1) (h2 : a1 ≤ 255) (h3 : 0 ≤ a2) (h4 : a2 ≤ 255) : ∃ k, letterbaglaw35_OrderRules.f k l a1 a2 = some true := by
  have hr := built_right l ok
  have hlen := built_len l
  have hnd := built_nd l
  generalize hL : builtL l = L at hr hlen hnd
  have p0 : 1 ≤ 1 + a1 % 6 := by omega
  have p1 : 1 + a1 % 6 ≤ 999999 := by omega
  have d0 : 0 ≤ a2 % 110 := by omega
  have d1 : a2 % 110 ≤ 730484 := by omega
  generalize hp : 1 + a1 % 6 = p at p0 p1
  generalize hd : a2 % 110 = d at d0 d1
  have hAn : (onF (ofF L p) d).length ≤ 20 := by rw [onof_len]; exact Nat.le_trans (List.length_filter_le _ _) hlen
  have hA1 : ∀ o ∈ onF (ofF L p) d, o.f1 = p ∧ coversO o d = true := fun o ho => ⟨(mem_ofF.1 (mem_onF.1 ho).1).2, (mem_onF.1 ho).2⟩
  have hA2 : ∀ i, (h : i + 1 < (onF (ofF L p) d).length) → Step1 (onF (ofF L p) d)[i] (onF (ofF L p) d)[i + 1] := fun i h => step1_of (onF_steps (nd_filter hnd _) d i h)
  have hinf := in_f hr p0 p1 d0 d1
  have hcnt : (onF (ofF L p) d).length = (L.filter (hitO p d)).length := onof_len L p d
  have hid : ∀ o ∈ onF (ofF L p) d, 1 ≤ o.f0 := fun o ho => by
    have hro := right_all hr o (mem_ofF.1 (mem_onF.1 ho).1).1
    unfold rightO at hro
    simp only [Bool.and_eq_true] at hro
    exact (inB_iff.1 hro.1).1
  have hev : Ev (fun k => letterbaglaw35_OrderRules.j0 k L p d (onF (ofF L p) d) false) true := by
    have h := rules_l0 p d (onF (ofF L p) d) L (by omega) (fun n => decide (n = ((onF (ofF L p) d).length : Int))) (fun n hn => rules_l1 p d _ n (by omega) hA1 hA2 _ 0 rfl (by omega)) _ 0 0 rfl (by omega) (by omega)
    rw [List.drop_zero, Nat.zero_add, ← hcnt, decide_eq_true rfl] at h
    refine Ev.step (fun k => ?_) h
    rw [letterbaglaw35_OrderRules.j0, if_neg (by simp)]; rfl
  obtain ⟨K, hK⟩ := hev
  refine ⟨max K 41, ?_⟩
  unfold letterbaglaw35_OrderRules.f
  rw [built_f l ok _ (by omega), Option.bind_some, hL, pt_eq a1 h1 h2, day_eq a2 h3 h4, hp, hd]
  unfold order_All.f order_Right.f
  rw [allF_good hr p0 p1 d0 d1, Option.bind_some, hinf, Option.bind_some, if_pos rfl, if_pos rfl, Option.bind_some, hr, if_pos rfl]
  have hj := hK (max K 41) (by omega)
  cases hA : onF (ofF L p) d with
  | nil =>
    rw [hA] at hj
    rw [if_neg (by simp [idF]), if_neg (by simp)]
    exact hj
  | cons o r =>
    have hoi := hid o (by rw [hA]; simp)
    rw [hA] at hj
    rw [if_neg (by show ¬ (((o.f0 == 0) != (((o :: r).length : Int) == 0)) = true); rw [beq_eq_false_iff_ne.2 (show o.f0 ≠ 0 by omega), beq_eq_false_iff_ne.2 (show ((o :: r).length : Int) ≠ 0 by rw [List.length_cons]; omega)]; decide), if_pos (by simp), if_pos (by simp)]
    have : ((rd_T41 (o :: r) 0).f0 != idF (o :: r)) = false := by simp [rd_T41, idF]
    rw [this]
    exact hj
theorem u8_in {a : Int} (h : (Lit.int .u8 a).wf = true) : 0 ≤ a ∧ a ≤ 255 := by
  simp [Lit.wf, IntKind.min, IntKind.max, IntKind.bits, IntKind.signed] at h; omega
theorem rules_walk (A : Option Addr) (len cap : Nat) (l : List S72) (a1 a2 : Int) (w : World) (h1 : l.length = len) (h2 : len ≤ cap) (h3 : Kd.C k72 w A len l) (h4 : ∀ o ∈ l, okS o) (h5 : (Lit.int .u8 a1).wf = true) (h6 : (Lit.int .u8 a2).wf = true) :
    Calls Try.prog 5 #[.slice A len cap, .int .u8 a1, .int .u8 a2] w fun e w' => e = .returned (.bool true) ∧ Below w.heap.size w w' := by
  subst h1
  obtain ⟨k, h⟩ := rules_true l h4 a1 a2 (u8_in h5).1 (u8_in h5).2 (u8_in h6).1 (u8_in h6).2
  exact letterbaglaw35_OrderRules.calls k A cap l a1 a2 true w h3 h2 h
end Go.Proofs.Ytgffddbhnggllaa.Ed
namespace Go.Proofs.Ytgffddbhnggllaa.Ed
open Go.RowKit Go.Proofs.YtgffddbhnggllaaW.PrintWords QF Go.ChangeShapes Go.WideShapes Go.Deep
section
variable {H : Type} {enc : TypeId × Value → H} {P : Program} {w : World} {base : Nat} {spare : Nat → Bool} {held : Bool}
theorem open_slice_fields {t e : TypeId} {fs : Array Field} {fuel : Nat} {cs : List Value} {x : DataW H × List MemPlace} (ht : P.underlying t = some (.slice e)) (he : P.underlying e = some (.struct fs))
    (hone : oneCellFields P fs = true) (hC : P.cellsOf e = fs.size) (h : DataW.trod enc P w base spare held fuel t cs = some x) :
    (cs = [.slice none 0 0] ∧ x = (.nil, [])) ∨
    ∃ (a : Addr) (len cap m : Nat) (D : Nat → DataW H) (Pl : Nat → List MemPlace), cs = [.slice (some a) len cap] ∧ base ≤ a.block ∧ len ≤ cap ∧ cap ≤ maxLen ∧ m = (if spare a.block then cap else len) ∧
      x = (.slice ((List.range len).map D) ((List.range (m - len)).map fun j => D (len + j)), MemPlace.row a (m * fs.size) ++ (List.range m).flatMap Pl) ∧
      ∀ i, i < m → ∃ (ys : List (DataW H × List MemPlace)) (n : Nat), D i = .agg (ys.map (·.1)) ∧ Pl i = ys.flatMap (·.2) ∧ ys.length = fs.size ∧
        ∀ (j : Nat) (f : Field), fs[j]? = some f → ∃ (v : Value) (y : DataW H × List MemPlace), w.cell? (a.add (i * fs.size + j)) = some v ∧ ys[j]? = some y ∧ DataW.trod enc P w base spare held n f.type [v] = some y := by
  rcases open_slice ht h with h0 | ⟨a, len, cap, m, n, D, Pl, hcs, hb, hl, hm, hmm, hx, hi⟩
  · exact .inl h0
  · refine .inr ⟨a, len, cap, m, D, Pl, hcs, hb, hl, hm, hmm, by rw [hC] at hx; exact hx, fun i him => ?_⟩
    obtain ⟨cs', hc, ht'⟩ := hi i him
    rw [hC] at hc
    obtain ⟨ys, n', hn', hy, hlen, hyl, hf⟩ := DataW.trod_struct he ht'
    obtain ⟨_, hcl, hat⟩ := World.cells?_some hc
    simp only [Prod.mk.injEq] at hy
    refine ⟨ys, n', hy.1, hy.2, hyl, fun j f hj => ?_⟩
    obtain ⟨ho, hk⟩ := hone_of hone j f hj
    have hjl : j < fs.size := (Array.getElem?_eq_some_iff.1 hj).1
    have hcell := hat j hjl
    have hv : cs'[j]? = some (cs'[j]'(by omega)) := List.getElem?_eq_getElem (by omega)
    have h1 := hf j f hj
    rw [ho, hk] at h1
    have hone' : (cs'.drop j).take 1 = [cs'[j]'(by omega)] := by
      rw [List.drop_eq_getElem_cons (by omega)]
      rfl
    rw [hone'] at h1
    have hys : ys[j]? = some (ys[j]'(by omega)) := List.getElem?_eq_getElem (by omega)
    refine ⟨_, _, ?_, hys, h1.trans hys⟩
    rw [← Go.Deep.add_add, hcell, hv]
end
def z72 : S72 := ⟨0, 0, 0, 0, 0⟩
def formAt (W : World) (a : Addr) (i : Nat) : S72 :=
  match W.cell? (a.add (i * 5)), W.cell? (a.add (i * 5 + 1)), W.cell? (a.add (i * 5 + 2)), W.cell? (a.add (i * 5 + 3)), W.cell? (a.add (i * 5 + 4)) with
  | some (.int _ x), some (.int _ y), some (.int _ z), some (.int _ u), some (.int _ v) => ⟨x, y, z, u, v⟩
  | _, _, _, _, _ => z72
theorem open_forms {H : Type} {enc : TypeId × Value → H} {W : World} {v : Value} {d : DataW H} {p : List MemPlace} (h : DataW.Trod enc Try.prog W 0 (fun _ => true) true 22 v d p) {A : Option Addr} {len cap : Nat} (hv : v = .slice A len cap) :
    ∃ l : List S72, l.length = len ∧ len ≤ cap ∧ Kd.C k72 W A len l ∧ ∀ o ∈ l, okS o := by
  subst hv
  obtain ⟨fuel, hf⟩ := h
  rcases open_slice_fields Try.underlying22 Try.underlying72 (by kernel_rfl) (by kernel_rfl) hf with ⟨hcs, _⟩ | ⟨a, l, c, m, D, Pl, hcs, _, hl, hm, hmm, _, hi⟩
  · simp [Value.cells] at hcs
    obtain ⟨rfl, rfl, rfl⟩ := hcs
    exact ⟨[], rfl, Nat.le_refl _, ⟨rfl, by omega, fun h => absurd h (by omega)⟩, by simp⟩
  · simp [Value.cells] at hcs
    obtain ⟨rfl, rfl, rfl⟩ := hcs
    rw [if_pos rfl] at hmm
    subst hmm
    have hcell : ∀ i, i < len → (W.cell? (a.add (i * 5)) = some (.int .u8 (formAt W a i).f0) ∧ W.cell? (a.add (i * 5 + 1)) = some (.int .u8 (formAt W a i).f1) ∧ W.cell? (a.add (i * 5 + 2)) = some (.int .u8 (formAt W a i).f2) ∧ W.cell? (a.add (i * 5 + 3)) = some (.int .u8 (formAt W a i).f3) ∧ W.cell? (a.add (i * 5 + 4)) = some (.int .u8 (formAt W a i).f4)) ∧ okS (formAt W a i) := by
      intro i hi'
      obtain ⟨ys, n, _, _, _, hj⟩ := hi i (by omega)
      obtain ⟨v0, y0, hc0, _, ht0⟩ := hj 0 _ rfl
      obtain ⟨x0, e0, _, hw0⟩ := DataW.trod_int Try.underlying5 ht0
      simp only [List.cons.injEq, and_true] at e0
      subst e0
      simp [Lit.wf, IntKind.min, IntKind.max, IntKind.bits, IntKind.signed] at hw0
      obtain ⟨v1, y1, hc1, _, ht1⟩ := hj 1 _ rfl
      obtain ⟨x1, e1, _, hw1⟩ := DataW.trod_int Try.underlying5 ht1
      simp only [List.cons.injEq, and_true] at e1
      subst e1
      simp [Lit.wf, IntKind.min, IntKind.max, IntKind.bits, IntKind.signed] at hw1
      obtain ⟨v2, y2, hc2, _, ht2⟩ := hj 2 _ rfl
      obtain ⟨x2, e2, _, hw2⟩ := DataW.trod_int Try.underlying5 ht2
      simp only [List.cons.injEq, and_true] at e2
      subst e2
      simp [Lit.wf, IntKind.min, IntKind.max, IntKind.bits, IntKind.signed] at hw2
      obtain ⟨v3, y3, hc3, _, ht3⟩ := hj 3 _ rfl
      obtain ⟨x3, e3, _, hw3⟩ := DataW.trod_int Try.underlying5 ht3
      simp only [List.cons.injEq, and_true] at e3
      subst e3
      simp [Lit.wf, IntKind.min, IntKind.max, IntKind.bits, IntKind.signed] at hw3
      obtain ⟨v4, y4, hc4, _, ht4⟩ := hj 4 _ rfl
      obtain ⟨x4, e4, _, hw4⟩ := DataW.trod_int Try.underlying5 ht4
      simp only [List.cons.injEq, and_true] at e4
      subst e4
      simp [Lit.wf, IntKind.min, IntKind.max, IntKind.bits, IntKind.signed] at hw4
      have q0 : W.cell? (a.add (i * 5)) = some (.int .u8 x0) := hc0
      have q1 : W.cell? (a.add (i * 5 + 1)) = some (.int .u8 x1) := hc1
      have q2 : W.cell? (a.add (i * 5 + 2)) = some (.int .u8 x2) := hc2
      have q3 : W.cell? (a.add (i * 5 + 3)) = some (.int .u8 x3) := hc3
      have q4 : W.cell? (a.add (i * 5 + 4)) = some (.int .u8 x4) := hc4
      have e : formAt W a i = ⟨x0, x1, x2, x3, x4⟩ := by unfold formAt; rw [q0, q1, q2, q3, q4]
      rw [e]
      refine ⟨⟨q0, q1, q2, q3, q4⟩, ?_⟩
      unfold okS
      simp only
      omega
    refine ⟨(List.range len).map (formAt W a), by simp, hl, ⟨by simp, ?_, fun _ => ⟨a, rfl, ?_⟩⟩, ?_⟩
    · have : maxLen ≤ 9223372036854775807 := by decide
      omega
    · intro j q hq
      rw [List.getElem?_map] at hq
      obtain ⟨j', hj', rfl⟩ := Option.map_eq_some_iff.mp hq
      obtain ⟨hlt, rfl⟩ := List.getElem?_eq_some_iff.mp hj'
      simp only [List.length_range, List.getElem_range] at hlt ⊢
      obtain ⟨⟨q0, q1, q2, q3, q4⟩, _⟩ := hcell j hlt
      refine ⟨[.int .u8 (formAt W a j).f0, .int .u8 (formAt W a j).f1, .int .u8 (formAt W a j).f2, .int .u8 (formAt W a j).f3, .int .u8 (formAt W a j).f4], rfl, k72_mk _ _, ?_⟩
      intro i u hu
      match i, hu with
      | 0, hu => obtain rfl := Option.some.inj hu; exact q0
      | 1, hu => obtain rfl := Option.some.inj hu; exact q1
      | 2, hu => obtain rfl := Option.some.inj hu; exact q2
      | 3, hu => obtain rfl := Option.some.inj hu; exact q3
      | 4, hu => obtain rfl := Option.some.inj hu; exact q4
    · intro o ho
      obtain ⟨j, hj, rfl⟩ := List.mem_map.mp ho
      exact (hcell j (List.mem_range.mp hj)).2
end Go.Proofs.Ytgffddbhnggllaa.Ed
