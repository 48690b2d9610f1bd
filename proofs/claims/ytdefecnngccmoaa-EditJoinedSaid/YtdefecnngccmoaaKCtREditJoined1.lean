/- What is proved: the law EditJoined returns true for every input, and its arguments read behind the call as they read before. Conditions: none. -/
import Derived.WalkKit
import Derived.ProofKit
import Derived.OpenShut
import Derived.ShutString
import Derived.ChangeOld
import Derived.Below
import Derived.SizedLaws
import Derived.Lib.SmallJoins
import Derived.Test.YtdefecnngccmoaaRows
import Derived.Test.YtdefecnngccmoaaKC6
set_option linter.unusedVariables false
set_option linter.unusedSimpArgs false
namespace Go.Proofs.Ytdefecnngccmoaa.QTells
open Go.RowKit Go.Proofs.YtdefecnngccmoaaW.PrintWords Go.Proofs.YtdefecnngccmoaaW.PrintLast Go.Proofs.YtdefecnngccmoaaW.PrintMore
attribute [local go_sem] max2_int min2_int max_two min_two max_three min_three max_four min_four
set_option linter.unusedVariables false
set_option linter.unusedSimpArgs false
open Go.Proofs.Ytdefecnngccmoaa.Ed
mutual
def letterbaglaw06_before.l0 : Nat → List (S38) → List (S38) → Int → Option (Bool)
 | 0, _, _, _ => none
 | k + 1, x0, x1, x5 => if x5 < (x0.length : Int) then (letterbaglaw06_before.j1 k x0 x1 x5 (decide (x5 < (x1.length : Int)))) else (letterbaglaw06_before.j1 k x0 x1 x5 false)
def letterbaglaw06_before.j1 : Nat → List (S38) → List (S38) → Int → Bool → Option (Bool)
 | 0, _, _, _, _ => none
 | k + 1, x0, x1, x5, x15 => if x15 = true then (if 0 ≤ x5 then (if x5 < (x0.length : Int) then (if x5 < (x1.length : Int) then (if ((rd_T38 x0 x5).f0) = ((rd_T38 x1 x5).f0) then (letterbaglaw06_before.l0 k x0 x1 (wrap64 (x5 + 1))) else (some (decide (((rd_T38 x0 x5).f0) < ((rd_T38 x1 x5).f0))))) else (none)) else (none)) else (none)) else (some (decide ((x0.length : Int) ≤ (x1.length : Int))))
end
def letterbaglaw06_before.f (k : Nat) (l0 : List (S38)) (l1 : List (S38)) : Option (Bool) := letterbaglaw06_before.l0 k l0 l1 0
theorem letterbaglaw06_before.mono_l : ∀ k, (∀ y0 y1 y2, LeO (letterbaglaw06_before.l0 k y0 y1 y2) (letterbaglaw06_before.l0 (k + 1) y0 y1 y2)) ∧ (∀ y0 y1 y2 y3, LeO (letterbaglaw06_before.j1 k y0 y1 y2 y3) (letterbaglaw06_before.j1 (k + 1) y0 y1 y2 y3))
 | 0 => ⟨fun _ _ _ r h => by simp [letterbaglaw06_before.l0] at h, fun _ _ _ _ r h => by simp [letterbaglaw06_before.j1] at h⟩
 | k + 1 => by
  obtain ⟨ih0, ih1⟩ := letterbaglaw06_before.mono_l k
  refine ⟨?_, ?_⟩
  ·intro y0 y1 y2
   unfold letterbaglaw06_before.l0
   repeat' first
   | (with_reducible exact ih0 _ _ _)
   | (with_reducible exact ih1 _ _ _ _)
   | (with_reducible exact LeO.refl _)
   | (with_reducible exact LeO.none _)
   | (with_reducible refine LeO.ite ?_ ?_)
   | (with_reducible refine LeO.bind ?_ (fun _ => ?_))
   | exact ih0 _ _ _
   | exact ih1 _ _ _ _
   | exact LeO.none _
   | refine LeO.ite ?_ ?_
   | refine LeO.bind ?_ (fun _ => ?_)
  ·intro y0 y1 y2 y3
   unfold letterbaglaw06_before.j1
   repeat' first
   | (with_reducible exact ih0 _ _ _)
   | (with_reducible exact ih1 _ _ _ _)
   | (with_reducible exact LeO.refl _)
   | (with_reducible exact LeO.none _)
   | (with_reducible refine LeO.ite ?_ ?_)
   | (with_reducible refine LeO.bind ?_ (fun _ => ?_))
   | exact ih0 _ _ _
   | exact ih1 _ _ _ _
   | exact LeO.none _
   | refine LeO.ite ?_ ?_
   | refine LeO.bind ?_ (fun _ => ?_)
theorem letterbaglaw06_before.mono : ∀ a0 a1 k, LeO (letterbaglaw06_before.f k a0 a1) (letterbaglaw06_before.f (k + 1) a0 a1) := by
 intro a0 a1 k
 obtain ⟨ih0, ih1⟩ := letterbaglaw06_before.mono_l k
 unfold letterbaglaw06_before.f
 repeat' first
   | (with_reducible exact ih0 _ _ _)
   | (with_reducible exact ih1 _ _ _ _)
   | (with_reducible exact LeO.refl _)
   | (with_reducible exact LeO.none _)
   | (with_reducible refine LeO.ite ?_ ?_)
   | (with_reducible refine LeO.bind ?_ (fun _ => ?_))
   | exact ih0 _ _ _
   | exact ih1 _ _ _ _
   | exact LeO.none _
   | refine LeO.ite ?_ ?_
   | refine LeO.bind ?_ (fun _ => ?_)
set_option maxHeartbeats 8000000 in
set_option maxRecDepth 100000 in
theorem letterbaglaw06_before.calls (k : Nat) (A0 : Option Addr) (c0 : Nat) (l0 : List (S38)) (A1 : Option Addr) (c1 : Nat) (l1 : List (S38)) (r : Bool) (w : World) (hr0 : Kd.C k38 w A0 l0.length l0) (hc0 : l0.length ≤ c0) (hr1 : Kd.C k38 w A1 l1.length l1) (hc1 : l1.length ≤ c1) (h : letterbaglaw06_before.f k l0 l1 = some r) :
  Calls Try.prog 18 #[.slice A0 l0.length c0, .slice A1 l1.length c1] w fun e w' => e = .returned (.bool r) ∧ Drawn0 w w' := by
 have HR0 := Aside0.mk hr0
 have HC0 := Aside0.mk hc0
 clear hr0 hc0
 have HR1 := Aside0.mk hr1
 have HC1 := Aside0.mk hc1
 clear hr1 hc1
 have H : (letterbaglaw06_before.l0 k l0 l1 0) = some r := h
 clear h
 have H' := Aside0.mk H
 clear H
 go_enter Try.func18, Try.ntmps18
 go_wp2
 repeat (go_quiet (fail); try go_wp2)
 go_loopg [5] k (fun kq v5 w' => ∃ (x5_1 : Int), v5 = .int .i64 x5_1 ∧ Aside0 (letterbaglaw06_before.l0 kq l0 l1 x5_1 = some r) ∧ Aside0 (kq ≤ k) ∧ Drawn0 w w')
 case atStart => exact ⟨(0), (by first | rfl | (simp; done) | (simp [*]; done)), H', ⟨Nat.le_refl _⟩, by repeat (first | exact Drawn0.refl _ | apply Drawn0.step)⟩
 case round =>
  clear H'
  try clear c1
  try clear p2
  obtain ⟨x5_1, rfl, HA, HK1, ⟨m1, rfl⟩⟩ := hrel
  cases gk with
  | zero => exact absurd HA.out (by simp [letterbaglaw06_before.l0])
  | succ k1 =>
   have H := HA.out
   clear HA
   simp only [letterbaglaw06_before.l0] at H
   have HC3 := Aside0.mk H
   clear H
   go_upto_region 2 with (fail)
   repeat (go_quiet (fail); go_upto_region 2 with (fail))
   go_cut [15] (fun v15 wc => ∃ (kq : Nat) (x15_2 : Bool), v15 = .bool x15_2 ∧ Aside0 (letterbaglaw06_before.j1 kq l0 l1 x5_1 x15_2 = some r) ∧ Aside0 (kq ≤ k1) ∧ Drawn0 w wc)
   case first =>
    have H := HC3.out
    clear HC3
    by_cases c4 : x5_1 < (l0.length : Int)
    ·rw [if_pos c4] at H
     have c4b0 : decide (x5_1 < (l0.length : Int)) = true := decide_eq_true c4
     clear c4
     (first | rw [c4b0] | (simp only [i64_w, i32_w]; rw [c4b0]) | skip)
     have H' := Aside0.mk H
     clear H
     go_wp2
     repeat (go_quiet (fail); try go_wp2)
     go_meet
     case rel => exact ⟨_, (decide (x5_1 < (l1.length : Int))), (by first | rfl | (simp; done) | (simp [*]; done)), H', ⟨by have := HK1.out; first | omega | exact Nat.le_refl _⟩, by repeat (first | exact Drawn0.refl _ | apply Drawn0.step)⟩
    ·rw [if_neg c4] at H
     have c4b0 : decide (x5_1 < (l0.length : Int)) = false := decide_eq_false c4
     clear c4
     (first | rw [c4b0] | (simp only [i64_w, i32_w]; rw [c4b0]) | skip)
     have H' := Aside0.mk H
     clear H
     go_wp2
     repeat (go_quiet (fail); try go_wp2)
     go_meet
     case rel => exact ⟨_, (false), (by first | rfl | (simp; done) | (simp [*]; done)), H', ⟨by have := HK1.out; first | omega | exact Nat.le_refl _⟩, by repeat (first | exact Drawn0.refl _ | apply Drawn0.step)⟩
   case rest =>
    clear HC3
    try clear c1
    try clear p2
    try clear c4
    try clear c4b0
    try clear p2
    obtain ⟨kq, x15_2, rfl, HA, HJ2, ⟨mc2, rfl⟩⟩ := hcut
    cases kq with
    | zero => exact absurd HA.out (by simp [letterbaglaw06_before.j1])
    | succ kj2 =>
     have H := HA.out
     clear HA
     simp only [letterbaglaw06_before.j1] at H
     by_cases c5 : x15_2 = true
     ·subst c5
      have H1 : (if 0 ≤ x5_1 then (if x5_1 < (l0.length : Int) then (if x5_1 < (l1.length : Int) then (if ((rd_T38 l0 x5_1).f0) = ((rd_T38 l1 x5_1).f0) then (letterbaglaw06_before.l0 kj2 l0 l1 (wrap64 (x5_1 + 1))) else (some (decide (((rd_T38 l0 x5_1).f0) < ((rd_T38 l1 x5_1).f0))))) else (none)) else (none)) else (none)) = some r := by rw [if_pos rfl] at H; exact H
      clear H
      have H := H1
      clear H1
      by_cases c6 : 0 ≤ x5_1
      ·rw [if_pos c6] at H
       have c6b0 : decide (0 ≤ x5_1) = true := decide_eq_true c6
       clear c6
       by_cases c7 : x5_1 < (l0.length : Int)
       ·rw [if_pos c7] at H
        have c7b0 : decide (x5_1 < (l0.length : Int)) = true := decide_eq_true c7
        clear c7
        by_cases c8 : x5_1 < (l1.length : Int)
        ·rw [if_pos c8] at H
         have c8b0 : decide (x5_1 < (l1.length : Int)) = true := decide_eq_true c8
         clear c8
         by_cases c9 : ((rd_T38 l0 x5_1).f0) = ((rd_T38 l1 x5_1).f0)
         ·rw [if_pos c9] at H
          have c9b0 : (((rd_T38 l0 x5_1).f0) == ((rd_T38 l1 x5_1).f0)) = true := beq_iff_eq.mpr c9
          have c9b1 : (((rd_T38 l0 x5_1).f0) != ((rd_T38 l1 x5_1).f0)) = false := bne_eq_false_iff_eq.mpr c9
          clear c9
          have H' := Aside0.mk H
          clear H
          have p244 : 0 ≤ (x5_1 : Int) := of_decide_eq_true (by first | (with_reducible assumption) | assumption)
          have q244 : x5_1 < (l0.length : Int) := of_decide_eq_true (by first | (with_reducible assumption) | assumption)
          obtain ⟨ad244, e244, hx244_0, hx244_1⟩ := at_T38 HR0.out x5_1 p244 q244
          cases e244
          replace p244 := eq_true p244
          replace q244 := eq_true q244
          have p245 : 0 ≤ (x5_1 : Int) := of_decide_eq_true (by first | (with_reducible assumption) | assumption)
          have q245 : x5_1 < (l1.length : Int) := of_decide_eq_true (by first | (with_reducible assumption) | assumption)
          obtain ⟨ad245, e245, hx245_0, hx245_1⟩ := at_T38 HR1.out x5_1 p245 q245
          cases e245
          replace p245 := eq_true p245
          replace q245 := eq_true q245
          go_wp2
          repeat (go_quiet (fail); try go_wp2)
          go_roundg kj2
          case measure => have := HK1.out; have := HJ2.out; omega
          case rel => exact ⟨(wrap64 (x5_1 + 1)), (by first | rfl | (simp; done) | (simp [*]; done)), H', ⟨by have := HK1.out; have := HJ2.out; omega⟩, by repeat (first | exact Drawn0.refl _ | apply Drawn0.step)⟩
         ·rw [if_neg c9] at H
          have c9b0 : (((rd_T38 l0 x5_1).f0) == ((rd_T38 l1 x5_1).f0)) = false := beq_eq_false_iff_ne.mpr c9
          have c9b1 : (((rd_T38 l0 x5_1).f0) != ((rd_T38 l1 x5_1).f0)) = true := bne_iff_ne.mpr c9
          obtain rfl := Option.some.inj H
          have p244 : 0 ≤ (x5_1 : Int) := of_decide_eq_true (by first | (with_reducible assumption) | assumption)
          have q244 : x5_1 < (l0.length : Int) := of_decide_eq_true (by first | (with_reducible assumption) | assumption)
          obtain ⟨ad244, e244, hx244_0, hx244_1⟩ := at_T38 HR0.out x5_1 p244 q244
          cases e244
          replace p244 := eq_true p244
          replace q244 := eq_true q244
          have p245 : 0 ≤ (x5_1 : Int) := of_decide_eq_true (by first | (with_reducible assumption) | assumption)
          have q245 : x5_1 < (l1.length : Int) := of_decide_eq_true (by first | (with_reducible assumption) | assumption)
          obtain ⟨ad245, e245, hx245_0, hx245_1⟩ := at_T38 HR1.out x5_1 p245 q245
          cases e245
          replace p245 := eq_true p245
          replace q245 := eq_true q245
          have p246 : 0 ≤ (x5_1 : Int) := of_decide_eq_true (by first | (with_reducible assumption) | assumption)
          have q246 : x5_1 < (l0.length : Int) := of_decide_eq_true (by first | (with_reducible assumption) | assumption)
          obtain ⟨ad246, e246, hx246_0, hx246_1⟩ := at_T38 HR0.out x5_1 p246 q246
          obtain rfl : ad244 = ad246 := (by injection e246)
          replace p246 := eq_true p246
          replace q246 := eq_true q246
          have p247 : 0 ≤ (x5_1 : Int) := of_decide_eq_true (by first | (with_reducible assumption) | assumption)
          have q247 : x5_1 < (l1.length : Int) := of_decide_eq_true (by first | (with_reducible assumption) | assumption)
          obtain ⟨ad247, e247, hx247_0, hx247_1⟩ := at_T38 HR1.out x5_1 p247 q247
          obtain rfl : ad245 = ad247 := (by injection e247)
          replace p247 := eq_true p247
          replace q247 := eq_true q247
          go_wp2
          repeat (go_quiet (fail); try go_wp2)
          go_ret
          exact ⟨by first | rfl | (simp; done) | (simp [*]; done), by repeat (first | exact Drawn0.refl _ | apply Drawn0.step)⟩
        ·rw [if_neg c8] at H
         exact absurd H (by simp)
       ·rw [if_neg c7] at H
        exact absurd H (by simp)
      ·rw [if_neg c6] at H
       exact absurd H (by simp)
     ·replace c5 := Bool.eq_false_iff.mpr c5
      subst c5
      have H1 : (some (decide ((l0.length : Int) ≤ (l1.length : Int)))) = some r := by rw [if_neg (show ¬ (false = true) by decide)] at H; exact H
      clear H
      have H := H1
      clear H1
      obtain rfl := Option.some.inj H
      go_wp2
      repeat (go_quiet (fail); try go_wp2)
      go_ret
      exact ⟨by first | rfl | (simp; done) | (simp [*]; done), by repeat (first | exact Drawn0.refl _ | apply Drawn0.step)⟩
end Go.Proofs.Ytdefecnngccmoaa.QTells
namespace Go.Proofs.Ytdefecnngccmoaa.QTells
open Go.RowKit Go.Proofs.YtdefecnngccmoaaW.PrintWords Go.Proofs.YtdefecnngccmoaaW.PrintLast Go.Proofs.YtdefecnngccmoaaW.PrintMore
attribute [local go_sem] max2_int min2_int max_two min_two max_three min_three max_four min_four
set_option linter.unusedVariables false
set_option linter.unusedSimpArgs false
open Go.Proofs.Ytdefecnngccmoaa.Ed
mutual
def letterbaglaw06_EditLeast.j0 : Nat → ByteArray → List (S38) → Bool → Int → Int → Int → Int → Option (Bool)
 | 0, _, _, _, _, _, _, _ => none
 | k + 1, x0, x1, x33, x249000, x249001, x249002, x249003 => if x33 = true then (some true) else ((edit_Apply.f k x0 x1).bind fun bt251 => (if bt251.2 = 0 then (letterbaglaw06_EditLeast.j1 k x0 x1 bt251.1 (decide ((bt251.1.size : Int) > 60)) x249000 x249001 x249002 x249003) else (letterbaglaw06_EditLeast.j1 k x0 x1 bt251.1 true x249000 x249001 x249002 x249003)))
def letterbaglaw06_EditLeast.j1 : Nat → ByteArray → List (S38) → ByteArray → Bool → Int → Int → Int → Int → Option (Bool)
 | 0, _, _, _, _, _, _, _, _ => none
 | k + 1, x0, x1, x7, x46, x249000, x249001, x249002, x249003 => if x46 = true then (some true) else ((edit_Cost.f x1 x249000 x249001 x249002 x249003).bind fun bt253 => ((edit_Distance.f x0 x7 x249000 x249001 x249002 x249003).bind fun bt255 => ((edit_Path.f x0 x7 x249000 x249001 x249002 x249003).bind fun bt257 => ((edit_Apply.f k x0 bt257.1).bind fun bt262 => ((edit_Cost.f bt257.1 x249000 x249001 x249002 x249003).bind fun bt264 => (if bt253.2 = 0 then (if bt255.2 = 0 then (if bt257.2.2 = 0 then (if bt262.2 = 0 then (if bt264.2 = 0 then (if bt262.1.toList = x7.toList then (if bt255.1 > bt253.1 then (some false) else (if bt257.2.1 = bt255.1 then (if bt264.1 = bt255.1 then (if bt253.1 > bt255.1 then (some true) else ((letterbaglaw06_before.f k bt257.1 x1).bind fun t266 => (some t266))) else (some false)) else (some false))) else (some false)) else (some false)) else (some false)) else (some false)) else (some false)) else (some false)))))))
end
def letterbaglaw06_EditLeast.f (k : Nat) (a0 : ByteArray) (l1 : List (S38)) (a2_0 : Int) (a2_1 : Int) (a2_2 : Int) (a2_3 : Int) : Option (Bool) := (letterbaglaw06_awake.f).bind fun t249 => (if t249 = true then (if (a0.size : Int) > 60 then (letterbaglaw06_EditLeast.j0 k a0 l1 true a2_0 a2_1 a2_2 a2_3) else (if (l1.length : Int) > 120 then (letterbaglaw06_EditLeast.j0 k a0 l1 true a2_0 a2_1 a2_2 a2_3) else ((edit_Right.f a2_0 a2_1 a2_2 a2_3).bind fun t250 => (letterbaglaw06_EditLeast.j0 k a0 l1 (!t250) a2_0 a2_1 a2_2 a2_3)))) else (some false))
theorem letterbaglaw06_EditLeast.mono_l : ∀ k, (∀ y0 y1 y2 y3 y4 y5 y6, LeO (letterbaglaw06_EditLeast.j0 k y0 y1 y2 y3 y4 y5 y6) (letterbaglaw06_EditLeast.j0 (k + 1) y0 y1 y2 y3 y4 y5 y6)) ∧ (∀ y0 y1 y2 y3 y4 y5 y6 y7, LeO (letterbaglaw06_EditLeast.j1 k y0 y1 y2 y3 y4 y5 y6 y7) (letterbaglaw06_EditLeast.j1 (k + 1) y0 y1 y2 y3 y4 y5 y6 y7))
 | 0 => ⟨fun _ _ _ _ _ _ _ r h => by simp [letterbaglaw06_EditLeast.j0] at h, fun _ _ _ _ _ _ _ _ r h => by simp [letterbaglaw06_EditLeast.j1] at h⟩
 | k + 1 => by
  obtain ⟨ih0, ih1⟩ := letterbaglaw06_EditLeast.mono_l k
  refine ⟨?_, ?_⟩
  ·intro y0 y1 y2 y3 y4 y5 y6
   unfold letterbaglaw06_EditLeast.j0
   repeat' first
   | (with_reducible exact ih0 _ _ _ _ _ _ _)
   | (with_reducible exact ih1 _ _ _ _ _ _ _ _)
   | (with_reducible exact edit_Apply.mono _ _ _)
   | (with_reducible exact letterbaglaw06_before.mono _ _ _)
   | (with_reducible exact LeO.refl _)
   | (with_reducible exact LeO.none _)
   | (with_reducible refine LeO.ite ?_ ?_)
   | (with_reducible refine LeO.bind ?_ (fun _ => ?_))
   | exact ih0 _ _ _ _ _ _ _
   | exact ih1 _ _ _ _ _ _ _ _
   | exact edit_Apply.mono _ _ _
   | exact letterbaglaw06_before.mono _ _ _
   | exact LeO.none _
   | refine LeO.ite ?_ ?_
   | refine LeO.bind ?_ (fun _ => ?_)
  ·intro y0 y1 y2 y3 y4 y5 y6 y7
   unfold letterbaglaw06_EditLeast.j1
   repeat' first
   | (with_reducible exact ih0 _ _ _ _ _ _ _)
   | (with_reducible exact ih1 _ _ _ _ _ _ _ _)
   | (with_reducible exact edit_Apply.mono _ _ _)
   | (with_reducible exact letterbaglaw06_before.mono _ _ _)
   | (with_reducible exact LeO.refl _)
   | (with_reducible exact LeO.none _)
   | (with_reducible refine LeO.ite ?_ ?_)
   | (with_reducible refine LeO.bind ?_ (fun _ => ?_))
   | exact ih0 _ _ _ _ _ _ _
   | exact ih1 _ _ _ _ _ _ _ _
   | exact edit_Apply.mono _ _ _
   | exact letterbaglaw06_before.mono _ _ _
   | exact LeO.none _
   | refine LeO.ite ?_ ?_
   | refine LeO.bind ?_ (fun _ => ?_)
theorem letterbaglaw06_EditLeast.mono : ∀ a0 a1 a2 a3 a4 a5 k, LeO (letterbaglaw06_EditLeast.f k a0 a1 a2 a3 a4 a5) (letterbaglaw06_EditLeast.f (k + 1) a0 a1 a2 a3 a4 a5) := by
 intro a0 a1 a2 a3 a4 a5 k
 obtain ⟨ih0, ih1⟩ := letterbaglaw06_EditLeast.mono_l k
 unfold letterbaglaw06_EditLeast.f
 repeat' first
   | (with_reducible exact ih0 _ _ _ _ _ _ _)
   | (with_reducible exact ih1 _ _ _ _ _ _ _ _)
   | (with_reducible exact edit_Apply.mono _ _ _)
   | (with_reducible exact letterbaglaw06_before.mono _ _ _)
   | (with_reducible exact LeO.refl _)
   | (with_reducible exact LeO.none _)
   | (with_reducible refine LeO.ite ?_ ?_)
   | (with_reducible refine LeO.bind ?_ (fun _ => ?_))
   | exact ih0 _ _ _ _ _ _ _
   | exact ih1 _ _ _ _ _ _ _ _
   | exact edit_Apply.mono _ _ _
   | exact letterbaglaw06_before.mono _ _ _
   | exact LeO.none _
   | refine LeO.ite ?_ ?_
   | refine LeO.bind ?_ (fun _ => ?_)
set_option maxHeartbeats 8000000 in
set_option maxRecDepth 100000 in
theorem letterbaglaw06_EditLeast.calls (k : Nat) (a0 : ByteArray) (A1 : Option Addr) (c1 : Nat) (l1 : List (S38)) (a2_0 : Int) (a2_1 : Int) (a2_2 : Int) (a2_3 : Int) (r : Bool) (w : World) (hr1 : Kd.C k38 w A1 l1.length l1) (hc1 : l1.length ≤ c1) (h : letterbaglaw06_EditLeast.f k a0 l1 a2_0 a2_1 a2_2 a2_3 = some r) :
  Calls Try.prog 7 #[.string a0, .slice A1 l1.length c1, .agg #[.int .i64 a2_0, .int .i64 a2_1, .int .i64 a2_2, .int .i64 a2_3]] w fun e w' => e = .returned (.bool r) ∧ Below w.heap.size w w' := by
 have hu23 := Try.underlying23
 have HR1 := Aside0.mk hr1
 have HC1 := Aside0.mk hc1
 clear hr1 hc1
 have HB := Aside0.mk (Below.refl w.heap.size w)
 have H : ((letterbaglaw06_awake.f).bind fun t249 => (if t249 = true then (if (a0.size : Int) > 60 then (letterbaglaw06_EditLeast.j0 k a0 l1 true a2_0 a2_1 a2_2 a2_3) else (if (l1.length : Int) > 120 then (letterbaglaw06_EditLeast.j0 k a0 l1 true a2_0 a2_1 a2_2 a2_3) else ((edit_Right.f a2_0 a2_1 a2_2 a2_3).bind fun t250 => (letterbaglaw06_EditLeast.j0 k a0 l1 (!t250) a2_0 a2_1 a2_2 a2_3)))) else (some false))) = some r := h
 clear h
 replace H := Option.bind_eq_some_iff.mp H
 obtain ⟨t249, A40, H⟩ := H
 replace H : (if t249 = true then (if (a0.size : Int) > 60 then (letterbaglaw06_EditLeast.j0 k a0 l1 true a2_0 a2_1 a2_2 a2_3) else (if (l1.length : Int) > 120 then (letterbaglaw06_EditLeast.j0 k a0 l1 true a2_0 a2_1 a2_2 a2_3) else ((edit_Right.f a2_0 a2_1 a2_2 a2_3).bind fun t250 => (letterbaglaw06_EditLeast.j0 k a0 l1 (!t250) a2_0 a2_1 a2_2 a2_3)))) else (some false)) = some r := H
 have A4 := Aside0.mk A40
 clear A40
 by_cases c5 : t249 = true
 ·subst c5
  have H1 : (if (a0.size : Int) > 60 then (letterbaglaw06_EditLeast.j0 k a0 l1 true a2_0 a2_1 a2_2 a2_3) else (if (l1.length : Int) > 120 then (letterbaglaw06_EditLeast.j0 k a0 l1 true a2_0 a2_1 a2_2 a2_3) else ((edit_Right.f a2_0 a2_1 a2_2 a2_3).bind fun t250 => (letterbaglaw06_EditLeast.j0 k a0 l1 (!t250) a2_0 a2_1 a2_2 a2_3)))) = some r := by rw [if_pos rfl] at H; exact H
  clear H
  have H := H1
  clear H1
  have HC6 := Aside0.mk H
  clear H
  go_enter Try.func7, Try.ntmps7
  go_upto_region 3 with (first | ((with_reducible refine gate_dst (N := 5) rfl ?_); (try (refine gate_guard (by rfl) ?_; dsimp only)); refine box_event ?hg (N := 5) ?hd (cs := #[.int .i64 a2_0, .int .i64 a2_1, .int .i64 a2_2, .int .i64 a2_3]) (t := 23) ?hr ?_; (case hd => rfl); (case hg => rfl); (case hr => first | (go_simp; done) | (go_simp; rfl)); intro gb248 hg w7 hbox hb; have n0_ := Aside0.mk (below_step (by repeat (first | (with_reducible first | exact HB.out | apply below_alloc | apply pw_below_drewN | apply below_drew1) | exact HB.out)) hb); have n1_ := Aside0.mk (hbox); have n2_ := Aside0.mk ((by rw [hg]; exact (below_size (by repeat (first | (with_reducible first | exact HB.out | apply below_alloc | apply pw_below_drewN | apply below_drew1) | exact HB.out))) : w.heap.size ≤ gb248)); have n3_ := Aside0.mk ((by rw [hg]; exact (below_size (by repeat (first | (with_reducible first | exact HB.out | apply below_alloc | apply pw_below_drewN | apply below_drew1) | exact HB.out))) : w.heap.size ≤ gb248)); clear HB; have HB := n0_; have BK248 := n1_; have GW248 := n2_; have GE248 := n3_; clear n0_ n1_ n2_ n3_; clear hb hbox hg) | ((with_reducible refine gate_callee (f := 9) rfl ?_); refine goesL_ (some 19) rfl rfl Try.func9 (by kernel_rfl) rfl #[] rfl (by (try simp only [List.map_toArray, List.map_cons, List.map_nil]); first | done | rfl | (simp only [List.length_drop, List.length_take]; rfl)) ?_; (with_reducible refine (letterbaglaw06_awake.calls  true _ A4.out).mono ?_); rintro e w8 ⟨rfl, hb⟩; refine ⟨_, rfl, ?_⟩; have n0_ := Aside0.mk (blk_below (g := gb248) (o := .cells #[.int .i64 a2_0, .int .i64 a2_1, .int .i64 a2_2, .int .i64 a2_3] 23 (0, 0)) (by (with_reducible repeat (first | refine blk_drewN ?_ _ | refine blk_drew ?_ | refine blk_alloc ?_ _)); exact BK248.out) hb); have n1_ := Aside0.mk (below_step (by repeat (first | (with_reducible first | exact HB.out | apply below_alloc | apply pw_below_drewN | apply below_drew1 | refine below_set ?_ GE248.out) | exact HB.out)) hb); clear BK248; clear HB; have BK248 := n0_; have HB := n1_; clear n0_ n1_; (try clear hb); (try clear hb2); (try clear hk); (try clear hi)))
  (try simp only [Act.put, List.setIfInBounds_toArray, List.set_cons_zero, List.set_cons_succ])
  go_cut [33] (fun v33 wc => ∃ (kq : Nat) (x33_5 : Bool), v33 = .bool x33_5 ∧ Aside0 (letterbaglaw06_EditLeast.j0 kq a0 l1 x33_5 a2_0 a2_1 a2_2 a2_3 = some r) ∧ Aside0 (kq ≤ k) ∧ Aside0 (wc.heap[gb248]? = some (.cells #[.int .i64 a2_0, .int .i64 a2_1, .int .i64 a2_2, .int .i64 a2_3] 23 (0, 0))) ∧ Aside0 (Below w.heap.size w wc))
  case first =>
   have H := HC6.out
   clear HC6
   by_cases c9 : (a0.size : Int) > 60
   ·rw [if_pos c9] at H
    have c9b0 : decide (60 < (a0.size : Int)) = true := decide_eq_true c9
    have c9b1 : decide (60 < a0.size) = true := decide_eq_true (by omega)
    clear c9
    (first | rw [c9b0] | (simp only [i64_w, i32_w]; rw [c9b0]) | skip)
    have H' := Aside0.mk H
    clear H
    go_wp2
    go_meet
    case rel => exact ⟨_, (true), (by first | rfl | (simp; done) | (simp [*]; done)), H', ⟨by first | omega | exact Nat.le_refl _⟩, ⟨by (with_reducible repeat (first | refine blk_drewN ?_ _ | refine blk_drew ?_ | refine blk_alloc ?_ _)); exact BK248.out⟩, ⟨by repeat (first | (with_reducible first | exact HB.out | apply below_alloc | apply pw_below_drewN | apply below_drew1 | refine below_set ?_ GE248.out) | exact HB.out)⟩⟩
   ·rw [if_neg c9] at H
    have c9b0 : decide (60 < (a0.size : Int)) = false := decide_eq_false c9
    have c9b1 : decide (60 < a0.size) = false := decide_eq_false (by omega)
    clear c9
    (first | rw [c9b0] | (simp only [i64_w, i32_w]; rw [c9b0]) | skip)
    by_cases c10 : (l1.length : Int) > 120
    ·rw [if_pos c10] at H
     have c10b0 : decide (120 < (l1.length : Int)) = true := decide_eq_true c10
     have c10b1 : decide (120 < l1.length) = true := decide_eq_true (by omega)
     clear c10
     have H' := Aside0.mk H
     clear H
     go_wp2
     go_meet
     case rel => exact ⟨_, (true), (by first | rfl | (simp; done) | (simp [*]; done)), H', ⟨by first | omega | exact Nat.le_refl _⟩, ⟨by (with_reducible repeat (first | refine blk_drewN ?_ _ | refine blk_drew ?_ | refine blk_alloc ?_ _)); exact BK248.out⟩, ⟨by repeat (first | (with_reducible first | exact HB.out | apply below_alloc | apply pw_below_drewN | apply below_drew1 | refine below_set ?_ GE248.out) | exact HB.out)⟩⟩
    ·rw [if_neg c10] at H
     have c10b0 : decide (120 < (l1.length : Int)) = false := decide_eq_false c10
     have c10b1 : decide (120 < l1.length) = false := decide_eq_false (by omega)
     clear c10
     replace H := Option.bind_eq_some_iff.mp H
     obtain ⟨t250, A110, H⟩ := H
     replace H : (letterbaglaw06_EditLeast.j0 k a0 l1 (!t250) a2_0 a2_1 a2_2 a2_3) = some r := H
     have A11 := Aside0.mk A110
     clear A110
     have H' := Aside0.mk H
     clear H
     have hcz12_0 : w8.cell? ⟨gb248, 0, none⟩ = some (.int .i64 a2_0) := (blk_cell BK248.out 0).trans rfl
     have hcz12_1 : w8.cell? ⟨gb248, 1, none⟩ = some (.int .i64 a2_1) := (blk_cell BK248.out 1).trans rfl
     have hcz12_2 : w8.cell? ⟨gb248, 2, none⟩ = some (.int .i64 a2_2) := (blk_cell BK248.out 2).trans rfl
     have hcz12_3 : w8.cell? ⟨gb248, 3, none⟩ = some (.int .i64 a2_3) := (blk_cell BK248.out 3).trans rfl
     have hfz12_0 := blk_frozen BK248.out 0
     have hfz12_1 := blk_frozen BK248.out 1
     have hfz12_2 := blk_frozen BK248.out 2
     have hfz12_3 := blk_frozen BK248.out 3
     go_wp2_with (first | (go_at_call 11; (with_reducible refine (edit_Right.calls a2_0 a2_1 a2_2 a2_3 t250 _ A11.out).mono ?_); rintro e w13 ⟨rfl, hb⟩; have n0_ := Aside0.mk (blk_below (g := gb248) (o := .cells #[.int .i64 a2_0, .int .i64 a2_1, .int .i64 a2_2, .int .i64 a2_3] 23 (0, 0)) (by (with_reducible repeat (first | refine blk_drewN ?_ _ | refine blk_drew ?_ | refine blk_alloc ?_ _)); exact BK248.out) hb); have n1_ := Aside0.mk (below_step (by repeat (first | (with_reducible first | exact HB.out | apply below_alloc | apply pw_below_drewN | apply below_drew1 | refine below_set ?_ GE248.out) | exact HB.out)) hb); clear BK248; clear HB; have BK248 := n0_; have HB := n1_; clear n0_ n1_; (try clear hb); (try clear hb2); (try clear hk); (try clear hi)))
     go_meet
     case rel => exact ⟨_, (!t250), (by first | rfl | (simp; done) | (simp [*]; done)), H', ⟨by first | omega | exact Nat.le_refl _⟩, ⟨by (with_reducible repeat (first | refine blk_drewN ?_ _ | refine blk_drew ?_ | refine blk_alloc ?_ _)); exact BK248.out⟩, ⟨by repeat (first | (with_reducible first | exact HB.out | apply below_alloc | apply pw_below_drewN | apply below_drew1 | refine below_set ?_ GE248.out) | exact HB.out)⟩⟩
  case rest =>
   clear HC6
   try clear c1
   try clear p2
   try clear c5
   try clear c7
   try clear c9
   try clear c9b0
   try clear c9b1
   try clear c10
   try clear c10b0
   try clear c10b1
   try clear hcz12_0
   try clear hcz12_1
   try clear hcz12_2
   try clear hcz12_3
   try clear hfz12_0
   try clear hfz12_1
   try clear hfz12_2
   try clear hfz12_3
   obtain ⟨kq, x33_5, rfl, HA, HJ5, BK248, HB⟩ := hcut
   cases kq with
   | zero => exact absurd HA.out (by simp [letterbaglaw06_EditLeast.j0])
   | succ kj5 =>
    have H := HA.out
    clear HA
    simp only [letterbaglaw06_EditLeast.j0] at H
    by_cases c14 : x33_5 = true
    ·subst c14
     have H1 : (some true) = some r := by rw [if_pos rfl] at H; exact H
     clear H
     have H := H1
     clear H1
     obtain rfl := Option.some.inj H
     go_wp2
     go_ret
     exact ⟨by first | rfl | (simp [errW_none, errW_some] <;> rfl) | (simp [*, errW_none, errW_some] <;> rfl), by repeat (first | (with_reducible first | exact HB.out | apply below_alloc | apply pw_below_drewN | apply below_drew1 | refine below_set ?_ GE248.out) | exact HB.out)⟩
    ·replace c14 := Bool.eq_false_iff.mpr c14
     subst c14
     have H1 : ((edit_Apply.f kj5 a0 l1).bind fun bt251 => (if bt251.2 = 0 then (letterbaglaw06_EditLeast.j1 kj5 a0 l1 bt251.1 (decide ((bt251.1.size : Int) > 60)) a2_0 a2_1 a2_2 a2_3) else (letterbaglaw06_EditLeast.j1 kj5 a0 l1 bt251.1 true a2_0 a2_1 a2_2 a2_3))) = some r := by rw [if_neg (show ¬ (false = true) by decide)] at H; exact H
     clear H
     have H := H1
     clear H1
     replace H := Option.bind_eq_some_iff.mp H
     obtain ⟨⟨t251, t252⟩, A150, H⟩ := H
     replace H : (if t252 = 0 then (letterbaglaw06_EditLeast.j1 kj5 a0 l1 t251 (decide ((t251.size : Int) > 60)) a2_0 a2_1 a2_2 a2_3) else (letterbaglaw06_EditLeast.j1 kj5 a0 l1 t251 true a2_0 a2_1 a2_2 a2_3)) = some r := H
     have A15 := Aside0.mk A150
     clear A150
     have HC16 := Aside0.mk H
     clear H
     go_upto_region 6 with (first | ((with_reducible refine gate_callee (f := 16) rfl ?_); refine goesL_ (some 37) rfl rfl Try.func16 (by kernel_rfl) rfl #[.string a0, .slice A1 l1.length c1] rfl (by (try simp only [List.map_toArray, List.map_cons, List.map_nil]); first | done | rfl | (simp only [List.length_drop, List.length_take]; rfl)) ?_; (with_reducible refine (edit_Apply.calls kj5 a0 _ _ l1 t251 t252 _ ?side1 ?side2 A15.out).mono ?_); (case side1 => repeat (first | exact (Kd.C_below HR1.out HB.out) | (with_reducible refine Kd.C_alloc ?_ _) | (with_reducible refine Kd.C_drewN ?_ _) | (with_reducible refine Kd.C_drew ?_))); (case side2 => exact HC1.out); rintro e w17 ⟨rfl, hb⟩; refine ⟨_, rfl, ?_⟩; have n0_ := Aside0.mk (blk_below (g := gb248) (o := .cells #[.int .i64 a2_0, .int .i64 a2_1, .int .i64 a2_2, .int .i64 a2_3] 23 (0, 0)) (by (with_reducible repeat (first | refine blk_drewN ?_ _ | refine blk_drew ?_ | refine blk_alloc ?_ _)); exact BK248.out) hb); have n1_ := Aside0.mk (below_step (by repeat (first | (with_reducible first | exact HB.out | apply below_alloc | apply pw_below_drewN | apply below_drew1 | refine below_set ?_ GE248.out) | exact HB.out)) hb); clear BK248; clear HB; have BK248 := n0_; have HB := n1_; clear n0_ n1_; (try clear hb); (try clear hb2); (try clear hk); (try clear hi)))
     (try simp only [Act.put, List.setIfInBounds_toArray, List.set_cons_zero, List.set_cons_succ])
     go_cut [46] (fun v46 wc => ∃ (kq : Nat) (x46_15 : Bool), v46 = .bool x46_15 ∧ Aside0 (letterbaglaw06_EditLeast.j1 kq a0 l1 t251 x46_15 a2_0 a2_1 a2_2 a2_3 = some r) ∧ Aside0 (kq ≤ kj5) ∧ Aside0 (wc.heap[gb248]? = some (.cells #[.int .i64 a2_0, .int .i64 a2_1, .int .i64 a2_2, .int .i64 a2_3] 23 (0, 0))) ∧ Aside0 (Below w.heap.size w wc))
     case first =>
      have H := HC16.out
      clear HC16
      by_cases c18 : t252 = 0
      ·rw [if_pos c18] at H
       have c18b0 : (t252 == 0) = true := beq_iff_eq.mpr c18
       have c18b1 : (t252 != 0) = false := bne_eq_false_iff_eq.mpr c18
       clear c18
       (first | rw [c18b0] | (simp only [i64_w, i32_w]; rw [c18b0]) | skip)
       have H' := Aside0.mk H
       clear H
       go_wp2
       go_meet
       case rel => exact ⟨_, (decide ((t251.size : Int) > 60)), (by first | rfl | (simp; done) | (simp [*]; done)), H', ⟨by have := HJ5.out; first | omega | exact Nat.le_refl _⟩, ⟨by (with_reducible repeat (first | refine blk_drewN ?_ _ | refine blk_drew ?_ | refine blk_alloc ?_ _)); exact BK248.out⟩, ⟨by repeat (first | (with_reducible first | exact HB.out | apply below_alloc | apply pw_below_drewN | apply below_drew1 | refine below_set ?_ GE248.out) | exact HB.out)⟩⟩
      ·rw [if_neg c18] at H
       have c18b0 : (t252 == 0) = false := beq_eq_false_iff_ne.mpr c18
       have c18b1 : (t252 != 0) = true := bne_iff_ne.mpr c18
       (first | rw [c18b0] | (simp only [i64_w, i32_w]; rw [c18b0]) | skip)
       have H' := Aside0.mk H
       clear H
       go_wp2
       go_meet
       case rel => exact ⟨_, (true), (by first | rfl | (simp; done) | (simp [*]; done)), H', ⟨by have := HJ5.out; first | omega | exact Nat.le_refl _⟩, ⟨by (with_reducible repeat (first | refine blk_drewN ?_ _ | refine blk_drew ?_ | refine blk_alloc ?_ _)); exact BK248.out⟩, ⟨by repeat (first | (with_reducible first | exact HB.out | apply below_alloc | apply pw_below_drewN | apply below_drew1 | refine below_set ?_ GE248.out) | exact HB.out)⟩⟩
     case rest =>
      clear HC16
      try clear c1
      try clear p2
      try clear c5
      try clear c7
      try clear c9
      try clear c9b0
      try clear c9b1
      try clear c10
      try clear c10b0
      try clear c10b1
      try clear c14
      try clear c16
      try clear c18
      try clear c18b0
      try clear c18b1
      try clear hcz12_0
      try clear hcz12_1
      try clear hcz12_2
      try clear hcz12_3
      try clear hfz12_0
      try clear hfz12_1
      try clear hfz12_2
      try clear hfz12_3
      try clear p2
      obtain ⟨kq, x46_15, rfl, HA, HJ15, BK248, HB⟩ := hcut
      cases kq with
      | zero => exact absurd HA.out (by simp [letterbaglaw06_EditLeast.j1])
      | succ kj15 =>
       have H := HA.out
       clear HA
       simp only [letterbaglaw06_EditLeast.j1] at H
       by_cases c19 : x46_15 = true
       ·subst c19
        have H1 : (some true) = some r := by rw [if_pos rfl] at H; exact H
        clear H
        have H := H1
        clear H1
        obtain rfl := Option.some.inj H
        go_wp2
        go_ret
        exact ⟨by first | rfl | (simp [errW_none, errW_some] <;> rfl) | (simp [*, errW_none, errW_some] <;> rfl), by repeat (first | (with_reducible first | exact HB.out | apply below_alloc | apply pw_below_drewN | apply below_drew1 | refine below_set ?_ GE248.out) | exact HB.out)⟩
       ·replace c19 := Bool.eq_false_iff.mpr c19
        subst c19
        have H1 : ((edit_Cost.f l1 a2_0 a2_1 a2_2 a2_3).bind fun bt253 => ((edit_Distance.f a0 t251 a2_0 a2_1 a2_2 a2_3).bind fun bt255 => ((edit_Path.f a0 t251 a2_0 a2_1 a2_2 a2_3).bind fun bt257 => ((edit_Apply.f kj15 a0 bt257.1).bind fun bt262 => ((edit_Cost.f bt257.1 a2_0 a2_1 a2_2 a2_3).bind fun bt264 => (if bt253.2 = 0 then (if bt255.2 = 0 then (if bt257.2.2 = 0 then (if bt262.2 = 0 then (if bt264.2 = 0 then (if bt262.1.toList = t251.toList then (if bt255.1 > bt253.1 then (some false) else (if bt257.2.1 = bt255.1 then (if bt264.1 = bt255.1 then (if bt253.1 > bt255.1 then (some true) else ((letterbaglaw06_before.f kj15 bt257.1 l1).bind fun t266 => (some t266))) else (some false)) else (some false))) else (some false)) else (some false)) else (some false)) else (some false)) else (some false)) else (some false))))))) = some r := by rw [if_neg (show ¬ (false = true) by decide)] at H; exact H
        clear H
        have H := H1
        clear H1
        replace H := Option.bind_eq_some_iff.mp H
        obtain ⟨⟨t253, t254⟩, A200, H⟩ := H
        replace H : ((edit_Distance.f a0 t251 a2_0 a2_1 a2_2 a2_3).bind fun bt255 => ((edit_Path.f a0 t251 a2_0 a2_1 a2_2 a2_3).bind fun bt257 => ((edit_Apply.f kj15 a0 bt257.1).bind fun bt262 => ((edit_Cost.f bt257.1 a2_0 a2_1 a2_2 a2_3).bind fun bt264 => (if t254 = 0 then (if bt255.2 = 0 then (if bt257.2.2 = 0 then (if bt262.2 = 0 then (if bt264.2 = 0 then (if bt262.1.toList = t251.toList then (if bt255.1 > t253 then (some false) else (if bt257.2.1 = bt255.1 then (if bt264.1 = bt255.1 then (if t253 > bt255.1 then (some true) else ((letterbaglaw06_before.f kj15 bt257.1 l1).bind fun t266 => (some t266))) else (some false)) else (some false))) else (some false)) else (some false)) else (some false)) else (some false)) else (some false)) else (some false)))))) = some r := H
        have A20 := Aside0.mk A200
        clear A200
        replace H := Option.bind_eq_some_iff.mp H
        obtain ⟨⟨t255, t256⟩, A210, H⟩ := H
        replace H : ((edit_Path.f a0 t251 a2_0 a2_1 a2_2 a2_3).bind fun bt257 => ((edit_Apply.f kj15 a0 bt257.1).bind fun bt262 => ((edit_Cost.f bt257.1 a2_0 a2_1 a2_2 a2_3).bind fun bt264 => (if t254 = 0 then (if t256 = 0 then (if bt257.2.2 = 0 then (if bt262.2 = 0 then (if bt264.2 = 0 then (if bt262.1.toList = t251.toList then (if t255 > t253 then (some false) else (if bt257.2.1 = t255 then (if bt264.1 = t255 then (if t253 > t255 then (some true) else ((letterbaglaw06_before.f kj15 bt257.1 l1).bind fun t266 => (some t266))) else (some false)) else (some false))) else (some false)) else (some false)) else (some false)) else (some false)) else (some false)) else (some false))))) = some r := H
        have A21 := Aside0.mk A210
        clear A210
        replace H := Option.bind_eq_some_iff.mp H
        obtain ⟨⟨t257, t260, t261⟩, A220, H⟩ := H
        replace H : ((edit_Apply.f kj15 a0 t257).bind fun bt262 => ((edit_Cost.f t257 a2_0 a2_1 a2_2 a2_3).bind fun bt264 => (if t254 = 0 then (if t256 = 0 then (if t261 = 0 then (if bt262.2 = 0 then (if bt264.2 = 0 then (if bt262.1.toList = t251.toList then (if t255 > t253 then (some false) else (if t260 = t255 then (if bt264.1 = t255 then (if t253 > t255 then (some true) else ((letterbaglaw06_before.f kj15 t257 l1).bind fun t266 => (some t266))) else (some false)) else (some false))) else (some false)) else (some false)) else (some false)) else (some false)) else (some false)) else (some false)))) = some r := H
        have A22 := Aside0.mk A220
        clear A220
        replace H := Option.bind_eq_some_iff.mp H
        obtain ⟨⟨t262, t263⟩, A230, H⟩ := H
        replace H : ((edit_Cost.f t257 a2_0 a2_1 a2_2 a2_3).bind fun bt264 => (if t254 = 0 then (if t256 = 0 then (if t261 = 0 then (if t263 = 0 then (if bt264.2 = 0 then (if t262.toList = t251.toList then (if t255 > t253 then (some false) else (if t260 = t255 then (if bt264.1 = t255 then (if t253 > t255 then (some true) else ((letterbaglaw06_before.f kj15 t257 l1).bind fun t266 => (some t266))) else (some false)) else (some false))) else (some false)) else (some false)) else (some false)) else (some false)) else (some false)) else (some false))) = some r := H
        have A23 := Aside0.mk A230
        clear A230
        replace H := Option.bind_eq_some_iff.mp H
        obtain ⟨⟨t264, t265⟩, A240, H⟩ := H
        replace H : (if t254 = 0 then (if t256 = 0 then (if t261 = 0 then (if t263 = 0 then (if t265 = 0 then (if t262.toList = t251.toList then (if t255 > t253 then (some false) else (if t260 = t255 then (if t264 = t255 then (if t253 > t255 then (some true) else ((letterbaglaw06_before.f kj15 t257 l1).bind fun t266 => (some t266))) else (some false)) else (some false))) else (some false)) else (some false)) else (some false)) else (some false)) else (some false)) else (some false)) = some r := H
        have A24 := Aside0.mk A240
        clear A240
        by_cases c25 : t254 = 0
        ·rw [if_pos c25] at H
         have c25b0 : (t254 == 0) = true := beq_iff_eq.mpr c25
         have c25b1 : (t254 != 0) = false := bne_eq_false_iff_eq.mpr c25
         clear c25
         by_cases c26 : t256 = 0
         ·rw [if_pos c26] at H
          have c26b0 : (t256 == 0) = true := beq_iff_eq.mpr c26
          have c26b1 : (t256 != 0) = false := bne_eq_false_iff_eq.mpr c26
          clear c26
          by_cases c27 : t261 = 0
          ·rw [if_pos c27] at H
           have c27b0 : (t261 == 0) = true := beq_iff_eq.mpr c27
           have c27b1 : (t261 != 0) = false := bne_eq_false_iff_eq.mpr c27
           clear c27
           by_cases c28 : t263 = 0
           ·rw [if_pos c28] at H
            have c28b0 : (t263 == 0) = true := beq_iff_eq.mpr c28
            have c28b1 : (t263 != 0) = false := bne_eq_false_iff_eq.mpr c28
            clear c28
            by_cases c29 : t265 = 0
            ·rw [if_pos c29] at H
             have c29b0 : (t265 == 0) = true := beq_iff_eq.mpr c29
             have c29b1 : (t265 != 0) = false := bne_eq_false_iff_eq.mpr c29
             clear c29
             by_cases c30 : t262.toList = t251.toList
             ·rw [if_pos c30] at H
              have c30b0 : (t262.toList == t251.toList) = true := beq_iff_eq.mpr c30
              have c30b1 : (t262.toList != t251.toList) = false := bne_eq_false_iff_eq.mpr c30
              clear c30
              by_cases c31 : t255 > t253
              ·rw [if_pos c31] at H
               have c31b0 : decide (t253 < t255) = true := decide_eq_true c31
               clear c31
               obtain rfl := Option.some.inj H
               have hcz32_0 : wc.cell? ⟨gb248, 0, none⟩ = some (.int .i64 a2_0) := (blk_cell BK248.out 0).trans rfl
               have hcz32_1 : wc.cell? ⟨gb248, 1, none⟩ = some (.int .i64 a2_1) := (blk_cell BK248.out 1).trans rfl
               have hcz32_2 : wc.cell? ⟨gb248, 2, none⟩ = some (.int .i64 a2_2) := (blk_cell BK248.out 2).trans rfl
               have hcz32_3 : wc.cell? ⟨gb248, 3, none⟩ = some (.int .i64 a2_3) := (blk_cell BK248.out 3).trans rfl
               have hfz32_0 := blk_frozen BK248.out 0
               have hfz32_1 := blk_frozen BK248.out 1
               have hfz32_2 := blk_frozen BK248.out 2
               have hfz32_3 := blk_frozen BK248.out 3
               go_wp2_with (first | ((with_reducible refine gate_callee (f := 17) rfl ?_); refine goesL_ (some 50) rfl rfl Try.func17 (by kernel_rfl) rfl #[.slice A1 l1.length c1, .agg #[.int .i64 a2_0, .int .i64 a2_1, .int .i64 a2_2, .int .i64 a2_3]] rfl (by (try simp only [List.map_toArray, List.map_cons, List.map_nil]); first | done | rfl | (simp only [List.length_drop, List.length_take]; rfl)) ?_; (with_reducible refine (edit_Cost.calls _ _ l1 a2_0 a2_1 a2_2 a2_3 t253 t254 _ ?side1 ?side2 A20.out).mono ?_); (case side1 => repeat (first | exact (Kd.C_below HR1.out HB.out) | (with_reducible refine Kd.C_alloc ?_ _) | (with_reducible refine Kd.C_drewN ?_ _) | (with_reducible refine Kd.C_drew ?_))); (case side2 => exact HC1.out); rintro e w33 ⟨rfl, hb⟩; refine ⟨_, rfl, ?_⟩; have n0_ := Aside0.mk (blk_below (g := gb248) (o := .cells #[.int .i64 a2_0, .int .i64 a2_1, .int .i64 a2_2, .int .i64 a2_3] 23 (0, 0)) (by (with_reducible repeat (first | refine blk_drewN ?_ _ | refine blk_drew ?_ | refine blk_alloc ?_ _)); exact BK248.out) hb); have n1_ := Aside0.mk (below_step (by repeat (first | (with_reducible first | exact HB.out | apply below_alloc | apply pw_below_drewN | apply below_drew1 | refine below_set ?_ GE248.out) | exact HB.out)) hb); clear BK248; clear HB; have BK248 := n0_; have HB := n1_; clear n0_ n1_; (try clear hb); (try clear hb2); (try clear hk); (try clear hi); have hcz34_0 : w33.cell? ⟨gb248, 0, none⟩ = some (.int .i64 a2_0) := (blk_cell BK248.out 0).trans rfl; have hcz34_1 : w33.cell? ⟨gb248, 1, none⟩ = some (.int .i64 a2_1) := (blk_cell BK248.out 1).trans rfl; have hcz34_2 : w33.cell? ⟨gb248, 2, none⟩ = some (.int .i64 a2_2) := (blk_cell BK248.out 2).trans rfl; have hcz34_3 : w33.cell? ⟨gb248, 3, none⟩ = some (.int .i64 a2_3) := (blk_cell BK248.out 3).trans rfl; have hfz34_0 := blk_frozen BK248.out 0; have hfz34_1 := blk_frozen BK248.out 1; have hfz34_2 := blk_frozen BK248.out 2; have hfz34_3 := blk_frozen BK248.out 3) | ((with_reducible refine gate_callee (f := 12) rfl ?_); refine goesL_ (some 57) rfl rfl Try.func12 (by kernel_rfl) rfl #[.string a0, .string t251, .agg #[.int .i64 a2_0, .int .i64 a2_1, .int .i64 a2_2, .int .i64 a2_3]] rfl (by (try simp only [List.map_toArray, List.map_cons, List.map_nil]); first | done | rfl | (simp only [List.length_drop, List.length_take]; rfl)) ?_; (with_reducible refine (edit_Distance.calls a0 t251 a2_0 a2_1 a2_2 a2_3 t255 t256 _ A21.out).mono ?_); rintro e w35 ⟨rfl, hb⟩; refine ⟨_, rfl, ?_⟩; have n0_ := Aside0.mk (blk_below (g := gb248) (o := .cells #[.int .i64 a2_0, .int .i64 a2_1, .int .i64 a2_2, .int .i64 a2_3] 23 (0, 0)) (by (with_reducible repeat (first | refine blk_drewN ?_ _ | refine blk_drew ?_ | refine blk_alloc ?_ _)); exact BK248.out) hb); have n1_ := Aside0.mk (below_step (by repeat (first | (with_reducible first | exact HB.out | apply below_alloc | apply pw_below_drewN | apply below_drew1 | refine below_set ?_ GE248.out) | exact HB.out)) hb); clear BK248; clear HB; have BK248 := n0_; have HB := n1_; clear n0_ n1_; (try clear hb); (try clear hb2); (try clear hk); (try clear hi); have hcz36_0 : w35.cell? ⟨gb248, 0, none⟩ = some (.int .i64 a2_0) := (blk_cell BK248.out 0).trans rfl; have hcz36_1 : w35.cell? ⟨gb248, 1, none⟩ = some (.int .i64 a2_1) := (blk_cell BK248.out 1).trans rfl; have hcz36_2 : w35.cell? ⟨gb248, 2, none⟩ = some (.int .i64 a2_2) := (blk_cell BK248.out 2).trans rfl; have hcz36_3 : w35.cell? ⟨gb248, 3, none⟩ = some (.int .i64 a2_3) := (blk_cell BK248.out 3).trans rfl; have hfz36_0 := blk_frozen BK248.out 0; have hfz36_1 := blk_frozen BK248.out 1; have hfz36_2 := blk_frozen BK248.out 2; have hfz36_3 := blk_frozen BK248.out 3) | ((with_reducible refine gate_callee (f := 14) rfl ?_); refine goesL_ (some 64) rfl rfl Try.func14 (by kernel_rfl) rfl #[.string a0, .string t251, .agg #[.int .i64 a2_0, .int .i64 a2_1, .int .i64 a2_2, .int .i64 a2_3]] rfl (by (try simp only [List.map_toArray, List.map_cons, List.map_nil]); first | done | rfl | (simp only [List.length_drop, List.length_take]; rfl)) ?_; (with_reducible refine (edit_Path.calls a0 t251 a2_0 a2_1 a2_2 a2_3 t257 t260 t261 _ A22.out).mono ?_); rintro e w37 ⟨v258, rfl, ho0, hb⟩; refine ⟨_, rfl, ?_⟩; have n0_ := Aside0.mk (Kd.R_lower ho0 (below_size (by repeat (first | (with_reducible first | exact HB.out | apply below_alloc | apply pw_below_drewN | apply below_drew1 | refine below_set ?_ GE248.out) | exact HB.out)))); have n1_ := Aside0.mk (blk_below (g := gb248) (o := .cells #[.int .i64 a2_0, .int .i64 a2_1, .int .i64 a2_2, .int .i64 a2_3] 23 (0, 0)) (by (with_reducible repeat (first | refine blk_drewN ?_ _ | refine blk_drew ?_ | refine blk_alloc ?_ _)); exact BK248.out) hb); have n2_ := Aside0.mk (below_step (by repeat (first | (with_reducible first | exact HB.out | apply below_alloc | apply pw_below_drewN | apply below_drew1 | refine below_set ?_ GE248.out) | exact HB.out)) hb); clear BK248; clear HB; have HO259 := n0_; have BK248 := n1_; have HB := n2_; clear n0_ n1_ n2_; (try clear hb); (try clear hb2); (try clear hk); (try clear hi); (try clear ho0); obtain ⟨Ao38, co38, eo38⟩ := Kd.R_slice HO259.out; subst eo38) | ((with_reducible refine gate_callee (f := 16) rfl ?_); refine goesL_ (some 71) rfl rfl Try.func16 (by kernel_rfl) rfl #[.string a0, .slice Ao38 t257.length co38] rfl (by (try simp only [List.map_toArray, List.map_cons, List.map_nil]); first | done | rfl | (simp only [List.length_drop, List.length_take]; rfl)) ?_; (with_reducible refine (edit_Apply.calls kj15 a0 _ _ t257 t262 t263 _ ?side1 ?side2 A23.out).mono ?_); (case side1 => repeat (first | exact (Kd.R_reads' HO259.out).2.2 | (with_reducible refine Kd.C_alloc ?_ _) | (with_reducible refine Kd.C_drewN ?_ _) | (with_reducible refine Kd.C_drew ?_))); (case side2 => exact (Kd.R_reads' HO259.out).2.1); rintro e w39 ⟨rfl, hb⟩; refine ⟨_, rfl, ?_⟩; have n0_ := Aside0.mk (Kd.R_below (by (with_reducible repeat (first | apply Kd.R_alloc | apply Kd.R_drewN | apply Kd.R_drew)); exact HO259.out) hb); have n1_ := Aside0.mk (blk_below (g := gb248) (o := .cells #[.int .i64 a2_0, .int .i64 a2_1, .int .i64 a2_2, .int .i64 a2_3] 23 (0, 0)) (by (with_reducible repeat (first | refine blk_drewN ?_ _ | refine blk_drew ?_ | refine blk_alloc ?_ _)); exact BK248.out) hb); have n2_ := Aside0.mk (below_step (by repeat (first | (with_reducible first | exact HB.out | apply below_alloc | apply pw_below_drewN | apply below_drew1 | refine below_set ?_ GE248.out) | exact HB.out)) hb); clear HO259; clear BK248; clear HB; have HO259 := n0_; have BK248 := n1_; have HB := n2_; clear n0_ n1_ n2_; (try clear hb); (try clear hb2); (try clear hk); (try clear hi); have hcz40_0 : w39.cell? ⟨gb248, 0, none⟩ = some (.int .i64 a2_0) := (blk_cell BK248.out 0).trans rfl; have hcz40_1 : w39.cell? ⟨gb248, 1, none⟩ = some (.int .i64 a2_1) := (blk_cell BK248.out 1).trans rfl; have hcz40_2 : w39.cell? ⟨gb248, 2, none⟩ = some (.int .i64 a2_2) := (blk_cell BK248.out 2).trans rfl; have hcz40_3 : w39.cell? ⟨gb248, 3, none⟩ = some (.int .i64 a2_3) := (blk_cell BK248.out 3).trans rfl; have hfz40_0 := blk_frozen BK248.out 0; have hfz40_1 := blk_frozen BK248.out 1; have hfz40_2 := blk_frozen BK248.out 2; have hfz40_3 := blk_frozen BK248.out 3) | ((with_reducible refine gate_callee (f := 17) rfl ?_); refine goesL_ (some 77) rfl rfl Try.func17 (by kernel_rfl) rfl #[.slice Ao38 t257.length co38, .agg #[.int .i64 a2_0, .int .i64 a2_1, .int .i64 a2_2, .int .i64 a2_3]] rfl (by (try simp only [List.map_toArray, List.map_cons, List.map_nil]); first | done | rfl | (simp only [List.length_drop, List.length_take]; rfl)) ?_; (with_reducible refine (edit_Cost.calls _ _ t257 a2_0 a2_1 a2_2 a2_3 t264 t265 _ ?side1 ?side2 A24.out).mono ?_); (case side1 => repeat (first | exact (Kd.R_reads' HO259.out).2.2 | (with_reducible refine Kd.C_alloc ?_ _) | (with_reducible refine Kd.C_drewN ?_ _) | (with_reducible refine Kd.C_drew ?_))); (case side2 => exact (Kd.R_reads' HO259.out).2.1); rintro e w41 ⟨rfl, hb⟩; refine ⟨_, rfl, ?_⟩; have n0_ := Aside0.mk (Kd.R_below (by (with_reducible repeat (first | apply Kd.R_alloc | apply Kd.R_drewN | apply Kd.R_drew)); exact HO259.out) hb); have n1_ := Aside0.mk (blk_below (g := gb248) (o := .cells #[.int .i64 a2_0, .int .i64 a2_1, .int .i64 a2_2, .int .i64 a2_3] 23 (0, 0)) (by (with_reducible repeat (first | refine blk_drewN ?_ _ | refine blk_drew ?_ | refine blk_alloc ?_ _)); exact BK248.out) hb); have n2_ := Aside0.mk (below_step (by repeat (first | (with_reducible first | exact HB.out | apply below_alloc | apply pw_below_drewN | apply below_drew1 | refine below_set ?_ GE248.out) | exact HB.out)) hb); clear HO259; clear BK248; clear HB; have HO259 := n0_; have BK248 := n1_; have HB := n2_; clear n0_ n1_ n2_; (try clear hb); (try clear hb2); (try clear hk); (try clear hi)))
               go_ret
               exact ⟨by first | rfl | (simp [errW_none, errW_some] <;> rfl) | (simp [*, errW_none, errW_some] <;> rfl), by repeat (first | (with_reducible first | exact HB.out | apply below_alloc | apply pw_below_drewN | apply below_drew1 | refine below_set ?_ GE248.out) | exact HB.out)⟩
              ·rw [if_neg c31] at H
               have c31b0 : decide (t253 < t255) = false := decide_eq_false c31
               clear c31
               by_cases c42 : t260 = t255
               ·rw [if_pos c42] at H
                have c42b0 : (t260 == t255) = true := beq_iff_eq.mpr c42
                have c42b1 : (t260 != t255) = false := bne_eq_false_iff_eq.mpr c42
                clear c42
                by_cases c43 : t264 = t255
                ·rw [if_pos c43] at H
                 have c43b0 : (t264 == t255) = true := beq_iff_eq.mpr c43
                 have c43b1 : (t264 != t255) = false := bne_eq_false_iff_eq.mpr c43
                 clear c43
                 by_cases c44 : t253 > t255
                 ·rw [if_pos c44] at H
                  have c44b0 : decide (t255 < t253) = true := decide_eq_true c44
                  clear c44
                  obtain rfl := Option.some.inj H
                  have hcz45_0 : wc.cell? ⟨gb248, 0, none⟩ = some (.int .i64 a2_0) := (blk_cell BK248.out 0).trans rfl
                  have hcz45_1 : wc.cell? ⟨gb248, 1, none⟩ = some (.int .i64 a2_1) := (blk_cell BK248.out 1).trans rfl
                  have hcz45_2 : wc.cell? ⟨gb248, 2, none⟩ = some (.int .i64 a2_2) := (blk_cell BK248.out 2).trans rfl
                  have hcz45_3 : wc.cell? ⟨gb248, 3, none⟩ = some (.int .i64 a2_3) := (blk_cell BK248.out 3).trans rfl
                  have hfz45_0 := blk_frozen BK248.out 0
                  have hfz45_1 := blk_frozen BK248.out 1
                  have hfz45_2 := blk_frozen BK248.out 2
                  have hfz45_3 := blk_frozen BK248.out 3
                  go_wp2_with (first | ((with_reducible refine gate_callee (f := 17) rfl ?_); refine goesL_ (some 50) rfl rfl Try.func17 (by kernel_rfl) rfl #[.slice A1 l1.length c1, .agg #[.int .i64 a2_0, .int .i64 a2_1, .int .i64 a2_2, .int .i64 a2_3]] rfl (by (try simp only [List.map_toArray, List.map_cons, List.map_nil]); first | done | rfl | (simp only [List.length_drop, List.length_take]; rfl)) ?_; (with_reducible refine (edit_Cost.calls _ _ l1 a2_0 a2_1 a2_2 a2_3 t253 t254 _ ?side1 ?side2 A20.out).mono ?_); (case side1 => repeat (first | exact (Kd.C_below HR1.out HB.out) | (with_reducible refine Kd.C_alloc ?_ _) | (with_reducible refine Kd.C_drewN ?_ _) | (with_reducible refine Kd.C_drew ?_))); (case side2 => exact HC1.out); rintro e w46 ⟨rfl, hb⟩; refine ⟨_, rfl, ?_⟩; have n0_ := Aside0.mk (blk_below (g := gb248) (o := .cells #[.int .i64 a2_0, .int .i64 a2_1, .int .i64 a2_2, .int .i64 a2_3] 23 (0, 0)) (by (with_reducible repeat (first | refine blk_drewN ?_ _ | refine blk_drew ?_ | refine blk_alloc ?_ _)); exact BK248.out) hb); have n1_ := Aside0.mk (below_step (by repeat (first | (with_reducible first | exact HB.out | apply below_alloc | apply pw_below_drewN | apply below_drew1 | refine below_set ?_ GE248.out) | exact HB.out)) hb); clear BK248; clear HB; have BK248 := n0_; have HB := n1_; clear n0_ n1_; (try clear hb); (try clear hb2); (try clear hk); (try clear hi); have hcz47_0 : w46.cell? ⟨gb248, 0, none⟩ = some (.int .i64 a2_0) := (blk_cell BK248.out 0).trans rfl; have hcz47_1 : w46.cell? ⟨gb248, 1, none⟩ = some (.int .i64 a2_1) := (blk_cell BK248.out 1).trans rfl; have hcz47_2 : w46.cell? ⟨gb248, 2, none⟩ = some (.int .i64 a2_2) := (blk_cell BK248.out 2).trans rfl; have hcz47_3 : w46.cell? ⟨gb248, 3, none⟩ = some (.int .i64 a2_3) := (blk_cell BK248.out 3).trans rfl; have hfz47_0 := blk_frozen BK248.out 0; have hfz47_1 := blk_frozen BK248.out 1; have hfz47_2 := blk_frozen BK248.out 2; have hfz47_3 := blk_frozen BK248.out 3) | ((with_reducible refine gate_callee (f := 12) rfl ?_); refine goesL_ (some 57) rfl rfl Try.func12 (by kernel_rfl) rfl #[.string a0, .string t251, .agg #[.int .i64 a2_0, .int .i64 a2_1, .int .i64 a2_2, .int .i64 a2_3]] rfl (by (try simp only [List.map_toArray, List.map_cons, List.map_nil]); first | done | rfl | (simp only [List.length_drop, List.length_take]; rfl)) ?_; (with_reducible refine (edit_Distance.calls a0 t251 a2_0 a2_1 a2_2 a2_3 t255 t256 _ A21.out).mono ?_); rintro e w48 ⟨rfl, hb⟩; refine ⟨_, rfl, ?_⟩; have n0_ := Aside0.mk (blk_below (g := gb248) (o := .cells #[.int .i64 a2_0, .int .i64 a2_1, .int .i64 a2_2, .int .i64 a2_3] 23 (0, 0)) (by (with_reducible repeat (first | refine blk_drewN ?_ _ | refine blk_drew ?_ | refine blk_alloc ?_ _)); exact BK248.out) hb); have n1_ := Aside0.mk (below_step (by repeat (first | (with_reducible first | exact HB.out | apply below_alloc | apply pw_below_drewN | apply below_drew1 | refine below_set ?_ GE248.out) | exact HB.out)) hb); clear BK248; clear HB; have BK248 := n0_; have HB := n1_; clear n0_ n1_; (try clear hb); (try clear hb2); (try clear hk); (try clear hi); have hcz49_0 : w48.cell? ⟨gb248, 0, none⟩ = some (.int .i64 a2_0) := (blk_cell BK248.out 0).trans rfl; have hcz49_1 : w48.cell? ⟨gb248, 1, none⟩ = some (.int .i64 a2_1) := (blk_cell BK248.out 1).trans rfl; have hcz49_2 : w48.cell? ⟨gb248, 2, none⟩ = some (.int .i64 a2_2) := (blk_cell BK248.out 2).trans rfl; have hcz49_3 : w48.cell? ⟨gb248, 3, none⟩ = some (.int .i64 a2_3) := (blk_cell BK248.out 3).trans rfl; have hfz49_0 := blk_frozen BK248.out 0; have hfz49_1 := blk_frozen BK248.out 1; have hfz49_2 := blk_frozen BK248.out 2; have hfz49_3 := blk_frozen BK248.out 3) | ((with_reducible refine gate_callee (f := 14) rfl ?_); refine goesL_ (some 64) rfl rfl Try.func14 (by kernel_rfl) rfl #[.string a0, .string t251, .agg #[.int .i64 a2_0, .int .i64 a2_1, .int .i64 a2_2, .int .i64 a2_3]] rfl (by (try simp only [List.map_toArray, List.map_cons, List.map_nil]); first | done | rfl | (simp only [List.length_drop, List.length_take]; rfl)) ?_; (with_reducible refine (edit_Path.calls a0 t251 a2_0 a2_1 a2_2 a2_3 t257 t260 t261 _ A22.out).mono ?_); rintro e w50 ⟨v258, rfl, ho0, hb⟩; refine ⟨_, rfl, ?_⟩; have n0_ := Aside0.mk (Kd.R_lower ho0 (below_size (by repeat (first | (with_reducible first | exact HB.out | apply below_alloc | apply pw_below_drewN | apply below_drew1 | refine below_set ?_ GE248.out) | exact HB.out)))); have n1_ := Aside0.mk (blk_below (g := gb248) (o := .cells #[.int .i64 a2_0, .int .i64 a2_1, .int .i64 a2_2, .int .i64 a2_3] 23 (0, 0)) (by (with_reducible repeat (first | refine blk_drewN ?_ _ | refine blk_drew ?_ | refine blk_alloc ?_ _)); exact BK248.out) hb); have n2_ := Aside0.mk (below_step (by repeat (first | (with_reducible first | exact HB.out | apply below_alloc | apply pw_below_drewN | apply below_drew1 | refine below_set ?_ GE248.out) | exact HB.out)) hb); clear BK248; clear HB; have HO259 := n0_; have BK248 := n1_; have HB := n2_; clear n0_ n1_ n2_; (try clear hb); (try clear hb2); (try clear hk); (try clear hi); (try clear ho0); obtain ⟨Ao51, co51, eo51⟩ := Kd.R_slice HO259.out; subst eo51) | ((with_reducible refine gate_callee (f := 16) rfl ?_); refine goesL_ (some 71) rfl rfl Try.func16 (by kernel_rfl) rfl #[.string a0, .slice Ao51 t257.length co51] rfl (by (try simp only [List.map_toArray, List.map_cons, List.map_nil]); first | done | rfl | (simp only [List.length_drop, List.length_take]; rfl)) ?_; (with_reducible refine (edit_Apply.calls kj15 a0 _ _ t257 t262 t263 _ ?side1 ?side2 A23.out).mono ?_); (case side1 => repeat (first | exact (Kd.R_reads' HO259.out).2.2 | (with_reducible refine Kd.C_alloc ?_ _) | (with_reducible refine Kd.C_drewN ?_ _) | (with_reducible refine Kd.C_drew ?_))); (case side2 => exact (Kd.R_reads' HO259.out).2.1); rintro e w52 ⟨rfl, hb⟩; refine ⟨_, rfl, ?_⟩; have n0_ := Aside0.mk (Kd.R_below (by (with_reducible repeat (first | apply Kd.R_alloc | apply Kd.R_drewN | apply Kd.R_drew)); exact HO259.out) hb); have n1_ := Aside0.mk (blk_below (g := gb248) (o := .cells #[.int .i64 a2_0, .int .i64 a2_1, .int .i64 a2_2, .int .i64 a2_3] 23 (0, 0)) (by (with_reducible repeat (first | refine blk_drewN ?_ _ | refine blk_drew ?_ | refine blk_alloc ?_ _)); exact BK248.out) hb); have n2_ := Aside0.mk (below_step (by repeat (first | (with_reducible first | exact HB.out | apply below_alloc | apply pw_below_drewN | apply below_drew1 | refine below_set ?_ GE248.out) | exact HB.out)) hb); clear HO259; clear BK248; clear HB; have HO259 := n0_; have BK248 := n1_; have HB := n2_; clear n0_ n1_ n2_; (try clear hb); (try clear hb2); (try clear hk); (try clear hi); have hcz53_0 : w52.cell? ⟨gb248, 0, none⟩ = some (.int .i64 a2_0) := (blk_cell BK248.out 0).trans rfl; have hcz53_1 : w52.cell? ⟨gb248, 1, none⟩ = some (.int .i64 a2_1) := (blk_cell BK248.out 1).trans rfl; have hcz53_2 : w52.cell? ⟨gb248, 2, none⟩ = some (.int .i64 a2_2) := (blk_cell BK248.out 2).trans rfl; have hcz53_3 : w52.cell? ⟨gb248, 3, none⟩ = some (.int .i64 a2_3) := (blk_cell BK248.out 3).trans rfl; have hfz53_0 := blk_frozen BK248.out 0; have hfz53_1 := blk_frozen BK248.out 1; have hfz53_2 := blk_frozen BK248.out 2; have hfz53_3 := blk_frozen BK248.out 3) | ((with_reducible refine gate_callee (f := 17) rfl ?_); refine goesL_ (some 77) rfl rfl Try.func17 (by kernel_rfl) rfl #[.slice Ao51 t257.length co51, .agg #[.int .i64 a2_0, .int .i64 a2_1, .int .i64 a2_2, .int .i64 a2_3]] rfl (by (try simp only [List.map_toArray, List.map_cons, List.map_nil]); first | done | rfl | (simp only [List.length_drop, List.length_take]; rfl)) ?_; (with_reducible refine (edit_Cost.calls _ _ t257 a2_0 a2_1 a2_2 a2_3 t264 t265 _ ?side1 ?side2 A24.out).mono ?_); (case side1 => repeat (first | exact (Kd.R_reads' HO259.out).2.2 | (with_reducible refine Kd.C_alloc ?_ _) | (with_reducible refine Kd.C_drewN ?_ _) | (with_reducible refine Kd.C_drew ?_))); (case side2 => exact (Kd.R_reads' HO259.out).2.1); rintro e w54 ⟨rfl, hb⟩; refine ⟨_, rfl, ?_⟩; have n0_ := Aside0.mk (Kd.R_below (by (with_reducible repeat (first | apply Kd.R_alloc | apply Kd.R_drewN | apply Kd.R_drew)); exact HO259.out) hb); have n1_ := Aside0.mk (blk_below (g := gb248) (o := .cells #[.int .i64 a2_0, .int .i64 a2_1, .int .i64 a2_2, .int .i64 a2_3] 23 (0, 0)) (by (with_reducible repeat (first | refine blk_drewN ?_ _ | refine blk_drew ?_ | refine blk_alloc ?_ _)); exact BK248.out) hb); have n2_ := Aside0.mk (below_step (by repeat (first | (with_reducible first | exact HB.out | apply below_alloc | apply pw_below_drewN | apply below_drew1 | refine below_set ?_ GE248.out) | exact HB.out)) hb); clear HO259; clear BK248; clear HB; have HO259 := n0_; have BK248 := n1_; have HB := n2_; clear n0_ n1_ n2_; (try clear hb); (try clear hb2); (try clear hk); (try clear hi)))
                  go_ret
                  exact ⟨by first | rfl | (simp [errW_none, errW_some] <;> rfl) | (simp [*, errW_none, errW_some] <;> rfl), by repeat (first | (with_reducible first | exact HB.out | apply below_alloc | apply pw_below_drewN | apply below_drew1 | refine below_set ?_ GE248.out) | exact HB.out)⟩
                 ·rw [if_neg c44] at H
                  have c44b0 : decide (t255 < t253) = false := decide_eq_false c44
                  clear c44
                  replace H := Option.bind_eq_some_iff.mp H
                  obtain ⟨t266, A550, H⟩ := H
                  replace H : (some t266) = some r := H
                  have A55 := Aside0.mk A550
                  clear A550
                  obtain rfl := Option.some.inj H
                  have hcz56_0 : wc.cell? ⟨gb248, 0, none⟩ = some (.int .i64 a2_0) := (blk_cell BK248.out 0).trans rfl
                  have hcz56_1 : wc.cell? ⟨gb248, 1, none⟩ = some (.int .i64 a2_1) := (blk_cell BK248.out 1).trans rfl
                  have hcz56_2 : wc.cell? ⟨gb248, 2, none⟩ = some (.int .i64 a2_2) := (blk_cell BK248.out 2).trans rfl
                  have hcz56_3 : wc.cell? ⟨gb248, 3, none⟩ = some (.int .i64 a2_3) := (blk_cell BK248.out 3).trans rfl
                  have hfz56_0 := blk_frozen BK248.out 0
                  have hfz56_1 := blk_frozen BK248.out 1
                  have hfz56_2 := blk_frozen BK248.out 2
                  have hfz56_3 := blk_frozen BK248.out 3
                  go_wp2_with (first | ((with_reducible refine gate_callee (f := 17) rfl ?_); refine goesL_ (some 50) rfl rfl Try.func17 (by kernel_rfl) rfl #[.slice A1 l1.length c1, .agg #[.int .i64 a2_0, .int .i64 a2_1, .int .i64 a2_2, .int .i64 a2_3]] rfl (by (try simp only [List.map_toArray, List.map_cons, List.map_nil]); first | done | rfl | (simp only [List.length_drop, List.length_take]; rfl)) ?_; (with_reducible refine (edit_Cost.calls _ _ l1 a2_0 a2_1 a2_2 a2_3 t253 t254 _ ?side1 ?side2 A20.out).mono ?_); (case side1 => repeat (first | exact (Kd.C_below HR1.out HB.out) | (with_reducible refine Kd.C_alloc ?_ _) | (with_reducible refine Kd.C_drewN ?_ _) | (with_reducible refine Kd.C_drew ?_))); (case side2 => exact HC1.out); rintro e w57 ⟨rfl, hb⟩; refine ⟨_, rfl, ?_⟩; have n0_ := Aside0.mk (blk_below (g := gb248) (o := .cells #[.int .i64 a2_0, .int .i64 a2_1, .int .i64 a2_2, .int .i64 a2_3] 23 (0, 0)) (by (with_reducible repeat (first | refine blk_drewN ?_ _ | refine blk_drew ?_ | refine blk_alloc ?_ _)); exact BK248.out) hb); have n1_ := Aside0.mk (below_step (by repeat (first | (with_reducible first | exact HB.out | apply below_alloc | apply pw_below_drewN | apply below_drew1 | refine below_set ?_ GE248.out) | exact HB.out)) hb); clear BK248; clear HB; have BK248 := n0_; have HB := n1_; clear n0_ n1_; (try clear hb); (try clear hb2); (try clear hk); (try clear hi); have hcz58_0 : w57.cell? ⟨gb248, 0, none⟩ = some (.int .i64 a2_0) := (blk_cell BK248.out 0).trans rfl; have hcz58_1 : w57.cell? ⟨gb248, 1, none⟩ = some (.int .i64 a2_1) := (blk_cell BK248.out 1).trans rfl; have hcz58_2 : w57.cell? ⟨gb248, 2, none⟩ = some (.int .i64 a2_2) := (blk_cell BK248.out 2).trans rfl; have hcz58_3 : w57.cell? ⟨gb248, 3, none⟩ = some (.int .i64 a2_3) := (blk_cell BK248.out 3).trans rfl; have hfz58_0 := blk_frozen BK248.out 0; have hfz58_1 := blk_frozen BK248.out 1; have hfz58_2 := blk_frozen BK248.out 2; have hfz58_3 := blk_frozen BK248.out 3) | ((with_reducible refine gate_callee (f := 12) rfl ?_); refine goesL_ (some 57) rfl rfl Try.func12 (by kernel_rfl) rfl #[.string a0, .string t251, .agg #[.int .i64 a2_0, .int .i64 a2_1, .int .i64 a2_2, .int .i64 a2_3]] rfl (by (try simp only [List.map_toArray, List.map_cons, List.map_nil]); first | done | rfl | (simp only [List.length_drop, List.length_take]; rfl)) ?_; (with_reducible refine (edit_Distance.calls a0 t251 a2_0 a2_1 a2_2 a2_3 t255 t256 _ A21.out).mono ?_); rintro e w59 ⟨rfl, hb⟩; refine ⟨_, rfl, ?_⟩; have n0_ := Aside0.mk (blk_below (g := gb248) (o := .cells #[.int .i64 a2_0, .int .i64 a2_1, .int .i64 a2_2, .int .i64 a2_3] 23 (0, 0)) (by (with_reducible repeat (first | refine blk_drewN ?_ _ | refine blk_drew ?_ | refine blk_alloc ?_ _)); exact BK248.out) hb); have n1_ := Aside0.mk (below_step (by repeat (first | (with_reducible first | exact HB.out | apply below_alloc | apply pw_below_drewN | apply below_drew1 | refine below_set ?_ GE248.out) | exact HB.out)) hb); clear BK248; clear HB; have BK248 := n0_; have HB := n1_; clear n0_ n1_; (try clear hb); (try clear hb2); (try clear hk); (try clear hi); have hcz60_0 : w59.cell? ⟨gb248, 0, none⟩ = some (.int .i64 a2_0) := (blk_cell BK248.out 0).trans rfl; have hcz60_1 : w59.cell? ⟨gb248, 1, none⟩ = some (.int .i64 a2_1) := (blk_cell BK248.out 1).trans rfl; have hcz60_2 : w59.cell? ⟨gb248, 2, none⟩ = some (.int .i64 a2_2) := (blk_cell BK248.out 2).trans rfl; have hcz60_3 : w59.cell? ⟨gb248, 3, none⟩ = some (.int .i64 a2_3) := (blk_cell BK248.out 3).trans rfl; have hfz60_0 := blk_frozen BK248.out 0; have hfz60_1 := blk_frozen BK248.out 1; have hfz60_2 := blk_frozen BK248.out 2; have hfz60_3 := blk_frozen BK248.out 3) | ((with_reducible refine gate_callee (f := 14) rfl ?_); refine goesL_ (some 64) rfl rfl Try.func14 (by kernel_rfl) rfl #[.string a0, .string t251, .agg #[.int .i64 a2_0, .int .i64 a2_1, .int .i64 a2_2, .int .i64 a2_3]] rfl (by (try simp only [List.map_toArray, List.map_cons, List.map_nil]); first | done | rfl | (simp only [List.length_drop, List.length_take]; rfl)) ?_; (with_reducible refine (edit_Path.calls a0 t251 a2_0 a2_1 a2_2 a2_3 t257 t260 t261 _ A22.out).mono ?_); rintro e w61 ⟨v258, rfl, ho0, hb⟩; refine ⟨_, rfl, ?_⟩; have n0_ := Aside0.mk (Kd.R_lower ho0 (below_size (by repeat (first | (with_reducible first | exact HB.out | apply below_alloc | apply pw_below_drewN | apply below_drew1 | refine below_set ?_ GE248.out) | exact HB.out)))); have n1_ := Aside0.mk (blk_below (g := gb248) (o := .cells #[.int .i64 a2_0, .int .i64 a2_1, .int .i64 a2_2, .int .i64 a2_3] 23 (0, 0)) (by (with_reducible repeat (first | refine blk_drewN ?_ _ | refine blk_drew ?_ | refine blk_alloc ?_ _)); exact BK248.out) hb); have n2_ := Aside0.mk (below_step (by repeat (first | (with_reducible first | exact HB.out | apply below_alloc | apply pw_below_drewN | apply below_drew1 | refine below_set ?_ GE248.out) | exact HB.out)) hb); clear BK248; clear HB; have HO259 := n0_; have BK248 := n1_; have HB := n2_; clear n0_ n1_ n2_; (try clear hb); (try clear hb2); (try clear hk); (try clear hi); (try clear ho0); obtain ⟨Ao62, co62, eo62⟩ := Kd.R_slice HO259.out; subst eo62) | ((with_reducible refine gate_callee (f := 16) rfl ?_); refine goesL_ (some 71) rfl rfl Try.func16 (by kernel_rfl) rfl #[.string a0, .slice Ao62 t257.length co62] rfl (by (try simp only [List.map_toArray, List.map_cons, List.map_nil]); first | done | rfl | (simp only [List.length_drop, List.length_take]; rfl)) ?_; (with_reducible refine (edit_Apply.calls kj15 a0 _ _ t257 t262 t263 _ ?side1 ?side2 A23.out).mono ?_); (case side1 => repeat (first | exact (Kd.R_reads' HO259.out).2.2 | (with_reducible refine Kd.C_alloc ?_ _) | (with_reducible refine Kd.C_drewN ?_ _) | (with_reducible refine Kd.C_drew ?_))); (case side2 => exact (Kd.R_reads' HO259.out).2.1); rintro e w63 ⟨rfl, hb⟩; refine ⟨_, rfl, ?_⟩; have n0_ := Aside0.mk (Kd.R_below (by (with_reducible repeat (first | apply Kd.R_alloc | apply Kd.R_drewN | apply Kd.R_drew)); exact HO259.out) hb); have n1_ := Aside0.mk (blk_below (g := gb248) (o := .cells #[.int .i64 a2_0, .int .i64 a2_1, .int .i64 a2_2, .int .i64 a2_3] 23 (0, 0)) (by (with_reducible repeat (first | refine blk_drewN ?_ _ | refine blk_drew ?_ | refine blk_alloc ?_ _)); exact BK248.out) hb); have n2_ := Aside0.mk (below_step (by repeat (first | (with_reducible first | exact HB.out | apply below_alloc | apply pw_below_drewN | apply below_drew1 | refine below_set ?_ GE248.out) | exact HB.out)) hb); clear HO259; clear BK248; clear HB; have HO259 := n0_; have BK248 := n1_; have HB := n2_; clear n0_ n1_ n2_; (try clear hb); (try clear hb2); (try clear hk); (try clear hi); have hcz64_0 : w63.cell? ⟨gb248, 0, none⟩ = some (.int .i64 a2_0) := (blk_cell BK248.out 0).trans rfl; have hcz64_1 : w63.cell? ⟨gb248, 1, none⟩ = some (.int .i64 a2_1) := (blk_cell BK248.out 1).trans rfl; have hcz64_2 : w63.cell? ⟨gb248, 2, none⟩ = some (.int .i64 a2_2) := (blk_cell BK248.out 2).trans rfl; have hcz64_3 : w63.cell? ⟨gb248, 3, none⟩ = some (.int .i64 a2_3) := (blk_cell BK248.out 3).trans rfl; have hfz64_0 := blk_frozen BK248.out 0; have hfz64_1 := blk_frozen BK248.out 1; have hfz64_2 := blk_frozen BK248.out 2; have hfz64_3 := blk_frozen BK248.out 3) | ((with_reducible refine gate_callee (f := 17) rfl ?_); refine goesL_ (some 77) rfl rfl Try.func17 (by kernel_rfl) rfl #[.slice Ao62 t257.length co62, .agg #[.int .i64 a2_0, .int .i64 a2_1, .int .i64 a2_2, .int .i64 a2_3]] rfl (by (try simp only [List.map_toArray, List.map_cons, List.map_nil]); first | done | rfl | (simp only [List.length_drop, List.length_take]; rfl)) ?_; (with_reducible refine (edit_Cost.calls _ _ t257 a2_0 a2_1 a2_2 a2_3 t264 t265 _ ?side1 ?side2 A24.out).mono ?_); (case side1 => repeat (first | exact (Kd.R_reads' HO259.out).2.2 | (with_reducible refine Kd.C_alloc ?_ _) | (with_reducible refine Kd.C_drewN ?_ _) | (with_reducible refine Kd.C_drew ?_))); (case side2 => exact (Kd.R_reads' HO259.out).2.1); rintro e w65 ⟨rfl, hb⟩; refine ⟨_, rfl, ?_⟩; have n0_ := Aside0.mk (Kd.R_below (by (with_reducible repeat (first | apply Kd.R_alloc | apply Kd.R_drewN | apply Kd.R_drew)); exact HO259.out) hb); have n1_ := Aside0.mk (blk_below (g := gb248) (o := .cells #[.int .i64 a2_0, .int .i64 a2_1, .int .i64 a2_2, .int .i64 a2_3] 23 (0, 0)) (by (with_reducible repeat (first | refine blk_drewN ?_ _ | refine blk_drew ?_ | refine blk_alloc ?_ _)); exact BK248.out) hb); have n2_ := Aside0.mk (below_step (by repeat (first | (with_reducible first | exact HB.out | apply below_alloc | apply pw_below_drewN | apply below_drew1 | refine below_set ?_ GE248.out) | exact HB.out)) hb); clear HO259; clear BK248; clear HB; have HO259 := n0_; have BK248 := n1_; have HB := n2_; clear n0_ n1_ n2_; (try clear hb); (try clear hb2); (try clear hk); (try clear hi)) | (go_at_call 18; (with_reducible refine (letterbaglaw06_before.calls kj15 _ _ t257 _ _ l1 t266 _ ?side1 ?side2 ?side3 ?side4 A55.out).mono ?_); (case side1 => repeat (first | exact (Kd.R_reads' HO259.out).2.2 | (with_reducible refine Kd.C_alloc ?_ _) | (with_reducible refine Kd.C_drewN ?_ _) | (with_reducible refine Kd.C_drew ?_))); (case side2 => exact (Kd.R_reads' HO259.out).2.1); (case side3 => repeat (first | exact (Kd.C_below HR1.out HB.out) | (with_reducible refine Kd.C_alloc ?_ _) | (with_reducible refine Kd.C_drewN ?_ _) | (with_reducible refine Kd.C_drew ?_))); (case side4 => exact HC1.out); rintro e w' ⟨rfl, ⟨nd, rfl⟩⟩))
                  go_ret
                  exact ⟨by first | rfl | (simp [errW_none, errW_some] <;> rfl) | (simp [*, errW_none, errW_some] <;> rfl), by repeat (first | (with_reducible first | exact HB.out | apply below_alloc | apply pw_below_drewN | apply below_drew1 | refine below_set ?_ GE248.out) | exact HB.out)⟩
                ·rw [if_neg c43] at H
                 have c43b0 : (t264 == t255) = false := beq_eq_false_iff_ne.mpr c43
                 have c43b1 : (t264 != t255) = true := bne_iff_ne.mpr c43
                 obtain rfl := Option.some.inj H
                 have hcz66_0 : wc.cell? ⟨gb248, 0, none⟩ = some (.int .i64 a2_0) := (blk_cell BK248.out 0).trans rfl
                 have hcz66_1 : wc.cell? ⟨gb248, 1, none⟩ = some (.int .i64 a2_1) := (blk_cell BK248.out 1).trans rfl
                 have hcz66_2 : wc.cell? ⟨gb248, 2, none⟩ = some (.int .i64 a2_2) := (blk_cell BK248.out 2).trans rfl
                 have hcz66_3 : wc.cell? ⟨gb248, 3, none⟩ = some (.int .i64 a2_3) := (blk_cell BK248.out 3).trans rfl
                 have hfz66_0 := blk_frozen BK248.out 0
                 have hfz66_1 := blk_frozen BK248.out 1
                 have hfz66_2 := blk_frozen BK248.out 2
                 have hfz66_3 := blk_frozen BK248.out 3
                 go_wp2_with (first | ((with_reducible refine gate_callee (f := 17) rfl ?_); refine goesL_ (some 50) rfl rfl Try.func17 (by kernel_rfl) rfl #[.slice A1 l1.length c1, .agg #[.int .i64 a2_0, .int .i64 a2_1, .int .i64 a2_2, .int .i64 a2_3]] rfl (by (try simp only [List.map_toArray, List.map_cons, List.map_nil]); first | done | rfl | (simp only [List.length_drop, List.length_take]; rfl)) ?_; (with_reducible refine (edit_Cost.calls _ _ l1 a2_0 a2_1 a2_2 a2_3 t253 t254 _ ?side1 ?side2 A20.out).mono ?_); (case side1 => repeat (first | exact (Kd.C_below HR1.out HB.out) | (with_reducible refine Kd.C_alloc ?_ _) | (with_reducible refine Kd.C_drewN ?_ _) | (with_reducible refine Kd.C_drew ?_))); (case side2 => exact HC1.out); rintro e w67 ⟨rfl, hb⟩; refine ⟨_, rfl, ?_⟩; have n0_ := Aside0.mk (blk_below (g := gb248) (o := .cells #[.int .i64 a2_0, .int .i64 a2_1, .int .i64 a2_2, .int .i64 a2_3] 23 (0, 0)) (by (with_reducible repeat (first | refine blk_drewN ?_ _ | refine blk_drew ?_ | refine blk_alloc ?_ _)); exact BK248.out) hb); have n1_ := Aside0.mk (below_step (by repeat (first | (with_reducible first | exact HB.out | apply below_alloc | apply pw_below_drewN | apply below_drew1 | refine below_set ?_ GE248.out) | exact HB.out)) hb); clear BK248; clear HB; have BK248 := n0_; have HB := n1_; clear n0_ n1_; (try clear hb); (try clear hb2); (try clear hk); (try clear hi); have hcz68_0 : w67.cell? ⟨gb248, 0, none⟩ = some (.int .i64 a2_0) := (blk_cell BK248.out 0).trans rfl; have hcz68_1 : w67.cell? ⟨gb248, 1, none⟩ = some (.int .i64 a2_1) := (blk_cell BK248.out 1).trans rfl; have hcz68_2 : w67.cell? ⟨gb248, 2, none⟩ = some (.int .i64 a2_2) := (blk_cell BK248.out 2).trans rfl; have hcz68_3 : w67.cell? ⟨gb248, 3, none⟩ = some (.int .i64 a2_3) := (blk_cell BK248.out 3).trans rfl; have hfz68_0 := blk_frozen BK248.out 0; have hfz68_1 := blk_frozen BK248.out 1; have hfz68_2 := blk_frozen BK248.out 2; have hfz68_3 := blk_frozen BK248.out 3) | ((with_reducible refine gate_callee (f := 12) rfl ?_); refine goesL_ (some 57) rfl rfl Try.func12 (by kernel_rfl) rfl #[.string a0, .string t251, .agg #[.int .i64 a2_0, .int .i64 a2_1, .int .i64 a2_2, .int .i64 a2_3]] rfl (by (try simp only [List.map_toArray, List.map_cons, List.map_nil]); first | done | rfl | (simp only [List.length_drop, List.length_take]; rfl)) ?_; (with_reducible refine (edit_Distance.calls a0 t251 a2_0 a2_1 a2_2 a2_3 t255 t256 _ A21.out).mono ?_); rintro e w69 ⟨rfl, hb⟩; refine ⟨_, rfl, ?_⟩; have n0_ := Aside0.mk (blk_below (g := gb248) (o := .cells #[.int .i64 a2_0, .int .i64 a2_1, .int .i64 a2_2, .int .i64 a2_3] 23 (0, 0)) (by (with_reducible repeat (first | refine blk_drewN ?_ _ | refine blk_drew ?_ | refine blk_alloc ?_ _)); exact BK248.out) hb); have n1_ := Aside0.mk (below_step (by repeat (first | (with_reducible first | exact HB.out | apply below_alloc | apply pw_below_drewN | apply below_drew1 | refine below_set ?_ GE248.out) | exact HB.out)) hb); clear BK248; clear HB; have BK248 := n0_; have HB := n1_; clear n0_ n1_; (try clear hb); (try clear hb2); (try clear hk); (try clear hi); have hcz70_0 : w69.cell? ⟨gb248, 0, none⟩ = some (.int .i64 a2_0) := (blk_cell BK248.out 0).trans rfl; have hcz70_1 : w69.cell? ⟨gb248, 1, none⟩ = some (.int .i64 a2_1) := (blk_cell BK248.out 1).trans rfl; have hcz70_2 : w69.cell? ⟨gb248, 2, none⟩ = some (.int .i64 a2_2) := (blk_cell BK248.out 2).trans rfl; have hcz70_3 : w69.cell? ⟨gb248, 3, none⟩ = some (.int .i64 a2_3) := (blk_cell BK248.out 3).trans rfl; have hfz70_0 := blk_frozen BK248.out 0; have hfz70_1 := blk_frozen BK248.out 1; have hfz70_2 := blk_frozen BK248.out 2; have hfz70_3 := blk_frozen BK248.out 3) | ((with_reducible refine gate_callee (f := 14) rfl ?_); refine goesL_ (some 64) rfl rfl Try.func14 (by kernel_rfl) rfl #[.string a0, .string t251, .agg #[.int .i64 a2_0, .int .i64 a2_1, .int .i64 a2_2, .int .i64 a2_3]] rfl (by (try simp only [List.map_toArray, List.map_cons, List.map_nil]); first | done | rfl | (simp only [List.length_drop, List.length_take]; rfl)) ?_; (with_reducible refine (edit_Path.calls a0 t251 a2_0 a2_1 a2_2 a2_3 t257 t260 t261 _ A22.out).mono ?_); rintro e w71 ⟨v258, rfl, ho0, hb⟩; refine ⟨_, rfl, ?_⟩; have n0_ := Aside0.mk (Kd.R_lower ho0 (below_size (by repeat (first | (with_reducible first | exact HB.out | apply below_alloc | apply pw_below_drewN | apply below_drew1 | refine below_set ?_ GE248.out) | exact HB.out)))); have n1_ := Aside0.mk (blk_below (g := gb248) (o := .cells #[.int .i64 a2_0, .int .i64 a2_1, .int .i64 a2_2, .int .i64 a2_3] 23 (0, 0)) (by (with_reducible repeat (first | refine blk_drewN ?_ _ | refine blk_drew ?_ | refine blk_alloc ?_ _)); exact BK248.out) hb); have n2_ := Aside0.mk (below_step (by repeat (first | (with_reducible first | exact HB.out | apply below_alloc | apply pw_below_drewN | apply below_drew1 | refine below_set ?_ GE248.out) | exact HB.out)) hb); clear BK248; clear HB; have HO259 := n0_; have BK248 := n1_; have HB := n2_; clear n0_ n1_ n2_; (try clear hb); (try clear hb2); (try clear hk); (try clear hi); (try clear ho0); obtain ⟨Ao72, co72, eo72⟩ := Kd.R_slice HO259.out; subst eo72) | ((with_reducible refine gate_callee (f := 16) rfl ?_); refine goesL_ (some 71) rfl rfl Try.func16 (by kernel_rfl) rfl #[.string a0, .slice Ao72 t257.length co72] rfl (by (try simp only [List.map_toArray, List.map_cons, List.map_nil]); first | done | rfl | (simp only [List.length_drop, List.length_take]; rfl)) ?_; (with_reducible refine (edit_Apply.calls kj15 a0 _ _ t257 t262 t263 _ ?side1 ?side2 A23.out).mono ?_); (case side1 => repeat (first | exact (Kd.R_reads' HO259.out).2.2 | (with_reducible refine Kd.C_alloc ?_ _) | (with_reducible refine Kd.C_drewN ?_ _) | (with_reducible refine Kd.C_drew ?_))); (case side2 => exact (Kd.R_reads' HO259.out).2.1); rintro e w73 ⟨rfl, hb⟩; refine ⟨_, rfl, ?_⟩; have n0_ := Aside0.mk (Kd.R_below (by (with_reducible repeat (first | apply Kd.R_alloc | apply Kd.R_drewN | apply Kd.R_drew)); exact HO259.out) hb); have n1_ := Aside0.mk (blk_below (g := gb248) (o := .cells #[.int .i64 a2_0, .int .i64 a2_1, .int .i64 a2_2, .int .i64 a2_3] 23 (0, 0)) (by (with_reducible repeat (first | refine blk_drewN ?_ _ | refine blk_drew ?_ | refine blk_alloc ?_ _)); exact BK248.out) hb); have n2_ := Aside0.mk (below_step (by repeat (first | (with_reducible first | exact HB.out | apply below_alloc | apply pw_below_drewN | apply below_drew1 | refine below_set ?_ GE248.out) | exact HB.out)) hb); clear HO259; clear BK248; clear HB; have HO259 := n0_; have BK248 := n1_; have HB := n2_; clear n0_ n1_ n2_; (try clear hb); (try clear hb2); (try clear hk); (try clear hi); have hcz74_0 : w73.cell? ⟨gb248, 0, none⟩ = some (.int .i64 a2_0) := (blk_cell BK248.out 0).trans rfl; have hcz74_1 : w73.cell? ⟨gb248, 1, none⟩ = some (.int .i64 a2_1) := (blk_cell BK248.out 1).trans rfl; have hcz74_2 : w73.cell? ⟨gb248, 2, none⟩ = some (.int .i64 a2_2) := (blk_cell BK248.out 2).trans rfl; have hcz74_3 : w73.cell? ⟨gb248, 3, none⟩ = some (.int .i64 a2_3) := (blk_cell BK248.out 3).trans rfl; have hfz74_0 := blk_frozen BK248.out 0; have hfz74_1 := blk_frozen BK248.out 1; have hfz74_2 := blk_frozen BK248.out 2; have hfz74_3 := blk_frozen BK248.out 3) | ((with_reducible refine gate_callee (f := 17) rfl ?_); refine goesL_ (some 77) rfl rfl Try.func17 (by kernel_rfl) rfl #[.slice Ao72 t257.length co72, .agg #[.int .i64 a2_0, .int .i64 a2_1, .int .i64 a2_2, .int .i64 a2_3]] rfl (by (try simp only [List.map_toArray, List.map_cons, List.map_nil]); first | done | rfl | (simp only [List.length_drop, List.length_take]; rfl)) ?_; (with_reducible refine (edit_Cost.calls _ _ t257 a2_0 a2_1 a2_2 a2_3 t264 t265 _ ?side1 ?side2 A24.out).mono ?_); (case side1 => repeat (first | exact (Kd.R_reads' HO259.out).2.2 | (with_reducible refine Kd.C_alloc ?_ _) | (with_reducible refine Kd.C_drewN ?_ _) | (with_reducible refine Kd.C_drew ?_))); (case side2 => exact (Kd.R_reads' HO259.out).2.1); rintro e w75 ⟨rfl, hb⟩; refine ⟨_, rfl, ?_⟩; have n0_ := Aside0.mk (Kd.R_below (by (with_reducible repeat (first | apply Kd.R_alloc | apply Kd.R_drewN | apply Kd.R_drew)); exact HO259.out) hb); have n1_ := Aside0.mk (blk_below (g := gb248) (o := .cells #[.int .i64 a2_0, .int .i64 a2_1, .int .i64 a2_2, .int .i64 a2_3] 23 (0, 0)) (by (with_reducible repeat (first | refine blk_drewN ?_ _ | refine blk_drew ?_ | refine blk_alloc ?_ _)); exact BK248.out) hb); have n2_ := Aside0.mk (below_step (by repeat (first | (with_reducible first | exact HB.out | apply below_alloc | apply pw_below_drewN | apply below_drew1 | refine below_set ?_ GE248.out) | exact HB.out)) hb); clear HO259; clear BK248; clear HB; have HO259 := n0_; have BK248 := n1_; have HB := n2_; clear n0_ n1_ n2_; (try clear hb); (try clear hb2); (try clear hk); (try clear hi)))
                 go_ret
                 exact ⟨by first | rfl | (simp [errW_none, errW_some] <;> rfl) | (simp [*, errW_none, errW_some] <;> rfl), by repeat (first | (with_reducible first | exact HB.out | apply below_alloc | apply pw_below_drewN | apply below_drew1 | refine below_set ?_ GE248.out) | exact HB.out)⟩
               ·rw [if_neg c42] at H
                have c42b0 : (t260 == t255) = false := beq_eq_false_iff_ne.mpr c42
                have c42b1 : (t260 != t255) = true := bne_iff_ne.mpr c42
                obtain rfl := Option.some.inj H
                have hcz76_0 : wc.cell? ⟨gb248, 0, none⟩ = some (.int .i64 a2_0) := (blk_cell BK248.out 0).trans rfl
                have hcz76_1 : wc.cell? ⟨gb248, 1, none⟩ = some (.int .i64 a2_1) := (blk_cell BK248.out 1).trans rfl
                have hcz76_2 : wc.cell? ⟨gb248, 2, none⟩ = some (.int .i64 a2_2) := (blk_cell BK248.out 2).trans rfl
                have hcz76_3 : wc.cell? ⟨gb248, 3, none⟩ = some (.int .i64 a2_3) := (blk_cell BK248.out 3).trans rfl
                have hfz76_0 := blk_frozen BK248.out 0
                have hfz76_1 := blk_frozen BK248.out 1
                have hfz76_2 := blk_frozen BK248.out 2
                have hfz76_3 := blk_frozen BK248.out 3
                go_wp2_with (first | ((with_reducible refine gate_callee (f := 17) rfl ?_); refine goesL_ (some 50) rfl rfl Try.func17 (by kernel_rfl) rfl #[.slice A1 l1.length c1, .agg #[.int .i64 a2_0, .int .i64 a2_1, .int .i64 a2_2, .int .i64 a2_3]] rfl (by (try simp only [List.map_toArray, List.map_cons, List.map_nil]); first | done | rfl | (simp only [List.length_drop, List.length_take]; rfl)) ?_; (with_reducible refine (edit_Cost.calls _ _ l1 a2_0 a2_1 a2_2 a2_3 t253 t254 _ ?side1 ?side2 A20.out).mono ?_); (case side1 => repeat (first | exact (Kd.C_below HR1.out HB.out) | (with_reducible refine Kd.C_alloc ?_ _) | (with_reducible refine Kd.C_drewN ?_ _) | (with_reducible refine Kd.C_drew ?_))); (case side2 => exact HC1.out); rintro e w77 ⟨rfl, hb⟩; refine ⟨_, rfl, ?_⟩; have n0_ := Aside0.mk (blk_below (g := gb248) (o := .cells #[.int .i64 a2_0, .int .i64 a2_1, .int .i64 a2_2, .int .i64 a2_3] 23 (0, 0)) (by (with_reducible repeat (first | refine blk_drewN ?_ _ | refine blk_drew ?_ | refine blk_alloc ?_ _)); exact BK248.out) hb); have n1_ := Aside0.mk (below_step (by repeat (first | (with_reducible first | exact HB.out | apply below_alloc | apply pw_below_drewN | apply below_drew1 | refine below_set ?_ GE248.out) | exact HB.out)) hb); clear BK248; clear HB; have BK248 := n0_; have HB := n1_; clear n0_ n1_; (try clear hb); (try clear hb2); (try clear hk); (try clear hi); have hcz78_0 : w77.cell? ⟨gb248, 0, none⟩ = some (.int .i64 a2_0) := (blk_cell BK248.out 0).trans rfl; have hcz78_1 : w77.cell? ⟨gb248, 1, none⟩ = some (.int .i64 a2_1) := (blk_cell BK248.out 1).trans rfl; have hcz78_2 : w77.cell? ⟨gb248, 2, none⟩ = some (.int .i64 a2_2) := (blk_cell BK248.out 2).trans rfl; have hcz78_3 : w77.cell? ⟨gb248, 3, none⟩ = some (.int .i64 a2_3) := (blk_cell BK248.out 3).trans rfl; have hfz78_0 := blk_frozen BK248.out 0; have hfz78_1 := blk_frozen BK248.out 1; have hfz78_2 := blk_frozen BK248.out 2; have hfz78_3 := blk_frozen BK248.out 3) | ((with_reducible refine gate_callee (f := 12) rfl ?_); refine goesL_ (some 57) rfl rfl Try.func12 (by kernel_rfl) rfl #[.string a0, .string t251, .agg #[.int .i64 a2_0, .int .i64 a2_1, .int .i64 a2_2, .int .i64 a2_3]] rfl (by (try simp only [List.map_toArray, List.map_cons, List.map_nil]); first | done | rfl | (simp only [List.length_drop, List.length_take]; rfl)) ?_; (with_reducible refine (edit_Distance.calls a0 t251 a2_0 a2_1 a2_2 a2_3 t255 t256 _ A21.out).mono ?_); rintro e w79 ⟨rfl, hb⟩; refine ⟨_, rfl, ?_⟩; have n0_ := Aside0.mk (blk_below (g := gb248) (o := .cells #[.int .i64 a2_0, .int .i64 a2_1, .int .i64 a2_2, .int .i64 a2_3] 23 (0, 0)) (by (with_reducible repeat (first | refine blk_drewN ?_ _ | refine blk_drew ?_ | refine blk_alloc ?_ _)); exact BK248.out) hb); have n1_ := Aside0.mk (below_step (by repeat (first | (with_reducible first | exact HB.out | apply below_alloc | apply pw_below_drewN | apply below_drew1 | refine below_set ?_ GE248.out) | exact HB.out)) hb); clear BK248; clear HB; have BK248 := n0_; have HB := n1_; clear n0_ n1_; (try clear hb); (try clear hb2); (try clear hk); (try clear hi); have hcz80_0 : w79.cell? ⟨gb248, 0, none⟩ = some (.int .i64 a2_0) := (blk_cell BK248.out 0).trans rfl; have hcz80_1 : w79.cell? ⟨gb248, 1, none⟩ = some (.int .i64 a2_1) := (blk_cell BK248.out 1).trans rfl; have hcz80_2 : w79.cell? ⟨gb248, 2, none⟩ = some (.int .i64 a2_2) := (blk_cell BK248.out 2).trans rfl; have hcz80_3 : w79.cell? ⟨gb248, 3, none⟩ = some (.int .i64 a2_3) := (blk_cell BK248.out 3).trans rfl; have hfz80_0 := blk_frozen BK248.out 0; have hfz80_1 := blk_frozen BK248.out 1; have hfz80_2 := blk_frozen BK248.out 2; have hfz80_3 := blk_frozen BK248.out 3) | ((with_reducible refine gate_callee (f := 14) rfl ?_); refine goesL_ (some 64) rfl rfl Try.func14 (by kernel_rfl) rfl #[.string a0, .string t251, .agg #[.int .i64 a2_0, .int .i64 a2_1, .int .i64 a2_2, .int .i64 a2_3]] rfl (by (try simp only [List.map_toArray, List.map_cons, List.map_nil]); first | done | rfl | (simp only [List.length_drop, List.length_take]; rfl)) ?_; (with_reducible refine (edit_Path.calls a0 t251 a2_0 a2_1 a2_2 a2_3 t257 t260 t261 _ A22.out).mono ?_); rintro e w81 ⟨v258, rfl, ho0, hb⟩; refine ⟨_, rfl, ?_⟩; have n0_ := Aside0.mk (Kd.R_lower ho0 (below_size (by repeat (first | (with_reducible first | exact HB.out | apply below_alloc | apply pw_below_drewN | apply below_drew1 | refine below_set ?_ GE248.out) | exact HB.out)))); have n1_ := Aside0.mk (blk_below (g := gb248) (o := .cells #[.int .i64 a2_0, .int .i64 a2_1, .int .i64 a2_2, .int .i64 a2_3] 23 (0, 0)) (by (with_reducible repeat (first | refine blk_drewN ?_ _ | refine blk_drew ?_ | refine blk_alloc ?_ _)); exact BK248.out) hb); have n2_ := Aside0.mk (below_step (by repeat (first | (with_reducible first | exact HB.out | apply below_alloc | apply pw_below_drewN | apply below_drew1 | refine below_set ?_ GE248.out) | exact HB.out)) hb); clear BK248; clear HB; have HO259 := n0_; have BK248 := n1_; have HB := n2_; clear n0_ n1_ n2_; (try clear hb); (try clear hb2); (try clear hk); (try clear hi); (try clear ho0); obtain ⟨Ao82, co82, eo82⟩ := Kd.R_slice HO259.out; subst eo82) | ((with_reducible refine gate_callee (f := 16) rfl ?_); refine goesL_ (some 71) rfl rfl Try.func16 (by kernel_rfl) rfl #[.string a0, .slice Ao82 t257.length co82] rfl (by (try simp only [List.map_toArray, List.map_cons, List.map_nil]); first | done | rfl | (simp only [List.length_drop, List.length_take]; rfl)) ?_; (with_reducible refine (edit_Apply.calls kj15 a0 _ _ t257 t262 t263 _ ?side1 ?side2 A23.out).mono ?_); (case side1 => repeat (first | exact (Kd.R_reads' HO259.out).2.2 | (with_reducible refine Kd.C_alloc ?_ _) | (with_reducible refine Kd.C_drewN ?_ _) | (with_reducible refine Kd.C_drew ?_))); (case side2 => exact (Kd.R_reads' HO259.out).2.1); rintro e w83 ⟨rfl, hb⟩; refine ⟨_, rfl, ?_⟩; have n0_ := Aside0.mk (Kd.R_below (by (with_reducible repeat (first | apply Kd.R_alloc | apply Kd.R_drewN | apply Kd.R_drew)); exact HO259.out) hb); have n1_ := Aside0.mk (blk_below (g := gb248) (o := .cells #[.int .i64 a2_0, .int .i64 a2_1, .int .i64 a2_2, .int .i64 a2_3] 23 (0, 0)) (by (with_reducible repeat (first | refine blk_drewN ?_ _ | refine blk_drew ?_ | refine blk_alloc ?_ _)); exact BK248.out) hb); have n2_ := Aside0.mk (below_step (by repeat (first | (with_reducible first | exact HB.out | apply below_alloc | apply pw_below_drewN | apply below_drew1 | refine below_set ?_ GE248.out) | exact HB.out)) hb); clear HO259; clear BK248; clear HB; have HO259 := n0_; have BK248 := n1_; have HB := n2_; clear n0_ n1_ n2_; (try clear hb); (try clear hb2); (try clear hk); (try clear hi); have hcz84_0 : w83.cell? ⟨gb248, 0, none⟩ = some (.int .i64 a2_0) := (blk_cell BK248.out 0).trans rfl; have hcz84_1 : w83.cell? ⟨gb248, 1, none⟩ = some (.int .i64 a2_1) := (blk_cell BK248.out 1).trans rfl; have hcz84_2 : w83.cell? ⟨gb248, 2, none⟩ = some (.int .i64 a2_2) := (blk_cell BK248.out 2).trans rfl; have hcz84_3 : w83.cell? ⟨gb248, 3, none⟩ = some (.int .i64 a2_3) := (blk_cell BK248.out 3).trans rfl; have hfz84_0 := blk_frozen BK248.out 0; have hfz84_1 := blk_frozen BK248.out 1; have hfz84_2 := blk_frozen BK248.out 2; have hfz84_3 := blk_frozen BK248.out 3) | ((with_reducible refine gate_callee (f := 17) rfl ?_); refine goesL_ (some 77) rfl rfl Try.func17 (by kernel_rfl) rfl #[.slice Ao82 t257.length co82, .agg #[.int .i64 a2_0, .int .i64 a2_1, .int .i64 a2_2, .int .i64 a2_3]] rfl (by (try simp only [List.map_toArray, List.map_cons, List.map_nil]); first | done | rfl | (simp only [List.length_drop, List.length_take]; rfl)) ?_; (with_reducible refine (edit_Cost.calls _ _ t257 a2_0 a2_1 a2_2 a2_3 t264 t265 _ ?side1 ?side2 A24.out).mono ?_); (case side1 => repeat (first | exact (Kd.R_reads' HO259.out).2.2 | (with_reducible refine Kd.C_alloc ?_ _) | (with_reducible refine Kd.C_drewN ?_ _) | (with_reducible refine Kd.C_drew ?_))); (case side2 => exact (Kd.R_reads' HO259.out).2.1); rintro e w85 ⟨rfl, hb⟩; refine ⟨_, rfl, ?_⟩; have n0_ := Aside0.mk (Kd.R_below (by (with_reducible repeat (first | apply Kd.R_alloc | apply Kd.R_drewN | apply Kd.R_drew)); exact HO259.out) hb); have n1_ := Aside0.mk (blk_below (g := gb248) (o := .cells #[.int .i64 a2_0, .int .i64 a2_1, .int .i64 a2_2, .int .i64 a2_3] 23 (0, 0)) (by (with_reducible repeat (first | refine blk_drewN ?_ _ | refine blk_drew ?_ | refine blk_alloc ?_ _)); exact BK248.out) hb); have n2_ := Aside0.mk (below_step (by repeat (first | (with_reducible first | exact HB.out | apply below_alloc | apply pw_below_drewN | apply below_drew1 | refine below_set ?_ GE248.out) | exact HB.out)) hb); clear HO259; clear BK248; clear HB; have HO259 := n0_; have BK248 := n1_; have HB := n2_; clear n0_ n1_ n2_; (try clear hb); (try clear hb2); (try clear hk); (try clear hi)))
                go_ret
                exact ⟨by first | rfl | (simp [errW_none, errW_some] <;> rfl) | (simp [*, errW_none, errW_some] <;> rfl), by repeat (first | (with_reducible first | exact HB.out | apply below_alloc | apply pw_below_drewN | apply below_drew1 | refine below_set ?_ GE248.out) | exact HB.out)⟩
             ·rw [if_neg c30] at H
              have c30b0 : (t262.toList == t251.toList) = false := beq_eq_false_iff_ne.mpr c30
              have c30b1 : (t262.toList != t251.toList) = true := bne_iff_ne.mpr c30
              obtain rfl := Option.some.inj H
              have hcz86_0 : wc.cell? ⟨gb248, 0, none⟩ = some (.int .i64 a2_0) := (blk_cell BK248.out 0).trans rfl
              have hcz86_1 : wc.cell? ⟨gb248, 1, none⟩ = some (.int .i64 a2_1) := (blk_cell BK248.out 1).trans rfl
              have hcz86_2 : wc.cell? ⟨gb248, 2, none⟩ = some (.int .i64 a2_2) := (blk_cell BK248.out 2).trans rfl
              have hcz86_3 : wc.cell? ⟨gb248, 3, none⟩ = some (.int .i64 a2_3) := (blk_cell BK248.out 3).trans rfl
              have hfz86_0 := blk_frozen BK248.out 0
              have hfz86_1 := blk_frozen BK248.out 1
              have hfz86_2 := blk_frozen BK248.out 2
              have hfz86_3 := blk_frozen BK248.out 3
              go_wp2_with (first | ((with_reducible refine gate_callee (f := 17) rfl ?_); refine goesL_ (some 50) rfl rfl Try.func17 (by kernel_rfl) rfl #[.slice A1 l1.length c1, .agg #[.int .i64 a2_0, .int .i64 a2_1, .int .i64 a2_2, .int .i64 a2_3]] rfl (by (try simp only [List.map_toArray, List.map_cons, List.map_nil]); first | done | rfl | (simp only [List.length_drop, List.length_take]; rfl)) ?_; (with_reducible refine (edit_Cost.calls _ _ l1 a2_0 a2_1 a2_2 a2_3 t253 t254 _ ?side1 ?side2 A20.out).mono ?_); (case side1 => repeat (first | exact (Kd.C_below HR1.out HB.out) | (with_reducible refine Kd.C_alloc ?_ _) | (with_reducible refine Kd.C_drewN ?_ _) | (with_reducible refine Kd.C_drew ?_))); (case side2 => exact HC1.out); rintro e w87 ⟨rfl, hb⟩; refine ⟨_, rfl, ?_⟩; have n0_ := Aside0.mk (blk_below (g := gb248) (o := .cells #[.int .i64 a2_0, .int .i64 a2_1, .int .i64 a2_2, .int .i64 a2_3] 23 (0, 0)) (by (with_reducible repeat (first | refine blk_drewN ?_ _ | refine blk_drew ?_ | refine blk_alloc ?_ _)); exact BK248.out) hb); have n1_ := Aside0.mk (below_step (by repeat (first | (with_reducible first | exact HB.out | apply below_alloc | apply pw_below_drewN | apply below_drew1 | refine below_set ?_ GE248.out) | exact HB.out)) hb); clear BK248; clear HB; have BK248 := n0_; have HB := n1_; clear n0_ n1_; (try clear hb); (try clear hb2); (try clear hk); (try clear hi); have hcz88_0 : w87.cell? ⟨gb248, 0, none⟩ = some (.int .i64 a2_0) := (blk_cell BK248.out 0).trans rfl; have hcz88_1 : w87.cell? ⟨gb248, 1, none⟩ = some (.int .i64 a2_1) := (blk_cell BK248.out 1).trans rfl; have hcz88_2 : w87.cell? ⟨gb248, 2, none⟩ = some (.int .i64 a2_2) := (blk_cell BK248.out 2).trans rfl; have hcz88_3 : w87.cell? ⟨gb248, 3, none⟩ = some (.int .i64 a2_3) := (blk_cell BK248.out 3).trans rfl; have hfz88_0 := blk_frozen BK248.out 0; have hfz88_1 := blk_frozen BK248.out 1; have hfz88_2 := blk_frozen BK248.out 2; have hfz88_3 := blk_frozen BK248.out 3) | ((with_reducible refine gate_callee (f := 12) rfl ?_); refine goesL_ (some 57) rfl rfl Try.func12 (by kernel_rfl) rfl #[.string a0, .string t251, .agg #[.int .i64 a2_0, .int .i64 a2_1, .int .i64 a2_2, .int .i64 a2_3]] rfl (by (try simp only [List.map_toArray, List.map_cons, List.map_nil]); first | done | rfl | (simp only [List.length_drop, List.length_take]; rfl)) ?_; (with_reducible refine (edit_Distance.calls a0 t251 a2_0 a2_1 a2_2 a2_3 t255 t256 _ A21.out).mono ?_); rintro e w89 ⟨rfl, hb⟩; refine ⟨_, rfl, ?_⟩; have n0_ := Aside0.mk (blk_below (g := gb248) (o := .cells #[.int .i64 a2_0, .int .i64 a2_1, .int .i64 a2_2, .int .i64 a2_3] 23 (0, 0)) (by (with_reducible repeat (first | refine blk_drewN ?_ _ | refine blk_drew ?_ | refine blk_alloc ?_ _)); exact BK248.out) hb); have n1_ := Aside0.mk (below_step (by repeat (first | (with_reducible first | exact HB.out | apply below_alloc | apply pw_below_drewN | apply below_drew1 | refine below_set ?_ GE248.out) | exact HB.out)) hb); clear BK248; clear HB; have BK248 := n0_; have HB := n1_; clear n0_ n1_; (try clear hb); (try clear hb2); (try clear hk); (try clear hi); have hcz90_0 : w89.cell? ⟨gb248, 0, none⟩ = some (.int .i64 a2_0) := (blk_cell BK248.out 0).trans rfl; have hcz90_1 : w89.cell? ⟨gb248, 1, none⟩ = some (.int .i64 a2_1) := (blk_cell BK248.out 1).trans rfl; have hcz90_2 : w89.cell? ⟨gb248, 2, none⟩ = some (.int .i64 a2_2) := (blk_cell BK248.out 2).trans rfl; have hcz90_3 : w89.cell? ⟨gb248, 3, none⟩ = some (.int .i64 a2_3) := (blk_cell BK248.out 3).trans rfl; have hfz90_0 := blk_frozen BK248.out 0; have hfz90_1 := blk_frozen BK248.out 1; have hfz90_2 := blk_frozen BK248.out 2; have hfz90_3 := blk_frozen BK248.out 3) | ((with_reducible refine gate_callee (f := 14) rfl ?_); refine goesL_ (some 64) rfl rfl Try.func14 (by kernel_rfl) rfl #[.string a0, .string t251, .agg #[.int .i64 a2_0, .int .i64 a2_1, .int .i64 a2_2, .int .i64 a2_3]] rfl (by (try simp only [List.map_toArray, List.map_cons, List.map_nil]); first | done | rfl | (simp only [List.length_drop, List.length_take]; rfl)) ?_; (with_reducible refine (edit_Path.calls a0 t251 a2_0 a2_1 a2_2 a2_3 t257 t260 t261 _ A22.out).mono ?_); rintro e w91 ⟨v258, rfl, ho0, hb⟩; refine ⟨_, rfl, ?_⟩; have n0_ := Aside0.mk (Kd.R_lower ho0 (below_size (by repeat (first | (with_reducible first | exact HB.out | apply below_alloc | apply pw_below_drewN | apply below_drew1 | refine below_set ?_ GE248.out) | exact HB.out)))); have n1_ := Aside0.mk (blk_below (g := gb248) (o := .cells #[.int .i64 a2_0, .int .i64 a2_1, .int .i64 a2_2, .int .i64 a2_3] 23 (0, 0)) (by (with_reducible repeat (first | refine blk_drewN ?_ _ | refine blk_drew ?_ | refine blk_alloc ?_ _)); exact BK248.out) hb); have n2_ := Aside0.mk (below_step (by repeat (first | (with_reducible first | exact HB.out | apply below_alloc | apply pw_below_drewN | apply below_drew1 | refine below_set ?_ GE248.out) | exact HB.out)) hb); clear BK248; clear HB; have HO259 := n0_; have BK248 := n1_; have HB := n2_; clear n0_ n1_ n2_; (try clear hb); (try clear hb2); (try clear hk); (try clear hi); (try clear ho0); obtain ⟨Ao92, co92, eo92⟩ := Kd.R_slice HO259.out; subst eo92) | ((with_reducible refine gate_callee (f := 16) rfl ?_); refine goesL_ (some 71) rfl rfl Try.func16 (by kernel_rfl) rfl #[.string a0, .slice Ao92 t257.length co92] rfl (by (try simp only [List.map_toArray, List.map_cons, List.map_nil]); first | done | rfl | (simp only [List.length_drop, List.length_take]; rfl)) ?_; (with_reducible refine (edit_Apply.calls kj15 a0 _ _ t257 t262 t263 _ ?side1 ?side2 A23.out).mono ?_); (case side1 => repeat (first | exact (Kd.R_reads' HO259.out).2.2 | (with_reducible refine Kd.C_alloc ?_ _) | (with_reducible refine Kd.C_drewN ?_ _) | (with_reducible refine Kd.C_drew ?_))); (case side2 => exact (Kd.R_reads' HO259.out).2.1); rintro e w93 ⟨rfl, hb⟩; refine ⟨_, rfl, ?_⟩; have n0_ := Aside0.mk (Kd.R_below (by (with_reducible repeat (first | apply Kd.R_alloc | apply Kd.R_drewN | apply Kd.R_drew)); exact HO259.out) hb); have n1_ := Aside0.mk (blk_below (g := gb248) (o := .cells #[.int .i64 a2_0, .int .i64 a2_1, .int .i64 a2_2, .int .i64 a2_3] 23 (0, 0)) (by (with_reducible repeat (first | refine blk_drewN ?_ _ | refine blk_drew ?_ | refine blk_alloc ?_ _)); exact BK248.out) hb); have n2_ := Aside0.mk (below_step (by repeat (first | (with_reducible first | exact HB.out | apply below_alloc | apply pw_below_drewN | apply below_drew1 | refine below_set ?_ GE248.out) | exact HB.out)) hb); clear HO259; clear BK248; clear HB; have HO259 := n0_; have BK248 := n1_; have HB := n2_; clear n0_ n1_ n2_; (try clear hb); (try clear hb2); (try clear hk); (try clear hi); have hcz94_0 : w93.cell? ⟨gb248, 0, none⟩ = some (.int .i64 a2_0) := (blk_cell BK248.out 0).trans rfl; have hcz94_1 : w93.cell? ⟨gb248, 1, none⟩ = some (.int .i64 a2_1) := (blk_cell BK248.out 1).trans rfl; have hcz94_2 : w93.cell? ⟨gb248, 2, none⟩ = some (.int .i64 a2_2) := (blk_cell BK248.out 2).trans rfl; have hcz94_3 : w93.cell? ⟨gb248, 3, none⟩ = some (.int .i64 a2_3) := (blk_cell BK248.out 3).trans rfl; have hfz94_0 := blk_frozen BK248.out 0; have hfz94_1 := blk_frozen BK248.out 1; have hfz94_2 := blk_frozen BK248.out 2; have hfz94_3 := blk_frozen BK248.out 3) | ((with_reducible refine gate_callee (f := 17) rfl ?_); refine goesL_ (some 77) rfl rfl Try.func17 (by kernel_rfl) rfl #[.slice Ao92 t257.length co92, .agg #[.int .i64 a2_0, .int .i64 a2_1, .int .i64 a2_2, .int .i64 a2_3]] rfl (by (try simp only [List.map_toArray, List.map_cons, List.map_nil]); first | done | rfl | (simp only [List.length_drop, List.length_take]; rfl)) ?_; (with_reducible refine (edit_Cost.calls _ _ t257 a2_0 a2_1 a2_2 a2_3 t264 t265 _ ?side1 ?side2 A24.out).mono ?_); (case side1 => repeat (first | exact (Kd.R_reads' HO259.out).2.2 | (with_reducible refine Kd.C_alloc ?_ _) | (with_reducible refine Kd.C_drewN ?_ _) | (with_reducible refine Kd.C_drew ?_))); (case side2 => exact (Kd.R_reads' HO259.out).2.1); rintro e w95 ⟨rfl, hb⟩; refine ⟨_, rfl, ?_⟩; have n0_ := Aside0.mk (Kd.R_below (by (with_reducible repeat (first | apply Kd.R_alloc | apply Kd.R_drewN | apply Kd.R_drew)); exact HO259.out) hb); have n1_ := Aside0.mk (blk_below (g := gb248) (o := .cells #[.int .i64 a2_0, .int .i64 a2_1, .int .i64 a2_2, .int .i64 a2_3] 23 (0, 0)) (by (with_reducible repeat (first | refine blk_drewN ?_ _ | refine blk_drew ?_ | refine blk_alloc ?_ _)); exact BK248.out) hb); have n2_ := Aside0.mk (below_step (by repeat (first | (with_reducible first | exact HB.out | apply below_alloc | apply pw_below_drewN | apply below_drew1 | refine below_set ?_ GE248.out) | exact HB.out)) hb); clear HO259; clear BK248; clear HB; have HO259 := n0_; have BK248 := n1_; have HB := n2_; clear n0_ n1_ n2_; (try clear hb); (try clear hb2); (try clear hk); (try clear hi)))
              go_ret
              exact ⟨by first | rfl | (simp [errW_none, errW_some] <;> rfl) | (simp [*, errW_none, errW_some] <;> rfl), by repeat (first | (with_reducible first | exact HB.out | apply below_alloc | apply pw_below_drewN | apply below_drew1 | refine below_set ?_ GE248.out) | exact HB.out)⟩
            ·rw [if_neg c29] at H
             have c29b0 : (t265 == 0) = false := beq_eq_false_iff_ne.mpr c29
             have c29b1 : (t265 != 0) = true := bne_iff_ne.mpr c29
             obtain rfl := Option.some.inj H
             have hcz96_0 : wc.cell? ⟨gb248, 0, none⟩ = some (.int .i64 a2_0) := (blk_cell BK248.out 0).trans rfl
             have hcz96_1 : wc.cell? ⟨gb248, 1, none⟩ = some (.int .i64 a2_1) := (blk_cell BK248.out 1).trans rfl
             have hcz96_2 : wc.cell? ⟨gb248, 2, none⟩ = some (.int .i64 a2_2) := (blk_cell BK248.out 2).trans rfl
             have hcz96_3 : wc.cell? ⟨gb248, 3, none⟩ = some (.int .i64 a2_3) := (blk_cell BK248.out 3).trans rfl
             have hfz96_0 := blk_frozen BK248.out 0
             have hfz96_1 := blk_frozen BK248.out 1
             have hfz96_2 := blk_frozen BK248.out 2
             have hfz96_3 := blk_frozen BK248.out 3
             go_wp2_with (first | ((with_reducible refine gate_callee (f := 17) rfl ?_); refine goesL_ (some 50) rfl rfl Try.func17 (by kernel_rfl) rfl #[.slice A1 l1.length c1, .agg #[.int .i64 a2_0, .int .i64 a2_1, .int .i64 a2_2, .int .i64 a2_3]] rfl (by (try simp only [List.map_toArray, List.map_cons, List.map_nil]); first | done | rfl | (simp only [List.length_drop, List.length_take]; rfl)) ?_; (with_reducible refine (edit_Cost.calls _ _ l1 a2_0 a2_1 a2_2 a2_3 t253 t254 _ ?side1 ?side2 A20.out).mono ?_); (case side1 => repeat (first | exact (Kd.C_below HR1.out HB.out) | (with_reducible refine Kd.C_alloc ?_ _) | (with_reducible refine Kd.C_drewN ?_ _) | (with_reducible refine Kd.C_drew ?_))); (case side2 => exact HC1.out); rintro e w97 ⟨rfl, hb⟩; refine ⟨_, rfl, ?_⟩; have n0_ := Aside0.mk (blk_below (g := gb248) (o := .cells #[.int .i64 a2_0, .int .i64 a2_1, .int .i64 a2_2, .int .i64 a2_3] 23 (0, 0)) (by (with_reducible repeat (first | refine blk_drewN ?_ _ | refine blk_drew ?_ | refine blk_alloc ?_ _)); exact BK248.out) hb); have n1_ := Aside0.mk (below_step (by repeat (first | (with_reducible first | exact HB.out | apply below_alloc | apply pw_below_drewN | apply below_drew1 | refine below_set ?_ GE248.out) | exact HB.out)) hb); clear BK248; clear HB; have BK248 := n0_; have HB := n1_; clear n0_ n1_; (try clear hb); (try clear hb2); (try clear hk); (try clear hi); have hcz98_0 : w97.cell? ⟨gb248, 0, none⟩ = some (.int .i64 a2_0) := (blk_cell BK248.out 0).trans rfl; have hcz98_1 : w97.cell? ⟨gb248, 1, none⟩ = some (.int .i64 a2_1) := (blk_cell BK248.out 1).trans rfl; have hcz98_2 : w97.cell? ⟨gb248, 2, none⟩ = some (.int .i64 a2_2) := (blk_cell BK248.out 2).trans rfl; have hcz98_3 : w97.cell? ⟨gb248, 3, none⟩ = some (.int .i64 a2_3) := (blk_cell BK248.out 3).trans rfl; have hfz98_0 := blk_frozen BK248.out 0; have hfz98_1 := blk_frozen BK248.out 1; have hfz98_2 := blk_frozen BK248.out 2; have hfz98_3 := blk_frozen BK248.out 3) | ((with_reducible refine gate_callee (f := 12) rfl ?_); refine goesL_ (some 57) rfl rfl Try.func12 (by kernel_rfl) rfl #[.string a0, .string t251, .agg #[.int .i64 a2_0, .int .i64 a2_1, .int .i64 a2_2, .int .i64 a2_3]] rfl (by (try simp only [List.map_toArray, List.map_cons, List.map_nil]); first | done | rfl | (simp only [List.length_drop, List.length_take]; rfl)) ?_; (with_reducible refine (edit_Distance.calls a0 t251 a2_0 a2_1 a2_2 a2_3 t255 t256 _ A21.out).mono ?_); rintro e w99 ⟨rfl, hb⟩; refine ⟨_, rfl, ?_⟩; have n0_ := Aside0.mk (blk_below (g := gb248) (o := .cells #[.int .i64 a2_0, .int .i64 a2_1, .int .i64 a2_2, .int .i64 a2_3] 23 (0, 0)) (by (with_reducible repeat (first | refine blk_drewN ?_ _ | refine blk_drew ?_ | refine blk_alloc ?_ _)); exact BK248.out) hb); have n1_ := Aside0.mk (below_step (by repeat (first | (with_reducible first | exact HB.out | apply below_alloc | apply pw_below_drewN | apply below_drew1 | refine below_set ?_ GE248.out) | exact HB.out)) hb); clear BK248; clear HB; have BK248 := n0_; have HB := n1_; clear n0_ n1_; (try clear hb); (try clear hb2); (try clear hk); (try clear hi); have hcz100_0 : w99.cell? ⟨gb248, 0, none⟩ = some (.int .i64 a2_0) := (blk_cell BK248.out 0).trans rfl; have hcz100_1 : w99.cell? ⟨gb248, 1, none⟩ = some (.int .i64 a2_1) := (blk_cell BK248.out 1).trans rfl; have hcz100_2 : w99.cell? ⟨gb248, 2, none⟩ = some (.int .i64 a2_2) := (blk_cell BK248.out 2).trans rfl; have hcz100_3 : w99.cell? ⟨gb248, 3, none⟩ = some (.int .i64 a2_3) := (blk_cell BK248.out 3).trans rfl; have hfz100_0 := blk_frozen BK248.out 0; have hfz100_1 := blk_frozen BK248.out 1; have hfz100_2 := blk_frozen BK248.out 2; have hfz100_3 := blk_frozen BK248.out 3) | ((with_reducible refine gate_callee (f := 14) rfl ?_); refine goesL_ (some 64) rfl rfl Try.func14 (by kernel_rfl) rfl #[.string a0, .string t251, .agg #[.int .i64 a2_0, .int .i64 a2_1, .int .i64 a2_2, .int .i64 a2_3]] rfl (by (try simp only [List.map_toArray, List.map_cons, List.map_nil]); first | done | rfl | (simp only [List.length_drop, List.length_take]; rfl)) ?_; (with_reducible refine (edit_Path.calls a0 t251 a2_0 a2_1 a2_2 a2_3 t257 t260 t261 _ A22.out).mono ?_); rintro e w101 ⟨v258, rfl, ho0, hb⟩; refine ⟨_, rfl, ?_⟩; have n0_ := Aside0.mk (Kd.R_lower ho0 (below_size (by repeat (first | (with_reducible first | exact HB.out | apply below_alloc | apply pw_below_drewN | apply below_drew1 | refine below_set ?_ GE248.out) | exact HB.out)))); have n1_ := Aside0.mk (blk_below (g := gb248) (o := .cells #[.int .i64 a2_0, .int .i64 a2_1, .int .i64 a2_2, .int .i64 a2_3] 23 (0, 0)) (by (with_reducible repeat (first | refine blk_drewN ?_ _ | refine blk_drew ?_ | refine blk_alloc ?_ _)); exact BK248.out) hb); have n2_ := Aside0.mk (below_step (by repeat (first | (with_reducible first | exact HB.out | apply below_alloc | apply pw_below_drewN | apply below_drew1 | refine below_set ?_ GE248.out) | exact HB.out)) hb); clear BK248; clear HB; have HO259 := n0_; have BK248 := n1_; have HB := n2_; clear n0_ n1_ n2_; (try clear hb); (try clear hb2); (try clear hk); (try clear hi); (try clear ho0); obtain ⟨Ao102, co102, eo102⟩ := Kd.R_slice HO259.out; subst eo102) | ((with_reducible refine gate_callee (f := 16) rfl ?_); refine goesL_ (some 71) rfl rfl Try.func16 (by kernel_rfl) rfl #[.string a0, .slice Ao102 t257.length co102] rfl (by (try simp only [List.map_toArray, List.map_cons, List.map_nil]); first | done | rfl | (simp only [List.length_drop, List.length_take]; rfl)) ?_; (with_reducible refine (edit_Apply.calls kj15 a0 _ _ t257 t262 t263 _ ?side1 ?side2 A23.out).mono ?_); (case side1 => repeat (first | exact (Kd.R_reads' HO259.out).2.2 | (with_reducible refine Kd.C_alloc ?_ _) | (with_reducible refine Kd.C_drewN ?_ _) | (with_reducible refine Kd.C_drew ?_))); (case side2 => exact (Kd.R_reads' HO259.out).2.1); rintro e w103 ⟨rfl, hb⟩; refine ⟨_, rfl, ?_⟩; have n0_ := Aside0.mk (Kd.R_below (by (with_reducible repeat (first | apply Kd.R_alloc | apply Kd.R_drewN | apply Kd.R_drew)); exact HO259.out) hb); have n1_ := Aside0.mk (blk_below (g := gb248) (o := .cells #[.int .i64 a2_0, .int .i64 a2_1, .int .i64 a2_2, .int .i64 a2_3] 23 (0, 0)) (by (with_reducible repeat (first | refine blk_drewN ?_ _ | refine blk_drew ?_ | refine blk_alloc ?_ _)); exact BK248.out) hb); have n2_ := Aside0.mk (below_step (by repeat (first | (with_reducible first | exact HB.out | apply below_alloc | apply pw_below_drewN | apply below_drew1 | refine below_set ?_ GE248.out) | exact HB.out)) hb); clear HO259; clear BK248; clear HB; have HO259 := n0_; have BK248 := n1_; have HB := n2_; clear n0_ n1_ n2_; (try clear hb); (try clear hb2); (try clear hk); (try clear hi); have hcz104_0 : w103.cell? ⟨gb248, 0, none⟩ = some (.int .i64 a2_0) := (blk_cell BK248.out 0).trans rfl; have hcz104_1 : w103.cell? ⟨gb248, 1, none⟩ = some (.int .i64 a2_1) := (blk_cell BK248.out 1).trans rfl; have hcz104_2 : w103.cell? ⟨gb248, 2, none⟩ = some (.int .i64 a2_2) := (blk_cell BK248.out 2).trans rfl; have hcz104_3 : w103.cell? ⟨gb248, 3, none⟩ = some (.int .i64 a2_3) := (blk_cell BK248.out 3).trans rfl; have hfz104_0 := blk_frozen BK248.out 0; have hfz104_1 := blk_frozen BK248.out 1; have hfz104_2 := blk_frozen BK248.out 2; have hfz104_3 := blk_frozen BK248.out 3) | ((with_reducible refine gate_callee (f := 17) rfl ?_); refine goesL_ (some 77) rfl rfl Try.func17 (by kernel_rfl) rfl #[.slice Ao102 t257.length co102, .agg #[.int .i64 a2_0, .int .i64 a2_1, .int .i64 a2_2, .int .i64 a2_3]] rfl (by (try simp only [List.map_toArray, List.map_cons, List.map_nil]); first | done | rfl | (simp only [List.length_drop, List.length_take]; rfl)) ?_; (with_reducible refine (edit_Cost.calls _ _ t257 a2_0 a2_1 a2_2 a2_3 t264 t265 _ ?side1 ?side2 A24.out).mono ?_); (case side1 => repeat (first | exact (Kd.R_reads' HO259.out).2.2 | (with_reducible refine Kd.C_alloc ?_ _) | (with_reducible refine Kd.C_drewN ?_ _) | (with_reducible refine Kd.C_drew ?_))); (case side2 => exact (Kd.R_reads' HO259.out).2.1); rintro e w105 ⟨rfl, hb⟩; refine ⟨_, rfl, ?_⟩; have n0_ := Aside0.mk (Kd.R_below (by (with_reducible repeat (first | apply Kd.R_alloc | apply Kd.R_drewN | apply Kd.R_drew)); exact HO259.out) hb); have n1_ := Aside0.mk (blk_below (g := gb248) (o := .cells #[.int .i64 a2_0, .int .i64 a2_1, .int .i64 a2_2, .int .i64 a2_3] 23 (0, 0)) (by (with_reducible repeat (first | refine blk_drewN ?_ _ | refine blk_drew ?_ | refine blk_alloc ?_ _)); exact BK248.out) hb); have n2_ := Aside0.mk (below_step (by repeat (first | (with_reducible first | exact HB.out | apply below_alloc | apply pw_below_drewN | apply below_drew1 | refine below_set ?_ GE248.out) | exact HB.out)) hb); clear HO259; clear BK248; clear HB; have HO259 := n0_; have BK248 := n1_; have HB := n2_; clear n0_ n1_ n2_; (try clear hb); (try clear hb2); (try clear hk); (try clear hi)))
             go_ret
             exact ⟨by first | rfl | (simp [errW_none, errW_some] <;> rfl) | (simp [*, errW_none, errW_some] <;> rfl), by repeat (first | (with_reducible first | exact HB.out | apply below_alloc | apply pw_below_drewN | apply below_drew1 | refine below_set ?_ GE248.out) | exact HB.out)⟩
           ·rw [if_neg c28] at H
            have c28b0 : (t263 == 0) = false := beq_eq_false_iff_ne.mpr c28
            have c28b1 : (t263 != 0) = true := bne_iff_ne.mpr c28
            obtain rfl := Option.some.inj H
            have hcz106_0 : wc.cell? ⟨gb248, 0, none⟩ = some (.int .i64 a2_0) := (blk_cell BK248.out 0).trans rfl
            have hcz106_1 : wc.cell? ⟨gb248, 1, none⟩ = some (.int .i64 a2_1) := (blk_cell BK248.out 1).trans rfl
            have hcz106_2 : wc.cell? ⟨gb248, 2, none⟩ = some (.int .i64 a2_2) := (blk_cell BK248.out 2).trans rfl
            have hcz106_3 : wc.cell? ⟨gb248, 3, none⟩ = some (.int .i64 a2_3) := (blk_cell BK248.out 3).trans rfl
            have hfz106_0 := blk_frozen BK248.out 0
            have hfz106_1 := blk_frozen BK248.out 1
            have hfz106_2 := blk_frozen BK248.out 2
            have hfz106_3 := blk_frozen BK248.out 3
            go_wp2_with (first | ((with_reducible refine gate_callee (f := 17) rfl ?_); refine goesL_ (some 50) rfl rfl Try.func17 (by kernel_rfl) rfl #[.slice A1 l1.length c1, .agg #[.int .i64 a2_0, .int .i64 a2_1, .int .i64 a2_2, .int .i64 a2_3]] rfl (by (try simp only [List.map_toArray, List.map_cons, List.map_nil]); first | done | rfl | (simp only [List.length_drop, List.length_take]; rfl)) ?_; (with_reducible refine (edit_Cost.calls _ _ l1 a2_0 a2_1 a2_2 a2_3 t253 t254 _ ?side1 ?side2 A20.out).mono ?_); (case side1 => repeat (first | exact (Kd.C_below HR1.out HB.out) | (with_reducible refine Kd.C_alloc ?_ _) | (with_reducible refine Kd.C_drewN ?_ _) | (with_reducible refine Kd.C_drew ?_))); (case side2 => exact HC1.out); rintro e w107 ⟨rfl, hb⟩; refine ⟨_, rfl, ?_⟩; have n0_ := Aside0.mk (blk_below (g := gb248) (o := .cells #[.int .i64 a2_0, .int .i64 a2_1, .int .i64 a2_2, .int .i64 a2_3] 23 (0, 0)) (by (with_reducible repeat (first | refine blk_drewN ?_ _ | refine blk_drew ?_ | refine blk_alloc ?_ _)); exact BK248.out) hb); have n1_ := Aside0.mk (below_step (by repeat (first | (with_reducible first | exact HB.out | apply below_alloc | apply pw_below_drewN | apply below_drew1 | refine below_set ?_ GE248.out) | exact HB.out)) hb); clear BK248; clear HB; have BK248 := n0_; have HB := n1_; clear n0_ n1_; (try clear hb); (try clear hb2); (try clear hk); (try clear hi); have hcz108_0 : w107.cell? ⟨gb248, 0, none⟩ = some (.int .i64 a2_0) := (blk_cell BK248.out 0).trans rfl; have hcz108_1 : w107.cell? ⟨gb248, 1, none⟩ = some (.int .i64 a2_1) := (blk_cell BK248.out 1).trans rfl; have hcz108_2 : w107.cell? ⟨gb248, 2, none⟩ = some (.int .i64 a2_2) := (blk_cell BK248.out 2).trans rfl; have hcz108_3 : w107.cell? ⟨gb248, 3, none⟩ = some (.int .i64 a2_3) := (blk_cell BK248.out 3).trans rfl; have hfz108_0 := blk_frozen BK248.out 0; have hfz108_1 := blk_frozen BK248.out 1; have hfz108_2 := blk_frozen BK248.out 2; have hfz108_3 := blk_frozen BK248.out 3) | ((with_reducible refine gate_callee (f := 12) rfl ?_); refine goesL_ (some 57) rfl rfl Try.func12 (by kernel_rfl) rfl #[.string a0, .string t251, .agg #[.int .i64 a2_0, .int .i64 a2_1, .int .i64 a2_2, .int .i64 a2_3]] rfl (by (try simp only [List.map_toArray, List.map_cons, List.map_nil]); first | done | rfl | (simp only [List.length_drop, List.length_take]; rfl)) ?_; (with_reducible refine (edit_Distance.calls a0 t251 a2_0 a2_1 a2_2 a2_3 t255 t256 _ A21.out).mono ?_); rintro e w109 ⟨rfl, hb⟩; refine ⟨_, rfl, ?_⟩; have n0_ := Aside0.mk (blk_below (g := gb248) (o := .cells #[.int .i64 a2_0, .int .i64 a2_1, .int .i64 a2_2, .int .i64 a2_3] 23 (0, 0)) (by (with_reducible repeat (first | refine blk_drewN ?_ _ | refine blk_drew ?_ | refine blk_alloc ?_ _)); exact BK248.out) hb); have n1_ := Aside0.mk (below_step (by repeat (first | (with_reducible first | exact HB.out | apply below_alloc | apply pw_below_drewN | apply below_drew1 | refine below_set ?_ GE248.out) | exact HB.out)) hb); clear BK248; clear HB; have BK248 := n0_; have HB := n1_; clear n0_ n1_; (try clear hb); (try clear hb2); (try clear hk); (try clear hi); have hcz110_0 : w109.cell? ⟨gb248, 0, none⟩ = some (.int .i64 a2_0) := (blk_cell BK248.out 0).trans rfl; have hcz110_1 : w109.cell? ⟨gb248, 1, none⟩ = some (.int .i64 a2_1) := (blk_cell BK248.out 1).trans rfl; have hcz110_2 : w109.cell? ⟨gb248, 2, none⟩ = some (.int .i64 a2_2) := (blk_cell BK248.out 2).trans rfl; have hcz110_3 : w109.cell? ⟨gb248, 3, none⟩ = some (.int .i64 a2_3) := (blk_cell BK248.out 3).trans rfl; have hfz110_0 := blk_frozen BK248.out 0; have hfz110_1 := blk_frozen BK248.out 1; have hfz110_2 := blk_frozen BK248.out 2; have hfz110_3 := blk_frozen BK248.out 3) | ((with_reducible refine gate_callee (f := 14) rfl ?_); refine goesL_ (some 64) rfl rfl Try.func14 (by kernel_rfl) rfl #[.string a0, .string t251, .agg #[.int .i64 a2_0, .int .i64 a2_1, .int .i64 a2_2, .int .i64 a2_3]] rfl (by (try simp only [List.map_toArray, List.map_cons, List.map_nil]); first | done | rfl | (simp only [List.length_drop, List.length_take]; rfl)) ?_; (with_reducible refine (edit_Path.calls a0 t251 a2_0 a2_1 a2_2 a2_3 t257 t260 t261 _ A22.out).mono ?_); rintro e w111 ⟨v258, rfl, ho0, hb⟩; refine ⟨_, rfl, ?_⟩; have n0_ := Aside0.mk (Kd.R_lower ho0 (below_size (by repeat (first | (with_reducible first | exact HB.out | apply below_alloc | apply pw_below_drewN | apply below_drew1 | refine below_set ?_ GE248.out) | exact HB.out)))); have n1_ := Aside0.mk (blk_below (g := gb248) (o := .cells #[.int .i64 a2_0, .int .i64 a2_1, .int .i64 a2_2, .int .i64 a2_3] 23 (0, 0)) (by (with_reducible repeat (first | refine blk_drewN ?_ _ | refine blk_drew ?_ | refine blk_alloc ?_ _)); exact BK248.out) hb); have n2_ := Aside0.mk (below_step (by repeat (first | (with_reducible first | exact HB.out | apply below_alloc | apply pw_below_drewN | apply below_drew1 | refine below_set ?_ GE248.out) | exact HB.out)) hb); clear BK248; clear HB; have HO259 := n0_; have BK248 := n1_; have HB := n2_; clear n0_ n1_ n2_; (try clear hb); (try clear hb2); (try clear hk); (try clear hi); (try clear ho0); obtain ⟨Ao112, co112, eo112⟩ := Kd.R_slice HO259.out; subst eo112) | ((with_reducible refine gate_callee (f := 16) rfl ?_); refine goesL_ (some 71) rfl rfl Try.func16 (by kernel_rfl) rfl #[.string a0, .slice Ao112 t257.length co112] rfl (by (try simp only [List.map_toArray, List.map_cons, List.map_nil]); first | done | rfl | (simp only [List.length_drop, List.length_take]; rfl)) ?_; (with_reducible refine (edit_Apply.calls kj15 a0 _ _ t257 t262 t263 _ ?side1 ?side2 A23.out).mono ?_); (case side1 => repeat (first | exact (Kd.R_reads' HO259.out).2.2 | (with_reducible refine Kd.C_alloc ?_ _) | (with_reducible refine Kd.C_drewN ?_ _) | (with_reducible refine Kd.C_drew ?_))); (case side2 => exact (Kd.R_reads' HO259.out).2.1); rintro e w113 ⟨rfl, hb⟩; refine ⟨_, rfl, ?_⟩; have n0_ := Aside0.mk (Kd.R_below (by (with_reducible repeat (first | apply Kd.R_alloc | apply Kd.R_drewN | apply Kd.R_drew)); exact HO259.out) hb); have n1_ := Aside0.mk (blk_below (g := gb248) (o := .cells #[.int .i64 a2_0, .int .i64 a2_1, .int .i64 a2_2, .int .i64 a2_3] 23 (0, 0)) (by (with_reducible repeat (first | refine blk_drewN ?_ _ | refine blk_drew ?_ | refine blk_alloc ?_ _)); exact BK248.out) hb); have n2_ := Aside0.mk (below_step (by repeat (first | (with_reducible first | exact HB.out | apply below_alloc | apply pw_below_drewN | apply below_drew1 | refine below_set ?_ GE248.out) | exact HB.out)) hb); clear HO259; clear BK248; clear HB; have HO259 := n0_; have BK248 := n1_; have HB := n2_; clear n0_ n1_ n2_; (try clear hb); (try clear hb2); (try clear hk); (try clear hi); have hcz114_0 : w113.cell? ⟨gb248, 0, none⟩ = some (.int .i64 a2_0) := (blk_cell BK248.out 0).trans rfl; have hcz114_1 : w113.cell? ⟨gb248, 1, none⟩ = some (.int .i64 a2_1) := (blk_cell BK248.out 1).trans rfl; have hcz114_2 : w113.cell? ⟨gb248, 2, none⟩ = some (.int .i64 a2_2) := (blk_cell BK248.out 2).trans rfl; have hcz114_3 : w113.cell? ⟨gb248, 3, none⟩ = some (.int .i64 a2_3) := (blk_cell BK248.out 3).trans rfl; have hfz114_0 := blk_frozen BK248.out 0; have hfz114_1 := blk_frozen BK248.out 1; have hfz114_2 := blk_frozen BK248.out 2; have hfz114_3 := blk_frozen BK248.out 3) | ((with_reducible refine gate_callee (f := 17) rfl ?_); refine goesL_ (some 77) rfl rfl Try.func17 (by kernel_rfl) rfl #[.slice Ao112 t257.length co112, .agg #[.int .i64 a2_0, .int .i64 a2_1, .int .i64 a2_2, .int .i64 a2_3]] rfl (by (try simp only [List.map_toArray, List.map_cons, List.map_nil]); first | done | rfl | (simp only [List.length_drop, List.length_take]; rfl)) ?_; (with_reducible refine (edit_Cost.calls _ _ t257 a2_0 a2_1 a2_2 a2_3 t264 t265 _ ?side1 ?side2 A24.out).mono ?_); (case side1 => repeat (first | exact (Kd.R_reads' HO259.out).2.2 | (with_reducible refine Kd.C_alloc ?_ _) | (with_reducible refine Kd.C_drewN ?_ _) | (with_reducible refine Kd.C_drew ?_))); (case side2 => exact (Kd.R_reads' HO259.out).2.1); rintro e w115 ⟨rfl, hb⟩; refine ⟨_, rfl, ?_⟩; have n0_ := Aside0.mk (Kd.R_below (by (with_reducible repeat (first | apply Kd.R_alloc | apply Kd.R_drewN | apply Kd.R_drew)); exact HO259.out) hb); have n1_ := Aside0.mk (blk_below (g := gb248) (o := .cells #[.int .i64 a2_0, .int .i64 a2_1, .int .i64 a2_2, .int .i64 a2_3] 23 (0, 0)) (by (with_reducible repeat (first | refine blk_drewN ?_ _ | refine blk_drew ?_ | refine blk_alloc ?_ _)); exact BK248.out) hb); have n2_ := Aside0.mk (below_step (by repeat (first | (with_reducible first | exact HB.out | apply below_alloc | apply pw_below_drewN | apply below_drew1 | refine below_set ?_ GE248.out) | exact HB.out)) hb); clear HO259; clear BK248; clear HB; have HO259 := n0_; have BK248 := n1_; have HB := n2_; clear n0_ n1_ n2_; (try clear hb); (try clear hb2); (try clear hk); (try clear hi)))
            go_ret
            exact ⟨by first | rfl | (simp [errW_none, errW_some] <;> rfl) | (simp [*, errW_none, errW_some] <;> rfl), by repeat (first | (with_reducible first | exact HB.out | apply below_alloc | apply pw_below_drewN | apply below_drew1 | refine below_set ?_ GE248.out) | exact HB.out)⟩
          ·rw [if_neg c27] at H
           have c27b0 : (t261 == 0) = false := beq_eq_false_iff_ne.mpr c27
           have c27b1 : (t261 != 0) = true := bne_iff_ne.mpr c27
           obtain rfl := Option.some.inj H
           have hcz116_0 : wc.cell? ⟨gb248, 0, none⟩ = some (.int .i64 a2_0) := (blk_cell BK248.out 0).trans rfl
           have hcz116_1 : wc.cell? ⟨gb248, 1, none⟩ = some (.int .i64 a2_1) := (blk_cell BK248.out 1).trans rfl
           have hcz116_2 : wc.cell? ⟨gb248, 2, none⟩ = some (.int .i64 a2_2) := (blk_cell BK248.out 2).trans rfl
           have hcz116_3 : wc.cell? ⟨gb248, 3, none⟩ = some (.int .i64 a2_3) := (blk_cell BK248.out 3).trans rfl
           have hfz116_0 := blk_frozen BK248.out 0
           have hfz116_1 := blk_frozen BK248.out 1
           have hfz116_2 := blk_frozen BK248.out 2
           have hfz116_3 := blk_frozen BK248.out 3
           go_wp2_with (first | ((with_reducible refine gate_callee (f := 17) rfl ?_); refine goesL_ (some 50) rfl rfl Try.func17 (by kernel_rfl) rfl #[.slice A1 l1.length c1, .agg #[.int .i64 a2_0, .int .i64 a2_1, .int .i64 a2_2, .int .i64 a2_3]] rfl (by (try simp only [List.map_toArray, List.map_cons, List.map_nil]); first | done | rfl | (simp only [List.length_drop, List.length_take]; rfl)) ?_; (with_reducible refine (edit_Cost.calls _ _ l1 a2_0 a2_1 a2_2 a2_3 t253 t254 _ ?side1 ?side2 A20.out).mono ?_); (case side1 => repeat (first | exact (Kd.C_below HR1.out HB.out) | (with_reducible refine Kd.C_alloc ?_ _) | (with_reducible refine Kd.C_drewN ?_ _) | (with_reducible refine Kd.C_drew ?_))); (case side2 => exact HC1.out); rintro e w117 ⟨rfl, hb⟩; refine ⟨_, rfl, ?_⟩; have n0_ := Aside0.mk (blk_below (g := gb248) (o := .cells #[.int .i64 a2_0, .int .i64 a2_1, .int .i64 a2_2, .int .i64 a2_3] 23 (0, 0)) (by (with_reducible repeat (first | refine blk_drewN ?_ _ | refine blk_drew ?_ | refine blk_alloc ?_ _)); exact BK248.out) hb); have n1_ := Aside0.mk (below_step (by repeat (first | (with_reducible first | exact HB.out | apply below_alloc | apply pw_below_drewN | apply below_drew1 | refine below_set ?_ GE248.out) | exact HB.out)) hb); clear BK248; clear HB; have BK248 := n0_; have HB := n1_; clear n0_ n1_; (try clear hb); (try clear hb2); (try clear hk); (try clear hi); have hcz118_0 : w117.cell? ⟨gb248, 0, none⟩ = some (.int .i64 a2_0) := (blk_cell BK248.out 0).trans rfl; have hcz118_1 : w117.cell? ⟨gb248, 1, none⟩ = some (.int .i64 a2_1) := (blk_cell BK248.out 1).trans rfl; have hcz118_2 : w117.cell? ⟨gb248, 2, none⟩ = some (.int .i64 a2_2) := (blk_cell BK248.out 2).trans rfl; have hcz118_3 : w117.cell? ⟨gb248, 3, none⟩ = some (.int .i64 a2_3) := (blk_cell BK248.out 3).trans rfl; have hfz118_0 := blk_frozen BK248.out 0; have hfz118_1 := blk_frozen BK248.out 1; have hfz118_2 := blk_frozen BK248.out 2; have hfz118_3 := blk_frozen BK248.out 3) | ((with_reducible refine gate_callee (f := 12) rfl ?_); refine goesL_ (some 57) rfl rfl Try.func12 (by kernel_rfl) rfl #[.string a0, .string t251, .agg #[.int .i64 a2_0, .int .i64 a2_1, .int .i64 a2_2, .int .i64 a2_3]] rfl (by (try simp only [List.map_toArray, List.map_cons, List.map_nil]); first | done | rfl | (simp only [List.length_drop, List.length_take]; rfl)) ?_; (with_reducible refine (edit_Distance.calls a0 t251 a2_0 a2_1 a2_2 a2_3 t255 t256 _ A21.out).mono ?_); rintro e w119 ⟨rfl, hb⟩; refine ⟨_, rfl, ?_⟩; have n0_ := Aside0.mk (blk_below (g := gb248) (o := .cells #[.int .i64 a2_0, .int .i64 a2_1, .int .i64 a2_2, .int .i64 a2_3] 23 (0, 0)) (by (with_reducible repeat (first | refine blk_drewN ?_ _ | refine blk_drew ?_ | refine blk_alloc ?_ _)); exact BK248.out) hb); have n1_ := Aside0.mk (below_step (by repeat (first | (with_reducible first | exact HB.out | apply below_alloc | apply pw_below_drewN | apply below_drew1 | refine below_set ?_ GE248.out) | exact HB.out)) hb); clear BK248; clear HB; have BK248 := n0_; have HB := n1_; clear n0_ n1_; (try clear hb); (try clear hb2); (try clear hk); (try clear hi); have hcz120_0 : w119.cell? ⟨gb248, 0, none⟩ = some (.int .i64 a2_0) := (blk_cell BK248.out 0).trans rfl; have hcz120_1 : w119.cell? ⟨gb248, 1, none⟩ = some (.int .i64 a2_1) := (blk_cell BK248.out 1).trans rfl; have hcz120_2 : w119.cell? ⟨gb248, 2, none⟩ = some (.int .i64 a2_2) := (blk_cell BK248.out 2).trans rfl; have hcz120_3 : w119.cell? ⟨gb248, 3, none⟩ = some (.int .i64 a2_3) := (blk_cell BK248.out 3).trans rfl; have hfz120_0 := blk_frozen BK248.out 0; have hfz120_1 := blk_frozen BK248.out 1; have hfz120_2 := blk_frozen BK248.out 2; have hfz120_3 := blk_frozen BK248.out 3) | ((with_reducible refine gate_callee (f := 14) rfl ?_); refine goesL_ (some 64) rfl rfl Try.func14 (by kernel_rfl) rfl #[.string a0, .string t251, .agg #[.int .i64 a2_0, .int .i64 a2_1, .int .i64 a2_2, .int .i64 a2_3]] rfl (by (try simp only [List.map_toArray, List.map_cons, List.map_nil]); first | done | rfl | (simp only [List.length_drop, List.length_take]; rfl)) ?_; (with_reducible refine (edit_Path.calls a0 t251 a2_0 a2_1 a2_2 a2_3 t257 t260 t261 _ A22.out).mono ?_); rintro e w121 ⟨v258, rfl, ho0, hb⟩; refine ⟨_, rfl, ?_⟩; have n0_ := Aside0.mk (Kd.R_lower ho0 (below_size (by repeat (first | (with_reducible first | exact HB.out | apply below_alloc | apply pw_below_drewN | apply below_drew1 | refine below_set ?_ GE248.out) | exact HB.out)))); have n1_ := Aside0.mk (blk_below (g := gb248) (o := .cells #[.int .i64 a2_0, .int .i64 a2_1, .int .i64 a2_2, .int .i64 a2_3] 23 (0, 0)) (by (with_reducible repeat (first | refine blk_drewN ?_ _ | refine blk_drew ?_ | refine blk_alloc ?_ _)); exact BK248.out) hb); have n2_ := Aside0.mk (below_step (by repeat (first | (with_reducible first | exact HB.out | apply below_alloc | apply pw_below_drewN | apply below_drew1 | refine below_set ?_ GE248.out) | exact HB.out)) hb); clear BK248; clear HB; have HO259 := n0_; have BK248 := n1_; have HB := n2_; clear n0_ n1_ n2_; (try clear hb); (try clear hb2); (try clear hk); (try clear hi); (try clear ho0); obtain ⟨Ao122, co122, eo122⟩ := Kd.R_slice HO259.out; subst eo122) | ((with_reducible refine gate_callee (f := 16) rfl ?_); refine goesL_ (some 71) rfl rfl Try.func16 (by kernel_rfl) rfl #[.string a0, .slice Ao122 t257.length co122] rfl (by (try simp only [List.map_toArray, List.map_cons, List.map_nil]); first | done | rfl | (simp only [List.length_drop, List.length_take]; rfl)) ?_; (with_reducible refine (edit_Apply.calls kj15 a0 _ _ t257 t262 t263 _ ?side1 ?side2 A23.out).mono ?_); (case side1 => repeat (first | exact (Kd.R_reads' HO259.out).2.2 | (with_reducible refine Kd.C_alloc ?_ _) | (with_reducible refine Kd.C_drewN ?_ _) | (with_reducible refine Kd.C_drew ?_))); (case side2 => exact (Kd.R_reads' HO259.out).2.1); rintro e w123 ⟨rfl, hb⟩; refine ⟨_, rfl, ?_⟩; have n0_ := Aside0.mk (Kd.R_below (by (with_reducible repeat (first | apply Kd.R_alloc | apply Kd.R_drewN | apply Kd.R_drew)); exact HO259.out) hb); have n1_ := Aside0.mk (blk_below (g := gb248) (o := .cells #[.int .i64 a2_0, .int .i64 a2_1, .int .i64 a2_2, .int .i64 a2_3] 23 (0, 0)) (by (with_reducible repeat (first | refine blk_drewN ?_ _ | refine blk_drew ?_ | refine blk_alloc ?_ _)); exact BK248.out) hb); have n2_ := Aside0.mk (below_step (by repeat (first | (with_reducible first | exact HB.out | apply below_alloc | apply pw_below_drewN | apply below_drew1 | refine below_set ?_ GE248.out) | exact HB.out)) hb); clear HO259; clear BK248; clear HB; have HO259 := n0_; have BK248 := n1_; have HB := n2_; clear n0_ n1_ n2_; (try clear hb); (try clear hb2); (try clear hk); (try clear hi); have hcz124_0 : w123.cell? ⟨gb248, 0, none⟩ = some (.int .i64 a2_0) := (blk_cell BK248.out 0).trans rfl; have hcz124_1 : w123.cell? ⟨gb248, 1, none⟩ = some (.int .i64 a2_1) := (blk_cell BK248.out 1).trans rfl; have hcz124_2 : w123.cell? ⟨gb248, 2, none⟩ = some (.int .i64 a2_2) := (blk_cell BK248.out 2).trans rfl; have hcz124_3 : w123.cell? ⟨gb248, 3, none⟩ = some (.int .i64 a2_3) := (blk_cell BK248.out 3).trans rfl; have hfz124_0 := blk_frozen BK248.out 0; have hfz124_1 := blk_frozen BK248.out 1; have hfz124_2 := blk_frozen BK248.out 2; have hfz124_3 := blk_frozen BK248.out 3) | ((with_reducible refine gate_callee (f := 17) rfl ?_); refine goesL_ (some 77) rfl rfl Try.func17 (by kernel_rfl) rfl #[.slice Ao122 t257.length co122, .agg #[.int .i64 a2_0, .int .i64 a2_1, .int .i64 a2_2, .int .i64 a2_3]] rfl (by (try simp only [List.map_toArray, List.map_cons, List.map_nil]); first | done | rfl | (simp only [List.length_drop, List.length_take]; rfl)) ?_; (with_reducible refine (edit_Cost.calls _ _ t257 a2_0 a2_1 a2_2 a2_3 t264 t265 _ ?side1 ?side2 A24.out).mono ?_); (case side1 => repeat (first | exact (Kd.R_reads' HO259.out).2.2 | (with_reducible refine Kd.C_alloc ?_ _) | (with_reducible refine Kd.C_drewN ?_ _) | (with_reducible refine Kd.C_drew ?_))); (case side2 => exact (Kd.R_reads' HO259.out).2.1); rintro e w125 ⟨rfl, hb⟩; refine ⟨_, rfl, ?_⟩; have n0_ := Aside0.mk (Kd.R_below (by (with_reducible repeat (first | apply Kd.R_alloc | apply Kd.R_drewN | apply Kd.R_drew)); exact HO259.out) hb); have n1_ := Aside0.mk (blk_below (g := gb248) (o := .cells #[.int .i64 a2_0, .int .i64 a2_1, .int .i64 a2_2, .int .i64 a2_3] 23 (0, 0)) (by (with_reducible repeat (first | refine blk_drewN ?_ _ | refine blk_drew ?_ | refine blk_alloc ?_ _)); exact BK248.out) hb); have n2_ := Aside0.mk (below_step (by repeat (first | (with_reducible first | exact HB.out | apply below_alloc | apply pw_below_drewN | apply below_drew1 | refine below_set ?_ GE248.out) | exact HB.out)) hb); clear HO259; clear BK248; clear HB; have HO259 := n0_; have BK248 := n1_; have HB := n2_; clear n0_ n1_ n2_; (try clear hb); (try clear hb2); (try clear hk); (try clear hi)))
           go_ret
           exact ⟨by first | rfl | (simp [errW_none, errW_some] <;> rfl) | (simp [*, errW_none, errW_some] <;> rfl), by repeat (first | (with_reducible first | exact HB.out | apply below_alloc | apply pw_below_drewN | apply below_drew1 | refine below_set ?_ GE248.out) | exact HB.out)⟩
         ·rw [if_neg c26] at H
          have c26b0 : (t256 == 0) = false := beq_eq_false_iff_ne.mpr c26
          have c26b1 : (t256 != 0) = true := bne_iff_ne.mpr c26
          obtain rfl := Option.some.inj H
          have hcz126_0 : wc.cell? ⟨gb248, 0, none⟩ = some (.int .i64 a2_0) := (blk_cell BK248.out 0).trans rfl
          have hcz126_1 : wc.cell? ⟨gb248, 1, none⟩ = some (.int .i64 a2_1) := (blk_cell BK248.out 1).trans rfl
          have hcz126_2 : wc.cell? ⟨gb248, 2, none⟩ = some (.int .i64 a2_2) := (blk_cell BK248.out 2).trans rfl
          have hcz126_3 : wc.cell? ⟨gb248, 3, none⟩ = some (.int .i64 a2_3) := (blk_cell BK248.out 3).trans rfl
          have hfz126_0 := blk_frozen BK248.out 0
          have hfz126_1 := blk_frozen BK248.out 1
          have hfz126_2 := blk_frozen BK248.out 2
          have hfz126_3 := blk_frozen BK248.out 3
          go_wp2_with (first | ((with_reducible refine gate_callee (f := 17) rfl ?_); refine goesL_ (some 50) rfl rfl Try.func17 (by kernel_rfl) rfl #[.slice A1 l1.length c1, .agg #[.int .i64 a2_0, .int .i64 a2_1, .int .i64 a2_2, .int .i64 a2_3]] rfl (by (try simp only [List.map_toArray, List.map_cons, List.map_nil]); first | done | rfl | (simp only [List.length_drop, List.length_take]; rfl)) ?_; (with_reducible refine (edit_Cost.calls _ _ l1 a2_0 a2_1 a2_2 a2_3 t253 t254 _ ?side1 ?side2 A20.out).mono ?_); (case side1 => repeat (first | exact (Kd.C_below HR1.out HB.out) | (with_reducible refine Kd.C_alloc ?_ _) | (with_reducible refine Kd.C_drewN ?_ _) | (with_reducible refine Kd.C_drew ?_))); (case side2 => exact HC1.out); rintro e w127 ⟨rfl, hb⟩; refine ⟨_, rfl, ?_⟩; have n0_ := Aside0.mk (blk_below (g := gb248) (o := .cells #[.int .i64 a2_0, .int .i64 a2_1, .int .i64 a2_2, .int .i64 a2_3] 23 (0, 0)) (by (with_reducible repeat (first | refine blk_drewN ?_ _ | refine blk_drew ?_ | refine blk_alloc ?_ _)); exact BK248.out) hb); have n1_ := Aside0.mk (below_step (by repeat (first | (with_reducible first | exact HB.out | apply below_alloc | apply pw_below_drewN | apply below_drew1 | refine below_set ?_ GE248.out) | exact HB.out)) hb); clear BK248; clear HB; have BK248 := n0_; have HB := n1_; clear n0_ n1_; (try clear hb); (try clear hb2); (try clear hk); (try clear hi); have hcz128_0 : w127.cell? ⟨gb248, 0, none⟩ = some (.int .i64 a2_0) := (blk_cell BK248.out 0).trans rfl; have hcz128_1 : w127.cell? ⟨gb248, 1, none⟩ = some (.int .i64 a2_1) := (blk_cell BK248.out 1).trans rfl; have hcz128_2 : w127.cell? ⟨gb248, 2, none⟩ = some (.int .i64 a2_2) := (blk_cell BK248.out 2).trans rfl; have hcz128_3 : w127.cell? ⟨gb248, 3, none⟩ = some (.int .i64 a2_3) := (blk_cell BK248.out 3).trans rfl; have hfz128_0 := blk_frozen BK248.out 0; have hfz128_1 := blk_frozen BK248.out 1; have hfz128_2 := blk_frozen BK248.out 2; have hfz128_3 := blk_frozen BK248.out 3) | ((with_reducible refine gate_callee (f := 12) rfl ?_); refine goesL_ (some 57) rfl rfl Try.func12 (by kernel_rfl) rfl #[.string a0, .string t251, .agg #[.int .i64 a2_0, .int .i64 a2_1, .int .i64 a2_2, .int .i64 a2_3]] rfl (by (try simp only [List.map_toArray, List.map_cons, List.map_nil]); first | done | rfl | (simp only [List.length_drop, List.length_take]; rfl)) ?_; (with_reducible refine (edit_Distance.calls a0 t251 a2_0 a2_1 a2_2 a2_3 t255 t256 _ A21.out).mono ?_); rintro e w129 ⟨rfl, hb⟩; refine ⟨_, rfl, ?_⟩; have n0_ := Aside0.mk (blk_below (g := gb248) (o := .cells #[.int .i64 a2_0, .int .i64 a2_1, .int .i64 a2_2, .int .i64 a2_3] 23 (0, 0)) (by (with_reducible repeat (first | refine blk_drewN ?_ _ | refine blk_drew ?_ | refine blk_alloc ?_ _)); exact BK248.out) hb); have n1_ := Aside0.mk (below_step (by repeat (first | (with_reducible first | exact HB.out | apply below_alloc | apply pw_below_drewN | apply below_drew1 | refine below_set ?_ GE248.out) | exact HB.out)) hb); clear BK248; clear HB; have BK248 := n0_; have HB := n1_; clear n0_ n1_; (try clear hb); (try clear hb2); (try clear hk); (try clear hi); have hcz130_0 : w129.cell? ⟨gb248, 0, none⟩ = some (.int .i64 a2_0) := (blk_cell BK248.out 0).trans rfl; have hcz130_1 : w129.cell? ⟨gb248, 1, none⟩ = some (.int .i64 a2_1) := (blk_cell BK248.out 1).trans rfl; have hcz130_2 : w129.cell? ⟨gb248, 2, none⟩ = some (.int .i64 a2_2) := (blk_cell BK248.out 2).trans rfl; have hcz130_3 : w129.cell? ⟨gb248, 3, none⟩ = some (.int .i64 a2_3) := (blk_cell BK248.out 3).trans rfl; have hfz130_0 := blk_frozen BK248.out 0; have hfz130_1 := blk_frozen BK248.out 1; have hfz130_2 := blk_frozen BK248.out 2; have hfz130_3 := blk_frozen BK248.out 3) | ((with_reducible refine gate_callee (f := 14) rfl ?_); refine goesL_ (some 64) rfl rfl Try.func14 (by kernel_rfl) rfl #[.string a0, .string t251, .agg #[.int .i64 a2_0, .int .i64 a2_1, .int .i64 a2_2, .int .i64 a2_3]] rfl (by (try simp only [List.map_toArray, List.map_cons, List.map_nil]); first | done | rfl | (simp only [List.length_drop, List.length_take]; rfl)) ?_; (with_reducible refine (edit_Path.calls a0 t251 a2_0 a2_1 a2_2 a2_3 t257 t260 t261 _ A22.out).mono ?_); rintro e w131 ⟨v258, rfl, ho0, hb⟩; refine ⟨_, rfl, ?_⟩; have n0_ := Aside0.mk (Kd.R_lower ho0 (below_size (by repeat (first | (with_reducible first | exact HB.out | apply below_alloc | apply pw_below_drewN | apply below_drew1 | refine below_set ?_ GE248.out) | exact HB.out)))); have n1_ := Aside0.mk (blk_below (g := gb248) (o := .cells #[.int .i64 a2_0, .int .i64 a2_1, .int .i64 a2_2, .int .i64 a2_3] 23 (0, 0)) (by (with_reducible repeat (first | refine blk_drewN ?_ _ | refine blk_drew ?_ | refine blk_alloc ?_ _)); exact BK248.out) hb); have n2_ := Aside0.mk (below_step (by repeat (first | (with_reducible first | exact HB.out | apply below_alloc | apply pw_below_drewN | apply below_drew1 | refine below_set ?_ GE248.out) | exact HB.out)) hb); clear BK248; clear HB; have HO259 := n0_; have BK248 := n1_; have HB := n2_; clear n0_ n1_ n2_; (try clear hb); (try clear hb2); (try clear hk); (try clear hi); (try clear ho0); obtain ⟨Ao132, co132, eo132⟩ := Kd.R_slice HO259.out; subst eo132) | ((with_reducible refine gate_callee (f := 16) rfl ?_); refine goesL_ (some 71) rfl rfl Try.func16 (by kernel_rfl) rfl #[.string a0, .slice Ao132 t257.length co132] rfl (by (try simp only [List.map_toArray, List.map_cons, List.map_nil]); first | done | rfl | (simp only [List.length_drop, List.length_take]; rfl)) ?_; (with_reducible refine (edit_Apply.calls kj15 a0 _ _ t257 t262 t263 _ ?side1 ?side2 A23.out).mono ?_); (case side1 => repeat (first | exact (Kd.R_reads' HO259.out).2.2 | (with_reducible refine Kd.C_alloc ?_ _) | (with_reducible refine Kd.C_drewN ?_ _) | (with_reducible refine Kd.C_drew ?_))); (case side2 => exact (Kd.R_reads' HO259.out).2.1); rintro e w133 ⟨rfl, hb⟩; refine ⟨_, rfl, ?_⟩; have n0_ := Aside0.mk (Kd.R_below (by (with_reducible repeat (first | apply Kd.R_alloc | apply Kd.R_drewN | apply Kd.R_drew)); exact HO259.out) hb); have n1_ := Aside0.mk (blk_below (g := gb248) (o := .cells #[.int .i64 a2_0, .int .i64 a2_1, .int .i64 a2_2, .int .i64 a2_3] 23 (0, 0)) (by (with_reducible repeat (first | refine blk_drewN ?_ _ | refine blk_drew ?_ | refine blk_alloc ?_ _)); exact BK248.out) hb); have n2_ := Aside0.mk (below_step (by repeat (first | (with_reducible first | exact HB.out | apply below_alloc | apply pw_below_drewN | apply below_drew1 | refine below_set ?_ GE248.out) | exact HB.out)) hb); clear HO259; clear BK248; clear HB; have HO259 := n0_; have BK248 := n1_; have HB := n2_; clear n0_ n1_ n2_; (try clear hb); (try clear hb2); (try clear hk); (try clear hi); have hcz134_0 : w133.cell? ⟨gb248, 0, none⟩ = some (.int .i64 a2_0) := (blk_cell BK248.out 0).trans rfl; have hcz134_1 : w133.cell? ⟨gb248, 1, none⟩ = some (.int .i64 a2_1) := (blk_cell BK248.out 1).trans rfl; have hcz134_2 : w133.cell? ⟨gb248, 2, none⟩ = some (.int .i64 a2_2) := (blk_cell BK248.out 2).trans rfl; have hcz134_3 : w133.cell? ⟨gb248, 3, none⟩ = some (.int .i64 a2_3) := (blk_cell BK248.out 3).trans rfl; have hfz134_0 := blk_frozen BK248.out 0; have hfz134_1 := blk_frozen BK248.out 1; have hfz134_2 := blk_frozen BK248.out 2; have hfz134_3 := blk_frozen BK248.out 3) | ((with_reducible refine gate_callee (f := 17) rfl ?_); refine goesL_ (some 77) rfl rfl Try.func17 (by kernel_rfl) rfl #[.slice Ao132 t257.length co132, .agg #[.int .i64 a2_0, .int .i64 a2_1, .int .i64 a2_2, .int .i64 a2_3]] rfl (by (try simp only [List.map_toArray, List.map_cons, List.map_nil]); first | done | rfl | (simp only [List.length_drop, List.length_take]; rfl)) ?_; (with_reducible refine (edit_Cost.calls _ _ t257 a2_0 a2_1 a2_2 a2_3 t264 t265 _ ?side1 ?side2 A24.out).mono ?_); (case side1 => repeat (first | exact (Kd.R_reads' HO259.out).2.2 | (with_reducible refine Kd.C_alloc ?_ _) | (with_reducible refine Kd.C_drewN ?_ _) | (with_reducible refine Kd.C_drew ?_))); (case side2 => exact (Kd.R_reads' HO259.out).2.1); rintro e w135 ⟨rfl, hb⟩; refine ⟨_, rfl, ?_⟩; have n0_ := Aside0.mk (Kd.R_below (by (with_reducible repeat (first | apply Kd.R_alloc | apply Kd.R_drewN | apply Kd.R_drew)); exact HO259.out) hb); have n1_ := Aside0.mk (blk_below (g := gb248) (o := .cells #[.int .i64 a2_0, .int .i64 a2_1, .int .i64 a2_2, .int .i64 a2_3] 23 (0, 0)) (by (with_reducible repeat (first | refine blk_drewN ?_ _ | refine blk_drew ?_ | refine blk_alloc ?_ _)); exact BK248.out) hb); have n2_ := Aside0.mk (below_step (by repeat (first | (with_reducible first | exact HB.out | apply below_alloc | apply pw_below_drewN | apply below_drew1 | refine below_set ?_ GE248.out) | exact HB.out)) hb); clear HO259; clear BK248; clear HB; have HO259 := n0_; have BK248 := n1_; have HB := n2_; clear n0_ n1_ n2_; (try clear hb); (try clear hb2); (try clear hk); (try clear hi)))
          go_ret
          exact ⟨by first | rfl | (simp [errW_none, errW_some] <;> rfl) | (simp [*, errW_none, errW_some] <;> rfl), by repeat (first | (with_reducible first | exact HB.out | apply below_alloc | apply pw_below_drewN | apply below_drew1 | refine below_set ?_ GE248.out) | exact HB.out)⟩
        ·rw [if_neg c25] at H
         have c25b0 : (t254 == 0) = false := beq_eq_false_iff_ne.mpr c25
         have c25b1 : (t254 != 0) = true := bne_iff_ne.mpr c25
         obtain rfl := Option.some.inj H
         have hcz136_0 : wc.cell? ⟨gb248, 0, none⟩ = some (.int .i64 a2_0) := (blk_cell BK248.out 0).trans rfl
         have hcz136_1 : wc.cell? ⟨gb248, 1, none⟩ = some (.int .i64 a2_1) := (blk_cell BK248.out 1).trans rfl
         have hcz136_2 : wc.cell? ⟨gb248, 2, none⟩ = some (.int .i64 a2_2) := (blk_cell BK248.out 2).trans rfl
         have hcz136_3 : wc.cell? ⟨gb248, 3, none⟩ = some (.int .i64 a2_3) := (blk_cell BK248.out 3).trans rfl
         have hfz136_0 := blk_frozen BK248.out 0
         have hfz136_1 := blk_frozen BK248.out 1
         have hfz136_2 := blk_frozen BK248.out 2
         have hfz136_3 := blk_frozen BK248.out 3
         go_wp2_with (first | ((with_reducible refine gate_callee (f := 17) rfl ?_); refine goesL_ (some 50) rfl rfl Try.func17 (by kernel_rfl) rfl #[.slice A1 l1.length c1, .agg #[.int .i64 a2_0, .int .i64 a2_1, .int .i64 a2_2, .int .i64 a2_3]] rfl (by (try simp only [List.map_toArray, List.map_cons, List.map_nil]); first | done | rfl | (simp only [List.length_drop, List.length_take]; rfl)) ?_; (with_reducible refine (edit_Cost.calls _ _ l1 a2_0 a2_1 a2_2 a2_3 t253 t254 _ ?side1 ?side2 A20.out).mono ?_); (case side1 => repeat (first | exact (Kd.C_below HR1.out HB.out) | (with_reducible refine Kd.C_alloc ?_ _) | (with_reducible refine Kd.C_drewN ?_ _) | (with_reducible refine Kd.C_drew ?_))); (case side2 => exact HC1.out); rintro e w137 ⟨rfl, hb⟩; refine ⟨_, rfl, ?_⟩; have n0_ := Aside0.mk (blk_below (g := gb248) (o := .cells #[.int .i64 a2_0, .int .i64 a2_1, .int .i64 a2_2, .int .i64 a2_3] 23 (0, 0)) (by (with_reducible repeat (first | refine blk_drewN ?_ _ | refine blk_drew ?_ | refine blk_alloc ?_ _)); exact BK248.out) hb); have n1_ := Aside0.mk (below_step (by repeat (first | (with_reducible first | exact HB.out | apply below_alloc | apply pw_below_drewN | apply below_drew1 | refine below_set ?_ GE248.out) | exact HB.out)) hb); clear BK248; clear HB; have BK248 := n0_; have HB := n1_; clear n0_ n1_; (try clear hb); (try clear hb2); (try clear hk); (try clear hi); have hcz138_0 : w137.cell? ⟨gb248, 0, none⟩ = some (.int .i64 a2_0) := (blk_cell BK248.out 0).trans rfl; have hcz138_1 : w137.cell? ⟨gb248, 1, none⟩ = some (.int .i64 a2_1) := (blk_cell BK248.out 1).trans rfl; have hcz138_2 : w137.cell? ⟨gb248, 2, none⟩ = some (.int .i64 a2_2) := (blk_cell BK248.out 2).trans rfl; have hcz138_3 : w137.cell? ⟨gb248, 3, none⟩ = some (.int .i64 a2_3) := (blk_cell BK248.out 3).trans rfl; have hfz138_0 := blk_frozen BK248.out 0; have hfz138_1 := blk_frozen BK248.out 1; have hfz138_2 := blk_frozen BK248.out 2; have hfz138_3 := blk_frozen BK248.out 3) | ((with_reducible refine gate_callee (f := 12) rfl ?_); refine goesL_ (some 57) rfl rfl Try.func12 (by kernel_rfl) rfl #[.string a0, .string t251, .agg #[.int .i64 a2_0, .int .i64 a2_1, .int .i64 a2_2, .int .i64 a2_3]] rfl (by (try simp only [List.map_toArray, List.map_cons, List.map_nil]); first | done | rfl | (simp only [List.length_drop, List.length_take]; rfl)) ?_; (with_reducible refine (edit_Distance.calls a0 t251 a2_0 a2_1 a2_2 a2_3 t255 t256 _ A21.out).mono ?_); rintro e w139 ⟨rfl, hb⟩; refine ⟨_, rfl, ?_⟩; have n0_ := Aside0.mk (blk_below (g := gb248) (o := .cells #[.int .i64 a2_0, .int .i64 a2_1, .int .i64 a2_2, .int .i64 a2_3] 23 (0, 0)) (by (with_reducible repeat (first | refine blk_drewN ?_ _ | refine blk_drew ?_ | refine blk_alloc ?_ _)); exact BK248.out) hb); have n1_ := Aside0.mk (below_step (by repeat (first | (with_reducible first | exact HB.out | apply below_alloc | apply pw_below_drewN | apply below_drew1 | refine below_set ?_ GE248.out) | exact HB.out)) hb); clear BK248; clear HB; have BK248 := n0_; have HB := n1_; clear n0_ n1_; (try clear hb); (try clear hb2); (try clear hk); (try clear hi); have hcz140_0 : w139.cell? ⟨gb248, 0, none⟩ = some (.int .i64 a2_0) := (blk_cell BK248.out 0).trans rfl; have hcz140_1 : w139.cell? ⟨gb248, 1, none⟩ = some (.int .i64 a2_1) := (blk_cell BK248.out 1).trans rfl; have hcz140_2 : w139.cell? ⟨gb248, 2, none⟩ = some (.int .i64 a2_2) := (blk_cell BK248.out 2).trans rfl; have hcz140_3 : w139.cell? ⟨gb248, 3, none⟩ = some (.int .i64 a2_3) := (blk_cell BK248.out 3).trans rfl; have hfz140_0 := blk_frozen BK248.out 0; have hfz140_1 := blk_frozen BK248.out 1; have hfz140_2 := blk_frozen BK248.out 2; have hfz140_3 := blk_frozen BK248.out 3) | ((with_reducible refine gate_callee (f := 14) rfl ?_); refine goesL_ (some 64) rfl rfl Try.func14 (by kernel_rfl) rfl #[.string a0, .string t251, .agg #[.int .i64 a2_0, .int .i64 a2_1, .int .i64 a2_2, .int .i64 a2_3]] rfl (by (try simp only [List.map_toArray, List.map_cons, List.map_nil]); first | done | rfl | (simp only [List.length_drop, List.length_take]; rfl)) ?_; (with_reducible refine (edit_Path.calls a0 t251 a2_0 a2_1 a2_2 a2_3 t257 t260 t261 _ A22.out).mono ?_); rintro e w141 ⟨v258, rfl, ho0, hb⟩; refine ⟨_, rfl, ?_⟩; have n0_ := Aside0.mk (Kd.R_lower ho0 (below_size (by repeat (first | (with_reducible first | exact HB.out | apply below_alloc | apply pw_below_drewN | apply below_drew1 | refine below_set ?_ GE248.out) | exact HB.out)))); have n1_ := Aside0.mk (blk_below (g := gb248) (o := .cells #[.int .i64 a2_0, .int .i64 a2_1, .int .i64 a2_2, .int .i64 a2_3] 23 (0, 0)) (by (with_reducible repeat (first | refine blk_drewN ?_ _ | refine blk_drew ?_ | refine blk_alloc ?_ _)); exact BK248.out) hb); have n2_ := Aside0.mk (below_step (by repeat (first | (with_reducible first | exact HB.out | apply below_alloc | apply pw_below_drewN | apply below_drew1 | refine below_set ?_ GE248.out) | exact HB.out)) hb); clear BK248; clear HB; have HO259 := n0_; have BK248 := n1_; have HB := n2_; clear n0_ n1_ n2_; (try clear hb); (try clear hb2); (try clear hk); (try clear hi); (try clear ho0); obtain ⟨Ao142, co142, eo142⟩ := Kd.R_slice HO259.out; subst eo142) | ((with_reducible refine gate_callee (f := 16) rfl ?_); refine goesL_ (some 71) rfl rfl Try.func16 (by kernel_rfl) rfl #[.string a0, .slice Ao142 t257.length co142] rfl (by (try simp only [List.map_toArray, List.map_cons, List.map_nil]); first | done | rfl | (simp only [List.length_drop, List.length_take]; rfl)) ?_; (with_reducible refine (edit_Apply.calls kj15 a0 _ _ t257 t262 t263 _ ?side1 ?side2 A23.out).mono ?_); (case side1 => repeat (first | exact (Kd.R_reads' HO259.out).2.2 | (with_reducible refine Kd.C_alloc ?_ _) | (with_reducible refine Kd.C_drewN ?_ _) | (with_reducible refine Kd.C_drew ?_))); (case side2 => exact (Kd.R_reads' HO259.out).2.1); rintro e w143 ⟨rfl, hb⟩; refine ⟨_, rfl, ?_⟩; have n0_ := Aside0.mk (Kd.R_below (by (with_reducible repeat (first | apply Kd.R_alloc | apply Kd.R_drewN | apply Kd.R_drew)); exact HO259.out) hb); have n1_ := Aside0.mk (blk_below (g := gb248) (o := .cells #[.int .i64 a2_0, .int .i64 a2_1, .int .i64 a2_2, .int .i64 a2_3] 23 (0, 0)) (by (with_reducible repeat (first | refine blk_drewN ?_ _ | refine blk_drew ?_ | refine blk_alloc ?_ _)); exact BK248.out) hb); have n2_ := Aside0.mk (below_step (by repeat (first | (with_reducible first | exact HB.out | apply below_alloc | apply pw_below_drewN | apply below_drew1 | refine below_set ?_ GE248.out) | exact HB.out)) hb); clear HO259; clear BK248; clear HB; have HO259 := n0_; have BK248 := n1_; have HB := n2_; clear n0_ n1_ n2_; (try clear hb); (try clear hb2); (try clear hk); (try clear hi); have hcz144_0 : w143.cell? ⟨gb248, 0, none⟩ = some (.int .i64 a2_0) := (blk_cell BK248.out 0).trans rfl; have hcz144_1 : w143.cell? ⟨gb248, 1, none⟩ = some (.int .i64 a2_1) := (blk_cell BK248.out 1).trans rfl; have hcz144_2 : w143.cell? ⟨gb248, 2, none⟩ = some (.int .i64 a2_2) := (blk_cell BK248.out 2).trans rfl; have hcz144_3 : w143.cell? ⟨gb248, 3, none⟩ = some (.int .i64 a2_3) := (blk_cell BK248.out 3).trans rfl; have hfz144_0 := blk_frozen BK248.out 0; have hfz144_1 := blk_frozen BK248.out 1; have hfz144_2 := blk_frozen BK248.out 2; have hfz144_3 := blk_frozen BK248.out 3) | ((with_reducible refine gate_callee (f := 17) rfl ?_); refine goesL_ (some 77) rfl rfl Try.func17 (by kernel_rfl) rfl #[.slice Ao142 t257.length co142, .agg #[.int .i64 a2_0, .int .i64 a2_1, .int .i64 a2_2, .int .i64 a2_3]] rfl (by (try simp only [List.map_toArray, List.map_cons, List.map_nil]); first | done | rfl | (simp only [List.length_drop, List.length_take]; rfl)) ?_; (with_reducible refine (edit_Cost.calls _ _ t257 a2_0 a2_1 a2_2 a2_3 t264 t265 _ ?side1 ?side2 A24.out).mono ?_); (case side1 => repeat (first | exact (Kd.R_reads' HO259.out).2.2 | (with_reducible refine Kd.C_alloc ?_ _) | (with_reducible refine Kd.C_drewN ?_ _) | (with_reducible refine Kd.C_drew ?_))); (case side2 => exact (Kd.R_reads' HO259.out).2.1); rintro e w145 ⟨rfl, hb⟩; refine ⟨_, rfl, ?_⟩; have n0_ := Aside0.mk (Kd.R_below (by (with_reducible repeat (first | apply Kd.R_alloc | apply Kd.R_drewN | apply Kd.R_drew)); exact HO259.out) hb); have n1_ := Aside0.mk (blk_below (g := gb248) (o := .cells #[.int .i64 a2_0, .int .i64 a2_1, .int .i64 a2_2, .int .i64 a2_3] 23 (0, 0)) (by (with_reducible repeat (first | refine blk_drewN ?_ _ | refine blk_drew ?_ | refine blk_alloc ?_ _)); exact BK248.out) hb); have n2_ := Aside0.mk (below_step (by repeat (first | (with_reducible first | exact HB.out | apply below_alloc | apply pw_below_drewN | apply below_drew1 | refine below_set ?_ GE248.out) | exact HB.out)) hb); clear HO259; clear BK248; clear HB; have HO259 := n0_; have BK248 := n1_; have HB := n2_; clear n0_ n1_ n2_; (try clear hb); (try clear hb2); (try clear hk); (try clear hi)))
         go_ret
         exact ⟨by first | rfl | (simp [errW_none, errW_some] <;> rfl) | (simp [*, errW_none, errW_some] <;> rfl), by repeat (first | (with_reducible first | exact HB.out | apply below_alloc | apply pw_below_drewN | apply below_drew1 | refine below_set ?_ GE248.out) | exact HB.out)⟩
 ·replace c5 := Bool.eq_false_iff.mpr c5
  subst c5
  have H1 : (some false) = some r := by rw [if_neg (show ¬ (false = true) by decide)] at H; exact H
  clear H
  have H := H1
  clear H1
  obtain rfl := Option.some.inj H
  go_enter Try.func7, Try.ntmps7
  go_wp2_with (first | ((with_reducible refine gate_dst (N := 5) rfl ?_); (try (refine gate_guard (by rfl) ?_; dsimp only)); refine box_event ?hg (N := 5) ?hd (cs := #[.int .i64 a2_0, .int .i64 a2_1, .int .i64 a2_2, .int .i64 a2_3]) (t := 23) ?hr ?_; (case hd => rfl); (case hg => rfl); (case hr => first | (go_simp; done) | (go_simp; rfl)); intro gb248 hg w146 hbox hb; have n0_ := Aside0.mk (below_step (by repeat (first | (with_reducible first | exact HB.out | apply below_alloc | apply pw_below_drewN | apply below_drew1) | exact HB.out)) hb); have n1_ := Aside0.mk (hbox); have n2_ := Aside0.mk ((by rw [hg]; exact (below_size (by repeat (first | (with_reducible first | exact HB.out | apply below_alloc | apply pw_below_drewN | apply below_drew1) | exact HB.out))) : w.heap.size ≤ gb248)); have n3_ := Aside0.mk ((by rw [hg]; exact (below_size (by repeat (first | (with_reducible first | exact HB.out | apply below_alloc | apply pw_below_drewN | apply below_drew1) | exact HB.out))) : w.heap.size ≤ gb248)); clear HB; have HB := n0_; have BK248 := n1_; have GW248 := n2_; have GE248 := n3_; clear n0_ n1_ n2_ n3_; clear hb hbox hg) | ((with_reducible refine gate_callee (f := 9) rfl ?_); refine goesL_ (some 19) rfl rfl Try.func9 (by kernel_rfl) rfl #[] rfl (by (try simp only [List.map_toArray, List.map_cons, List.map_nil]); first | done | rfl | (simp only [List.length_drop, List.length_take]; rfl)) ?_; (with_reducible refine (letterbaglaw06_awake.calls  false _ A4.out).mono ?_); rintro e w147 ⟨rfl, hb⟩; refine ⟨_, rfl, ?_⟩; have n0_ := Aside0.mk (blk_below (g := gb248) (o := .cells #[.int .i64 a2_0, .int .i64 a2_1, .int .i64 a2_2, .int .i64 a2_3] 23 (0, 0)) (by (with_reducible repeat (first | refine blk_drewN ?_ _ | refine blk_drew ?_ | refine blk_alloc ?_ _)); exact BK248.out) hb); have n1_ := Aside0.mk (below_step (by repeat (first | (with_reducible first | exact HB.out | apply below_alloc | apply pw_below_drewN | apply below_drew1 | refine below_set ?_ GE248.out) | exact HB.out)) hb); clear BK248; clear HB; have BK248 := n0_; have HB := n1_; clear n0_ n1_; (try clear hb); (try clear hb2); (try clear hk); (try clear hi)))
  go_ret
  exact ⟨by first | rfl | (simp [errW_none, errW_some] <;> rfl) | (simp [*, errW_none, errW_some] <;> rfl), by repeat (first | (with_reducible first | exact HB.out | apply below_alloc | apply pw_below_drewN | apply below_drew1 | refine below_set ?_ GE248.out) | exact HB.out)⟩
end Go.Proofs.Ytdefecnngccmoaa.QTells
namespace Go.Proofs.Ytdefecnngccmoaa.Ed
open Go.RowKit Go.Proofs.YtdefecnngccmoaaW.PrintWords QTells
def stepA (o : S38) (s : List Int) : Option (List Int × List Int) :=
  if o.f0 = 5 then some ([o.f1], s)
  else if o.f0 = 2 ∧ 0 < s.length ∧ rd s 0 ≠ o.f1 then some ([o.f1], s.drop 1)
  else if o.f1 ≠ 0 then none
  else if o.f0 = 1 ∧ 0 < s.length then some ([rd s 0], s.drop 1)
  else if o.f0 = 3 ∧ 1 < s.length ∧ rd s 0 ≠ rd s 1 then some ([rd s 1, rd s 0], s.drop 2)
  else if o.f0 = 4 ∧ 0 < s.length then some ([], s.drop 1)
  else none
def runA : List S38 → List Int → Option (List Int)
  | [], s => if s = [] then some [] else none
  | o :: l, s => (stepA o s).bind fun p => (runA l p.2).map (p.1 ++ ·)
def outA (acc : List Int) : Option (List Int) → ByteArray × Int
  | some out => (strOfNums (acc ++ out), 0)
  | none => (⟨#[]⟩, 60)
theorem drop_at (l : List S38) (i : Nat) (h : i < l.length) : l.drop i = rd_T38 l (i : Int) :: l.drop (i + 1) := by
  rw [List.drop_eq_getElem_cons h]
  congr 1
  simp [rd_T38, h]
theorem outA_map (acc out : List Int) (r : Option (List Int)) : outA acc (r.map (out ++ ·)) = outA (acc ++ out) r := by
  cases r <;> simp [outA]
theorem empty_iff (x : ByteArray) : x.toList = ([] : List UInt8) ↔ bytesOf x = [] := by
  rw [ByteArray.toList_eq]
  unfold bytesOf
  simp
theorem apply_l0 (l : List S38) (hl : l.length ≤ 1000) : ∀ (n k : Nat) (x0 : ByteArray) (acc : List Int) (i : Nat), i + n = l.length → 5 * n + 5 ≤ k → acc.length + 2 * n < 1000000 →
    edit_Apply.l0 k x0 acc l (l.length : Int) (i : Int) = some (outA acc (runA (l.drop i) (bytesOf x0)))
  | 0, k, x0, acc, i, hi, hk, _ => by
    obtain ⟨k, rfl⟩ : ∃ k', k = k' + 1 := ⟨k - 1, by omega⟩
    rw [edit_Apply.l0, if_neg (by omega), List.drop_eq_nil_of_le (by omega), runA]
    by_cases h : bytesOf x0 = []
    · rw [if_pos ((empty_iff x0).mpr h), if_pos h]; simp [outA]
    · rw [if_neg (fun h' => h ((empty_iff x0).mp h')), if_neg h]; rfl
  | n + 1, k, x0, acc, i, hi, hk, ha => by
    obtain ⟨k, rfl⟩ : ∃ k', k = k' + 4 := ⟨k - 4, by omega⟩
    have hw : wrap64 ((i : Int) + 1) = ((i + 1 : Nat) : Int) := by rw [wrap_small (by omega) (by omega)]; omega
    have hx := bytesOf_length x0
    have ih := fun (j : Nat) (hj : 5 * n + 5 ≤ j) (x : ByteArray) (out : List Int) (ho : out.length ≤ 2) =>
      apply_l0 l hl n j x (acc ++ out) (i + 1) (by omega) hj (by rw [List.length_append]; omega)
    have r0 : rd (bytesOf x0) 0 = bt x0 0 := rd_bytesOf x0 0
    have r1 : rd (bytesOf x0) 1 = bt x0 1 := rd_bytesOf x0 1
    rw [edit_Apply.l0, if_pos (by omega), if_pos (by omega), if_pos (by omega), drop_at l i (by omega), runA]
    generalize rd_T38 l (i : Int) = o
    rw [hw]
    unfold stepA
    rw [hx, r0, r1]
    by_cases h5 : o.f0 = 5
    · rw [if_pos h5, if_pos (by omega), if_pos (by omega), if_pos h5, ih _ (by omega) _ [o.f1] (by simp), Option.bind_some, outA_map, bytes_extract]
      simp
    rw [if_neg h5, if_neg h5]
    have j4 : ∀ b : Bool, b = decide (o.f0 = 3 ∧ 1 < x0.size ∧ bt x0 0 ≠ bt x0 1) → o.f0 ≠ 5 → edit_Apply.j4 (k + 1) x0 acc l (l.length : Int) (i : Int) b o.f0 o.f1 =
        some (outA acc ((if o.f0 = 3 ∧ 1 < x0.size ∧ bt x0 0 ≠ bt x0 1 then some ([bt x0 1, bt x0 0], (bytesOf x0).drop 2) else if o.f0 = 4 ∧ 0 < x0.size then some ([], (bytesOf x0).drop 1) else none).bind fun p => (runA (l.drop (i + 1)) p.2).map (p.1 ++ ·))) := by
      rintro b rfl _
      rw [edit_Apply.j4]
      by_cases h : o.f0 = 3 ∧ 1 < x0.size ∧ bt x0 0 ≠ bt x0 1
      · rw [if_pos (decide_eq_true h), if_pos (by omega), if_pos (by omega), Option.bind_some, if_pos (by simp; omega), if_pos (by omega), hw, if_pos h, ih _ (by omega) _ _ (by simp), Option.bind_some, outA_map, bytes_extract]
      · rw [if_neg (by simpa using h), if_neg h]
        by_cases h4 : o.f0 = 4
        · rw [if_pos h4]
          by_cases hs : (x0.size : Int) > 0
          · rw [if_pos hs, if_pos (by omega), hw, if_pos ⟨h4, by omega⟩, Option.bind_some, outA_map]
            have e := ih k (by omega) (x0.extract 1 x0.size) [] (by simp)
            rw [List.append_nil] at e ⊢
            rw [e, bytes_extract]
          · rw [if_neg hs, if_neg (by omega)]; rfl
        · rw [if_neg h4, if_neg (by omega)]; rfl
    have j3 : ∀ b : Bool, b = decide (o.f0 = 1 ∧ 0 < x0.size) → edit_Apply.j3 (k + 2) x0 acc l (l.length : Int) (i : Int) b o.f0 o.f1 =
        some (outA acc ((if o.f0 = 1 ∧ 0 < x0.size then some ([bt x0 0], (bytesOf x0).drop 1) else if o.f0 = 3 ∧ 1 < x0.size ∧ bt x0 0 ≠ bt x0 1 then some ([bt x0 1, bt x0 0], (bytesOf x0).drop 2) else if o.f0 = 4 ∧ 0 < x0.size then some ([], (bytesOf x0).drop 1) else none).bind fun p => (runA (l.drop (i + 1)) p.2).map (p.1 ++ ·))) := by
      rintro b rfl
      rw [edit_Apply.j3]
      by_cases h : o.f0 = 1 ∧ 0 < x0.size
      · rw [if_pos (decide_eq_true h), if_pos (by omega), if_pos (by omega), if_pos (by omega), hw, if_pos h, ih _ (by omega) _ _ (by simp), Option.bind_some, outA_map, bytes_extract]
      · rw [if_neg (by simpa using h), if_neg h]
        by_cases h3 : o.f0 = 3
        · rw [if_pos h3]
          by_cases hs : (x0.size : Int) > 1
          · rw [if_pos hs, if_pos (by omega), if_pos (by omega)]
            refine j4 _ ?_ h5
            have : 1 < x0.size := by omega
            simp [h3, this, bne]
            rfl
          · rw [if_neg hs]
            refine j4 _ ?_ h5
            have : ¬ 1 < x0.size := by omega
            simp [this]
        · rw [if_neg h3]
          refine j4 _ ?_ h5
          simp [h3]
    have j2 : ∀ b : Bool, b = decide (o.f0 = 2 ∧ 0 < x0.size ∧ bt x0 0 ≠ o.f1) → edit_Apply.j2 (k + 3) x0 acc l (l.length : Int) (i : Int) b o.f0 o.f1 =
        some (outA acc ((if o.f0 = 2 ∧ 0 < x0.size ∧ bt x0 0 ≠ o.f1 then some ([o.f1], (bytesOf x0).drop 1) else if o.f1 ≠ 0 then none else if o.f0 = 1 ∧ 0 < x0.size then some ([bt x0 0], (bytesOf x0).drop 1) else if o.f0 = 3 ∧ 1 < x0.size ∧ bt x0 0 ≠ bt x0 1 then some ([bt x0 1, bt x0 0], (bytesOf x0).drop 2) else if o.f0 = 4 ∧ 0 < x0.size then some ([], (bytesOf x0).drop 1) else none).bind fun p => (runA (l.drop (i + 1)) p.2).map (p.1 ++ ·))) := by
      rintro b rfl
      rw [edit_Apply.j2]
      by_cases h : o.f0 = 2 ∧ 0 < x0.size ∧ bt x0 0 ≠ o.f1
      · rw [if_pos (decide_eq_true h), if_pos (by omega), if_pos (by omega), hw, if_pos h, ih _ (by omega) _ _ (by simp), Option.bind_some, outA_map, bytes_extract]
      · rw [if_neg (by simpa using h), if_neg h]
        by_cases h0 : o.f1 = 0
        · rw [if_pos h0, if_neg (show ¬ (o.f1 ≠ 0) from fun h => h h0)]
          by_cases h1 : o.f0 = 1
          · rw [if_pos h1]
            refine j3 _ ?_
            have : ((x0.size : Int) > 0) ↔ 0 < x0.size := by omega
            simp [h1]
          · rw [if_neg h1]
            refine j3 _ ?_
            simp [h1]
        · rw [if_neg h0, if_pos h0]; rfl
    by_cases h2 : o.f0 = 2
    · rw [if_pos h2]
      by_cases hs : (x0.size : Int) > 0
      · rw [if_pos hs, if_pos (by omega)]
        refine j2 _ ?_
        have : 0 < x0.size := by omega
        simp [h2, this, bne]
        rfl
      · rw [if_neg hs]
        refine j2 _ ?_
        have : ¬ 0 < x0.size := by omega
        simp [this]
    · rw [if_neg h2]
      refine j2 _ ?_
      simp [h2]
theorem apply_f (s : ByteArray) (l : List S38) (hs : s.size ≤ 60) (hl : l.length ≤ 120) (k : Nat) (hk : 606 ≤ k) :
    edit_Apply.f k s l = some (outA [] (runA l (bytesOf s))) := by
  obtain ⟨k, rfl⟩ : ∃ k', k = k' + 1 := ⟨k - 1, by omega⟩
  have e := apply_l0 l (by omega) l.length k s [] 0 (by omega) (by omega) (by simp; omega)
  unfold edit_Apply.f
  rw [if_neg (by omega), edit_Apply.j0, if_neg (by simp; omega)]
  exact e
end Go.Proofs.Ytdefecnngccmoaa.Ed
namespace Go.Proofs.Ytdefecnngccmoaa.Ed
open Go.RowKit Go.Proofs.YtdefecnngccmoaaW.PrintWords QTells
theorem run_sc : ∀ (l : List S38) (s t : List Int), runA l s = some t → Sc l s t
  | [], s, t, h => by
    rw [runA] at h
    by_cases hs : s = []
    · rw [if_pos hs] at h; obtain rfl := Option.some.inj h; subst hs; exact .nil
    · rw [if_neg hs] at h; cases h
  | o :: l, s, t, h => by
    obtain ⟨k, b⟩ := o
    rw [runA] at h
    obtain ⟨⟨out, r⟩, h1, h2⟩ := Option.bind_eq_some_iff.mp h
    obtain ⟨t', h3, rfl⟩ := Option.map_eq_some_iff.mp h2
    have ih := run_sc l r t' h3
    unfold stepA at h1
    simp only at h1
    by_cases h5 : k = 5
    · rw [if_pos h5] at h1; obtain ⟨rfl, rfl⟩ := Prod.mk.inj (Option.some.inj h1); subst h5; exact .ins b ih
    rw [if_neg h5] at h1
    by_cases c2 : k = 2 ∧ 0 < s.length ∧ rd s 0 ≠ b
    · rw [if_pos c2] at h1; obtain ⟨rfl, rfl⟩ := Prod.mk.inj (Option.some.inj h1)
      obtain ⟨rfl, hs, hne⟩ := c2
      cases s with
      | nil => simp at hs
      | cons a s => exact .chg a b hne ih
    rw [if_neg c2] at h1
    by_cases h0 : b = 0
    · rw [if_neg (fun h => h h0)] at h1
      subst h0
      by_cases c1 : k = 1 ∧ 0 < s.length
      · rw [if_pos c1] at h1; obtain ⟨rfl, rfl⟩ := Prod.mk.inj (Option.some.inj h1)
        obtain ⟨rfl, hs⟩ := c1
        cases s with
        | nil => simp at hs
        | cons a s => exact .keep a ih
      rw [if_neg c1] at h1
      by_cases c3 : k = 3 ∧ 1 < s.length ∧ rd s 0 ≠ rd s 1
      · rw [if_pos c3] at h1; obtain ⟨rfl, rfl⟩ := Prod.mk.inj (Option.some.inj h1)
        obtain ⟨rfl, hs, hne⟩ := c3
        match s, hs, hne, ih with
        | [], hs, _, _ => simp at hs
        | [_], hs, _, _ => simp at hs
        | a :: b :: s, _, hne, ih => exact .swp a b hne ih
      rw [if_neg c3] at h1
      by_cases c4 : k = 4 ∧ 0 < s.length
      · rw [if_pos c4] at h1; obtain ⟨rfl, rfl⟩ := Prod.mk.inj (Option.some.inj h1)
        obtain ⟨rfl, hs⟩ := c4
        cases s with
        | nil => simp at hs
        | cons a s => exact .del a ih
      rw [if_neg c4] at h1; cases h1
    · rw [if_pos h0] at h1; cases h1
theorem sc_run {l : List S38} {s t : List Int} (h : Sc l s t) : runA l s = some t := by
  induction h with
  | nil => rfl
  | keep a _ ih => rw [runA]; simp [stepA, ih, rd]
  | chg a b h _ ih => rw [runA]; simp [stepA, ih, rd, h]
  | swp a b h _ ih => rw [runA]; simp [stepA, ih, rd, h]
  | del a _ ih => rw [runA]; simp [stepA, ih]
  | ins b _ ih => rw [runA]; simp [stepA, ih]
def befB : List S38 → List S38 → Bool
  | [], _ => true
  | _ :: _, [] => false
  | o :: a, p :: b => if o.f0 = p.f0 then befB a b else decide (o.f0 < p.f0)
theorem before_l0 (a b : List S38) (ha : a.length ≤ 1000) (hb : b.length ≤ 1000) : ∀ (n k i : Nat), i + n = a.length → i ≤ b.length → 2 * n + 2 ≤ k →
    letterbaglaw06_before.l0 k a b (i : Int) = some (befB (a.drop i) (b.drop i))
  | 0, k, i, hi, hj, hk => by
    obtain ⟨k, rfl⟩ : ∃ k', k = k' + 2 := ⟨k - 2, by omega⟩
    rw [letterbaglaw06_before.l0, if_neg (by omega), letterbaglaw06_before.j1, if_neg (by simp), List.drop_eq_nil_of_le (by omega), befB, decide_eq_true (by omega)]
  | n + 1, k, i, hi, hj, hk => by
    obtain ⟨k, rfl⟩ : ∃ k', k = k' + 2 := ⟨k - 2, by omega⟩
    rw [letterbaglaw06_before.l0, if_pos (by omega), letterbaglaw06_before.j1, drop_at a i (by omega)]
    by_cases h : i < b.length
    · rw [if_pos (decide_eq_true (by omega)), if_pos (by omega), if_pos (by omega), if_pos (by omega), drop_at b i h, befB]
      by_cases e : (rd_T38 a (i : Int)).f0 = (rd_T38 b (i : Int)).f0
      · rw [if_pos e, if_pos e, wrap_small (by omega) (by omega)]
        have e2 : ((i : Int) + 1) = ((i + 1 : Nat) : Int) := by omega
        rw [e2]
        exact before_l0 a b ha hb n k (i + 1) (by omega) (by omega) (by omega)
      · rw [if_neg e, if_neg e]
    · have eb : b.drop i = [] := List.drop_eq_nil_of_le (by omega)
      rw [if_neg (by simp; omega), eb, befB, decide_eq_false (by omega)]
theorem before_f (a b : List S38) (ha : a.length ≤ 1000) (hb : b.length ≤ 1000) (k : Nat) (hk : 2 * a.length + 2 ≤ k) : letterbaglaw06_before.f k a b = some (befB a b) := by
  unfold letterbaglaw06_before.f
  have e := before_l0 a b ha hb a.length k 0 (by omega) (by omega) hk
  exact e
theorem path_first {c : Lb.Cst} {l : List S38} {s t : List Int} (h : Sc l s t) (hk : sumK c l ≤ Lb.dist c s t) : befB (pathL c s t) l = true := by
  induction h with
  | nil => rw [pathL]; rfl
  | @keep a l s t h ih =>
    have h1 := dist_least (c := c) h
    have h2 := dist_le_one (c := c) a a s t
    rw [one_self] at h2
    simp only [sumK, costK1] at hk
    rw [pathL, if_pos ⟨rfl, by omega⟩, befB, if_pos rfl]
    exact ih (by omega)
  | @chg a b hn l s t h ih =>
    have h1 := dist_least (c := c) h
    have h2 := dist_le_one (c := c) a b s t
    rw [one_ne hn] at h2
    simp only [sumK, costK2] at hk
    rw [pathL, if_neg (fun h => hn h.1), if_pos ⟨hn, by omega⟩, befB, if_pos rfl]
    exact ih (by omega)
  | @swp a b hn l s t h ih =>
    have h1 := dist_least (c := c) h
    have h2 := dist_le_swp (c := c) a b hn s t
    simp only [sumK, costK3] at hk
    rw [pathL, if_neg (fun h => hn h.1)]
    split
    · rw [befB, if_neg (by simp)]; rfl
    · rw [if_pos ⟨swap_mk hn s t, by simp only [List.drop_succ_cons, List.drop_zero]; omega⟩, befB, if_pos rfl]
      exact ih (by omega)
  | @del a l s t h ih =>
    have h1 := dist_least (c := c) h
    have h2 := dist_le_del (c := c) a s t
    simp only [sumK, costK4] at hk
    cases t with
    | nil => rw [pathL, befB, if_pos rfl]; exact ih (by omega)
    | cons b t =>
      rw [pathL]
      split
      · rw [befB, if_neg (by simp)]; rfl
      split
      · rw [befB, if_neg (by simp)]; rfl
      split
      · rw [befB, if_neg (by simp)]; rfl
      rw [if_pos (by omega), befB, if_pos rfl]
      exact ih (by omega)
  | @ins b l s t h ih =>
    have h1 := dist_least (c := c) h
    have h2 := dist_le_ins (c := c) b s t
    simp only [sumK, costK5] at hk
    cases s with
    | nil => rw [pathL, befB, if_pos rfl]; exact ih (by omega)
    | cons a s =>
      rw [pathL]
      split
      · rw [befB, if_neg (by simp)]; rfl
      split
      · rw [befB, if_neg (by simp)]; rfl
      split
      · rw [befB, if_neg (by simp)]; rfl
      split
      · rw [befB, if_neg (by simp)]; rfl
      rw [befB, if_pos rfl]
      exact ih (by omega)
theorem bytes_of (l : List Int) (h : ∀ x ∈ l, 0 ≤ x ∧ x < 256) : bytesOf (strOfNums l) = l := by
  unfold bytesOf strOfNums
  simp only [List.map_map]
  conv => rhs; rw [← List.map_id l]
  apply List.map_congr_left
  intro x hx
  have := h x hx
  simp only [Function.comp, id, UInt8.toNat_ofNat']
  omega
theorem bytes_to (a : ByteArray) : strOfNums (bytesOf a) = a := by
  obtain ⟨⟨l⟩⟩ := a
  unfold bytesOf strOfNums
  simp only [List.map_map]
  congr 2
  conv => rhs; rw [← List.map_id l]
  apply List.map_congr_left
  intro x _
  simp [Function.comp]
theorem bytes_in (a : ByteArray) : ∀ x ∈ bytesOf a, 0 ≤ x ∧ x < 256 := by
  intro x hx
  unfold bytesOf at hx
  obtain ⟨b, _, rfl⟩ := List.mem_map.mp hx
  have := b.toNat_lt
  omega
theorem Sc.bytes {l : List S38} {s t : List Int} (h : Sc l s t) (hl : ∀ o ∈ l, 0 ≤ o.f1 ∧ o.f1 < 256) (hs : ∀ x ∈ s, 0 ≤ x ∧ x < 256) : ∀ x ∈ t, 0 ≤ x ∧ x < 256 := by
  induction h with
  | nil => intro x hx; cases hx
  | @keep a l s t h ih => simp only [List.mem_cons, forall_eq_or_imp] at hl hs ⊢; exact ⟨hs.1, ih hl.2 hs.2⟩
  | @chg a b hn l s t h ih => simp only [List.mem_cons, forall_eq_or_imp] at hl hs ⊢; exact ⟨hl.1, ih hl.2 hs.2⟩
  | @swp a b hn l s t h ih => simp only [List.mem_cons, forall_eq_or_imp] at hl hs ⊢; exact ⟨hs.2.1, hs.1, ih hl.2 hs.2.2⟩
  | @del a l s t h ih => simp only [List.mem_cons, forall_eq_or_imp] at hl hs ⊢; exact ih hl.2 hs.2
  | @ins b l s t h ih => simp only [List.mem_cons, forall_eq_or_imp] at hl ⊢; exact ⟨hl.1, ih hl.2 hs⟩
theorem least_true (s : ByteArray) (l : List S38) (hl : ∀ o ∈ l, 0 ≤ o.f1 ∧ o.f1 < 256) (c0 c1 c2 c3 : Int) : ∃ k, letterbaglaw06_EditLeast.f k s l c0 c1 c2 c3 = some true := by
  refine ⟨1002, ?_⟩
  have hj : letterbaglaw06_EditLeast.j0 1002 s l true c0 c1 c2 c3 = some true := by rw [letterbaglaw06_EditLeast.j0, if_pos rfl]
  have hj1 : ∀ x, letterbaglaw06_EditLeast.j1 1001 s l x true c0 c1 c2 c3 = some true := fun x => by rw [letterbaglaw06_EditLeast.j1, if_pos rfl]
  unfold letterbaglaw06_EditLeast.f
  simp only [letterbaglaw06_awake.f, Option.bind_some, if_true]
  by_cases ha : (s.size : Int) > 60
  · rw [if_pos ha, hj]
  rw [if_neg ha]
  by_cases hb : (l.length : Int) > 120
  · rw [if_pos hb, hj]
  rw [if_neg hb]
  simp only [edit_Right.f, Option.bind_some]
  by_cases hr : rightB c0 c1 c2 c3 = true
  · rw [hr, letterbaglaw06_EditLeast.j0, if_neg (by simp), apply_f s l (by omega) (by omega) 1001 (by omega), Option.bind_some]
    have hc := right_ok hr
    cases hrun : runA l (bytesOf s) with
    | none => rw [if_neg (by simp [outA]), hj1]
    | some t =>
      have e0 : outA [] (some t) = (strOfNums t, 0) := by simp [outA]
      rw [e0]
      dsimp only
      rw [if_pos rfl]
      have sc := run_sc _ _ _ hrun
      have hbt := sc.bytes hl (bytes_in s)
      have ht : bytesOf (strOfNums t) = t := bytes_of t hbt
      generalize strOfNums t = x at ht ⊢
      by_cases hz : (x.size : Int) > 60
      · rw [decide_eq_true hz, hj1]
      rw [decide_eq_false hz, letterbaglaw06_EditLeast.j1, if_neg (by simp), cost_at sc (by omega) hr, Option.bind_some, dist_at hr (by omega) (by omega), Option.bind_some, path_at hr (by omega) (by omega), Option.bind_some]
      have p := path_sc (c := ⟨c0, c1, c2, c3⟩) (bytesOf s) (bytesOf x)
      have pl := path_len (a := s) (b := x) (by omega) (by omega) ⟨c0, c1, c2, c3⟩
      simp only
      rw [apply_f s _ (by omega) pl 1000 (by omega), Option.bind_some, cost_at p.1 pl hr, Option.bind_some, sc_run p.1]
      simp only [outA, List.nil_append, bytes_to, if_true, p.2]
      have hle := dist_least (c := ⟨c0, c1, c2, c3⟩) sc
      rw [ht]
      rw [if_neg (by omega)]
      by_cases hm : sumK ⟨c0, c1, c2, c3⟩ l > Lb.dist ⟨c0, c1, c2, c3⟩ (bytesOf s) t
      · rw [if_pos hm]
      · rw [ht] at pl
        rw [if_neg hm, before_f _ _ (by omega) (by omega) 1000 (by omega), Option.bind_some, path_first sc (by omega)]
  · rw [Bool.eq_false_iff.mpr hr]
    exact hj
end Go.Proofs.Ytdefecnngccmoaa.Ed
namespace Go.Proofs.Ytdefecnngccmoaa.QTells
open Go.RowKit Go.Proofs.YtdefecnngccmoaaW.PrintWords Go.Proofs.YtdefecnngccmoaaW.PrintLast Go.Proofs.YtdefecnngccmoaaW.PrintMore
attribute [local go_sem] max2_int min2_int max_two min_two max_three min_three max_four min_four
set_option linter.unusedVariables false
set_option linter.unusedSimpArgs false
open Go.Proofs.Ytdefecnngccmoaa.Ed
def letterbaglaw06_back.l0 : Nat → ByteArray → List Int → Int → Option (ByteArray)
 | 0, _, _, _ => none
 | k + 1, x0, x3, x4 => if x4 ≥ 0 then (if 0 ≤ x4 then (if x4 < (x0.size : Int) then (if x3.length < 140737488355328 then (letterbaglaw06_back.l0 k x0 (x3 ++ [bt x0 x4]) (wrap64 (x4 - 1))) else (none)) else (none)) else (none)) else (some (strOfNums x3))
def letterbaglaw06_back.f (k : Nat) (a0 : ByteArray) : Option (ByteArray) := letterbaglaw06_back.l0 k a0 ([] : List Int) (wrap64 ((a0.size : Int) - 1))
theorem letterbaglaw06_back.mono_l : ∀ k, (∀ y0 y1 y2, LeO (letterbaglaw06_back.l0 k y0 y1 y2) (letterbaglaw06_back.l0 (k + 1) y0 y1 y2))
 | 0 => fun _ _ _ r h => by simp [letterbaglaw06_back.l0] at h
 | k + 1 => by
  have ih0 := letterbaglaw06_back.mono_l k
  ·intro y0 y1 y2
   unfold letterbaglaw06_back.l0
   repeat' first
   | (with_reducible exact ih0 _ _ _)
   | (with_reducible exact LeO.refl _)
   | (with_reducible exact LeO.none _)
   | (with_reducible refine LeO.ite ?_ ?_)
   | (with_reducible refine LeO.bind ?_ (fun _ => ?_))
   | exact ih0 _ _ _
   | exact LeO.none _
   | refine LeO.ite ?_ ?_
   | refine LeO.bind ?_ (fun _ => ?_)
theorem letterbaglaw06_back.mono : ∀ a0 k, LeO (letterbaglaw06_back.f k a0) (letterbaglaw06_back.f (k + 1) a0) := by
 intro a0 k
 have ih0 := letterbaglaw06_back.mono_l k
 unfold letterbaglaw06_back.f
 repeat' first
   | (with_reducible exact ih0 _ _ _)
   | (with_reducible exact LeO.refl _)
   | (with_reducible exact LeO.none _)
   | (with_reducible refine LeO.ite ?_ ?_)
   | (with_reducible refine LeO.bind ?_ (fun _ => ?_))
   | exact ih0 _ _ _
   | exact LeO.none _
   | refine LeO.ite ?_ ?_
   | refine LeO.bind ?_ (fun _ => ?_)
set_option maxHeartbeats 8000000 in
set_option maxRecDepth 100000 in
theorem letterbaglaw06_back.calls (k : Nat) (a0 : ByteArray) (r : ByteArray) (w : World) (h : letterbaglaw06_back.f k a0 = some r) :
  Calls Try.prog 13 #[.string a0] w fun e w' => e = .returned (.string r) ∧ Below w.heap.size w w' := by
 have HB := Aside0.mk (Below.refl w.heap.size w)
 have H : (letterbaglaw06_back.l0 k a0 ([] : List Int) (wrap64 ((a0.size : Int) - 1))) = some r := h
 clear h
 have H' := Aside0.mk H
 clear H
 go_enter Try.func13, Try.ntmps13
 go_wp2
 go_loopg [3, 4] k (fun kq v3 v4 w' => ∃ (x3_1 : List Int) (x4_1 : Int), v4 = .int .i64 x4_1 ∧ Aside0 (letterbaglaw06_back.l0 kq a0 x3_1 x4_1 = some r) ∧ Aside0 (kq ≤ k) ∧ Aside0 (Kd.R (Kd.int .u8) 5 w' w.heap.size (fun _ => True) v3 x3_1) ∧ Aside0 (Below w.heap.size w w'))
 case atStart => exact ⟨(([] : List Int)), (wrap64 ((a0.size : Int) - 1)), (by first | rfl | (simp; done) | (simp [*]; done)), H', ⟨Nat.le_refl _⟩, ⟨by first | exact Kd.R_nil _ _ _ _ _ | exact Kd.N_nil _ _ _ _ _ | exact Kd.V_nil _ _ _ _ _ | exact Kd.Q_nil _ _ _ _ _ | exact Kd.S_nil _ _ _ _ _⟩, ⟨by repeat (first | (with_reducible first | exact HB.out | apply below_alloc | apply pw_below_drewN | apply below_drew1) | exact HB.out)⟩⟩
 case round =>
  clear H'
  try clear c1
  obtain ⟨x3_1, x4_1, rfl, HA, HK1, HO_3, HB⟩ := hrel
  cases gk with
  | zero => exact absurd HA.out (by simp [letterbaglaw06_back.l0])
  | succ k1 =>
   have H := HA.out
   clear HA
   simp only [letterbaglaw06_back.l0] at H
   by_cases c2 : x4_1 ≥ 0
   ·rw [if_pos c2] at H
    have c2b0 : decide (0 ≤ x4_1) = true := decide_eq_true c2
    clear c2
    by_cases c3 : 0 ≤ x4_1
    ·rw [if_pos c3] at H
     have c3b0 : decide (0 ≤ x4_1) = true := decide_eq_true c3
     clear c3
     by_cases c4 : x4_1 < (a0.size : Int)
     ·rw [if_pos c4] at H
      have c4b0 : decide (x4_1 < (a0.size : Int)) = true := decide_eq_true c4
      clear c4
      by_cases c6 : x3_1.length < 140737488355328
      ·rw [if_pos c6] at H
       have LMc6 := Aside0.mk c6
       clear c6
       obtain ⟨y218, hy218⟩ : ∃ y_ : List Int, y_ = (x3_1 ++ [bt a0 x4_1]) := ⟨_, rfl⟩
       replace H : (letterbaglaw06_back.l0 k1 a0 y218 (wrap64 (x4_1 - 1))) = some r := by first | (rw [hy218]; with_reducible exact H) | (have H2_ := (Option.bind_some _ _).symm.trans H; rw [hy218]; with_reducible exact H2_) | (have H2_ := (Option.bind_some _ _).symm.trans H; with_reducible exact H2_) | with_reducible exact H | (rw [hy218]; exact H) | exact H
       have Ny218 := Aside0.mk hy218
       clear hy218
       have H' := Aside0.mk H
       clear H
       have p5 : 0 ≤ (x4_1 : Int) := of_decide_eq_true (by first | (with_reducible assumption) | assumption)
       have q5 : x4_1 < (a0.size : Int) := of_decide_eq_true (by first | (with_reducible assumption) | assumption)
       have hx5 := bt_at a0 x4_1
       replace p5 := eq_true p5
       replace q5 := eq_true q5
       go_wp2_with (first | ((with_reducible refine gate_builtin (b := .append) (xs := #[.tmp 12, .tmp 16]) rfl ?_); at_builtin; refine Kd.R_append (Kd.int .u8) (w0 := w) w.heap.size rfl (.tmp 12) (.tmp 16) 66 5 (.int .u8 0) 1 rfl Try.underlying66 info5 rfl (by decide) (by omega) u3 x3_1 (bt a0 x4_1) [.int .u8 (bt a0 x4_1)] (fun _ => True) (fun _ => False) rfl rfl ?aP (fun _ hk => hk.elim) ?aF ?aO ?aB ?aS ?aL ?_; (case aP => exact rfl); (case aB => exact (by repeat (first | (with_reducible first | exact HB.out | apply below_alloc | apply pw_below_drewN | apply below_drew1) | exact HB.out))); (case aF => exact (fun _ _ => trivial)); (case aO => exact (by (with_reducible repeat (first | apply Kd.R_alloc | apply Kd.R_drewN | apply Kd.R_drew)); exact HO_3.out)); (case aS => exact (below_size (by repeat (first | (with_reducible first | exact HB.out | apply below_alloc | apply pw_below_drewN | apply below_drew1) | exact HB.out)))); (case aL => have := LMc6.out; omega); intro v219 w7 ho hb hg hat; rw [← Ny218.out] at ho; have n0_ := Aside0.mk (hb); have n1_ := Aside0.mk (ho); clear HB; clear HO_3; have HB := n0_; have HO220 := n1_; clear n0_ n1_; clear ho hb hg hat))
       go_roundg k1
       case measure => have := HK1.out; omega
       case rel => exact ⟨(y218), (wrap64 (x4_1 - 1)), (by first | rfl | (simp; done) | (simp [*]; done)), H', ⟨by have := HK1.out; omega⟩, ⟨by (with_reducible repeat (first | apply Kd.R_alloc | apply Kd.R_drewN | apply Kd.R_drew)); exact HO220.out⟩, ⟨by repeat (first | (with_reducible first | exact HB.out | apply below_alloc | apply pw_below_drewN | apply below_drew1) | exact HB.out)⟩⟩
      ·rw [if_neg c6] at H
       exact absurd H (by simp)
     ·rw [if_neg c4] at H
      exact absurd H (by simp)
    ·rw [if_neg c3] at H
     exact absurd H (by simp)
   ·rw [if_neg c2] at H
    have c2b0 : decide (0 ≤ x4_1) = false := decide_eq_false c2
    clear c2
    obtain rfl := Option.some.inj H
    have hcv8 := own_string (P := Try.prog) Try.underlying66 Try.underlying5 Try.underlying9 (Kd.own_of_R HO_3.out)
    go_wp2
    go_ret
    exact ⟨by first | rfl | (simp [errW_none, errW_some] <;> rfl) | (simp [*, errW_none, errW_some] <;> rfl), by repeat (first | (with_reducible first | exact HB.out | apply below_alloc | apply pw_below_drewN | apply below_drew1) | exact HB.out)⟩
end Go.Proofs.Ytdefecnngccmoaa.QTells
namespace Go.Proofs.Ytdefecnngccmoaa.Ed
open Go.RowKit Go.Proofs.YtdefecnngccmoaaW.PrintWords QTells
theorem keepS {w W W' : World} {g : Nat} {a b c d : Value} (hb : Below W.heap.size W W') (h : W.cell? ⟨g, 0, none⟩ = some a ∧ W.cell? ⟨g, 1, none⟩ = some b ∧ W.cell? ⟨g, 2, none⟩ = some c ∧ W.cell? ⟨g, 3, none⟩ = some d ∧ Below w.heap.size w W) :
    W'.cell? ⟨g, 0, none⟩ = some a ∧ W'.cell? ⟨g, 1, none⟩ = some b ∧ W'.cell? ⟨g, 2, none⟩ = some c ∧ W'.cell? ⟨g, 3, none⟩ = some d ∧ Below w.heap.size w W' :=
  ⟨pw_cell_below hb h.1, pw_cell_below hb h.2.1, pw_cell_below hb h.2.2.1, pw_cell_below hb h.2.2.2.1, below_step h.2.2.2.2 hb⟩
theorem back_l0 (a : ByteArray) (ha : a.size ≤ 60) : ∀ (i k : Nat) (acc : List Int), i ≤ a.size → i + 1 ≤ k → acc.length + i ≤ 1000 →
    letterbaglaw06_back.l0 k a acc ((i : Int) - 1) = some (strOfNums (acc ++ ((bytesOf a).take i).reverse))
  | 0, k, acc, hi, hk, hl => by
    obtain ⟨k, rfl⟩ : ∃ k', k = k' + 1 := ⟨k - 1, by omega⟩
    rw [letterbaglaw06_back.l0, if_neg (by omega)]
    simp
  | i + 1, k, acc, hi, hk, hl => by
    obtain ⟨k, rfl⟩ : ∃ k', k = k' + 1 := ⟨k - 1, by omega⟩
    rw [letterbaglaw06_back.l0, if_pos (by omega), if_pos (by omega), if_pos (by omega), if_pos (by omega), wrap_small (by omega) (by omega)]
    have e : (((i + 1 : Nat) : Int) - 1 - 1) = (i : Int) - 1 := by omega
    have e2 : (((i + 1 : Nat) : Int) - 1) = (i : Int) := by omega
    rw [e, e2, back_l0 a ha i k _ (by omega) (by omega) (by simp; omega)]
    have hb := bytesOf_length a
    have ht : (bytesOf a).take (i + 1) = (bytesOf a).take i ++ [bt a (i : Int)] := by
      rw [List.take_succ_eq_append_getElem (by omega)]
      congr 2
      have h1 := drop_cons a i (by omega)
      rw [List.drop_eq_getElem_cons (by omega)] at h1
      exact (List.cons.inj h1).1
    rw [ht]
    simp
theorem back_f (a : ByteArray) (ha : a.size ≤ 60) : letterbaglaw06_back.f 61 a = some (strOfNums (bytesOf a).reverse) := by
  unfold letterbaglaw06_back.f
  have hb := bytesOf_length a
  have e := back_l0 a ha a.size 61 [] (Nat.le_refl _) (by omega) (by simp; omega)
  rw [wrap_small (by omega) (by omega), e, List.take_of_length_le (by omega)]
  rfl
theorem strOfNums_size (l : List Int) : (strOfNums l).size = l.length := by
  have : (strOfNums l).size = (strOfNums l).data.size := rfl
  rw [this]; simp [strOfNums]
theorem dist_calls {a b : ByteArray} {c0 c1 c2 c3 : Int} (h : rightB c0 c1 c2 c3 = true) (ha : a.size ≤ 60) (hb : b.size ≤ 60) {s t : List Int} (hs : bytesOf a = s) (ht : bytesOf b = t) {n : Int} (hn : Lb.dist ⟨c0, c1, c2, c3⟩ s t = n) (w : World) :
    Calls Try.prog 12 #[.string a, .string b, .agg #[.int .i64 c0, .int .i64 c1, .int .i64 c2, .int .i64 c3]] w fun e w' => e = .returned (.tuple #[.int .i64 n, .int .i64 0]) ∧ Below w.heap.size w w' := by
  have e := distance_calls a b c0 c1 c2 c3 w
  have e2 := dist_at h ha hb
  rw [Option.some.inj e2, hs, ht, hn] at e
  exact e
set_option maxRecDepth 1000000 in
set_option maxHeartbeats 4000000 in
theorem mirror_walk (a b : ByteArray) (c0 c1 c2 c3 : Int) (w : World) :
    Calls Try.prog 4 #[.string a, .string b, .agg #[.int .i64 c0, .int .i64 c1, .int .i64 c2, .int .i64 c3]] w fun e w' => e = .returned (.bool true) ∧ Below w.heap.size w w' := by
  go_enter Try.func4, Try.ntmps4
  go_wp2_with fail
  have z0 := blk_new w (.cells #[.int .i64 c0, .int .i64 c1, .int .i64 c2, .int .i64 c3] 23)
  have hB0 := (Below.refl w.heap.size w).alloc (Nat.le_refl _) (.cells #[.int .i64 c0, .int .i64 c1, .int .i64 c2, .int .i64 c3] 23)
  generalize w.alloc (.cells #[.int .i64 c0, .int .i64 c1, .int .i64 c2, .int .i64 c3] 23) = W0 at *
  generalize hgg : w.heap.size = gd at z0 ⊢
  refine (awake_calls W0).mono ?_
  rintro e W1 ⟨rfl, hb1⟩
  have hB1 := below_step hB0 hb1
  have hS0 : W0.cell? ⟨gd, 0, none⟩ = some (.int .i64 c0) ∧ W0.cell? ⟨gd, 1, none⟩ = some (.int .i64 c1) ∧ W0.cell? ⟨gd, 2, none⟩ = some (.int .i64 c2) ∧ W0.cell? ⟨gd, 3, none⟩ = some (.int .i64 c3) := ⟨(blk_cell z0 0).trans rfl, (blk_cell z0 1).trans rfl, (blk_cell z0 2).trans rfl, (blk_cell z0 3).trans rfl⟩
  have z1 := blk_below z0 hb1
  clear hb1 z0 hB0 hS0
  by_cases ha : (a.size : Int) > 60
  · have c11b0 : decide (60 < (a.size : Int)) = true := decide_eq_true ha
    have c11b1 : decide (60 < a.size) = true := decide_eq_true (by omega)
    go_wp2
    go_ret
    exact ⟨rfl, hB1⟩
  have c11b0 : decide (60 < (a.size : Int)) = false := decide_eq_false ha
  have c11b1 : decide (60 < a.size) = false := decide_eq_false (by omega)
  by_cases hb : (b.size : Int) > 60
  · have c12b0 : decide (60 < (b.size : Int)) = true := decide_eq_true hb
    have c12b1 : decide (60 < b.size) = true := decide_eq_true (by omega)
    go_wp2
    go_ret
    exact ⟨rfl, hB1⟩
  have c12b0 : decide (60 < (b.size : Int)) = false := decide_eq_false hb
  have c12b1 : decide (60 < b.size) = false := decide_eq_false (by omega)
  by_cases hr : rightB c0 c1 c2 c3 = true
  rotate_left
  · have hrc := fun w => right_calls c0 c1 c2 c3 w
    rw [Bool.eq_false_iff.mpr hr] at hrc
    have q0 : W1.cell? ⟨gd, 0, none⟩ = some (.int .i64 c0) := (blk_cell z1 0).trans rfl
    have q1 : W1.cell? ⟨gd, 1, none⟩ = some (.int .i64 c1) := (blk_cell z1 1).trans rfl
    have q2 : W1.cell? ⟨gd, 2, none⟩ = some (.int .i64 c2) := (blk_cell z1 2).trans rfl
    have q3 : W1.cell? ⟨gd, 3, none⟩ = some (.int .i64 c3) := (blk_cell z1 3).trans rfl
    have f0 := blk_frozen z1 0
    have f1 := blk_frozen z1 1
    have f2 := blk_frozen z1 2
    have f3 := blk_frozen z1 3
    go_wp2_with (go_at_call 11; (with_reducible refine (hrc _).mono ?_); rintro e W2 ⟨rfl, hb2⟩)
    go_ret
    exact ⟨rfl, below_step hB1 hb2⟩
  have hrc := fun w => right_calls c0 c1 c2 c3 w
  rw [hr] at hrc
  have hc := right_ok hr
  have ha' : a.size ≤ 60 := by omega
  have hb' : b.size ≤ 60 := by omega
  obtain ⟨n, hn⟩ : ∃ n, Lb.dist ⟨c0, c1, c2, c3⟩ (bytesOf a) (bytesOf b) = n := ⟨_, rfl⟩
  have hz : (n == 0) = (a.toList == b.toList) := by
    have e := dist_zero hc (bytesOf a) (bytesOf b)
    rw [hn] at e
    rw [Bool.eq_iff_iff, beq_iff_eq, beq_iff_eq, e]
    constructor
    · intro h; rw [← bytes_to a, ← bytes_to b, h]
    · intro h; rw [ByteArray.toList_eq, ByteArray.toList_eq] at h; unfold bytesOf; rw [h]
  have d1 := dist_calls hr ha' hb' rfl rfl hn
  have d2 := dist_calls (right_of (c0 := c1) (c1 := c0) (c2 := c2) (c3 := c3) ⟨hc.d1, hc.d2, hc.i1, hc.i2, hc.c1, hc.c2, hc.s1, hc.s2⟩) hb' ha' rfl rfl ((dist_mirror ⟨c0, c1, c2, c3⟩ (bytesOf a) (bytesOf b)).trans hn)
  have ra := bytes_of (bytesOf a).reverse (fun x h => bytes_in a x (List.mem_reverse.mp h))
  have rb := bytes_of (bytesOf b).reverse (fun x h => bytes_in b x (List.mem_reverse.mp h))
  have sa : (strOfNums (bytesOf a).reverse).size ≤ 60 := by rw [strOfNums_size, List.length_reverse, bytesOf_length]; exact ha'
  have sb : (strOfNums (bytesOf b).reverse).size ≤ 60 := by rw [strOfNums_size, List.length_reverse, bytesOf_length]; exact hb'
  have d3 := dist_calls hr sa sb ra rb ((dist_reverse (bytesOf a) (bytesOf b)).trans hn)
  have k1 := fun w => letterbaglaw06_back.calls 61 a _ w (back_f a ha')
  have k2 := fun w => letterbaglaw06_back.calls 61 b _ w (back_f b hb')
  have d4 := dist_calls hr ha' ha' rfl rfl (dist_self hc (bytesOf a))
  generalize strOfNums (bytesOf a).reverse = sra at *
  generalize strOfNums (bytesOf b).reverse = srb at *
  have q0 : W1.cell? ⟨gd, 0, none⟩ = some (.int .i64 c0) := (blk_cell z1 0).trans rfl
  have q1 : W1.cell? ⟨gd, 1, none⟩ = some (.int .i64 c1) := (blk_cell z1 1).trans rfl
  have q2 : W1.cell? ⟨gd, 2, none⟩ = some (.int .i64 c2) := (blk_cell z1 2).trans rfl
  have q3 : W1.cell? ⟨gd, 3, none⟩ = some (.int .i64 c3) := (blk_cell z1 3).trans rfl
  have f0 := blk_frozen z1 0
  have f1 := blk_frozen z1 1
  have f2 := blk_frozen z1 2
  have f3 := blk_frozen z1 3
  go_upto_region 7 with (first | (go_at_call 11; (with_reducible refine (hrc _).mono ?_); rintro e W2 ⟨rfl, hb⟩; have hB2 := below_step hB1 hb; have z2 := blk_below z1 hb; clear hb hB1 z1 q0 q1 q2 q3 f0 f1 f2 f3; have q0 : W2.cell? ⟨gd, 0, none⟩ = some (.int .i64 c0) := (blk_cell z2 0).trans rfl; have q1 : W2.cell? ⟨gd, 1, none⟩ = some (.int .i64 c1) := (blk_cell z2 1).trans rfl; have q2 : W2.cell? ⟨gd, 2, none⟩ = some (.int .i64 c2) := (blk_cell z2 2).trans rfl; have q3 : W2.cell? ⟨gd, 3, none⟩ = some (.int .i64 c3) := (blk_cell z2 3).trans rfl; have f0 := blk_frozen z2 0; have f1 := blk_frozen z2 1; have f2 := blk_frozen z2 2; have f3 := blk_frozen z2 3) | (go_at_call 12; (with_reducible refine (d1 W2).mono ?_); rintro e W3 ⟨rfl, hb⟩; have hB3 := below_step hB2 hb; have z3 := blk_below z2 hb; clear hb hB2 z2 q0 q1 q2 q3 f0 f1 f2 f3; have q0 : W3.cell? ⟨gd, 0, none⟩ = some (.int .i64 c0) := (blk_cell z3 0).trans rfl; have q1 : W3.cell? ⟨gd, 1, none⟩ = some (.int .i64 c1) := (blk_cell z3 1).trans rfl; have q2 : W3.cell? ⟨gd, 2, none⟩ = some (.int .i64 c2) := (blk_cell z3 2).trans rfl; have q3 : W3.cell? ⟨gd, 3, none⟩ = some (.int .i64 c3) := (blk_cell z3 3).trans rfl; have f0 := blk_frozen z3 0; have f1 := blk_frozen z3 1; have f2 := blk_frozen z3 2; have f3 := blk_frozen z3 3))
  have y4 := blk_new W3 (.cells #[.int .i64 c0, .int .i64 c1, .int .i64 c2, .int .i64 c3] 23)
  have z4 := blk_alloc z3 (.cells #[.int .i64 c0, .int .i64 c1, .int .i64 c2, .int .i64 c3] 23)
  have hB4 := hB3.alloc hB3.size (.cells #[.int .i64 c0, .int .i64 c1, .int .i64 c2, .int .i64 c3] 23)
  have hgo := hB3.size
  have hlt := blk_lt z3
  clear z3 hB3 q0 q1 q2 q3 f0 f1 f2 f3
  generalize W3.alloc (.cells #[.int .i64 c0, .int .i64 c1, .int .i64 c2, .int .i64 c3] 23) = W4 at *
  generalize W3.heap.size = go at *
  have hne : gd ≠ go := by omega
  have q0 : W4.cell? ⟨gd, 0, none⟩ = some (.int .i64 c0) := (blk_cell z4 0).trans rfl
  have q1 : W4.cell? ⟨gd, 1, none⟩ = some (.int .i64 c1) := (blk_cell z4 1).trans rfl
  have q2 : W4.cell? ⟨gd, 2, none⟩ = some (.int .i64 c2) := (blk_cell z4 2).trans rfl
  have q3 : W4.cell? ⟨gd, 3, none⟩ = some (.int .i64 c3) := (blk_cell z4 3).trans rfl
  have f0 := blk_frozen z4 0
  have f1 := blk_frozen z4 1
  have f2 := blk_frozen z4 2
  have f3 := blk_frozen z4 3
  have p0 : W4.cell? ⟨go, 0, none⟩ = some (.int .i64 c0) := (blk_cell y4 0).trans rfl
  have p1 : W4.cell? ⟨go, 1, none⟩ = some (.int .i64 c1) := (blk_cell y4 1).trans rfl
  have r0 := blk_frozen y4 0
  have r1 := blk_frozen y4 1
  go_upto_region 8 with fail
  have y5 := blk_set y4 0 (.int .i64 c1)
  have z5 := blk_far (p := ⟨go, 0, none⟩) z4 hne (.int .i64 c1)
  have hB5 := below_set (j := 0) (v := .int .i64 c1) hB4 hgo
  clear z4 hB4 y4 q0 q1 q2 q3 f0 f1 f2 f3 p0 p1 r0 r1
  generalize W4.setCell ⟨go, 0, none⟩ (.int .i64 c1) = W5 at *
  have q0 : W5.cell? ⟨gd, 0, none⟩ = some (.int .i64 c0) := (blk_cell z5 0).trans rfl
  have q1 : W5.cell? ⟨gd, 1, none⟩ = some (.int .i64 c1) := (blk_cell z5 1).trans rfl
  have q2 : W5.cell? ⟨gd, 2, none⟩ = some (.int .i64 c2) := (blk_cell z5 2).trans rfl
  have q3 : W5.cell? ⟨gd, 3, none⟩ = some (.int .i64 c3) := (blk_cell z5 3).trans rfl
  have f0 := blk_frozen z5 0
  have f1 := blk_frozen z5 1
  have f2 := blk_frozen z5 2
  have f3 := blk_frozen z5 3
  have p0 : W5.cell? ⟨go, 0, none⟩ = some (.int .i64 c1) := (blk_cell y5 0).trans rfl
  have p1 : W5.cell? ⟨go, 1, none⟩ = some (.int .i64 c1) := (blk_cell y5 1).trans rfl
  have r0 := blk_frozen y5 0
  have r1 := blk_frozen y5 1
  go_upto_region 9 with fail
  have y6 := blk_set y5 1 (.int .i64 c0)
  have z6 := blk_far (p := ⟨go, 1, none⟩) z5 hne (.int .i64 c0)
  have hB6 := below_set (j := 1) (v := .int .i64 c0) hB5 hgo
  clear z5 hB5 y5 q0 q1 q2 q3 f0 f1 f2 f3 p0 p1 r0 r1
  generalize W5.setCell ⟨go, 1, none⟩ (.int .i64 c0) = W6 at *
  have q0 : W6.cell? ⟨gd, 0, none⟩ = some (.int .i64 c0) := (blk_cell z6 0).trans rfl
  have q1 : W6.cell? ⟨gd, 1, none⟩ = some (.int .i64 c1) := (blk_cell z6 1).trans rfl
  have q2 : W6.cell? ⟨gd, 2, none⟩ = some (.int .i64 c2) := (blk_cell z6 2).trans rfl
  have q3 : W6.cell? ⟨gd, 3, none⟩ = some (.int .i64 c3) := (blk_cell z6 3).trans rfl
  have f0 := blk_frozen z6 0
  have f1 := blk_frozen z6 1
  have f2 := blk_frozen z6 2
  have f3 := blk_frozen z6 3
  have p0 : W6.cell? ⟨go, 0, none⟩ = some (.int .i64 c1) := (blk_cell y6 0).trans rfl
  have p1 : W6.cell? ⟨go, 1, none⟩ = some (.int .i64 c0) := (blk_cell y6 1).trans rfl
  have p2 : W6.cell? ⟨go, 2, none⟩ = some (.int .i64 c2) := (blk_cell y6 2).trans rfl
  have p3 : W6.cell? ⟨go, 3, none⟩ = some (.int .i64 c3) := (blk_cell y6 3).trans rfl
  have r0 := blk_frozen y6 0
  have r1 := blk_frozen y6 1
  have r2 := blk_frozen y6 2
  have r3 := blk_frozen y6 3
  go_upto_region 10 with (first | (go_at_call 12; (with_reducible refine (d2 W6).mono ?_); rintro e W7 ⟨rfl, hb⟩; have hB7 := below_step hB6 hb; have z7 := blk_below z6 hb; clear hb hB6 z6 q0 q1 q2 q3 f0 f1 f2 f3; have q0 : W7.cell? ⟨gd, 0, none⟩ = some (.int .i64 c0) := (blk_cell z7 0).trans rfl; have q1 : W7.cell? ⟨gd, 1, none⟩ = some (.int .i64 c1) := (blk_cell z7 1).trans rfl; have q2 : W7.cell? ⟨gd, 2, none⟩ = some (.int .i64 c2) := (blk_cell z7 2).trans rfl; have q3 : W7.cell? ⟨gd, 3, none⟩ = some (.int .i64 c3) := (blk_cell z7 3).trans rfl; have f0 := blk_frozen z7 0; have f1 := blk_frozen z7 1; have f2 := blk_frozen z7 2; have f3 := blk_frozen z7 3; clear p0 p1 p2 p3 r0 r1 r2 r3))
  have hS : W7.drew.cell? ⟨gd, 0, none⟩ = some (.int .i64 c0) ∧ W7.drew.cell? ⟨gd, 1, none⟩ = some (.int .i64 c1) ∧ W7.drew.cell? ⟨gd, 2, none⟩ = some (.int .i64 c2) ∧ W7.drew.cell? ⟨gd, 3, none⟩ = some (.int .i64 c3) ∧ Below w.heap.size w W7.drew := ⟨q0, q1, q2, q3, hB7.drew⟩
  clear q0 q1 q2 q3 f0 f1 f2 f3 hB7 z7
  go_region_held3 (fun w' => w'.cell? ⟨gd, 0, none⟩ = some (.int .i64 c0) ∧ w'.cell? ⟨gd, 1, none⟩ = some (.int .i64 c1) ∧ w'.cell? ⟨gd, 2, none⟩ = some (.int .i64 c2) ∧ w'.cell? ⟨gd, 3, none⟩ = some (.int .i64 c3) ∧ Below w.heap.size w w')
    (first | exact hS | exact keepS (by assumption) hS | exact keepS (by assumption) (keepS (by assumption) hS) | exact keepS (by assumption) (keepS (by assumption) (keepS (by assumption) hS)))
    (first | (go_at_call 12; (with_reducible refine (d3 _).mono ?_); rintro e Wx ⟨rfl, hb⟩) | (go_at_call 13; first | ((with_reducible refine (k1 _).mono ?_); rintro e Wy ⟨rfl, hb⟩) | ((with_reducible refine (k2 _).mono ?_); rintro e Wz ⟨rfl, hb⟩)))
  go_goals
  rename_i hSx
  obtain ⟨q0, q1, q2, q3, hBx⟩ := hSx
  clear hS
  go_wp2_with (first | (go_at_call 12; (with_reducible refine (d4 _).mono ?_); rintro e Wv ⟨rfl, hb⟩))
  go_ret
  exact ⟨rfl, below_step hBx hb⟩
end Go.Proofs.Ytdefecnngccmoaa.Ed
namespace Go.Proofs.Ytdefecnngccmoaa.Ed
open Go.RowKit Go.Proofs.YtdefecnngccmoaaW.PrintWords QTells
def mxi (x y : Int) : Int := if x < y then y else x
def mni (x y : Int) : Int := if y < x then y else x
theorem max2_mxi (k k' : IntKind) (x y : Int) : Builtin.max2 (.int k x) (.int k' y) = pure (.int k (mxi x y)) := by simp only [Builtin.max2, gt_iff_lt, mxi]
theorem min2_mni (k k' : IntKind) (x y : Int) : Builtin.min2 (.int k x) (.int k' y) = pure (.int k (mni x y)) := by simp only [Builtin.min2, mni]
theorem max_2 (ats : Array TypeId) (ty : TypeId) (a b : Value) : Builtin.max_ ats ty #[a, b] = (Builtin.max2 a b >>= fun s => pure s) := by simp only [Builtin.max_, List.foldlM_cons, List.foldlM_nil]
theorem min_2 (ats : Array TypeId) (ty : TypeId) (a b : Value) : Builtin.min_ ats ty #[a, b] = (Builtin.min2 a b >>= fun s => pure s) := by simp only [Builtin.min_, List.foldlM_cons, List.foldlM_nil]
theorem max_4 (ats : Array TypeId) (ty : TypeId) (a b c d : Value) : Builtin.max_ ats ty #[a, b, c, d] = (Builtin.max2 a b >>= fun s => Builtin.max2 s c >>= fun s => Builtin.max2 s d >>= fun s => pure s) := by simp only [Builtin.max_, List.foldlM_cons, List.foldlM_nil]
attribute [local go_sem] max2_mxi min2_mni max_2 min_2 max_4
theorem bytes_append (a b : ByteArray) : bytesOf (a ++ b) = bytesOf a ++ bytesOf b := by
  unfold bytesOf
  simp
set_option maxRecDepth 1000000 in
set_option maxHeartbeats 4000000 in
theorem joined_walk (a b x y : ByteArray) (c0 c1 c2 c3 : Int) (w : World) :
    Calls Try.prog 5 #[.string a, .string b, .string x, .string y, .agg #[.int .i64 c0, .int .i64 c1, .int .i64 c2, .int .i64 c3]] w fun e w' => e = .returned (.bool true) ∧ Below w.heap.size w w' := by
  go_enter Try.func5, Try.ntmps5
  go_wp2_with fail
  have z0 := blk_new w (.cells #[.int .i64 c0, .int .i64 c1, .int .i64 c2, .int .i64 c3] 23)
  have hB0 := (Below.refl w.heap.size w).alloc (Nat.le_refl _) (.cells #[.int .i64 c0, .int .i64 c1, .int .i64 c2, .int .i64 c3] 23)
  generalize w.alloc (.cells #[.int .i64 c0, .int .i64 c1, .int .i64 c2, .int .i64 c3] 23) = W0 at *
  generalize hgg : w.heap.size = gd at z0 ⊢
  refine (awake_calls W0).mono ?_
  rintro e W1 ⟨rfl, hb1⟩
  have hB1 := below_step hB0 hb1
  have hS0 : W0.cell? ⟨gd, 0, none⟩ = some (.int .i64 c0) ∧ W0.cell? ⟨gd, 1, none⟩ = some (.int .i64 c1) ∧ W0.cell? ⟨gd, 2, none⟩ = some (.int .i64 c2) ∧ W0.cell? ⟨gd, 3, none⟩ = some (.int .i64 c3) := ⟨(blk_cell z0 0).trans rfl, (blk_cell z0 1).trans rfl, (blk_cell z0 2).trans rfl, (blk_cell z0 3).trans rfl⟩
  have z1 := blk_below z0 hb1
  clear hb1 z0 hB0 hS0
  obtain ⟨mx, hmx⟩ : ∃ q, mxi (mxi (mxi (a.size : Int) (b.size : Int)) (x.size : Int)) (y.size : Int) = q := ⟨_, rfl⟩
  by_cases ha : 30 < mx
  · have c11b0 : decide (30 < mx) = true := decide_eq_true ha
    rw [← hmx] at c11b0
    go_wp2
    go_ret
    exact ⟨rfl, hB1⟩
  have hsz : a.size ≤ 30 ∧ b.size ≤ 30 ∧ x.size ≤ 30 ∧ y.size ≤ 30 := by
    unfold mxi at hmx
    (repeat' split at hmx) <;> omega
  obtain ⟨s1, s2, s3, s4⟩ := hsz
  have c11b0 : decide (30 < mx) = false := decide_eq_false ha
  rw [← hmx] at c11b0
  by_cases hr : rightB c0 c1 c2 c3 = true
  rotate_left
  · have hrc := fun w => right_calls c0 c1 c2 c3 w
    rw [Bool.eq_false_iff.mpr hr] at hrc
    have q0 : W1.cell? ⟨gd, 0, none⟩ = some (.int .i64 c0) := (blk_cell z1 0).trans rfl
    have q1 : W1.cell? ⟨gd, 1, none⟩ = some (.int .i64 c1) := (blk_cell z1 1).trans rfl
    have q2 : W1.cell? ⟨gd, 2, none⟩ = some (.int .i64 c2) := (blk_cell z1 2).trans rfl
    have q3 : W1.cell? ⟨gd, 3, none⟩ = some (.int .i64 c3) := (blk_cell z1 3).trans rfl
    have f0 := blk_frozen z1 0
    have f1 := blk_frozen z1 1
    have f2 := blk_frozen z1 2
    have f3 := blk_frozen z1 3
    go_wp2_with (go_at_call 11; (with_reducible refine (hrc _).mono ?_); rintro e W2 ⟨rfl, hb2⟩)
    go_ret
    exact ⟨rfl, below_step hB1 hb2⟩
  have hrc := fun w => right_calls c0 c1 c2 c3 w
  rw [hr] at hrc
  have hc := right_ok hr
  obtain ⟨n, hn⟩ : ∃ n, Lb.dist ⟨c0, c1, c2, c3⟩ (bytesOf (a ++ x)) (bytesOf (b ++ y)) = n := ⟨_, rfl⟩
  obtain ⟨m, hm⟩ : ∃ m, Lb.dist ⟨c0, c1, c2, c3⟩ (bytesOf a) (bytesOf b) = m := ⟨_, rfl⟩
  obtain ⟨k, hk⟩ : ∃ k, Lb.dist ⟨c0, c1, c2, c3⟩ (bytesOf x) (bytesOf y) = k := ⟨_, rfl⟩
  have hax : (a ++ x).size = a.size + x.size := ByteArray.size_append
  have hby : (b ++ y).size = b.size + y.size := ByteArray.size_append
  have d1 := dist_calls hr (a := a ++ x) (b := b ++ y) (by omega) (by omega) rfl rfl hn
  have d2 := dist_calls hr (a := a) (b := b) (by omega) (by omega) rfl rfl hm
  have d3 := dist_calls hr (a := x) (b := y) (by omega) (by omega) rfl rfl hk
  have n0 := Lb.dist_bd hc (bytesOf (a ++ x)) (bytesOf (b ++ y))
  have m0 := Lb.dist_bd hc (bytesOf a) (bytesOf b)
  have k0 := Lb.dist_bd hc (bytesOf x) (bytesOf y)
  rw [bytesOf_length, bytesOf_length] at n0 m0 k0
  rw [hn] at n0
  rw [hm] at m0
  rw [hk] at k0
  have e1 : n ≤ m + k := by
    have e := dist_joined (c := ⟨c0, c1, c2, c3⟩) (bytesOf a) (bytesOf b) (bytesOf x) (bytesOf y)
    rw [← bytes_append, ← bytes_append, hn, hm, hk] at e
    exact e
  have e2 : n ≤ ((a ++ x).size : Int) * c1 + ((b ++ y).size : Int) * c0 := by
    have e := dist_all ⟨c0, c1, c2, c3⟩ (bytesOf (a ++ x)) (bytesOf (b ++ y))
    rw [hn, bytesOf_length, bytesOf_length] at e
    exact e
  have i1 : 1 ≤ c0 := hc.i1
  have i2 : c0 ≤ 1000 := hc.i2
  have i3 : 1 ≤ c1 := hc.d1
  have i4 : c1 ≤ 1000 := hc.d2
  have e3 : n = 0 → (a ++ x).toList = (b ++ y).toList := by
    intro h
    rw [h] at hn
    have e := (dist_zero hc _ _).mp hn
    rw [← bytes_to (a ++ x), ← bytes_to (b ++ y), e]
  clear hn hm hk
  have q0 : W1.cell? ⟨gd, 0, none⟩ = some (.int .i64 c0) := (blk_cell z1 0).trans rfl
  have q1 : W1.cell? ⟨gd, 1, none⟩ = some (.int .i64 c1) := (blk_cell z1 1).trans rfl
  have q2 : W1.cell? ⟨gd, 2, none⟩ = some (.int .i64 c2) := (blk_cell z1 2).trans rfl
  have q3 : W1.cell? ⟨gd, 3, none⟩ = some (.int .i64 c3) := (blk_cell z1 3).trans rfl
  have f0 := blk_frozen z1 0
  have f1 := blk_frozen z1 1
  have f2 := blk_frozen z1 2
  have f3 := blk_frozen z1 3
  have g1 : a.size + x.size ≤ 9223372036854775807 := by omega
  have g2 : b.size + y.size ≤ 9223372036854775807 := by omega
  go_upto_region 8 with (first | (go_at_call 11; (with_reducible refine (hrc _).mono ?_); rintro e W2 ⟨rfl, hb⟩; have hB2 := below_step hB1 hb; have z2 := blk_below z1 hb; clear hb hB1 z1 q0 q1 q2 q3 f0 f1 f2 f3; have q0 : W2.cell? ⟨gd, 0, none⟩ = some (.int .i64 c0) := (blk_cell z2 0).trans rfl; have q1 : W2.cell? ⟨gd, 1, none⟩ = some (.int .i64 c1) := (blk_cell z2 1).trans rfl; have q2 : W2.cell? ⟨gd, 2, none⟩ = some (.int .i64 c2) := (blk_cell z2 2).trans rfl; have q3 : W2.cell? ⟨gd, 3, none⟩ = some (.int .i64 c3) := (blk_cell z2 3).trans rfl; have f0 := blk_frozen z2 0; have f1 := blk_frozen z2 1; have f2 := blk_frozen z2 2; have f3 := blk_frozen z2 3) | (go_at_call 12; (with_reducible refine (d1 _).mono ?_); rintro e W3 ⟨rfl, hb⟩; have hB3 := below_step hB2 hb; have z3 := blk_below z2 hb; clear hb hB2 z2 q0 q1 q2 q3 f0 f1 f2 f3; have q0 : W3.cell? ⟨gd, 0, none⟩ = some (.int .i64 c0) := (blk_cell z3 0).trans rfl; have q1 : W3.cell? ⟨gd, 1, none⟩ = some (.int .i64 c1) := (blk_cell z3 1).trans rfl; have q2 : W3.cell? ⟨gd, 2, none⟩ = some (.int .i64 c2) := (blk_cell z3 2).trans rfl; have q3 : W3.cell? ⟨gd, 3, none⟩ = some (.int .i64 c3) := (blk_cell z3 3).trans rfl; have f0 := blk_frozen z3 0; have f1 := blk_frozen z3 1; have f2 := blk_frozen z3 2; have f3 := blk_frozen z3 3) | (go_at_call 12; (with_reducible refine (d2 _).mono ?_); rintro e W4 ⟨rfl, hb⟩; have hB4 := below_step hB3 hb; have z4 := blk_below z3 hb; clear hb hB3 z3 q0 q1 q2 q3 f0 f1 f2 f3; have q0 : W4.cell? ⟨gd, 0, none⟩ = some (.int .i64 c0) := (blk_cell z4 0).trans rfl; have q1 : W4.cell? ⟨gd, 1, none⟩ = some (.int .i64 c1) := (blk_cell z4 1).trans rfl; have q2 : W4.cell? ⟨gd, 2, none⟩ = some (.int .i64 c2) := (blk_cell z4 2).trans rfl; have q3 : W4.cell? ⟨gd, 3, none⟩ = some (.int .i64 c3) := (blk_cell z4 3).trans rfl; have f0 := blk_frozen z4 0; have f1 := blk_frozen z4 1; have f2 := blk_frozen z4 2; have f3 := blk_frozen z4 3) | (go_at_call 12; (with_reducible refine (d3 _).mono ?_); rintro e W5 ⟨rfl, hb⟩; have hB5 := below_step hB4 hb; have z5 := blk_below z4 hb; clear hb hB4 z4 q0 q1 q2 q3 f0 f1 f2 f3; have q0 : W5.cell? ⟨gd, 0, none⟩ = some (.int .i64 c0) := (blk_cell z5 0).trans rfl; have q1 : W5.cell? ⟨gd, 1, none⟩ = some (.int .i64 c1) := (blk_cell z5 1).trans rfl; have q2 : W5.cell? ⟨gd, 2, none⟩ = some (.int .i64 c2) := (blk_cell z5 2).trans rfl; have q3 : W5.cell? ⟨gd, 3, none⟩ = some (.int .i64 c3) := (blk_cell z5 3).trans rfl; have f0 := blk_frozen z5 0; have f1 := blk_frozen z5 1; have f2 := blk_frozen z5 2; have f3 := blk_frozen z5 3))
  clear d1 d2 d3 hrc c11b0 hmx
  rw [hax, hby, Int.natCast_add, Int.natCast_add] at e2
  have v1 : 0 ≤ (a.size : Int) + (x.size : Int) ∧ (a.size : Int) + (x.size : Int) ≤ 60 := by omega
  have v2 : 0 ≤ (b.size : Int) + (y.size : Int) ∧ (b.size : Int) + (y.size : Int) ≤ 60 := by omega
  have hP0 := Int.mul_nonneg v1.1 (show 0 ≤ c1 by omega)
  have hP1 := Int.mul_le_mul v1.2 i4 (by omega) (by omega)
  have hQ0 := Int.mul_nonneg v2.1 (show 0 ≤ c0 by omega)
  have hQ1 := Int.mul_le_mul v2.2 i2 (by omega) (by omega)
  have w1 : wrap64 (m + k) = m + k := IntWalk.wrap64_in _ (by omega)
  have w2 : wrap64 (((a.size : Int) + (x.size : Int)) * c1) = ((a.size : Int) + (x.size : Int)) * c1 := IntWalk.wrap64_in _ (by omega)
  have w3 : wrap64 (((b.size : Int) + (y.size : Int)) * c0) = ((b.size : Int) + (y.size : Int)) * c0 := IntWalk.wrap64_in _ (by omega)
  have w4 : wrap64 (((a.size : Int) + (x.size : Int)) * c1 + ((b.size : Int) + (y.size : Int)) * c0) = ((a.size : Int) + (x.size : Int)) * c1 + ((b.size : Int) + (y.size : Int)) * c0 := IntWalk.wrap64_in _ (by omega)
  have t1 : decide (n ≤ wrap64 (m + k)) = true := by rw [w1]; exact decide_eq_true e1
  have hB6 := hB5
  rw [hgg] at hB6
  by_cases hn0 : 0 < n
  · have t3 : decide (0 < n) = true := decide_eq_true hn0
    go_wp2
    all_goals first
      | (go_ret; first | exact ⟨rfl, hB5⟩ | exact ⟨rfl, hB6⟩)
      | (exfalso; rename_i h; rw [w2, w3, w4] at h; omega)
      | (exfalso; rename_i h _; rw [w2, w3, w4] at h; omega)
  · have t3 : decide (0 < n) = false := decide_eq_false hn0
    have t4 := e3 (by omega)
    go_wp2
    all_goals first
      | (go_ret; first | exact ⟨rfl, hB5⟩ | exact ⟨rfl, hB6⟩)
      | (exfalso; rename_i h; rw [w2, w3, w4] at h; omega)
      | (exfalso; rename_i h _; rw [w2, w3, w4] at h; omega)
end Go.Proofs.Ytdefecnngccmoaa.Ed
namespace Go.Proofs.Ytdefecnngccmoaa.editJoined
open Go.ChangeShapes Go.WideShapes Go.ChangeAt Go.RowKit Go.Joins
open Go.ChangeMaps (open_string shut_string)
set_option linter.unusedVariables false
theorem own : ownKnob Try.prog.godebug = none := by kernel_rfl
set_option maxRecDepth 100000 in
theorem lifted (os : Os) (started : os.Started) (H : Type) (enc : TypeId × Value → H) :
    ReturnsInHanded {} Try.checked os 5 .any (Rows.editJoinedSpec.pre6 enc Try.prog Try.f5 Rows.editJoinedRow.domain false) (Rows.editJoinedSpec.post enc Try.prog Try.f5 false true false false) := by
  refine returnsInHanded_of_change_sized (C := Try.checked) own started (by kernel_rfl) Try.func5
    (ChangeSpec.witness6 (enc := enc) (C := Try.checked) false ⟨#[], #[.string ByteArray.empty, .string ByteArray.empty, .string ByteArray.empty, .string ByteArray.empty, .agg #[.int .i64 0, .int .i64 0, .int .i64 0, .int .i64 0]], []⟩ 8 (by kernel_rfl) (by kernel_rfl) (by kernel_rfl) (by kernel_rfl)) ?_
  intro W base args ds gs before hval0 hW hcnd hsz0 _
  have hsz : (DataW.weightsEach Try.prog (Try.f5.params.toList ++ Rows.editJoinedSpec.plain.varTypes Try.prog) (ds ++ gs)).all (· ≤ reachBytes) = true := hsz0
  have hval : ∀ (j : Nat) t v, Try.f5.params[j]? = some t → args[j]? = some v → Value.okWide Try.prog W .any base t v := hval0
  have hW' := hW
  obtain ⟨p, q, hA0, hV, rfl, hfz, hnd⟩ := hW
  have hA : DataW.TrodAll enc Try.prog W 0 (fun _ => true) true Try.f5.params.toList args.toList ds p := hA0
  rw [Try.params5] at hA hval hsz
  obtain ⟨v0, vs0, d0, ds0, p0, q0, hargs, rfl, rfl, h0, r0⟩ := trodAll_cons hA
  obtain ⟨v1, vs1, d1, ds1, p1, q1, rfl, rfl, rfl, h1, r1⟩ := trodAll_cons r0
  obtain ⟨v2, vs2, d2, ds2, p2, q2, rfl, rfl, rfl, h2, r2⟩ := trodAll_cons r1
  obtain ⟨v3, vs3, d3, ds3, p3, q3, rfl, rfl, rfl, h3, r3⟩ := trodAll_cons r2
  obtain ⟨v4, vs4, d4, ds4, p4, q4, rfl, rfl, rfl, h4, r4⟩ := trodAll_cons r3
  obtain ⟨rfl, rfl, rfl⟩ := trodAll_nil r4
  obtain rfl : args = #[v0, v1, v2, v3, v4] := by cases args; simp_all
  obtain ⟨rfl, rfl⟩ := trodVars_none hV
  obtain ⟨a0, rfl, rfl, rfl, y0⟩ := open_string Try.underlying9 (hval 0 9 v0 rfl rfl) h0
  obtain ⟨a1, rfl, rfl, rfl, y1⟩ := open_string Try.underlying9 (hval 1 9 v1 rfl rfl) h1
  obtain ⟨a2, rfl, rfl, rfl, y2⟩ := open_string Try.underlying9 (hval 2 9 v2 rfl rfl) h2
  obtain ⟨a3, rfl, rfl, rfl, y3⟩ := open_string Try.underlying9 (hval 3 9 v3 rfl rfl) h3
  obtain ⟨c40, c41, c42, c43, z40, z41, z42, z43, m4, rfl, rfl, rfl, g40, g41, g42, g43⟩ := open_agg4 Try.underlying23 (by kernel_rfl) (by kernel_rfl) (hval 4 23 v4 rfl rfl) h4
  obtain ⟨a40, e40, rfl, w40⟩ := DataW.trod_int Try.underlying3 g40
  obtain ⟨a41, e41, rfl, w41⟩ := DataW.trod_int Try.underlying3 g41
  obtain ⟨a42, e42, rfl, w42⟩ := DataW.trod_int Try.underlying3 g42
  obtain ⟨a43, e43, rfl, w43⟩ := DataW.trod_int Try.underlying3 g43
  simp only [List.cons.injEq, and_true] at e40 e41 e42 e43
  subst e40 e41 e42 e43
  clear hA0 hval0 hsz0 hsz
  refine (Ed.joined_walk a0 a1 a2 a3 a40 a41 a42 a43 W ).mono fun e W' ⟨he, bel⟩ => ?_
  subst he
  exact ⟨_, rfl, _, _, _, [], _, [], hW', trodAll_mk1 (shut_bool Try.underlying4 _), (trodAll_cons_mk (shut_string Try.underlying9 y0) (trodAll_cons_mk (shut_string Try.underlying9 y1) (trodAll_cons_mk (shut_string Try.underlying9 y2) (trodAll_cons_mk (shut_string Try.underlying9 y3) (trodAll_cons_mk (shut_agg4 (y0 := (.lit (.int .i64 a40), [])) (y1 := (.lit (.int .i64 a41), [])) (y2 := (.lit (.int .i64 a42), [])) (y3 := (.lit (.int .i64 a43), [])) Try.underlying23 (by kernel_rfl) (by kernel_rfl) (field_of_Trod (shut_int Try.underlying3 w40) rfl) (field_of_Trod (shut_int Try.underlying3 w41) rfl) (field_of_Trod (shut_int Try.underlying3 w42) rfl) (field_of_Trod (shut_int Try.underlying3 w43) rfl)) trodAll_mk0))))), rfl, bel.frame _, fun h => by cases h⟩
theorem over : Rows.editJoinedRow.holds Try.pinned (OpenSpec.ofChange Rows.editJoinedSpec) :=
  OpenClaim.holds_of_wide 5 Try.f5 rfl rfl rfl rfl rfl rfl rfl ⟨rfl, rfl, rfl, rfl, rfl⟩ rfl rfl rfl rfl rfl (by kernel_rfl) Try.func5 (by kernel_rfl)
    (of_decide_eq_true (by kernel_rfl)) (by unfold Func.isWrapper; first | (rw [if_pos (by decide +kernel)]; kernel_rfl) | (rw [if_neg (by decide +kernel)]; exact ⟨rfl, rfl⟩))
    (fun os started H enc _ => lifted os started H enc)
theorem proved : Rows.EditJoinedSaid := over
#print axioms proved
end Go.Proofs.Ytdefecnngccmoaa.editJoined
namespace Go.Proofs.Ytdefecnngccmoaa
theorem editJoined_holds : Rows.EditJoinedSaid := editJoined.proved
end Go.Proofs.Ytdefecnngccmoaa
