/- A part of the texts of one claim: the walk of the code by hand-proved contracts, and the plain law. -/
import Derived.Test.YtdefecnngccmoaaKC5
set_option linter.unusedVariables false
set_option linter.unusedSimpArgs false
namespace Go.Proofs.Ytdefecnngccmoaa.Ed
open Go.RowKit Go.Proofs.YtdefecnngccmoaaW.PrintWords QTells
def distK (c : Lb.Cst) : Nat → List Int → List Int → Int
  | 0, _, _ => 0
  | _ + 1, [], [] => 0
  | n + 1, [], _ :: t => distK c n [] t + c.ins
  | n + 1, _ :: s, [] => distK c n s [] + c.del
  | n + 1, a :: s, b :: t =>
    min (min (if Lb.swapHead (a :: s) (b :: t) then min (distK c n s t + Lb.one c a b) (distK c n (s.drop 1) (t.drop 1) + c.swp) else distK c n s t + Lb.one c a b)
      (distK c n s (b :: t) + c.del)) (distK c n (a :: s) t + c.ins)
theorem distK_eq (c : Lb.Cst) : ∀ n s t, s.length + t.length < n → distK c n s t = Lb.dist c s t
  | 0, _, _, h => by omega
  | n + 1, [], [], h => by rw [distK, Lb.dist_nil_nil]
  | n + 1, [], b :: t, h => by rw [distK, Lb.dist_nil_cons, distK_eq c n [] t (by simp at *; omega)]
  | n + 1, a :: s, [], h => by rw [distK, Lb.dist_cons_nil, distK_eq c n s [] (by simp at *; omega)]
  | n + 1, a :: s, b :: t, h => by
    rw [distK, Lb.dist_cons_cons, distK_eq c n s t (by simp at *; omega), distK_eq c n (s.drop 1) (t.drop 1) (by simp at *; omega), distK_eq c n s (b :: t) (by simp at *; omega), distK_eq c n (a :: s) t (by simp at *; omega)]
def pathK (c : Lb.Cst) : Nat → List Int → List Int → List S38
  | 0, _, _ => []
  | _ + 1, [], [] => []
  | n + 1, [], b :: t => ⟨5, b⟩ :: pathK c n [] t
  | n + 1, _ :: s, [] => ⟨4, 0⟩ :: pathK c n s []
  | n + 1, a :: s, b :: t =>
    if a = b ∧ distK c n s t = distK c (n + 1) (a :: s) (b :: t) then ⟨1, 0⟩ :: pathK c n s t
    else if a ≠ b ∧ c.chg + distK c n s t = distK c (n + 1) (a :: s) (b :: t) then ⟨2, b⟩ :: pathK c n s t
    else if Lb.swapHead (a :: s) (b :: t) = true ∧ c.swp + distK c n (s.drop 1) (t.drop 1) = distK c (n + 1) (a :: s) (b :: t) then ⟨3, 0⟩ :: pathK c n (s.drop 1) (t.drop 1)
    else if c.del + distK c n s (b :: t) = distK c (n + 1) (a :: s) (b :: t) then ⟨4, 0⟩ :: pathK c n s (b :: t)
    else ⟨5, b⟩ :: pathK c n (a :: s) t
theorem pathK_eq (c : Lb.Cst) : ∀ n s t, s.length + t.length < n → pathK c n s t = pathL c s t
  | 0, _, _, h => by omega
  | n + 1, [], [], h => by rw [pathK, pathL]
  | n + 1, [], b :: t, h => by rw [pathK, pathL, pathK_eq c n [] t (by simp at *; omega)]
  | n + 1, a :: s, [], h => by rw [pathK, pathL, pathK_eq c n s [] (by simp at *; omega)]
  | n + 1, a :: s, b :: t, h => by
    rw [pathK, pathL, distK_eq c n s t (by simp at *; omega), distK_eq c n (s.drop 1) (t.drop 1) (by simp at *; omega), distK_eq c n s (b :: t) (by simp at *; omega), distK_eq c (n + 1) (a :: s) (b :: t) (by simp at *; omega),
      pathK_eq c n s t (by simp at *; omega), pathK_eq c n (s.drop 1) (t.drop 1) (by simp at *; omega), pathK_eq c n s (b :: t) (by simp at *; omega), pathK_eq c n (a :: s) t (by simp at *; omega)]
theorem may_ones {a b : ByteArray} (h : a.size + b.size < 10) (c2 : Int) (h2 : okc c2 = true) : mayE a b 1 1 c2 1 = 0 := by
  have e : rightB 1 1 c2 1 = true := by unfold rightB; rw [h2]; rfl
  unfold mayE; rw [if_pos e, if_neg (by omega), if_neg (by omega)]
theorem distF_K (a b : ByteArray) (c2 : Int) (h : a.size + b.size < 10) (h2 : okc c2 = true) : edit_Distance.f a b 1 1 c2 1 = some (distK ⟨1, 1, c2, 1⟩ 10 (bytesOf a) (bytesOf b), 0) := by
  unfold edit_Distance.f distF
  have ha := bytesOf_length a; have hb := bytesOf_length b
  rw [if_pos (may_ones h c2 h2), distK_eq _ _ _ _ (by omega)]
  rfl
theorem pathF_K (a b : ByteArray) (c2 : Int) (h : a.size + b.size < 10) (h2 : okc c2 = true) : edit_Path.f a b 1 1 c2 1 = some (pathK ⟨1, 1, c2, 1⟩ 10 (bytesOf a) (bytesOf b), distK ⟨1, 1, c2, 1⟩ 10 (bytesOf a) (bytesOf b), 0) := by
  unfold edit_Path.f distF pathF
  have ha := bytesOf_length a; have hb := bytesOf_length b
  rw [if_pos (may_ones h c2 h2), if_pos (may_ones h c2 h2), distK_eq _ _ _ _ (by omega), pathK_eq _ _ _ _ (by omega)]
  rfl
def Round (y : List S49) (i : Int) : Prop :=
  edit_Distance.f (rd_T49 y i).f0 (rd_T49 y i).f1 (rd_T49 y i).f2.f0 (rd_T49 y i).f2.f1 (rd_T49 y i).f2.f2 (rd_T49 y i).f2.f3 = some ((rd_T49 y i).f3, 0) ∧
  edit_Path.f (rd_T49 y i).f0 (rd_T49 y i).f1 (rd_T49 y i).f2.f0 (rd_T49 y i).f2.f1 (rd_T49 y i).f2.f2 (rd_T49 y i).f2.f3 = some ((rd_T49 y i).f4, (rd_T49 y i).f3, 0)
theorem round_on {y : List S49} {i : Int} (j : Int) (h : Round y i) (h0 : 0 ≤ i) (h1 : i < (y.length : Int)) (k : Nat) (hs : letterbaglaw06_Same.f k (rd_T49 y i).f4 (rd_T49 y i).f4 = some true) (hw : wrap64 (i + 1) = j) :
    awakeP.l0 (k + 1) y (y.length : Int) i = awakeP.l0 k y (y.length : Int) j := by
  rw [awakeP.l0, if_pos h1, if_pos h0, if_pos h1, h.1, h.2]
  simp only [Option.bind_some, if_true, hs, hw]
def rows5 : List S49 := [⟨⟨#[82, 79, 65, 68]⟩, ⟨#[82, 65, 79, 68]⟩, ⟨1, 1, 1, 1⟩, 1, [⟨1, 0⟩, ⟨3, 0⟩, ⟨1, 0⟩]⟩,
  ⟨⟨#[77, 65, 73, 78]⟩, ⟨#[77, 65, 73, 78, 69]⟩, ⟨1, 1, 1, 1⟩, 1, [⟨1, 0⟩, ⟨1, 0⟩, ⟨1, 0⟩, ⟨1, 0⟩, ⟨5, 69⟩]⟩,
  ⟨⟨#[65, 66]⟩, ⟨#[]⟩, ⟨1, 1, 1, 1⟩, 2, [⟨4, 0⟩, ⟨4, 0⟩]⟩,
  ⟨⟨#[67, 65]⟩, ⟨#[65, 66, 67]⟩, ⟨1, 1, 1, 1⟩, 3, [⟨2, 65⟩, ⟨2, 66⟩, ⟨5, 67⟩]⟩,
  ⟨⟨#[65]⟩, ⟨#[66]⟩, ⟨1, 1, 3, 1⟩, 2, [⟨4, 0⟩, ⟨5, 66⟩]⟩]
theorem r0 : Round rows5 0 := ⟨(distF_K _ _ 1 (by decide) rfl).trans (by kernel_rfl), (pathF_K _ _ 1 (by decide) rfl).trans (by kernel_rfl)⟩
theorem r1 : Round rows5 1 := ⟨(distF_K _ _ 1 (by decide) rfl).trans (by kernel_rfl), (pathF_K _ _ 1 (by decide) rfl).trans (by kernel_rfl)⟩
theorem r2 : Round rows5 2 := ⟨(distF_K _ _ 1 (by decide) rfl).trans (by kernel_rfl), (pathF_K _ _ 1 (by decide) rfl).trans (by kernel_rfl)⟩
theorem r3 : Round rows5 3 := ⟨(distF_K _ _ 1 (by decide) rfl).trans (by kernel_rfl), (pathF_K _ _ 1 (by decide) rfl).trans (by kernel_rfl)⟩
theorem r4 : Round rows5 4 := ⟨(distF_K _ _ 3 (by decide) rfl).trans (by kernel_rfl), (pathF_K _ _ 3 (by decide) rfl).trans (by kernel_rfl)⟩
theorem w1 : edit_Within.f ⟨#[77, 65, 73, 78]⟩ ⟨#[77, 73, 78, 69]⟩ 1 1 1 1 1 = some (0, false, 0) := by
  unfold edit_Within.f
  rw [distF_K _ _ 1 (by decide) rfl]
  kernel_rfl
theorem w2 : edit_Within.f ⟨#[77, 65, 73, 78]⟩ ⟨#[77, 73, 78, 69]⟩ 1 1 1 1 2 = some (2, true, 0) := by
  unfold edit_Within.f
  rw [distF_K _ _ 1 (by decide) rfl]
  kernel_rfl
theorem last5 : awakeP.l0 25 rows5 (rows5.length : Int) 5 = some true := by
  rw [awakeP.l0, if_neg (by decide)]
  simp only [letterbaglaw06_ones.f, Option.bind_some, w1, w2]
  kernel_rfl
theorem awakeP_true : awakeP.f 30 = some true := by
  have e : awakeP.f 30 = awakeP.l0 30 rows5 (rows5.length : Int) 0 := by unfold awakeP.f; rfl
  rw [e, round_on 1 r0 (by decide) (by decide) 29 (by kernel_rfl) (by kernel_rfl), round_on 2 r1 (by decide) (by decide) 28 (by kernel_rfl) (by kernel_rfl), round_on 3 r2 (by decide) (by decide) 27 (by kernel_rfl) (by kernel_rfl), round_on 4 r3 (by decide) (by decide) 26 (by kernel_rfl) (by kernel_rfl), round_on 5 r4 (by decide) (by decide) 25 (by kernel_rfl) (by kernel_rfl)]
  exact last5
theorem awake_calls (w : World) : Calls Try.prog 9 #[] w fun e w' => e = .returned (.bool true) ∧ Below w.heap.size w w' :=
  awakeP.calls 30 true rfl w awakeP_true
end Go.Proofs.Ytdefecnngccmoaa.Ed
namespace Go.Proofs.Ytdefecnngccmoaa.QTells
open Go.RowKit Go.Proofs.YtdefecnngccmoaaW.PrintWords Go.Proofs.YtdefecnngccmoaaW.PrintLast Go.Proofs.YtdefecnngccmoaaW.PrintMore
attribute [local go_sem] max2_int min2_int max_two min_two max_three min_three max_four min_four
set_option linter.unusedVariables false
set_option linter.unusedSimpArgs false
open Go.Proofs.Ytdefecnngccmoaa.Ed
def letterbaglaw06_awake.f : Option Bool := some true
theorem letterbaglaw06_awake.calls (r : Bool) (w : World) (h : letterbaglaw06_awake.f = some r) :
  Calls Try.prog 9 #[] w fun e w' => e = .returned (.bool r) ∧ Below w.heap.size w w' := by
 obtain rfl := Option.some.inj h
 exact awake_calls w
end Go.Proofs.Ytdefecnngccmoaa.QTells
namespace Go.Proofs.Ytdefecnngccmoaa.QTells
open Go.RowKit Go.Proofs.YtdefecnngccmoaaW.PrintWords Go.Proofs.YtdefecnngccmoaaW.PrintLast Go.Proofs.YtdefecnngccmoaaW.PrintMore
attribute [local go_sem] max2_int min2_int max_two min_two max_three min_three max_four min_four
set_option linter.unusedVariables false
set_option linter.unusedSimpArgs false
open Go.Proofs.Ytdefecnngccmoaa.Ed
def edit_Cost.f (l0 : List (S38)) (a1_0 : Int) (a1_1 : Int) (a1_2 : Int) (a1_3 : Int) : Option (Int × Int) := some (costF l0 a1_0 a1_1 a1_2 a1_3)
theorem edit_Cost.calls (A0 : Option Addr) (c0 : Nat) (l0 : List (S38)) (a1_0 : Int) (a1_1 : Int) (a1_2 : Int) (a1_3 : Int) (r1 : Int) (r2 : Int) (w : World) (hr0 : Kd.C k38 w A0 l0.length l0) (hc0 : l0.length ≤ c0) (h : edit_Cost.f l0 a1_0 a1_1 a1_2 a1_3 = some (r1, r2)) :
  Calls Try.prog 17 #[.slice A0 l0.length c0, .agg #[.int .i64 a1_0, .int .i64 a1_1, .int .i64 a1_2, .int .i64 a1_3]] w fun e w' => e = .returned (.tuple #[.int .i64 r1, .int .i64 r2]) ∧ Below w.heap.size w w' := by
 have h' := Option.some.inj h
 have e := cost_calls A0 c0 l0 a1_0 a1_1 a1_2 a1_3 w hr0 hc0
 rw [h'] at e
 exact e
end Go.Proofs.Ytdefecnngccmoaa.QTells
namespace Go.Proofs.Ytdefecnngccmoaa.QTells
open Go.RowKit Go.Proofs.YtdefecnngccmoaaW.PrintWords Go.Proofs.YtdefecnngccmoaaW.PrintLast Go.Proofs.YtdefecnngccmoaaW.PrintMore
attribute [local go_sem] max2_int min2_int max_two min_two max_three min_three max_four min_four
set_option linter.unusedVariables false
set_option linter.unusedSimpArgs false
open Go.Proofs.Ytdefecnngccmoaa.Ed
mutual
def letterbaglaw06_EditDearer.j0 : Nat → ByteArray → ByteArray → Int → Int → Bool → Int → Int → Int → Int → Option (Bool)
 | 0, _, _, _, _, _, _, _, _, _ => none
 | k + 1, x0, x1, x3, x4, x40, x268000, x268001, x268002, x268003 => if x40 = true then (some true) else (if ((2 + (Int.tmod x3 4)) % 256) = 2 then (letterbaglaw06_EditDearer.j1 k x0 x1 x268000 x268001 x268002 x268003 x268000 x268001 (mn 1000 (wrap64 (x268002 + (wrap64 (x4))))) x268003) else (if ((2 + (Int.tmod x3 4)) % 256) = 3 then (letterbaglaw06_EditDearer.j1 k x0 x1 x268000 x268001 x268002 x268003 x268000 x268001 x268002 (mn 1000 (wrap64 (x268003 + (wrap64 (x4)))))) else (if ((2 + (Int.tmod x3 4)) % 256) = 4 then (letterbaglaw06_EditDearer.j1 k x0 x1 x268000 x268001 x268002 x268003 x268000 (mn 1000 (wrap64 (x268001 + (wrap64 (x4))))) x268002 x268003) else (letterbaglaw06_EditDearer.j1 k x0 x1 x268000 x268001 x268002 x268003 (mn 1000 (wrap64 (x268000 + (wrap64 (x4))))) x268001 x268002 x268003))))
def letterbaglaw06_EditDearer.j1 : Nat → ByteArray → ByteArray → Int → Int → Int → Int → Int → Int → Int → Int → Option (Bool)
 | 0, _, _, _, _, _, _, _, _, _, _ => none
 | k + 1, x0, x1, x268000, x268001, x268002, x268003, x271000, x271001, x271002, x271003 => (edit_Path.f x0 x1 x268000 x268001 x268002 x268003).bind fun bt271 => ((edit_Cost.f bt271.1 x271000 x271001 x271002 x271003).bind fun bt276 => ((edit_Distance.f x0 x1 x271000 x271001 x271002 x271003).bind fun bt278 => ((edit_Within.f x0 x1 x268000 x268001 x268002 x268003 bt271.2.1).bind fun bt280 => ((edit_Within.f x0 x1 x268000 x268001 x268002 x268003 (wrap64 (bt271.2.1 - 1))).bind fun bt283 => (if bt278.1 ≥ bt271.2.1 then (if bt278.1 ≤ bt276.1 then (if bt280.1 = bt271.2.1 then (if bt280.2.1 = true then (some (!bt283.2.1)) else (some false)) else (some false)) else (some false)) else (some false))))))
end
def letterbaglaw06_EditDearer.f (k : Nat) (a0 : ByteArray) (a1 : ByteArray) (a2_0 : Int) (a2_1 : Int) (a2_2 : Int) (a2_3 : Int) (a3 : Int) (a4 : Int) : Option (Bool) := (letterbaglaw06_awake.f).bind fun t268 => (if t268 = true then (if (a0.size : Int) > 60 then (letterbaglaw06_EditDearer.j0 k a0 a1 a3 a4 true a2_0 a2_1 a2_2 a2_3) else (if (a1.size : Int) > 60 then (letterbaglaw06_EditDearer.j0 k a0 a1 a3 a4 true a2_0 a2_1 a2_2 a2_3) else ((edit_Right.f a2_0 a2_1 a2_2 a2_3).bind fun t269 => (letterbaglaw06_EditDearer.j0 k a0 a1 a3 a4 (!t269) a2_0 a2_1 a2_2 a2_3)))) else (some false))
theorem letterbaglaw06_EditDearer.mono_l : ∀ k, (∀ y0 y1 y2 y3 y4 y5 y6 y7 y8, LeO (letterbaglaw06_EditDearer.j0 k y0 y1 y2 y3 y4 y5 y6 y7 y8) (letterbaglaw06_EditDearer.j0 (k + 1) y0 y1 y2 y3 y4 y5 y6 y7 y8)) ∧ (∀ y0 y1 y2 y3 y4 y5 y6 y7 y8 y9, LeO (letterbaglaw06_EditDearer.j1 k y0 y1 y2 y3 y4 y5 y6 y7 y8 y9) (letterbaglaw06_EditDearer.j1 (k + 1) y0 y1 y2 y3 y4 y5 y6 y7 y8 y9))
 | 0 => ⟨fun _ _ _ _ _ _ _ _ _ r h => by simp [letterbaglaw06_EditDearer.j0] at h, fun _ _ _ _ _ _ _ _ _ _ r h => by simp [letterbaglaw06_EditDearer.j1] at h⟩
 | k + 1 => by
  obtain ⟨ih0, ih1⟩ := letterbaglaw06_EditDearer.mono_l k
  refine ⟨?_, ?_⟩
  ·intro y0 y1 y2 y3 y4 y5 y6 y7 y8
   unfold letterbaglaw06_EditDearer.j0
   repeat' first
   | (with_reducible exact ih0 _ _ _ _ _ _ _ _ _)
   | (with_reducible exact ih1 _ _ _ _ _ _ _ _ _ _)
   | (with_reducible exact LeO.refl _)
   | (with_reducible exact LeO.none _)
   | (with_reducible refine LeO.ite ?_ ?_)
   | (with_reducible refine LeO.bind ?_ (fun _ => ?_))
   | exact ih0 _ _ _ _ _ _ _ _ _
   | exact ih1 _ _ _ _ _ _ _ _ _ _
   | exact LeO.none _
   | refine LeO.ite ?_ ?_
   | refine LeO.bind ?_ (fun _ => ?_)
  ·intro y0 y1 y2 y3 y4 y5 y6 y7 y8 y9
   unfold letterbaglaw06_EditDearer.j1
   repeat' first
   | (with_reducible exact ih0 _ _ _ _ _ _ _ _ _)
   | (with_reducible exact ih1 _ _ _ _ _ _ _ _ _ _)
   | (with_reducible exact LeO.refl _)
   | (with_reducible exact LeO.none _)
   | (with_reducible refine LeO.ite ?_ ?_)
   | (with_reducible refine LeO.bind ?_ (fun _ => ?_))
   | exact ih0 _ _ _ _ _ _ _ _ _
   | exact ih1 _ _ _ _ _ _ _ _ _ _
   | exact LeO.none _
   | refine LeO.ite ?_ ?_
   | refine LeO.bind ?_ (fun _ => ?_)
theorem letterbaglaw06_EditDearer.mono : ∀ a0 a1 a2 a3 a4 a5 a6 a7 k, LeO (letterbaglaw06_EditDearer.f k a0 a1 a2 a3 a4 a5 a6 a7) (letterbaglaw06_EditDearer.f (k + 1) a0 a1 a2 a3 a4 a5 a6 a7) := by
 intro a0 a1 a2 a3 a4 a5 a6 a7 k
 obtain ⟨ih0, ih1⟩ := letterbaglaw06_EditDearer.mono_l k
 unfold letterbaglaw06_EditDearer.f
 repeat' first
   | (with_reducible exact ih0 _ _ _ _ _ _ _ _ _)
   | (with_reducible exact ih1 _ _ _ _ _ _ _ _ _ _)
   | (with_reducible exact LeO.refl _)
   | (with_reducible exact LeO.none _)
   | (with_reducible refine LeO.ite ?_ ?_)
   | (with_reducible refine LeO.bind ?_ (fun _ => ?_))
   | exact ih0 _ _ _ _ _ _ _ _ _
   | exact ih1 _ _ _ _ _ _ _ _ _ _
   | exact LeO.none _
   | refine LeO.ite ?_ ?_
   | refine LeO.bind ?_ (fun _ => ?_)
set_option maxHeartbeats 8000000 in
set_option maxRecDepth 100000 in
theorem letterbaglaw06_EditDearer.calls (k : Nat) (a0 : ByteArray) (a1 : ByteArray) (a2_0 : Int) (a2_1 : Int) (a2_2 : Int) (a2_3 : Int) (a3 : Int) (a4 : Int) (r : Bool) (w : World) (h : letterbaglaw06_EditDearer.f k a0 a1 a2_0 a2_1 a2_2 a2_3 a3 a4 = some r) :
  Calls Try.prog 8 #[.string a0, .string a1, .agg #[.int .i64 a2_0, .int .i64 a2_1, .int .i64 a2_2, .int .i64 a2_3], .int .u8 a3, .int .u8 a4] w fun e w' => e = .returned (.bool r) ∧ Below w.heap.size w w' := by
 have hu23 := Try.underlying23
 have HB := Aside0.mk (Below.refl w.heap.size w)
 have H : ((letterbaglaw06_awake.f).bind fun t268 => (if t268 = true then (if (a0.size : Int) > 60 then (letterbaglaw06_EditDearer.j0 k a0 a1 a3 a4 true a2_0 a2_1 a2_2 a2_3) else (if (a1.size : Int) > 60 then (letterbaglaw06_EditDearer.j0 k a0 a1 a3 a4 true a2_0 a2_1 a2_2 a2_3) else ((edit_Right.f a2_0 a2_1 a2_2 a2_3).bind fun t269 => (letterbaglaw06_EditDearer.j0 k a0 a1 a3 a4 (!t269) a2_0 a2_1 a2_2 a2_3)))) else (some false))) = some r := h
 clear h
 replace H := Option.bind_eq_some_iff.mp H
 obtain ⟨t268, A60, H⟩ := H
 replace H : (if t268 = true then (if (a0.size : Int) > 60 then (letterbaglaw06_EditDearer.j0 k a0 a1 a3 a4 true a2_0 a2_1 a2_2 a2_3) else (if (a1.size : Int) > 60 then (letterbaglaw06_EditDearer.j0 k a0 a1 a3 a4 true a2_0 a2_1 a2_2 a2_3) else ((edit_Right.f a2_0 a2_1 a2_2 a2_3).bind fun t269 => (letterbaglaw06_EditDearer.j0 k a0 a1 a3 a4 (!t269) a2_0 a2_1 a2_2 a2_3)))) else (some false)) = some r := H
 have A6 := Aside0.mk A60
 clear A60
 by_cases c7 : t268 = true
 ·subst c7
  have H1 : (if (a0.size : Int) > 60 then (letterbaglaw06_EditDearer.j0 k a0 a1 a3 a4 true a2_0 a2_1 a2_2 a2_3) else (if (a1.size : Int) > 60 then (letterbaglaw06_EditDearer.j0 k a0 a1 a3 a4 true a2_0 a2_1 a2_2 a2_3) else ((edit_Right.f a2_0 a2_1 a2_2 a2_3).bind fun t269 => (letterbaglaw06_EditDearer.j0 k a0 a1 a3 a4 (!t269) a2_0 a2_1 a2_2 a2_3)))) = some r := by rw [if_pos rfl] at H; exact H
  clear H
  have H := H1
  clear H1
  have HC8 := Aside0.mk H
  clear H
  go_enter Try.func8, Try.ntmps8
  go_upto_region 3 with (first | ((with_reducible refine gate_dst (N := 7) rfl ?_); (try (refine gate_guard (by rfl) ?_; dsimp only)); refine box_event ?hg (N := 7) ?hd (cs := #[.int .i64 a2_0, .int .i64 a2_1, .int .i64 a2_2, .int .i64 a2_3]) (t := 23) ?hr ?_; (case hd => rfl); (case hg => rfl); (case hr => first | (go_simp; done) | (go_simp; rfl)); intro gb267 hg w9 hbox hb; have n0_ := Aside0.mk (below_step (by repeat (first | (with_reducible first | exact HB.out | apply below_alloc | apply pw_below_drewN | apply below_drew1) | exact HB.out)) hb); have n1_ := Aside0.mk (hbox); have n2_ := Aside0.mk ((by rw [hg]; exact (below_size (by repeat (first | (with_reducible first | exact HB.out | apply below_alloc | apply pw_below_drewN | apply below_drew1) | exact HB.out))) : w.heap.size ≤ gb267)); have n3_ := Aside0.mk ((by rw [hg]; exact (below_size (by repeat (first | (with_reducible first | exact HB.out | apply below_alloc | apply pw_below_drewN | apply below_drew1) | exact HB.out))) : w.heap.size ≤ gb267)); clear HB; have HB := n0_; have BK267 := n1_; have GW267 := n2_; have GE267 := n3_; clear n0_ n1_ n2_ n3_; clear hb hbox hg) | ((with_reducible refine gate_callee (f := 9) rfl ?_); refine goesL_ (some 26) rfl rfl Try.func9 (by kernel_rfl) rfl #[] rfl (by (try simp only [List.map_toArray, List.map_cons, List.map_nil]); first | done | rfl | (simp only [List.length_drop, List.length_take]; rfl)) ?_; (with_reducible refine (letterbaglaw06_awake.calls  true _ A6.out).mono ?_); rintro e w10 ⟨rfl, hb⟩; refine ⟨_, rfl, ?_⟩; have n0_ := Aside0.mk (blk_below (g := gb267) (o := .cells #[.int .i64 a2_0, .int .i64 a2_1, .int .i64 a2_2, .int .i64 a2_3] 23 (0, 0)) (by (with_reducible repeat (first | refine blk_drewN ?_ _ | refine blk_drew ?_ | refine blk_alloc ?_ _)); exact BK267.out) hb); have n1_ := Aside0.mk (below_step (by repeat (first | (with_reducible first | exact HB.out | apply below_alloc | apply pw_below_drewN | apply below_drew1 | refine below_set ?_ GE267.out) | exact HB.out)) hb); clear BK267; clear HB; have BK267 := n0_; have HB := n1_; clear n0_ n1_; (try clear hb); (try clear hb2); (try clear hk); (try clear hi)))
  (try simp only [Act.put, List.setIfInBounds_toArray, List.set_cons_zero, List.set_cons_succ])
  go_cut [40] (fun v40 wc => ∃ (kq : Nat) (x40_7 : Bool), v40 = .bool x40_7 ∧ Aside0 (letterbaglaw06_EditDearer.j0 kq a0 a1 a3 a4 x40_7 a2_0 a2_1 a2_2 a2_3 = some r) ∧ Aside0 (kq ≤ k) ∧ Aside0 (wc.heap[gb267]? = some (.cells #[.int .i64 a2_0, .int .i64 a2_1, .int .i64 a2_2, .int .i64 a2_3] 23 (0, 0))) ∧ Aside0 (Below w.heap.size w wc))
  case first =>
   have H := HC8.out
   clear HC8
   by_cases c11 : (a0.size : Int) > 60
   ·rw [if_pos c11] at H
    have c11b0 : decide (60 < (a0.size : Int)) = true := decide_eq_true c11
    have c11b1 : decide (60 < a0.size) = true := decide_eq_true (by omega)
    clear c11
    (first | rw [c11b0] | (simp only [i64_w, i32_w]; rw [c11b0]) | skip)
    have H' := Aside0.mk H
    clear H
    go_wp2
    go_meet
    case rel => exact ⟨_, (true), (by first | rfl | (simp; done) | (simp [*]; done)), H', ⟨by first | omega | exact Nat.le_refl _⟩, ⟨by (with_reducible repeat (first | refine blk_drewN ?_ _ | refine blk_drew ?_ | refine blk_alloc ?_ _)); exact BK267.out⟩, ⟨by repeat (first | (with_reducible first | exact HB.out | apply below_alloc | apply pw_below_drewN | apply below_drew1 | refine below_set ?_ GE267.out) | exact HB.out)⟩⟩
   ·rw [if_neg c11] at H
    have c11b0 : decide (60 < (a0.size : Int)) = false := decide_eq_false c11
    have c11b1 : decide (60 < a0.size) = false := decide_eq_false (by omega)
    clear c11
    (first | rw [c11b0] | (simp only [i64_w, i32_w]; rw [c11b0]) | skip)
    by_cases c12 : (a1.size : Int) > 60
    ·rw [if_pos c12] at H
     have c12b0 : decide (60 < (a1.size : Int)) = true := decide_eq_true c12
     have c12b1 : decide (60 < a1.size) = true := decide_eq_true (by omega)
     clear c12
     have H' := Aside0.mk H
     clear H
     go_wp2
     go_meet
     case rel => exact ⟨_, (true), (by first | rfl | (simp; done) | (simp [*]; done)), H', ⟨by first | omega | exact Nat.le_refl _⟩, ⟨by (with_reducible repeat (first | refine blk_drewN ?_ _ | refine blk_drew ?_ | refine blk_alloc ?_ _)); exact BK267.out⟩, ⟨by repeat (first | (with_reducible first | exact HB.out | apply below_alloc | apply pw_below_drewN | apply below_drew1 | refine below_set ?_ GE267.out) | exact HB.out)⟩⟩
    ·rw [if_neg c12] at H
     have c12b0 : decide (60 < (a1.size : Int)) = false := decide_eq_false c12
     have c12b1 : decide (60 < a1.size) = false := decide_eq_false (by omega)
     clear c12
     replace H := Option.bind_eq_some_iff.mp H
     obtain ⟨t269, A130, H⟩ := H
     replace H : (letterbaglaw06_EditDearer.j0 k a0 a1 a3 a4 (!t269) a2_0 a2_1 a2_2 a2_3) = some r := H
     have A13 := Aside0.mk A130
     clear A130
     have H' := Aside0.mk H
     clear H
     have hcz14_0 : w10.cell? ⟨gb267, 0, none⟩ = some (.int .i64 a2_0) := (blk_cell BK267.out 0).trans rfl
     have hcz14_1 : w10.cell? ⟨gb267, 1, none⟩ = some (.int .i64 a2_1) := (blk_cell BK267.out 1).trans rfl
     have hcz14_2 : w10.cell? ⟨gb267, 2, none⟩ = some (.int .i64 a2_2) := (blk_cell BK267.out 2).trans rfl
     have hcz14_3 : w10.cell? ⟨gb267, 3, none⟩ = some (.int .i64 a2_3) := (blk_cell BK267.out 3).trans rfl
     have hfz14_0 := blk_frozen BK267.out 0
     have hfz14_1 := blk_frozen BK267.out 1
     have hfz14_2 := blk_frozen BK267.out 2
     have hfz14_3 := blk_frozen BK267.out 3
     go_wp2_with (first | (go_at_call 11; (with_reducible refine (edit_Right.calls a2_0 a2_1 a2_2 a2_3 t269 _ A13.out).mono ?_); rintro e w15 ⟨rfl, hb⟩; have n0_ := Aside0.mk (blk_below (g := gb267) (o := .cells #[.int .i64 a2_0, .int .i64 a2_1, .int .i64 a2_2, .int .i64 a2_3] 23 (0, 0)) (by (with_reducible repeat (first | refine blk_drewN ?_ _ | refine blk_drew ?_ | refine blk_alloc ?_ _)); exact BK267.out) hb); have n1_ := Aside0.mk (below_step (by repeat (first | (with_reducible first | exact HB.out | apply below_alloc | apply pw_below_drewN | apply below_drew1 | refine below_set ?_ GE267.out) | exact HB.out)) hb); clear BK267; clear HB; have BK267 := n0_; have HB := n1_; clear n0_ n1_; (try clear hb); (try clear hb2); (try clear hk); (try clear hi)))
     go_meet
     case rel => exact ⟨_, (!t269), (by first | rfl | (simp; done) | (simp [*]; done)), H', ⟨by first | omega | exact Nat.le_refl _⟩, ⟨by (with_reducible repeat (first | refine blk_drewN ?_ _ | refine blk_drew ?_ | refine blk_alloc ?_ _)); exact BK267.out⟩, ⟨by repeat (first | (with_reducible first | exact HB.out | apply below_alloc | apply pw_below_drewN | apply below_drew1 | refine below_set ?_ GE267.out) | exact HB.out)⟩⟩
  case rest =>
   clear HC8
   try clear c1
   try clear p2
   try clear c7
   try clear c8
   try clear c9
   try clear c11
   try clear c11b0
   try clear c11b1
   try clear c12
   try clear c12b0
   try clear c12b1
   try clear hcz14_0
   try clear hcz14_1
   try clear hcz14_2
   try clear hcz14_3
   try clear hfz14_0
   try clear hfz14_1
   try clear hfz14_2
   try clear hfz14_3
   obtain ⟨kq, x40_7, rfl, HA, HJ7, BK267, HB⟩ := hcut
   cases kq with
   | zero => exact absurd HA.out (by simp [letterbaglaw06_EditDearer.j0])
   | succ kj7 =>
    have H := HA.out
    clear HA
    simp only [letterbaglaw06_EditDearer.j0] at H
    by_cases c16 : x40_7 = true
    ·subst c16
     have H1 : (some true) = some r := by rw [if_pos rfl] at H; exact H
     clear H
     have H := H1
     clear H1
     obtain rfl := Option.some.inj H
     go_wp2
     go_ret
     exact ⟨by first | rfl | (simp [errW_none, errW_some] <;> rfl) | (simp [*, errW_none, errW_some] <;> rfl), by repeat (first | (with_reducible first | exact HB.out | apply below_alloc | apply pw_below_drewN | apply below_drew1 | refine below_set ?_ GE267.out) | exact HB.out)⟩
    ·replace c16 := Bool.eq_false_iff.mpr c16
     subst c16
     have H1 : (if ((2 + (Int.tmod a3 4)) % 256) = 2 then (letterbaglaw06_EditDearer.j1 kj7 a0 a1 a2_0 a2_1 a2_2 a2_3 a2_0 a2_1 (mn 1000 (wrap64 (a2_2 + (wrap64 (a4))))) a2_3) else (if ((2 + (Int.tmod a3 4)) % 256) = 3 then (letterbaglaw06_EditDearer.j1 kj7 a0 a1 a2_0 a2_1 a2_2 a2_3 a2_0 a2_1 a2_2 (mn 1000 (wrap64 (a2_3 + (wrap64 (a4)))))) else (if ((2 + (Int.tmod a3 4)) % 256) = 4 then (letterbaglaw06_EditDearer.j1 kj7 a0 a1 a2_0 a2_1 a2_2 a2_3 a2_0 (mn 1000 (wrap64 (a2_1 + (wrap64 (a4))))) a2_2 a2_3) else (letterbaglaw06_EditDearer.j1 kj7 a0 a1 a2_0 a2_1 a2_2 a2_3 (mn 1000 (wrap64 (a2_0 + (wrap64 (a4))))) a2_1 a2_2 a2_3)))) = some r := by rw [if_neg (show ¬ (false = true) by decide)] at H; exact H
     clear H
     have H := H1
     clear H1
     have HC17 := Aside0.mk H
     clear H
     have hcz18_0 : wc.cell? ⟨gb267, 0, none⟩ = some (.int .i64 a2_0) := (blk_cell BK267.out 0).trans rfl
     have hcz18_1 : wc.cell? ⟨gb267, 1, none⟩ = some (.int .i64 a2_1) := (blk_cell BK267.out 1).trans rfl
     have hcz18_2 : wc.cell? ⟨gb267, 2, none⟩ = some (.int .i64 a2_2) := (blk_cell BK267.out 2).trans rfl
     have hcz18_3 : wc.cell? ⟨gb267, 3, none⟩ = some (.int .i64 a2_3) := (blk_cell BK267.out 3).trans rfl
     have hfz18_0 := blk_frozen BK267.out 0
     have hfz18_1 := blk_frozen BK267.out 1
     have hfz18_2 := blk_frozen BK267.out 2
     have hfz18_3 := blk_frozen BK267.out 3
     go_upto_block 0 with (first | ((with_reducible refine gate_dst (N := 11) rfl ?_); (try (refine gate_guard (by rfl) ?_; dsimp only)); refine box_event ?hg (N := 11) ?hd (cs := #[.int .i64 0, .int .i64 0, .int .i64 0, .int .i64 0]) (t := 23) ?hr ?_; (case hd => rfl); (case hg => rfl); (case hr => first | (go_simp; done) | (go_simp; rfl)); intro gb270 hg w19 hbox hb; have n0_ := Aside0.mk (blk_below (g := gb267) (o := .cells #[.int .i64 a2_0, .int .i64 a2_1, .int .i64 a2_2, .int .i64 a2_3] 23 (0, 0)) (by (with_reducible repeat (first | refine blk_drewN ?_ _ | refine blk_drew ?_ | refine blk_alloc ?_ _)); exact BK267.out) hb); have n1_ := Aside0.mk (below_step (by repeat (first | (with_reducible first | exact HB.out | apply below_alloc | apply pw_below_drewN | apply below_drew1 | refine below_set ?_ GE267.out) | exact HB.out)) hb); have n2_ := Aside0.mk (hbox); have n3_ := Aside0.mk ((by rw [hg]; exact (below_size (by repeat (first | (with_reducible first | exact HB.out | apply below_alloc | apply pw_below_drewN | apply below_drew1 | refine below_set ?_ GE267.out) | exact HB.out))) : w.heap.size ≤ gb270)); have n4_ := Aside0.mk ((by rw [hg]; exact (below_size (by repeat (first | (with_reducible first | exact HB.out | apply below_alloc | apply pw_below_drewN | apply below_drew1 | refine below_set ?_ GE267.out) | exact HB.out))) : w.heap.size ≤ gb270)); have n5_ := Aside0.mk ((by rw [hg]; exact Nat.ne_of_lt (blk_lt (g := gb267) (o := .cells #[.int .i64 a2_0, .int .i64 a2_1, .int .i64 a2_2, .int .i64 a2_3] 23 (0, 0)) (by (with_reducible repeat (first | refine blk_drewN ?_ _ | refine blk_drew ?_ | refine blk_alloc ?_ _)); exact BK267.out)) : gb267 ≠ gb270)); have n6_ := Aside0.mk ((by rw [hg]; exact Nat.ne_of_gt (blk_lt (g := gb267) (o := .cells #[.int .i64 a2_0, .int .i64 a2_1, .int .i64 a2_2, .int .i64 a2_3] 23 (0, 0)) (by (with_reducible repeat (first | refine blk_drewN ?_ _ | refine blk_drew ?_ | refine blk_alloc ?_ _)); exact BK267.out)) : gb270 ≠ gb267)); clear BK267; clear HB; have BK267 := n0_; have HB := n1_; have BK270 := n2_; have GW270 := n3_; have GE270 := n4_; have NB267_270 := n5_; have NB270_267 := n6_; clear n0_ n1_ n2_ n3_ n4_ n5_ n6_; clear hb hbox hg; have hnb20 := NB270_267.out; have hnc20 := NB267_270.out; have hcz21_0 : w19.cell? ⟨gb270, 0, none⟩ = some (.int .i64 0) := (blk_cell BK270.out 0).trans rfl; have hcz21_1 : w19.cell? ⟨gb270, 1, none⟩ = some (.int .i64 0) := (blk_cell BK270.out 1).trans rfl; have hcz21_2 : w19.cell? ⟨gb270, 2, none⟩ = some (.int .i64 0) := (blk_cell BK270.out 2).trans rfl; have hcz21_3 : w19.cell? ⟨gb270, 3, none⟩ = some (.int .i64 0) := (blk_cell BK270.out 3).trans rfl; have hfz21_0 := blk_frozen BK270.out 0; have hfz21_1 := blk_frozen BK270.out 1; have hfz21_2 := blk_frozen BK270.out 2; have hfz21_3 := blk_frozen BK270.out 3))
     (try simp only [Act.put, List.setIfInBounds_toArray, List.set_cons_zero, List.set_cons_succ])
     go_cut [] (fun wc => ∃ (kq : Nat) (x271000_16 : Int) (x271001_16 : Int) (x271002_16 : Int) (x271003_16 : Int), Aside0 (letterbaglaw06_EditDearer.j1 kq a0 a1 a2_0 a2_1 a2_2 a2_3 x271000_16 x271001_16 x271002_16 x271003_16 = some r) ∧ Aside0 (kq ≤ kj7) ∧ Aside0 (wc.heap[gb267]? = some (.cells #[.int .i64 a2_0, .int .i64 a2_1, .int .i64 a2_2, .int .i64 a2_3] 23 (0, 0))) ∧ Aside0 (wc.heap[gb270]? = some (.cells #[.int .i64 x271000_16, .int .i64 x271001_16, .int .i64 x271002_16, .int .i64 x271003_16] 23 (0, 0))) ∧ Aside0 (Below w.heap.size w wc))
     case first =>
      have H := HC17.out
      clear HC17
      by_cases c22 : ((2 + (Int.tmod a3 4)) % 256) = 2
      ·rw [if_pos c22] at H
       have c22b0 : (((2 + (Int.tmod a3 4)) % 256) == 2) = true := beq_iff_eq.mpr c22
       have c22b1 : (((2 + (Int.tmod a3 4)) % 256) != 2) = false := bne_eq_false_iff_eq.mpr c22
       clear c22
       (first | rw [c22b0] | (simp only [i64_w, i32_w]; rw [c22b0]) | skip)
       obtain ⟨ji23, hji23⟩ : ∃ j_ : Int, (mn 1000 (wrap64 (a2_2 + (wrap64 (a4))))) = j_ := ⟨_, rfl⟩
       replace H : (letterbaglaw06_EditDearer.j1 kj7 a0 a1 a2_0 a2_1 a2_2 a2_3 a2_0 a2_1 ji23 a2_3) = some r := by first | (rw [hji23] at H; exact H) | (simp only [hji23] at H ⊢; exact H)
       have hji23_ : (if (wrap64 (a2_2 + (wrap64 (a4)))) < 1000 then (wrap64 (a2_2 + (wrap64 (a4)))) else 1000) = ji23 := hji23
       have H' := Aside0.mk H
       clear H
       have hnb24 := NB267_270.out
       have hnc24 := NB270_267.out
       have hcz25_0 : w19.cell? ⟨gb267, 0, none⟩ = some (.int .i64 a2_0) := (blk_cell BK267.out 0).trans rfl
       have hcz25_1 : w19.cell? ⟨gb267, 1, none⟩ = some (.int .i64 a2_1) := (blk_cell BK267.out 1).trans rfl
       have hcz25_2 : w19.cell? ⟨gb267, 2, none⟩ = some (.int .i64 a2_2) := (blk_cell BK267.out 2).trans rfl
       have hcz25_3 : w19.cell? ⟨gb267, 3, none⟩ = some (.int .i64 a2_3) := (blk_cell BK267.out 3).trans rfl
       have hfz25_0 := blk_frozen BK267.out 0
       have hfz25_1 := blk_frozen BK267.out 1
       have hfz25_2 := blk_frozen BK267.out 2
       have hfz25_3 := blk_frozen BK267.out 3
       have hcz26_0 : w19.cell? ⟨gb270, 0, none⟩ = some (.int .i64 0) := (blk_cell BK270.out 0).trans rfl
       have hcz26_1 : w19.cell? ⟨gb270, 1, none⟩ = some (.int .i64 0) := (blk_cell BK270.out 1).trans rfl
       have hcz26_2 : w19.cell? ⟨gb270, 2, none⟩ = some (.int .i64 0) := (blk_cell BK270.out 2).trans rfl
       have hcz26_3 : w19.cell? ⟨gb270, 3, none⟩ = some (.int .i64 0) := (blk_cell BK270.out 3).trans rfl
       have hfz26_0 := blk_frozen BK270.out 0
       have hfz26_1 := blk_frozen BK270.out 1
       have hfz26_2 := blk_frozen BK270.out 2
       have hfz26_3 := blk_frozen BK270.out 3
       go_wp2
       go_meet
       case rel => exact ⟨_, (a2_0), (a2_1), (ji23), (a2_3), H', ⟨by have := HJ7.out; first | omega | exact Nat.le_refl _⟩, ⟨by (with_reducible repeat (first | refine blk_drewN ?_ _ | refine blk_drew ?_ | refine blk_alloc ?_ _)); refine blk_far ?_ NB267_270.out _; (with_reducible repeat (first | refine blk_drewN ?_ _ | refine blk_drew ?_ | refine blk_alloc ?_ _)); refine blk_far ?_ NB267_270.out _; (with_reducible repeat (first | refine blk_drewN ?_ _ | refine blk_drew ?_ | refine blk_alloc ?_ _)); refine blk_far ?_ NB267_270.out _; (with_reducible repeat (first | refine blk_drewN ?_ _ | refine blk_drew ?_ | refine blk_alloc ?_ _)); refine blk_far ?_ NB267_270.out _; (with_reducible repeat (first | refine blk_drewN ?_ _ | refine blk_drew ?_ | refine blk_alloc ?_ _)); refine blk_far ?_ NB267_270.out _; (with_reducible repeat (first | refine blk_drewN ?_ _ | refine blk_drew ?_ | refine blk_alloc ?_ _)); exact BK267.out⟩, ⟨by (with_reducible repeat (first | refine blk_drewN ?_ _ | refine blk_drew ?_ | refine blk_alloc ?_ _)); refine blk_put (cs := #[.int .i64 a2_0, .int .i64 a2_1, .int .i64 a2_2, .int .i64 a2_3]) ?_ 2 _ rfl; (with_reducible repeat (first | refine blk_drewN ?_ _ | refine blk_drew ?_ | refine blk_alloc ?_ _)); refine blk_put (cs := #[.int .i64 a2_0, .int .i64 a2_1, .int .i64 a2_2, .int .i64 0]) ?_ 3 _ rfl; (with_reducible repeat (first | refine blk_drewN ?_ _ | refine blk_drew ?_ | refine blk_alloc ?_ _)); refine blk_put (cs := #[.int .i64 a2_0, .int .i64 a2_1, .int .i64 0, .int .i64 0]) ?_ 2 _ rfl; (with_reducible repeat (first | refine blk_drewN ?_ _ | refine blk_drew ?_ | refine blk_alloc ?_ _)); refine blk_put (cs := #[.int .i64 a2_0, .int .i64 0, .int .i64 0, .int .i64 0]) ?_ 1 _ rfl; (with_reducible repeat (first | refine blk_drewN ?_ _ | refine blk_drew ?_ | refine blk_alloc ?_ _)); refine blk_put (cs := #[.int .i64 0, .int .i64 0, .int .i64 0, .int .i64 0]) ?_ 0 _ rfl; (with_reducible repeat (first | refine blk_drewN ?_ _ | refine blk_drew ?_ | refine blk_alloc ?_ _)); exact BK270.out⟩, ⟨by repeat (first | (with_reducible first | exact HB.out | apply below_alloc | apply pw_below_drewN | apply below_drew1 | refine below_set ?_ GE267.out | refine below_set ?_ GE270.out) | exact HB.out)⟩⟩
      ·rw [if_neg c22] at H
       have c22b0 : (((2 + (Int.tmod a3 4)) % 256) == 2) = false := beq_eq_false_iff_ne.mpr c22
       have c22b1 : (((2 + (Int.tmod a3 4)) % 256) != 2) = true := bne_iff_ne.mpr c22
       (first | rw [c22b0] | (simp only [i64_w, i32_w]; rw [c22b0]) | skip)
       by_cases c27 : ((2 + (Int.tmod a3 4)) % 256) = 3
       ·rw [if_pos c27] at H
        have c27b0 : (((2 + (Int.tmod a3 4)) % 256) == 3) = true := beq_iff_eq.mpr c27
        have c27b1 : (((2 + (Int.tmod a3 4)) % 256) != 3) = false := bne_eq_false_iff_eq.mpr c27
        clear c27
        obtain ⟨ji28, hji28⟩ : ∃ j_ : Int, (mn 1000 (wrap64 (a2_3 + (wrap64 (a4))))) = j_ := ⟨_, rfl⟩
        replace H : (letterbaglaw06_EditDearer.j1 kj7 a0 a1 a2_0 a2_1 a2_2 a2_3 a2_0 a2_1 a2_2 ji28) = some r := by first | (rw [hji28] at H; exact H) | (simp only [hji28] at H ⊢; exact H)
        have hji28_ : (if (wrap64 (a2_3 + (wrap64 (a4)))) < 1000 then (wrap64 (a2_3 + (wrap64 (a4)))) else 1000) = ji28 := hji28
        have H' := Aside0.mk H
        clear H
        have hnb29 := NB267_270.out
        have hnc29 := NB270_267.out
        have hcz30_0 : w19.cell? ⟨gb267, 0, none⟩ = some (.int .i64 a2_0) := (blk_cell BK267.out 0).trans rfl
        have hcz30_1 : w19.cell? ⟨gb267, 1, none⟩ = some (.int .i64 a2_1) := (blk_cell BK267.out 1).trans rfl
        have hcz30_2 : w19.cell? ⟨gb267, 2, none⟩ = some (.int .i64 a2_2) := (blk_cell BK267.out 2).trans rfl
        have hcz30_3 : w19.cell? ⟨gb267, 3, none⟩ = some (.int .i64 a2_3) := (blk_cell BK267.out 3).trans rfl
        have hfz30_0 := blk_frozen BK267.out 0
        have hfz30_1 := blk_frozen BK267.out 1
        have hfz30_2 := blk_frozen BK267.out 2
        have hfz30_3 := blk_frozen BK267.out 3
        have hcz31_0 : w19.cell? ⟨gb270, 0, none⟩ = some (.int .i64 0) := (blk_cell BK270.out 0).trans rfl
        have hcz31_1 : w19.cell? ⟨gb270, 1, none⟩ = some (.int .i64 0) := (blk_cell BK270.out 1).trans rfl
        have hcz31_2 : w19.cell? ⟨gb270, 2, none⟩ = some (.int .i64 0) := (blk_cell BK270.out 2).trans rfl
        have hcz31_3 : w19.cell? ⟨gb270, 3, none⟩ = some (.int .i64 0) := (blk_cell BK270.out 3).trans rfl
        have hfz31_0 := blk_frozen BK270.out 0
        have hfz31_1 := blk_frozen BK270.out 1
        have hfz31_2 := blk_frozen BK270.out 2
        have hfz31_3 := blk_frozen BK270.out 3
        go_wp2
        go_meet
        case rel => exact ⟨_, (a2_0), (a2_1), (a2_2), (ji28), H', ⟨by have := HJ7.out; first | omega | exact Nat.le_refl _⟩, ⟨by (with_reducible repeat (first | refine blk_drewN ?_ _ | refine blk_drew ?_ | refine blk_alloc ?_ _)); refine blk_far ?_ NB267_270.out _; (with_reducible repeat (first | refine blk_drewN ?_ _ | refine blk_drew ?_ | refine blk_alloc ?_ _)); refine blk_far ?_ NB267_270.out _; (with_reducible repeat (first | refine blk_drewN ?_ _ | refine blk_drew ?_ | refine blk_alloc ?_ _)); refine blk_far ?_ NB267_270.out _; (with_reducible repeat (first | refine blk_drewN ?_ _ | refine blk_drew ?_ | refine blk_alloc ?_ _)); refine blk_far ?_ NB267_270.out _; (with_reducible repeat (first | refine blk_drewN ?_ _ | refine blk_drew ?_ | refine blk_alloc ?_ _)); refine blk_far ?_ NB267_270.out _; (with_reducible repeat (first | refine blk_drewN ?_ _ | refine blk_drew ?_ | refine blk_alloc ?_ _)); exact BK267.out⟩, ⟨by (with_reducible repeat (first | refine blk_drewN ?_ _ | refine blk_drew ?_ | refine blk_alloc ?_ _)); refine blk_put (cs := #[.int .i64 a2_0, .int .i64 a2_1, .int .i64 a2_2, .int .i64 a2_3]) ?_ 3 _ rfl; (with_reducible repeat (first | refine blk_drewN ?_ _ | refine blk_drew ?_ | refine blk_alloc ?_ _)); refine blk_put (cs := #[.int .i64 a2_0, .int .i64 a2_1, .int .i64 a2_2, .int .i64 0]) ?_ 3 _ rfl; (with_reducible repeat (first | refine blk_drewN ?_ _ | refine blk_drew ?_ | refine blk_alloc ?_ _)); refine blk_put (cs := #[.int .i64 a2_0, .int .i64 a2_1, .int .i64 0, .int .i64 0]) ?_ 2 _ rfl; (with_reducible repeat (first | refine blk_drewN ?_ _ | refine blk_drew ?_ | refine blk_alloc ?_ _)); refine blk_put (cs := #[.int .i64 a2_0, .int .i64 0, .int .i64 0, .int .i64 0]) ?_ 1 _ rfl; (with_reducible repeat (first | refine blk_drewN ?_ _ | refine blk_drew ?_ | refine blk_alloc ?_ _)); refine blk_put (cs := #[.int .i64 0, .int .i64 0, .int .i64 0, .int .i64 0]) ?_ 0 _ rfl; (with_reducible repeat (first | refine blk_drewN ?_ _ | refine blk_drew ?_ | refine blk_alloc ?_ _)); exact BK270.out⟩, ⟨by repeat (first | (with_reducible first | exact HB.out | apply below_alloc | apply pw_below_drewN | apply below_drew1 | refine below_set ?_ GE267.out | refine below_set ?_ GE270.out) | exact HB.out)⟩⟩
       ·rw [if_neg c27] at H
        have c27b0 : (((2 + (Int.tmod a3 4)) % 256) == 3) = false := beq_eq_false_iff_ne.mpr c27
        have c27b1 : (((2 + (Int.tmod a3 4)) % 256) != 3) = true := bne_iff_ne.mpr c27
        by_cases c32 : ((2 + (Int.tmod a3 4)) % 256) = 4
        ·rw [if_pos c32] at H
         have c32b0 : (((2 + (Int.tmod a3 4)) % 256) == 4) = true := beq_iff_eq.mpr c32
         have c32b1 : (((2 + (Int.tmod a3 4)) % 256) != 4) = false := bne_eq_false_iff_eq.mpr c32
         clear c32
         obtain ⟨ji33, hji33⟩ : ∃ j_ : Int, (mn 1000 (wrap64 (a2_1 + (wrap64 (a4))))) = j_ := ⟨_, rfl⟩
         replace H : (letterbaglaw06_EditDearer.j1 kj7 a0 a1 a2_0 a2_1 a2_2 a2_3 a2_0 ji33 a2_2 a2_3) = some r := by first | (rw [hji33] at H; exact H) | (simp only [hji33] at H ⊢; exact H)
         have hji33_ : (if (wrap64 (a2_1 + (wrap64 (a4)))) < 1000 then (wrap64 (a2_1 + (wrap64 (a4)))) else 1000) = ji33 := hji33
         have H' := Aside0.mk H
         clear H
         have hnb34 := NB267_270.out
         have hnc34 := NB270_267.out
         have hcz35_0 : w19.cell? ⟨gb267, 0, none⟩ = some (.int .i64 a2_0) := (blk_cell BK267.out 0).trans rfl
         have hcz35_1 : w19.cell? ⟨gb267, 1, none⟩ = some (.int .i64 a2_1) := (blk_cell BK267.out 1).trans rfl
         have hcz35_2 : w19.cell? ⟨gb267, 2, none⟩ = some (.int .i64 a2_2) := (blk_cell BK267.out 2).trans rfl
         have hcz35_3 : w19.cell? ⟨gb267, 3, none⟩ = some (.int .i64 a2_3) := (blk_cell BK267.out 3).trans rfl
         have hfz35_0 := blk_frozen BK267.out 0
         have hfz35_1 := blk_frozen BK267.out 1
         have hfz35_2 := blk_frozen BK267.out 2
         have hfz35_3 := blk_frozen BK267.out 3
         have hcz36_0 : w19.cell? ⟨gb270, 0, none⟩ = some (.int .i64 0) := (blk_cell BK270.out 0).trans rfl
         have hcz36_1 : w19.cell? ⟨gb270, 1, none⟩ = some (.int .i64 0) := (blk_cell BK270.out 1).trans rfl
         have hcz36_2 : w19.cell? ⟨gb270, 2, none⟩ = some (.int .i64 0) := (blk_cell BK270.out 2).trans rfl
         have hcz36_3 : w19.cell? ⟨gb270, 3, none⟩ = some (.int .i64 0) := (blk_cell BK270.out 3).trans rfl
         have hfz36_0 := blk_frozen BK270.out 0
         have hfz36_1 := blk_frozen BK270.out 1
         have hfz36_2 := blk_frozen BK270.out 2
         have hfz36_3 := blk_frozen BK270.out 3
         go_wp2
         go_meet
         case rel => exact ⟨_, (a2_0), (ji33), (a2_2), (a2_3), H', ⟨by have := HJ7.out; first | omega | exact Nat.le_refl _⟩, ⟨by (with_reducible repeat (first | refine blk_drewN ?_ _ | refine blk_drew ?_ | refine blk_alloc ?_ _)); refine blk_far ?_ NB267_270.out _; (with_reducible repeat (first | refine blk_drewN ?_ _ | refine blk_drew ?_ | refine blk_alloc ?_ _)); refine blk_far ?_ NB267_270.out _; (with_reducible repeat (first | refine blk_drewN ?_ _ | refine blk_drew ?_ | refine blk_alloc ?_ _)); refine blk_far ?_ NB267_270.out _; (with_reducible repeat (first | refine blk_drewN ?_ _ | refine blk_drew ?_ | refine blk_alloc ?_ _)); refine blk_far ?_ NB267_270.out _; (with_reducible repeat (first | refine blk_drewN ?_ _ | refine blk_drew ?_ | refine blk_alloc ?_ _)); refine blk_far ?_ NB267_270.out _; (with_reducible repeat (first | refine blk_drewN ?_ _ | refine blk_drew ?_ | refine blk_alloc ?_ _)); exact BK267.out⟩, ⟨by (with_reducible repeat (first | refine blk_drewN ?_ _ | refine blk_drew ?_ | refine blk_alloc ?_ _)); refine blk_put (cs := #[.int .i64 a2_0, .int .i64 a2_1, .int .i64 a2_2, .int .i64 a2_3]) ?_ 1 _ rfl; (with_reducible repeat (first | refine blk_drewN ?_ _ | refine blk_drew ?_ | refine blk_alloc ?_ _)); refine blk_put (cs := #[.int .i64 a2_0, .int .i64 a2_1, .int .i64 a2_2, .int .i64 0]) ?_ 3 _ rfl; (with_reducible repeat (first | refine blk_drewN ?_ _ | refine blk_drew ?_ | refine blk_alloc ?_ _)); refine blk_put (cs := #[.int .i64 a2_0, .int .i64 a2_1, .int .i64 0, .int .i64 0]) ?_ 2 _ rfl; (with_reducible repeat (first | refine blk_drewN ?_ _ | refine blk_drew ?_ | refine blk_alloc ?_ _)); refine blk_put (cs := #[.int .i64 a2_0, .int .i64 0, .int .i64 0, .int .i64 0]) ?_ 1 _ rfl; (with_reducible repeat (first | refine blk_drewN ?_ _ | refine blk_drew ?_ | refine blk_alloc ?_ _)); refine blk_put (cs := #[.int .i64 0, .int .i64 0, .int .i64 0, .int .i64 0]) ?_ 0 _ rfl; (with_reducible repeat (first | refine blk_drewN ?_ _ | refine blk_drew ?_ | refine blk_alloc ?_ _)); exact BK270.out⟩, ⟨by repeat (first | (with_reducible first | exact HB.out | apply below_alloc | apply pw_below_drewN | apply below_drew1 | refine below_set ?_ GE267.out | refine below_set ?_ GE270.out) | exact HB.out)⟩⟩
        ·rw [if_neg c32] at H
         have c32b0 : (((2 + (Int.tmod a3 4)) % 256) == 4) = false := beq_eq_false_iff_ne.mpr c32
         have c32b1 : (((2 + (Int.tmod a3 4)) % 256) != 4) = true := bne_iff_ne.mpr c32
         obtain ⟨ji37, hji37⟩ : ∃ j_ : Int, (mn 1000 (wrap64 (a2_0 + (wrap64 (a4))))) = j_ := ⟨_, rfl⟩
         replace H : (letterbaglaw06_EditDearer.j1 kj7 a0 a1 a2_0 a2_1 a2_2 a2_3 ji37 a2_1 a2_2 a2_3) = some r := by first | (rw [hji37] at H; exact H) | (simp only [hji37] at H ⊢; exact H)
         have hji37_ : (if (wrap64 (a2_0 + (wrap64 (a4)))) < 1000 then (wrap64 (a2_0 + (wrap64 (a4)))) else 1000) = ji37 := hji37
         have H' := Aside0.mk H
         clear H
         have hnb38 := NB267_270.out
         have hnc38 := NB270_267.out
         have hcz39_0 : w19.cell? ⟨gb267, 0, none⟩ = some (.int .i64 a2_0) := (blk_cell BK267.out 0).trans rfl
         have hcz39_1 : w19.cell? ⟨gb267, 1, none⟩ = some (.int .i64 a2_1) := (blk_cell BK267.out 1).trans rfl
         have hcz39_2 : w19.cell? ⟨gb267, 2, none⟩ = some (.int .i64 a2_2) := (blk_cell BK267.out 2).trans rfl
         have hcz39_3 : w19.cell? ⟨gb267, 3, none⟩ = some (.int .i64 a2_3) := (blk_cell BK267.out 3).trans rfl
         have hfz39_0 := blk_frozen BK267.out 0
         have hfz39_1 := blk_frozen BK267.out 1
         have hfz39_2 := blk_frozen BK267.out 2
         have hfz39_3 := blk_frozen BK267.out 3
         have hcz40_0 : w19.cell? ⟨gb270, 0, none⟩ = some (.int .i64 0) := (blk_cell BK270.out 0).trans rfl
         have hcz40_1 : w19.cell? ⟨gb270, 1, none⟩ = some (.int .i64 0) := (blk_cell BK270.out 1).trans rfl
         have hcz40_2 : w19.cell? ⟨gb270, 2, none⟩ = some (.int .i64 0) := (blk_cell BK270.out 2).trans rfl
         have hcz40_3 : w19.cell? ⟨gb270, 3, none⟩ = some (.int .i64 0) := (blk_cell BK270.out 3).trans rfl
         have hfz40_0 := blk_frozen BK270.out 0
         have hfz40_1 := blk_frozen BK270.out 1
         have hfz40_2 := blk_frozen BK270.out 2
         have hfz40_3 := blk_frozen BK270.out 3
         go_wp2
         go_meet
         case rel => exact ⟨_, (ji37), (a2_1), (a2_2), (a2_3), H', ⟨by have := HJ7.out; first | omega | exact Nat.le_refl _⟩, ⟨by (with_reducible repeat (first | refine blk_drewN ?_ _ | refine blk_drew ?_ | refine blk_alloc ?_ _)); refine blk_far ?_ NB267_270.out _; (with_reducible repeat (first | refine blk_drewN ?_ _ | refine blk_drew ?_ | refine blk_alloc ?_ _)); refine blk_far ?_ NB267_270.out _; (with_reducible repeat (first | refine blk_drewN ?_ _ | refine blk_drew ?_ | refine blk_alloc ?_ _)); refine blk_far ?_ NB267_270.out _; (with_reducible repeat (first | refine blk_drewN ?_ _ | refine blk_drew ?_ | refine blk_alloc ?_ _)); refine blk_far ?_ NB267_270.out _; (with_reducible repeat (first | refine blk_drewN ?_ _ | refine blk_drew ?_ | refine blk_alloc ?_ _)); refine blk_far ?_ NB267_270.out _; (with_reducible repeat (first | refine blk_drewN ?_ _ | refine blk_drew ?_ | refine blk_alloc ?_ _)); exact BK267.out⟩, ⟨by (with_reducible repeat (first | refine blk_drewN ?_ _ | refine blk_drew ?_ | refine blk_alloc ?_ _)); refine blk_put (cs := #[.int .i64 a2_0, .int .i64 a2_1, .int .i64 a2_2, .int .i64 a2_3]) ?_ 0 _ rfl; (with_reducible repeat (first | refine blk_drewN ?_ _ | refine blk_drew ?_ | refine blk_alloc ?_ _)); refine blk_put (cs := #[.int .i64 a2_0, .int .i64 a2_1, .int .i64 a2_2, .int .i64 0]) ?_ 3 _ rfl; (with_reducible repeat (first | refine blk_drewN ?_ _ | refine blk_drew ?_ | refine blk_alloc ?_ _)); refine blk_put (cs := #[.int .i64 a2_0, .int .i64 a2_1, .int .i64 0, .int .i64 0]) ?_ 2 _ rfl; (with_reducible repeat (first | refine blk_drewN ?_ _ | refine blk_drew ?_ | refine blk_alloc ?_ _)); refine blk_put (cs := #[.int .i64 a2_0, .int .i64 0, .int .i64 0, .int .i64 0]) ?_ 1 _ rfl; (with_reducible repeat (first | refine blk_drewN ?_ _ | refine blk_drew ?_ | refine blk_alloc ?_ _)); refine blk_put (cs := #[.int .i64 0, .int .i64 0, .int .i64 0, .int .i64 0]) ?_ 0 _ rfl; (with_reducible repeat (first | refine blk_drewN ?_ _ | refine blk_drew ?_ | refine blk_alloc ?_ _)); exact BK270.out⟩, ⟨by repeat (first | (with_reducible first | exact HB.out | apply below_alloc | apply pw_below_drewN | apply below_drew1 | refine below_set ?_ GE267.out | refine below_set ?_ GE270.out) | exact HB.out)⟩⟩
     case rest =>
      clear HC17
      try clear c1
      try clear c2
      try clear p2
      try clear c3
      try clear p6
      try clear c7
      try clear c8
      try clear c9
      try clear c11
      try clear c11b0
      try clear c11b1
      try clear c12
      try clear c12b0
      try clear c12b1
      try clear c16
      try clear c20
      try clear c22
      try clear c22b0
      try clear c22b1
      try clear c24
      try clear c27
      try clear c27b0
      try clear c27b1
      try clear c29
      try clear c32
      try clear c32b0
      try clear c32b1
      try clear c34
      try clear c38
      try clear hcz14_0
      try clear hcz14_1
      try clear hcz14_2
      try clear hcz14_3
      try clear hcz18_0
      try clear hcz18_1
      try clear hcz18_2
      try clear hcz18_3
      try clear hcz21_0
      try clear hcz21_1
      try clear hcz21_2
      try clear hcz21_3
      try clear hcz25_0
      try clear hcz25_1
      try clear hcz25_2
      try clear hcz25_3
      try clear hcz26_0
      try clear hcz26_1
      try clear hcz26_2
      try clear hcz26_3
      try clear hcz30_0
      try clear hcz30_1
      try clear hcz30_2
      try clear hcz30_3
      try clear hcz31_0
      try clear hcz31_1
      try clear hcz31_2
      try clear hcz31_3
      try clear hcz35_0
      try clear hcz35_1
      try clear hcz35_2
      try clear hcz35_3
      try clear hcz36_0
      try clear hcz36_1
      try clear hcz36_2
      try clear hcz36_3
      try clear hcz39_0
      try clear hcz39_1
      try clear hcz39_2
      try clear hcz39_3
      try clear hcz40_0
      try clear hcz40_1
      try clear hcz40_2
      try clear hcz40_3
      try clear hfz14_0
      try clear hfz14_1
      try clear hfz14_2
      try clear hfz14_3
      try clear hfz18_0
      try clear hfz18_1
      try clear hfz18_2
      try clear hfz18_3
      try clear hfz21_0
      try clear hfz21_1
      try clear hfz21_2
      try clear hfz21_3
      try clear hfz25_0
      try clear hfz25_1
      try clear hfz25_2
      try clear hfz25_3
      try clear hfz26_0
      try clear hfz26_1
      try clear hfz26_2
      try clear hfz26_3
      try clear hfz30_0
      try clear hfz30_1
      try clear hfz30_2
      try clear hfz30_3
      try clear hfz31_0
      try clear hfz31_1
      try clear hfz31_2
      try clear hfz31_3
      try clear hfz35_0
      try clear hfz35_1
      try clear hfz35_2
      try clear hfz35_3
      try clear hfz36_0
      try clear hfz36_1
      try clear hfz36_2
      try clear hfz36_3
      try clear hfz39_0
      try clear hfz39_1
      try clear hfz39_2
      try clear hfz39_3
      try clear hfz40_0
      try clear hfz40_1
      try clear hfz40_2
      try clear hfz40_3
      try clear p2
      obtain ⟨kq, x271000_16, x271001_16, x271002_16, x271003_16, HA, HJ16, BK267, BK270, HB⟩ := hcut
      cases kq with
      | zero => exact absurd HA.out (by simp [letterbaglaw06_EditDearer.j1])
      | succ kj16 =>
       have H := HA.out
       clear HA
       simp only [letterbaglaw06_EditDearer.j1] at H
       replace H := Option.bind_eq_some_iff.mp H
       obtain ⟨⟨t271, t274, t275⟩, A410, H⟩ := H
       replace H : ((edit_Cost.f t271 x271000_16 x271001_16 x271002_16 x271003_16).bind fun bt276 => ((edit_Distance.f a0 a1 x271000_16 x271001_16 x271002_16 x271003_16).bind fun bt278 => ((edit_Within.f a0 a1 a2_0 a2_1 a2_2 a2_3 t274).bind fun bt280 => ((edit_Within.f a0 a1 a2_0 a2_1 a2_2 a2_3 (wrap64 (t274 - 1))).bind fun bt283 => (if bt278.1 ≥ t274 then (if bt278.1 ≤ bt276.1 then (if bt280.1 = t274 then (if bt280.2.1 = true then (some (!bt283.2.1)) else (some false)) else (some false)) else (some false)) else (some false)))))) = some r := H
       have A41 := Aside0.mk A410
       clear A410
       replace H := Option.bind_eq_some_iff.mp H
       obtain ⟨⟨t276, t277⟩, A420, H⟩ := H
       replace H : ((edit_Distance.f a0 a1 x271000_16 x271001_16 x271002_16 x271003_16).bind fun bt278 => ((edit_Within.f a0 a1 a2_0 a2_1 a2_2 a2_3 t274).bind fun bt280 => ((edit_Within.f a0 a1 a2_0 a2_1 a2_2 a2_3 (wrap64 (t274 - 1))).bind fun bt283 => (if bt278.1 ≥ t274 then (if bt278.1 ≤ t276 then (if bt280.1 = t274 then (if bt280.2.1 = true then (some (!bt283.2.1)) else (some false)) else (some false)) else (some false)) else (some false))))) = some r := H
       have A42 := Aside0.mk A420
       clear A420
       replace H := Option.bind_eq_some_iff.mp H
       obtain ⟨⟨t278, t279⟩, A430, H⟩ := H
       replace H : ((edit_Within.f a0 a1 a2_0 a2_1 a2_2 a2_3 t274).bind fun bt280 => ((edit_Within.f a0 a1 a2_0 a2_1 a2_2 a2_3 (wrap64 (t274 - 1))).bind fun bt283 => (if t278 ≥ t274 then (if t278 ≤ t276 then (if bt280.1 = t274 then (if bt280.2.1 = true then (some (!bt283.2.1)) else (some false)) else (some false)) else (some false)) else (some false)))) = some r := H
       have A43 := Aside0.mk A430
       clear A430
       replace H := Option.bind_eq_some_iff.mp H
       obtain ⟨⟨t280, t281, t282⟩, A440, H⟩ := H
       replace H : ((edit_Within.f a0 a1 a2_0 a2_1 a2_2 a2_3 (wrap64 (t274 - 1))).bind fun bt283 => (if t278 ≥ t274 then (if t278 ≤ t276 then (if t280 = t274 then (if t281 = true then (some (!bt283.2.1)) else (some false)) else (some false)) else (some false)) else (some false))) = some r := H
       have A44 := Aside0.mk A440
       clear A440
       replace H := Option.bind_eq_some_iff.mp H
       obtain ⟨⟨t283, t284, t285⟩, A450, H⟩ := H
       replace H : (if t278 ≥ t274 then (if t278 ≤ t276 then (if t280 = t274 then (if t281 = true then (some (!t284)) else (some false)) else (some false)) else (some false)) else (some false)) = some r := H
       have A45 := Aside0.mk A450
       clear A450
       by_cases c46 : t278 ≥ t274
       ·rw [if_pos c46] at H
        have c46b0 : decide (t274 ≤ t278) = true := decide_eq_true c46
        clear c46
        by_cases c47 : t278 ≤ t276
        ·rw [if_pos c47] at H
         have c47b0 : decide (t278 ≤ t276) = true := decide_eq_true c47
         clear c47
         by_cases c48 : t280 = t274
         ·rw [if_pos c48] at H
          have c48b0 : (t280 == t274) = true := beq_iff_eq.mpr c48
          have c48b1 : (t280 != t274) = false := bne_eq_false_iff_eq.mpr c48
          clear c48
          by_cases c49 : t281 = true
          ·subst c49
           have H1 : (some (!t284)) = some r := by rw [if_pos rfl] at H; exact H
           clear H
           have H := H1
           clear H1
           obtain rfl := Option.some.inj H
           have hnb50 := NB267_270.out
           have hnc50 := NB270_267.out
           have hcz51_0 : wc.cell? ⟨gb267, 0, none⟩ = some (.int .i64 a2_0) := (blk_cell BK267.out 0).trans rfl
           have hcz51_1 : wc.cell? ⟨gb267, 1, none⟩ = some (.int .i64 a2_1) := (blk_cell BK267.out 1).trans rfl
           have hcz51_2 : wc.cell? ⟨gb267, 2, none⟩ = some (.int .i64 a2_2) := (blk_cell BK267.out 2).trans rfl
           have hcz51_3 : wc.cell? ⟨gb267, 3, none⟩ = some (.int .i64 a2_3) := (blk_cell BK267.out 3).trans rfl
           have hfz51_0 := blk_frozen BK267.out 0
           have hfz51_1 := blk_frozen BK267.out 1
           have hfz51_2 := blk_frozen BK267.out 2
           have hfz51_3 := blk_frozen BK267.out 3
           go_wp2_with (first | ((with_reducible refine gate_callee (f := 14) rfl ?_); refine goesL_ (some 84) rfl rfl Try.func14 (by kernel_rfl) rfl #[.string a0, .string a1, .agg #[.int .i64 a2_0, .int .i64 a2_1, .int .i64 a2_2, .int .i64 a2_3]] rfl (by (try simp only [List.map_toArray, List.map_cons, List.map_nil]); first | done | rfl | (simp only [List.length_drop, List.length_take]; rfl)) ?_; (with_reducible refine (edit_Path.calls a0 a1 a2_0 a2_1 a2_2 a2_3 t271 t274 t275 _ A41.out).mono ?_); rintro e w52 ⟨v272, rfl, ho0, hb⟩; refine ⟨_, rfl, ?_⟩; have n0_ := Aside0.mk (Kd.R_lower ho0 (below_size (by repeat (first | (with_reducible first | exact HB.out | apply below_alloc | apply pw_below_drewN | apply below_drew1 | refine below_set ?_ GE267.out | refine below_set ?_ GE270.out) | exact HB.out)))); have n1_ := Aside0.mk (blk_below (g := gb267) (o := .cells #[.int .i64 a2_0, .int .i64 a2_1, .int .i64 a2_2, .int .i64 a2_3] 23 (0, 0)) (by (with_reducible repeat (first | refine blk_drewN ?_ _ | refine blk_drew ?_ | refine blk_alloc ?_ _)); exact BK267.out) hb); have n2_ := Aside0.mk (blk_below (g := gb270) (o := .cells #[.int .i64 x271000_16, .int .i64 x271001_16, .int .i64 x271002_16, .int .i64 x271003_16] 23 (0, 0)) (by (with_reducible repeat (first | refine blk_drewN ?_ _ | refine blk_drew ?_ | refine blk_alloc ?_ _)); exact BK270.out) hb); have n3_ := Aside0.mk (below_step (by repeat (first | (with_reducible first | exact HB.out | apply below_alloc | apply pw_below_drewN | apply below_drew1 | refine below_set ?_ GE267.out | refine below_set ?_ GE270.out) | exact HB.out)) hb); clear BK267; clear BK270; clear HB; have HO273 := n0_; have BK267 := n1_; have BK270 := n2_; have HB := n3_; clear n0_ n1_ n2_ n3_; (try clear hb); (try clear hb2); (try clear hk); (try clear hi); (try clear ho0); have hcz53_0 : w52.cell? ⟨gb270, 0, none⟩ = some (.int .i64 x271000_16) := (blk_cell BK270.out 0).trans rfl; have hcz53_1 : w52.cell? ⟨gb270, 1, none⟩ = some (.int .i64 x271001_16) := (blk_cell BK270.out 1).trans rfl; have hcz53_2 : w52.cell? ⟨gb270, 2, none⟩ = some (.int .i64 x271002_16) := (blk_cell BK270.out 2).trans rfl; have hcz53_3 : w52.cell? ⟨gb270, 3, none⟩ = some (.int .i64 x271003_16) := (blk_cell BK270.out 3).trans rfl; have hfz53_0 := blk_frozen BK270.out 0; have hfz53_1 := blk_frozen BK270.out 1; have hfz53_2 := blk_frozen BK270.out 2; have hfz53_3 := blk_frozen BK270.out 3; obtain ⟨Ao54, co54, eo54⟩ := Kd.R_slice HO273.out; subst eo54) | ((with_reducible refine gate_callee (f := 17) rfl ?_); refine goesL_ (some 91) rfl rfl Try.func17 (by kernel_rfl) rfl #[.slice Ao54 t271.length co54, .agg #[.int .i64 x271000_16, .int .i64 x271001_16, .int .i64 x271002_16, .int .i64 x271003_16]] rfl (by (try simp only [List.map_toArray, List.map_cons, List.map_nil]); first | done | rfl | (simp only [List.length_drop, List.length_take]; rfl)) ?_; (with_reducible refine (edit_Cost.calls _ _ t271 x271000_16 x271001_16 x271002_16 x271003_16 t276 t277 _ ?side1 ?side2 A42.out).mono ?_); (case side1 => repeat (first | exact (Kd.R_reads' HO273.out).2.2 | (with_reducible refine Kd.C_alloc ?_ _) | (with_reducible refine Kd.C_drewN ?_ _) | (with_reducible refine Kd.C_drew ?_))); (case side2 => exact (Kd.R_reads' HO273.out).2.1); rintro e w55 ⟨rfl, hb⟩; refine ⟨_, rfl, ?_⟩; have n0_ := Aside0.mk (Kd.R_below (by (with_reducible repeat (first | apply Kd.R_alloc | apply Kd.R_drewN | apply Kd.R_drew)); exact HO273.out) hb); have n1_ := Aside0.mk (blk_below (g := gb267) (o := .cells #[.int .i64 a2_0, .int .i64 a2_1, .int .i64 a2_2, .int .i64 a2_3] 23 (0, 0)) (by (with_reducible repeat (first | refine blk_drewN ?_ _ | refine blk_drew ?_ | refine blk_alloc ?_ _)); exact BK267.out) hb); have n2_ := Aside0.mk (blk_below (g := gb270) (o := .cells #[.int .i64 x271000_16, .int .i64 x271001_16, .int .i64 x271002_16, .int .i64 x271003_16] 23 (0, 0)) (by (with_reducible repeat (first | refine blk_drewN ?_ _ | refine blk_drew ?_ | refine blk_alloc ?_ _)); exact BK270.out) hb); have n3_ := Aside0.mk (below_step (by repeat (first | (with_reducible first | exact HB.out | apply below_alloc | apply pw_below_drewN | apply below_drew1 | refine below_set ?_ GE267.out | refine below_set ?_ GE270.out) | exact HB.out)) hb); clear HO273; clear BK267; clear BK270; clear HB; have HO273 := n0_; have BK267 := n1_; have BK270 := n2_; have HB := n3_; clear n0_ n1_ n2_ n3_; (try clear hb); (try clear hb2); (try clear hk); (try clear hi); have hcz56_0 : w55.cell? ⟨gb270, 0, none⟩ = some (.int .i64 x271000_16) := (blk_cell BK270.out 0).trans rfl; have hcz56_1 : w55.cell? ⟨gb270, 1, none⟩ = some (.int .i64 x271001_16) := (blk_cell BK270.out 1).trans rfl; have hcz56_2 : w55.cell? ⟨gb270, 2, none⟩ = some (.int .i64 x271002_16) := (blk_cell BK270.out 2).trans rfl; have hcz56_3 : w55.cell? ⟨gb270, 3, none⟩ = some (.int .i64 x271003_16) := (blk_cell BK270.out 3).trans rfl; have hfz56_0 := blk_frozen BK270.out 0; have hfz56_1 := blk_frozen BK270.out 1; have hfz56_2 := blk_frozen BK270.out 2; have hfz56_3 := blk_frozen BK270.out 3) | ((with_reducible refine gate_callee (f := 12) rfl ?_); refine goesL_ (some 98) rfl rfl Try.func12 (by kernel_rfl) rfl #[.string a0, .string a1, .agg #[.int .i64 x271000_16, .int .i64 x271001_16, .int .i64 x271002_16, .int .i64 x271003_16]] rfl (by (try simp only [List.map_toArray, List.map_cons, List.map_nil]); first | done | rfl | (simp only [List.length_drop, List.length_take]; rfl)) ?_; (with_reducible refine (edit_Distance.calls a0 a1 x271000_16 x271001_16 x271002_16 x271003_16 t278 t279 _ A43.out).mono ?_); rintro e w57 ⟨rfl, hb⟩; refine ⟨_, rfl, ?_⟩; have n0_ := Aside0.mk (Kd.R_below (by (with_reducible repeat (first | apply Kd.R_alloc | apply Kd.R_drewN | apply Kd.R_drew)); exact HO273.out) hb); have n1_ := Aside0.mk (blk_below (g := gb267) (o := .cells #[.int .i64 a2_0, .int .i64 a2_1, .int .i64 a2_2, .int .i64 a2_3] 23 (0, 0)) (by (with_reducible repeat (first | refine blk_drewN ?_ _ | refine blk_drew ?_ | refine blk_alloc ?_ _)); exact BK267.out) hb); have n2_ := Aside0.mk (blk_below (g := gb270) (o := .cells #[.int .i64 x271000_16, .int .i64 x271001_16, .int .i64 x271002_16, .int .i64 x271003_16] 23 (0, 0)) (by (with_reducible repeat (first | refine blk_drewN ?_ _ | refine blk_drew ?_ | refine blk_alloc ?_ _)); exact BK270.out) hb); have n3_ := Aside0.mk (below_step (by repeat (first | (with_reducible first | exact HB.out | apply below_alloc | apply pw_below_drewN | apply below_drew1 | refine below_set ?_ GE267.out | refine below_set ?_ GE270.out) | exact HB.out)) hb); clear HO273; clear BK267; clear BK270; clear HB; have HO273 := n0_; have BK267 := n1_; have BK270 := n2_; have HB := n3_; clear n0_ n1_ n2_ n3_; (try clear hb); (try clear hb2); (try clear hk); (try clear hi); have hcz58_0 : w57.cell? ⟨gb267, 0, none⟩ = some (.int .i64 a2_0) := (blk_cell BK267.out 0).trans rfl; have hcz58_1 : w57.cell? ⟨gb267, 1, none⟩ = some (.int .i64 a2_1) := (blk_cell BK267.out 1).trans rfl; have hcz58_2 : w57.cell? ⟨gb267, 2, none⟩ = some (.int .i64 a2_2) := (blk_cell BK267.out 2).trans rfl; have hcz58_3 : w57.cell? ⟨gb267, 3, none⟩ = some (.int .i64 a2_3) := (blk_cell BK267.out 3).trans rfl; have hfz58_0 := blk_frozen BK267.out 0; have hfz58_1 := blk_frozen BK267.out 1; have hfz58_2 := blk_frozen BK267.out 2; have hfz58_3 := blk_frozen BK267.out 3) | ((with_reducible refine gate_callee (f := 19) rfl ?_); refine goesL_ (some 106) rfl rfl Try.func19 (by kernel_rfl) rfl #[.string a0, .string a1, .agg #[.int .i64 a2_0, .int .i64 a2_1, .int .i64 a2_2, .int .i64 a2_3], .int .i64 t274] rfl (by (try simp only [List.map_toArray, List.map_cons, List.map_nil]); first | done | rfl | (simp only [List.length_drop, List.length_take]; rfl)) ?_; (with_reducible refine (edit_Within.calls a0 a1 a2_0 a2_1 a2_2 a2_3 t274 t280 true t282 _ A44.out).mono ?_); rintro e w59 ⟨rfl, hb⟩; refine ⟨_, rfl, ?_⟩; have n0_ := Aside0.mk (Kd.R_below (by (with_reducible repeat (first | apply Kd.R_alloc | apply Kd.R_drewN | apply Kd.R_drew)); exact HO273.out) hb); have n1_ := Aside0.mk (blk_below (g := gb267) (o := .cells #[.int .i64 a2_0, .int .i64 a2_1, .int .i64 a2_2, .int .i64 a2_3] 23 (0, 0)) (by (with_reducible repeat (first | refine blk_drewN ?_ _ | refine blk_drew ?_ | refine blk_alloc ?_ _)); exact BK267.out) hb); have n2_ := Aside0.mk (blk_below (g := gb270) (o := .cells #[.int .i64 x271000_16, .int .i64 x271001_16, .int .i64 x271002_16, .int .i64 x271003_16] 23 (0, 0)) (by (with_reducible repeat (first | refine blk_drewN ?_ _ | refine blk_drew ?_ | refine blk_alloc ?_ _)); exact BK270.out) hb); have n3_ := Aside0.mk (below_step (by repeat (first | (with_reducible first | exact HB.out | apply below_alloc | apply pw_below_drewN | apply below_drew1 | refine below_set ?_ GE267.out | refine below_set ?_ GE270.out) | exact HB.out)) hb); clear HO273; clear BK267; clear BK270; clear HB; have HO273 := n0_; have BK267 := n1_; have BK270 := n2_; have HB := n3_; clear n0_ n1_ n2_ n3_; (try clear hb); (try clear hb2); (try clear hk); (try clear hi); have hcz60_0 : w59.cell? ⟨gb267, 0, none⟩ = some (.int .i64 a2_0) := (blk_cell BK267.out 0).trans rfl; have hcz60_1 : w59.cell? ⟨gb267, 1, none⟩ = some (.int .i64 a2_1) := (blk_cell BK267.out 1).trans rfl; have hcz60_2 : w59.cell? ⟨gb267, 2, none⟩ = some (.int .i64 a2_2) := (blk_cell BK267.out 2).trans rfl; have hcz60_3 : w59.cell? ⟨gb267, 3, none⟩ = some (.int .i64 a2_3) := (blk_cell BK267.out 3).trans rfl; have hfz60_0 := blk_frozen BK267.out 0; have hfz60_1 := blk_frozen BK267.out 1; have hfz60_2 := blk_frozen BK267.out 2; have hfz60_3 := blk_frozen BK267.out 3) | ((with_reducible refine gate_callee (f := 19) rfl ?_); refine goesL_ (some 116) rfl rfl Try.func19 (by kernel_rfl) rfl #[.string a0, .string a1, .agg #[.int .i64 a2_0, .int .i64 a2_1, .int .i64 a2_2, .int .i64 a2_3], .int .i64 (wrap64 (t274 - 1))] rfl (by (try simp only [List.map_toArray, List.map_cons, List.map_nil]); first | done | rfl | (simp only [List.length_drop, List.length_take]; rfl)) ?_; (with_reducible refine (edit_Within.calls a0 a1 a2_0 a2_1 a2_2 a2_3 (wrap64 (t274 - 1)) t283 t284 t285 _ A45.out).mono ?_); rintro e w61 ⟨rfl, hb⟩; refine ⟨_, rfl, ?_⟩; have n0_ := Aside0.mk (Kd.R_below (by (with_reducible repeat (first | apply Kd.R_alloc | apply Kd.R_drewN | apply Kd.R_drew)); exact HO273.out) hb); have n1_ := Aside0.mk (blk_below (g := gb267) (o := .cells #[.int .i64 a2_0, .int .i64 a2_1, .int .i64 a2_2, .int .i64 a2_3] 23 (0, 0)) (by (with_reducible repeat (first | refine blk_drewN ?_ _ | refine blk_drew ?_ | refine blk_alloc ?_ _)); exact BK267.out) hb); have n2_ := Aside0.mk (blk_below (g := gb270) (o := .cells #[.int .i64 x271000_16, .int .i64 x271001_16, .int .i64 x271002_16, .int .i64 x271003_16] 23 (0, 0)) (by (with_reducible repeat (first | refine blk_drewN ?_ _ | refine blk_drew ?_ | refine blk_alloc ?_ _)); exact BK270.out) hb); have n3_ := Aside0.mk (below_step (by repeat (first | (with_reducible first | exact HB.out | apply below_alloc | apply pw_below_drewN | apply below_drew1 | refine below_set ?_ GE267.out | refine below_set ?_ GE270.out) | exact HB.out)) hb); clear HO273; clear BK267; clear BK270; clear HB; have HO273 := n0_; have BK267 := n1_; have BK270 := n2_; have HB := n3_; clear n0_ n1_ n2_ n3_; (try clear hb); (try clear hb2); (try clear hk); (try clear hi)))
           go_ret
           exact ⟨by first | rfl | (simp [errW_none, errW_some] <;> rfl) | (simp [*, errW_none, errW_some] <;> rfl), by repeat (first | (with_reducible first | exact HB.out | apply below_alloc | apply pw_below_drewN | apply below_drew1 | refine below_set ?_ GE267.out | refine below_set ?_ GE270.out) | exact HB.out)⟩
          ·replace c49 := Bool.eq_false_iff.mpr c49
           subst c49
           have H1 : (some false) = some r := by rw [if_neg (show ¬ (false = true) by decide)] at H; exact H
           clear H
           have H := H1
           clear H1
           obtain rfl := Option.some.inj H
           have hnb62 := NB267_270.out
           have hnc62 := NB270_267.out
           have hcz63_0 : wc.cell? ⟨gb267, 0, none⟩ = some (.int .i64 a2_0) := (blk_cell BK267.out 0).trans rfl
           have hcz63_1 : wc.cell? ⟨gb267, 1, none⟩ = some (.int .i64 a2_1) := (blk_cell BK267.out 1).trans rfl
           have hcz63_2 : wc.cell? ⟨gb267, 2, none⟩ = some (.int .i64 a2_2) := (blk_cell BK267.out 2).trans rfl
           have hcz63_3 : wc.cell? ⟨gb267, 3, none⟩ = some (.int .i64 a2_3) := (blk_cell BK267.out 3).trans rfl
           have hfz63_0 := blk_frozen BK267.out 0
           have hfz63_1 := blk_frozen BK267.out 1
           have hfz63_2 := blk_frozen BK267.out 2
           have hfz63_3 := blk_frozen BK267.out 3
           go_wp2_with (first | ((with_reducible refine gate_callee (f := 14) rfl ?_); refine goesL_ (some 84) rfl rfl Try.func14 (by kernel_rfl) rfl #[.string a0, .string a1, .agg #[.int .i64 a2_0, .int .i64 a2_1, .int .i64 a2_2, .int .i64 a2_3]] rfl (by (try simp only [List.map_toArray, List.map_cons, List.map_nil]); first | done | rfl | (simp only [List.length_drop, List.length_take]; rfl)) ?_; (with_reducible refine (edit_Path.calls a0 a1 a2_0 a2_1 a2_2 a2_3 t271 t274 t275 _ A41.out).mono ?_); rintro e w64 ⟨v272, rfl, ho0, hb⟩; refine ⟨_, rfl, ?_⟩; have n0_ := Aside0.mk (Kd.R_lower ho0 (below_size (by repeat (first | (with_reducible first | exact HB.out | apply below_alloc | apply pw_below_drewN | apply below_drew1 | refine below_set ?_ GE267.out | refine below_set ?_ GE270.out) | exact HB.out)))); have n1_ := Aside0.mk (blk_below (g := gb267) (o := .cells #[.int .i64 a2_0, .int .i64 a2_1, .int .i64 a2_2, .int .i64 a2_3] 23 (0, 0)) (by (with_reducible repeat (first | refine blk_drewN ?_ _ | refine blk_drew ?_ | refine blk_alloc ?_ _)); exact BK267.out) hb); have n2_ := Aside0.mk (blk_below (g := gb270) (o := .cells #[.int .i64 x271000_16, .int .i64 x271001_16, .int .i64 x271002_16, .int .i64 x271003_16] 23 (0, 0)) (by (with_reducible repeat (first | refine blk_drewN ?_ _ | refine blk_drew ?_ | refine blk_alloc ?_ _)); exact BK270.out) hb); have n3_ := Aside0.mk (below_step (by repeat (first | (with_reducible first | exact HB.out | apply below_alloc | apply pw_below_drewN | apply below_drew1 | refine below_set ?_ GE267.out | refine below_set ?_ GE270.out) | exact HB.out)) hb); clear BK267; clear BK270; clear HB; have HO273 := n0_; have BK267 := n1_; have BK270 := n2_; have HB := n3_; clear n0_ n1_ n2_ n3_; (try clear hb); (try clear hb2); (try clear hk); (try clear hi); (try clear ho0); have hcz65_0 : w64.cell? ⟨gb270, 0, none⟩ = some (.int .i64 x271000_16) := (blk_cell BK270.out 0).trans rfl; have hcz65_1 : w64.cell? ⟨gb270, 1, none⟩ = some (.int .i64 x271001_16) := (blk_cell BK270.out 1).trans rfl; have hcz65_2 : w64.cell? ⟨gb270, 2, none⟩ = some (.int .i64 x271002_16) := (blk_cell BK270.out 2).trans rfl; have hcz65_3 : w64.cell? ⟨gb270, 3, none⟩ = some (.int .i64 x271003_16) := (blk_cell BK270.out 3).trans rfl; have hfz65_0 := blk_frozen BK270.out 0; have hfz65_1 := blk_frozen BK270.out 1; have hfz65_2 := blk_frozen BK270.out 2; have hfz65_3 := blk_frozen BK270.out 3; obtain ⟨Ao66, co66, eo66⟩ := Kd.R_slice HO273.out; subst eo66) | ((with_reducible refine gate_callee (f := 17) rfl ?_); refine goesL_ (some 91) rfl rfl Try.func17 (by kernel_rfl) rfl #[.slice Ao66 t271.length co66, .agg #[.int .i64 x271000_16, .int .i64 x271001_16, .int .i64 x271002_16, .int .i64 x271003_16]] rfl (by (try simp only [List.map_toArray, List.map_cons, List.map_nil]); first | done | rfl | (simp only [List.length_drop, List.length_take]; rfl)) ?_; (with_reducible refine (edit_Cost.calls _ _ t271 x271000_16 x271001_16 x271002_16 x271003_16 t276 t277 _ ?side1 ?side2 A42.out).mono ?_); (case side1 => repeat (first | exact (Kd.R_reads' HO273.out).2.2 | (with_reducible refine Kd.C_alloc ?_ _) | (with_reducible refine Kd.C_drewN ?_ _) | (with_reducible refine Kd.C_drew ?_))); (case side2 => exact (Kd.R_reads' HO273.out).2.1); rintro e w67 ⟨rfl, hb⟩; refine ⟨_, rfl, ?_⟩; have n0_ := Aside0.mk (Kd.R_below (by (with_reducible repeat (first | apply Kd.R_alloc | apply Kd.R_drewN | apply Kd.R_drew)); exact HO273.out) hb); have n1_ := Aside0.mk (blk_below (g := gb267) (o := .cells #[.int .i64 a2_0, .int .i64 a2_1, .int .i64 a2_2, .int .i64 a2_3] 23 (0, 0)) (by (with_reducible repeat (first | refine blk_drewN ?_ _ | refine blk_drew ?_ | refine blk_alloc ?_ _)); exact BK267.out) hb); have n2_ := Aside0.mk (blk_below (g := gb270) (o := .cells #[.int .i64 x271000_16, .int .i64 x271001_16, .int .i64 x271002_16, .int .i64 x271003_16] 23 (0, 0)) (by (with_reducible repeat (first | refine blk_drewN ?_ _ | refine blk_drew ?_ | refine blk_alloc ?_ _)); exact BK270.out) hb); have n3_ := Aside0.mk (below_step (by repeat (first | (with_reducible first | exact HB.out | apply below_alloc | apply pw_below_drewN | apply below_drew1 | refine below_set ?_ GE267.out | refine below_set ?_ GE270.out) | exact HB.out)) hb); clear HO273; clear BK267; clear BK270; clear HB; have HO273 := n0_; have BK267 := n1_; have BK270 := n2_; have HB := n3_; clear n0_ n1_ n2_ n3_; (try clear hb); (try clear hb2); (try clear hk); (try clear hi); have hcz68_0 : w67.cell? ⟨gb270, 0, none⟩ = some (.int .i64 x271000_16) := (blk_cell BK270.out 0).trans rfl; have hcz68_1 : w67.cell? ⟨gb270, 1, none⟩ = some (.int .i64 x271001_16) := (blk_cell BK270.out 1).trans rfl; have hcz68_2 : w67.cell? ⟨gb270, 2, none⟩ = some (.int .i64 x271002_16) := (blk_cell BK270.out 2).trans rfl; have hcz68_3 : w67.cell? ⟨gb270, 3, none⟩ = some (.int .i64 x271003_16) := (blk_cell BK270.out 3).trans rfl; have hfz68_0 := blk_frozen BK270.out 0; have hfz68_1 := blk_frozen BK270.out 1; have hfz68_2 := blk_frozen BK270.out 2; have hfz68_3 := blk_frozen BK270.out 3) | ((with_reducible refine gate_callee (f := 12) rfl ?_); refine goesL_ (some 98) rfl rfl Try.func12 (by kernel_rfl) rfl #[.string a0, .string a1, .agg #[.int .i64 x271000_16, .int .i64 x271001_16, .int .i64 x271002_16, .int .i64 x271003_16]] rfl (by (try simp only [List.map_toArray, List.map_cons, List.map_nil]); first | done | rfl | (simp only [List.length_drop, List.length_take]; rfl)) ?_; (with_reducible refine (edit_Distance.calls a0 a1 x271000_16 x271001_16 x271002_16 x271003_16 t278 t279 _ A43.out).mono ?_); rintro e w69 ⟨rfl, hb⟩; refine ⟨_, rfl, ?_⟩; have n0_ := Aside0.mk (Kd.R_below (by (with_reducible repeat (first | apply Kd.R_alloc | apply Kd.R_drewN | apply Kd.R_drew)); exact HO273.out) hb); have n1_ := Aside0.mk (blk_below (g := gb267) (o := .cells #[.int .i64 a2_0, .int .i64 a2_1, .int .i64 a2_2, .int .i64 a2_3] 23 (0, 0)) (by (with_reducible repeat (first | refine blk_drewN ?_ _ | refine blk_drew ?_ | refine blk_alloc ?_ _)); exact BK267.out) hb); have n2_ := Aside0.mk (blk_below (g := gb270) (o := .cells #[.int .i64 x271000_16, .int .i64 x271001_16, .int .i64 x271002_16, .int .i64 x271003_16] 23 (0, 0)) (by (with_reducible repeat (first | refine blk_drewN ?_ _ | refine blk_drew ?_ | refine blk_alloc ?_ _)); exact BK270.out) hb); have n3_ := Aside0.mk (below_step (by repeat (first | (with_reducible first | exact HB.out | apply below_alloc | apply pw_below_drewN | apply below_drew1 | refine below_set ?_ GE267.out | refine below_set ?_ GE270.out) | exact HB.out)) hb); clear HO273; clear BK267; clear BK270; clear HB; have HO273 := n0_; have BK267 := n1_; have BK270 := n2_; have HB := n3_; clear n0_ n1_ n2_ n3_; (try clear hb); (try clear hb2); (try clear hk); (try clear hi); have hcz70_0 : w69.cell? ⟨gb267, 0, none⟩ = some (.int .i64 a2_0) := (blk_cell BK267.out 0).trans rfl; have hcz70_1 : w69.cell? ⟨gb267, 1, none⟩ = some (.int .i64 a2_1) := (blk_cell BK267.out 1).trans rfl; have hcz70_2 : w69.cell? ⟨gb267, 2, none⟩ = some (.int .i64 a2_2) := (blk_cell BK267.out 2).trans rfl; have hcz70_3 : w69.cell? ⟨gb267, 3, none⟩ = some (.int .i64 a2_3) := (blk_cell BK267.out 3).trans rfl; have hfz70_0 := blk_frozen BK267.out 0; have hfz70_1 := blk_frozen BK267.out 1; have hfz70_2 := blk_frozen BK267.out 2; have hfz70_3 := blk_frozen BK267.out 3) | ((with_reducible refine gate_callee (f := 19) rfl ?_); refine goesL_ (some 106) rfl rfl Try.func19 (by kernel_rfl) rfl #[.string a0, .string a1, .agg #[.int .i64 a2_0, .int .i64 a2_1, .int .i64 a2_2, .int .i64 a2_3], .int .i64 t274] rfl (by (try simp only [List.map_toArray, List.map_cons, List.map_nil]); first | done | rfl | (simp only [List.length_drop, List.length_take]; rfl)) ?_; (with_reducible refine (edit_Within.calls a0 a1 a2_0 a2_1 a2_2 a2_3 t274 t280 false t282 _ A44.out).mono ?_); rintro e w71 ⟨rfl, hb⟩; refine ⟨_, rfl, ?_⟩; have n0_ := Aside0.mk (Kd.R_below (by (with_reducible repeat (first | apply Kd.R_alloc | apply Kd.R_drewN | apply Kd.R_drew)); exact HO273.out) hb); have n1_ := Aside0.mk (blk_below (g := gb267) (o := .cells #[.int .i64 a2_0, .int .i64 a2_1, .int .i64 a2_2, .int .i64 a2_3] 23 (0, 0)) (by (with_reducible repeat (first | refine blk_drewN ?_ _ | refine blk_drew ?_ | refine blk_alloc ?_ _)); exact BK267.out) hb); have n2_ := Aside0.mk (blk_below (g := gb270) (o := .cells #[.int .i64 x271000_16, .int .i64 x271001_16, .int .i64 x271002_16, .int .i64 x271003_16] 23 (0, 0)) (by (with_reducible repeat (first | refine blk_drewN ?_ _ | refine blk_drew ?_ | refine blk_alloc ?_ _)); exact BK270.out) hb); have n3_ := Aside0.mk (below_step (by repeat (first | (with_reducible first | exact HB.out | apply below_alloc | apply pw_below_drewN | apply below_drew1 | refine below_set ?_ GE267.out | refine below_set ?_ GE270.out) | exact HB.out)) hb); clear HO273; clear BK267; clear BK270; clear HB; have HO273 := n0_; have BK267 := n1_; have BK270 := n2_; have HB := n3_; clear n0_ n1_ n2_ n3_; (try clear hb); (try clear hb2); (try clear hk); (try clear hi); have hcz72_0 : w71.cell? ⟨gb267, 0, none⟩ = some (.int .i64 a2_0) := (blk_cell BK267.out 0).trans rfl; have hcz72_1 : w71.cell? ⟨gb267, 1, none⟩ = some (.int .i64 a2_1) := (blk_cell BK267.out 1).trans rfl; have hcz72_2 : w71.cell? ⟨gb267, 2, none⟩ = some (.int .i64 a2_2) := (blk_cell BK267.out 2).trans rfl; have hcz72_3 : w71.cell? ⟨gb267, 3, none⟩ = some (.int .i64 a2_3) := (blk_cell BK267.out 3).trans rfl; have hfz72_0 := blk_frozen BK267.out 0; have hfz72_1 := blk_frozen BK267.out 1; have hfz72_2 := blk_frozen BK267.out 2; have hfz72_3 := blk_frozen BK267.out 3) | ((with_reducible refine gate_callee (f := 19) rfl ?_); refine goesL_ (some 116) rfl rfl Try.func19 (by kernel_rfl) rfl #[.string a0, .string a1, .agg #[.int .i64 a2_0, .int .i64 a2_1, .int .i64 a2_2, .int .i64 a2_3], .int .i64 (wrap64 (t274 - 1))] rfl (by (try simp only [List.map_toArray, List.map_cons, List.map_nil]); first | done | rfl | (simp only [List.length_drop, List.length_take]; rfl)) ?_; (with_reducible refine (edit_Within.calls a0 a1 a2_0 a2_1 a2_2 a2_3 (wrap64 (t274 - 1)) t283 t284 t285 _ A45.out).mono ?_); rintro e w73 ⟨rfl, hb⟩; refine ⟨_, rfl, ?_⟩; have n0_ := Aside0.mk (Kd.R_below (by (with_reducible repeat (first | apply Kd.R_alloc | apply Kd.R_drewN | apply Kd.R_drew)); exact HO273.out) hb); have n1_ := Aside0.mk (blk_below (g := gb267) (o := .cells #[.int .i64 a2_0, .int .i64 a2_1, .int .i64 a2_2, .int .i64 a2_3] 23 (0, 0)) (by (with_reducible repeat (first | refine blk_drewN ?_ _ | refine blk_drew ?_ | refine blk_alloc ?_ _)); exact BK267.out) hb); have n2_ := Aside0.mk (blk_below (g := gb270) (o := .cells #[.int .i64 x271000_16, .int .i64 x271001_16, .int .i64 x271002_16, .int .i64 x271003_16] 23 (0, 0)) (by (with_reducible repeat (first | refine blk_drewN ?_ _ | refine blk_drew ?_ | refine blk_alloc ?_ _)); exact BK270.out) hb); have n3_ := Aside0.mk (below_step (by repeat (first | (with_reducible first | exact HB.out | apply below_alloc | apply pw_below_drewN | apply below_drew1 | refine below_set ?_ GE267.out | refine below_set ?_ GE270.out) | exact HB.out)) hb); clear HO273; clear BK267; clear BK270; clear HB; have HO273 := n0_; have BK267 := n1_; have BK270 := n2_; have HB := n3_; clear n0_ n1_ n2_ n3_; (try clear hb); (try clear hb2); (try clear hk); (try clear hi)))
           go_ret
           exact ⟨by first | rfl | (simp [errW_none, errW_some] <;> rfl) | (simp [*, errW_none, errW_some] <;> rfl), by repeat (first | (with_reducible first | exact HB.out | apply below_alloc | apply pw_below_drewN | apply below_drew1 | refine below_set ?_ GE267.out | refine below_set ?_ GE270.out) | exact HB.out)⟩
         ·rw [if_neg c48] at H
          have c48b0 : (t280 == t274) = false := beq_eq_false_iff_ne.mpr c48
          have c48b1 : (t280 != t274) = true := bne_iff_ne.mpr c48
          obtain rfl := Option.some.inj H
          have hnb74 := NB267_270.out
          have hnc74 := NB270_267.out
          have hcz75_0 : wc.cell? ⟨gb267, 0, none⟩ = some (.int .i64 a2_0) := (blk_cell BK267.out 0).trans rfl
          have hcz75_1 : wc.cell? ⟨gb267, 1, none⟩ = some (.int .i64 a2_1) := (blk_cell BK267.out 1).trans rfl
          have hcz75_2 : wc.cell? ⟨gb267, 2, none⟩ = some (.int .i64 a2_2) := (blk_cell BK267.out 2).trans rfl
          have hcz75_3 : wc.cell? ⟨gb267, 3, none⟩ = some (.int .i64 a2_3) := (blk_cell BK267.out 3).trans rfl
          have hfz75_0 := blk_frozen BK267.out 0
          have hfz75_1 := blk_frozen BK267.out 1
          have hfz75_2 := blk_frozen BK267.out 2
          have hfz75_3 := blk_frozen BK267.out 3
          go_wp2_with (first | ((with_reducible refine gate_callee (f := 14) rfl ?_); refine goesL_ (some 84) rfl rfl Try.func14 (by kernel_rfl) rfl #[.string a0, .string a1, .agg #[.int .i64 a2_0, .int .i64 a2_1, .int .i64 a2_2, .int .i64 a2_3]] rfl (by (try simp only [List.map_toArray, List.map_cons, List.map_nil]); first | done | rfl | (simp only [List.length_drop, List.length_take]; rfl)) ?_; (with_reducible refine (edit_Path.calls a0 a1 a2_0 a2_1 a2_2 a2_3 t271 t274 t275 _ A41.out).mono ?_); rintro e w76 ⟨v272, rfl, ho0, hb⟩; refine ⟨_, rfl, ?_⟩; have n0_ := Aside0.mk (Kd.R_lower ho0 (below_size (by repeat (first | (with_reducible first | exact HB.out | apply below_alloc | apply pw_below_drewN | apply below_drew1 | refine below_set ?_ GE267.out | refine below_set ?_ GE270.out) | exact HB.out)))); have n1_ := Aside0.mk (blk_below (g := gb267) (o := .cells #[.int .i64 a2_0, .int .i64 a2_1, .int .i64 a2_2, .int .i64 a2_3] 23 (0, 0)) (by (with_reducible repeat (first | refine blk_drewN ?_ _ | refine blk_drew ?_ | refine blk_alloc ?_ _)); exact BK267.out) hb); have n2_ := Aside0.mk (blk_below (g := gb270) (o := .cells #[.int .i64 x271000_16, .int .i64 x271001_16, .int .i64 x271002_16, .int .i64 x271003_16] 23 (0, 0)) (by (with_reducible repeat (first | refine blk_drewN ?_ _ | refine blk_drew ?_ | refine blk_alloc ?_ _)); exact BK270.out) hb); have n3_ := Aside0.mk (below_step (by repeat (first | (with_reducible first | exact HB.out | apply below_alloc | apply pw_below_drewN | apply below_drew1 | refine below_set ?_ GE267.out | refine below_set ?_ GE270.out) | exact HB.out)) hb); clear BK267; clear BK270; clear HB; have HO273 := n0_; have BK267 := n1_; have BK270 := n2_; have HB := n3_; clear n0_ n1_ n2_ n3_; (try clear hb); (try clear hb2); (try clear hk); (try clear hi); (try clear ho0); have hcz77_0 : w76.cell? ⟨gb270, 0, none⟩ = some (.int .i64 x271000_16) := (blk_cell BK270.out 0).trans rfl; have hcz77_1 : w76.cell? ⟨gb270, 1, none⟩ = some (.int .i64 x271001_16) := (blk_cell BK270.out 1).trans rfl; have hcz77_2 : w76.cell? ⟨gb270, 2, none⟩ = some (.int .i64 x271002_16) := (blk_cell BK270.out 2).trans rfl; have hcz77_3 : w76.cell? ⟨gb270, 3, none⟩ = some (.int .i64 x271003_16) := (blk_cell BK270.out 3).trans rfl; have hfz77_0 := blk_frozen BK270.out 0; have hfz77_1 := blk_frozen BK270.out 1; have hfz77_2 := blk_frozen BK270.out 2; have hfz77_3 := blk_frozen BK270.out 3; obtain ⟨Ao78, co78, eo78⟩ := Kd.R_slice HO273.out; subst eo78) | ((with_reducible refine gate_callee (f := 17) rfl ?_); refine goesL_ (some 91) rfl rfl Try.func17 (by kernel_rfl) rfl #[.slice Ao78 t271.length co78, .agg #[.int .i64 x271000_16, .int .i64 x271001_16, .int .i64 x271002_16, .int .i64 x271003_16]] rfl (by (try simp only [List.map_toArray, List.map_cons, List.map_nil]); first | done | rfl | (simp only [List.length_drop, List.length_take]; rfl)) ?_; (with_reducible refine (edit_Cost.calls _ _ t271 x271000_16 x271001_16 x271002_16 x271003_16 t276 t277 _ ?side1 ?side2 A42.out).mono ?_); (case side1 => repeat (first | exact (Kd.R_reads' HO273.out).2.2 | (with_reducible refine Kd.C_alloc ?_ _) | (with_reducible refine Kd.C_drewN ?_ _) | (with_reducible refine Kd.C_drew ?_))); (case side2 => exact (Kd.R_reads' HO273.out).2.1); rintro e w79 ⟨rfl, hb⟩; refine ⟨_, rfl, ?_⟩; have n0_ := Aside0.mk (Kd.R_below (by (with_reducible repeat (first | apply Kd.R_alloc | apply Kd.R_drewN | apply Kd.R_drew)); exact HO273.out) hb); have n1_ := Aside0.mk (blk_below (g := gb267) (o := .cells #[.int .i64 a2_0, .int .i64 a2_1, .int .i64 a2_2, .int .i64 a2_3] 23 (0, 0)) (by (with_reducible repeat (first | refine blk_drewN ?_ _ | refine blk_drew ?_ | refine blk_alloc ?_ _)); exact BK267.out) hb); have n2_ := Aside0.mk (blk_below (g := gb270) (o := .cells #[.int .i64 x271000_16, .int .i64 x271001_16, .int .i64 x271002_16, .int .i64 x271003_16] 23 (0, 0)) (by (with_reducible repeat (first | refine blk_drewN ?_ _ | refine blk_drew ?_ | refine blk_alloc ?_ _)); exact BK270.out) hb); have n3_ := Aside0.mk (below_step (by repeat (first | (with_reducible first | exact HB.out | apply below_alloc | apply pw_below_drewN | apply below_drew1 | refine below_set ?_ GE267.out | refine below_set ?_ GE270.out) | exact HB.out)) hb); clear HO273; clear BK267; clear BK270; clear HB; have HO273 := n0_; have BK267 := n1_; have BK270 := n2_; have HB := n3_; clear n0_ n1_ n2_ n3_; (try clear hb); (try clear hb2); (try clear hk); (try clear hi); have hcz80_0 : w79.cell? ⟨gb270, 0, none⟩ = some (.int .i64 x271000_16) := (blk_cell BK270.out 0).trans rfl; have hcz80_1 : w79.cell? ⟨gb270, 1, none⟩ = some (.int .i64 x271001_16) := (blk_cell BK270.out 1).trans rfl; have hcz80_2 : w79.cell? ⟨gb270, 2, none⟩ = some (.int .i64 x271002_16) := (blk_cell BK270.out 2).trans rfl; have hcz80_3 : w79.cell? ⟨gb270, 3, none⟩ = some (.int .i64 x271003_16) := (blk_cell BK270.out 3).trans rfl; have hfz80_0 := blk_frozen BK270.out 0; have hfz80_1 := blk_frozen BK270.out 1; have hfz80_2 := blk_frozen BK270.out 2; have hfz80_3 := blk_frozen BK270.out 3) | ((with_reducible refine gate_callee (f := 12) rfl ?_); refine goesL_ (some 98) rfl rfl Try.func12 (by kernel_rfl) rfl #[.string a0, .string a1, .agg #[.int .i64 x271000_16, .int .i64 x271001_16, .int .i64 x271002_16, .int .i64 x271003_16]] rfl (by (try simp only [List.map_toArray, List.map_cons, List.map_nil]); first | done | rfl | (simp only [List.length_drop, List.length_take]; rfl)) ?_; (with_reducible refine (edit_Distance.calls a0 a1 x271000_16 x271001_16 x271002_16 x271003_16 t278 t279 _ A43.out).mono ?_); rintro e w81 ⟨rfl, hb⟩; refine ⟨_, rfl, ?_⟩; have n0_ := Aside0.mk (Kd.R_below (by (with_reducible repeat (first | apply Kd.R_alloc | apply Kd.R_drewN | apply Kd.R_drew)); exact HO273.out) hb); have n1_ := Aside0.mk (blk_below (g := gb267) (o := .cells #[.int .i64 a2_0, .int .i64 a2_1, .int .i64 a2_2, .int .i64 a2_3] 23 (0, 0)) (by (with_reducible repeat (first | refine blk_drewN ?_ _ | refine blk_drew ?_ | refine blk_alloc ?_ _)); exact BK267.out) hb); have n2_ := Aside0.mk (blk_below (g := gb270) (o := .cells #[.int .i64 x271000_16, .int .i64 x271001_16, .int .i64 x271002_16, .int .i64 x271003_16] 23 (0, 0)) (by (with_reducible repeat (first | refine blk_drewN ?_ _ | refine blk_drew ?_ | refine blk_alloc ?_ _)); exact BK270.out) hb); have n3_ := Aside0.mk (below_step (by repeat (first | (with_reducible first | exact HB.out | apply below_alloc | apply pw_below_drewN | apply below_drew1 | refine below_set ?_ GE267.out | refine below_set ?_ GE270.out) | exact HB.out)) hb); clear HO273; clear BK267; clear BK270; clear HB; have HO273 := n0_; have BK267 := n1_; have BK270 := n2_; have HB := n3_; clear n0_ n1_ n2_ n3_; (try clear hb); (try clear hb2); (try clear hk); (try clear hi); have hcz82_0 : w81.cell? ⟨gb267, 0, none⟩ = some (.int .i64 a2_0) := (blk_cell BK267.out 0).trans rfl; have hcz82_1 : w81.cell? ⟨gb267, 1, none⟩ = some (.int .i64 a2_1) := (blk_cell BK267.out 1).trans rfl; have hcz82_2 : w81.cell? ⟨gb267, 2, none⟩ = some (.int .i64 a2_2) := (blk_cell BK267.out 2).trans rfl; have hcz82_3 : w81.cell? ⟨gb267, 3, none⟩ = some (.int .i64 a2_3) := (blk_cell BK267.out 3).trans rfl; have hfz82_0 := blk_frozen BK267.out 0; have hfz82_1 := blk_frozen BK267.out 1; have hfz82_2 := blk_frozen BK267.out 2; have hfz82_3 := blk_frozen BK267.out 3) | ((with_reducible refine gate_callee (f := 19) rfl ?_); refine goesL_ (some 106) rfl rfl Try.func19 (by kernel_rfl) rfl #[.string a0, .string a1, .agg #[.int .i64 a2_0, .int .i64 a2_1, .int .i64 a2_2, .int .i64 a2_3], .int .i64 t274] rfl (by (try simp only [List.map_toArray, List.map_cons, List.map_nil]); first | done | rfl | (simp only [List.length_drop, List.length_take]; rfl)) ?_; (with_reducible refine (edit_Within.calls a0 a1 a2_0 a2_1 a2_2 a2_3 t274 t280 t281 t282 _ A44.out).mono ?_); rintro e w83 ⟨rfl, hb⟩; refine ⟨_, rfl, ?_⟩; have n0_ := Aside0.mk (Kd.R_below (by (with_reducible repeat (first | apply Kd.R_alloc | apply Kd.R_drewN | apply Kd.R_drew)); exact HO273.out) hb); have n1_ := Aside0.mk (blk_below (g := gb267) (o := .cells #[.int .i64 a2_0, .int .i64 a2_1, .int .i64 a2_2, .int .i64 a2_3] 23 (0, 0)) (by (with_reducible repeat (first | refine blk_drewN ?_ _ | refine blk_drew ?_ | refine blk_alloc ?_ _)); exact BK267.out) hb); have n2_ := Aside0.mk (blk_below (g := gb270) (o := .cells #[.int .i64 x271000_16, .int .i64 x271001_16, .int .i64 x271002_16, .int .i64 x271003_16] 23 (0, 0)) (by (with_reducible repeat (first | refine blk_drewN ?_ _ | refine blk_drew ?_ | refine blk_alloc ?_ _)); exact BK270.out) hb); have n3_ := Aside0.mk (below_step (by repeat (first | (with_reducible first | exact HB.out | apply below_alloc | apply pw_below_drewN | apply below_drew1 | refine below_set ?_ GE267.out | refine below_set ?_ GE270.out) | exact HB.out)) hb); clear HO273; clear BK267; clear BK270; clear HB; have HO273 := n0_; have BK267 := n1_; have BK270 := n2_; have HB := n3_; clear n0_ n1_ n2_ n3_; (try clear hb); (try clear hb2); (try clear hk); (try clear hi); have hcz84_0 : w83.cell? ⟨gb267, 0, none⟩ = some (.int .i64 a2_0) := (blk_cell BK267.out 0).trans rfl; have hcz84_1 : w83.cell? ⟨gb267, 1, none⟩ = some (.int .i64 a2_1) := (blk_cell BK267.out 1).trans rfl; have hcz84_2 : w83.cell? ⟨gb267, 2, none⟩ = some (.int .i64 a2_2) := (blk_cell BK267.out 2).trans rfl; have hcz84_3 : w83.cell? ⟨gb267, 3, none⟩ = some (.int .i64 a2_3) := (blk_cell BK267.out 3).trans rfl; have hfz84_0 := blk_frozen BK267.out 0; have hfz84_1 := blk_frozen BK267.out 1; have hfz84_2 := blk_frozen BK267.out 2; have hfz84_3 := blk_frozen BK267.out 3) | ((with_reducible refine gate_callee (f := 19) rfl ?_); refine goesL_ (some 116) rfl rfl Try.func19 (by kernel_rfl) rfl #[.string a0, .string a1, .agg #[.int .i64 a2_0, .int .i64 a2_1, .int .i64 a2_2, .int .i64 a2_3], .int .i64 (wrap64 (t274 - 1))] rfl (by (try simp only [List.map_toArray, List.map_cons, List.map_nil]); first | done | rfl | (simp only [List.length_drop, List.length_take]; rfl)) ?_; (with_reducible refine (edit_Within.calls a0 a1 a2_0 a2_1 a2_2 a2_3 (wrap64 (t274 - 1)) t283 t284 t285 _ A45.out).mono ?_); rintro e w85 ⟨rfl, hb⟩; refine ⟨_, rfl, ?_⟩; have n0_ := Aside0.mk (Kd.R_below (by (with_reducible repeat (first | apply Kd.R_alloc | apply Kd.R_drewN | apply Kd.R_drew)); exact HO273.out) hb); have n1_ := Aside0.mk (blk_below (g := gb267) (o := .cells #[.int .i64 a2_0, .int .i64 a2_1, .int .i64 a2_2, .int .i64 a2_3] 23 (0, 0)) (by (with_reducible repeat (first | refine blk_drewN ?_ _ | refine blk_drew ?_ | refine blk_alloc ?_ _)); exact BK267.out) hb); have n2_ := Aside0.mk (blk_below (g := gb270) (o := .cells #[.int .i64 x271000_16, .int .i64 x271001_16, .int .i64 x271002_16, .int .i64 x271003_16] 23 (0, 0)) (by (with_reducible repeat (first | refine blk_drewN ?_ _ | refine blk_drew ?_ | refine blk_alloc ?_ _)); exact BK270.out) hb); have n3_ := Aside0.mk (below_step (by repeat (first | (with_reducible first | exact HB.out | apply below_alloc | apply pw_below_drewN | apply below_drew1 | refine below_set ?_ GE267.out | refine below_set ?_ GE270.out) | exact HB.out)) hb); clear HO273; clear BK267; clear BK270; clear HB; have HO273 := n0_; have BK267 := n1_; have BK270 := n2_; have HB := n3_; clear n0_ n1_ n2_ n3_; (try clear hb); (try clear hb2); (try clear hk); (try clear hi)))
          go_ret
          exact ⟨by first | rfl | (simp [errW_none, errW_some] <;> rfl) | (simp [*, errW_none, errW_some] <;> rfl), by repeat (first | (with_reducible first | exact HB.out | apply below_alloc | apply pw_below_drewN | apply below_drew1 | refine below_set ?_ GE267.out | refine below_set ?_ GE270.out) | exact HB.out)⟩
        ·rw [if_neg c47] at H
         have c47b0 : decide (t278 ≤ t276) = false := decide_eq_false c47
         clear c47
         obtain rfl := Option.some.inj H
         have hnb86 := NB267_270.out
         have hnc86 := NB270_267.out
         have hcz87_0 : wc.cell? ⟨gb267, 0, none⟩ = some (.int .i64 a2_0) := (blk_cell BK267.out 0).trans rfl
         have hcz87_1 : wc.cell? ⟨gb267, 1, none⟩ = some (.int .i64 a2_1) := (blk_cell BK267.out 1).trans rfl
         have hcz87_2 : wc.cell? ⟨gb267, 2, none⟩ = some (.int .i64 a2_2) := (blk_cell BK267.out 2).trans rfl
         have hcz87_3 : wc.cell? ⟨gb267, 3, none⟩ = some (.int .i64 a2_3) := (blk_cell BK267.out 3).trans rfl
         have hfz87_0 := blk_frozen BK267.out 0
         have hfz87_1 := blk_frozen BK267.out 1
         have hfz87_2 := blk_frozen BK267.out 2
         have hfz87_3 := blk_frozen BK267.out 3
         go_wp2_with (first | ((with_reducible refine gate_callee (f := 14) rfl ?_); refine goesL_ (some 84) rfl rfl Try.func14 (by kernel_rfl) rfl #[.string a0, .string a1, .agg #[.int .i64 a2_0, .int .i64 a2_1, .int .i64 a2_2, .int .i64 a2_3]] rfl (by (try simp only [List.map_toArray, List.map_cons, List.map_nil]); first | done | rfl | (simp only [List.length_drop, List.length_take]; rfl)) ?_; (with_reducible refine (edit_Path.calls a0 a1 a2_0 a2_1 a2_2 a2_3 t271 t274 t275 _ A41.out).mono ?_); rintro e w88 ⟨v272, rfl, ho0, hb⟩; refine ⟨_, rfl, ?_⟩; have n0_ := Aside0.mk (Kd.R_lower ho0 (below_size (by repeat (first | (with_reducible first | exact HB.out | apply below_alloc | apply pw_below_drewN | apply below_drew1 | refine below_set ?_ GE267.out | refine below_set ?_ GE270.out) | exact HB.out)))); have n1_ := Aside0.mk (blk_below (g := gb267) (o := .cells #[.int .i64 a2_0, .int .i64 a2_1, .int .i64 a2_2, .int .i64 a2_3] 23 (0, 0)) (by (with_reducible repeat (first | refine blk_drewN ?_ _ | refine blk_drew ?_ | refine blk_alloc ?_ _)); exact BK267.out) hb); have n2_ := Aside0.mk (blk_below (g := gb270) (o := .cells #[.int .i64 x271000_16, .int .i64 x271001_16, .int .i64 x271002_16, .int .i64 x271003_16] 23 (0, 0)) (by (with_reducible repeat (first | refine blk_drewN ?_ _ | refine blk_drew ?_ | refine blk_alloc ?_ _)); exact BK270.out) hb); have n3_ := Aside0.mk (below_step (by repeat (first | (with_reducible first | exact HB.out | apply below_alloc | apply pw_below_drewN | apply below_drew1 | refine below_set ?_ GE267.out | refine below_set ?_ GE270.out) | exact HB.out)) hb); clear BK267; clear BK270; clear HB; have HO273 := n0_; have BK267 := n1_; have BK270 := n2_; have HB := n3_; clear n0_ n1_ n2_ n3_; (try clear hb); (try clear hb2); (try clear hk); (try clear hi); (try clear ho0); have hcz89_0 : w88.cell? ⟨gb270, 0, none⟩ = some (.int .i64 x271000_16) := (blk_cell BK270.out 0).trans rfl; have hcz89_1 : w88.cell? ⟨gb270, 1, none⟩ = some (.int .i64 x271001_16) := (blk_cell BK270.out 1).trans rfl; have hcz89_2 : w88.cell? ⟨gb270, 2, none⟩ = some (.int .i64 x271002_16) := (blk_cell BK270.out 2).trans rfl; have hcz89_3 : w88.cell? ⟨gb270, 3, none⟩ = some (.int .i64 x271003_16) := (blk_cell BK270.out 3).trans rfl; have hfz89_0 := blk_frozen BK270.out 0; have hfz89_1 := blk_frozen BK270.out 1; have hfz89_2 := blk_frozen BK270.out 2; have hfz89_3 := blk_frozen BK270.out 3; obtain ⟨Ao90, co90, eo90⟩ := Kd.R_slice HO273.out; subst eo90) | ((with_reducible refine gate_callee (f := 17) rfl ?_); refine goesL_ (some 91) rfl rfl Try.func17 (by kernel_rfl) rfl #[.slice Ao90 t271.length co90, .agg #[.int .i64 x271000_16, .int .i64 x271001_16, .int .i64 x271002_16, .int .i64 x271003_16]] rfl (by (try simp only [List.map_toArray, List.map_cons, List.map_nil]); first | done | rfl | (simp only [List.length_drop, List.length_take]; rfl)) ?_; (with_reducible refine (edit_Cost.calls _ _ t271 x271000_16 x271001_16 x271002_16 x271003_16 t276 t277 _ ?side1 ?side2 A42.out).mono ?_); (case side1 => repeat (first | exact (Kd.R_reads' HO273.out).2.2 | (with_reducible refine Kd.C_alloc ?_ _) | (with_reducible refine Kd.C_drewN ?_ _) | (with_reducible refine Kd.C_drew ?_))); (case side2 => exact (Kd.R_reads' HO273.out).2.1); rintro e w91 ⟨rfl, hb⟩; refine ⟨_, rfl, ?_⟩; have n0_ := Aside0.mk (Kd.R_below (by (with_reducible repeat (first | apply Kd.R_alloc | apply Kd.R_drewN | apply Kd.R_drew)); exact HO273.out) hb); have n1_ := Aside0.mk (blk_below (g := gb267) (o := .cells #[.int .i64 a2_0, .int .i64 a2_1, .int .i64 a2_2, .int .i64 a2_3] 23 (0, 0)) (by (with_reducible repeat (first | refine blk_drewN ?_ _ | refine blk_drew ?_ | refine blk_alloc ?_ _)); exact BK267.out) hb); have n2_ := Aside0.mk (blk_below (g := gb270) (o := .cells #[.int .i64 x271000_16, .int .i64 x271001_16, .int .i64 x271002_16, .int .i64 x271003_16] 23 (0, 0)) (by (with_reducible repeat (first | refine blk_drewN ?_ _ | refine blk_drew ?_ | refine blk_alloc ?_ _)); exact BK270.out) hb); have n3_ := Aside0.mk (below_step (by repeat (first | (with_reducible first | exact HB.out | apply below_alloc | apply pw_below_drewN | apply below_drew1 | refine below_set ?_ GE267.out | refine below_set ?_ GE270.out) | exact HB.out)) hb); clear HO273; clear BK267; clear BK270; clear HB; have HO273 := n0_; have BK267 := n1_; have BK270 := n2_; have HB := n3_; clear n0_ n1_ n2_ n3_; (try clear hb); (try clear hb2); (try clear hk); (try clear hi); have hcz92_0 : w91.cell? ⟨gb270, 0, none⟩ = some (.int .i64 x271000_16) := (blk_cell BK270.out 0).trans rfl; have hcz92_1 : w91.cell? ⟨gb270, 1, none⟩ = some (.int .i64 x271001_16) := (blk_cell BK270.out 1).trans rfl; have hcz92_2 : w91.cell? ⟨gb270, 2, none⟩ = some (.int .i64 x271002_16) := (blk_cell BK270.out 2).trans rfl; have hcz92_3 : w91.cell? ⟨gb270, 3, none⟩ = some (.int .i64 x271003_16) := (blk_cell BK270.out 3).trans rfl; have hfz92_0 := blk_frozen BK270.out 0; have hfz92_1 := blk_frozen BK270.out 1; have hfz92_2 := blk_frozen BK270.out 2; have hfz92_3 := blk_frozen BK270.out 3) | ((with_reducible refine gate_callee (f := 12) rfl ?_); refine goesL_ (some 98) rfl rfl Try.func12 (by kernel_rfl) rfl #[.string a0, .string a1, .agg #[.int .i64 x271000_16, .int .i64 x271001_16, .int .i64 x271002_16, .int .i64 x271003_16]] rfl (by (try simp only [List.map_toArray, List.map_cons, List.map_nil]); first | done | rfl | (simp only [List.length_drop, List.length_take]; rfl)) ?_; (with_reducible refine (edit_Distance.calls a0 a1 x271000_16 x271001_16 x271002_16 x271003_16 t278 t279 _ A43.out).mono ?_); rintro e w93 ⟨rfl, hb⟩; refine ⟨_, rfl, ?_⟩; have n0_ := Aside0.mk (Kd.R_below (by (with_reducible repeat (first | apply Kd.R_alloc | apply Kd.R_drewN | apply Kd.R_drew)); exact HO273.out) hb); have n1_ := Aside0.mk (blk_below (g := gb267) (o := .cells #[.int .i64 a2_0, .int .i64 a2_1, .int .i64 a2_2, .int .i64 a2_3] 23 (0, 0)) (by (with_reducible repeat (first | refine blk_drewN ?_ _ | refine blk_drew ?_ | refine blk_alloc ?_ _)); exact BK267.out) hb); have n2_ := Aside0.mk (blk_below (g := gb270) (o := .cells #[.int .i64 x271000_16, .int .i64 x271001_16, .int .i64 x271002_16, .int .i64 x271003_16] 23 (0, 0)) (by (with_reducible repeat (first | refine blk_drewN ?_ _ | refine blk_drew ?_ | refine blk_alloc ?_ _)); exact BK270.out) hb); have n3_ := Aside0.mk (below_step (by repeat (first | (with_reducible first | exact HB.out | apply below_alloc | apply pw_below_drewN | apply below_drew1 | refine below_set ?_ GE267.out | refine below_set ?_ GE270.out) | exact HB.out)) hb); clear HO273; clear BK267; clear BK270; clear HB; have HO273 := n0_; have BK267 := n1_; have BK270 := n2_; have HB := n3_; clear n0_ n1_ n2_ n3_; (try clear hb); (try clear hb2); (try clear hk); (try clear hi); have hcz94_0 : w93.cell? ⟨gb267, 0, none⟩ = some (.int .i64 a2_0) := (blk_cell BK267.out 0).trans rfl; have hcz94_1 : w93.cell? ⟨gb267, 1, none⟩ = some (.int .i64 a2_1) := (blk_cell BK267.out 1).trans rfl; have hcz94_2 : w93.cell? ⟨gb267, 2, none⟩ = some (.int .i64 a2_2) := (blk_cell BK267.out 2).trans rfl; have hcz94_3 : w93.cell? ⟨gb267, 3, none⟩ = some (.int .i64 a2_3) := (blk_cell BK267.out 3).trans rfl; have hfz94_0 := blk_frozen BK267.out 0; have hfz94_1 := blk_frozen BK267.out 1; have hfz94_2 := blk_frozen BK267.out 2; have hfz94_3 := blk_frozen BK267.out 3) | ((with_reducible refine gate_callee (f := 19) rfl ?_); refine goesL_ (some 106) rfl rfl Try.func19 (by kernel_rfl) rfl #[.string a0, .string a1, .agg #[.int .i64 a2_0, .int .i64 a2_1, .int .i64 a2_2, .int .i64 a2_3], .int .i64 t274] rfl (by (try simp only [List.map_toArray, List.map_cons, List.map_nil]); first | done | rfl | (simp only [List.length_drop, List.length_take]; rfl)) ?_; (with_reducible refine (edit_Within.calls a0 a1 a2_0 a2_1 a2_2 a2_3 t274 t280 t281 t282 _ A44.out).mono ?_); rintro e w95 ⟨rfl, hb⟩; refine ⟨_, rfl, ?_⟩; have n0_ := Aside0.mk (Kd.R_below (by (with_reducible repeat (first | apply Kd.R_alloc | apply Kd.R_drewN | apply Kd.R_drew)); exact HO273.out) hb); have n1_ := Aside0.mk (blk_below (g := gb267) (o := .cells #[.int .i64 a2_0, .int .i64 a2_1, .int .i64 a2_2, .int .i64 a2_3] 23 (0, 0)) (by (with_reducible repeat (first | refine blk_drewN ?_ _ | refine blk_drew ?_ | refine blk_alloc ?_ _)); exact BK267.out) hb); have n2_ := Aside0.mk (blk_below (g := gb270) (o := .cells #[.int .i64 x271000_16, .int .i64 x271001_16, .int .i64 x271002_16, .int .i64 x271003_16] 23 (0, 0)) (by (with_reducible repeat (first | refine blk_drewN ?_ _ | refine blk_drew ?_ | refine blk_alloc ?_ _)); exact BK270.out) hb); have n3_ := Aside0.mk (below_step (by repeat (first | (with_reducible first | exact HB.out | apply below_alloc | apply pw_below_drewN | apply below_drew1 | refine below_set ?_ GE267.out | refine below_set ?_ GE270.out) | exact HB.out)) hb); clear HO273; clear BK267; clear BK270; clear HB; have HO273 := n0_; have BK267 := n1_; have BK270 := n2_; have HB := n3_; clear n0_ n1_ n2_ n3_; (try clear hb); (try clear hb2); (try clear hk); (try clear hi); have hcz96_0 : w95.cell? ⟨gb267, 0, none⟩ = some (.int .i64 a2_0) := (blk_cell BK267.out 0).trans rfl; have hcz96_1 : w95.cell? ⟨gb267, 1, none⟩ = some (.int .i64 a2_1) := (blk_cell BK267.out 1).trans rfl; have hcz96_2 : w95.cell? ⟨gb267, 2, none⟩ = some (.int .i64 a2_2) := (blk_cell BK267.out 2).trans rfl; have hcz96_3 : w95.cell? ⟨gb267, 3, none⟩ = some (.int .i64 a2_3) := (blk_cell BK267.out 3).trans rfl; have hfz96_0 := blk_frozen BK267.out 0; have hfz96_1 := blk_frozen BK267.out 1; have hfz96_2 := blk_frozen BK267.out 2; have hfz96_3 := blk_frozen BK267.out 3) | ((with_reducible refine gate_callee (f := 19) rfl ?_); refine goesL_ (some 116) rfl rfl Try.func19 (by kernel_rfl) rfl #[.string a0, .string a1, .agg #[.int .i64 a2_0, .int .i64 a2_1, .int .i64 a2_2, .int .i64 a2_3], .int .i64 (wrap64 (t274 - 1))] rfl (by (try simp only [List.map_toArray, List.map_cons, List.map_nil]); first | done | rfl | (simp only [List.length_drop, List.length_take]; rfl)) ?_; (with_reducible refine (edit_Within.calls a0 a1 a2_0 a2_1 a2_2 a2_3 (wrap64 (t274 - 1)) t283 t284 t285 _ A45.out).mono ?_); rintro e w97 ⟨rfl, hb⟩; refine ⟨_, rfl, ?_⟩; have n0_ := Aside0.mk (Kd.R_below (by (with_reducible repeat (first | apply Kd.R_alloc | apply Kd.R_drewN | apply Kd.R_drew)); exact HO273.out) hb); have n1_ := Aside0.mk (blk_below (g := gb267) (o := .cells #[.int .i64 a2_0, .int .i64 a2_1, .int .i64 a2_2, .int .i64 a2_3] 23 (0, 0)) (by (with_reducible repeat (first | refine blk_drewN ?_ _ | refine blk_drew ?_ | refine blk_alloc ?_ _)); exact BK267.out) hb); have n2_ := Aside0.mk (blk_below (g := gb270) (o := .cells #[.int .i64 x271000_16, .int .i64 x271001_16, .int .i64 x271002_16, .int .i64 x271003_16] 23 (0, 0)) (by (with_reducible repeat (first | refine blk_drewN ?_ _ | refine blk_drew ?_ | refine blk_alloc ?_ _)); exact BK270.out) hb); have n3_ := Aside0.mk (below_step (by repeat (first | (with_reducible first | exact HB.out | apply below_alloc | apply pw_below_drewN | apply below_drew1 | refine below_set ?_ GE267.out | refine below_set ?_ GE270.out) | exact HB.out)) hb); clear HO273; clear BK267; clear BK270; clear HB; have HO273 := n0_; have BK267 := n1_; have BK270 := n2_; have HB := n3_; clear n0_ n1_ n2_ n3_; (try clear hb); (try clear hb2); (try clear hk); (try clear hi)))
         go_ret
         exact ⟨by first | rfl | (simp [errW_none, errW_some] <;> rfl) | (simp [*, errW_none, errW_some] <;> rfl), by repeat (first | (with_reducible first | exact HB.out | apply below_alloc | apply pw_below_drewN | apply below_drew1 | refine below_set ?_ GE267.out | refine below_set ?_ GE270.out) | exact HB.out)⟩
       ·rw [if_neg c46] at H
        have c46b0 : decide (t274 ≤ t278) = false := decide_eq_false c46
        clear c46
        obtain rfl := Option.some.inj H
        have hnb98 := NB267_270.out
        have hnc98 := NB270_267.out
        have hcz99_0 : wc.cell? ⟨gb267, 0, none⟩ = some (.int .i64 a2_0) := (blk_cell BK267.out 0).trans rfl
        have hcz99_1 : wc.cell? ⟨gb267, 1, none⟩ = some (.int .i64 a2_1) := (blk_cell BK267.out 1).trans rfl
        have hcz99_2 : wc.cell? ⟨gb267, 2, none⟩ = some (.int .i64 a2_2) := (blk_cell BK267.out 2).trans rfl
        have hcz99_3 : wc.cell? ⟨gb267, 3, none⟩ = some (.int .i64 a2_3) := (blk_cell BK267.out 3).trans rfl
        have hfz99_0 := blk_frozen BK267.out 0
        have hfz99_1 := blk_frozen BK267.out 1
        have hfz99_2 := blk_frozen BK267.out 2
        have hfz99_3 := blk_frozen BK267.out 3
        go_wp2_with (first | ((with_reducible refine gate_callee (f := 14) rfl ?_); refine goesL_ (some 84) rfl rfl Try.func14 (by kernel_rfl) rfl #[.string a0, .string a1, .agg #[.int .i64 a2_0, .int .i64 a2_1, .int .i64 a2_2, .int .i64 a2_3]] rfl (by (try simp only [List.map_toArray, List.map_cons, List.map_nil]); first | done | rfl | (simp only [List.length_drop, List.length_take]; rfl)) ?_; (with_reducible refine (edit_Path.calls a0 a1 a2_0 a2_1 a2_2 a2_3 t271 t274 t275 _ A41.out).mono ?_); rintro e w100 ⟨v272, rfl, ho0, hb⟩; refine ⟨_, rfl, ?_⟩; have n0_ := Aside0.mk (Kd.R_lower ho0 (below_size (by repeat (first | (with_reducible first | exact HB.out | apply below_alloc | apply pw_below_drewN | apply below_drew1 | refine below_set ?_ GE267.out | refine below_set ?_ GE270.out) | exact HB.out)))); have n1_ := Aside0.mk (blk_below (g := gb267) (o := .cells #[.int .i64 a2_0, .int .i64 a2_1, .int .i64 a2_2, .int .i64 a2_3] 23 (0, 0)) (by (with_reducible repeat (first | refine blk_drewN ?_ _ | refine blk_drew ?_ | refine blk_alloc ?_ _)); exact BK267.out) hb); have n2_ := Aside0.mk (blk_below (g := gb270) (o := .cells #[.int .i64 x271000_16, .int .i64 x271001_16, .int .i64 x271002_16, .int .i64 x271003_16] 23 (0, 0)) (by (with_reducible repeat (first | refine blk_drewN ?_ _ | refine blk_drew ?_ | refine blk_alloc ?_ _)); exact BK270.out) hb); have n3_ := Aside0.mk (below_step (by repeat (first | (with_reducible first | exact HB.out | apply below_alloc | apply pw_below_drewN | apply below_drew1 | refine below_set ?_ GE267.out | refine below_set ?_ GE270.out) | exact HB.out)) hb); clear BK267; clear BK270; clear HB; have HO273 := n0_; have BK267 := n1_; have BK270 := n2_; have HB := n3_; clear n0_ n1_ n2_ n3_; (try clear hb); (try clear hb2); (try clear hk); (try clear hi); (try clear ho0); have hcz101_0 : w100.cell? ⟨gb270, 0, none⟩ = some (.int .i64 x271000_16) := (blk_cell BK270.out 0).trans rfl; have hcz101_1 : w100.cell? ⟨gb270, 1, none⟩ = some (.int .i64 x271001_16) := (blk_cell BK270.out 1).trans rfl; have hcz101_2 : w100.cell? ⟨gb270, 2, none⟩ = some (.int .i64 x271002_16) := (blk_cell BK270.out 2).trans rfl; have hcz101_3 : w100.cell? ⟨gb270, 3, none⟩ = some (.int .i64 x271003_16) := (blk_cell BK270.out 3).trans rfl; have hfz101_0 := blk_frozen BK270.out 0; have hfz101_1 := blk_frozen BK270.out 1; have hfz101_2 := blk_frozen BK270.out 2; have hfz101_3 := blk_frozen BK270.out 3; obtain ⟨Ao102, co102, eo102⟩ := Kd.R_slice HO273.out; subst eo102) | ((with_reducible refine gate_callee (f := 17) rfl ?_); refine goesL_ (some 91) rfl rfl Try.func17 (by kernel_rfl) rfl #[.slice Ao102 t271.length co102, .agg #[.int .i64 x271000_16, .int .i64 x271001_16, .int .i64 x271002_16, .int .i64 x271003_16]] rfl (by (try simp only [List.map_toArray, List.map_cons, List.map_nil]); first | done | rfl | (simp only [List.length_drop, List.length_take]; rfl)) ?_; (with_reducible refine (edit_Cost.calls _ _ t271 x271000_16 x271001_16 x271002_16 x271003_16 t276 t277 _ ?side1 ?side2 A42.out).mono ?_); (case side1 => repeat (first | exact (Kd.R_reads' HO273.out).2.2 | (with_reducible refine Kd.C_alloc ?_ _) | (with_reducible refine Kd.C_drewN ?_ _) | (with_reducible refine Kd.C_drew ?_))); (case side2 => exact (Kd.R_reads' HO273.out).2.1); rintro e w103 ⟨rfl, hb⟩; refine ⟨_, rfl, ?_⟩; have n0_ := Aside0.mk (Kd.R_below (by (with_reducible repeat (first | apply Kd.R_alloc | apply Kd.R_drewN | apply Kd.R_drew)); exact HO273.out) hb); have n1_ := Aside0.mk (blk_below (g := gb267) (o := .cells #[.int .i64 a2_0, .int .i64 a2_1, .int .i64 a2_2, .int .i64 a2_3] 23 (0, 0)) (by (with_reducible repeat (first | refine blk_drewN ?_ _ | refine blk_drew ?_ | refine blk_alloc ?_ _)); exact BK267.out) hb); have n2_ := Aside0.mk (blk_below (g := gb270) (o := .cells #[.int .i64 x271000_16, .int .i64 x271001_16, .int .i64 x271002_16, .int .i64 x271003_16] 23 (0, 0)) (by (with_reducible repeat (first | refine blk_drewN ?_ _ | refine blk_drew ?_ | refine blk_alloc ?_ _)); exact BK270.out) hb); have n3_ := Aside0.mk (below_step (by repeat (first | (with_reducible first | exact HB.out | apply below_alloc | apply pw_below_drewN | apply below_drew1 | refine below_set ?_ GE267.out | refine below_set ?_ GE270.out) | exact HB.out)) hb); clear HO273; clear BK267; clear BK270; clear HB; have HO273 := n0_; have BK267 := n1_; have BK270 := n2_; have HB := n3_; clear n0_ n1_ n2_ n3_; (try clear hb); (try clear hb2); (try clear hk); (try clear hi); have hcz104_0 : w103.cell? ⟨gb270, 0, none⟩ = some (.int .i64 x271000_16) := (blk_cell BK270.out 0).trans rfl; have hcz104_1 : w103.cell? ⟨gb270, 1, none⟩ = some (.int .i64 x271001_16) := (blk_cell BK270.out 1).trans rfl; have hcz104_2 : w103.cell? ⟨gb270, 2, none⟩ = some (.int .i64 x271002_16) := (blk_cell BK270.out 2).trans rfl; have hcz104_3 : w103.cell? ⟨gb270, 3, none⟩ = some (.int .i64 x271003_16) := (blk_cell BK270.out 3).trans rfl; have hfz104_0 := blk_frozen BK270.out 0; have hfz104_1 := blk_frozen BK270.out 1; have hfz104_2 := blk_frozen BK270.out 2; have hfz104_3 := blk_frozen BK270.out 3) | ((with_reducible refine gate_callee (f := 12) rfl ?_); refine goesL_ (some 98) rfl rfl Try.func12 (by kernel_rfl) rfl #[.string a0, .string a1, .agg #[.int .i64 x271000_16, .int .i64 x271001_16, .int .i64 x271002_16, .int .i64 x271003_16]] rfl (by (try simp only [List.map_toArray, List.map_cons, List.map_nil]); first | done | rfl | (simp only [List.length_drop, List.length_take]; rfl)) ?_; (with_reducible refine (edit_Distance.calls a0 a1 x271000_16 x271001_16 x271002_16 x271003_16 t278 t279 _ A43.out).mono ?_); rintro e w105 ⟨rfl, hb⟩; refine ⟨_, rfl, ?_⟩; have n0_ := Aside0.mk (Kd.R_below (by (with_reducible repeat (first | apply Kd.R_alloc | apply Kd.R_drewN | apply Kd.R_drew)); exact HO273.out) hb); have n1_ := Aside0.mk (blk_below (g := gb267) (o := .cells #[.int .i64 a2_0, .int .i64 a2_1, .int .i64 a2_2, .int .i64 a2_3] 23 (0, 0)) (by (with_reducible repeat (first | refine blk_drewN ?_ _ | refine blk_drew ?_ | refine blk_alloc ?_ _)); exact BK267.out) hb); have n2_ := Aside0.mk (blk_below (g := gb270) (o := .cells #[.int .i64 x271000_16, .int .i64 x271001_16, .int .i64 x271002_16, .int .i64 x271003_16] 23 (0, 0)) (by (with_reducible repeat (first | refine blk_drewN ?_ _ | refine blk_drew ?_ | refine blk_alloc ?_ _)); exact BK270.out) hb); have n3_ := Aside0.mk (below_step (by repeat (first | (with_reducible first | exact HB.out | apply below_alloc | apply pw_below_drewN | apply below_drew1 | refine below_set ?_ GE267.out | refine below_set ?_ GE270.out) | exact HB.out)) hb); clear HO273; clear BK267; clear BK270; clear HB; have HO273 := n0_; have BK267 := n1_; have BK270 := n2_; have HB := n3_; clear n0_ n1_ n2_ n3_; (try clear hb); (try clear hb2); (try clear hk); (try clear hi); have hcz106_0 : w105.cell? ⟨gb267, 0, none⟩ = some (.int .i64 a2_0) := (blk_cell BK267.out 0).trans rfl; have hcz106_1 : w105.cell? ⟨gb267, 1, none⟩ = some (.int .i64 a2_1) := (blk_cell BK267.out 1).trans rfl; have hcz106_2 : w105.cell? ⟨gb267, 2, none⟩ = some (.int .i64 a2_2) := (blk_cell BK267.out 2).trans rfl; have hcz106_3 : w105.cell? ⟨gb267, 3, none⟩ = some (.int .i64 a2_3) := (blk_cell BK267.out 3).trans rfl; have hfz106_0 := blk_frozen BK267.out 0; have hfz106_1 := blk_frozen BK267.out 1; have hfz106_2 := blk_frozen BK267.out 2; have hfz106_3 := blk_frozen BK267.out 3) | ((with_reducible refine gate_callee (f := 19) rfl ?_); refine goesL_ (some 106) rfl rfl Try.func19 (by kernel_rfl) rfl #[.string a0, .string a1, .agg #[.int .i64 a2_0, .int .i64 a2_1, .int .i64 a2_2, .int .i64 a2_3], .int .i64 t274] rfl (by (try simp only [List.map_toArray, List.map_cons, List.map_nil]); first | done | rfl | (simp only [List.length_drop, List.length_take]; rfl)) ?_; (with_reducible refine (edit_Within.calls a0 a1 a2_0 a2_1 a2_2 a2_3 t274 t280 t281 t282 _ A44.out).mono ?_); rintro e w107 ⟨rfl, hb⟩; refine ⟨_, rfl, ?_⟩; have n0_ := Aside0.mk (Kd.R_below (by (with_reducible repeat (first | apply Kd.R_alloc | apply Kd.R_drewN | apply Kd.R_drew)); exact HO273.out) hb); have n1_ := Aside0.mk (blk_below (g := gb267) (o := .cells #[.int .i64 a2_0, .int .i64 a2_1, .int .i64 a2_2, .int .i64 a2_3] 23 (0, 0)) (by (with_reducible repeat (first | refine blk_drewN ?_ _ | refine blk_drew ?_ | refine blk_alloc ?_ _)); exact BK267.out) hb); have n2_ := Aside0.mk (blk_below (g := gb270) (o := .cells #[.int .i64 x271000_16, .int .i64 x271001_16, .int .i64 x271002_16, .int .i64 x271003_16] 23 (0, 0)) (by (with_reducible repeat (first | refine blk_drewN ?_ _ | refine blk_drew ?_ | refine blk_alloc ?_ _)); exact BK270.out) hb); have n3_ := Aside0.mk (below_step (by repeat (first | (with_reducible first | exact HB.out | apply below_alloc | apply pw_below_drewN | apply below_drew1 | refine below_set ?_ GE267.out | refine below_set ?_ GE270.out) | exact HB.out)) hb); clear HO273; clear BK267; clear BK270; clear HB; have HO273 := n0_; have BK267 := n1_; have BK270 := n2_; have HB := n3_; clear n0_ n1_ n2_ n3_; (try clear hb); (try clear hb2); (try clear hk); (try clear hi); have hcz108_0 : w107.cell? ⟨gb267, 0, none⟩ = some (.int .i64 a2_0) := (blk_cell BK267.out 0).trans rfl; have hcz108_1 : w107.cell? ⟨gb267, 1, none⟩ = some (.int .i64 a2_1) := (blk_cell BK267.out 1).trans rfl; have hcz108_2 : w107.cell? ⟨gb267, 2, none⟩ = some (.int .i64 a2_2) := (blk_cell BK267.out 2).trans rfl; have hcz108_3 : w107.cell? ⟨gb267, 3, none⟩ = some (.int .i64 a2_3) := (blk_cell BK267.out 3).trans rfl; have hfz108_0 := blk_frozen BK267.out 0; have hfz108_1 := blk_frozen BK267.out 1; have hfz108_2 := blk_frozen BK267.out 2; have hfz108_3 := blk_frozen BK267.out 3) | ((with_reducible refine gate_callee (f := 19) rfl ?_); refine goesL_ (some 116) rfl rfl Try.func19 (by kernel_rfl) rfl #[.string a0, .string a1, .agg #[.int .i64 a2_0, .int .i64 a2_1, .int .i64 a2_2, .int .i64 a2_3], .int .i64 (wrap64 (t274 - 1))] rfl (by (try simp only [List.map_toArray, List.map_cons, List.map_nil]); first | done | rfl | (simp only [List.length_drop, List.length_take]; rfl)) ?_; (with_reducible refine (edit_Within.calls a0 a1 a2_0 a2_1 a2_2 a2_3 (wrap64 (t274 - 1)) t283 t284 t285 _ A45.out).mono ?_); rintro e w109 ⟨rfl, hb⟩; refine ⟨_, rfl, ?_⟩; have n0_ := Aside0.mk (Kd.R_below (by (with_reducible repeat (first | apply Kd.R_alloc | apply Kd.R_drewN | apply Kd.R_drew)); exact HO273.out) hb); have n1_ := Aside0.mk (blk_below (g := gb267) (o := .cells #[.int .i64 a2_0, .int .i64 a2_1, .int .i64 a2_2, .int .i64 a2_3] 23 (0, 0)) (by (with_reducible repeat (first | refine blk_drewN ?_ _ | refine blk_drew ?_ | refine blk_alloc ?_ _)); exact BK267.out) hb); have n2_ := Aside0.mk (blk_below (g := gb270) (o := .cells #[.int .i64 x271000_16, .int .i64 x271001_16, .int .i64 x271002_16, .int .i64 x271003_16] 23 (0, 0)) (by (with_reducible repeat (first | refine blk_drewN ?_ _ | refine blk_drew ?_ | refine blk_alloc ?_ _)); exact BK270.out) hb); have n3_ := Aside0.mk (below_step (by repeat (first | (with_reducible first | exact HB.out | apply below_alloc | apply pw_below_drewN | apply below_drew1 | refine below_set ?_ GE267.out | refine below_set ?_ GE270.out) | exact HB.out)) hb); clear HO273; clear BK267; clear BK270; clear HB; have HO273 := n0_; have BK267 := n1_; have BK270 := n2_; have HB := n3_; clear n0_ n1_ n2_ n3_; (try clear hb); (try clear hb2); (try clear hk); (try clear hi)))
        go_ret
        exact ⟨by first | rfl | (simp [errW_none, errW_some] <;> rfl) | (simp [*, errW_none, errW_some] <;> rfl), by repeat (first | (with_reducible first | exact HB.out | apply below_alloc | apply pw_below_drewN | apply below_drew1 | refine below_set ?_ GE267.out | refine below_set ?_ GE270.out) | exact HB.out)⟩
 ·replace c7 := Bool.eq_false_iff.mpr c7
  subst c7
  have H1 : (some false) = some r := by rw [if_neg (show ¬ (false = true) by decide)] at H; exact H
  clear H
  have H := H1
  clear H1
  obtain rfl := Option.some.inj H
  go_enter Try.func8, Try.ntmps8
  go_wp2_with (first | ((with_reducible refine gate_dst (N := 7) rfl ?_); (try (refine gate_guard (by rfl) ?_; dsimp only)); refine box_event ?hg (N := 7) ?hd (cs := #[.int .i64 a2_0, .int .i64 a2_1, .int .i64 a2_2, .int .i64 a2_3]) (t := 23) ?hr ?_; (case hd => rfl); (case hg => rfl); (case hr => first | (go_simp; done) | (go_simp; rfl)); intro gb267 hg w110 hbox hb; have n0_ := Aside0.mk (below_step (by repeat (first | (with_reducible first | exact HB.out | apply below_alloc | apply pw_below_drewN | apply below_drew1) | exact HB.out)) hb); have n1_ := Aside0.mk (hbox); have n2_ := Aside0.mk ((by rw [hg]; exact (below_size (by repeat (first | (with_reducible first | exact HB.out | apply below_alloc | apply pw_below_drewN | apply below_drew1) | exact HB.out))) : w.heap.size ≤ gb267)); have n3_ := Aside0.mk ((by rw [hg]; exact (below_size (by repeat (first | (with_reducible first | exact HB.out | apply below_alloc | apply pw_below_drewN | apply below_drew1) | exact HB.out))) : w.heap.size ≤ gb267)); clear HB; have HB := n0_; have BK267 := n1_; have GW267 := n2_; have GE267 := n3_; clear n0_ n1_ n2_ n3_; clear hb hbox hg) | ((with_reducible refine gate_callee (f := 9) rfl ?_); refine goesL_ (some 26) rfl rfl Try.func9 (by kernel_rfl) rfl #[] rfl (by (try simp only [List.map_toArray, List.map_cons, List.map_nil]); first | done | rfl | (simp only [List.length_drop, List.length_take]; rfl)) ?_; (with_reducible refine (letterbaglaw06_awake.calls  false _ A6.out).mono ?_); rintro e w111 ⟨rfl, hb⟩; refine ⟨_, rfl, ?_⟩; have n0_ := Aside0.mk (blk_below (g := gb267) (o := .cells #[.int .i64 a2_0, .int .i64 a2_1, .int .i64 a2_2, .int .i64 a2_3] 23 (0, 0)) (by (with_reducible repeat (first | refine blk_drewN ?_ _ | refine blk_drew ?_ | refine blk_alloc ?_ _)); exact BK267.out) hb); have n1_ := Aside0.mk (below_step (by repeat (first | (with_reducible first | exact HB.out | apply below_alloc | apply pw_below_drewN | apply below_drew1 | refine below_set ?_ GE267.out) | exact HB.out)) hb); clear BK267; clear HB; have BK267 := n0_; have HB := n1_; clear n0_ n1_; (try clear hb); (try clear hb2); (try clear hk); (try clear hi)))
  go_ret
  exact ⟨by first | rfl | (simp [errW_none, errW_some] <;> rfl) | (simp [*, errW_none, errW_some] <;> rfl), by repeat (first | (with_reducible first | exact HB.out | apply below_alloc | apply pw_below_drewN | apply below_drew1 | refine below_set ?_ GE267.out) | exact HB.out)⟩
end Go.Proofs.Ytdefecnngccmoaa.QTells
namespace Go.Proofs.Ytdefecnngccmoaa.Ed
open Go.RowKit Go.Proofs.YtdefecnngccmoaaW.PrintWords QTells
theorem okc_iff {c : Int} : okc c = true ↔ 1 ≤ c ∧ c ≤ 1000 := by simp [okc]
theorem right_ok {c0 c1 c2 c3 : Int} (h : rightB c0 c1 c2 c3 = true) : Lb.Cst.Ok ⟨c0, c1, c2, c3⟩ := by
  simp only [rightB, Bool.and_eq_true, okc_iff] at h
  exact ⟨h.1.1, h.1.2, h.2.1.1, h.2.1.2, h.2.2.1.1, h.2.2.1.2, h.2.2.2.1, h.2.2.2.2⟩
theorem right_of {c0 c1 c2 c3 : Int} (h : Lb.Cst.Ok ⟨c0, c1, c2, c3⟩) : rightB c0 c1 c2 c3 = true := by
  simp only [rightB, Bool.and_eq_true, okc_iff]
  exact ⟨⟨h.i1, h.i2⟩, ⟨h.d1, h.d2⟩, ⟨h.c1, h.c2⟩, h.s1, h.s2⟩
theorem may_ok {a b : ByteArray} {c0 c1 c2 c3 : Int} (h : rightB c0 c1 c2 c3 = true) (ha : a.size ≤ 60) (hb : b.size ≤ 60) : mayE a b c0 c1 c2 c3 = 0 := by
  unfold mayE; rw [if_pos h, if_neg (by omega), if_neg (by omega)]
theorem dist_at {a b : ByteArray} {c0 c1 c2 c3 : Int} (h : rightB c0 c1 c2 c3 = true) (ha : a.size ≤ 60) (hb : b.size ≤ 60) :
    edit_Distance.f a b c0 c1 c2 c3 = some (Lb.dist ⟨c0, c1, c2, c3⟩ (bytesOf a) (bytesOf b), 0) := by
  unfold edit_Distance.f distF
  rw [if_pos (may_ok h ha hb)]; rfl
theorem path_at {a b : ByteArray} {c0 c1 c2 c3 : Int} (h : rightB c0 c1 c2 c3 = true) (ha : a.size ≤ 60) (hb : b.size ≤ 60) :
    edit_Path.f a b c0 c1 c2 c3 = some (pathL ⟨c0, c1, c2, c3⟩ (bytesOf a) (bytesOf b), Lb.dist ⟨c0, c1, c2, c3⟩ (bytesOf a) (bytesOf b), 0) := by
  unfold edit_Path.f pathF distF
  rw [if_pos (may_ok h ha hb), if_pos (may_ok h ha hb)]; rfl
theorem within_at {a b : ByteArray} {c0 c1 c2 c3 : Int} (h : rightB c0 c1 c2 c3 = true) (ha : a.size ≤ 60) (hb : b.size ≤ 60) (most : Int) :
    edit_Within.f a b c0 c1 c2 c3 most = some (if Lb.dist ⟨c0, c1, c2, c3⟩ (bytesOf a) (bytesOf b) > most then (0, false, 0) else (Lb.dist ⟨c0, c1, c2, c3⟩ (bytesOf a) (bytesOf b), true, 0)) := by
  unfold edit_Within.f
  rw [dist_at h ha hb]
  simp only [Option.bind_some, if_true]
  split <;> rfl
theorem cost_at {l : List S38} {s t : List Int} (hl : Sc l s t) (hn : l.length ≤ 120) {c0 c1 c2 c3 : Int} (h : rightB c0 c1 c2 c3 = true) :
    edit_Cost.f l c0 c1 c2 c3 = some (sumK ⟨c0, c1, c2, c3⟩ l, 0) := by
  unfold edit_Cost.f costF
  rw [if_pos h, if_neg (by omega)]
  unfold costP
  rw [if_pos]
  rw [List.all_eq_true]
  intro o ho
  have := hl.kinds o ho
  simp only [kindOk, Bool.and_eq_true, decide_eq_true_eq]
  omega
theorem path_len {a b : ByteArray} (ha : a.size ≤ 60) (hb : b.size ≤ 60) (c : Lb.Cst) : (pathL c (bytesOf a) (bytesOf b)).length ≤ 120 := by
  have h := (path_sc (c := c) (bytesOf a) (bytesOf b)).1.length
  rw [bytesOf_length, bytesOf_length] at h
  omega
theorem wrap_small {x : Int} (h0 : -1000000000 ≤ x) (h1 : x ≤ 1000000000) : wrap64 x = x := by
  exact IntWalk.wrap64_in x ⟨by omega, by omega⟩
theorem dearer_j1 {a b : ByteArray} {c d : Lb.Cst} (ha : a.size ≤ 60) (hb : b.size ≤ 60) (hc : c.Ok) (hd : d.Ok) (h1 : c.ins ≤ d.ins) (h2 : c.del ≤ d.del) (h3 : c.chg ≤ d.chg) (h4 : c.swp ≤ d.swp) (k : Nat) :
    letterbaglaw06_EditDearer.j1 (k + 1) a b c.ins c.del c.chg c.swp d.ins d.del d.chg d.swp = some true := by
  obtain ⟨c0, c1, c2, c3⟩ := c
  obtain ⟨d0, d1, d2, d3⟩ := d
  have rc : rightB c0 c1 c2 c3 = true := right_of hc
  have rd : rightB d0 d1 d2 d3 = true := right_of hd
  have p := path_sc (c := ⟨c0, c1, c2, c3⟩) (bytesOf a) (bytesOf b)
  have bd := Lb.dist_bd hc (bytesOf a) (bytesOf b)
  rw [bytesOf_length, bytesOf_length] at bd
  have m1 := dist_dearer h1 h2 h3 h4 (bytesOf a) (bytesOf b)
  have m2 := dist_least (c := ⟨d0, d1, d2, d3⟩) p.1
  simp only
  rw [letterbaglaw06_EditDearer.j1, path_at rc ha hb]
  simp only [Option.bind_some]
  rw [cost_at p.1 (path_len ha hb _) rd, dist_at rd ha hb]
  simp only [Option.bind_some]
  rw [within_at rc ha hb, within_at rc ha hb]
  simp only [Option.bind_some]
  rw [wrap_small (by omega) (by omega)]
  have e1 : ¬ (Lb.dist ⟨c0, c1, c2, c3⟩ (bytesOf a) (bytesOf b) > Lb.dist ⟨c0, c1, c2, c3⟩ (bytesOf a) (bytesOf b)) := by omega
  have e2 : Lb.dist ⟨c0, c1, c2, c3⟩ (bytesOf a) (bytesOf b) > Lb.dist ⟨c0, c1, c2, c3⟩ (bytesOf a) (bytesOf b) - 1 := by omega
  rw [if_neg e1, if_pos e2, if_pos m1, if_pos m2]
  simp
theorem mn_le {x : Int} (h : 1 ≤ x) (h' : x ≤ 1000) (y : Int) (h0 : 0 ≤ y) (h1 : y < 256) : x ≤ mn 1000 (wrap64 (x + wrap64 y)) ∧ 1 ≤ mn 1000 (wrap64 (x + wrap64 y)) ∧ mn 1000 (wrap64 (x + wrap64 y)) ≤ 1000 := by
  rw [wrap_small (x := y) (by omega) (by omega), wrap_small (by omega) (by omega)]
  unfold mn
  split <;> omega
theorem dearer_true (a b : ByteArray) (c0 c1 c2 c3 x y : Int) (hy : 0 ≤ y ∧ y < 256) : ∃ k, letterbaglaw06_EditDearer.f k a b c0 c1 c2 c3 x y = some true := by
  refine ⟨2, ?_⟩
  unfold letterbaglaw06_EditDearer.f
  have hj : letterbaglaw06_EditDearer.j0 2 a b x y true c0 c1 c2 c3 = some true := by rw [letterbaglaw06_EditDearer.j0, if_pos rfl]
  simp only [letterbaglaw06_awake.f, Option.bind_some, if_true]
  by_cases ha : (a.size : Int) > 60
  · rw [if_pos ha, hj]
  rw [if_neg ha]
  by_cases hb : (b.size : Int) > 60
  · rw [if_pos hb, hj]
  rw [if_neg hb]
  simp only [edit_Right.f, Option.bind_some]
  by_cases hr : rightB c0 c1 c2 c3 = true
  · have hc := right_ok hr
    have i1 := hc.i1; have i2 := hc.i2; have d1 := hc.d1; have d2 := hc.d2; have g1 := hc.c1; have g2 := hc.c2; have s1 := hc.s1; have s2 := hc.s2
    rw [hr, letterbaglaw06_EditDearer.j0, if_neg (by simp)]
    have n0 := mn_le i1 i2 y hy.1 hy.2
    have n1 := mn_le d1 d2 y hy.1 hy.2
    have n2 := mn_le g1 g2 y hy.1 hy.2
    have n3 := mn_le s1 s2 y hy.1 hy.2
    simp only at i1 i2 d1 d2 g1 g2 s1 s2 n0 n1 n2 n3
    have ha' : a.size ≤ 60 := by omega
    have hb' : b.size ≤ 60 := by omega
    split
    · exact dearer_j1 (c := ⟨c0, c1, c2, c3⟩) (d := ⟨c0, c1, _, c3⟩) ha' hb' hc ⟨i1, i2, d1, d2, n2.2.1, n2.2.2, s1, s2⟩ (Int.le_refl _) (Int.le_refl _) n2.1 (Int.le_refl _) 0
    split
    · exact dearer_j1 (c := ⟨c0, c1, c2, c3⟩) (d := ⟨c0, c1, c2, _⟩) ha' hb' hc ⟨i1, i2, d1, d2, g1, g2, n3.2.1, n3.2.2⟩ (Int.le_refl _) (Int.le_refl _) (Int.le_refl _) n3.1 0
    split
    · exact dearer_j1 (c := ⟨c0, c1, c2, c3⟩) (d := ⟨c0, _, c2, c3⟩) ha' hb' hc ⟨i1, i2, n1.2.1, n1.2.2, g1, g2, s1, s2⟩ (Int.le_refl _) n1.1 (Int.le_refl _) (Int.le_refl _) 0
    · exact dearer_j1 (c := ⟨c0, c1, c2, c3⟩) (d := ⟨_, c1, c2, c3⟩) ha' hb' hc ⟨n0.2.1, n0.2.2, d1, d2, g1, g2, s1, s2⟩ n0.1 (Int.le_refl _) (Int.le_refl _) (Int.le_refl _) 0
  · rw [Bool.eq_false_iff.mpr hr]
    exact hj
end Go.Proofs.Ytdefecnngccmoaa.Ed
namespace Go.Proofs.Ytdefecnngccmoaa.Ed
open Go.RowKit Go.Proofs.YtdefecnngccmoaaW.PrintWords QTells
theorem dearer_walk (a b : ByteArray) (c0 c1 c2 c3 x y : Int) (w : World) (hx : (Lit.int .u8 x).wf = true) (hy : (Lit.int .u8 y).wf = true) :
    Calls Try.prog 8 #[.string a, .string b, .agg #[.int .i64 c0, .int .i64 c1, .int .i64 c2, .int .i64 c3], .int .u8 x, .int .u8 y] w fun e w' => e = .returned (.bool true) ∧ Below w.heap.size w w' := by
  obtain ⟨k, h⟩ := dearer_true a b c0 c1 c2 c3 x y (by simp [Lit.wf, IntKind.min, IntKind.max, IntKind.bits, IntKind.signed] at hy; omega)
  exact letterbaglaw06_EditDearer.calls k a b c0 c1 c2 c3 x y true w h
end Go.Proofs.Ytdefecnngccmoaa.Ed
