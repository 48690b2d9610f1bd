/- A part of the texts of one claim: the walk of the code by hand-proved contracts, and the plain law. -/
import Derived.Test.YtdefecnngccmoaaKT6
set_option linter.unusedVariables false
set_option linter.unusedSimpArgs false
namespace Go.Proofs.Ytdefecnngccmoaa.QTells
open Go.RowKit Go.Proofs.YtdefecnngccmoaaW.PrintWords Go.Proofs.YtdefecnngccmoaaW.PrintLast Go.Proofs.YtdefecnngccmoaaW.PrintMore
attribute [local go_sem] jX jV zk zi jM jN jU jY
set_option linter.unusedVariables false
set_option linter.unusedSimpArgs false
open Go.Proofs.Ytdefecnngccmoaa.Ed
mutual
def qB.j0 : Nat → ByteArray → List (S38) → Bool → Option (ByteArray × Int)
 | 0,_,_,_ => none
 | k + 1,x0,x1,x17 => if x17 = true then (some ((⟨#[]⟩ : ByteArray),3)) else (qB.l0 k x0 ([] : List Int) x1 (x1.length : Int) 0)
def qB.l0 : Nat → ByteArray → List Int → List (S38) → Int → Int → Option (ByteArray × Int)
 | 0,_,_,_,_,_ => none
 | k + 1,x0,x6,x18,x19,x20 => if x20 < x19 then (if 0 ≤ x20 then (if x20 < (x18.length : Int) then (if ((qJ x18 x20).f0) = 5 then (if x6.length < 140737488355328 then (if 0 ≤ (x0.size : Int) then (qB.l0 k (x0.extract 0 x0.size) (x6 ++ [(qJ x18 x20).f1]) x18 x19 (wrap64 (x20 + 1))) else (none)) else (none)) else (if ((qJ x18 x20).f0) = 2 then (if (x0.size : Int) > 0 then (if 0 < (x0.size : Int) then (qB.j2 k x0 x6 x18 x19 x20 ((bt x0 0) != ((qJ x18 x20).f1)) ((qJ x18 x20).f0) ((qJ x18 x20).f1)) else (none)) else (qB.j2 k x0 x6 x18 x19 x20 false ((qJ x18 x20).f0) ((qJ x18 x20).f1))) else (qB.j2 k x0 x6 x18 x19 x20 false ((qJ x18 x20).f0) ((qJ x18 x20).f1)))) else (none)) else (none)) else (if x0.toList = ([] : List UInt8) then (some (strOfNums x6,0)) else (some ((⟨#[]⟩ : ByteArray),60)))
def qB.j2 : Nat → ByteArray → List Int → List (S38) → Int → Int → Bool → Int → Int → Option (ByteArray × Int)
 | 0,_,_,_,_,_,_,_,_ => none
 | k + 1,x0,x6,x18,x19,x20,x33,x104000,x104001 => if x33 = true then (if x6.length < 140737488355328 then (if 1 ≤ (x0.size : Int) then (qB.l0 k (x0.extract 1 x0.size) (x6 ++ [x104001]) x18 x19 (wrap64 (x20 + 1))) else (none)) else (none)) else (if x104001 = 0 then (if x104000 = 1 then (qB.j3 k x0 x6 x18 x19 x20 (decide ((x0.size : Int) > 0)) x104000 x104001) else (qB.j3 k x0 x6 x18 x19 x20 false x104000 x104001)) else (some ((⟨#[]⟩ : ByteArray),60)))
def qB.j3 : Nat → ByteArray → List Int → List (S38) → Int → Int → Bool → Int → Int → Option (ByteArray × Int)
 | 0,_,_,_,_,_,_,_,_ => none
 | k + 1,x0,x6,x18,x19,x20,x58,x104000,x104001 => if x58 = true then (if 0 < (x0.size : Int) then (if x6.length < 140737488355328 then (if 1 ≤ (x0.size : Int) then (qB.l0 k (x0.extract 1 x0.size) (x6 ++ [bt x0 0]) x18 x19 (wrap64 (x20 + 1))) else (none)) else (none)) else (none)) else (if x104000 = 3 then (if (x0.size : Int) > 1 then (if 0 < (x0.size : Int) then (if 1 < (x0.size : Int) then (qB.j4 k x0 x6 x18 x19 x20 ((bt x0 0) != (bt x0 1)) x104000 x104001) else (none)) else (none)) else (qB.j4 k x0 x6 x18 x19 x20 false x104000 x104001)) else (qB.j4 k x0 x6 x18 x19 x20 false x104000 x104001))
def qB.j4 : Nat → ByteArray → List Int → List (S38) → Int → Int → Bool → Int → Int → Option (ByteArray × Int)
 | 0,_,_,_,_,_,_,_,_ => none
 | k + 1,x0,x6,x18,x19,x20,x72,x104000,x104001 => if x72 = true then (if 1 < (x0.size : Int) then (if 0 < (x0.size : Int) then ((some (([bt x0 1,bt x0 0] : List Int) : List Int)).bind fun y113 => (if x6.length + y113.length < 140737488355328 then (if 2 ≤ (x0.size : Int) then (qB.l0 k (x0.extract 2 x0.size) (x6 ++ y113) x18 x19 (wrap64 (x20 + 1))) else (none)) else (none))) else (none)) else (none)) else (if x104000 = 4 then (if (x0.size : Int) > 0 then (if 1 ≤ (x0.size : Int) then (qB.l0 k (x0.extract 1 x0.size) x6 x18 x19 (wrap64 (x20 + 1))) else (none)) else (some ((⟨#[]⟩ : ByteArray),60))) else (some ((⟨#[]⟩ : ByteArray),60)))
end
def qB.f (k : Nat) (a0 : ByteArray) (l1 : List (S38)) : Option (ByteArray × Int):=if (a0.size : Int) > 60 then (qB.j0 k a0 l1 true) else (qB.j0 k a0 l1 (decide ((l1.length : Int) > 120)))
theorem qB.zP : ∀ k,(∀ y0 y1 y2,LeO (qB.j0 k y0 y1 y2) (qB.j0 (k + 1) y0 y1 y2)) ∧ (∀ y0 y1 y2 y3 y4,LeO (qB.l0 k y0 y1 y2 y3 y4) (qB.l0 (k + 1) y0 y1 y2 y3 y4)) ∧ (∀ y0 y1 y2 y3 y4 y5 y6 y7,LeO (qB.j2 k y0 y1 y2 y3 y4 y5 y6 y7) (qB.j2 (k + 1) y0 y1 y2 y3 y4 y5 y6 y7)) ∧ (∀ y0 y1 y2 y3 y4 y5 y6 y7,LeO (qB.j3 k y0 y1 y2 y3 y4 y5 y6 y7) (qB.j3 (k + 1) y0 y1 y2 y3 y4 y5 y6 y7)) ∧ (∀ y0 y1 y2 y3 y4 y5 y6 y7,LeO (qB.j4 k y0 y1 y2 y3 y4 y5 y6 y7) (qB.j4 (k + 1) y0 y1 y2 y3 y4 y5 y6 y7))
 | 0 => ⟨fun _ _ _ r h => by simp [qB.j0] at h,fun _ _ _ _ _ r h => by simp [qB.l0] at h,fun _ _ _ _ _ _ _ _ r h => by simp [qB.j2] at h,fun _ _ _ _ _ _ _ _ r h => by simp [qB.j3] at h,fun _ _ _ _ _ _ _ _ r h => by simp [qB.j4] at h⟩
 | k + 1 => by
  obtain ⟨ih0,ih1,ih2,ih3,ih4⟩:=qB.zP k
  refine ⟨?_,?_,?_,?_,?_⟩
  ·intro y0 y1 y2
   unfold qB.j0
   repeat' first
   | (with_reducible exact ih0 _ _ _)
   | (with_reducible exact ih1 _ _ _ _ _)
   | (with_reducible exact ih2 _ _ _ _ _ _ _ _)
   | (with_reducible exact ih3 _ _ _ _ _ _ _ _)
   | (with_reducible exact ih4 _ _ _ _ _ _ _ _)
   | (with_reducible exact LeO.refl _)
   | (with_reducible exact LeO.none _)
   | (with_reducible refine LeO.ite ?_ ?_)
   | (with_reducible refine LeO.bind ?_ (fun _ => ?_))
   | exact ih0 _ _ _
   | exact ih1 _ _ _ _ _
   | exact ih2 _ _ _ _ _ _ _ _
   | exact ih3 _ _ _ _ _ _ _ _
   | exact ih4 _ _ _ _ _ _ _ _
   | exact LeO.none _
   | refine LeO.ite ?_ ?_
   | refine LeO.bind ?_ (fun _ => ?_)
  ·intro y0 y1 y2 y3 y4
   unfold qB.l0
   repeat' first
   | (with_reducible exact ih0 _ _ _)
   | (with_reducible exact ih1 _ _ _ _ _)
   | (with_reducible exact ih2 _ _ _ _ _ _ _ _)
   | (with_reducible exact ih3 _ _ _ _ _ _ _ _)
   | (with_reducible exact ih4 _ _ _ _ _ _ _ _)
   | (with_reducible exact LeO.refl _)
   | (with_reducible exact LeO.none _)
   | (with_reducible refine LeO.ite ?_ ?_)
   | (with_reducible refine LeO.bind ?_ (fun _ => ?_))
   | exact ih0 _ _ _
   | exact ih1 _ _ _ _ _
   | exact ih2 _ _ _ _ _ _ _ _
   | exact ih3 _ _ _ _ _ _ _ _
   | exact ih4 _ _ _ _ _ _ _ _
   | exact LeO.none _
   | refine LeO.ite ?_ ?_
   | refine LeO.bind ?_ (fun _ => ?_)
  ·intro y0 y1 y2 y3 y4 y5 y6 y7
   unfold qB.j2
   repeat' first
   | (with_reducible exact ih0 _ _ _)
   | (with_reducible exact ih1 _ _ _ _ _)
   | (with_reducible exact ih2 _ _ _ _ _ _ _ _)
   | (with_reducible exact ih3 _ _ _ _ _ _ _ _)
   | (with_reducible exact ih4 _ _ _ _ _ _ _ _)
   | (with_reducible exact LeO.refl _)
   | (with_reducible exact LeO.none _)
   | (with_reducible refine LeO.ite ?_ ?_)
   | (with_reducible refine LeO.bind ?_ (fun _ => ?_))
   | exact ih0 _ _ _
   | exact ih1 _ _ _ _ _
   | exact ih2 _ _ _ _ _ _ _ _
   | exact ih3 _ _ _ _ _ _ _ _
   | exact ih4 _ _ _ _ _ _ _ _
   | exact LeO.none _
   | refine LeO.ite ?_ ?_
   | refine LeO.bind ?_ (fun _ => ?_)
  ·intro y0 y1 y2 y3 y4 y5 y6 y7
   unfold qB.j3
   repeat' first
   | (with_reducible exact ih0 _ _ _)
   | (with_reducible exact ih1 _ _ _ _ _)
   | (with_reducible exact ih2 _ _ _ _ _ _ _ _)
   | (with_reducible exact ih3 _ _ _ _ _ _ _ _)
   | (with_reducible exact ih4 _ _ _ _ _ _ _ _)
   | (with_reducible exact LeO.refl _)
   | (with_reducible exact LeO.none _)
   | (with_reducible refine LeO.ite ?_ ?_)
   | (with_reducible refine LeO.bind ?_ (fun _ => ?_))
   | exact ih0 _ _ _
   | exact ih1 _ _ _ _ _
   | exact ih2 _ _ _ _ _ _ _ _
   | exact ih3 _ _ _ _ _ _ _ _
   | exact ih4 _ _ _ _ _ _ _ _
   | exact LeO.none _
   | refine LeO.ite ?_ ?_
   | refine LeO.bind ?_ (fun _ => ?_)
  ·intro y0 y1 y2 y3 y4 y5 y6 y7
   unfold qB.j4
   repeat' first
   | (with_reducible exact ih0 _ _ _)
   | (with_reducible exact ih1 _ _ _ _ _)
   | (with_reducible exact ih2 _ _ _ _ _ _ _ _)
   | (with_reducible exact ih3 _ _ _ _ _ _ _ _)
   | (with_reducible exact ih4 _ _ _ _ _ _ _ _)
   | (with_reducible exact LeO.refl _)
   | (with_reducible exact LeO.none _)
   | (with_reducible refine LeO.ite ?_ ?_)
   | (with_reducible refine LeO.bind ?_ (fun _ => ?_))
   | exact ih0 _ _ _
   | exact ih1 _ _ _ _ _
   | exact ih2 _ _ _ _ _ _ _ _
   | exact ih3 _ _ _ _ _ _ _ _
   | exact ih4 _ _ _ _ _ _ _ _
   | exact LeO.none _
   | refine LeO.ite ?_ ?_
   | refine LeO.bind ?_ (fun _ => ?_)
theorem qB.mono : ∀ a0 a1 k,LeO (qB.f k a0 a1) (qB.f (k + 1) a0 a1):=by
 intro a0 a1 k
 obtain ⟨ih0,ih1,ih2,ih3,ih4⟩:=qB.zP k
 unfold qB.f
 repeat' first
   | (with_reducible exact ih0 _ _ _)
   | (with_reducible exact ih1 _ _ _ _ _)
   | (with_reducible exact ih2 _ _ _ _ _ _ _ _)
   | (with_reducible exact ih3 _ _ _ _ _ _ _ _)
   | (with_reducible exact ih4 _ _ _ _ _ _ _ _)
   | (with_reducible exact LeO.refl _)
   | (with_reducible exact LeO.none _)
   | (with_reducible refine LeO.ite ?_ ?_)
   | (with_reducible refine LeO.bind ?_ (fun _ => ?_))
   | exact ih0 _ _ _
   | exact ih1 _ _ _ _ _
   | exact ih2 _ _ _ _ _ _ _ _
   | exact ih3 _ _ _ _ _ _ _ _
   | exact ih4 _ _ _ _ _ _ _ _
   | exact LeO.none _
   | refine LeO.ite ?_ ?_
   | refine LeO.bind ?_ (fun _ => ?_)
def qB.T11 : Bool × List (List Nat × List Nat):=(true,[([],[]),([0],[0]),([1],[1]),([2],[2]),([3],[3]),([4,3],[3,4]),([5,3],[3,5]),([3,6],[3,6]),([7,3],[7]),([8],[8]),([9,8],[8,9]),([8],[8]),([11,8],[8,11]),([10,12,8],[8,10,12]),([8,13],[8,13]),([14,8],[14])])
def qB.B11 : List Nat:=[0,1,3,7,15,31,63,127,255,511,1023,511,2559,8191,16383,32767]
theorem qB.Z5 : rtab .any (opsOf Try.f16 11) = qB.T11:=by kernel_rfl
theorem qB.JL : zt qB.T11.2 qB.B11 = true:=by kernel_rfl
def qB.T19 : Bool × List (List Nat × List Nat):=(true,[([],[]),([0],[0]),([1],[1]),([2],[2]),([3],[3]),([4,3],[3,4]),([5,3],[3,5]),([3,6],[3,6]),([7,3],[7]),([8],[8]),([9,8],[8,9]),([8],[8]),([11,8],[8,11]),([10,12,8],[8,10,12]),([8,13],[8,13]),([14,8],[14])])
def qB.B19 : List Nat:=[0,1,3,7,15,31,63,127,255,511,1023,511,2559,8191,16383,32767]
theorem qB.ZU : rtab .any (opsOf Try.f16 19) = qB.T19:=by kernel_rfl
theorem qB.JG : zt qB.T19.2 qB.B19 = true:=by kernel_rfl
def qB.T20 : Bool × List (List Nat × List Nat):=(true,[([],[]),([],[]),([1],[1]),([],[]),([3],[3]),([2,4],[2,4]),([0,5],[0,5]),([6,6,0,1,2,3,4,5,6],[0,6])])
def qB.B20 : List Nat:=[0,0,2,0,8,30,63,127]
theorem qB.V5 : rtab .any (opsOf Try.f16 20) = qB.T20:=by kernel_rfl
theorem qB.Vy : zt qB.T20.2 qB.B20 = true:=by kernel_rfl
set_option maxHeartbeats 8000000 in
set_option maxRecDepth 100000 in
theorem qB.calls (k : Nat) (a0 : ByteArray) (A1 : Option Addr) (c1 : Nat) (l1 : List (S38)) (r1 : ByteArray) (r2 : Int) (w : World) (hr1 : Kd.C k38 w A1 l1.length l1) (hc1 : l1.length ≤ c1) (h : qB.f k a0 l1 = some (r1,r2)) :
  Calls Try.prog 16 #[.string a0,.slice A1 l1.length c1] w fun e w' => e = .returned (.tuple #[.string r1,.int .i64 r2]) ∧ Below w.heap.size w w':=by
 have hu38:=Try.underlying38
 have HR1:=qd.mk hr1
 have HC1:=qd.mk hc1
 clear hr1 hc1
 have HB:=qd.mk (Below.refl w.heap.size w)
 have H : (if (a0.size : Int) > 60 then (qB.j0 k a0 l1 true) else (qB.j0 k a0 l1 (decide ((l1.length : Int) > 120)))) = some (r1,r2):=h
 clear h
 have HC3:=qd.mk H
 clear H
 go_enter Try.func16,Try.ntmps16
 go_upto_region 1 with (fail)
 go_cut [17] (fun v17 wc => ∃ (kq : Nat) (x17_2 : Bool),v17 = .bool x17_2 ∧ qd (qB.j0 kq a0 l1 x17_2 = some (r1,r2)) ∧ qd (kq ≤ k) ∧ qd (Below w.heap.size w wc))
 case first =>
  have H:=HC3.out
  clear HC3
  by_cases c4 : (a0.size : Int) > 60
  ·rw [if_pos c4] at H
   have c4b0 : decide (60 < (a0.size : Int)) = true:=decide_eq_true c4
   have c4b1 : decide (60 < a0.size) = true:=decide_eq_true (by omega)
   clear c4
   (first|rw [c4b0]|(simp only [qE,qF];rw [c4b0])|skip)
   have H':=qd.mk H
   clear H
   go_wp2
   go_meet
   case rel => exact ⟨_,(true),(by first|rfl|(simp;done)|(simp [*];done)),H',⟨by first|omega|exact Nat.le_refl _⟩,⟨by repeat (first|(with_reducible first|exact HB.out|apply qg|apply qc|apply qf)|exact HB.out)⟩⟩
  ·rw [if_neg c4] at H
   have c4b0 : decide (60 < (a0.size : Int)) = false:=decide_eq_false c4
   have c4b1 : decide (60 < a0.size) = false:=decide_eq_false (by omega)
   clear c4
   (first|rw [c4b0]|(simp only [qE,qF];rw [c4b0])|skip)
   have H':=qd.mk H
   clear H
   go_wp2
   go_meet
   case rel => exact ⟨_,(decide ((l1.length : Int) > 120)),(by first|rfl|(simp;done)|(simp [*];done)),H',⟨by first|omega|exact Nat.le_refl _⟩,⟨by repeat (first|(with_reducible first|exact HB.out|apply qg|apply qc|apply qf)|exact HB.out)⟩⟩
 case rest =>
  clear HC3
  try clear c1
  try clear p2
  try clear c4
  try clear c4b0
  try clear c4b1
  obtain ⟨kq,x17_2,rfl,HA,HJ2,HB⟩:=hcut
  cases kq with
  | zero => exact absurd HA.out (by simp [qB.j0])
  | succ kj2 =>
   have H:=HA.out
   clear HA
   simp only [qB.j0] at H
   by_cases c5 : x17_2 = true
   ·subst c5
    have H1 : (some ((⟨#[]⟩ : ByteArray),3)) = some (r1,r2):=by rw [if_pos rfl] at H;exact H
    clear H
    have H:=H1
    clear H1
    simp only [Option.some.injEq,Prod.mk.injEq] at H
    obtain ⟨rfl,rfl⟩:=H
    go_wp2
    go_ret2
    exact ⟨by first|rfl|(simp [qQ,qP] <;> rfl)|(simp [*,qQ,qP] <;> rfl),by repeat (first|(with_reducible first|exact HB.out|apply qg|apply qc|apply qf)|exact HB.out)⟩
   ·replace c5:=Bool.eq_false_iff.mpr c5
    subst c5
    have H1 : (qB.l0 kj2 a0 ([] : List Int) l1 (l1.length : Int) 0) = some (r1,r2):=by rw [if_neg (show ¬ (false = true) by decide)] at H;exact H
    clear H
    have H:=H1
    clear H1
    have H':=qd.mk H
    clear H
    go_wp2
    go_loopg [0,6,20] kj2 (fun kq v0 v6 v20 w' => ∃ (x0_2 : ByteArray) (x6_2 : List Int) (x20_2 : Int),v0 = .string x0_2 ∧ v20 = .int .i64 x20_2 ∧ qd (qB.l0 kq x0_2 x6_2 l1 (l1.length : Int) x20_2 = some (r1,r2)) ∧ qd (kq ≤ kj2) ∧ qd (Kd.R (Kd.int .u8) 5 w' w.heap.size (fun _ => True) v6 x6_2) ∧ qd (Below w.heap.size w w'))
    case atStart => exact ⟨(a0),(([] : List Int)),(0),(by first|rfl|(simp;done)|(simp [*];done)),(by first|rfl|(simp;done)|(simp [*];done)),H',⟨Nat.le_refl _⟩,⟨by first|exact Kd.kz _ _ _ _ _|exact Kd.ZN _ _ _ _ _|exact Kd.ZF _ _ _ _ _|exact Kd.Xk _ _ _ _ _|exact Kd.Xf _ _ _ _ _⟩,⟨by repeat (first|(with_reducible first|exact HB.out|apply qg|apply qc|apply qf)|exact HB.out)⟩⟩
    case round =>
     clear H'
     try clear c1
     try clear p2
     try clear c4
     try clear c4b0
     try clear c4b1
     try clear c5
     try clear p2
     obtain ⟨x0_2,x6_2,x20_2,rfl,rfl,HA,HK2,HO_6,HB⟩:=hrel
     cases gk with
     | zero => exact absurd HA.out (by simp [qB.l0])
     | succ k2 =>
      have H:=HA.out
      clear HA
      simp only [qB.l0] at H
      by_cases c6 : x20_2 < (l1.length : Int)
      ·rw [if_pos c6] at H
       have c6b0 : decide (x20_2 < (l1.length : Int)) = true:=decide_eq_true c6
       clear c6
       by_cases c7 : 0 ≤ x20_2
       ·rw [if_pos c7] at H
        have c7b0 : decide (0 ≤ x20_2) = true:=decide_eq_true c7
        clear c7
        by_cases c8 : x20_2 < (l1.length : Int)
        ·rw [if_pos c8] at H
         have c8b0 : decide (x20_2 < (l1.length : Int)) = true:=decide_eq_true c8
         clear c8
         by_cases c9 : ((qJ l1 x20_2).f0) = 5
         ·rw [if_pos c9] at H
          have c9b0 : (((qJ l1 x20_2).f0) == 5) = true:=beq_iff_eq.mpr c9
          have c9b1 : (((qJ l1 x20_2).f0) != 5) = false:=bne_eq_false_iff_eq.mpr c9
          clear c9
          by_cases c10 : x6_2.length < 140737488355328
          ·rw [if_pos c10] at H
           have LMc10:=qd.mk c10
           clear c10
           obtain ⟨y104,hy104⟩ : ∃ y_ : List Int,y_ = (x6_2 ++ [(qJ l1 x20_2).f1]):=⟨_,rfl⟩
           replace H : (if 0 ≤ (x0_2.size : Int) then (qB.l0 k2 (x0_2.extract 0 x0_2.size) y104 l1 (l1.length : Int) (wrap64 (x20_2 + 1))) else (none)) = some (r1,r2):=by first|(rw [hy104];with_reducible exact H)|(have H2_:=(Option.bind_some _ _).symm.trans H;rw [hy104];with_reducible exact H2_)|(have H2_:=(Option.bind_some _ _).symm.trans H;with_reducible exact H2_)|with_reducible exact H|(rw [hy104];exact H)|exact H
           have Ny104:=qd.mk hy104
           clear hy104
           by_cases c11 : 0 ≤ (x0_2.size : Int)
           ·rw [if_pos c11] at H
            have c11b0:=eq_true c11
            have c11b1 : decide (0 ≤ (x0_2.size : Int)) = true:=decide_eq_true c11
            clear c11
            have H':=qd.mk H
            clear H
            have p102 : 0 ≤ (x20_2 : Int):=of_decide_eq_true (by first|(with_reducible assumption)|assumption)
            have q102 : x20_2 < (l1.length : Int):=of_decide_eq_true (by first|(with_reducible assumption)|assumption)
            obtain ⟨ad102,e102,hx102_0,hx102_1⟩:=vD HR1.out x20_2 p102 q102
            cases e102
            replace hx102_0:=(HB.out.cell (World.block_lt_of_cell? w _ hx102_0)).trans hx102_0
            replace hx102_1:=(HB.out.cell (World.block_lt_of_cell? w _ hx102_1)).trans hx102_1
            replace p102:=eq_true p102
            replace q102:=eq_true q102
            go_wp2_with (first|((with_reducible refine ji (N:=8) rfl ?_);(try (refine jm (by rfl) ?_;dsimp only));refine jg ?hg (N:=8) ?hd (cs:=#[.int .u8 0,.int .u8 0]) (t:=38) ?hr ?_;(case hd => rfl);(case hg => rfl);(case hr => first|(go_simp;done)|(go_simp;rfl));intro gb103 hg w12 hbox hb;have n0_:=qd.mk (Kd.qN (by (with_reducible repeat (first|apply Kd.qy|apply Kd.qz|apply Kd.qC));exact HO_6.out) hb);have n1_:=qd.mk (qI (by repeat (first|(with_reducible first|exact HB.out|apply qg|apply qc|apply qf)|exact HB.out)) hb);have n2_:=qd.mk (hbox);have n3_:=qd.mk ((by rw [hg];exact (qH (by repeat (first|(with_reducible first|exact HB.out|apply qg|apply qc|apply qf)|exact HB.out))) : w.heap.size ≤ gb103));have n4_:=qd.mk ((by rw [hg];exact (qH (by repeat (first|(with_reducible first|exact HB.out|apply qg|apply qc|apply qf)|exact HB.out))) : w.heap.size ≤ gb103));clear HO_6;clear HB;have HO_6:=n0_;have HB:=n1_;have BK103:=n2_;have GW103:=n3_;have GE103:=n4_;clear n0_ n1_ n2_ n3_ n4_;clear hb hbox hg;have hcz13_0 : w12.cell? ⟨gb103,0,none⟩ = some (.int .u8 0):=(qi BK103.out 0).trans rfl;have hcz13_1 : w12.cell? ⟨gb103,1,none⟩ = some (.int .u8 0):=(qi BK103.out 1).trans rfl;have hfz13_0:=ql BK103.out 0;have hfz13_1:=ql BK103.out 1)|((with_reducible refine xg (b:=.append) (xs:=#[.tmp 28,.tmp 31]) rfl ?_);(try (refine jm (by rfl) ?_;dsimp only));at_builtin;refine Kd.zo (Kd.int .u8) (w0:=w) w.heap.size rfl (.tmp 28) (.tmp 31) 66 5 (.int .u8 0) 1 rfl Try.underlying66 info5 rfl (by decide) (by omega) u6 x6_2 ((qJ l1 x20_2).f1) [.int .u8 ((qJ l1 x20_2).f1)] (fun _ => True) (fun _ => False) rfl (by first|(go_simp;done)|(go_simp;rfl)) ?aP (fun _ hk => hk.elim) ?aF ?aO ?aB ?aS ?aL ?_;(case aP => exact rfl);(case aB => exact (by repeat (first|(with_reducible first|exact HB.out|apply qg|apply qc|apply qf|refine qp ?_ GE103.out)|exact HB.out)));(case aF => exact (fun _ _ => trivial));(case aO => exact (by (with_reducible repeat (first|apply Kd.qy|apply Kd.qz|apply Kd.qC));exact Kd.qO (Kd.zY (p:=⟨gb103,1,none⟩) (Kd.zY (p:=⟨gb103,0,none⟩) (Kd.zT HO_6.out BK103.out (by decide)) (fun _ hk => hk.2) (.int .u8 ((qJ l1 x20_2).f0))) (fun _ hk => hk.2) (.int .u8 ((qJ l1 x20_2).f1))) (fun _ hk => trivial)));(case aS => exact (qH (by repeat (first|(with_reducible first|exact HB.out|apply qg|apply qc|apply qf|refine qp ?_ GE103.out)|exact HB.out))));(case aL => have:=LMc10.out;omega);intro v105 w14 ho hb hg hat;rw [← Ny104.out] at ho;have n0_:=qd.mk (zG (g:=gb103) (o:=.cells #[.int .u8 ((qJ l1 x20_2).f0),.int .u8 ((qJ l1 x20_2).f1)] 38 (0,0)) (by (with_reducible repeat (first|refine qx ?_ _|refine qA ?_|refine qw ?_ _));refine jh (cs:=#[.int .u8 ((qJ l1 x20_2).f0),.int .u8 0]) ?_ 1 _ rfl;(with_reducible repeat (first|refine qx ?_ _|refine qA ?_|refine qw ?_ _));refine jh (cs:=#[.int .u8 0,.int .u8 0]) ?_ 0 _ rfl;(with_reducible repeat (first|refine qx ?_ _|refine qA ?_|refine qw ?_ _));exact BK103.out) hg (Kd.R_ne HO_6.out BK103.out (by decide)));have n1_:=qd.mk (hb);have n2_:=qd.mk (ho);clear BK103;clear HB;clear HO_6;have BK103:=n0_;have HB:=n1_;have HO106:=n2_;clear n0_ n1_ n2_;clear ho hb hg hat))
            go_roundg k2
            case measure => have:=HJ2.out;have:=HK2.out;omega
            case rel => exact ⟨(x0_2.extract 0 x0_2.size),(y104),(wrap64 (x20_2 + 1)),(by first|rfl|(simp;done)|(simp [*];done)),(by first|rfl|(simp;done)|(simp [*];done)),H',⟨by have:=HJ2.out;have:=HK2.out;omega⟩,⟨by (with_reducible repeat (first|apply Kd.qy|apply Kd.qz|apply Kd.qC));exact HO106.out⟩,⟨by repeat (first|(with_reducible first|exact HB.out|apply qg|apply qc|apply qf|refine qp ?_ GE103.out)|exact HB.out)⟩⟩
           ·rw [if_neg c11] at H
            exact absurd H (by simp)
          ·rw [if_neg c10] at H
           exact absurd H (by simp)
         ·rw [if_neg c9] at H
          have c9b0 : (((qJ l1 x20_2).f0) == 5) = false:=beq_eq_false_iff_ne.mpr c9
          have c9b1 : (((qJ l1 x20_2).f0) != 5) = true:=bne_iff_ne.mpr c9
          have HC15:=qd.mk H
          clear H
          have p102 : 0 ≤ (x20_2 : Int):=of_decide_eq_true (by first|(with_reducible assumption)|assumption)
          have q102 : x20_2 < (l1.length : Int):=of_decide_eq_true (by first|(with_reducible assumption)|assumption)
          obtain ⟨ad102,e102,hx102_0,hx102_1⟩:=vD HR1.out x20_2 p102 q102
          cases e102
          replace hx102_0:=(HB.out.cell (World.block_lt_of_cell? w _ hx102_0)).trans hx102_0
          replace hx102_1:=(HB.out.cell (World.block_lt_of_cell? w _ hx102_1)).trans hx102_1
          replace p102:=eq_true p102
          replace q102:=eq_true q102
          go_upto_region 11 with (first|((with_reducible refine ji (N:=8) rfl ?_);(try (refine jm (by rfl) ?_;dsimp only));refine jg ?hg (N:=8) ?hd (cs:=#[.int .u8 0,.int .u8 0]) (t:=38) ?hr ?_;(case hd => rfl);(case hg => rfl);(case hr => first|(go_simp;done)|(go_simp;rfl));intro gb103 hg w16 hbox hb;have n0_:=qd.mk (Kd.qN (by (with_reducible repeat (first|apply Kd.qy|apply Kd.qz|apply Kd.qC));exact HO_6.out) hb);have n1_:=qd.mk (qI (by repeat (first|(with_reducible first|exact HB.out|apply qg|apply qc|apply qf)|exact HB.out)) hb);have n2_:=qd.mk (hbox);have n3_:=qd.mk ((by rw [hg];exact (qH (by repeat (first|(with_reducible first|exact HB.out|apply qg|apply qc|apply qf)|exact HB.out))) : w.heap.size ≤ gb103));have n4_:=qd.mk ((by rw [hg];exact (qH (by repeat (first|(with_reducible first|exact HB.out|apply qg|apply qc|apply qf)|exact HB.out))) : w.heap.size ≤ gb103));clear HO_6;clear HB;have HO_6:=n0_;have HB:=n1_;have BK103:=n2_;have GW103:=n3_;have GE103:=n4_;clear n0_ n1_ n2_ n3_ n4_;clear hb hbox hg;have hcz17_0 : w16.cell? ⟨gb103,0,none⟩ = some (.int .u8 0):=(qi BK103.out 0).trans rfl;have hcz17_1 : w16.cell? ⟨gb103,1,none⟩ = some (.int .u8 0):=(qi BK103.out 1).trans rfl;have hfz17_0:=ql BK103.out 0;have hfz17_1:=ql BK103.out 1))
          (try simp only [Act.put,List.setIfInBounds_toArray,List.set_cons_zero,List.set_cons_succ])
          go_cut [33] (fun v33 wc => ∃ (kq : Nat) (x33_14 : Bool),v33 = .bool x33_14 ∧ qd (qB.j2 kq x0_2 x6_2 l1 (l1.length : Int) x20_2 x33_14 ((qJ l1 x20_2).f0) ((qJ l1 x20_2).f1) = some (r1,r2)) ∧ qd (kq ≤ k2) ∧ qd (Kd.R (Kd.int .u8) 5 wc w.heap.size (fun _ => True) u6 x6_2) ∧ qd (wc.heap[gb103]? = some (.cells #[.int .u8 ((qJ l1 x20_2).f0),.int .u8 ((qJ l1 x20_2).f1)] 38 (0,0))) ∧ qd (Below w.heap.size w wc))
          case first =>
           have H:=HC15.out
           clear HC15
           by_cases c18 : ((qJ l1 x20_2).f0) = 2
           ·rw [if_pos c18] at H
            have c18b0 : (((qJ l1 x20_2).f0) == 2) = true:=beq_iff_eq.mpr c18
            have c18b1 : (((qJ l1 x20_2).f0) != 2) = false:=bne_eq_false_iff_eq.mpr c18
            clear c18
            (first|rw [c18b0]|(simp only [qE,qF];rw [c18b0])|skip)
            by_cases c19 : (x0_2.size : Int) > 0
            ·rw [if_pos c19] at H
             have c19b0 : decide (0 < (x0_2.size : Int)) = true:=decide_eq_true c19
             have c19b1 : decide (0 < x0_2.size) = true:=decide_eq_true (by omega)
             clear c19
             by_cases c20 : 0 < (x0_2.size : Int)
             ·rw [if_pos c20] at H
              have c20b0 : decide (0 < (x0_2.size : Int)) = true:=decide_eq_true c20
              have c20b1 : decide (0 < x0_2.size) = true:=decide_eq_true (by omega)
              clear c20
              have H':=qd.mk H
              clear H
              try go_wp2
              have n0_ : qd (Kd.R (Kd.int .u8) 5 ((w16.setCell ⟨gb103,0,none⟩ (.int .u8 ((qJ l1 x20_2).f0))).setCell ⟨gb103,1,none⟩ (.int .u8 ((qJ l1 x20_2).f1))) w.heap.size (fun _ => True) u6 x6_2):=⟨by (with_reducible repeat (first|apply Kd.qy|apply Kd.qz|apply Kd.qC));exact Kd.qO (Kd.zY (p:=⟨gb103,1,none⟩) (Kd.zY (p:=⟨gb103,0,none⟩) (Kd.zT HO_6.out BK103.out (by decide)) (fun _ hk => hk.2) (.int .u8 ((qJ l1 x20_2).f0))) (fun _ hk => hk.2) (.int .u8 ((qJ l1 x20_2).f1))) (fun _ hk => trivial)⟩
              have n1_ : qd (((w16.setCell ⟨gb103,0,none⟩ (.int .u8 ((qJ l1 x20_2).f0))).setCell ⟨gb103,1,none⟩ (.int .u8 ((qJ l1 x20_2).f1))).heap[gb103]? = some (.cells #[.int .u8 ((qJ l1 x20_2).f0),.int .u8 ((qJ l1 x20_2).f1)] 38 (0,0))):=⟨by (with_reducible repeat (first|refine qx ?_ _|refine qA ?_|refine qw ?_ _));refine jh (cs:=#[.int .u8 ((qJ l1 x20_2).f0),.int .u8 0]) ?_ 1 _ rfl;(with_reducible repeat (first|refine qx ?_ _|refine qA ?_|refine qw ?_ _));refine jh (cs:=#[.int .u8 0,.int .u8 0]) ?_ 0 _ rfl;(with_reducible repeat (first|refine qx ?_ _|refine qA ?_|refine qw ?_ _));exact BK103.out⟩
              have n2_ : qd (Below w.heap.size w ((w16.setCell ⟨gb103,0,none⟩ (.int .u8 ((qJ l1 x20_2).f0))).setCell ⟨gb103,1,none⟩ (.int .u8 ((qJ l1 x20_2).f1)))):=⟨by repeat (first|(with_reducible first|exact HB.out|apply qg|apply qc|apply qf|refine qp ?_ GE103.out)|exact HB.out)⟩
              (try clear HO_6)
              (try clear BK103)
              (try clear HB)
              generalize ((w16.setCell ⟨gb103,0,none⟩ (.int .u8 ((qJ l1 x20_2).f0))).setCell ⟨gb103,1,none⟩ (.int .u8 ((qJ l1 x20_2).f1))) = w22 at n0_ n1_ n2_ ⊢
              have HO_6:=n0_
              have BK103:=n1_
              have HB:=n2_
              clear n0_ n1_ n2_
              have n0_:=qd.mk (Kd.qC HO_6.out)
              have n1_:=qd.mk (qA BK103.out)
              have n2_:=qd.mk (qf HB.out)
              clear HO_6
              clear BK103
              clear HB
              have HO_6:=n0_
              have BK103:=n1_
              have HB:=n2_
              clear n0_ n1_ n2_
              have p21 : 0 ≤ (0 : Int):=(by omega)
              have q21 : 0 < x0_2.size:=(by have : (0 : Int) < (x0_2.size : Int):=of_decide_eq_true (by first|(with_reducible assumption)|assumption);omega)
              have hx21 : ∀ h : 0 < x0_2.size,((x0_2[0]'h).toNat : Int) = bt x0_2 0:=jI x0_2 0
              clear p21
              have qi21 : (0 < (x0_2.size : Int)) = True:=eq_true (of_decide_eq_true (by first|(with_reducible assumption)|assumption))
              replace q21:=eq_true q21
              refine zN (n:=16) (S:=fun w' => w'.cell? ⟨gb103,0,none⟩ = some (.int .u8 ((qJ l1 x20_2).f0)) ∧ w'.cell? ⟨gb103,1,none⟩ = some (.int .u8 ((qJ l1 x20_2).f1))) (ds:=[]) #[false,false,false,false,false,false,false,false,false,false,false,false,false,false,false,false] (by kernel_rfl) rfl rfl ⟨(qi BK103.out 0).trans rfl,(qi BK103.out 1).trans rfl⟩ (fun hHeld => ?_);refine jT qB.Z5 qB.JL (fun HT_ HW_ => ?_)
              generalize w22.drew = w23 at HO_6 BK103 HB hHeld ⊢
              refine qL (i:=0) (N:=some 34) (v:=?_) (a':=?_) #[true,false,false,false,false,false,false,false,false,false,false,false,false,false,false,false] rfl rfl (qD HT_.out (by kernel_rfl)) (fun _ _ _ h => h) (Or.inl ⟨by rfl,?_⟩) ?_ ?_
              rotate_left
              ·intro w'
               go_simp
               with_reducible rfl
              rotate_left
              ·simp only [Act.put,List.setIfInBounds_toArray,List.set_cons_zero,List.set_cons_succ,qE,qF]
               rfl
              refine zz (i:=1) (N:=some 35) (v:=?_) (a':=?_) #[true,true,false,false,false,false,false,false,false,false,false,false,false,false,false,false] rfl rfl (jF HT_.out HW_.out (by kernel_rfl)) (fun _ _ _ h => h) (Or.inl ⟨by rfl,?_⟩) hHeld ?_ ?_
              rotate_left
              ·rintro w' ⟨s0,s1⟩
               go_simp
               with_reducible rfl
              rotate_left
              ·simp only [Act.put,List.setIfInBounds_toArray,List.set_cons_zero,List.set_cons_succ,qE,qF]
               rfl
              refine qL (i:=2) (N:=some 36) (v:=?_) (a':=?_) #[true,true,true,false,false,false,false,false,false,false,false,false,false,false,false,false] rfl rfl (qD HT_.out (by kernel_rfl)) (fun _ _ _ h => h) (Or.inl ⟨by rfl,?_⟩) ?_ ?_
              rotate_left
              ·intro w'
               go_simp
               with_reducible rfl
              rotate_left
              ·simp only [Act.put,List.setIfInBounds_toArray,List.set_cons_zero,List.set_cons_succ,qE,qF]
               rfl
              refine qL (i:=3) (N:=some 37) (v:=?_) (a':=?_) #[true,true,true,true,false,false,false,false,false,false,false,false,false,false,false,false] rfl rfl (qD HT_.out (by kernel_rfl)) (fun _ _ _ h => h) (Or.inl ⟨by rfl,?_⟩) ?_ ?_
              rotate_left
              ·intro w'
               go_simp
               with_reducible rfl
              rotate_left
              ·simp only [Act.put,List.setIfInBounds_toArray,List.set_cons_zero,List.set_cons_succ,qE,qF]
               rfl
              refine qL (i:=4) (N:=some 38) (v:=?_) (a':=?_) #[true,true,true,true,true,false,false,false,false,false,false,false,false,false,false,false] rfl rfl (qD HT_.out (by kernel_rfl)) (fun _ _ _ h => h) (Or.inl ⟨by rfl,?_⟩) ?_ ?_
              rotate_left
              ·intro w'
               go_simp
               with_reducible rfl
              rotate_left
              ·simp only [Act.put,List.setIfInBounds_toArray,List.set_cons_zero,List.set_cons_succ,qE,qF]
               rfl
              refine qL (i:=5) (N:=some 39) (v:=?_) (a':=?_) #[true,true,true,true,true,true,false,false,false,false,false,false,false,false,false,false] rfl rfl (qD HT_.out (by kernel_rfl)) (fun _ _ _ h => h) (Or.inl ⟨by rfl,?_⟩) ?_ ?_
              rotate_left
              ·intro w'
               go_simp
               with_reducible rfl
              rotate_left
              ·simp only [Act.put,List.setIfInBounds_toArray,List.set_cons_zero,List.set_cons_succ,qE,qF]
               rfl
              refine qL (i:=6) (N:=some 40) (v:=?_) (a':=?_) #[true,true,true,true,true,true,true,false,false,false,false,false,false,false,false,false] rfl rfl (qD HT_.out (by kernel_rfl)) (fun _ _ _ h => h) (Or.inl ⟨by rfl,?_⟩) ?_ ?_
              rotate_left
              ·intro w'
               go_simp
               with_reducible rfl
              rotate_left
              ·simp only [Act.put,List.setIfInBounds_toArray,List.set_cons_zero,List.set_cons_succ,qE,qF]
               rfl
              refine qL (i:=7) (N:=some 41) (v:=?_) (a':=?_) #[true,true,true,true,true,true,true,true,false,false,false,false,false,false,false,false] rfl rfl (qD HT_.out (by kernel_rfl)) (fun _ _ _ h => h) (Or.inl ⟨by rfl,?_⟩) ?_ ?_
              rotate_left
              ·intro w'
               go_simp
               with_reducible rfl
              rotate_left
              ·simp only [Act.put,List.setIfInBounds_toArray,List.set_cons_zero,List.set_cons_succ,qE,qF]
               rfl
              refine qL (i:=8) (N:=some 42) (v:=?_) (a':=?_) #[true,true,true,true,true,true,true,true,true,false,false,false,false,false,false,false] rfl rfl (qD HT_.out (by kernel_rfl)) (fun _ _ _ h => h) (Or.inl ⟨by rfl,?_⟩) ?_ ?_
              rotate_left
              ·intro w'
               go_simp
               with_reducible rfl
              rotate_left
              ·simp only [Act.put,List.setIfInBounds_toArray,List.set_cons_zero,List.set_cons_succ,qE,qF]
               rfl
              refine qL (i:=9) (N:=some 43) (v:=?_) (a':=?_) #[true,true,true,true,true,true,true,true,true,true,false,false,false,false,false,false] rfl rfl (qD HT_.out (by kernel_rfl)) (fun _ _ _ h => h) (Or.inl ⟨by rfl,?_⟩) ?_ ?_
              rotate_left
              ·intro w'
               go_simp
               with_reducible rfl
              rotate_left
              ·simp only [Act.put,List.setIfInBounds_toArray,List.set_cons_zero,List.set_cons_succ,qE,qF]
               rfl
              refine qL (i:=11) (N:=some 45) (v:=?_) (a':=?_) #[true,true,true,true,true,true,true,true,true,true,false,true,false,false,false,false] rfl rfl (qD HT_.out (by kernel_rfl)) (fun _ _ _ h => h) (Or.inl ⟨by rfl,?_⟩) ?_ ?_
              rotate_left
              ·intro w'
               go_simp
               with_reducible rfl
              rotate_left
              ·simp only [Act.put,List.setIfInBounds_toArray,List.set_cons_zero,List.set_cons_succ,qE,qF]
               rfl
              refine zz (i:=10) (N:=some 44) (v:=?_) (a':=?_) #[true,true,true,true,true,true,true,true,true,true,true,true,false,false,false,false] rfl rfl (jF HT_.out HW_.out (by kernel_rfl)) (fun _ _ _ h => h) (Or.inl ⟨by rfl,?_⟩) hHeld ?_ ?_
              rotate_left
              ·rintro w' ⟨s0,s1⟩
               go_simp
               with_reducible rfl
              rotate_left
              ·simp only [Act.put,List.setIfInBounds_toArray,List.set_cons_zero,List.set_cons_succ,qE,qF]
               rfl
              refine zz (i:=12) (N:=some 46) (v:=?_) (a':=?_) #[true,true,true,true,true,true,true,true,true,true,true,true,true,false,false,false] rfl rfl (jF HT_.out HW_.out (by kernel_rfl)) (fun _ _ _ h => h) (Or.inl ⟨by rfl,?_⟩) hHeld ?_ ?_
              rotate_left
              ·rintro w' ⟨s0,s1⟩
               go_simp
               with_reducible rfl
              rotate_left
              ·simp only [Act.put,List.setIfInBounds_toArray,List.set_cons_zero,List.set_cons_succ,qE,qF]
               rfl
              refine qL (i:=13) (N:=some 47) (v:=?_) (a':=?_) #[true,true,true,true,true,true,true,true,true,true,true,true,true,true,false,false] rfl rfl (qD HT_.out (by kernel_rfl)) (fun _ _ _ h => h) (Or.inl ⟨by rfl,?_⟩) ?_ ?_
              rotate_left
              ·intro w'
               go_simp
               with_reducible rfl
              rotate_left
              ·simp only [Act.put,List.setIfInBounds_toArray,List.set_cons_zero,List.set_cons_succ,qE,qF]
               rfl
              refine qL (i:=14) (N:=some 48) (v:=?_) (a':=?_) #[true,true,true,true,true,true,true,true,true,true,true,true,true,true,true,false] rfl rfl (qD HT_.out (by kernel_rfl)) (fun _ _ _ h => h) (Or.inl ⟨by rfl,?_⟩) ?_ ?_
              rotate_left
              ·intro w'
               go_simp
               with_reducible rfl
              rotate_left
              ·simp only [Act.put,List.setIfInBounds_toArray,List.set_cons_zero,List.set_cons_succ,qE,qF]
               rfl
              refine qL (i:=15) (N:=some 33) (v:=?_) (a':=?_) #[true,true,true,true,true,true,true,true,true,true,true,true,true,true,true,true] rfl rfl (qD HT_.out (by kernel_rfl)) (fun _ _ _ h => h) (Or.inl ⟨by rfl,?_⟩) ?_ ?_
              rotate_left
              ·intro w'
               go_simp
               with_reducible rfl
              rotate_left
              ·simp only [Act.put,List.setIfInBounds_toArray,List.set_cons_zero,List.set_cons_succ,qE,qF]
               rfl
              refine xL (zu HT_.out (by kernel_rfl)) ?_
              try go_wp2
              go_meet
              case rel => exact ⟨_,(((bt x0_2 0) != ((qJ l1 x20_2).f1))),(by first|rfl|(simp;done)|(simp [*];done)),H',⟨by have:=HJ2.out;have:=HK2.out;first|omega|exact Nat.le_refl _⟩,⟨by (with_reducible repeat (first|apply Kd.qy|apply Kd.qz|apply Kd.qC));exact HO_6.out⟩,⟨by (with_reducible repeat (first|refine qx ?_ _|refine qA ?_|refine qw ?_ _));exact BK103.out⟩,⟨by repeat (first|(with_reducible first|exact HB.out|apply qg|apply qc|apply qf|refine qp ?_ GE103.out)|exact HB.out)⟩⟩
             ·rw [if_neg c20] at H
              exact absurd H (by simp)
            ·rw [if_neg c19] at H
             have c19b0 : decide (0 < (x0_2.size : Int)) = false:=decide_eq_false c19
             have c19b1 : decide (0 < x0_2.size) = false:=decide_eq_false (by omega)
             clear c19
             have H':=qd.mk H
             clear H
             try go_wp2
             have n0_ : qd (Kd.R (Kd.int .u8) 5 ((w16.setCell ⟨gb103,0,none⟩ (.int .u8 ((qJ l1 x20_2).f0))).setCell ⟨gb103,1,none⟩ (.int .u8 ((qJ l1 x20_2).f1))) w.heap.size (fun _ => True) u6 x6_2):=⟨by (with_reducible repeat (first|apply Kd.qy|apply Kd.qz|apply Kd.qC));exact Kd.qO (Kd.zY (p:=⟨gb103,1,none⟩) (Kd.zY (p:=⟨gb103,0,none⟩) (Kd.zT HO_6.out BK103.out (by decide)) (fun _ hk => hk.2) (.int .u8 ((qJ l1 x20_2).f0))) (fun _ hk => hk.2) (.int .u8 ((qJ l1 x20_2).f1))) (fun _ hk => trivial)⟩
             have n1_ : qd (((w16.setCell ⟨gb103,0,none⟩ (.int .u8 ((qJ l1 x20_2).f0))).setCell ⟨gb103,1,none⟩ (.int .u8 ((qJ l1 x20_2).f1))).heap[gb103]? = some (.cells #[.int .u8 ((qJ l1 x20_2).f0),.int .u8 ((qJ l1 x20_2).f1)] 38 (0,0))):=⟨by (with_reducible repeat (first|refine qx ?_ _|refine qA ?_|refine qw ?_ _));refine jh (cs:=#[.int .u8 ((qJ l1 x20_2).f0),.int .u8 0]) ?_ 1 _ rfl;(with_reducible repeat (first|refine qx ?_ _|refine qA ?_|refine qw ?_ _));refine jh (cs:=#[.int .u8 0,.int .u8 0]) ?_ 0 _ rfl;(with_reducible repeat (first|refine qx ?_ _|refine qA ?_|refine qw ?_ _));exact BK103.out⟩
             have n2_ : qd (Below w.heap.size w ((w16.setCell ⟨gb103,0,none⟩ (.int .u8 ((qJ l1 x20_2).f0))).setCell ⟨gb103,1,none⟩ (.int .u8 ((qJ l1 x20_2).f1)))):=⟨by repeat (first|(with_reducible first|exact HB.out|apply qg|apply qc|apply qf|refine qp ?_ GE103.out)|exact HB.out)⟩
             (try clear HO_6)
             (try clear BK103)
             (try clear HB)
             generalize ((w16.setCell ⟨gb103,0,none⟩ (.int .u8 ((qJ l1 x20_2).f0))).setCell ⟨gb103,1,none⟩ (.int .u8 ((qJ l1 x20_2).f1))) = w24 at n0_ n1_ n2_ ⊢
             have HO_6:=n0_
             have BK103:=n1_
             have HB:=n2_
             clear n0_ n1_ n2_
             have n0_:=qd.mk (Kd.qC HO_6.out)
             have n1_:=qd.mk (qA BK103.out)
             have n2_:=qd.mk (qf HB.out)
             clear HO_6
             clear BK103
             clear HB
             have HO_6:=n0_
             have BK103:=n1_
             have HB:=n2_
             clear n0_ n1_ n2_
             refine zN (n:=16) (S:=fun w' => w'.cell? ⟨gb103,0,none⟩ = some (.int .u8 ((qJ l1 x20_2).f0)) ∧ w'.cell? ⟨gb103,1,none⟩ = some (.int .u8 ((qJ l1 x20_2).f1))) (ds:=[]) #[false,false,false,false,false,false,false,false,false,false,false,false,false,false,false,false] (by kernel_rfl) rfl rfl ⟨(qi BK103.out 0).trans rfl,(qi BK103.out 1).trans rfl⟩ (fun hHeld => ?_);refine jT qB.Z5 qB.JL (fun HT_ HW_ => ?_)
             generalize w24.drew = w25 at HO_6 BK103 HB hHeld ⊢
             refine qL (i:=0) (N:=some 34) (v:=?_) (a':=?_) #[true,false,false,false,false,false,false,false,false,false,false,false,false,false,false,false] rfl rfl (qD HT_.out (by kernel_rfl)) (fun _ _ _ h => h) (Or.inl ⟨by rfl,?_⟩) ?_ ?_
             rotate_left
             ·intro w'
              go_simp
              with_reducible rfl
             rotate_left
             ·simp only [Act.put,List.setIfInBounds_toArray,List.set_cons_zero,List.set_cons_succ,qE,qF]
              rfl
             refine zz (i:=1) (N:=some 35) (v:=?_) (a':=?_) #[true,true,false,false,false,false,false,false,false,false,false,false,false,false,false,false] rfl rfl (jF HT_.out HW_.out (by kernel_rfl)) (fun _ _ _ h => h) (Or.inl ⟨by rfl,?_⟩) hHeld ?_ ?_
             rotate_left
             ·rintro w' ⟨s0,s1⟩
              go_simp
              with_reducible rfl
             rotate_left
             ·simp only [Act.put,List.setIfInBounds_toArray,List.set_cons_zero,List.set_cons_succ,qE,qF]
              rfl
             refine qL (i:=2) (N:=some 36) (v:=?_) (a':=?_) #[true,true,true,false,false,false,false,false,false,false,false,false,false,false,false,false] rfl rfl (qD HT_.out (by kernel_rfl)) (fun _ _ _ h => h) (Or.inl ⟨by rfl,?_⟩) ?_ ?_
             rotate_left
             ·intro w'
              go_simp
              with_reducible rfl
             rotate_left
             ·simp only [Act.put,List.setIfInBounds_toArray,List.set_cons_zero,List.set_cons_succ,qE,qF]
              rfl
             refine qL (i:=3) (N:=some 37) (v:=?_) (a':=?_) #[true,true,true,true,false,false,false,false,false,false,false,false,false,false,false,false] rfl rfl (qD HT_.out (by kernel_rfl)) (fun _ _ _ h => h) (Or.inl ⟨by rfl,?_⟩) ?_ ?_
             rotate_left
             ·intro w'
              go_simp
              with_reducible rfl
             rotate_left
             ·simp only [Act.put,List.setIfInBounds_toArray,List.set_cons_zero,List.set_cons_succ,qE,qF]
              rfl
             refine qL (i:=4) (N:=some 38) (v:=?_) (a':=?_) #[true,true,true,true,true,false,false,false,false,false,false,false,false,false,false,false] rfl rfl (qD HT_.out (by kernel_rfl)) (fun _ _ _ h => h) (Or.inl ⟨by rfl,?_⟩) ?_ ?_
             rotate_left
             ·intro w'
              go_simp
              with_reducible rfl
             rotate_left
             ·simp only [Act.put,List.setIfInBounds_toArray,List.set_cons_zero,List.set_cons_succ,qE,qF]
              rfl
             refine qL (i:=5) (N:=some 39) (v:=?_) (a':=?_) #[true,true,true,true,true,true,false,false,false,false,false,false,false,false,false,false] rfl rfl (qD HT_.out (by kernel_rfl)) (fun _ _ _ h => h) (Or.inl ⟨by rfl,?_⟩) ?_ ?_
             rotate_left
             ·intro w'
              go_simp
              with_reducible rfl
             rotate_left
             ·simp only [Act.put,List.setIfInBounds_toArray,List.set_cons_zero,List.set_cons_succ,qE,qF]
              rfl
             refine qL (i:=6) (N:=some 40) (v:=?_) (a':=?_) #[true,true,true,true,true,true,true,false,false,false,false,false,false,false,false,false] rfl rfl (qD HT_.out (by kernel_rfl)) (fun _ _ _ h => h) (Or.inl ⟨by rfl,?_⟩) ?_ ?_
             rotate_left
             ·intro w'
              go_simp
              with_reducible rfl
             rotate_left
             ·simp only [Act.put,List.setIfInBounds_toArray,List.set_cons_zero,List.set_cons_succ,qE,qF]
              rfl
             refine qL (i:=7) (N:=some 41) (v:=?_) (a':=?_) #[true,true,true,true,true,true,true,true,false,false,false,false,false,false,false,false] rfl rfl (qD HT_.out (by kernel_rfl)) (fun _ _ _ h => h) (Or.inl ⟨by rfl,?_⟩) ?_ ?_
             rotate_left
             ·intro w'
              go_simp
              with_reducible rfl
             rotate_left
             ·simp only [Act.put,List.setIfInBounds_toArray,List.set_cons_zero,List.set_cons_succ,qE,qF]
              rfl
             refine qL (i:=8) (N:=some 42) (v:=?_) (a':=?_) #[true,true,true,true,true,true,true,true,true,false,false,false,false,false,false,false] rfl rfl (qD HT_.out (by kernel_rfl)) (fun _ _ _ h => h) (Or.inl ⟨by rfl,?_⟩) ?_ ?_
             rotate_left
             ·intro w'
              go_simp
              with_reducible rfl
             rotate_left
             ·simp only [Act.put,List.setIfInBounds_toArray,List.set_cons_zero,List.set_cons_succ,qE,qF]
              rfl
             refine qL (i:=9) (N:=some 43) (v:=undef) (a':=?_) #[true,true,true,true,true,true,true,true,true,true,false,false,false,false,false,false] rfl rfl (qD HT_.out (by kernel_rfl)) (fun _ _ _ h => h) (Or.inr ⟨by rfl,rfl⟩) ?_ ?_
             rotate_left
             ·simp only [Act.put,List.setIfInBounds_toArray,List.set_cons_zero,List.set_cons_succ,qE,qF]
              rfl
             refine qL (i:=10) (N:=some 44) (v:=undef) (a':=?_) #[true,true,true,true,true,true,true,true,true,true,true,false,false,false,false,false] rfl rfl (qD HT_.out (by kernel_rfl)) (fun _ _ _ h => h) (Or.inr ⟨by rfl,rfl⟩) ?_ ?_
             rotate_left
             ·simp only [Act.put,List.setIfInBounds_toArray,List.set_cons_zero,List.set_cons_succ,qE,qF]
              rfl
             refine qL (i:=11) (N:=some 45) (v:=undef) (a':=?_) #[true,true,true,true,true,true,true,true,true,true,true,true,false,false,false,false] rfl rfl (qD HT_.out (by kernel_rfl)) (fun _ _ _ h => h) (Or.inr ⟨by rfl,rfl⟩) ?_ ?_
             rotate_left
             ·simp only [Act.put,List.setIfInBounds_toArray,List.set_cons_zero,List.set_cons_succ,qE,qF]
              rfl
             refine qL (i:=12) (N:=some 46) (v:=undef) (a':=?_) #[true,true,true,true,true,true,true,true,true,true,true,true,true,false,false,false] rfl rfl (qD HT_.out (by kernel_rfl)) (fun _ _ _ h => h) (Or.inr ⟨by rfl,rfl⟩) ?_ ?_
             rotate_left
             ·simp only [Act.put,List.setIfInBounds_toArray,List.set_cons_zero,List.set_cons_succ,qE,qF]
              rfl
             refine qL (i:=13) (N:=some 47) (v:=undef) (a':=?_) #[true,true,true,true,true,true,true,true,true,true,true,true,true,true,false,false] rfl rfl (qD HT_.out (by kernel_rfl)) (fun _ _ _ h => h) (Or.inr ⟨by rfl,rfl⟩) ?_ ?_
             rotate_left
             ·simp only [Act.put,List.setIfInBounds_toArray,List.set_cons_zero,List.set_cons_succ,qE,qF]
              rfl
             refine qL (i:=14) (N:=some 48) (v:=?_) (a':=?_) #[true,true,true,true,true,true,true,true,true,true,true,true,true,true,true,false] rfl rfl (qD HT_.out (by kernel_rfl)) (fun _ _ _ h => h) (Or.inl ⟨by rfl,?_⟩) ?_ ?_
             rotate_left
             ·intro w'
              go_simp
              with_reducible rfl
             rotate_left
             ·simp only [Act.put,List.setIfInBounds_toArray,List.set_cons_zero,List.set_cons_succ,qE,qF]
              rfl
             refine qL (i:=15) (N:=some 33) (v:=?_) (a':=?_) #[true,true,true,true,true,true,true,true,true,true,true,true,true,true,true,true] rfl rfl (qD HT_.out (by kernel_rfl)) (fun _ _ _ h => h) (Or.inl ⟨by rfl,?_⟩) ?_ ?_
             rotate_left
             ·intro w'
              go_simp
              with_reducible rfl
             rotate_left
             ·simp only [Act.put,List.setIfInBounds_toArray,List.set_cons_zero,List.set_cons_succ,qE,qF]
              rfl
             refine xL (zu HT_.out (by kernel_rfl)) ?_
             try go_wp2
             go_meet
             case rel => exact ⟨_,(false),(by first|rfl|(simp;done)|(simp [*];done)),H',⟨by have:=HJ2.out;have:=HK2.out;first|omega|exact Nat.le_refl _⟩,⟨by (with_reducible repeat (first|apply Kd.qy|apply Kd.qz|apply Kd.qC));exact HO_6.out⟩,⟨by (with_reducible repeat (first|refine qx ?_ _|refine qA ?_|refine qw ?_ _));exact BK103.out⟩,⟨by repeat (first|(with_reducible first|exact HB.out|apply qg|apply qc|apply qf|refine qp ?_ GE103.out)|exact HB.out)⟩⟩
           ·rw [if_neg c18] at H
            have c18b0 : (((qJ l1 x20_2).f0) == 2) = false:=beq_eq_false_iff_ne.mpr c18
            have c18b1 : (((qJ l1 x20_2).f0) != 2) = true:=bne_iff_ne.mpr c18
            (first|rw [c18b0]|(simp only [qE,qF];rw [c18b0])|skip)
            have H':=qd.mk H
            clear H
            try go_wp2
            have n0_ : qd (Kd.R (Kd.int .u8) 5 ((w16.setCell ⟨gb103,0,none⟩ (.int .u8 ((qJ l1 x20_2).f0))).setCell ⟨gb103,1,none⟩ (.int .u8 ((qJ l1 x20_2).f1))) w.heap.size (fun _ => True) u6 x6_2):=⟨by (with_reducible repeat (first|apply Kd.qy|apply Kd.qz|apply Kd.qC));exact Kd.qO (Kd.zY (p:=⟨gb103,1,none⟩) (Kd.zY (p:=⟨gb103,0,none⟩) (Kd.zT HO_6.out BK103.out (by decide)) (fun _ hk => hk.2) (.int .u8 ((qJ l1 x20_2).f0))) (fun _ hk => hk.2) (.int .u8 ((qJ l1 x20_2).f1))) (fun _ hk => trivial)⟩
            have n1_ : qd (((w16.setCell ⟨gb103,0,none⟩ (.int .u8 ((qJ l1 x20_2).f0))).setCell ⟨gb103,1,none⟩ (.int .u8 ((qJ l1 x20_2).f1))).heap[gb103]? = some (.cells #[.int .u8 ((qJ l1 x20_2).f0),.int .u8 ((qJ l1 x20_2).f1)] 38 (0,0))):=⟨by (with_reducible repeat (first|refine qx ?_ _|refine qA ?_|refine qw ?_ _));refine jh (cs:=#[.int .u8 ((qJ l1 x20_2).f0),.int .u8 0]) ?_ 1 _ rfl;(with_reducible repeat (first|refine qx ?_ _|refine qA ?_|refine qw ?_ _));refine jh (cs:=#[.int .u8 0,.int .u8 0]) ?_ 0 _ rfl;(with_reducible repeat (first|refine qx ?_ _|refine qA ?_|refine qw ?_ _));exact BK103.out⟩
            have n2_ : qd (Below w.heap.size w ((w16.setCell ⟨gb103,0,none⟩ (.int .u8 ((qJ l1 x20_2).f0))).setCell ⟨gb103,1,none⟩ (.int .u8 ((qJ l1 x20_2).f1)))):=⟨by repeat (first|(with_reducible first|exact HB.out|apply qg|apply qc|apply qf|refine qp ?_ GE103.out)|exact HB.out)⟩
            (try clear HO_6)
            (try clear BK103)
            (try clear HB)
            generalize ((w16.setCell ⟨gb103,0,none⟩ (.int .u8 ((qJ l1 x20_2).f0))).setCell ⟨gb103,1,none⟩ (.int .u8 ((qJ l1 x20_2).f1))) = w26 at n0_ n1_ n2_ ⊢
            have HO_6:=n0_
            have BK103:=n1_
            have HB:=n2_
            clear n0_ n1_ n2_
            have n0_:=qd.mk (Kd.qC HO_6.out)
            have n1_:=qd.mk (qA BK103.out)
            have n2_:=qd.mk (qf HB.out)
            clear HO_6
            clear BK103
            clear HB
            have HO_6:=n0_
            have BK103:=n1_
            have HB:=n2_
            clear n0_ n1_ n2_
            refine zN (n:=16) (S:=fun w' => w'.cell? ⟨gb103,0,none⟩ = some (.int .u8 ((qJ l1 x20_2).f0)) ∧ w'.cell? ⟨gb103,1,none⟩ = some (.int .u8 ((qJ l1 x20_2).f1))) (ds:=[]) #[false,false,false,false,false,false,false,false,false,false,false,false,false,false,false,false] (by kernel_rfl) rfl rfl ⟨(qi BK103.out 0).trans rfl,(qi BK103.out 1).trans rfl⟩ (fun hHeld => ?_);refine jT qB.Z5 qB.JL (fun HT_ HW_ => ?_)
            generalize w26.drew = w27 at HO_6 BK103 HB hHeld ⊢
            refine qL (i:=0) (N:=some 34) (v:=?_) (a':=?_) #[true,false,false,false,false,false,false,false,false,false,false,false,false,false,false,false] rfl rfl (qD HT_.out (by kernel_rfl)) (fun _ _ _ h => h) (Or.inl ⟨by rfl,?_⟩) ?_ ?_
            rotate_left
            ·intro w'
             go_simp
             with_reducible rfl
            rotate_left
            ·simp only [Act.put,List.setIfInBounds_toArray,List.set_cons_zero,List.set_cons_succ,qE,qF]
             rfl
            refine zz (i:=1) (N:=some 35) (v:=?_) (a':=?_) #[true,true,false,false,false,false,false,false,false,false,false,false,false,false,false,false] rfl rfl (jF HT_.out HW_.out (by kernel_rfl)) (fun _ _ _ h => h) (Or.inl ⟨by rfl,?_⟩) hHeld ?_ ?_
            rotate_left
            ·rintro w' ⟨s0,s1⟩
             go_simp
             with_reducible rfl
            rotate_left
            ·simp only [Act.put,List.setIfInBounds_toArray,List.set_cons_zero,List.set_cons_succ,qE,qF]
             rfl
            refine qL (i:=2) (N:=some 36) (v:=?_) (a':=?_) #[true,true,true,false,false,false,false,false,false,false,false,false,false,false,false,false] rfl rfl (qD HT_.out (by kernel_rfl)) (fun _ _ _ h => h) (Or.inl ⟨by rfl,?_⟩) ?_ ?_
            rotate_left
            ·intro w'
             go_simp
             with_reducible rfl
            rotate_left
            ·simp only [Act.put,List.setIfInBounds_toArray,List.set_cons_zero,List.set_cons_succ,qE,qF]
             rfl
            refine qL (i:=3) (N:=some 37) (v:=?_) (a':=?_) #[true,true,true,true,false,false,false,false,false,false,false,false,false,false,false,false] rfl rfl (qD HT_.out (by kernel_rfl)) (fun _ _ _ h => h) (Or.inl ⟨by rfl,?_⟩) ?_ ?_
            rotate_left
            ·intro w'
             go_simp
             with_reducible rfl
            rotate_left
            ·simp only [Act.put,List.setIfInBounds_toArray,List.set_cons_zero,List.set_cons_succ,qE,qF]
             rfl
            refine qL (i:=4) (N:=some 38) (v:=undef) (a':=?_) #[true,true,true,true,true,false,false,false,false,false,false,false,false,false,false,false] rfl rfl (qD HT_.out (by kernel_rfl)) (fun _ _ _ h => h) (Or.inr ⟨by rfl,rfl⟩) ?_ ?_
            rotate_left
            ·simp only [Act.put,List.setIfInBounds_toArray,List.set_cons_zero,List.set_cons_succ,qE,qF]
             rfl
            refine qL (i:=5) (N:=some 39) (v:=undef) (a':=?_) #[true,true,true,true,true,true,false,false,false,false,false,false,false,false,false,false] rfl rfl (qD HT_.out (by kernel_rfl)) (fun _ _ _ h => h) (Or.inr ⟨by rfl,rfl⟩) ?_ ?_
            rotate_left
            ·simp only [Act.put,List.setIfInBounds_toArray,List.set_cons_zero,List.set_cons_succ,qE,qF]
             rfl
            refine qL (i:=6) (N:=some 40) (v:=undef) (a':=?_) #[true,true,true,true,true,true,true,false,false,false,false,false,false,false,false,false] rfl rfl (qD HT_.out (by kernel_rfl)) (fun _ _ _ h => h) (Or.inr ⟨by rfl,rfl⟩) ?_ ?_
            rotate_left
            ·simp only [Act.put,List.setIfInBounds_toArray,List.set_cons_zero,List.set_cons_succ,qE,qF]
             rfl
            refine qL (i:=7) (N:=some 41) (v:=?_) (a':=?_) #[true,true,true,true,true,true,true,true,false,false,false,false,false,false,false,false] rfl rfl (qD HT_.out (by kernel_rfl)) (fun _ _ _ h => h) (Or.inl ⟨by rfl,?_⟩) ?_ ?_
            rotate_left
            ·intro w'
             go_simp
             with_reducible rfl
            rotate_left
            ·simp only [Act.put,List.setIfInBounds_toArray,List.set_cons_zero,List.set_cons_succ,qE,qF]
             rfl
            refine qL (i:=8) (N:=some 42) (v:=?_) (a':=?_) #[true,true,true,true,true,true,true,true,true,false,false,false,false,false,false,false] rfl rfl (qD HT_.out (by kernel_rfl)) (fun _ _ _ h => h) (Or.inl ⟨by rfl,?_⟩) ?_ ?_
            rotate_left
            ·intro w'
             go_simp
             with_reducible rfl
            rotate_left
            ·simp only [Act.put,List.setIfInBounds_toArray,List.set_cons_zero,List.set_cons_succ,qE,qF]
             rfl
            refine qL (i:=9) (N:=some 43) (v:=undef) (a':=?_) #[true,true,true,true,true,true,true,true,true,true,false,false,false,false,false,false] rfl rfl (qD HT_.out (by kernel_rfl)) (fun _ _ _ h => h) (Or.inr ⟨by rfl,rfl⟩) ?_ ?_
            rotate_left
            ·simp only [Act.put,List.setIfInBounds_toArray,List.set_cons_zero,List.set_cons_succ,qE,qF]
             rfl
            refine qL (i:=10) (N:=some 44) (v:=undef) (a':=?_) #[true,true,true,true,true,true,true,true,true,true,true,false,false,false,false,false] rfl rfl (qD HT_.out (by kernel_rfl)) (fun _ _ _ h => h) (Or.inr ⟨by rfl,rfl⟩) ?_ ?_
            rotate_left
            ·simp only [Act.put,List.setIfInBounds_toArray,List.set_cons_zero,List.set_cons_succ,qE,qF]
             rfl
            refine qL (i:=11) (N:=some 45) (v:=undef) (a':=?_) #[true,true,true,true,true,true,true,true,true,true,true,true,false,false,false,false] rfl rfl (qD HT_.out (by kernel_rfl)) (fun _ _ _ h => h) (Or.inr ⟨by rfl,rfl⟩) ?_ ?_
            rotate_left
            ·simp only [Act.put,List.setIfInBounds_toArray,List.set_cons_zero,List.set_cons_succ,qE,qF]
             rfl
            refine qL (i:=12) (N:=some 46) (v:=undef) (a':=?_) #[true,true,true,true,true,true,true,true,true,true,true,true,true,false,false,false] rfl rfl (qD HT_.out (by kernel_rfl)) (fun _ _ _ h => h) (Or.inr ⟨by rfl,rfl⟩) ?_ ?_
            rotate_left
            ·simp only [Act.put,List.setIfInBounds_toArray,List.set_cons_zero,List.set_cons_succ,qE,qF]
             rfl
            refine qL (i:=13) (N:=some 47) (v:=undef) (a':=?_) #[true,true,true,true,true,true,true,true,true,true,true,true,true,true,false,false] rfl rfl (qD HT_.out (by kernel_rfl)) (fun _ _ _ h => h) (Or.inr ⟨by rfl,rfl⟩) ?_ ?_
            rotate_left
            ·simp only [Act.put,List.setIfInBounds_toArray,List.set_cons_zero,List.set_cons_succ,qE,qF]
             rfl
            refine qL (i:=14) (N:=some 48) (v:=?_) (a':=?_) #[true,true,true,true,true,true,true,true,true,true,true,true,true,true,true,false] rfl rfl (qD HT_.out (by kernel_rfl)) (fun _ _ _ h => h) (Or.inl ⟨by rfl,?_⟩) ?_ ?_
            rotate_left
            ·intro w'
             go_simp
             with_reducible rfl
            rotate_left
            ·simp only [Act.put,List.setIfInBounds_toArray,List.set_cons_zero,List.set_cons_succ,qE,qF]
             rfl
            refine qL (i:=15) (N:=some 33) (v:=?_) (a':=?_) #[true,true,true,true,true,true,true,true,true,true,true,true,true,true,true,true] rfl rfl (qD HT_.out (by kernel_rfl)) (fun _ _ _ h => h) (Or.inl ⟨by rfl,?_⟩) ?_ ?_
            rotate_left
            ·intro w'
             go_simp
             with_reducible rfl
            rotate_left
            ·simp only [Act.put,List.setIfInBounds_toArray,List.set_cons_zero,List.set_cons_succ,qE,qF]
             rfl
            refine xL (zu HT_.out (by kernel_rfl)) ?_
            try go_wp2
            go_meet
            case rel => exact ⟨_,(false),(by first|rfl|(simp;done)|(simp [*];done)),H',⟨by have:=HJ2.out;have:=HK2.out;first|omega|exact Nat.le_refl _⟩,⟨by (with_reducible repeat (first|apply Kd.qy|apply Kd.qz|apply Kd.qC));exact HO_6.out⟩,⟨by (with_reducible repeat (first|refine qx ?_ _|refine qA ?_|refine qw ?_ _));exact BK103.out⟩,⟨by repeat (first|(with_reducible first|exact HB.out|apply qg|apply qc|apply qf|refine qp ?_ GE103.out)|exact HB.out)⟩⟩
          case rest =>
           clear HC15
           try clear c1
           try clear p1
           try clear q1
           try clear hx1
           try clear c2
           try clear p2
           try clear q2
           try clear hx2
           try clear qi2
           try clear c4
           try clear c4b0
           try clear c4b1
           try clear c5
           try clear c6
           try clear c6b0
           try clear p6
           try clear c7
           try clear c7b0
           try clear c8
           try clear c8b0
           try clear c9
           try clear c9b0
           try clear c9b1
           try clear c10
           try clear p10
           try clear q10
           try clear hx10
           try clear c11
           try clear c11b0
           try clear c11b1
           try clear c18
           try clear c18b0
           try clear c18b1
           try clear c19
           try clear c19b0
           try clear c19b1
           try clear c20
           try clear c20b0
           try clear c20b1
           try clear p21
           try clear q21
           try clear hx21
           try clear qi21
           try clear hcz13_0
           try clear hcz13_1
           try clear hcz17_0
           try clear hcz17_1
           try clear hfz13_0
           try clear hfz13_1
           try clear hfz17_0
           try clear hfz17_1
           try clear hx102_0
           try clear hx102_1
           try clear p102
           try clear p2
           try clear p21
           try clear q102
           try clear q21
           obtain ⟨kq,x33_14,rfl,HA,HJ14,HO_6,BK103,HB⟩:=hcut
           cases kq with
           | zero => exact absurd HA.out (by simp [qB.j2])
           | succ kj14 =>
            have H:=HA.out
            clear HA
            simp only [qB.j2] at H
            by_cases c28 : x33_14 = true
            ·subst c28
             have H1 : (if x6_2.length < 140737488355328 then (if 1 ≤ (x0_2.size : Int) then (qB.l0 kj14 (x0_2.extract 1 x0_2.size) (x6_2 ++ [((qJ l1 x20_2).f1)]) l1 (l1.length : Int) (wrap64 (x20_2 + 1))) else (none)) else (none)) = some (r1,r2):=by rw [if_pos rfl] at H;exact H
             clear H
             have H:=H1
             clear H1
             by_cases c29 : x6_2.length < 140737488355328
             ·rw [if_pos c29] at H
              have LMc29:=qd.mk c29
              clear c29
              obtain ⟨y107,hy107⟩ : ∃ y_ : List Int,y_ = (x6_2 ++ [((qJ l1 x20_2).f1)]):=⟨_,rfl⟩
              replace H : (if 1 ≤ (x0_2.size : Int) then (qB.l0 kj14 (x0_2.extract 1 x0_2.size) y107 l1 (l1.length : Int) (wrap64 (x20_2 + 1))) else (none)) = some (r1,r2):=by first|(rw [hy107];with_reducible exact H)|(have H2_:=(Option.bind_some _ _).symm.trans H;rw [hy107];with_reducible exact H2_)|(have H2_:=(Option.bind_some _ _).symm.trans H;with_reducible exact H2_)|with_reducible exact H|(rw [hy107];exact H)|exact H
              have Ny107:=qd.mk hy107
              clear hy107
              by_cases c30 : 1 ≤ (x0_2.size : Int)
              ·rw [if_pos c30] at H
               have c30b0:=eq_true c30
               have c30b1 : decide (1 ≤ (x0_2.size : Int)) = true:=decide_eq_true c30
               clear c30
               have H':=qd.mk H
               clear H
               have hcz31_0 : wc.cell? ⟨gb103,0,none⟩ = some (.int .u8 ((qJ l1 x20_2).f0)):=(qi BK103.out 0).trans rfl
               have hcz31_1 : wc.cell? ⟨gb103,1,none⟩ = some (.int .u8 ((qJ l1 x20_2).f1)):=(qi BK103.out 1).trans rfl
               have hfz31_0:=ql BK103.out 0
               have hfz31_1:=ql BK103.out 1
               go_wp2_with (first|((with_reducible refine xg (b:=.append) (xs:=#[.tmp 49,.tmp 52]) rfl ?_);(try (refine jm (by rfl) ?_;dsimp only));at_builtin;refine Kd.zo (Kd.int .u8) (w0:=w) w.heap.size rfl (.tmp 49) (.tmp 52) 66 5 (.int .u8 0) 1 rfl Try.underlying66 info5 rfl (by decide) (by omega) u6 x6_2 ((qJ l1 x20_2).f1) [.int .u8 ((qJ l1 x20_2).f1)] (fun _ => True) (fun _ => False) rfl rfl ?aP (fun _ hk => hk.elim) ?aF ?aO ?aB ?aS ?aL ?_;(case aP => exact rfl);(case aB => exact (by repeat (first|(with_reducible first|exact HB.out|apply qg|apply qc|apply qf|refine qp ?_ GE103.out)|exact HB.out)));(case aF => exact (fun _ _ => trivial));(case aO => exact (by (with_reducible repeat (first|apply Kd.qy|apply Kd.qz|apply Kd.qC));exact HO_6.out));(case aS => exact (qH (by repeat (first|(with_reducible first|exact HB.out|apply qg|apply qc|apply qf|refine qp ?_ GE103.out)|exact HB.out))));(case aL => have:=LMc29.out;omega);intro v108 w32 ho hb hg hat;rw [← Ny107.out] at ho;have n0_:=qd.mk (zG (g:=gb103) (o:=.cells #[.int .u8 ((qJ l1 x20_2).f0),.int .u8 ((qJ l1 x20_2).f1)] 38 (0,0)) (by (with_reducible repeat (first|refine qx ?_ _|refine qA ?_|refine qw ?_ _));exact BK103.out) hg (Kd.R_ne HO_6.out BK103.out (by decide)));have n1_:=qd.mk (hb);have n2_:=qd.mk (ho);clear BK103;clear HB;clear HO_6;have BK103:=n0_;have HB:=n1_;have HO109:=n2_;clear n0_ n1_ n2_;clear ho hb hg hat))
               go_roundg kj14
               case measure => have:=HJ2.out;have:=HK2.out;have:=HJ14.out;omega
               case rel => exact ⟨(x0_2.extract 1 x0_2.size),(y107),(wrap64 (x20_2 + 1)),(by first|rfl|(simp;done)|(simp [*];done)),(by first|rfl|(simp;done)|(simp [*];done)),H',⟨by have:=HJ2.out;have:=HK2.out;have:=HJ14.out;omega⟩,⟨by (with_reducible repeat (first|apply Kd.qy|apply Kd.qz|apply Kd.qC));exact HO109.out⟩,⟨by repeat (first|(with_reducible first|exact HB.out|apply qg|apply qc|apply qf|refine qp ?_ GE103.out)|exact HB.out)⟩⟩
              ·rw [if_neg c30] at H
               exact absurd H (by simp)
             ·rw [if_neg c29] at H
              exact absurd H (by simp)
            ·replace c28:=Bool.eq_false_iff.mpr c28
             subst c28
             have H1 : (if ((qJ l1 x20_2).f1) = 0 then (if ((qJ l1 x20_2).f0) = 1 then (qB.j3 kj14 x0_2 x6_2 l1 (l1.length : Int) x20_2 (decide ((x0_2.size : Int) > 0)) ((qJ l1 x20_2).f0) ((qJ l1 x20_2).f1)) else (qB.j3 kj14 x0_2 x6_2 l1 (l1.length : Int) x20_2 false ((qJ l1 x20_2).f0) ((qJ l1 x20_2).f1))) else (some ((⟨#[]⟩ : ByteArray),60))) = some (r1,r2):=by rw [if_neg (show ¬ (false = true) by decide)] at H;exact H
             clear H
             have H:=H1
             clear H1
             by_cases c33 : ((qJ l1 x20_2).f1) = 0
             ·rw [if_pos c33] at H
              have c33b0 : (((qJ l1 x20_2).f1) == 0) = true:=beq_iff_eq.mpr c33
              have c33b1 : (((qJ l1 x20_2).f1) != 0) = false:=bne_eq_false_iff_eq.mpr c33
              clear c33
              have HC34:=qd.mk H
              clear H
              have hcz35_0 : wc.cell? ⟨gb103,0,none⟩ = some (.int .u8 ((qJ l1 x20_2).f0)):=(qi BK103.out 0).trans rfl
              have hcz35_1 : wc.cell? ⟨gb103,1,none⟩ = some (.int .u8 ((qJ l1 x20_2).f1)):=(qi BK103.out 1).trans rfl
              have hfz35_0:=ql BK103.out 0
              have hfz35_1:=ql BK103.out 1
              go_upto_region 16 with (fail)
              go_cut [58] (fun v58 wc => ∃ (kq : Nat) (x58_33 : Bool),v58 = .bool x58_33 ∧ qd (qB.j3 kq x0_2 x6_2 l1 (l1.length : Int) x20_2 x58_33 ((qJ l1 x20_2).f0) ((qJ l1 x20_2).f1) = some (r1,r2)) ∧ qd (kq ≤ kj14) ∧ qd (Kd.R (Kd.int .u8) 5 wc w.heap.size (fun _ => True) u6 x6_2) ∧ qd (wc.heap[gb103]? = some (.cells #[.int .u8 ((qJ l1 x20_2).f0),.int .u8 ((qJ l1 x20_2).f1)] 38 (0,0))) ∧ qd (Below w.heap.size w wc))
              case first =>
               have H:=HC34.out
               clear HC34
               by_cases c36 : ((qJ l1 x20_2).f0) = 1
               ·rw [if_pos c36] at H
                have c36b0 : (((qJ l1 x20_2).f0) == 1) = true:=beq_iff_eq.mpr c36
                have c36b1 : (((qJ l1 x20_2).f0) != 1) = false:=bne_eq_false_iff_eq.mpr c36
                clear c36
                (first|rw [c36b0]|(simp only [qE,qF];rw [c36b0])|skip)
                have H':=qd.mk H
                clear H
                have hcz37_0 : wc.cell? ⟨gb103,0,none⟩ = some (.int .u8 ((qJ l1 x20_2).f0)):=(qi BK103.out 0).trans rfl
                have hcz37_1 : wc.cell? ⟨gb103,1,none⟩ = some (.int .u8 ((qJ l1 x20_2).f1)):=(qi BK103.out 1).trans rfl
                have hfz37_0:=ql BK103.out 0
                have hfz37_1:=ql BK103.out 1
                go_wp2
                go_meet
                case rel => exact ⟨_,(decide ((x0_2.size : Int) > 0)),(by first|rfl|(simp;done)|(simp [*];done)),H',⟨by have:=HJ2.out;have:=HK2.out;have:=HJ14.out;first|omega|exact Nat.le_refl _⟩,⟨by (with_reducible repeat (first|apply Kd.qy|apply Kd.qz|apply Kd.qC));exact HO_6.out⟩,⟨by (with_reducible repeat (first|refine qx ?_ _|refine qA ?_|refine qw ?_ _));exact BK103.out⟩,⟨by repeat (first|(with_reducible first|exact HB.out|apply qg|apply qc|apply qf|refine qp ?_ GE103.out)|exact HB.out)⟩⟩
               ·rw [if_neg c36] at H
                have c36b0 : (((qJ l1 x20_2).f0) == 1) = false:=beq_eq_false_iff_ne.mpr c36
                have c36b1 : (((qJ l1 x20_2).f0) != 1) = true:=bne_iff_ne.mpr c36
                (first|rw [c36b0]|(simp only [qE,qF];rw [c36b0])|skip)
                have H':=qd.mk H
                clear H
                have hcz38_0 : wc.cell? ⟨gb103,0,none⟩ = some (.int .u8 ((qJ l1 x20_2).f0)):=(qi BK103.out 0).trans rfl
                have hcz38_1 : wc.cell? ⟨gb103,1,none⟩ = some (.int .u8 ((qJ l1 x20_2).f1)):=(qi BK103.out 1).trans rfl
                have hfz38_0:=ql BK103.out 0
                have hfz38_1:=ql BK103.out 1
                go_wp2
                go_meet
                case rel => exact ⟨_,(false),(by first|rfl|(simp;done)|(simp [*];done)),H',⟨by have:=HJ2.out;have:=HK2.out;have:=HJ14.out;first|omega|exact Nat.le_refl _⟩,⟨by (with_reducible repeat (first|apply Kd.qy|apply Kd.qz|apply Kd.qC));exact HO_6.out⟩,⟨by (with_reducible repeat (first|refine qx ?_ _|refine qA ?_|refine qw ?_ _));exact BK103.out⟩,⟨by repeat (first|(with_reducible first|exact HB.out|apply qg|apply qc|apply qf|refine qp ?_ GE103.out)|exact HB.out)⟩⟩
              case rest =>
               clear HC34
               try clear c1
               try clear p1
               try clear q1
               try clear hx1
               try clear c2
               try clear p2
               try clear q2
               try clear hx2
               try clear qi2
               try clear c3
               try clear c4
               try clear c4b0
               try clear c4b1
               try clear c5
               try clear c6
               try clear c6b0
               try clear p6
               try clear c7
               try clear c7b0
               try clear c8
               try clear c8b0
               try clear c9
               try clear c9b0
               try clear c9b1
               try clear c10
               try clear p10
               try clear q10
               try clear hx10
               try clear c11
               try clear c11b0
               try clear c11b1
               try clear c18
               try clear c18b0
               try clear c18b1
               try clear c19
               try clear c19b0
               try clear c19b1
               try clear c20
               try clear c20b0
               try clear c20b1
               try clear p21
               try clear q21
               try clear hx21
               try clear qi21
               try clear c28
               try clear c29
               try clear c30
               try clear c30b0
               try clear c30b1
               try clear c33
               try clear c33b0
               try clear c33b1
               try clear c36
               try clear c36b0
               try clear c36b1
               try clear hcz13_0
               try clear hcz13_1
               try clear hcz17_0
               try clear hcz17_1
               try clear hcz31_0
               try clear hcz31_1
               try clear hcz35_0
               try clear hcz35_1
               try clear hcz37_0
               try clear hcz37_1
               try clear hcz38_0
               try clear hcz38_1
               try clear hfz13_0
               try clear hfz13_1
               try clear hfz17_0
               try clear hfz17_1
               try clear hfz31_0
               try clear hfz31_1
               try clear hfz35_0
               try clear hfz35_1
               try clear hfz37_0
               try clear hfz37_1
               try clear hfz38_0
               try clear hfz38_1
               try clear hx102_0
               try clear hx102_1
               try clear p1
               try clear p10
               try clear p102
               try clear p2
               try clear p21
               try clear p6
               try clear q1
               try clear q10
               try clear q102
               try clear q2
               try clear q21
               obtain ⟨kq,x58_33,rfl,HA,HJ33,HO_6,BK103,HB⟩:=hcut
               cases kq with
               | zero => exact absurd HA.out (by simp [qB.j3])
               | succ kj33 =>
                have H:=HA.out
                clear HA
                simp only [qB.j3] at H
                by_cases c39 : x58_33 = true
                ·subst c39
                 have H1 : (if 0 < (x0_2.size : Int) then (if x6_2.length < 140737488355328 then (if 1 ≤ (x0_2.size : Int) then (qB.l0 kj33 (x0_2.extract 1 x0_2.size) (x6_2 ++ [bt x0_2 0]) l1 (l1.length : Int) (wrap64 (x20_2 + 1))) else (none)) else (none)) else (none)) = some (r1,r2):=by rw [if_pos rfl] at H;exact H
                 clear H
                 have H:=H1
                 clear H1
                 by_cases c40 : 0 < (x0_2.size : Int)
                 ·rw [if_pos c40] at H
                  have c40b0 : decide (0 < (x0_2.size : Int)) = true:=decide_eq_true c40
                  have c40b1 : decide (0 < x0_2.size) = true:=decide_eq_true (by omega)
                  clear c40
                  by_cases c42 : x6_2.length < 140737488355328
                  ·rw [if_pos c42] at H
                   have LMc42:=qd.mk c42
                   clear c42
                   obtain ⟨y110,hy110⟩ : ∃ y_ : List Int,y_ = (x6_2 ++ [bt x0_2 0]):=⟨_,rfl⟩
                   replace H : (if 1 ≤ (x0_2.size : Int) then (qB.l0 kj33 (x0_2.extract 1 x0_2.size) y110 l1 (l1.length : Int) (wrap64 (x20_2 + 1))) else (none)) = some (r1,r2):=by first|(rw [hy110];with_reducible exact H)|(have H2_:=(Option.bind_some _ _).symm.trans H;rw [hy110];with_reducible exact H2_)|(have H2_:=(Option.bind_some _ _).symm.trans H;with_reducible exact H2_)|with_reducible exact H|(rw [hy110];exact H)|exact H
                   have Ny110:=qd.mk hy110
                   clear hy110
                   by_cases c43 : 1 ≤ (x0_2.size : Int)
                   ·rw [if_pos c43] at H
                    have c43b0:=eq_true c43
                    have c43b1 : decide (1 ≤ (x0_2.size : Int)) = true:=decide_eq_true c43
                    clear c43
                    have H':=qd.mk H
                    clear H
                    have p41 : 0 ≤ (0 : Int):=(by omega)
                    have q41 : 0 < x0_2.size:=(by have : (0 : Int) < (x0_2.size : Int):=of_decide_eq_true (by first|(with_reducible assumption)|assumption);omega)
                    have hx41 : ∀ h : 0 < x0_2.size,((x0_2[0]'h).toNat : Int) = bt x0_2 0:=jI x0_2 0
                    clear p41
                    have qi41 : (0 < (x0_2.size : Int)) = True:=eq_true (of_decide_eq_true (by first|(with_reducible assumption)|assumption))
                    replace q41:=eq_true q41
                    go_wp2_with (first|((with_reducible refine xg (b:=.append) (xs:=#[.tmp 67,.tmp 70]) rfl ?_);(try (refine jm (by rfl) ?_;dsimp only));at_builtin;refine Kd.zo (Kd.int .u8) (w0:=w) w.heap.size rfl (.tmp 67) (.tmp 70) 66 5 (.int .u8 0) 1 rfl Try.underlying66 info5 rfl (by decide) (by omega) u6 x6_2 (bt x0_2 0) [.int .u8 (bt x0_2 0)] (fun _ => True) (fun _ => False) rfl rfl ?aP (fun _ hk => hk.elim) ?aF ?aO ?aB ?aS ?aL ?_;(case aP => exact rfl);(case aB => exact (by repeat (first|(with_reducible first|exact HB.out|apply qg|apply qc|apply qf|refine qp ?_ GE103.out)|exact HB.out)));(case aF => exact (fun _ _ => trivial));(case aO => exact (by (with_reducible repeat (first|apply Kd.qy|apply Kd.qz|apply Kd.qC));exact HO_6.out));(case aS => exact (qH (by repeat (first|(with_reducible first|exact HB.out|apply qg|apply qc|apply qf|refine qp ?_ GE103.out)|exact HB.out))));(case aL => have:=LMc42.out;omega);intro v111 w44 ho hb hg hat;rw [← Ny110.out] at ho;have n0_:=qd.mk (zG (g:=gb103) (o:=.cells #[.int .u8 ((qJ l1 x20_2).f0),.int .u8 ((qJ l1 x20_2).f1)] 38 (0,0)) (by (with_reducible repeat (first|refine qx ?_ _|refine qA ?_|refine qw ?_ _));exact BK103.out) hg (Kd.R_ne HO_6.out BK103.out (by decide)));have n1_:=qd.mk (hb);have n2_:=qd.mk (ho);clear BK103;clear HB;clear HO_6;have BK103:=n0_;have HB:=n1_;have HO112:=n2_;clear n0_ n1_ n2_;clear ho hb hg hat))
                    go_roundg kj33
                    case measure => have:=HJ2.out;have:=HK2.out;have:=HJ14.out;have:=HJ33.out;omega
                    case rel => exact ⟨(x0_2.extract 1 x0_2.size),(y110),(wrap64 (x20_2 + 1)),(by first|rfl|(simp;done)|(simp [*];done)),(by first|rfl|(simp;done)|(simp [*];done)),H',⟨by have:=HJ2.out;have:=HK2.out;have:=HJ14.out;have:=HJ33.out;omega⟩,⟨by (with_reducible repeat (first|apply Kd.qy|apply Kd.qz|apply Kd.qC));exact HO112.out⟩,⟨by repeat (first|(with_reducible first|exact HB.out|apply qg|apply qc|apply qf|refine qp ?_ GE103.out)|exact HB.out)⟩⟩
                   ·rw [if_neg c43] at H
                    exact absurd H (by simp)
                  ·rw [if_neg c42] at H
                   exact absurd H (by simp)
                 ·rw [if_neg c40] at H
                  exact absurd H (by simp)
                ·replace c39:=Bool.eq_false_iff.mpr c39
                 subst c39
                 have H1 : (if ((qJ l1 x20_2).f0) = 3 then (if (x0_2.size : Int) > 1 then (if 0 < (x0_2.size : Int) then (if 1 < (x0_2.size : Int) then (qB.j4 kj33 x0_2 x6_2 l1 (l1.length : Int) x20_2 ((bt x0_2 0) != (bt x0_2 1)) ((qJ l1 x20_2).f0) ((qJ l1 x20_2).f1)) else (none)) else (none)) else (qB.j4 kj33 x0_2 x6_2 l1 (l1.length : Int) x20_2 false ((qJ l1 x20_2).f0) ((qJ l1 x20_2).f1))) else (qB.j4 kj33 x0_2 x6_2 l1 (l1.length : Int) x20_2 false ((qJ l1 x20_2).f0) ((qJ l1 x20_2).f1))) = some (r1,r2):=by rw [if_neg (show ¬ (false = true) by decide)] at H;exact H
                 clear H
                 have H:=H1
                 clear H1
                 have HC45:=qd.mk H
                 clear H
                 go_upto_region 19 with (fail)
                 go_cut [72] (fun v72 wc => ∃ (kq : Nat) (x72_44 : Bool),v72 = .bool x72_44 ∧ qd (qB.j4 kq x0_2 x6_2 l1 (l1.length : Int) x20_2 x72_44 ((qJ l1 x20_2).f0) ((qJ l1 x20_2).f1) = some (r1,r2)) ∧ qd (kq ≤ kj33) ∧ qd (Kd.R (Kd.int .u8) 5 wc w.heap.size (fun _ => True) u6 x6_2) ∧ qd (wc.heap[gb103]? = some (.cells #[.int .u8 ((qJ l1 x20_2).f0),.int .u8 ((qJ l1 x20_2).f1)] 38 (0,0))) ∧ qd (Below w.heap.size w wc))
                 case first =>
                  have H:=HC45.out
                  clear HC45
                  by_cases c46 : ((qJ l1 x20_2).f0) = 3
                  ·rw [if_pos c46] at H
                   have c46b0 : (((qJ l1 x20_2).f0) == 3) = true:=beq_iff_eq.mpr c46
                   have c46b1 : (((qJ l1 x20_2).f0) != 3) = false:=bne_eq_false_iff_eq.mpr c46
                   clear c46
                   (first|rw [c46b0]|(simp only [qE,qF];rw [c46b0])|skip)
                   by_cases c47 : (x0_2.size : Int) > 1
                   ·rw [if_pos c47] at H
                    have c47b0 : decide (1 < (x0_2.size : Int)) = true:=decide_eq_true c47
                    have c47b1 : decide (1 < x0_2.size) = true:=decide_eq_true (by omega)
                    clear c47
                    by_cases c48 : 0 < (x0_2.size : Int)
                    ·rw [if_pos c48] at H
                     have c48b0 : decide (0 < (x0_2.size : Int)) = true:=decide_eq_true c48
                     have c48b1 : decide (0 < x0_2.size) = true:=decide_eq_true (by omega)
                     clear c48
                     by_cases c50 : 1 < (x0_2.size : Int)
                     ·rw [if_pos c50] at H
                      have c50b0 : decide (1 < (x0_2.size : Int)) = true:=decide_eq_true c50
                      have c50b1 : decide (1 < x0_2.size) = true:=decide_eq_true (by omega)
                      clear c50
                      have H':=qd.mk H
                      clear H
                      try go_wp2
                      have n0_:=qd.mk (Kd.qC HO_6.out)
                      have n1_:=qd.mk (qA BK103.out)
                      have n2_:=qd.mk (qf HB.out)
                      clear HO_6
                      clear BK103
                      clear HB
                      have HO_6:=n0_
                      have BK103:=n1_
                      have HB:=n2_
                      clear n0_ n1_ n2_
                      have p49 : 0 ≤ (0 : Int):=(by omega)
                      have q49 : 0 < x0_2.size:=(by have : (0 : Int) < (x0_2.size : Int):=of_decide_eq_true (by first|(with_reducible assumption)|assumption);omega)
                      have hx49 : ∀ h : 0 < x0_2.size,((x0_2[0]'h).toNat : Int) = bt x0_2 0:=jI x0_2 0
                      clear p49
                      have qi49 : (0 < (x0_2.size : Int)) = True:=eq_true (of_decide_eq_true (by first|(with_reducible assumption)|assumption))
                      replace q49:=eq_true q49
                      have p51 : 0 ≤ (1 : Int):=(by omega)
                      have q51 : 1 < x0_2.size:=(by have : (1 : Int) < (x0_2.size : Int):=of_decide_eq_true (by first|(with_reducible assumption)|assumption);omega)
                      have hx51 : ∀ h : 1 < x0_2.size,((x0_2[1]'h).toNat : Int) = bt x0_2 1:=jI x0_2 1
                      clear p51
                      have qi51 : (1 < (x0_2.size : Int)) = True:=eq_true (of_decide_eq_true (by first|(with_reducible assumption)|assumption))
                      replace q51:=eq_true q51
                      refine zN (n:=16) (S:=fun w' => w'.cell? ⟨gb103,0,none⟩ = some (.int .u8 ((qJ l1 x20_2).f0)) ∧ w'.cell? ⟨gb103,1,none⟩ = some (.int .u8 ((qJ l1 x20_2).f1))) (ds:=[]) #[false,false,false,false,false,false,false,false,false,false,false,false,false,false,false,false] (by kernel_rfl) rfl rfl ⟨(qi BK103.out 0).trans rfl,(qi BK103.out 1).trans rfl⟩ (fun hHeld => ?_);refine jT qB.ZU qB.JG (fun HT_ HW_ => ?_)
                      generalize wc.drew = w52 at HO_6 BK103 HB hHeld ⊢
                      refine qL (i:=0) (N:=some 73) (v:=?_) (a':=?_) #[true,false,false,false,false,false,false,false,false,false,false,false,false,false,false,false] rfl rfl (qD HT_.out (by kernel_rfl)) (fun _ _ _ h => h) (Or.inl ⟨by rfl,?_⟩) ?_ ?_
                      rotate_left
                      ·intro w'
                       go_simp
                       with_reducible rfl
                      rotate_left
                      ·simp only [Act.put,List.setIfInBounds_toArray,List.set_cons_zero,List.set_cons_succ,qE,qF]
                       rfl
                      refine zz (i:=1) (N:=some 74) (v:=?_) (a':=?_) #[true,true,false,false,false,false,false,false,false,false,false,false,false,false,false,false] rfl rfl (jF HT_.out HW_.out (by kernel_rfl)) (fun _ _ _ h => h) (Or.inl ⟨by rfl,?_⟩) hHeld ?_ ?_
                      rotate_left
                      ·rintro w' ⟨s0,s1⟩
                       go_simp
                       with_reducible rfl
                      rotate_left
                      ·simp only [Act.put,List.setIfInBounds_toArray,List.set_cons_zero,List.set_cons_succ,qE,qF]
                       rfl
                      refine qL (i:=2) (N:=some 75) (v:=?_) (a':=?_) #[true,true,true,false,false,false,false,false,false,false,false,false,false,false,false,false] rfl rfl (qD HT_.out (by kernel_rfl)) (fun _ _ _ h => h) (Or.inl ⟨by rfl,?_⟩) ?_ ?_
                      rotate_left
                      ·intro w'
                       go_simp
                       with_reducible rfl
                      rotate_left
                      ·simp only [Act.put,List.setIfInBounds_toArray,List.set_cons_zero,List.set_cons_succ,qE,qF]
                       rfl
                      refine qL (i:=3) (N:=some 76) (v:=?_) (a':=?_) #[true,true,true,true,false,false,false,false,false,false,false,false,false,false,false,false] rfl rfl (qD HT_.out (by kernel_rfl)) (fun _ _ _ h => h) (Or.inl ⟨by rfl,?_⟩) ?_ ?_
                      rotate_left
                      ·intro w'
                       go_simp
                       with_reducible rfl
                      rotate_left
                      ·simp only [Act.put,List.setIfInBounds_toArray,List.set_cons_zero,List.set_cons_succ,qE,qF]
                       rfl
                      refine qL (i:=4) (N:=some 77) (v:=?_) (a':=?_) #[true,true,true,true,true,false,false,false,false,false,false,false,false,false,false,false] rfl rfl (qD HT_.out (by kernel_rfl)) (fun _ _ _ h => h) (Or.inl ⟨by rfl,?_⟩) ?_ ?_
                      rotate_left
                      ·intro w'
                       go_simp
                       with_reducible rfl
                      rotate_left
                      ·simp only [Act.put,List.setIfInBounds_toArray,List.set_cons_zero,List.set_cons_succ,qE,qF]
                       rfl
                      refine qL (i:=5) (N:=some 78) (v:=?_) (a':=?_) #[true,true,true,true,true,true,false,false,false,false,false,false,false,false,false,false] rfl rfl (qD HT_.out (by kernel_rfl)) (fun _ _ _ h => h) (Or.inl ⟨by rfl,?_⟩) ?_ ?_
                      rotate_left
                      ·intro w'
                       go_simp
                       with_reducible rfl
                      rotate_left
                      ·simp only [Act.put,List.setIfInBounds_toArray,List.set_cons_zero,List.set_cons_succ,qE,qF]
                       rfl
                      refine qL (i:=6) (N:=some 79) (v:=?_) (a':=?_) #[true,true,true,true,true,true,true,false,false,false,false,false,false,false,false,false] rfl rfl (qD HT_.out (by kernel_rfl)) (fun _ _ _ h => h) (Or.inl ⟨by rfl,?_⟩) ?_ ?_
                      rotate_left
                      ·intro w'
                       go_simp
                       with_reducible rfl
                      rotate_left
                      ·simp only [Act.put,List.setIfInBounds_toArray,List.set_cons_zero,List.set_cons_succ,qE,qF]
                       rfl
                      refine qL (i:=7) (N:=some 80) (v:=?_) (a':=?_) #[true,true,true,true,true,true,true,true,false,false,false,false,false,false,false,false] rfl rfl (qD HT_.out (by kernel_rfl)) (fun _ _ _ h => h) (Or.inl ⟨by rfl,?_⟩) ?_ ?_
                      rotate_left
                      ·intro w'
                       go_simp
                       with_reducible rfl
                      rotate_left
                      ·simp only [Act.put,List.setIfInBounds_toArray,List.set_cons_zero,List.set_cons_succ,qE,qF]
                       rfl
                      refine qL (i:=8) (N:=some 81) (v:=?_) (a':=?_) #[true,true,true,true,true,true,true,true,true,false,false,false,false,false,false,false] rfl rfl (qD HT_.out (by kernel_rfl)) (fun _ _ _ h => h) (Or.inl ⟨by rfl,?_⟩) ?_ ?_
                      rotate_left
                      ·intro w'
                       go_simp
                       with_reducible rfl
                      rotate_left
                      ·simp only [Act.put,List.setIfInBounds_toArray,List.set_cons_zero,List.set_cons_succ,qE,qF]
                       rfl
                      refine qL (i:=9) (N:=some 82) (v:=?_) (a':=?_) #[true,true,true,true,true,true,true,true,true,true,false,false,false,false,false,false] rfl rfl (qD HT_.out (by kernel_rfl)) (fun _ _ _ h => h) (Or.inl ⟨by rfl,?_⟩) ?_ ?_
                      rotate_left
                      ·intro w'
                       go_simp
                       with_reducible rfl
                      rotate_left
                      ·simp only [Act.put,List.setIfInBounds_toArray,List.set_cons_zero,List.set_cons_succ,qE,qF]
                       rfl
                      refine qL (i:=11) (N:=some 84) (v:=?_) (a':=?_) #[true,true,true,true,true,true,true,true,true,true,false,true,false,false,false,false] rfl rfl (qD HT_.out (by kernel_rfl)) (fun _ _ _ h => h) (Or.inl ⟨by rfl,?_⟩) ?_ ?_
                      rotate_left
                      ·intro w'
                       go_simp
                       with_reducible rfl
                      rotate_left
                      ·simp only [Act.put,List.setIfInBounds_toArray,List.set_cons_zero,List.set_cons_succ,qE,qF]
                       rfl
                      refine zz (i:=10) (N:=some 83) (v:=?_) (a':=?_) #[true,true,true,true,true,true,true,true,true,true,true,true,false,false,false,false] rfl rfl (jF HT_.out HW_.out (by kernel_rfl)) (fun _ _ _ h => h) (Or.inl ⟨by rfl,?_⟩) hHeld ?_ ?_
                      rotate_left
                      ·rintro w' ⟨s0,s1⟩
                       go_simp
                       with_reducible rfl
                      rotate_left
                      ·simp only [Act.put,List.setIfInBounds_toArray,List.set_cons_zero,List.set_cons_succ,qE,qF]
                       rfl
                      refine zz (i:=12) (N:=some 85) (v:=?_) (a':=?_) #[true,true,true,true,true,true,true,true,true,true,true,true,true,false,false,false] rfl rfl (jF HT_.out HW_.out (by kernel_rfl)) (fun _ _ _ h => h) (Or.inl ⟨by rfl,?_⟩) hHeld ?_ ?_
                      rotate_left
                      ·rintro w' ⟨s0,s1⟩
                       go_simp
                       with_reducible rfl
                      rotate_left
                      ·simp only [Act.put,List.setIfInBounds_toArray,List.set_cons_zero,List.set_cons_succ,qE,qF]
                       rfl
                      refine qL (i:=13) (N:=some 86) (v:=?_) (a':=?_) #[true,true,true,true,true,true,true,true,true,true,true,true,true,true,false,false] rfl rfl (qD HT_.out (by kernel_rfl)) (fun _ _ _ h => h) (Or.inl ⟨by rfl,?_⟩) ?_ ?_
                      rotate_left
                      ·intro w'
                       go_simp
                       with_reducible rfl
                      rotate_left
                      ·simp only [Act.put,List.setIfInBounds_toArray,List.set_cons_zero,List.set_cons_succ,qE,qF]
                       rfl
                      refine qL (i:=14) (N:=some 87) (v:=?_) (a':=?_) #[true,true,true,true,true,true,true,true,true,true,true,true,true,true,true,false] rfl rfl (qD HT_.out (by kernel_rfl)) (fun _ _ _ h => h) (Or.inl ⟨by rfl,?_⟩) ?_ ?_
                      rotate_left
                      ·intro w'
                       go_simp
                       with_reducible rfl
                      rotate_left
                      ·simp only [Act.put,List.setIfInBounds_toArray,List.set_cons_zero,List.set_cons_succ,qE,qF]
                       rfl
                      refine qL (i:=15) (N:=some 72) (v:=?_) (a':=?_) #[true,true,true,true,true,true,true,true,true,true,true,true,true,true,true,true] rfl rfl (qD HT_.out (by kernel_rfl)) (fun _ _ _ h => h) (Or.inl ⟨by rfl,?_⟩) ?_ ?_
                      rotate_left
                      ·intro w'
                       go_simp
                       with_reducible rfl
                      rotate_left
                      ·simp only [Act.put,List.setIfInBounds_toArray,List.set_cons_zero,List.set_cons_succ,qE,qF]
                       rfl
                      refine xL (zu HT_.out (by kernel_rfl)) ?_
                      try go_wp2
                      go_meet
                      case rel => exact ⟨_,(((bt x0_2 0) != (bt x0_2 1))),(by first|rfl|(simp;done)|(simp [*];done)),H',⟨by have:=HJ2.out;have:=HK2.out;have:=HJ14.out;have:=HJ33.out;first|omega|exact Nat.le_refl _⟩,⟨by (with_reducible repeat (first|apply Kd.qy|apply Kd.qz|apply Kd.qC));exact HO_6.out⟩,⟨by (with_reducible repeat (first|refine qx ?_ _|refine qA ?_|refine qw ?_ _));exact BK103.out⟩,⟨by repeat (first|(with_reducible first|exact HB.out|apply qg|apply qc|apply qf|refine qp ?_ GE103.out)|exact HB.out)⟩⟩
                     ·rw [if_neg c50] at H
                      exact absurd H (by simp)
                    ·rw [if_neg c48] at H
                     exact absurd H (by simp)
                   ·rw [if_neg c47] at H
                    have c47b0 : decide (1 < (x0_2.size : Int)) = false:=decide_eq_false c47
                    have c47b1 : decide (1 < x0_2.size) = false:=decide_eq_false (by omega)
                    clear c47
                    have H':=qd.mk H
                    clear H
                    try go_wp2
                    have n0_:=qd.mk (Kd.qC HO_6.out)
                    have n1_:=qd.mk (qA BK103.out)
                    have n2_:=qd.mk (qf HB.out)
                    clear HO_6
                    clear BK103
                    clear HB
                    have HO_6:=n0_
                    have BK103:=n1_
                    have HB:=n2_
                    clear n0_ n1_ n2_
                    refine zN (n:=16) (S:=fun w' => w'.cell? ⟨gb103,0,none⟩ = some (.int .u8 ((qJ l1 x20_2).f0)) ∧ w'.cell? ⟨gb103,1,none⟩ = some (.int .u8 ((qJ l1 x20_2).f1))) (ds:=[]) #[false,false,false,false,false,false,false,false,false,false,false,false,false,false,false,false] (by kernel_rfl) rfl rfl ⟨(qi BK103.out 0).trans rfl,(qi BK103.out 1).trans rfl⟩ (fun hHeld => ?_);refine jT qB.ZU qB.JG (fun HT_ HW_ => ?_)
                    generalize wc.drew = w53 at HO_6 BK103 HB hHeld ⊢
                    refine qL (i:=0) (N:=some 73) (v:=?_) (a':=?_) #[true,false,false,false,false,false,false,false,false,false,false,false,false,false,false,false] rfl rfl (qD HT_.out (by kernel_rfl)) (fun _ _ _ h => h) (Or.inl ⟨by rfl,?_⟩) ?_ ?_
                    rotate_left
                    ·intro w'
                     go_simp
                     with_reducible rfl
                    rotate_left
                    ·simp only [Act.put,List.setIfInBounds_toArray,List.set_cons_zero,List.set_cons_succ,qE,qF]
                     rfl
                    refine zz (i:=1) (N:=some 74) (v:=?_) (a':=?_) #[true,true,false,false,false,false,false,false,false,false,false,false,false,false,false,false] rfl rfl (jF HT_.out HW_.out (by kernel_rfl)) (fun _ _ _ h => h) (Or.inl ⟨by rfl,?_⟩) hHeld ?_ ?_
                    rotate_left
                    ·rintro w' ⟨s0,s1⟩
                     go_simp
                     with_reducible rfl
                    rotate_left
                    ·simp only [Act.put,List.setIfInBounds_toArray,List.set_cons_zero,List.set_cons_succ,qE,qF]
                     rfl
                    refine qL (i:=2) (N:=some 75) (v:=?_) (a':=?_) #[true,true,true,false,false,false,false,false,false,false,false,false,false,false,false,false] rfl rfl (qD HT_.out (by kernel_rfl)) (fun _ _ _ h => h) (Or.inl ⟨by rfl,?_⟩) ?_ ?_
                    rotate_left
                    ·intro w'
                     go_simp
                     with_reducible rfl
                    rotate_left
                    ·simp only [Act.put,List.setIfInBounds_toArray,List.set_cons_zero,List.set_cons_succ,qE,qF]
                     rfl
                    refine qL (i:=3) (N:=some 76) (v:=?_) (a':=?_) #[true,true,true,true,false,false,false,false,false,false,false,false,false,false,false,false] rfl rfl (qD HT_.out (by kernel_rfl)) (fun _ _ _ h => h) (Or.inl ⟨by rfl,?_⟩) ?_ ?_
                    rotate_left
                    ·intro w'
                     go_simp
                     with_reducible rfl
                    rotate_left
                    ·simp only [Act.put,List.setIfInBounds_toArray,List.set_cons_zero,List.set_cons_succ,qE,qF]
                     rfl
                    refine qL (i:=4) (N:=some 77) (v:=?_) (a':=?_) #[true,true,true,true,true,false,false,false,false,false,false,false,false,false,false,false] rfl rfl (qD HT_.out (by kernel_rfl)) (fun _ _ _ h => h) (Or.inl ⟨by rfl,?_⟩) ?_ ?_
                    rotate_left
                    ·intro w'
                     go_simp
                     with_reducible rfl
                    rotate_left
                    ·simp only [Act.put,List.setIfInBounds_toArray,List.set_cons_zero,List.set_cons_succ,qE,qF]
                     rfl
                    refine qL (i:=5) (N:=some 78) (v:=?_) (a':=?_) #[true,true,true,true,true,true,false,false,false,false,false,false,false,false,false,false] rfl rfl (qD HT_.out (by kernel_rfl)) (fun _ _ _ h => h) (Or.inl ⟨by rfl,?_⟩) ?_ ?_
                    rotate_left
                    ·intro w'
                     go_simp
                     with_reducible rfl
                    rotate_left
                    ·simp only [Act.put,List.setIfInBounds_toArray,List.set_cons_zero,List.set_cons_succ,qE,qF]
                     rfl
                    refine qL (i:=6) (N:=some 79) (v:=?_) (a':=?_) #[true,true,true,true,true,true,true,false,false,false,false,false,false,false,false,false] rfl rfl (qD HT_.out (by kernel_rfl)) (fun _ _ _ h => h) (Or.inl ⟨by rfl,?_⟩) ?_ ?_
                    rotate_left
                    ·intro w'
                     go_simp
                     with_reducible rfl
                    rotate_left
                    ·simp only [Act.put,List.setIfInBounds_toArray,List.set_cons_zero,List.set_cons_succ,qE,qF]
                     rfl
                    refine qL (i:=7) (N:=some 80) (v:=?_) (a':=?_) #[true,true,true,true,true,true,true,true,false,false,false,false,false,false,false,false] rfl rfl (qD HT_.out (by kernel_rfl)) (fun _ _ _ h => h) (Or.inl ⟨by rfl,?_⟩) ?_ ?_
                    rotate_left
                    ·intro w'
                     go_simp
                     with_reducible rfl
                    rotate_left
                    ·simp only [Act.put,List.setIfInBounds_toArray,List.set_cons_zero,List.set_cons_succ,qE,qF]
                     rfl
                    refine qL (i:=8) (N:=some 81) (v:=?_) (a':=?_) #[true,true,true,true,true,true,true,true,true,false,false,false,false,false,false,false] rfl rfl (qD HT_.out (by kernel_rfl)) (fun _ _ _ h => h) (Or.inl ⟨by rfl,?_⟩) ?_ ?_
                    rotate_left
                    ·intro w'
                     go_simp
                     with_reducible rfl
                    rotate_left
                    ·simp only [Act.put,List.setIfInBounds_toArray,List.set_cons_zero,List.set_cons_succ,qE,qF]
                     rfl
                    refine qL (i:=9) (N:=some 82) (v:=undef) (a':=?_) #[true,true,true,true,true,true,true,true,true,true,false,false,false,false,false,false] rfl rfl (qD HT_.out (by kernel_rfl)) (fun _ _ _ h => h) (Or.inr ⟨by rfl,rfl⟩) ?_ ?_
                    rotate_left
                    ·simp only [Act.put,List.setIfInBounds_toArray,List.set_cons_zero,List.set_cons_succ,qE,qF]
                     rfl
                    refine qL (i:=10) (N:=some 83) (v:=undef) (a':=?_) #[true,true,true,true,true,true,true,true,true,true,true,false,false,false,false,false] rfl rfl (qD HT_.out (by kernel_rfl)) (fun _ _ _ h => h) (Or.inr ⟨by rfl,rfl⟩) ?_ ?_
                    rotate_left
                    ·simp only [Act.put,List.setIfInBounds_toArray,List.set_cons_zero,List.set_cons_succ,qE,qF]
                     rfl
                    refine qL (i:=11) (N:=some 84) (v:=undef) (a':=?_) #[true,true,true,true,true,true,true,true,true,true,true,true,false,false,false,false] rfl rfl (qD HT_.out (by kernel_rfl)) (fun _ _ _ h => h) (Or.inr ⟨by rfl,rfl⟩) ?_ ?_
                    rotate_left
                    ·simp only [Act.put,List.setIfInBounds_toArray,List.set_cons_zero,List.set_cons_succ,qE,qF]
                     rfl
                    refine qL (i:=12) (N:=some 85) (v:=undef) (a':=?_) #[true,true,true,true,true,true,true,true,true,true,true,true,true,false,false,false] rfl rfl (qD HT_.out (by kernel_rfl)) (fun _ _ _ h => h) (Or.inr ⟨by rfl,rfl⟩) ?_ ?_
                    rotate_left
                    ·simp only [Act.put,List.setIfInBounds_toArray,List.set_cons_zero,List.set_cons_succ,qE,qF]
                     rfl
                    refine qL (i:=13) (N:=some 86) (v:=undef) (a':=?_) #[true,true,true,true,true,true,true,true,true,true,true,true,true,true,false,false] rfl rfl (qD HT_.out (by kernel_rfl)) (fun _ _ _ h => h) (Or.inr ⟨by rfl,rfl⟩) ?_ ?_
                    rotate_left
                    ·simp only [Act.put,List.setIfInBounds_toArray,List.set_cons_zero,List.set_cons_succ,qE,qF]
                     rfl
                    refine qL (i:=14) (N:=some 87) (v:=?_) (a':=?_) #[true,true,true,true,true,true,true,true,true,true,true,true,true,true,true,false] rfl rfl (qD HT_.out (by kernel_rfl)) (fun _ _ _ h => h) (Or.inl ⟨by rfl,?_⟩) ?_ ?_
                    rotate_left
                    ·intro w'
                     go_simp
                     with_reducible rfl
                    rotate_left
                    ·simp only [Act.put,List.setIfInBounds_toArray,List.set_cons_zero,List.set_cons_succ,qE,qF]
                     rfl
                    refine qL (i:=15) (N:=some 72) (v:=?_) (a':=?_) #[true,true,true,true,true,true,true,true,true,true,true,true,true,true,true,true] rfl rfl (qD HT_.out (by kernel_rfl)) (fun _ _ _ h => h) (Or.inl ⟨by rfl,?_⟩) ?_ ?_
                    rotate_left
                    ·intro w'
                     go_simp
                     with_reducible rfl
                    rotate_left
                    ·simp only [Act.put,List.setIfInBounds_toArray,List.set_cons_zero,List.set_cons_succ,qE,qF]
                     rfl
                    refine xL (zu HT_.out (by kernel_rfl)) ?_
                    try go_wp2
                    go_meet
                    case rel => exact ⟨_,(false),(by first|rfl|(simp;done)|(simp [*];done)),H',⟨by have:=HJ2.out;have:=HK2.out;have:=HJ14.out;have:=HJ33.out;first|omega|exact Nat.le_refl _⟩,⟨by (with_reducible repeat (first|apply Kd.qy|apply Kd.qz|apply Kd.qC));exact HO_6.out⟩,⟨by (with_reducible repeat (first|refine qx ?_ _|refine qA ?_|refine qw ?_ _));exact BK103.out⟩,⟨by repeat (first|(with_reducible first|exact HB.out|apply qg|apply qc|apply qf|refine qp ?_ GE103.out)|exact HB.out)⟩⟩
                  ·rw [if_neg c46] at H
                   have c46b0 : (((qJ l1 x20_2).f0) == 3) = false:=beq_eq_false_iff_ne.mpr c46
                   have c46b1 : (((qJ l1 x20_2).f0) != 3) = true:=bne_iff_ne.mpr c46
                   (first|rw [c46b0]|(simp only [qE,qF];rw [c46b0])|skip)
                   have H':=qd.mk H
                   clear H
                   try go_wp2
                   have n0_:=qd.mk (Kd.qC HO_6.out)
                   have n1_:=qd.mk (qA BK103.out)
                   have n2_:=qd.mk (qf HB.out)
                   clear HO_6
                   clear BK103
                   clear HB
                   have HO_6:=n0_
                   have BK103:=n1_
                   have HB:=n2_
                   clear n0_ n1_ n2_
                   refine zN (n:=16) (S:=fun w' => w'.cell? ⟨gb103,0,none⟩ = some (.int .u8 ((qJ l1 x20_2).f0)) ∧ w'.cell? ⟨gb103,1,none⟩ = some (.int .u8 ((qJ l1 x20_2).f1))) (ds:=[]) #[false,false,false,false,false,false,false,false,false,false,false,false,false,false,false,false] (by kernel_rfl) rfl rfl ⟨(qi BK103.out 0).trans rfl,(qi BK103.out 1).trans rfl⟩ (fun hHeld => ?_);refine jT qB.ZU qB.JG (fun HT_ HW_ => ?_)
                   generalize wc.drew = w54 at HO_6 BK103 HB hHeld ⊢
                   refine qL (i:=0) (N:=some 73) (v:=?_) (a':=?_) #[true,false,false,false,false,false,false,false,false,false,false,false,false,false,false,false] rfl rfl (qD HT_.out (by kernel_rfl)) (fun _ _ _ h => h) (Or.inl ⟨by rfl,?_⟩) ?_ ?_
                   rotate_left
                   ·intro w'
                    go_simp
                    with_reducible rfl
                   rotate_left
                   ·simp only [Act.put,List.setIfInBounds_toArray,List.set_cons_zero,List.set_cons_succ,qE,qF]
                    rfl
                   refine zz (i:=1) (N:=some 74) (v:=?_) (a':=?_) #[true,true,false,false,false,false,false,false,false,false,false,false,false,false,false,false] rfl rfl (jF HT_.out HW_.out (by kernel_rfl)) (fun _ _ _ h => h) (Or.inl ⟨by rfl,?_⟩) hHeld ?_ ?_
                   rotate_left
                   ·rintro w' ⟨s0,s1⟩
                    go_simp
                    with_reducible rfl
                   rotate_left
                   ·simp only [Act.put,List.setIfInBounds_toArray,List.set_cons_zero,List.set_cons_succ,qE,qF]
                    rfl
                   refine qL (i:=2) (N:=some 75) (v:=?_) (a':=?_) #[true,true,true,false,false,false,false,false,false,false,false,false,false,false,false,false] rfl rfl (qD HT_.out (by kernel_rfl)) (fun _ _ _ h => h) (Or.inl ⟨by rfl,?_⟩) ?_ ?_
                   rotate_left
                   ·intro w'
                    go_simp
                    with_reducible rfl
                   rotate_left
                   ·simp only [Act.put,List.setIfInBounds_toArray,List.set_cons_zero,List.set_cons_succ,qE,qF]
                    rfl
                   refine qL (i:=3) (N:=some 76) (v:=?_) (a':=?_) #[true,true,true,true,false,false,false,false,false,false,false,false,false,false,false,false] rfl rfl (qD HT_.out (by kernel_rfl)) (fun _ _ _ h => h) (Or.inl ⟨by rfl,?_⟩) ?_ ?_
                   rotate_left
                   ·intro w'
                    go_simp
                    with_reducible rfl
                   rotate_left
                   ·simp only [Act.put,List.setIfInBounds_toArray,List.set_cons_zero,List.set_cons_succ,qE,qF]
                    rfl
                   refine qL (i:=4) (N:=some 77) (v:=undef) (a':=?_) #[true,true,true,true,true,false,false,false,false,false,false,false,false,false,false,false] rfl rfl (qD HT_.out (by kernel_rfl)) (fun _ _ _ h => h) (Or.inr ⟨by rfl,rfl⟩) ?_ ?_
                   rotate_left
                   ·simp only [Act.put,List.setIfInBounds_toArray,List.set_cons_zero,List.set_cons_succ,qE,qF]
                    rfl
                   refine qL (i:=5) (N:=some 78) (v:=undef) (a':=?_) #[true,true,true,true,true,true,false,false,false,false,false,false,false,false,false,false] rfl rfl (qD HT_.out (by kernel_rfl)) (fun _ _ _ h => h) (Or.inr ⟨by rfl,rfl⟩) ?_ ?_
                   rotate_left
                   ·simp only [Act.put,List.setIfInBounds_toArray,List.set_cons_zero,List.set_cons_succ,qE,qF]
                    rfl
                   refine qL (i:=6) (N:=some 79) (v:=undef) (a':=?_) #[true,true,true,true,true,true,true,false,false,false,false,false,false,false,false,false] rfl rfl (qD HT_.out (by kernel_rfl)) (fun _ _ _ h => h) (Or.inr ⟨by rfl,rfl⟩) ?_ ?_
                   rotate_left
                   ·simp only [Act.put,List.setIfInBounds_toArray,List.set_cons_zero,List.set_cons_succ,qE,qF]
                    rfl
                   refine qL (i:=7) (N:=some 80) (v:=?_) (a':=?_) #[true,true,true,true,true,true,true,true,false,false,false,false,false,false,false,false] rfl rfl (qD HT_.out (by kernel_rfl)) (fun _ _ _ h => h) (Or.inl ⟨by rfl,?_⟩) ?_ ?_
                   rotate_left
                   ·intro w'
                    go_simp
                    with_reducible rfl
                   rotate_left
                   ·simp only [Act.put,List.setIfInBounds_toArray,List.set_cons_zero,List.set_cons_succ,qE,qF]
                    rfl
                   refine qL (i:=8) (N:=some 81) (v:=?_) (a':=?_) #[true,true,true,true,true,true,true,true,true,false,false,false,false,false,false,false] rfl rfl (qD HT_.out (by kernel_rfl)) (fun _ _ _ h => h) (Or.inl ⟨by rfl,?_⟩) ?_ ?_
                   rotate_left
                   ·intro w'
                    go_simp
                    with_reducible rfl
                   rotate_left
                   ·simp only [Act.put,List.setIfInBounds_toArray,List.set_cons_zero,List.set_cons_succ,qE,qF]
                    rfl
                   refine qL (i:=9) (N:=some 82) (v:=undef) (a':=?_) #[true,true,true,true,true,true,true,true,true,true,false,false,false,false,false,false] rfl rfl (qD HT_.out (by kernel_rfl)) (fun _ _ _ h => h) (Or.inr ⟨by rfl,rfl⟩) ?_ ?_
                   rotate_left
                   ·simp only [Act.put,List.setIfInBounds_toArray,List.set_cons_zero,List.set_cons_succ,qE,qF]
                    rfl
                   refine qL (i:=10) (N:=some 83) (v:=undef) (a':=?_) #[true,true,true,true,true,true,true,true,true,true,true,false,false,false,false,false] rfl rfl (qD HT_.out (by kernel_rfl)) (fun _ _ _ h => h) (Or.inr ⟨by rfl,rfl⟩) ?_ ?_
                   rotate_left
                   ·simp only [Act.put,List.setIfInBounds_toArray,List.set_cons_zero,List.set_cons_succ,qE,qF]
                    rfl
                   refine qL (i:=11) (N:=some 84) (v:=undef) (a':=?_) #[true,true,true,true,true,true,true,true,true,true,true,true,false,false,false,false] rfl rfl (qD HT_.out (by kernel_rfl)) (fun _ _ _ h => h) (Or.inr ⟨by rfl,rfl⟩) ?_ ?_
                   rotate_left
                   ·simp only [Act.put,List.setIfInBounds_toArray,List.set_cons_zero,List.set_cons_succ,qE,qF]
                    rfl
                   refine qL (i:=12) (N:=some 85) (v:=undef) (a':=?_) #[true,true,true,true,true,true,true,true,true,true,true,true,true,false,false,false] rfl rfl (qD HT_.out (by kernel_rfl)) (fun _ _ _ h => h) (Or.inr ⟨by rfl,rfl⟩) ?_ ?_
                   rotate_left
                   ·simp only [Act.put,List.setIfInBounds_toArray,List.set_cons_zero,List.set_cons_succ,qE,qF]
                    rfl
                   refine qL (i:=13) (N:=some 86) (v:=undef) (a':=?_) #[true,true,true,true,true,true,true,true,true,true,true,true,true,true,false,false] rfl rfl (qD HT_.out (by kernel_rfl)) (fun _ _ _ h => h) (Or.inr ⟨by rfl,rfl⟩) ?_ ?_
                   rotate_left
                   ·simp only [Act.put,List.setIfInBounds_toArray,List.set_cons_zero,List.set_cons_succ,qE,qF]
                    rfl
                   refine qL (i:=14) (N:=some 87) (v:=?_) (a':=?_) #[true,true,true,true,true,true,true,true,true,true,true,true,true,true,true,false] rfl rfl (qD HT_.out (by kernel_rfl)) (fun _ _ _ h => h) (Or.inl ⟨by rfl,?_⟩) ?_ ?_
                   rotate_left
                   ·intro w'
                    go_simp
                    with_reducible rfl
                   rotate_left
                   ·simp only [Act.put,List.setIfInBounds_toArray,List.set_cons_zero,List.set_cons_succ,qE,qF]
                    rfl
                   refine qL (i:=15) (N:=some 72) (v:=?_) (a':=?_) #[true,true,true,true,true,true,true,true,true,true,true,true,true,true,true,true] rfl rfl (qD HT_.out (by kernel_rfl)) (fun _ _ _ h => h) (Or.inl ⟨by rfl,?_⟩) ?_ ?_
                   rotate_left
                   ·intro w'
                    go_simp
                    with_reducible rfl
                   rotate_left
                   ·simp only [Act.put,List.setIfInBounds_toArray,List.set_cons_zero,List.set_cons_succ,qE,qF]
                    rfl
                   refine xL (zu HT_.out (by kernel_rfl)) ?_
                   try go_wp2
                   go_meet
                   case rel => exact ⟨_,(false),(by first|rfl|(simp;done)|(simp [*];done)),H',⟨by have:=HJ2.out;have:=HK2.out;have:=HJ14.out;have:=HJ33.out;first|omega|exact Nat.le_refl _⟩,⟨by (with_reducible repeat (first|apply Kd.qy|apply Kd.qz|apply Kd.qC));exact HO_6.out⟩,⟨by (with_reducible repeat (first|refine qx ?_ _|refine qA ?_|refine qw ?_ _));exact BK103.out⟩,⟨by repeat (first|(with_reducible first|exact HB.out|apply qg|apply qc|apply qf|refine qp ?_ GE103.out)|exact HB.out)⟩⟩
                 case rest =>
                  clear HC45
                  try clear c1
                  try clear p1
                  try clear q1
                  try clear hx1
                  try clear c2
                  try clear p2
                  try clear q2
                  try clear hx2
                  try clear qi2
                  try clear c3
                  try clear c4
                  try clear c4b0
                  try clear c4b1
                  try clear p4
                  try clear q4
                  try clear hx4
                  try clear qi4
                  try clear c5
                  try clear p5
                  try clear q5
                  try clear hx5
                  try clear qi5
                  try clear c6
                  try clear c6b0
                  try clear p6
                  try clear c7
                  try clear c7b0
                  try clear c8
                  try clear c8b0
                  try clear c9
                  try clear c9b0
                  try clear c9b1
                  try clear c10
                  try clear p10
                  try clear q10
                  try clear hx10
                  try clear c11
                  try clear c11b0
                  try clear c11b1
                  try clear c18
                  try clear c18b0
                  try clear c18b1
                  try clear c19
                  try clear c19b0
                  try clear c19b1
                  try clear c20
                  try clear c20b0
                  try clear c20b1
                  try clear p21
                  try clear q21
                  try clear hx21
                  try clear qi21
                  try clear c28
                  try clear c29
                  try clear c30
                  try clear c30b0
                  try clear c30b1
                  try clear c33
                  try clear c33b0
                  try clear c33b1
                  try clear c36
                  try clear c36b0
                  try clear c36b1
                  try clear c39
                  try clear c40
                  try clear c40b0
                  try clear c40b1
                  try clear p41
                  try clear q41
                  try clear hx41
                  try clear qi41
                  try clear c42
                  try clear c43
                  try clear c43b0
                  try clear c43b1
                  try clear c46
                  try clear c46b0
                  try clear c46b1
                  try clear c47
                  try clear c47b0
                  try clear c47b1
                  try clear c48
                  try clear c48b0
                  try clear c48b1
                  try clear p49
                  try clear q49
                  try clear hx49
                  try clear qi49
                  try clear c50
                  try clear c50b0
                  try clear c50b1
                  try clear p51
                  try clear q51
                  try clear hx51
                  try clear qi51
                  try clear hcz13_0
                  try clear hcz13_1
                  try clear hcz17_0
                  try clear hcz17_1
                  try clear hcz31_0
                  try clear hcz31_1
                  try clear hcz35_0
                  try clear hcz35_1
                  try clear hcz37_0
                  try clear hcz37_1
                  try clear hcz38_0
                  try clear hcz38_1
                  try clear hfz13_0
                  try clear hfz13_1
                  try clear hfz17_0
                  try clear hfz17_1
                  try clear hfz31_0
                  try clear hfz31_1
                  try clear hfz35_0
                  try clear hfz35_1
                  try clear hfz37_0
                  try clear hfz37_1
                  try clear hfz38_0
                  try clear hfz38_1
                  try clear hx102_0
                  try clear hx102_1
                  try clear p1
                  try clear p10
                  try clear p102
                  try clear p2
                  try clear p21
                  try clear p41
                  try clear p49
                  try clear p51
                  try clear p6
                  try clear q1
                  try clear q10
                  try clear q102
                  try clear q2
                  try clear q21
                  try clear q41
                  try clear q49
                  try clear q51
                  obtain ⟨kq,x72_44,rfl,HA,HJ44,HO_6,BK103,HB⟩:=hcut
                  cases kq with
                  | zero => exact absurd HA.out (by simp [qB.j4])
                  | succ kj44 =>
                   have H:=HA.out
                   clear HA
                   simp only [qB.j4] at H
                   by_cases c55 : x72_44 = true
                   ·subst c55
                    have H1 : (if 1 < (x0_2.size : Int) then (if 0 < (x0_2.size : Int) then ((some (([bt x0_2 1,bt x0_2 0] : List Int) : List Int)).bind fun y113 => (if x6_2.length + y113.length < 140737488355328 then (if 2 ≤ (x0_2.size : Int) then (qB.l0 kj44 (x0_2.extract 2 x0_2.size) (x6_2 ++ y113) l1 (l1.length : Int) (wrap64 (x20_2 + 1))) else (none)) else (none))) else (none)) else (none)) = some (r1,r2):=by rw [if_pos rfl] at H;exact H
                    clear H
                    have H:=H1
                    clear H1
                    by_cases c56 : 1 < (x0_2.size : Int)
                    ·rw [if_pos c56] at H
                     have c56b0 : decide (1 < (x0_2.size : Int)) = true:=decide_eq_true c56
                     have c56b1 : decide (1 < x0_2.size) = true:=decide_eq_true (by omega)
                     clear c56
                     by_cases c58 : 0 < (x0_2.size : Int)
                     ·rw [if_pos c58] at H
                      have c58b0 : decide (0 < (x0_2.size : Int)) = true:=decide_eq_true c58
                      have c58b1 : decide (0 < x0_2.size) = true:=decide_eq_true (by omega)
                      clear c58
                      obtain ⟨y113,hy113⟩ : ∃ y_ : List Int,y_ = (([bt x0_2 1,bt x0_2 0] : List Int)):=⟨_,rfl⟩
                      replace H : (if x6_2.length + y113.length < 140737488355328 then (if 2 ≤ (x0_2.size : Int) then (qB.l0 kj44 (x0_2.extract 2 x0_2.size) (x6_2 ++ y113) l1 (l1.length : Int) (wrap64 (x20_2 + 1))) else (none)) else (none)) = some (r1,r2):=by first|(rw [hy113];with_reducible exact H)|(have H2_:=(Option.bind_some _ _).symm.trans H;rw [hy113];with_reducible exact H2_)|(have H2_:=(Option.bind_some _ _).symm.trans H;with_reducible exact H2_)|with_reducible exact H|(rw [hy113];exact H)|exact H
                      have Ny113:=qd.mk hy113
                      clear hy113
                      by_cases c60 : x6_2.length + y113.length < 140737488355328
                      ·rw [if_pos c60] at H
                       have LMc60:=qd.mk c60
                       clear c60
                       obtain ⟨y116,hy116⟩ : ∃ y_ : List Int,y_ = (x6_2 ++ y113):=⟨_,rfl⟩
                       replace H : (if 2 ≤ (x0_2.size : Int) then (qB.l0 kj44 (x0_2.extract 2 x0_2.size) y116 l1 (l1.length : Int) (wrap64 (x20_2 + 1))) else (none)) = some (r1,r2):=by first|(rw [hy116];with_reducible exact H)|(have H2_:=(Option.bind_some _ _).symm.trans H;rw [hy116];with_reducible exact H2_)|(have H2_:=(Option.bind_some _ _).symm.trans H;with_reducible exact H2_)|with_reducible exact H|(rw [hy116];exact H)|exact H
                       have Ny116:=qd.mk hy116
                       clear hy116
                       by_cases c61 : 2 ≤ (x0_2.size : Int)
                       ·rw [if_pos c61] at H
                        have c61b0:=eq_true c61
                        have c61b1 : decide (2 ≤ (x0_2.size : Int)) = true:=decide_eq_true c61
                        clear c61
                        have H':=qd.mk H
                        clear H
                        try go_wp2
                        have n0_:=qd.mk (Kd.qC HO_6.out)
                        have n1_:=qd.mk (qA BK103.out)
                        have n2_:=qd.mk (qf HB.out)
                        clear HO_6
                        clear BK103
                        clear HB
                        have HO_6:=n0_
                        have BK103:=n1_
                        have HB:=n2_
                        clear n0_ n1_ n2_
                        have p57 : 0 ≤ (1 : Int):=(by omega)
                        have q57 : 1 < x0_2.size:=(by have : (1 : Int) < (x0_2.size : Int):=of_decide_eq_true (by first|(with_reducible assumption)|assumption);omega)
                        have hx57 : ∀ h : 1 < x0_2.size,((x0_2[1]'h).toNat : Int) = bt x0_2 1:=jI x0_2 1
                        clear p57
                        have qi57 : (1 < (x0_2.size : Int)) = True:=eq_true (of_decide_eq_true (by first|(with_reducible assumption)|assumption))
                        replace q57:=eq_true q57
                        have p59 : 0 ≤ (0 : Int):=(by omega)
                        have q59 : 0 < x0_2.size:=(by have : (0 : Int) < (x0_2.size : Int):=of_decide_eq_true (by first|(with_reducible assumption)|assumption);omega)
                        have hx59 : ∀ h : 0 < x0_2.size,((x0_2[0]'h).toNat : Int) = bt x0_2 0:=jI x0_2 0
                        clear p59
                        have qi59 : (0 < (x0_2.size : Int)) = True:=eq_true (of_decide_eq_true (by first|(with_reducible assumption)|assumption))
                        replace q59:=eq_true q59
                        refine zN (n:=8) (S:=fun w' => True) (ds:=[]) #[false,false,false,false,false,false,false,false] (by kernel_rfl) rfl rfl trivial (fun hHeld => ?_);refine jT qB.V5 qB.Vy (fun HT_ HW_ => ?_)
                        generalize wc.drew = w62 at HO_6 BK103 HB hHeld ⊢
                        refine qL (i:=0) (N:=some 88) (v:=?_) (a':=?_) #[true,false,false,false,false,false,false,false] rfl rfl (qD HT_.out (by kernel_rfl)) (fun _ _ _ h => h) (Or.inl ⟨by rfl,?_⟩) ?_ ?_
                        rotate_left
                        ·intro w'
                         go_simp
                         with_reducible rfl
                        rotate_left
                        ·simp only [Act.put,List.setIfInBounds_toArray,List.set_cons_zero,List.set_cons_succ,qE,qF]
                         rfl
                        refine qL (i:=1) (N:=some 89) (v:=?_) (a':=?_) #[true,true,false,false,false,false,false,false] rfl rfl (qD HT_.out (by kernel_rfl)) (fun _ _ _ h => h) (Or.inl ⟨by rfl,?_⟩) ?_ ?_
                        rotate_left
                        ·intro w'
                         go_simp
                         with_reducible rfl
                        rotate_left
                        ·simp only [Act.put,List.setIfInBounds_toArray,List.set_cons_zero,List.set_cons_succ,qE,qF]
                         rfl
                        refine qL (i:=3) (N:=some 91) (v:=?_) (a':=?_) #[true,true,false,true,false,false,false,false] rfl rfl (qD HT_.out (by kernel_rfl)) (fun _ _ _ h => h) (Or.inl ⟨by rfl,?_⟩) ?_ ?_
                        rotate_left
                        ·intro w'
                         go_simp
                         with_reducible rfl
                        rotate_left
                        ·simp only [Act.put,List.setIfInBounds_toArray,List.set_cons_zero,List.set_cons_succ,qE,qF]
                         rfl
                        refine zz (i:=2) (N:=some 90) (v:=?_) (a':=?_) #[true,true,true,true,false,false,false,false] rfl rfl (jF HT_.out HW_.out (by kernel_rfl)) (fun _ _ _ h => h) (Or.inl ⟨by rfl,?_⟩) hHeld ?_ ?_
                        rotate_left
                        ·intro w' _
                         go_simp
                         with_reducible rfl
                        rotate_left
                        ·simp only [Act.put,List.setIfInBounds_toArray,List.set_cons_zero,List.set_cons_succ,qE,qF]
                         rfl
                        refine zz (i:=4) (N:=some 92) (v:=?_) (a':=?_) #[true,true,true,true,true,false,false,false] rfl rfl (jF HT_.out HW_.out (by kernel_rfl)) (fun _ _ _ h => h) (Or.inl ⟨by rfl,?_⟩) hHeld ?_ ?_
                        rotate_left
                        ·intro w' _
                         go_simp
                         with_reducible rfl
                        rotate_left
                        ·simp only [Act.put,List.setIfInBounds_toArray,List.set_cons_zero,List.set_cons_succ,qE,qF]
                         rfl
                        refine one_ (i:=5) (N:=some 93) #[true,true,true,true,true,true,false,false] rfl rfl (vM HT_.out (by kernel_rfl)) (by decide) (fun K hK => ?_)
                        refine Kd.xn (Kd.int .u8) _ 5 ?hg (N:=93) ?hd (xs:=([bt x0_2 1,bt x0_2 0] : List Int)) (inner:=[.int .u8 (bt x0_2 1),.int .u8 (bt x0_2 0)]) (ok:=fun _ => True) (okp:=fun _ => True) ?hr ?hp (fun _ hk => hk) trivial (Below.refl _ _) (Nat.le_refl _) (by simp) ?_;(case hd => rfl);(case hg => rfl);(case hr => first|(go_simp;done)|(go_simp;rfl));(case hp => exact (Reps.one (show Kd.M (Kd.int .u8) _ _ _ (bt x0_2 1) [.int .u8 (bt x0_2 1)] from rfl) (Reps.one (show Kd.M (Kd.int .u8) _ _ _ (bt x0_2 0) [.int .u8 (bt x0_2 0)] from rfl) (Reps.none _ _))))
                        intro v114 w63 ho64 hb hg_ hnew_
                        clear hg_ hnew_
                        (first|rw [← Ny113.out] at ho64|(simp only [Int.reduceToNat] at ho64;rw [← Ny113.out] at ho64))
                        have n0_:=qd.mk (Kd.qY (by (with_reducible repeat (first|apply Kd.qy|apply Kd.qz|apply Kd.qC));exact HO_6.out) (Kd.jd ho64) hb)
                        have n1_:=qd.mk (Kd.jS (Kd.zA ho64 (Kd.R_lt (by (with_reducible repeat (first|apply Kd.qy|apply Kd.qz|apply Kd.qC));exact HO_6.out))) (qH (by repeat (first|(with_reducible first|exact HB.out|apply qg|apply qc|apply qf|refine qp ?_ GE103.out)|exact HB.out))))
                        have n2_:=qd.mk (qR (g:=gb103) (o:=.cells #[.int .u8 ((qJ l1 x20_2).f0),.int .u8 ((qJ l1 x20_2).f1)] 38 (0,0)) (by (with_reducible repeat (first|refine qx ?_ _|refine qA ?_|refine qw ?_ _));exact BK103.out) hb)
                        have n3_:=qd.mk (qI (by repeat (first|(with_reducible first|exact HB.out|apply qg|apply qc|apply qf|refine qp ?_ GE103.out)|exact HB.out)) hb)
                        clear HO_6
                        clear BK103
                        clear HB
                        have HO_6:=n0_
                        have HO115:=n1_
                        have BK103:=n2_
                        have HB:=n3_
                        clear n0_ n1_ n2_ n3_
                        clear hb ho64
                        obtain ⟨Ao66,co66,eo66⟩:=Kd.jk HO115.out
                        (first|subst eo66|(injection eo66 with f1_ f2_ f3_;have f4_:=f1_.symm;have f5_:=f3_.symm;clear f1_ f2_ f3_;subst f4_;subst f5_))
                        refine hK.out _ _ trivial (fun hHeld => ?_)
                        clear hK K
                        refine yc (a':=?_) ?_ ?_
                        rotate_left
                        ·show Act.put _ (some 93) _ = _
                         simp only [Act.put,List.setIfInBounds_toArray,List.set_cons_zero,List.set_cons_succ,qE,qF]
                         rfl
                        refine one_ (i:=6) (N:=some 94) #[true,true,true,true,true,true,true,false] rfl rfl (vM HT_.out (by kernel_rfl)) (by decide) (fun K hK => ?_)
                        refine Kd.kH (Kd.int .u8) (w0:=w) w.heap.size (by rfl) (.tmp 88) (.tmp 93) 66 5 (.int .u8 0) 1 rfl Try.underlying66 info5 rfl (by decide) (by omega) u6 x6_2 y113 _ _ _ (fun k_ => some k_ ≠ (.slice Ao66 y113.length co66 : Value).ownBlock) (fun _ => False) rfl rfl ?aO ?aR (fun _ _ h => h) (fun _ h => h.elim) ?aF ?aB ?aS ?aL ?_
                        (case aR => repeat (first|exact (Kd.je HO115.out).2.2|(with_reducible refine Kd.jP ?_ _)|(with_reducible refine Kd.jQ ?_ _)|(with_reducible refine Kd.zh ?_)))
                        (case aB => exact (by repeat (first|(with_reducible first|exact HB.out|apply qg|apply qc|apply qf|refine qp ?_ GE103.out)|exact HB.out)))
                        (case aF => exact (fun k_ hk => Kd.fresh' (Kd.R_lt (by (with_reducible repeat (first|apply Kd.qy|apply Kd.qz|apply Kd.qC));exact HO115.out)) k_ hk))
                        (case aO => exact (by (with_reducible repeat (first|apply Kd.qy|apply Kd.qz|apply Kd.qC));exact Kd.qO HO_6.out (fun _ hk => hk.2)))
                        (case aS => exact (qH (by repeat (first|(with_reducible first|exact HB.out|apply qg|apply qc|apply qf|refine qp ?_ GE103.out)|exact HB.out))))
                        (case aL => have:=LMc60.out;omega)
                        intro v117 w65 ho hb hg hat
                        rw [← Ny116.out] at ho
                        have n0_:=qd.mk (zG (g:=gb103) (o:=.cells #[.int .u8 ((qJ l1 x20_2).f0),.int .u8 ((qJ l1 x20_2).f1)] 38 (0,0)) (by (with_reducible repeat (first|refine qx ?_ _|refine qA ?_|refine qw ?_ _));exact BK103.out) hg (Kd.R_ne HO_6.out BK103.out (by decide)))
                        have n1_:=qd.mk (Kd.Va (ok:=(fun _ => True)) (by (with_reducible repeat (first|apply Kd.qy|apply Kd.qz|apply Kd.qC));exact HO115.out) hg hat)
                        have n2_:=qd.mk (hb)
                        have n3_:=qd.mk (ho)
                        clear BK103
                        clear HO115
                        clear HB
                        clear HO_6
                        have BK103:=n0_
                        have HO115:=n1_
                        have HB:=n2_
                        have HO118:=n3_
                        clear n0_ n1_ n2_ n3_
                        clear ho hb hg hat
                        refine hK.out _ _ trivial (fun hHeld => ?_)
                        clear hK K
                        refine yc (a':=?_) ?_ ?_
                        rotate_left
                        ·show Act.put _ (some 94) _ = _
                         simp only [Act.put,List.setIfInBounds_toArray,List.set_cons_zero,List.set_cons_succ,qE,qF]
                         rfl
                        refine qL (i:=7) (N:=some 6) (v:=?_) (a':=?_) #[true,true,true,true,true,true,true,true] rfl rfl (qD HT_.out (by kernel_rfl)) (fun _ _ _ h => h) (Or.inl ⟨by rfl,?_⟩) ?_ ?_
                        rotate_left
                        ·intro w'
                         go_simp
                         with_reducible rfl
                        rotate_left
                        ·simp only [Act.put,List.setIfInBounds_toArray,List.set_cons_zero,List.set_cons_succ,qE,qF]
                         rfl
                        refine xL (zu HT_.out (by kernel_rfl)) ?_
                        try go_wp2
                        go_roundg kj44
                        case measure => have:=HJ2.out;have:=HK2.out;have:=HJ14.out;have:=HJ33.out;have:=HJ44.out;omega
                        case rel => exact ⟨(x0_2.extract 2 x0_2.size),(y116),(wrap64 (x20_2 + 1)),(by first|rfl|(simp;done)|(simp [*];done)),(by first|rfl|(simp;done)|(simp [*];done)),H',⟨by have:=HJ2.out;have:=HK2.out;have:=HJ14.out;have:=HJ33.out;have:=HJ44.out;omega⟩,⟨by (with_reducible repeat (first|apply Kd.qy|apply Kd.qz|apply Kd.qC));exact Kd.qO HO118.out (fun _ hk => trivial)⟩,⟨by repeat (first|(with_reducible first|exact HB.out|apply qg|apply qc|apply qf|refine qp ?_ GE103.out)|exact HB.out)⟩⟩
                       ·rw [if_neg c61] at H
                        exact absurd H (by simp)
                      ·rw [if_neg c60] at H
                       exact absurd H (by simp)
                     ·rw [if_neg c58] at H
                      exact absurd H (by simp)
                    ·rw [if_neg c56] at H
                     exact absurd H (by simp)
                   ·replace c55:=Bool.eq_false_iff.mpr c55
                    subst c55
                    have H1 : (if ((qJ l1 x20_2).f0) = 4 then (if (x0_2.size : Int) > 0 then (if 1 ≤ (x0_2.size : Int) then (qB.l0 kj44 (x0_2.extract 1 x0_2.size) x6_2 l1 (l1.length : Int) (wrap64 (x20_2 + 1))) else (none)) else (some ((⟨#[]⟩ : ByteArray),60))) else (some ((⟨#[]⟩ : ByteArray),60))) = some (r1,r2):=by rw [if_neg (show ¬ (false = true) by decide)] at H;exact H
                    clear H
                    have H:=H1
                    clear H1
                    by_cases c67 : ((qJ l1 x20_2).f0) = 4
                    ·rw [if_pos c67] at H
                     have c67b0 : (((qJ l1 x20_2).f0) == 4) = true:=beq_iff_eq.mpr c67
                     have c67b1 : (((qJ l1 x20_2).f0) != 4) = false:=bne_eq_false_iff_eq.mpr c67
                     clear c67
                     by_cases c68 : (x0_2.size : Int) > 0
                     ·rw [if_pos c68] at H
                      have c68b0 : decide (0 < (x0_2.size : Int)) = true:=decide_eq_true c68
                      have c68b1 : decide (0 < x0_2.size) = true:=decide_eq_true (by omega)
                      clear c68
                      by_cases c69 : 1 ≤ (x0_2.size : Int)
                      ·rw [if_pos c69] at H
                       have c69b0:=eq_true c69
                       have c69b1 : decide (1 ≤ (x0_2.size : Int)) = true:=decide_eq_true c69
                       clear c69
                       have H':=qd.mk H
                       clear H
                       have hcz70_0 : wc.cell? ⟨gb103,0,none⟩ = some (.int .u8 ((qJ l1 x20_2).f0)):=(qi BK103.out 0).trans rfl
                       have hcz70_1 : wc.cell? ⟨gb103,1,none⟩ = some (.int .u8 ((qJ l1 x20_2).f1)):=(qi BK103.out 1).trans rfl
                       have hfz70_0:=ql BK103.out 0
                       have hfz70_1:=ql BK103.out 1
                       go_wp2
                       go_roundg kj44
                       case measure => have:=HJ2.out;have:=HK2.out;have:=HJ14.out;have:=HJ33.out;have:=HJ44.out;omega
                       case rel => exact ⟨(x0_2.extract 1 x0_2.size),(x6_2),(wrap64 (x20_2 + 1)),(by first|rfl|(simp;done)|(simp [*];done)),(by first|rfl|(simp;done)|(simp [*];done)),H',⟨by have:=HJ2.out;have:=HK2.out;have:=HJ14.out;have:=HJ33.out;have:=HJ44.out;omega⟩,⟨by (with_reducible repeat (first|apply Kd.qy|apply Kd.qz|apply Kd.qC));exact HO_6.out⟩,⟨by repeat (first|(with_reducible first|exact HB.out|apply qg|apply qc|apply qf|refine qp ?_ GE103.out)|exact HB.out)⟩⟩
                      ·rw [if_neg c69] at H
                       exact absurd H (by simp)
                     ·rw [if_neg c68] at H
                      have c68b0 : decide (0 < (x0_2.size : Int)) = false:=decide_eq_false c68
                      have c68b1 : decide (0 < x0_2.size) = false:=decide_eq_false (by omega)
                      clear c68
                      simp only [Option.some.injEq,Prod.mk.injEq] at H
                      obtain ⟨rfl,rfl⟩:=H
                      have hcz71_0 : wc.cell? ⟨gb103,0,none⟩ = some (.int .u8 ((qJ l1 x20_2).f0)):=(qi BK103.out 0).trans rfl
                      have hcz71_1 : wc.cell? ⟨gb103,1,none⟩ = some (.int .u8 ((qJ l1 x20_2).f1)):=(qi BK103.out 1).trans rfl
                      have hfz71_0:=ql BK103.out 0
                      have hfz71_1:=ql BK103.out 1
                      go_wp2
                      go_ret2
                      exact ⟨by first|rfl|(simp [qQ,qP] <;> rfl)|(simp [*,qQ,qP] <;> rfl),by repeat (first|(with_reducible first|exact HB.out|apply qg|apply qc|apply qf|refine qp ?_ GE103.out)|exact HB.out)⟩
                    ·rw [if_neg c67] at H
                     have c67b0 : (((qJ l1 x20_2).f0) == 4) = false:=beq_eq_false_iff_ne.mpr c67
                     have c67b1 : (((qJ l1 x20_2).f0) != 4) = true:=bne_iff_ne.mpr c67
                     simp only [Option.some.injEq,Prod.mk.injEq] at H
                     obtain ⟨rfl,rfl⟩:=H
                     have hcz72_0 : wc.cell? ⟨gb103,0,none⟩ = some (.int .u8 ((qJ l1 x20_2).f0)):=(qi BK103.out 0).trans rfl
                     have hcz72_1 : wc.cell? ⟨gb103,1,none⟩ = some (.int .u8 ((qJ l1 x20_2).f1)):=(qi BK103.out 1).trans rfl
                     have hfz72_0:=ql BK103.out 0
                     have hfz72_1:=ql BK103.out 1
                     go_wp2
                     go_ret2
                     exact ⟨by first|rfl|(simp [qQ,qP] <;> rfl)|(simp [*,qQ,qP] <;> rfl),by repeat (first|(with_reducible first|exact HB.out|apply qg|apply qc|apply qf|refine qp ?_ GE103.out)|exact HB.out)⟩
             ·rw [if_neg c33] at H
              have c33b0 : (((qJ l1 x20_2).f1) == 0) = false:=beq_eq_false_iff_ne.mpr c33
              have c33b1 : (((qJ l1 x20_2).f1) != 0) = true:=bne_iff_ne.mpr c33
              simp only [Option.some.injEq,Prod.mk.injEq] at H
              obtain ⟨rfl,rfl⟩:=H
              have hcz73_0 : wc.cell? ⟨gb103,0,none⟩ = some (.int .u8 ((qJ l1 x20_2).f0)):=(qi BK103.out 0).trans rfl
              have hcz73_1 : wc.cell? ⟨gb103,1,none⟩ = some (.int .u8 ((qJ l1 x20_2).f1)):=(qi BK103.out 1).trans rfl
              have hfz73_0:=ql BK103.out 0
              have hfz73_1:=ql BK103.out 1
              go_wp2
              go_ret2
              exact ⟨by first|rfl|(simp [qQ,qP] <;> rfl)|(simp [*,qQ,qP] <;> rfl),by repeat (first|(with_reducible first|exact HB.out|apply qg|apply qc|apply qf|refine qp ?_ GE103.out)|exact HB.out)⟩
        ·rw [if_neg c8] at H
         exact absurd H (by simp)
       ·rw [if_neg c7] at H
        exact absurd H (by simp)
      ·rw [if_neg c6] at H
       have c6b0 : decide (x20_2 < (l1.length : Int)) = false:=decide_eq_false c6
       clear c6
       by_cases c74 : x0_2.toList = ([] : List UInt8)
       ·rw [if_pos c74] at H
        have c74b0 : (x0_2.toList == ([] : List UInt8)) = true:=beq_iff_eq.mpr c74
        have c74b1 : (x0_2.toList != ([] : List UInt8)) = false:=bne_eq_false_iff_eq.mpr c74
        clear c74
        simp only [Option.some.injEq,Prod.mk.injEq] at H
        obtain ⟨rfl,rfl⟩:=H
        have hcv75:=JM (P:=Try.prog) Try.underlying66 Try.underlying5 Try.underlying9 (Kd.Qj HO_6.out)
        go_wp2
        go_ret2
        exact ⟨by first|rfl|(simp [qQ,qP] <;> rfl)|(simp [*,qQ,qP] <;> rfl),by repeat (first|(with_reducible first|exact HB.out|apply qg|apply qc|apply qf)|exact HB.out)⟩
       ·rw [if_neg c74] at H
        have c74b0 : (x0_2.toList == ([] : List UInt8)) = false:=beq_eq_false_iff_ne.mpr c74
        have c74b1 : (x0_2.toList != ([] : List UInt8)) = true:=bne_iff_ne.mpr c74
        simp only [Option.some.injEq,Prod.mk.injEq] at H
        obtain ⟨rfl,rfl⟩:=H
        go_wp2
        go_ret2
        exact ⟨by first|rfl|(simp [qQ,qP] <;> rfl)|(simp [*,qQ,qP] <;> rfl),by repeat (first|(with_reducible first|exact HB.out|apply qg|apply qc|apply qf)|exact HB.out)⟩
end Go.Proofs.Ytdefecnngccmoaa.QTells
namespace Go.Proofs.Ytdefecnngccmoaa.QTells
open Go.RowKit Go.Proofs.YtdefecnngccmoaaW.PrintWords Go.Proofs.YtdefecnngccmoaaW.PrintLast Go.Proofs.YtdefecnngccmoaaW.PrintMore
attribute [local go_sem] jX jV zk zi jM jN jU jY
set_option linter.unusedVariables false
set_option linter.unusedSimpArgs false
open Go.Proofs.Ytdefecnngccmoaa.Ed
def qo.f (a0 : ByteArray) (l1 : List Int) : Option ((List (S38))):=if l1.length ≤ 1000 then some (zF (bytesOf a0) l1) else none
theorem qo.calls (a0 : ByteArray) (A1 : Option Addr) (c1 : Nat) (l1 : List Int) (r : List (S38)) (w : World) (hr1 : Kd.C (Kd.int .u8) w A1 l1.length l1) (hc1 : l1.length ≤ c1) (h : qo.f a0 l1 = some r) :
  Calls Try.prog 20 #[.string a0,.slice A1 l1.length c1] w fun e w' => ∃ v0_ : Value,e = .returned (v0_) ∧ Kd.R k38 38 w' w.heap.size (fun _ => True) v0_ r ∧ Below w.heap.size w w':=by
 unfold qo.f at h
 by_cases hl : l1.length ≤ 1000
 ·rw [if_pos hl] at h
  obtain rfl:=Option.some.inj h
  exact Zw a0 A1 c1 l1 w hr1 hl
 ·rw [if_neg hl] at h;cases h
end Go.Proofs.Ytdefecnngccmoaa.QTells
namespace Go.Proofs.Ytdefecnngccmoaa.QTells
open Go.RowKit Go.Proofs.YtdefecnngccmoaaW.PrintWords Go.Proofs.YtdefecnngccmoaaW.PrintLast Go.Proofs.YtdefecnngccmoaaW.PrintMore
attribute [local go_sem] jX jV zk zi jM jN jU jY
set_option linter.unusedVariables false
set_option linter.unusedSimpArgs false
open Go.Proofs.Ytdefecnngccmoaa.Ed
theorem Ki (d : Nat) (w : World) (x0 y0 : Int) (x1 y1 : Int) :
  (Op.equalIn (d + 2) 38 (.agg #[.int .u8 x0,.int .u8 x1]) (.agg #[.int .u8 y0,.int .u8 y1])).run Try.prog w = .ok (x0 == y0 && (x1 == y1)) w:=by
 refine VN Try.underlying38 (by kernel_rfl) ?_
 refine Xv (by rfl) (by go_simp;rfl) (by go_simp;rfl) (by go_simp) ?_
 exact Xz (by rfl) (by go_simp;rfl) (by go_simp;rfl) (by go_simp)
end Go.Proofs.Ytdefecnngccmoaa.QTells
namespace Go.Proofs.Ytdefecnngccmoaa.QTells
open Go.RowKit Go.Proofs.YtdefecnngccmoaaW.PrintWords Go.Proofs.YtdefecnngccmoaaW.PrintLast Go.Proofs.YtdefecnngccmoaaW.PrintMore
attribute [local go_sem] jX jV zk zi jM jN jU jY
set_option linter.unusedVariables false
set_option linter.unusedSimpArgs false
open Go.Proofs.Ytdefecnngccmoaa.Ed
attribute [local go_sem high] Ki
def qV.l0 : Nat → List (S38) → List (S38) → Int → Option (Bool)
 | 0,_,_,_ => none
 | k + 1,x0,x1,x5 => if x5 < (x0.length : Int) then (if 0 ≤ x5 then (if x5 < (x1.length : Int) then (if (!(((qJ x0 x5).f0) == ((qJ x1 x5).f0)) || (!(((qJ x0 x5).f1) == ((qJ x1 x5).f1)))) = true then (some false) else (qV.l0 k x0 x1 (wrap64 (x5 + 1)))) else (none)) else (none)) else (some true)
def qV.f (k : Nat) (l0 : List (S38)) (l1 : List (S38)) : Option (Bool):=if (l0.length : Int) = (l1.length : Int) then (qV.l0 k l0 l1 0) else (some false)
theorem qV.zP : ∀ k,(∀ y0 y1 y2,LeO (qV.l0 k y0 y1 y2) (qV.l0 (k + 1) y0 y1 y2))
 | 0 => fun _ _ _ r h => by simp [qV.l0] at h
 | k + 1 => by
  have ih0:=qV.zP k
  ·intro y0 y1 y2
   unfold qV.l0
   repeat' first
   | (with_reducible exact ih0 _ _ _)
   | (with_reducible exact LeO.refl _)
   | (with_reducible exact LeO.none _)
   | (with_reducible refine LeO.ite ?_ ?_)
   | (with_reducible refine LeO.bind ?_ (fun _ => ?_))
   | exact ih0 _ _ _
   | exact LeO.none _
   | refine LeO.ite ?_ ?_
   | refine LeO.bind ?_ (fun _ => ?_)
theorem qV.mono : ∀ a0 a1 k,LeO (qV.f k a0 a1) (qV.f (k + 1) a0 a1):=by
 intro a0 a1 k
 have ih0:=qV.zP k
 unfold qV.f
 repeat' first
   | (with_reducible exact ih0 _ _ _)
   | (with_reducible exact LeO.refl _)
   | (with_reducible exact LeO.none _)
   | (with_reducible refine LeO.ite ?_ ?_)
   | (with_reducible refine LeO.bind ?_ (fun _ => ?_))
   | exact ih0 _ _ _
   | exact LeO.none _
   | refine LeO.ite ?_ ?_
   | refine LeO.bind ?_ (fun _ => ?_)
set_option maxHeartbeats 8000000 in
set_option maxRecDepth 100000 in
theorem qV.calls (k : Nat) (A0 : Option Addr) (c0 : Nat) (l0 : List (S38)) (A1 : Option Addr) (c1 : Nat) (l1 : List (S38)) (r : Bool) (w : World) (hr0 : Kd.C k38 w A0 l0.length l0) (hc0 : l0.length ≤ c0) (hr1 : Kd.C k38 w A1 l1.length l1) (hc1 : l1.length ≤ c1) (h : qV.f k l0 l1 = some r) :
  Calls Try.prog 21 #[.slice A0 l0.length c0,.slice A1 l1.length c1] w fun e w' => e = .returned (.bool r) ∧ jW w w':=by
 have hu38:=Try.underlying38
 have HR0:=qd.mk hr0
 have HC0:=qd.mk hc0
 clear hr0 hc0
 have HR1:=qd.mk hr1
 have HC1:=qd.mk hc1
 clear hr1 hc1
 have H : (if (l0.length : Int) = (l1.length : Int) then (qV.l0 k l0 l1 0) else (some false)) = some r:=h
 clear h
 by_cases c3 : (l0.length : Int) = (l1.length : Int)
 ·rw [if_pos c3] at H
  have c3b0 : ((l0.length : Int) == (l1.length : Int)) = true:=beq_iff_eq.mpr c3
  have c3b1 : ((l0.length : Int) != (l1.length : Int)) = false:=bne_eq_false_iff_eq.mpr c3
  have c3b2 : (l0.length == l1.length) = true:=by first|simpa using c3|(simp at c3 ⊢;omega)
  clear c3
  have H':=qd.mk H
  clear H
  go_enter Try.func21,Try.ntmps21
  go_wp2
  repeat (go_quiet (fail);try go_wp2)
  go_loopg [5] k (fun kq v5 w' => ∃ (x5_1 : Int),v5 = .int .i64 x5_1 ∧ qd (qV.l0 kq l0 l1 x5_1 = some r) ∧ qd (kq ≤ k) ∧ jW w w')
  case atStart => exact ⟨(0),(by first|rfl|(simp;done)|(simp [*];done)),H',⟨Nat.le_refl _⟩,by repeat (first|exact jW.refl _|apply jW.step)⟩
  case round =>
   clear H'
   try clear c1
   try clear c2
   try clear p2
   try clear c3
   try clear c3b0
   try clear c3b1
   try clear c3b2
   obtain ⟨x5_1,rfl,HA,HK1,⟨m1,rfl⟩⟩:=hrel
   cases gk with
   | zero => exact absurd HA.out (by simp [qV.l0])
   | succ k1 =>
    have H:=HA.out
    clear HA
    simp only [qV.l0] at H
    by_cases c4 : x5_1 < (l0.length : Int)
    ·rw [if_pos c4] at H
     have c4b0 : decide (x5_1 < (l0.length : Int)) = true:=decide_eq_true c4
     clear c4
     by_cases c5 : 0 ≤ x5_1
     ·rw [if_pos c5] at H
      have c5b0 : decide (0 ≤ x5_1) = true:=decide_eq_true c5
      clear c5
      by_cases c6 : x5_1 < (l1.length : Int)
      ·rw [if_pos c6] at H
       have c6b0 : decide (x5_1 < (l1.length : Int)) = true:=decide_eq_true c6
       clear c6
       by_cases c7 : (!(((qJ l0 x5_1).f0) == ((qJ l1 x5_1).f0)) || (!(((qJ l0 x5_1).f1) == ((qJ l1 x5_1).f1)))) = true
       ·rw [if_pos c7] at H
        have c7b0 : (!(((qJ l0 x5_1).f0) == ((qJ l1 x5_1).f0)) || (!(((qJ l0 x5_1).f1) == ((qJ l1 x5_1).f1)))) = true:=c7
        clear c7
        obtain rfl:=Option.some.inj H
        have p122 : 0 ≤ (x5_1 : Int):=of_decide_eq_true (by first|(with_reducible assumption)|assumption)
        have q122 : x5_1 < (l0.length : Int):=of_decide_eq_true (by first|(with_reducible assumption)|assumption)
        obtain ⟨ad122,e122,hx122_0,hx122_1⟩:=vD HR0.out x5_1 p122 q122
        cases e122
        replace p122:=eq_true p122
        replace q122:=eq_true q122
        have p123 : 0 ≤ (x5_1 : Int):=of_decide_eq_true (by first|(with_reducible assumption)|assumption)
        have q123 : x5_1 < (l1.length : Int):=of_decide_eq_true (by first|(with_reducible assumption)|assumption)
        obtain ⟨ad123,e123,hx123_0,hx123_1⟩:=vD HR1.out x5_1 p123 q123
        cases e123
        replace p123:=eq_true p123
        replace q123:=eq_true q123
        go_wp2
        repeat (go_quiet (fail);try go_wp2)
        go_ret
        exact ⟨by first|rfl|(simp;done)|(simp [*];done),by repeat (first|exact jW.refl _|apply jW.step)⟩
       ·rw [if_neg c7] at H
        have c7b0 : (!(((qJ l0 x5_1).f0) == ((qJ l1 x5_1).f0)) || (!(((qJ l0 x5_1).f1) == ((qJ l1 x5_1).f1)))) = false:=by simpa using c7
        clear c7
        have H':=qd.mk H
        clear H
        have p122 : 0 ≤ (x5_1 : Int):=of_decide_eq_true (by first|(with_reducible assumption)|assumption)
        have q122 : x5_1 < (l0.length : Int):=of_decide_eq_true (by first|(with_reducible assumption)|assumption)
        obtain ⟨ad122,e122,hx122_0,hx122_1⟩:=vD HR0.out x5_1 p122 q122
        cases e122
        replace p122:=eq_true p122
        replace q122:=eq_true q122
        have p123 : 0 ≤ (x5_1 : Int):=of_decide_eq_true (by first|(with_reducible assumption)|assumption)
        have q123 : x5_1 < (l1.length : Int):=of_decide_eq_true (by first|(with_reducible assumption)|assumption)
        obtain ⟨ad123,e123,hx123_0,hx123_1⟩:=vD HR1.out x5_1 p123 q123
        cases e123
        replace p123:=eq_true p123
        replace q123:=eq_true q123
        go_wp2
        repeat (go_quiet (fail);try go_wp2)
        go_roundg k1
        case measure => have:=HK1.out;omega
        case rel => exact ⟨(wrap64 (x5_1 + 1)),(by first|rfl|(simp;done)|(simp [*];done)),H',⟨by have:=HK1.out;omega⟩,by repeat (first|exact jW.refl _|apply jW.step)⟩
      ·rw [if_neg c6] at H
       exact absurd H (by simp)
     ·rw [if_neg c5] at H
      exact absurd H (by simp)
    ·rw [if_neg c4] at H
     have c4b0 : decide (x5_1 < (l0.length : Int)) = false:=decide_eq_false c4
     clear c4
     obtain rfl:=Option.some.inj H
     go_wp2
     repeat (go_quiet (fail);try go_wp2)
     go_ret
     exact ⟨by first|rfl|(simp;done)|(simp [*];done),by repeat (first|exact jW.refl _|apply jW.step)⟩
 ·rw [if_neg c3] at H
  have c3b0 : ((l0.length : Int) == (l1.length : Int)) = false:=beq_eq_false_iff_ne.mpr c3
  have c3b1 : ((l0.length : Int) != (l1.length : Int)) = true:=bne_iff_ne.mpr c3
  have c3b2 : (l0.length == l1.length) = false:=by first|simpa using c3|(simp at c3 ⊢;omega)
  obtain rfl:=Option.some.inj H
  go_enter Try.func21,Try.ntmps21
  go_wp2
  repeat (go_quiet (fail);try go_wp2)
  go_ret
  exact ⟨by first|rfl|(simp;done)|(simp [*];done),by repeat (first|exact jW.refl _|apply jW.step)⟩
end Go.Proofs.Ytdefecnngccmoaa.QTells
