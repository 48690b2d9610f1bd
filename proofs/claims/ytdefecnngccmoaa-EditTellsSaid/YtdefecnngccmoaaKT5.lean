/- A part of the texts of one claim: the walk of the code by hand-proved contracts, and the plain law. -/
import Derived.Lib.IndexBytes
import Derived.Test.YtdefecnngccmoaaKT4
set_option linter.unusedVariables false
set_option linter.unusedSimpArgs false
namespace Go.Proofs.Ytdefecnngccmoaa.QTells
open Go.RowKit Go.Proofs.YtdefecnngccmoaaW.PrintWords Go.Proofs.YtdefecnngccmoaaW.PrintLast Go.Proofs.YtdefecnngccmoaaW.PrintMore
attribute [local go_sem] jX jV zk zi jM jN jU jY
set_option linter.unusedVariables false
set_option linter.unusedSimpArgs false
mutual
def qm.l0 : Nat → ByteArray → ByteArray → List (List Int) → List (S59) → Int → Int → Int → Int → Int → Int → Option ((List (S59)) × Int × Int)
 | 0,_,_,_,_,_,_,_,_,_,_ => none
 | k + 1,x0,x1,x10,x11,x12,x13,x161000,x161001,x161002,x161003 => if x12 < (x0.size : Int) then (qm.j1 k x0 x1 x10 x11 x12 x13 true x161000 x161001 x161002 x161003) else (qm.j1 k x0 x1 x10 x11 x12 x13 (decide (x13 < (x1.size : Int))) x161000 x161001 x161002 x161003)
def qm.j1 : Nat → ByteArray → ByteArray → List (List Int) → List (S59) → Int → Int → Bool → Int → Int → Int → Int → Option ((List (S59)) × Int × Int)
 | 0,_,_,_,_,_,_,_,_,_,_,_ => none
 | k + 1,x0,x1,x10,x11,x12,x13,x40,x161000,x161001,x161002,x161003 => if x40 = true then (qm.l1 k x0 x1 x10 x11 x12 x13 1 x161000 x161001 x161002 x161003) else (if 0 < (x10.length : Int) then (if 0 < ((qW x10 0).length : Int) then (some (x11,rd (qW x10 0) 0,0)) else (none)) else (none))
def qm.l1 : Nat → ByteArray → ByteArray → List (List Int) → List (S59) → Int → Int → Int → Int → Int → Int → Int → Option ((List (S59)) × Int × Int)
 | 0,_,_,_,_,_,_,_,_,_,_,_ => none
 | k + 1,x0,x1,x10,x11,x12,x13,x14,x161000,x161001,x161002,x161003 => if 0 ≤ x12 then (if x12 ≤ (x0.size : Int) then (if 0 ≤ x13 then (if x13 ≤ (x1.size : Int) then ((qG.f k x14 (x0.extract (x12 : Int).toNat x0.size) (x1.extract (x13 : Int).toNat x1.size) x161000 x161001 x161002 x161003).bind fun bt167 => (if bt167.1 = true then (if 0 ≤ (wrap64 (x12 + bt167.2.1)) then (if (wrap64 (x12 + bt167.2.1)) < (x10.length : Int) then (if 0 ≤ (wrap64 (x13 + bt167.2.2.1)) then (if (wrap64 (x13 + bt167.2.2.1)) < ((qW x10 (wrap64 (x12 + bt167.2.1))).length : Int) then (if x12 < (x10.length : Int) then (if x13 < ((qW x10 x12).length : Int) then (qm.j3 k x0 x1 x10 x11 x12 x13 x14 bt167.2.1 bt167.2.2.1 ((wrap64 (bt167.2.2.2 + (rd (qW x10 (wrap64 (x12 + bt167.2.1))) (wrap64 (x13 + bt167.2.2.1))))) == (rd (qW x10 x12) x13)) x161000 x161001 x161002 x161003) else (none)) else (none)) else (none)) else (none)) else (none)) else (none)) else (qm.j3 k x0 x1 x10 x11 x12 x13 x14 bt167.2.1 bt167.2.2.1 false x161000 x161001 x161002 x161003))) else (none)) else (none)) else (none)) else (none)
def qm.j3 : Nat → ByteArray → ByteArray → List (List Int) → List (S59) → Int → Int → Int → Int → Int → Bool → Int → Int → Int → Int → Option ((List (S59)) × Int × Int)
 | 0,_,_,_,_,_,_,_,_,_,_,_,_,_,_ => none
 | k + 1,x0,x1,x10,x11,x12,x13,x14,x16,x17,x78,x161000,x161001,x161002,x161003 => if x78 = true then (if x14 = 2 then (if 0 ≤ x13 then (if x13 < (x1.size : Int) then (if x11.length < 70368744177664 then (qm.l0 k x0 x1 x10 (x11 ++ [(⟨x14,bt x1 x13⟩ : S59)]) (wrap64 (x12 + x16)) (wrap64 (x13 + x17)) x161000 x161001 x161002 x161003) else (none)) else (none)) else (none)) else (if x14 = 5 then (if 0 ≤ x13 then (if x13 < (x1.size : Int) then (if x11.length < 70368744177664 then (qm.l0 k x0 x1 x10 (x11 ++ [(⟨x14,bt x1 x13⟩ : S59)]) (wrap64 (x12 + x16)) (wrap64 (x13 + x17)) x161000 x161001 x161002 x161003) else (none)) else (none)) else (none)) else (if x11.length < 70368744177664 then (qm.l0 k x0 x1 x10 (x11 ++ [(⟨x14,0⟩ : S59)]) (wrap64 (x12 + x16)) (wrap64 (x13 + x17)) x161000 x161001 x161002 x161003) else (none)))) else (qm.l1 k x0 x1 x10 x11 x12 x13 ((x14 + 1) % 256) x161000 x161001 x161002 x161003)
end
def qm.f (k : Nat) (a0 : ByteArray) (a1 : ByteArray) (a2_0 : Int) (a2_1 : Int) (a2_2 : Int) (a2_3 : Int) : Option ((List (S59)) × Int × Int):=(jv.f a0 a1 a2_0 a2_1 a2_2 a2_3).bind fun t161 => (if t161 = 0 then ((qj.f k a0 a1 a2_0 a2_1 a2_2 a2_3).bind fun t162 => (qm.l0 k a0 a1 t162 ([] : List (S59)) 0 0 a2_0 a2_1 a2_2 a2_3)) else (some (([] : List (S59)),0,t161)))
theorem qm.zP : ∀ k,(∀ y0 y1 y2 y3 y4 y5 y6 y7 y8 y9,LeO (qm.l0 k y0 y1 y2 y3 y4 y5 y6 y7 y8 y9) (qm.l0 (k + 1) y0 y1 y2 y3 y4 y5 y6 y7 y8 y9)) ∧ (∀ y0 y1 y2 y3 y4 y5 y6 y7 y8 y9 y10,LeO (qm.j1 k y0 y1 y2 y3 y4 y5 y6 y7 y8 y9 y10) (qm.j1 (k + 1) y0 y1 y2 y3 y4 y5 y6 y7 y8 y9 y10)) ∧ (∀ y0 y1 y2 y3 y4 y5 y6 y7 y8 y9 y10,LeO (qm.l1 k y0 y1 y2 y3 y4 y5 y6 y7 y8 y9 y10) (qm.l1 (k + 1) y0 y1 y2 y3 y4 y5 y6 y7 y8 y9 y10)) ∧ (∀ y0 y1 y2 y3 y4 y5 y6 y7 y8 y9 y10 y11 y12 y13,LeO (qm.j3 k y0 y1 y2 y3 y4 y5 y6 y7 y8 y9 y10 y11 y12 y13) (qm.j3 (k + 1) y0 y1 y2 y3 y4 y5 y6 y7 y8 y9 y10 y11 y12 y13))
 | 0 => ⟨fun _ _ _ _ _ _ _ _ _ _ r h => by simp [qm.l0] at h,fun _ _ _ _ _ _ _ _ _ _ _ r h => by simp [qm.j1] at h,fun _ _ _ _ _ _ _ _ _ _ _ r h => by simp [qm.l1] at h,fun _ _ _ _ _ _ _ _ _ _ _ _ _ _ r h => by simp [qm.j3] at h⟩
 | k + 1 => by
  obtain ⟨ih0,ih1,ih2,ih3⟩:=qm.zP k
  refine ⟨?_,?_,?_,?_⟩
  ·intro y0 y1 y2 y3 y4 y5 y6 y7 y8 y9
   unfold qm.l0
   repeat' first
   | (with_reducible exact ih0 _ _ _ _ _ _ _ _ _ _)
   | (with_reducible exact ih1 _ _ _ _ _ _ _ _ _ _ _)
   | (with_reducible exact ih2 _ _ _ _ _ _ _ _ _ _ _)
   | (with_reducible exact ih3 _ _ _ _ _ _ _ _ _ _ _ _ _ _)
   | (with_reducible exact qG.mono _ _ _ _ _ _ _ _)
   | (with_reducible exact qj.mono _ _ _ _ _ _ _)
   | (with_reducible exact LeO.refl _)
   | (with_reducible exact LeO.none _)
   | (with_reducible refine LeO.ite ?_ ?_)
   | (with_reducible refine LeO.bind ?_ (fun _ => ?_))
   | exact ih0 _ _ _ _ _ _ _ _ _ _
   | exact ih1 _ _ _ _ _ _ _ _ _ _ _
   | exact ih2 _ _ _ _ _ _ _ _ _ _ _
   | exact ih3 _ _ _ _ _ _ _ _ _ _ _ _ _ _
   | exact qG.mono _ _ _ _ _ _ _ _
   | exact qj.mono _ _ _ _ _ _ _
   | exact LeO.none _
   | refine LeO.ite ?_ ?_
   | refine LeO.bind ?_ (fun _ => ?_)
  ·intro y0 y1 y2 y3 y4 y5 y6 y7 y8 y9 y10
   unfold qm.j1
   repeat' first
   | (with_reducible exact ih0 _ _ _ _ _ _ _ _ _ _)
   | (with_reducible exact ih1 _ _ _ _ _ _ _ _ _ _ _)
   | (with_reducible exact ih2 _ _ _ _ _ _ _ _ _ _ _)
   | (with_reducible exact ih3 _ _ _ _ _ _ _ _ _ _ _ _ _ _)
   | (with_reducible exact qG.mono _ _ _ _ _ _ _ _)
   | (with_reducible exact qj.mono _ _ _ _ _ _ _)
   | (with_reducible exact LeO.refl _)
   | (with_reducible exact LeO.none _)
   | (with_reducible refine LeO.ite ?_ ?_)
   | (with_reducible refine LeO.bind ?_ (fun _ => ?_))
   | exact ih0 _ _ _ _ _ _ _ _ _ _
   | exact ih1 _ _ _ _ _ _ _ _ _ _ _
   | exact ih2 _ _ _ _ _ _ _ _ _ _ _
   | exact ih3 _ _ _ _ _ _ _ _ _ _ _ _ _ _
   | exact qG.mono _ _ _ _ _ _ _ _
   | exact qj.mono _ _ _ _ _ _ _
   | exact LeO.none _
   | refine LeO.ite ?_ ?_
   | refine LeO.bind ?_ (fun _ => ?_)
  ·intro y0 y1 y2 y3 y4 y5 y6 y7 y8 y9 y10
   unfold qm.l1
   repeat' first
   | (with_reducible exact ih0 _ _ _ _ _ _ _ _ _ _)
   | (with_reducible exact ih1 _ _ _ _ _ _ _ _ _ _ _)
   | (with_reducible exact ih2 _ _ _ _ _ _ _ _ _ _ _)
   | (with_reducible exact ih3 _ _ _ _ _ _ _ _ _ _ _ _ _ _)
   | (with_reducible exact qG.mono _ _ _ _ _ _ _ _)
   | (with_reducible exact qj.mono _ _ _ _ _ _ _)
   | (with_reducible exact LeO.refl _)
   | (with_reducible exact LeO.none _)
   | (with_reducible refine LeO.ite ?_ ?_)
   | (with_reducible refine LeO.bind ?_ (fun _ => ?_))
   | exact ih0 _ _ _ _ _ _ _ _ _ _
   | exact ih1 _ _ _ _ _ _ _ _ _ _ _
   | exact ih2 _ _ _ _ _ _ _ _ _ _ _
   | exact ih3 _ _ _ _ _ _ _ _ _ _ _ _ _ _
   | exact qG.mono _ _ _ _ _ _ _ _
   | exact qj.mono _ _ _ _ _ _ _
   | exact LeO.none _
   | refine LeO.ite ?_ ?_
   | refine LeO.bind ?_ (fun _ => ?_)
  ·intro y0 y1 y2 y3 y4 y5 y6 y7 y8 y9 y10 y11 y12 y13
   unfold qm.j3
   repeat' first
   | (with_reducible exact ih0 _ _ _ _ _ _ _ _ _ _)
   | (with_reducible exact ih1 _ _ _ _ _ _ _ _ _ _ _)
   | (with_reducible exact ih2 _ _ _ _ _ _ _ _ _ _ _)
   | (with_reducible exact ih3 _ _ _ _ _ _ _ _ _ _ _ _ _ _)
   | (with_reducible exact qG.mono _ _ _ _ _ _ _ _)
   | (with_reducible exact qj.mono _ _ _ _ _ _ _)
   | (with_reducible exact LeO.refl _)
   | (with_reducible exact LeO.none _)
   | (with_reducible refine LeO.ite ?_ ?_)
   | (with_reducible refine LeO.bind ?_ (fun _ => ?_))
   | exact ih0 _ _ _ _ _ _ _ _ _ _
   | exact ih1 _ _ _ _ _ _ _ _ _ _ _
   | exact ih2 _ _ _ _ _ _ _ _ _ _ _
   | exact ih3 _ _ _ _ _ _ _ _ _ _ _ _ _ _
   | exact qG.mono _ _ _ _ _ _ _ _
   | exact qj.mono _ _ _ _ _ _ _
   | exact LeO.none _
   | refine LeO.ite ?_ ?_
   | refine LeO.bind ?_ (fun _ => ?_)
theorem qm.mono : ∀ a0 a1 a2 a3 a4 a5 k,LeO (qm.f k a0 a1 a2 a3 a4 a5) (qm.f (k + 1) a0 a1 a2 a3 a4 a5):=by
 intro a0 a1 a2 a3 a4 a5 k
 obtain ⟨ih0,ih1,ih2,ih3⟩:=qm.zP k
 unfold qm.f
 repeat' first
   | (with_reducible exact ih0 _ _ _ _ _ _ _ _ _ _)
   | (with_reducible exact ih1 _ _ _ _ _ _ _ _ _ _ _)
   | (with_reducible exact ih2 _ _ _ _ _ _ _ _ _ _ _)
   | (with_reducible exact ih3 _ _ _ _ _ _ _ _ _ _ _ _ _ _)
   | (with_reducible exact qG.mono _ _ _ _ _ _ _ _)
   | (with_reducible exact qj.mono _ _ _ _ _ _ _)
   | (with_reducible exact LeO.refl _)
   | (with_reducible exact LeO.none _)
   | (with_reducible refine LeO.ite ?_ ?_)
   | (with_reducible refine LeO.bind ?_ (fun _ => ?_))
   | exact ih0 _ _ _ _ _ _ _ _ _ _
   | exact ih1 _ _ _ _ _ _ _ _ _ _ _
   | exact ih2 _ _ _ _ _ _ _ _ _ _ _
   | exact ih3 _ _ _ _ _ _ _ _ _ _ _ _ _ _
   | exact qG.mono _ _ _ _ _ _ _ _
   | exact qj.mono _ _ _ _ _ _ _
   | exact LeO.none _
   | refine LeO.ite ?_ ?_
   | refine LeO.bind ?_ (fun _ => ?_)
def qm.T9 : Bool × List (List Nat × List Nat):=(true,[([],[]),([],[]),([],[]),([1,2],[1,2]),([],[]),([],[]),([4,5],[4,5]),([],[]),([0,3,6,7],[0,3,6,7]),([8],[8]),([9],[9]),([9],[9]),([9],[9]),([9],[9]),([10,8,0,1,2,3,4,5,6,7,8,9,10],[10]),([11,14,0,1,2,3,4,5,6,7,8,9,10,11,14],[11]),([12,15,0,1,2,3,4,5,6,7,8,9,10,11,12,14,15],[12]),([13,16,0,1,2,3,4,5,6,7,8,9,10,11,12,13,14,15,16],[13])])
def qm.B9 : List Nat:=[0,0,0,6,0,0,48,0,255,511,1023,1023,1023,1023,2047,20479,57343,131071]
theorem qm.tab9 : rtab .any (opsOf Try.f25 9) = qm.T9:=by kernel_rfl
theorem qm.Ko : zt qm.T9.2 qm.B9 = true:=by kernel_rfl
def qm.T10 : Bool × List (List Nat × List Nat):=(true,[([],[]),([0],[0]),([1],[1]),([1],[1]),([1],[1]),([1],[1]),([4,5,1],[1,4,5]),([3,6,1],[1,3,6]),([7,1],[1,7]),([1],[1]),([1],[1]),([9,10,1],[1,9,10]),([8,11,1],[1,8,11]),([12,1],[1,12]),([2,13,1],[1,2,13]),([1],[1]),([1],[1]),([15,16,1],[1,15,16]),([17,1],[1,17]),([1],[1]),([18,19,1],[1,18,19]),([20,1],[1,20]),([14,21,1],[1,14,21]),([1,22],[1,22])])
def qm.B10 : List Nat:=[0,1,3,3,3,3,51,123,251,3,3,1539,4091,8187,16383,3,3,98307,229379,3,1015811,2064387,4194303,8388607]
theorem qm.Vn : rtab .any (opsOf Try.f25 10) = qm.T10:=by kernel_rfl
theorem qm.ZG : zt qm.T10.2 qm.B10 = true:=by kernel_rfl
def qm.T18 : Bool × List (List Nat × List Nat):=(true,[([],[]),([],[]),([1],[1]),([2],[2]),([3],[3]),([4],[4]),([0,0],[0]),([5,6,0,1,2,3,4,5,6],[5]),([7,0,1,2,3,4,5,6,7],[])])
def qm.B18 : List Nat:=[0,0,2,6,14,30,1,127,255]
theorem qm.VZ : rtab .any (opsOf Try.f25 18) = qm.T18:=by kernel_rfl
theorem qm.VS : zt qm.T18.2 qm.B18 = true:=by kernel_rfl
set_option maxHeartbeats 8000000 in
set_option maxRecDepth 100000 in
theorem qm.calls (k : Nat) (a0 : ByteArray) (a1 : ByteArray) (a2_0 : Int) (a2_1 : Int) (a2_2 : Int) (a2_3 : Int) (r1 : List (S59)) (r2 : Int) (r3 : Int) (w : World) (h : qm.f k a0 a1 a2_0 a2_1 a2_2 a2_3 = some (r1,r2,r3)) :
  Calls Try.prog 25 #[.string a0,.string a1,.agg #[.int .i64 a2_0,.int .i64 a2_1,.int .i64 a2_2,.int .i64 a2_3]] w fun e w' => ∃ v0_ : Value,e = .returned (.tuple #[v0_,.int .i64 r2,.int .i64 r3]) ∧ Kd.R k59 59 w' w.heap.size (fun _ => True) v0_ r1 ∧ Below w.heap.size w w':=by
 have hu51:=Try.underlying51
 have hu59:=Try.underlying59
 have HB:=qd.mk (Below.refl w.heap.size w)
 have H : ((jv.f a0 a1 a2_0 a2_1 a2_2 a2_3).bind fun t161 => (if t161 = 0 then ((qj.f k a0 a1 a2_0 a2_1 a2_2 a2_3).bind fun t162 => (qm.l0 k a0 a1 t162 ([] : List (S59)) 0 0 a2_0 a2_1 a2_2 a2_3)) else (some (([] : List (S59)),0,t161)))) = some (r1,r2,r3):=h
 clear h
 replace H:=Option.bind_eq_some_iff.mp H
 obtain ⟨t161,A40,H⟩:=H
 replace H : (if t161 = 0 then ((qj.f k a0 a1 a2_0 a2_1 a2_2 a2_3).bind fun t162 => (qm.l0 k a0 a1 t162 ([] : List (S59)) 0 0 a2_0 a2_1 a2_2 a2_3)) else (some (([] : List (S59)),0,t161))) = some (r1,r2,r3):=H
 have A4:=qd.mk A40
 clear A40
 by_cases c5 : t161 = 0
 ·rw [if_pos c5] at H
  have c5b0 : (t161 == 0) = true:=beq_iff_eq.mpr c5
  have c5b1 : (t161 != 0) = false:=bne_eq_false_iff_eq.mpr c5
  clear c5
  replace H:=Option.bind_eq_some_iff.mp H
  obtain ⟨t162,A60,H⟩:=H
  replace H : (qm.l0 k a0 a1 t162 ([] : List (S59)) 0 0 a2_0 a2_1 a2_2 a2_3) = some (r1,r2,r3):=H
  have A6:=qd.mk A60
  clear A60
  have H':=qd.mk H
  clear H
  go_enter Try.func25,Try.ntmps25
  go_wp2_with (first|((with_reducible refine ji (N:=5) rfl ?_);(try (refine jm (by rfl) ?_;dsimp only));refine jg ?hg (N:=5) ?hd (cs:=#[.int .i64 a2_0,.int .i64 a2_1,.int .i64 a2_2,.int .i64 a2_3]) (t:=51) ?hr ?_;(case hd => rfl);(case hg => rfl);(case hr => first|(go_simp;done)|(go_simp;rfl));intro gb160 hg w7 hbox hb;have n0_:=qd.mk (qI (by repeat (first|(with_reducible first|exact HB.out|apply qg|apply qc|apply qf)|exact HB.out)) hb);have n1_:=qd.mk (hbox);have n2_:=qd.mk ((by rw [hg];exact (qH (by repeat (first|(with_reducible first|exact HB.out|apply qg|apply qc|apply qf)|exact HB.out))) : w.heap.size ≤ gb160));have n3_:=qd.mk ((by rw [hg];exact (qH (by repeat (first|(with_reducible first|exact HB.out|apply qg|apply qc|apply qf)|exact HB.out))) : w.heap.size ≤ gb160));clear HB;have HB:=n0_;have BK160:=n1_;have GW160:=n2_;have GE160:=n3_;clear n0_ n1_ n2_ n3_;clear hb hbox hg;have hcz8_0 : w7.cell? ⟨gb160,0,none⟩ = some (.int .i64 a2_0):=(qi BK160.out 0).trans rfl;have hcz8_1 : w7.cell? ⟨gb160,1,none⟩ = some (.int .i64 a2_1):=(qi BK160.out 1).trans rfl;have hcz8_2 : w7.cell? ⟨gb160,2,none⟩ = some (.int .i64 a2_2):=(qi BK160.out 2).trans rfl;have hcz8_3 : w7.cell? ⟨gb160,3,none⟩ = some (.int .i64 a2_3):=(qi BK160.out 3).trans rfl;have hfz8_0:=ql BK160.out 0;have hfz8_1:=ql BK160.out 1;have hfz8_2:=ql BK160.out 2;have hfz8_3:=ql BK160.out 3)|((with_reducible refine qZ (f:=32) rfl ?_);refine jL (some 23) rfl rfl Try.func32 (by kernel_rfl) rfl #[.string a0,.string a1,.agg #[.int .i64 a2_0,.int .i64 a2_1,.int .i64 a2_2,.int .i64 a2_3]] rfl (by (try simp only [List.map_toArray,List.map_cons,List.map_nil]);first|done|rfl|(simp only [List.length_drop,List.length_take];rfl)) ?_;(with_reducible refine (jv.calls a0 a1 a2_0 a2_1 a2_2 a2_3 t161 _ A4.out).mono ?_);rintro e w9 ⟨rfl,hb⟩;refine ⟨_,rfl,?_⟩;have n0_:=qd.mk (qR (g:=gb160) (o:=.cells #[.int .i64 a2_0,.int .i64 a2_1,.int .i64 a2_2,.int .i64 a2_3] 51 (0,0)) (by (with_reducible repeat (first|refine qx ?_ _|refine qA ?_|refine qw ?_ _));exact BK160.out) hb);have n1_:=qd.mk (qI (by repeat (first|(with_reducible first|exact HB.out|apply qg|apply qc|apply qf|refine qp ?_ GE160.out)|exact HB.out)) hb);clear BK160;clear HB;have BK160:=n0_;have HB:=n1_;clear n0_ n1_;(try clear hb);(try clear hb2);(try clear hk);(try clear hi);have hcz10_0 : w9.cell? ⟨gb160,0,none⟩ = some (.int .i64 a2_0):=(qi BK160.out 0).trans rfl;have hcz10_1 : w9.cell? ⟨gb160,1,none⟩ = some (.int .i64 a2_1):=(qi BK160.out 1).trans rfl;have hcz10_2 : w9.cell? ⟨gb160,2,none⟩ = some (.int .i64 a2_2):=(qi BK160.out 2).trans rfl;have hcz10_3 : w9.cell? ⟨gb160,3,none⟩ = some (.int .i64 a2_3):=(qi BK160.out 3).trans rfl;have hfz10_0:=ql BK160.out 0;have hfz10_1:=ql BK160.out 1;have hfz10_2:=ql BK160.out 2;have hfz10_3:=ql BK160.out 3)|((with_reducible refine qZ (f:=33) rfl ?_);refine jL (some 30) rfl rfl Try.func33 (by kernel_rfl) rfl #[.string a0,.string a1,.agg #[.int .i64 a2_0,.int .i64 a2_1,.int .i64 a2_2,.int .i64 a2_3]] rfl (by (try simp only [List.map_toArray,List.map_cons,List.map_nil]);first|done|rfl|(simp only [List.length_drop,List.length_take];rfl)) ?_;(with_reducible refine (qj.calls k a0 a1 a2_0 a2_1 a2_2 a2_3 t162 _ A6.out).mono ?_);rintro e w11 ⟨v163,rfl,ho0,hb⟩;refine ⟨_,rfl,?_⟩;have n0_:=qd.mk (Kd.QR ho0 (qH (by repeat (first|(with_reducible first|exact HB.out|apply qg|apply qc|apply qf|refine qp ?_ GE160.out)|exact HB.out))));have n1_:=qd.mk (qR (g:=gb160) (o:=.cells #[.int .i64 a2_0,.int .i64 a2_1,.int .i64 a2_2,.int .i64 a2_3] 51 (0,0)) (by (with_reducible repeat (first|refine qx ?_ _|refine qA ?_|refine qw ?_ _));exact BK160.out) hb);have n2_:=qd.mk (qI (by repeat (first|(with_reducible first|exact HB.out|apply qg|apply qc|apply qf|refine qp ?_ GE160.out)|exact HB.out)) hb);clear BK160;clear HB;have HO164:=n0_;have BK160:=n1_;have HB:=n2_;clear n0_ n1_ n2_;(try clear hb);(try clear hb2);(try clear hk);(try clear hi);(try clear ho0)))
  go_loopg [11,12,13] k (fun kq v11 v12 v13 w' => ∃ (x11_1 : List (S59)) (x12_1 : Int) (x13_1 : Int),v12 = .int .i64 x12_1 ∧ v13 = .int .i64 x13_1 ∧ qd (qm.l0 kq a0 a1 t162 x11_1 x12_1 x13_1 a2_0 a2_1 a2_2 a2_3 = some (r1,r2,r3)) ∧ qd (kq ≤ k) ∧ qd (Kd.S (Kd.slice 3 (Kd.int .i64)) 62 w' w.heap.size (fun _ => True) v163 t162) ∧ qd (Kd.R k59 59 w' w.heap.size (fun _ => True) v11 x11_1) ∧ qd (w'.heap[gb160]? = some (.cells #[.int .i64 a2_0,.int .i64 a2_1,.int .i64 a2_2,.int .i64 a2_3] 51 (0,0))) ∧ qd (Below w.heap.size w w'))
  case atStart => exact ⟨(([] : List (S59))),(0),(0),(by first|rfl|(simp;done)|(simp [*];done)),(by first|rfl|(simp;done)|(simp [*];done)),H',⟨Nat.le_refl _⟩,⟨by (with_reducible repeat (first|apply Kd.jy|apply Kd.jA|apply Kd.jD));exact HO164.out⟩,⟨by first|exact Kd.kz _ _ _ _ _|exact Kd.ZN _ _ _ _ _|exact Kd.ZF _ _ _ _ _|exact Kd.Xk _ _ _ _ _|exact Kd.Xf _ _ _ _ _⟩,⟨by (with_reducible repeat (first|refine qx ?_ _|refine qA ?_|refine qw ?_ _));exact BK160.out⟩,⟨by repeat (first|(with_reducible first|exact HB.out|apply qg|apply qc|apply qf|refine qp ?_ GE160.out)|exact HB.out)⟩⟩
  case round =>
   clear H'
   try clear c2
   try clear p2
   try clear c3
   try clear c5
   try clear c5b0
   try clear c5b1
   try clear hcz10_0
   try clear hcz10_1
   try clear hcz10_2
   try clear hcz10_3
   try clear hcz8_0
   try clear hcz8_1
   try clear hcz8_2
   try clear hcz8_3
   try clear hfz10_0
   try clear hfz10_1
   try clear hfz10_2
   try clear hfz10_3
   try clear hfz8_0
   try clear hfz8_1
   try clear hfz8_2
   try clear hfz8_3
   obtain ⟨x11_1,x12_1,x13_1,rfl,rfl,HA,HK1,HO_10,HO_11,BK160,HB⟩:=hrel
   cases gk with
   | zero => exact absurd HA.out (by simp [qm.l0])
   | succ k1 =>
    have H:=HA.out
    clear HA
    simp only [qm.l0] at H
    have HC12:=qd.mk H
    clear H
    go_upto_region 7 with (fail)
    go_cut [40] (fun v40 wc => ∃ (kq : Nat) (x40_11 : Bool),v40 = .bool x40_11 ∧ qd (qm.j1 kq a0 a1 t162 x11_1 x12_1 x13_1 x40_11 a2_0 a2_1 a2_2 a2_3 = some (r1,r2,r3)) ∧ qd (kq ≤ k1) ∧ qd (Kd.S (Kd.slice 3 (Kd.int .i64)) 62 wc w.heap.size (fun _ => True) v163 t162) ∧ qd (Kd.R k59 59 wc w.heap.size (fun _ => True) u11 x11_1) ∧ qd (wc.heap[gb160]? = some (.cells #[.int .i64 a2_0,.int .i64 a2_1,.int .i64 a2_2,.int .i64 a2_3] 51 (0,0))) ∧ qd (Below w.heap.size w wc))
    case first =>
     have H:=HC12.out
     clear HC12
     by_cases c13 : x12_1 < (a0.size : Int)
     ·rw [if_pos c13] at H
      have c13b0 : decide (x12_1 < (a0.size : Int)) = true:=decide_eq_true c13
      clear c13
      (first|rw [c13b0]|(simp only [qE,qF];rw [c13b0])|skip)
      have H':=qd.mk H
      clear H
      go_wp2
      go_meet
      case rel => exact ⟨_,(true),(by first|rfl|(simp;done)|(simp [*];done)),H',⟨by have:=HK1.out;first|omega|exact Nat.le_refl _⟩,⟨by (with_reducible repeat (first|apply Kd.jy|apply Kd.jA|apply Kd.jD));exact HO_10.out⟩,⟨by (with_reducible repeat (first|apply Kd.qy|apply Kd.qz|apply Kd.qC));exact HO_11.out⟩,⟨by (with_reducible repeat (first|refine qx ?_ _|refine qA ?_|refine qw ?_ _));exact BK160.out⟩,⟨by repeat (first|(with_reducible first|exact HB.out|apply qg|apply qc|apply qf|refine qp ?_ GE160.out)|exact HB.out)⟩⟩
     ·rw [if_neg c13] at H
      have c13b0 : decide (x12_1 < (a0.size : Int)) = false:=decide_eq_false c13
      clear c13
      (first|rw [c13b0]|(simp only [qE,qF];rw [c13b0])|skip)
      have H':=qd.mk H
      clear H
      go_wp2
      go_meet
      case rel => exact ⟨_,(decide (x13_1 < (a1.size : Int))),(by first|rfl|(simp;done)|(simp [*];done)),H',⟨by have:=HK1.out;first|omega|exact Nat.le_refl _⟩,⟨by (with_reducible repeat (first|apply Kd.jy|apply Kd.jA|apply Kd.jD));exact HO_10.out⟩,⟨by (with_reducible repeat (first|apply Kd.qy|apply Kd.qz|apply Kd.qC));exact HO_11.out⟩,⟨by (with_reducible repeat (first|refine qx ?_ _|refine qA ?_|refine qw ?_ _));exact BK160.out⟩,⟨by repeat (first|(with_reducible first|exact HB.out|apply qg|apply qc|apply qf|refine qp ?_ GE160.out)|exact HB.out)⟩⟩
    case rest =>
     clear HC12
     try clear c1
     try clear c2
     try clear p2
     try clear c3
     try clear c5
     try clear c5b0
     try clear c5b1
     try clear c13
     try clear c13b0
     try clear hcz10_0
     try clear hcz10_1
     try clear hcz10_2
     try clear hcz10_3
     try clear hcz8_0
     try clear hcz8_1
     try clear hcz8_2
     try clear hcz8_3
     try clear hfz10_0
     try clear hfz10_1
     try clear hfz10_2
     try clear hfz10_3
     try clear hfz8_0
     try clear hfz8_1
     try clear hfz8_2
     try clear hfz8_3
     try clear p2
     obtain ⟨kq,x40_11,rfl,HA,HJ11,HO_10,HO_11,BK160,HB⟩:=hcut
     cases kq with
     | zero => exact absurd HA.out (by simp [qm.j1])
     | succ kj11 =>
      have H:=HA.out
      clear HA
      simp only [qm.j1] at H
      by_cases c14 : x40_11 = true
      ·subst c14
       have H1 : (qm.l1 kj11 a0 a1 t162 x11_1 x12_1 x13_1 1 a2_0 a2_1 a2_2 a2_3) = some (r1,r2,r3):=by rw [if_pos rfl] at H;exact H
       clear H
       have H:=H1
       clear H1
       have H':=qd.mk H
       clear H
       go_wp2
       go_loopg [11,12,13,14] kj11 (fun kq v11 v12 v13 v14 w' => ∃ (x11_3 : List (S59)) (x12_3 : Int) (x13_3 : Int) (x14_3 : Int),v12 = .int .i64 x12_3 ∧ v13 = .int .i64 x13_3 ∧ v14 = .int .u8 x14_3 ∧ qd (qm.l1 kq a0 a1 t162 x11_3 x12_3 x13_3 x14_3 a2_0 a2_1 a2_2 a2_3 = some (r1,r2,r3)) ∧ qd (kq ≤ kj11) ∧ qd (Kd.S (Kd.slice 3 (Kd.int .i64)) 62 w' w.heap.size (fun _ => True) v163 t162) ∧ qd (Kd.R k59 59 w' w.heap.size (fun _ => True) v11 x11_3) ∧ qd (w'.heap[gb160]? = some (.cells #[.int .i64 a2_0,.int .i64 a2_1,.int .i64 a2_2,.int .i64 a2_3] 51 (0,0))) ∧ qd (Below w.heap.size w w'))
       case atStart => exact ⟨(x11_1),(x12_1),(x13_1),(1),(by first|rfl|(simp;done)|(simp [*];done)),(by first|rfl|(simp;done)|(simp [*];done)),(by first|rfl|(simp;done)|(simp [*];done)),H',⟨Nat.le_refl _⟩,⟨by (with_reducible repeat (first|apply Kd.jy|apply Kd.jA|apply Kd.jD));exact HO_10.out⟩,⟨by (with_reducible repeat (first|apply Kd.qy|apply Kd.qz|apply Kd.qC));exact HO_11.out⟩,⟨by (with_reducible repeat (first|refine qx ?_ _|refine qA ?_|refine qw ?_ _));exact BK160.out⟩,⟨by repeat (first|(with_reducible first|exact HB.out|apply qg|apply qc|apply qf|refine qp ?_ GE160.out)|exact HB.out)⟩⟩
       case round =>
        clear H'
        try clear c1
        try clear c2
        try clear p2
        try clear c3
        try clear c5
        try clear c5b0
        try clear c5b1
        try clear c13
        try clear c13b0
        try clear c14
        try clear hcz10_0
        try clear hcz10_1
        try clear hcz10_2
        try clear hcz10_3
        try clear hcz8_0
        try clear hcz8_1
        try clear hcz8_2
        try clear hcz8_3
        try clear hfz10_0
        try clear hfz10_1
        try clear hfz10_2
        try clear hfz10_3
        try clear hfz8_0
        try clear hfz8_1
        try clear hfz8_2
        try clear hfz8_3
        try clear p2
        obtain ⟨x11_3,x12_3,x13_3,x14_3,rfl,rfl,rfl,HA,HK3,HO_10,HO_11,BK160,HB⟩:=hrel
        cases gk with
        | zero => exact absurd HA.out (by simp [qm.l1])
        | succ k3 =>
         have H:=HA.out
         clear HA
         simp only [qm.l1] at H
         by_cases c15 : 0 ≤ x12_3
         ·rw [if_pos c15] at H
          have c15b0:=eq_true c15
          have c15b1 : decide (0 ≤ x12_3) = true:=decide_eq_true c15
          clear c15
          by_cases c16 : x12_3 ≤ (a0.size : Int)
          ·rw [if_pos c16] at H
           have c16b0:=eq_true c16
           have c16b1 : decide (x12_3 ≤ (a0.size : Int)) = true:=decide_eq_true c16
           clear c16
           by_cases c17 : 0 ≤ x13_3
           ·rw [if_pos c17] at H
            have c17b0:=eq_true c17
            have c17b1 : decide (0 ≤ x13_3) = true:=decide_eq_true c17
            clear c17
            by_cases c18 : x13_3 ≤ (a1.size : Int)
            ·rw [if_pos c18] at H
             have c18b0:=eq_true c18
             have c18b1 : decide (x13_3 ≤ (a1.size : Int)) = true:=decide_eq_true c18
             clear c18
             replace H:=Option.bind_eq_some_iff.mp H
             obtain ⟨⟨t167,t168,t169,t170⟩,A190,H⟩:=H
             replace H : (if t167 = true then (if 0 ≤ (wrap64 (x12_3 + t168)) then (if (wrap64 (x12_3 + t168)) < (t162.length : Int) then (if 0 ≤ (wrap64 (x13_3 + t169)) then (if (wrap64 (x13_3 + t169)) < ((qW t162 (wrap64 (x12_3 + t168))).length : Int) then (if x12_3 < (t162.length : Int) then (if x13_3 < ((qW t162 x12_3).length : Int) then (qm.j3 k3 a0 a1 t162 x11_3 x12_3 x13_3 x14_3 t168 t169 ((wrap64 (t170 + (rd (qW t162 (wrap64 (x12_3 + t168))) (wrap64 (x13_3 + t169))))) == (rd (qW t162 x12_3) x13_3)) a2_0 a2_1 a2_2 a2_3) else (none)) else (none)) else (none)) else (none)) else (none)) else (none)) else (qm.j3 k3 a0 a1 t162 x11_3 x12_3 x13_3 x14_3 t168 t169 false a2_0 a2_1 a2_2 a2_3)) = some (r1,r2,r3):=H
             have A19:=qd.mk A190
             clear A190
             have HC20:=qd.mk H
             clear H
             try go_wp2
             have n0_:=qd.mk (Kd.jD HO_10.out)
             have n1_:=qd.mk (Kd.qC HO_11.out)
             have n2_:=qd.mk (qA BK160.out)
             have n3_:=qd.mk (qf HB.out)
             clear HO_10
             clear HO_11
             clear BK160
             clear HB
             have HO_10:=n0_
             have HO_11:=n1_
             have BK160:=n2_
             have HB:=n3_
             clear n0_ n1_ n2_ n3_
             refine zN (n:=18) (S:=fun w' => w'.cell? ⟨gb160,0,none⟩ = some (.int .i64 a2_0) ∧ w'.cell? ⟨gb160,1,none⟩ = some (.int .i64 a2_1) ∧ w'.cell? ⟨gb160,2,none⟩ = some (.int .i64 a2_2) ∧ w'.cell? ⟨gb160,3,none⟩ = some (.int .i64 a2_3)) (ds:=[]) #[false,false,false,false,false,false,false,false,false,false,false,false,false,false,false,false,false,false] (by kernel_rfl) rfl rfl ⟨(qi BK160.out 0).trans rfl,(qi BK160.out 1).trans rfl,(qi BK160.out 2).trans rfl,(qi BK160.out 3).trans rfl⟩ (fun hHeld => ?_);refine jT qm.tab9 qm.Ko (fun HT_ HW_ => ?_)
             generalize wr.drew = w21 at HO_10 HO_11 BK160 HB hHeld ⊢
             refine qL (i:=0) (N:=some 42) (v:=?_) (a':=?_) #[true,false,false,false,false,false,false,false,false,false,false,false,false,false,false,false,false,false] rfl rfl (qD HT_.out (by kernel_rfl)) (fun _ _ _ h => h) (Or.inl ⟨by rfl,?_⟩) ?_ ?_
             rotate_left
             ·intro w'
              go_simp
              with_reducible rfl
             rotate_left
             ·simp only [Act.put,List.setIfInBounds_toArray,List.set_cons_zero,List.set_cons_succ,qE,qF]
              rfl
             refine qL (i:=1) (N:=some 43) (v:=?_) (a':=?_) #[true,true,false,false,false,false,false,false,false,false,false,false,false,false,false,false,false,false] rfl rfl (qD HT_.out (by kernel_rfl)) (fun _ _ _ h => h) (Or.inl ⟨by rfl,?_⟩) ?_ ?_
             rotate_left
             ·intro w'
              go_simp
              with_reducible rfl
             rotate_left
             ·simp only [Act.put,List.setIfInBounds_toArray,List.set_cons_zero,List.set_cons_succ,qE,qF]
              rfl
             refine qL (i:=2) (N:=some 44) (v:=?_) (a':=?_) #[true,true,true,false,false,false,false,false,false,false,false,false,false,false,false,false,false,false] rfl rfl (qD HT_.out (by kernel_rfl)) (fun _ _ _ h => h) (Or.inl ⟨by rfl,?_⟩) ?_ ?_
             rotate_left
             ·intro w'
              go_simp
              with_reducible rfl
             rotate_left
             ·simp only [Act.put,List.setIfInBounds_toArray,List.set_cons_zero,List.set_cons_succ,qE,qF]
              rfl
             refine qL (i:=3) (N:=some 45) (v:=?_) (a':=?_) #[true,true,true,true,false,false,false,false,false,false,false,false,false,false,false,false,false,false] rfl rfl (qD HT_.out (by kernel_rfl)) (fun _ _ _ h => h) (Or.inl ⟨by rfl,?_⟩) ?_ ?_
             rotate_left
             ·intro w'
              go_simp
              with_reducible rfl
             rotate_left
             ·simp only [Act.put,List.setIfInBounds_toArray,List.set_cons_zero,List.set_cons_succ,qE,qF]
              rfl
             refine qL (i:=4) (N:=some 46) (v:=?_) (a':=?_) #[true,true,true,true,true,false,false,false,false,false,false,false,false,false,false,false,false,false] rfl rfl (qD HT_.out (by kernel_rfl)) (fun _ _ _ h => h) (Or.inl ⟨by rfl,?_⟩) ?_ ?_
             rotate_left
             ·intro w'
              go_simp
              with_reducible rfl
             rotate_left
             ·simp only [Act.put,List.setIfInBounds_toArray,List.set_cons_zero,List.set_cons_succ,qE,qF]
              rfl
             refine qL (i:=5) (N:=some 47) (v:=?_) (a':=?_) #[true,true,true,true,true,true,false,false,false,false,false,false,false,false,false,false,false,false] rfl rfl (qD HT_.out (by kernel_rfl)) (fun _ _ _ h => h) (Or.inl ⟨by rfl,?_⟩) ?_ ?_
             rotate_left
             ·intro w'
              go_simp
              with_reducible rfl
             rotate_left
             ·simp only [Act.put,List.setIfInBounds_toArray,List.set_cons_zero,List.set_cons_succ,qE,qF]
              rfl
             refine qL (i:=6) (N:=some 48) (v:=?_) (a':=?_) #[true,true,true,true,true,true,true,false,false,false,false,false,false,false,false,false,false,false] rfl rfl (qD HT_.out (by kernel_rfl)) (fun _ _ _ h => h) (Or.inl ⟨by rfl,?_⟩) ?_ ?_
             rotate_left
             ·intro w'
              go_simp
              with_reducible rfl
             rotate_left
             ·simp only [Act.put,List.setIfInBounds_toArray,List.set_cons_zero,List.set_cons_succ,qE,qF]
              rfl
             refine zz (i:=7) (N:=some 49) (v:=?_) (a':=?_) #[true,true,true,true,true,true,true,true,false,false,false,false,false,false,false,false,false,false] rfl rfl (jF HT_.out HW_.out (by kernel_rfl)) (fun _ _ _ h => h) (Or.inl ⟨by rfl,?_⟩) hHeld ?_ ?_
             rotate_left
             ·rintro w' ⟨s0,s1,s2,s3⟩
              go_simp
              with_reducible rfl
             rotate_left
             ·simp only [Act.put,List.setIfInBounds_toArray,List.set_cons_zero,List.set_cons_succ,qE,qF]
              rfl
             refine one_ (i:=8) (N:=some 50) #[true,true,true,true,true,true,true,true,true,false,false,false,false,false,false,false,false,false] rfl rfl (vM HT_.out (by kernel_rfl)) (by decide) (fun K hK => ?_)
             refine xR Try.func34 (by kernel_rfl) rfl #[.int .u8 x14_3,.string (a0.extract (x12_3 : Int).toNat a0.size),.string (a1.extract (x13_3 : Int).toNat a1.size),.agg #[.int .i64 a2_0,.int .i64 a2_1,.int .i64 a2_2,.int .i64 a2_3]] (by rfl) rfl rfl (by (try simp only [List.map_toArray,List.map_cons,List.map_nil]);first|done|rfl|(simp only [List.length_drop,List.length_take];rfl)) ?_
             with_reducible refine (qG.calls k3 x14_3 (a0.extract (x12_3 : Int).toNat a0.size) (a1.extract (x13_3 : Int).toNat a1.size) a2_0 a2_1 a2_2 a2_3 t167 t168 t169 t170 _ A19.out).mono ?_
             rintro e w22 ⟨rfl,hb⟩
             refine ⟨_,rfl,?_⟩
             have n0_:=qd.mk (Kd.xz (by (with_reducible repeat (first|apply Kd.jy|apply Kd.jA|apply Kd.jD));exact HO_10.out) hb)
             have n1_:=qd.mk (Kd.qN (by (with_reducible repeat (first|apply Kd.qy|apply Kd.qz|apply Kd.qC));exact HO_11.out) hb)
             have n2_:=qd.mk (qR (g:=gb160) (o:=.cells #[.int .i64 a2_0,.int .i64 a2_1,.int .i64 a2_2,.int .i64 a2_3] 51 (0,0)) (by (with_reducible repeat (first|refine qx ?_ _|refine qA ?_|refine qw ?_ _));exact BK160.out) hb)
             have n3_:=qd.mk (qI (by repeat (first|(with_reducible first|exact HB.out|apply qg|apply qc|apply qf|refine qp ?_ GE160.out)|exact HB.out)) hb)
             clear HO_10
             clear HO_11
             clear BK160
             clear HB
             have HO_10:=n0_
             have HO_11:=n1_
             have BK160:=n2_
             have HB:=n3_
             clear n0_ n1_ n2_ n3_
             (try clear hb)
             (try clear hb2)
             (try clear hk)
             (try clear hi)
             refine hK.out _ _ ⟨(qi BK160.out 0).trans rfl,(qi BK160.out 1).trans rfl,(qi BK160.out 2).trans rfl,(qi BK160.out 3).trans rfl⟩ (fun hHeld => ?_)
             clear hK K
             refine yc (a':=?_) ?_ ?_
             rotate_left
             ·show Act.put _ (some 50) _ = _
              simp only [Act.put,List.setIfInBounds_toArray,List.set_cons_zero,List.set_cons_succ,qE,qF]
              rfl
             refine qL (i:=9) (N:=some 41) (v:=?_) (a':=?_) #[true,true,true,true,true,true,true,true,true,true,false,false,false,false,false,false,false,false] rfl rfl (qD HT_.out (by kernel_rfl)) (fun _ _ _ h => h) (Or.inl ⟨by rfl,?_⟩) ?_ ?_
             rotate_left
             ·intro w'
              go_simp
              with_reducible rfl
             rotate_left
             ·simp only [Act.put,List.setIfInBounds_toArray,List.set_cons_zero,List.set_cons_succ,qE,qF]
              rfl
             refine qL (i:=10) (N:=some 51) (v:=?_) (a':=?_) #[true,true,true,true,true,true,true,true,true,true,true,false,false,false,false,false,false,false] rfl rfl (qD HT_.out (by kernel_rfl)) (fun _ _ _ h => h) (Or.inl ⟨by rfl,?_⟩) ?_ ?_
             rotate_left
             ·intro w'
              go_simp
              with_reducible rfl
             rotate_left
             ·simp only [Act.put,List.setIfInBounds_toArray,List.set_cons_zero,List.set_cons_succ,qE,qF]
              rfl
             refine qL (i:=11) (N:=some 52) (v:=?_) (a':=?_) #[true,true,true,true,true,true,true,true,true,true,true,true,false,false,false,false,false,false] rfl rfl (qD HT_.out (by kernel_rfl)) (fun _ _ _ h => h) (Or.inl ⟨by rfl,?_⟩) ?_ ?_
             rotate_left
             ·intro w'
              go_simp
              with_reducible rfl
             rotate_left
             ·simp only [Act.put,List.setIfInBounds_toArray,List.set_cons_zero,List.set_cons_succ,qE,qF]
              rfl
             refine qL (i:=12) (N:=some 53) (v:=?_) (a':=?_) #[true,true,true,true,true,true,true,true,true,true,true,true,true,false,false,false,false,false] rfl rfl (qD HT_.out (by kernel_rfl)) (fun _ _ _ h => h) (Or.inl ⟨by rfl,?_⟩) ?_ ?_
             rotate_left
             ·intro w'
              go_simp
              with_reducible rfl
             rotate_left
             ·simp only [Act.put,List.setIfInBounds_toArray,List.set_cons_zero,List.set_cons_succ,qE,qF]
              rfl
             refine qL (i:=13) (N:=some 54) (v:=?_) (a':=?_) #[true,true,true,true,true,true,true,true,true,true,true,true,true,true,false,false,false,false] rfl rfl (qD HT_.out (by kernel_rfl)) (fun _ _ _ h => h) (Or.inl ⟨by rfl,?_⟩) ?_ ?_
             rotate_left
             ·intro w'
              go_simp
              with_reducible rfl
             rotate_left
             ·simp only [Act.put,List.setIfInBounds_toArray,List.set_cons_zero,List.set_cons_succ,qE,qF]
              rfl
             refine qL (i:=14) (N:=some 15) (v:=?_) (a':=?_) #[true,true,true,true,true,true,true,true,true,true,true,true,true,true,true,false,false,false] rfl rfl (qD HT_.out (by kernel_rfl)) (fun _ _ _ h => h) (Or.inl ⟨by rfl,?_⟩) ?_ ?_
             rotate_left
             ·intro w'
              go_simp
              with_reducible rfl
             rotate_left
             ·simp only [Act.put,List.setIfInBounds_toArray,List.set_cons_zero,List.set_cons_succ,qE,qF]
              rfl
             refine qL (i:=15) (N:=some 16) (v:=?_) (a':=?_) #[true,true,true,true,true,true,true,true,true,true,true,true,true,true,true,true,false,false] rfl rfl (qD HT_.out (by kernel_rfl)) (fun _ _ _ h => h) (Or.inl ⟨by rfl,?_⟩) ?_ ?_
             rotate_left
             ·intro w'
              go_simp
              with_reducible rfl
             rotate_left
             ·simp only [Act.put,List.setIfInBounds_toArray,List.set_cons_zero,List.set_cons_succ,qE,qF]
              rfl
             refine qL (i:=16) (N:=some 17) (v:=?_) (a':=?_) #[true,true,true,true,true,true,true,true,true,true,true,true,true,true,true,true,true,false] rfl rfl (qD HT_.out (by kernel_rfl)) (fun _ _ _ h => h) (Or.inl ⟨by rfl,?_⟩) ?_ ?_
             rotate_left
             ·intro w'
              go_simp
              with_reducible rfl
             rotate_left
             ·simp only [Act.put,List.setIfInBounds_toArray,List.set_cons_zero,List.set_cons_succ,qE,qF]
              rfl
             refine qL (i:=17) (N:=some 18) (v:=?_) (a':=?_) #[true,true,true,true,true,true,true,true,true,true,true,true,true,true,true,true,true,true] rfl rfl (qD HT_.out (by kernel_rfl)) (fun _ _ _ h => h) (Or.inl ⟨by rfl,?_⟩) ?_ ?_
             rotate_left
             ·intro w'
              go_simp
              with_reducible rfl
             rotate_left
             ·simp only [Act.put,List.setIfInBounds_toArray,List.set_cons_zero,List.set_cons_succ,qE,qF]
              rfl
             refine xL (zu HT_.out (by kernel_rfl)) ?_
             go_upto_region 10 with (fail)
             go_cut [78] (fun v78 wc => ∃ (kq : Nat) (x78_19 : Bool),v78 = .bool x78_19 ∧ qd (qm.j3 kq a0 a1 t162 x11_3 x12_3 x13_3 x14_3 t168 t169 x78_19 a2_0 a2_1 a2_2 a2_3 = some (r1,r2,r3)) ∧ qd (kq ≤ k3) ∧ qd (Kd.S (Kd.slice 3 (Kd.int .i64)) 62 wc w.heap.size (fun _ => True) v163 t162) ∧ qd (Kd.R k59 59 wc w.heap.size (fun _ => True) u11 x11_3) ∧ qd (wc.heap[gb160]? = some (.cells #[.int .i64 a2_0,.int .i64 a2_1,.int .i64 a2_2,.int .i64 a2_3] 51 (0,0))) ∧ qd (Below w.heap.size w wc))
             case first =>
              have H:=HC20.out
              clear HC20
              by_cases c23 : t167 = true
              ·subst c23
               have H1 : (if 0 ≤ (wrap64 (x12_3 + t168)) then (if (wrap64 (x12_3 + t168)) < (t162.length : Int) then (if 0 ≤ (wrap64 (x13_3 + t169)) then (if (wrap64 (x13_3 + t169)) < ((qW t162 (wrap64 (x12_3 + t168))).length : Int) then (if x12_3 < (t162.length : Int) then (if x13_3 < ((qW t162 x12_3).length : Int) then (qm.j3 k3 a0 a1 t162 x11_3 x12_3 x13_3 x14_3 t168 t169 ((wrap64 (t170 + (rd (qW t162 (wrap64 (x12_3 + t168))) (wrap64 (x13_3 + t169))))) == (rd (qW t162 x12_3) x13_3)) a2_0 a2_1 a2_2 a2_3) else (none)) else (none)) else (none)) else (none)) else (none)) else (none)) = some (r1,r2,r3):=by rw [if_pos rfl] at H;exact H
               clear H
               have H:=H1
               clear H1
               obtain ⟨ji24,hji24⟩ : ∃ j_ : Int,(wrap64 (x12_3 + t168)) = j_:=⟨_,rfl⟩
               replace H : (if 0 ≤ (ji24) then (if (ji24) < (t162.length : Int) then (if 0 ≤ (wrap64 (x13_3 + t169)) then (if (wrap64 (x13_3 + t169)) < ((qW t162 (ji24)).length : Int) then (if x12_3 < (t162.length : Int) then (if x13_3 < ((qW t162 x12_3).length : Int) then (qm.j3 k3 a0 a1 t162 x11_3 x12_3 x13_3 x14_3 t168 t169 ((wrap64 (t170 + (rd (qW t162 (ji24)) (wrap64 (x13_3 + t169))))) == (rd (qW t162 x12_3) x13_3)) a2_0 a2_1 a2_2 a2_3) else (none)) else (none)) else (none)) else (none)) else (none)) else (none)) = some (r1,r2,r3):=by first|(rw [hji24] at H;exact H)|(simp only [hji24] at H ⊢;exact H)
               have hji24w : (IntKind.i64.wrap (x12_3 + t168)) = ji24:=(qE _).trans hji24
               by_cases c25 : 0 ≤ (ji24)
               ·rw [if_pos c25] at H
                have c25b0 : decide (0 ≤ (ji24)) = true:=decide_eq_true c25
                clear c25
                (first|rw [c25b0]|(simp only [qE,qF];rw [c25b0])|skip)
                by_cases c26 : (ji24) < (t162.length : Int)
                ·rw [if_pos c26] at H
                 have c26b0 : decide ((ji24) < (t162.length : Int)) = true:=decide_eq_true c26
                 clear c26
                 obtain ⟨ji27,hji27⟩ : ∃ j_ : Int,(wrap64 (x13_3 + t169)) = j_:=⟨_,rfl⟩
                 replace H : (if 0 ≤ (ji27) then (if (ji27) < ((qW t162 (ji24)).length : Int) then (if x12_3 < (t162.length : Int) then (if x13_3 < ((qW t162 x12_3).length : Int) then (qm.j3 k3 a0 a1 t162 x11_3 x12_3 x13_3 x14_3 t168 t169 ((wrap64 (t170 + (rd (qW t162 (ji24)) (ji27)))) == (rd (qW t162 x12_3) x13_3)) a2_0 a2_1 a2_2 a2_3) else (none)) else (none)) else (none)) else (none)) = some (r1,r2,r3):=by first|(rw [hji27] at H;exact H)|(simp only [hji27] at H ⊢;exact H)
                 have hji27w : (IntKind.i64.wrap (x13_3 + t169)) = ji27:=(qE _).trans hji27
                 by_cases c28 : 0 ≤ (ji27)
                 ·rw [if_pos c28] at H
                  have c28b0 : decide (0 ≤ (ji27)) = true:=decide_eq_true c28
                  clear c28
                  by_cases c29 : (ji27) < ((qW t162 (ji24)).length : Int)
                  ·rw [if_pos c29] at H
                   have c29b0 : decide ((ji27) < ((qW t162 (ji24)).length : Int)) = true:=decide_eq_true c29
                   clear c29
                   by_cases c30 : x12_3 < (t162.length : Int)
                   ·rw [if_pos c30] at H
                    have c30b0 : decide (x12_3 < (t162.length : Int)) = true:=decide_eq_true c30
                    clear c30
                    by_cases c31 : x13_3 < ((qW t162 x12_3).length : Int)
                    ·rw [if_pos c31] at H
                     have c31b0 : decide (x13_3 < ((qW t162 x12_3).length : Int)) = true:=decide_eq_true c31
                     clear c31
                     have H':=qd.mk H
                     clear H
                     try go_wp2
                     have n0_:=qd.mk (Kd.jD HO_10.out)
                     have n1_:=qd.mk (Kd.qC HO_11.out)
                     have n2_:=qd.mk (qA BK160.out)
                     have n3_:=qd.mk (qf HB.out)
                     clear HO_10
                     clear HO_11
                     clear BK160
                     clear HB
                     have HO_10:=n0_
                     have HO_11:=n1_
                     have BK160:=n2_
                     have HB:=n3_
                     clear n0_ n1_ n2_ n3_
                     obtain ⟨Ao33,co33,eo33⟩:=Kd.QE HO_10.out
                     (first|subst eo33|(injection eo33 with f1_ f2_ f3_;have f4_:=f1_.symm;have f5_:=f3_.symm;clear f1_ f2_ f3_;subst f4_;subst f5_))
                     have p171 : 0 ≤ ((ji24) : Int):=of_decide_eq_true (by first|(with_reducible assumption)|assumption)
                     have q171 : (ji24) < (t162.length : Int):=of_decide_eq_true (by first|(with_reducible assumption)|assumption)
                     obtain ⟨ad171,A171_0,c171_0,e171,hx171_0,hl171_0,hi171_0⟩:=kv (Kd.jR HO_10.out).2.2 (ji24) p171 q171
                     cases e171
                     obtain ⟨ce171,hce171,hMe171,hcc171⟩:=Kd.kS HO_10.out [] (ji24) p171 (by first|exact q171|exact of_decide_eq_true (by first|(with_reducible assumption)|assumption)|(have e_:=(Kd.jR HO_10.out).1;omega))
                     obtain ⟨ve171_0,rfl,ge171_0⟩:=hMe171
                     have hv171_0:=hcc171 0 _ rfl
                     rw [Nat.add_zero,show ((Kd.slice 3 (Kd.int .i64))).sz = 1 from rfl,Nat.mul_one] at hv171_0
                     replace hv171_0:=Option.some.inj (hv171_0.symm.trans hx171_0)
                     rw [hv171_0] at ge171_0
                     have HL171_0:=qd.mk (show Kd.R (Kd.int .i64) 3 _ _ _ _ (qW t162 (ji24)) from ge171_0)
                     clear hv171_0 ge171_0
                     clear hcc171 hce171
                     have HR171_0:=qd.mk hi171_0
                     have HC171_0:=qd.mk hl171_0
                     clear hi171_0 hl171_0
                     replace p171:=eq_true p171
                     replace q171:=eq_true q171
                     have p172 : 0 ≤ ((ji27) : Int):=of_decide_eq_true (by first|(with_reducible assumption)|assumption)
                     have q172 : (ji27) < ((qW t162 (ji24)).length : Int):=of_decide_eq_true (by first|(with_reducible assumption)|assumption)
                     obtain ⟨ad172,e172,hx172_0⟩:=Kd.vK (by repeat (first|(with_reducible exact HR171_0.out)|(with_reducible refine Kd.jP ?_ _)|(with_reducible refine Kd.jQ ?_ _)|(with_reducible refine Kd.zh ?_)|exact HR171_0.out)) (ji27) p172 q172
                     cases e172
                     replace p172:=eq_true p172
                     replace q172:=eq_true q172
                     have p173 : 0 ≤ (x12_3 : Int):=of_decide_eq_true (by first|(with_reducible assumption)|assumption)
                     have q173 : x12_3 < (t162.length : Int):=of_decide_eq_true (by first|(with_reducible assumption)|assumption)
                     obtain ⟨ad173,A173_0,c173_0,e173,hx173_0,hl173_0,hi173_0⟩:=kv (Kd.jR HO_10.out).2.2 x12_3 p173 q173
                     obtain rfl : ad171 = ad173:=(by injection e173)
                     obtain ⟨ce173,hce173,hMe173,hcc173⟩:=Kd.kS HO_10.out [] x12_3 p173 (by first|exact q173|exact of_decide_eq_true (by first|(with_reducible assumption)|assumption)|(have e_:=(Kd.jR HO_10.out).1;omega))
                     obtain ⟨ve173_0,rfl,ge173_0⟩:=hMe173
                     have hv173_0:=hcc173 0 _ rfl
                     rw [Nat.add_zero,show ((Kd.slice 3 (Kd.int .i64))).sz = 1 from rfl,Nat.mul_one] at hv173_0
                     replace hv173_0:=Option.some.inj (hv173_0.symm.trans hx173_0)
                     rw [hv173_0] at ge173_0
                     have HL173_0:=qd.mk (show Kd.R (Kd.int .i64) 3 _ _ _ _ (qW t162 x12_3) from ge173_0)
                     clear hv173_0 ge173_0
                     clear hcc173 hce173
                     have HR173_0:=qd.mk hi173_0
                     have HC173_0:=qd.mk hl173_0
                     clear hi173_0 hl173_0
                     replace p173:=eq_true p173
                     replace q173:=eq_true q173
                     have p174 : 0 ≤ (x13_3 : Int):=of_decide_eq_true (by first|(with_reducible assumption)|assumption)
                     have q174 : x13_3 < ((qW t162 x12_3).length : Int):=of_decide_eq_true (by first|(with_reducible assumption)|assumption)
                     obtain ⟨ad174,e174,hx174_0⟩:=Kd.vK (by repeat (first|(with_reducible exact HR173_0.out)|(with_reducible refine Kd.jP ?_ _)|(with_reducible refine Kd.jQ ?_ _)|(with_reducible refine Kd.zh ?_)|exact HR173_0.out)) x13_3 p174 q174
                     cases e174
                     replace p174:=eq_true p174
                     replace q174:=eq_true q174
                     refine zN (n:=24) (S:=fun w' => w'.cell? (ad171.add ((ji24)).toNat) = some (.slice (some ad172) (qW t162 (ji24)).length c171_0) ∧ w'.cell? (ad172.add ((ji27)).toNat) = some (.int .i64 (rd (qW t162 (ji24)) (ji27))) ∧ w'.cell? (ad171.add (x12_3).toNat) = some (.slice (some ad174) (qW t162 x12_3).length c173_0) ∧ w'.cell? (ad174.add (x13_3).toNat) = some (.int .i64 (rd (qW t162 x12_3) x13_3))) (ds:=[]) #[false,false,false,false,false,false,false,false,false,false,false,false,false,false,false,false,false,false,false,false,false,false,false,false] (by kernel_rfl) rfl rfl ⟨hx171_0,hx172_0,hx173_0,hx174_0⟩ (fun hHeld => ?_);refine jT qm.Vn qm.ZG (fun HT_ HW_ => ?_)
                     generalize w22.drew = w32 at HO_10 HO_11 BK160 HB HL171_0 HL173_0 HR171_0 HR173_0 hx171_0 hx172_0 hx173_0 hx174_0 hHeld ⊢
                     refine qL (i:=0) (N:=some 55) (v:=?_) (a':=?_) #[true,false,false,false,false,false,false,false,false,false,false,false,false,false,false,false,false,false,false,false,false,false,false,false] rfl rfl (qD HT_.out (by kernel_rfl)) (fun _ _ _ h => h) (Or.inl ⟨by rfl,?_⟩) ?_ ?_
                     rotate_left
                     ·intro w'
                      go_simp
                      with_reducible rfl
                     rotate_left
                     ·simp only [Act.put,List.setIfInBounds_toArray,List.set_cons_zero,List.set_cons_succ,qE,qF]
                      rfl
                     refine qL (i:=1) (N:=some 56) (v:=?_) (a':=?_) #[true,true,false,false,false,false,false,false,false,false,false,false,false,false,false,false,false,false,false,false,false,false,false,false] rfl rfl (qD HT_.out (by kernel_rfl)) (fun _ _ _ h => h) (Or.inl ⟨by rfl,?_⟩) ?_ ?_
                     rotate_left
                     ·intro w'
                      go_simp
                      with_reducible rfl
                     rotate_left
                     ·simp only [Act.put,List.setIfInBounds_toArray,List.set_cons_zero,List.set_cons_succ,qE,qF]
                      rfl
                     refine qL (i:=2) (N:=some 57) (v:=?_) (a':=?_) #[true,true,true,false,false,false,false,false,false,false,false,false,false,false,false,false,false,false,false,false,false,false,false,false] rfl rfl (qD HT_.out (by kernel_rfl)) (fun _ _ _ h => h) (Or.inl ⟨by rfl,?_⟩) ?_ ?_
                     rotate_left
                     ·intro w'
                      go_simp
                      with_reducible rfl
                     rotate_left
                     ·simp only [Act.put,List.setIfInBounds_toArray,List.set_cons_zero,List.set_cons_succ,qE,qF]
                      rfl
                     refine qL (i:=3) (N:=some 58) (v:=?_) (a':=?_) #[true,true,true,true,false,false,false,false,false,false,false,false,false,false,false,false,false,false,false,false,false,false,false,false] rfl rfl (qD HT_.out (by kernel_rfl)) (fun _ _ _ h => h) (Or.inl ⟨by rfl,?_⟩) ?_ ?_
                     rotate_left
                     ·intro w'
                      go_simp
                      with_reducible rfl
                     rotate_left
                     ·simp only [Act.put,List.setIfInBounds_toArray,List.set_cons_zero,List.set_cons_succ,qE,qF]
                      rfl
                     refine qL (i:=4) (N:=some 59) (v:=?_) (a':=?_) #[true,true,true,true,true,false,false,false,false,false,false,false,false,false,false,false,false,false,false,false,false,false,false,false] rfl rfl (qD HT_.out (by kernel_rfl)) (fun _ _ _ h => h) (Or.inl ⟨by rfl,?_⟩) ?_ ?_
                     rotate_left
                     ·intro w'
                      go_simp
                      with_reducible rfl
                     rotate_left
                     ·simp only [Act.put,List.setIfInBounds_toArray,List.set_cons_zero,List.set_cons_succ,qE,qF]
                      rfl
                     refine qL (i:=5) (N:=some 60) (v:=?_) (a':=?_) #[true,true,true,true,true,true,false,false,false,false,false,false,false,false,false,false,false,false,false,false,false,false,false,false] rfl rfl (qD HT_.out (by kernel_rfl)) (fun _ _ _ h => h) (Or.inl ⟨by rfl,?_⟩) ?_ ?_
                     rotate_left
                     ·intro w'
                      go_simp
                      with_reducible rfl
                     rotate_left
                     ·simp only [Act.put,List.setIfInBounds_toArray,List.set_cons_zero,List.set_cons_succ,qE,qF]
                      rfl
                     refine qL (i:=6) (N:=some 61) (v:=?_) (a':=?_) #[true,true,true,true,true,true,true,false,false,false,false,false,false,false,false,false,false,false,false,false,false,false,false,false] rfl rfl (qD HT_.out (by kernel_rfl)) (fun _ _ _ h => h) (Or.inl ⟨by rfl,?_⟩) ?_ ?_
                     rotate_left
                     ·intro w'
                      go_simp
                      with_reducible rfl
                     rotate_left
                     ·simp only [Act.put,List.setIfInBounds_toArray,List.set_cons_zero,List.set_cons_succ,qE,qF]
                      rfl
                     refine qL (i:=7) (N:=some 62) (v:=?_) (a':=?_) #[true,true,true,true,true,true,true,true,false,false,false,false,false,false,false,false,false,false,false,false,false,false,false,false] rfl rfl (qD HT_.out (by kernel_rfl)) (fun _ _ _ h => h) (Or.inl ⟨by rfl,?_⟩) ?_ ?_
                     rotate_left
                     ·intro w'
                      go_simp
                      with_reducible rfl
                     rotate_left
                     ·simp only [Act.put,List.setIfInBounds_toArray,List.set_cons_zero,List.set_cons_succ,qE,qF]
                      rfl
                     refine qL (i:=9) (N:=some 64) (v:=?_) (a':=?_) #[true,true,true,true,true,true,true,true,false,true,false,false,false,false,false,false,false,false,false,false,false,false,false,false] rfl rfl (qD HT_.out (by kernel_rfl)) (fun _ _ _ h => h) (Or.inl ⟨by rfl,?_⟩) ?_ ?_
                     rotate_left
                     ·intro w'
                      go_simp
                      with_reducible rfl
                     rotate_left
                     ·simp only [Act.put,List.setIfInBounds_toArray,List.set_cons_zero,List.set_cons_succ,qE,qF]
                      rfl
                     refine qL (i:=10) (N:=some 65) (v:=?_) (a':=?_) #[true,true,true,true,true,true,true,true,false,true,true,false,false,false,false,false,false,false,false,false,false,false,false,false] rfl rfl (qD HT_.out (by kernel_rfl)) (fun _ _ _ h => h) (Or.inl ⟨by rfl,?_⟩) ?_ ?_
                     rotate_left
                     ·intro w'
                      go_simp
                      with_reducible rfl
                     rotate_left
                     ·simp only [Act.put,List.setIfInBounds_toArray,List.set_cons_zero,List.set_cons_succ,qE,qF]
                      rfl
                     refine qL (i:=11) (N:=some 66) (v:=?_) (a':=?_) #[true,true,true,true,true,true,true,true,false,true,true,true,false,false,false,false,false,false,false,false,false,false,false,false] rfl rfl (qD HT_.out (by kernel_rfl)) (fun _ _ _ h => h) (Or.inl ⟨by rfl,?_⟩) ?_ ?_
                     rotate_left
                     ·intro w'
                      go_simp
                      with_reducible rfl
                     rotate_left
                     ·simp only [Act.put,List.setIfInBounds_toArray,List.set_cons_zero,List.set_cons_succ,qE,qF]
                      rfl
                     refine qL (i:=15) (N:=some 70) (v:=?_) (a':=?_) #[true,true,true,true,true,true,true,true,false,true,true,true,false,false,false,true,false,false,false,false,false,false,false,false] rfl rfl (qD HT_.out (by kernel_rfl)) (fun _ _ _ h => h) (Or.inl ⟨by rfl,?_⟩) ?_ ?_
                     rotate_left
                     ·intro w'
                      go_simp
                      with_reducible rfl
                     rotate_left
                     ·simp only [Act.put,List.setIfInBounds_toArray,List.set_cons_zero,List.set_cons_succ,qE,qF]
                      rfl
                     refine qL (i:=16) (N:=some 71) (v:=?_) (a':=?_) #[true,true,true,true,true,true,true,true,false,true,true,true,false,false,false,true,true,false,false,false,false,false,false,false] rfl rfl (qD HT_.out (by kernel_rfl)) (fun _ _ _ h => h) (Or.inl ⟨by rfl,?_⟩) ?_ ?_
                     rotate_left
                     ·intro w'
                      go_simp
                      with_reducible rfl
                     rotate_left
                     ·simp only [Act.put,List.setIfInBounds_toArray,List.set_cons_zero,List.set_cons_succ,qE,qF]
                      rfl
                     refine qL (i:=17) (N:=some 72) (v:=?_) (a':=?_) #[true,true,true,true,true,true,true,true,false,true,true,true,false,false,false,true,true,true,false,false,false,false,false,false] rfl rfl (qD HT_.out (by kernel_rfl)) (fun _ _ _ h => h) (Or.inl ⟨by rfl,?_⟩) ?_ ?_
                     rotate_left
                     ·intro w'
                      go_simp
                      with_reducible rfl
                     rotate_left
                     ·simp only [Act.put,List.setIfInBounds_toArray,List.set_cons_zero,List.set_cons_succ,qE,qF]
                      rfl
                     refine qL (i:=19) (N:=some 74) (v:=?_) (a':=?_) #[true,true,true,true,true,true,true,true,false,true,true,true,false,false,false,true,true,true,false,true,false,false,false,false] rfl rfl (qD HT_.out (by kernel_rfl)) (fun _ _ _ h => h) (Or.inl ⟨by rfl,?_⟩) ?_ ?_
                     rotate_left
                     ·intro w'
                      go_simp
                      with_reducible rfl
                     rotate_left
                     ·simp only [Act.put,List.setIfInBounds_toArray,List.set_cons_zero,List.set_cons_succ,qE,qF]
                      rfl
                     refine zz (i:=8) (N:=some 63) (v:=?_) (a':=?_) #[true,true,true,true,true,true,true,true,true,true,true,true,false,false,false,true,true,true,false,true,false,false,false,false] rfl rfl (jF HT_.out HW_.out (by kernel_rfl)) (fun _ _ _ h => h) (Or.inl ⟨by rfl,?_⟩) hHeld ?_ ?_
                     rotate_left
                     ·rintro w' ⟨s0,s1,s2,s3⟩
                      go_simp
                      with_reducible rfl
                     rotate_left
                     ·simp only [Act.put,List.setIfInBounds_toArray,List.set_cons_zero,List.set_cons_succ,qE,qF]
                      rfl
                     refine qL (i:=12) (N:=some 67) (v:=?_) (a':=?_) #[true,true,true,true,true,true,true,true,true,true,true,true,true,false,false,true,true,true,false,true,false,false,false,false] rfl rfl (qD HT_.out (by kernel_rfl)) (fun _ _ _ h => h) (Or.inl ⟨by rfl,?_⟩) ?_ ?_
                     rotate_left
                     ·intro w'
                      go_simp
                      with_reducible rfl
                     rotate_left
                     ·simp only [Act.put,List.setIfInBounds_toArray,List.set_cons_zero,List.set_cons_succ,qE,qF]
                      rfl
                     refine zz (i:=13) (N:=some 68) (v:=?_) (a':=?_) #[true,true,true,true,true,true,true,true,true,true,true,true,true,true,false,true,true,true,false,true,false,false,false,false] rfl rfl (jF HT_.out HW_.out (by kernel_rfl)) (fun _ _ _ h => h) (Or.inl ⟨by rfl,?_⟩) hHeld ?_ ?_
                     rotate_left
                     ·rintro w' ⟨s0,s1,s2,s3⟩
                      go_simp
                      with_reducible rfl
                     rotate_left
                     ·simp only [Act.put,List.setIfInBounds_toArray,List.set_cons_zero,List.set_cons_succ,qE,qF]
                      rfl
                     refine qL (i:=14) (N:=some 69) (v:=?_) (a':=?_) #[true,true,true,true,true,true,true,true,true,true,true,true,true,true,true,true,true,true,false,true,false,false,false,false] rfl rfl (qD HT_.out (by kernel_rfl)) (fun _ _ _ h => h) (Or.inl ⟨by rfl,?_⟩) ?_ ?_
                     rotate_left
                     ·intro w'
                      go_simp
                      with_reducible rfl
                     rotate_left
                     ·simp only [Act.put,List.setIfInBounds_toArray,List.set_cons_zero,List.set_cons_succ,qE,qF]
                      rfl
                     refine zz (i:=18) (N:=some 73) (v:=?_) (a':=?_) #[true,true,true,true,true,true,true,true,true,true,true,true,true,true,true,true,true,true,true,true,false,false,false,false] rfl rfl (jF HT_.out HW_.out (by kernel_rfl)) (fun _ _ _ h => h) (Or.inl ⟨by rfl,?_⟩) hHeld ?_ ?_
                     rotate_left
                     ·rintro w' ⟨s0,s1,s2,s3⟩
                      go_simp
                      with_reducible rfl
                     rotate_left
                     ·simp only [Act.put,List.setIfInBounds_toArray,List.set_cons_zero,List.set_cons_succ,qE,qF]
                      rfl
                     refine qL (i:=20) (N:=some 75) (v:=?_) (a':=?_) #[true,true,true,true,true,true,true,true,true,true,true,true,true,true,true,true,true,true,true,true,true,false,false,false] rfl rfl (qD HT_.out (by kernel_rfl)) (fun _ _ _ h => h) (Or.inl ⟨by rfl,?_⟩) ?_ ?_
                     rotate_left
                     ·intro w'
                      go_simp
                      with_reducible rfl
                     rotate_left
                     ·simp only [Act.put,List.setIfInBounds_toArray,List.set_cons_zero,List.set_cons_succ,qE,qF]
                      rfl
                     refine zz (i:=21) (N:=some 76) (v:=?_) (a':=?_) #[true,true,true,true,true,true,true,true,true,true,true,true,true,true,true,true,true,true,true,true,true,true,false,false] rfl rfl (jF HT_.out HW_.out (by kernel_rfl)) (fun _ _ _ h => h) (Or.inl ⟨by rfl,?_⟩) hHeld ?_ ?_
                     rotate_left
                     ·rintro w' ⟨s0,s1,s2,s3⟩
                      go_simp
                      with_reducible rfl
                     rotate_left
                     ·simp only [Act.put,List.setIfInBounds_toArray,List.set_cons_zero,List.set_cons_succ,qE,qF]
                      rfl
                     refine qL (i:=22) (N:=some 77) (v:=?_) (a':=?_) #[true,true,true,true,true,true,true,true,true,true,true,true,true,true,true,true,true,true,true,true,true,true,true,false] rfl rfl (qD HT_.out (by kernel_rfl)) (fun _ _ _ h => h) (Or.inl ⟨by rfl,?_⟩) ?_ ?_
                     rotate_left
                     ·intro w'
                      go_simp
                      with_reducible rfl
                     rotate_left
                     ·simp only [Act.put,List.setIfInBounds_toArray,List.set_cons_zero,List.set_cons_succ,qE,qF]
                      rfl
                     refine qL (i:=23) (N:=some 78) (v:=?_) (a':=?_) #[true,true,true,true,true,true,true,true,true,true,true,true,true,true,true,true,true,true,true,true,true,true,true,true] rfl rfl (qD HT_.out (by kernel_rfl)) (fun _ _ _ h => h) (Or.inl ⟨by rfl,?_⟩) ?_ ?_
                     rotate_left
                     ·intro w'
                      go_simp
                      with_reducible rfl
                     rotate_left
                     ·simp only [Act.put,List.setIfInBounds_toArray,List.set_cons_zero,List.set_cons_succ,qE,qF]
                      rfl
                     refine xL (zu HT_.out (by kernel_rfl)) ?_
                     try go_wp2
                     go_meet
                     case rel => exact ⟨_,(((wrap64 (t170 + (rd (qW t162 (ji24)) (ji27)))) == (rd (qW t162 x12_3) x13_3))),(by first|rfl|(simp;done)|(simp only [← hji24,← hji27] <;> (first|rfl|simp))|(simp [*];done)),H',⟨by have:=HK1.out;have:=HJ11.out;have:=HK3.out;first|omega|exact Nat.le_refl _⟩,⟨by (with_reducible repeat (first|apply Kd.jy|apply Kd.jA|apply Kd.jD));exact HO_10.out⟩,⟨by (with_reducible repeat (first|apply Kd.qy|apply Kd.qz|apply Kd.qC));exact HO_11.out⟩,⟨by (with_reducible repeat (first|refine qx ?_ _|refine qA ?_|refine qw ?_ _));exact BK160.out⟩,⟨by repeat (first|(with_reducible first|exact HB.out|apply qg|apply qc|apply qf|refine qp ?_ GE160.out)|exact HB.out)⟩⟩
                    ·rw [if_neg c31] at H
                     exact absurd H (by simp)
                   ·rw [if_neg c30] at H
                    exact absurd H (by simp)
                  ·rw [if_neg c29] at H
                   exact absurd H (by simp)
                 ·rw [if_neg c28] at H
                  exact absurd H (by simp)
                ·rw [if_neg c26] at H
                 exact absurd H (by simp)
               ·rw [if_neg c25] at H
                exact absurd H (by simp)
              ·replace c23:=Bool.eq_false_iff.mpr c23
               subst c23
               have H1 : (qm.j3 k3 a0 a1 t162 x11_3 x12_3 x13_3 x14_3 t168 t169 false a2_0 a2_1 a2_2 a2_3) = some (r1,r2,r3):=by rw [if_neg (show ¬ (false = true) by decide)] at H;exact H
               clear H
               have H:=H1
               clear H1
               have H':=qd.mk H
               clear H
               try go_wp2
               have n0_:=qd.mk (Kd.jD HO_10.out)
               have n1_:=qd.mk (Kd.qC HO_11.out)
               have n2_:=qd.mk (qA BK160.out)
               have n3_:=qd.mk (qf HB.out)
               clear HO_10
               clear HO_11
               clear BK160
               clear HB
               have HO_10:=n0_
               have HO_11:=n1_
               have BK160:=n2_
               have HB:=n3_
               clear n0_ n1_ n2_ n3_
               refine zN (n:=24) (S:=fun w' => True) (ds:=[]) #[false,false,false,false,false,false,false,false,false,false,false,false,false,false,false,false,false,false,false,false,false,false,false,false] (by kernel_rfl) rfl rfl trivial (fun hHeld => ?_);refine jT qm.Vn qm.ZG (fun HT_ HW_ => ?_)
               generalize w22.drew = w34 at HO_10 HO_11 BK160 HB hHeld ⊢
               refine qL (i:=0) (N:=some 55) (v:=?_) (a':=?_) #[true,false,false,false,false,false,false,false,false,false,false,false,false,false,false,false,false,false,false,false,false,false,false,false] rfl rfl (qD HT_.out (by kernel_rfl)) (fun _ _ _ h => h) (Or.inl ⟨by rfl,?_⟩) ?_ ?_
               rotate_left
               ·intro w'
                go_simp
                with_reducible rfl
               rotate_left
               ·simp only [Act.put,List.setIfInBounds_toArray,List.set_cons_zero,List.set_cons_succ,qE,qF]
                rfl
               refine qL (i:=1) (N:=some 56) (v:=?_) (a':=?_) #[true,true,false,false,false,false,false,false,false,false,false,false,false,false,false,false,false,false,false,false,false,false,false,false] rfl rfl (qD HT_.out (by kernel_rfl)) (fun _ _ _ h => h) (Or.inl ⟨by rfl,?_⟩) ?_ ?_
               rotate_left
               ·intro w'
                go_simp
                with_reducible rfl
               rotate_left
               ·simp only [Act.put,List.setIfInBounds_toArray,List.set_cons_zero,List.set_cons_succ,qE,qF]
                rfl
               refine qL (i:=2) (N:=some 57) (v:=undef) (a':=?_) #[true,true,true,false,false,false,false,false,false,false,false,false,false,false,false,false,false,false,false,false,false,false,false,false] rfl rfl (qD HT_.out (by kernel_rfl)) (fun _ _ _ h => h) (Or.inr ⟨by rfl,rfl⟩) ?_ ?_
               rotate_left
               ·simp only [Act.put,List.setIfInBounds_toArray,List.set_cons_zero,List.set_cons_succ,qE,qF]
                rfl
               refine qL (i:=3) (N:=some 58) (v:=undef) (a':=?_) #[true,true,true,true,false,false,false,false,false,false,false,false,false,false,false,false,false,false,false,false,false,false,false,false] rfl rfl (qD HT_.out (by kernel_rfl)) (fun _ _ _ h => h) (Or.inr ⟨by rfl,rfl⟩) ?_ ?_
               rotate_left
               ·simp only [Act.put,List.setIfInBounds_toArray,List.set_cons_zero,List.set_cons_succ,qE,qF]
                rfl
               refine qL (i:=4) (N:=some 59) (v:=undef) (a':=?_) #[true,true,true,true,true,false,false,false,false,false,false,false,false,false,false,false,false,false,false,false,false,false,false,false] rfl rfl (qD HT_.out (by kernel_rfl)) (fun _ _ _ h => h) (Or.inr ⟨by rfl,rfl⟩) ?_ ?_
               rotate_left
               ·simp only [Act.put,List.setIfInBounds_toArray,List.set_cons_zero,List.set_cons_succ,qE,qF]
                rfl
               refine qL (i:=5) (N:=some 60) (v:=undef) (a':=?_) #[true,true,true,true,true,true,false,false,false,false,false,false,false,false,false,false,false,false,false,false,false,false,false,false] rfl rfl (qD HT_.out (by kernel_rfl)) (fun _ _ _ h => h) (Or.inr ⟨by rfl,rfl⟩) ?_ ?_
               rotate_left
               ·simp only [Act.put,List.setIfInBounds_toArray,List.set_cons_zero,List.set_cons_succ,qE,qF]
                rfl
               refine qL (i:=6) (N:=some 61) (v:=undef) (a':=?_) #[true,true,true,true,true,true,true,false,false,false,false,false,false,false,false,false,false,false,false,false,false,false,false,false] rfl rfl (qD HT_.out (by kernel_rfl)) (fun _ _ _ h => h) (Or.inr ⟨by rfl,rfl⟩) ?_ ?_
               rotate_left
               ·simp only [Act.put,List.setIfInBounds_toArray,List.set_cons_zero,List.set_cons_succ,qE,qF]
                rfl
               refine qL (i:=7) (N:=some 62) (v:=undef) (a':=?_) #[true,true,true,true,true,true,true,true,false,false,false,false,false,false,false,false,false,false,false,false,false,false,false,false] rfl rfl (qD HT_.out (by kernel_rfl)) (fun _ _ _ h => h) (Or.inr ⟨by rfl,rfl⟩) ?_ ?_
               rotate_left
               ·simp only [Act.put,List.setIfInBounds_toArray,List.set_cons_zero,List.set_cons_succ,qE,qF]
                rfl
               refine qL (i:=8) (N:=some 63) (v:=undef) (a':=?_) #[true,true,true,true,true,true,true,true,true,false,false,false,false,false,false,false,false,false,false,false,false,false,false,false] rfl rfl (qD HT_.out (by kernel_rfl)) (fun _ _ _ h => h) (Or.inr ⟨by rfl,rfl⟩) ?_ ?_
               rotate_left
               ·simp only [Act.put,List.setIfInBounds_toArray,List.set_cons_zero,List.set_cons_succ,qE,qF]
                rfl
               refine qL (i:=9) (N:=some 64) (v:=undef) (a':=?_) #[true,true,true,true,true,true,true,true,true,true,false,false,false,false,false,false,false,false,false,false,false,false,false,false] rfl rfl (qD HT_.out (by kernel_rfl)) (fun _ _ _ h => h) (Or.inr ⟨by rfl,rfl⟩) ?_ ?_
               rotate_left
               ·simp only [Act.put,List.setIfInBounds_toArray,List.set_cons_zero,List.set_cons_succ,qE,qF]
                rfl
               refine qL (i:=10) (N:=some 65) (v:=undef) (a':=?_) #[true,true,true,true,true,true,true,true,true,true,true,false,false,false,false,false,false,false,false,false,false,false,false,false] rfl rfl (qD HT_.out (by kernel_rfl)) (fun _ _ _ h => h) (Or.inr ⟨by rfl,rfl⟩) ?_ ?_
               rotate_left
               ·simp only [Act.put,List.setIfInBounds_toArray,List.set_cons_zero,List.set_cons_succ,qE,qF]
                rfl
               refine qL (i:=11) (N:=some 66) (v:=undef) (a':=?_) #[true,true,true,true,true,true,true,true,true,true,true,true,false,false,false,false,false,false,false,false,false,false,false,false] rfl rfl (qD HT_.out (by kernel_rfl)) (fun _ _ _ h => h) (Or.inr ⟨by rfl,rfl⟩) ?_ ?_
               rotate_left
               ·simp only [Act.put,List.setIfInBounds_toArray,List.set_cons_zero,List.set_cons_succ,qE,qF]
                rfl
               refine qL (i:=12) (N:=some 67) (v:=undef) (a':=?_) #[true,true,true,true,true,true,true,true,true,true,true,true,true,false,false,false,false,false,false,false,false,false,false,false] rfl rfl (qD HT_.out (by kernel_rfl)) (fun _ _ _ h => h) (Or.inr ⟨by rfl,rfl⟩) ?_ ?_
               rotate_left
               ·simp only [Act.put,List.setIfInBounds_toArray,List.set_cons_zero,List.set_cons_succ,qE,qF]
                rfl
               refine qL (i:=13) (N:=some 68) (v:=undef) (a':=?_) #[true,true,true,true,true,true,true,true,true,true,true,true,true,true,false,false,false,false,false,false,false,false,false,false] rfl rfl (qD HT_.out (by kernel_rfl)) (fun _ _ _ h => h) (Or.inr ⟨by rfl,rfl⟩) ?_ ?_
               rotate_left
               ·simp only [Act.put,List.setIfInBounds_toArray,List.set_cons_zero,List.set_cons_succ,qE,qF]
                rfl
               refine qL (i:=14) (N:=some 69) (v:=undef) (a':=?_) #[true,true,true,true,true,true,true,true,true,true,true,true,true,true,true,false,false,false,false,false,false,false,false,false] rfl rfl (qD HT_.out (by kernel_rfl)) (fun _ _ _ h => h) (Or.inr ⟨by rfl,rfl⟩) ?_ ?_
               rotate_left
               ·simp only [Act.put,List.setIfInBounds_toArray,List.set_cons_zero,List.set_cons_succ,qE,qF]
                rfl
               refine qL (i:=15) (N:=some 70) (v:=undef) (a':=?_) #[true,true,true,true,true,true,true,true,true,true,true,true,true,true,true,true,false,false,false,false,false,false,false,false] rfl rfl (qD HT_.out (by kernel_rfl)) (fun _ _ _ h => h) (Or.inr ⟨by rfl,rfl⟩) ?_ ?_
               rotate_left
               ·simp only [Act.put,List.setIfInBounds_toArray,List.set_cons_zero,List.set_cons_succ,qE,qF]
                rfl
               refine qL (i:=16) (N:=some 71) (v:=undef) (a':=?_) #[true,true,true,true,true,true,true,true,true,true,true,true,true,true,true,true,true,false,false,false,false,false,false,false] rfl rfl (qD HT_.out (by kernel_rfl)) (fun _ _ _ h => h) (Or.inr ⟨by rfl,rfl⟩) ?_ ?_
               rotate_left
               ·simp only [Act.put,List.setIfInBounds_toArray,List.set_cons_zero,List.set_cons_succ,qE,qF]
                rfl
               refine qL (i:=17) (N:=some 72) (v:=undef) (a':=?_) #[true,true,true,true,true,true,true,true,true,true,true,true,true,true,true,true,true,true,false,false,false,false,false,false] rfl rfl (qD HT_.out (by kernel_rfl)) (fun _ _ _ h => h) (Or.inr ⟨by rfl,rfl⟩) ?_ ?_
               rotate_left
               ·simp only [Act.put,List.setIfInBounds_toArray,List.set_cons_zero,List.set_cons_succ,qE,qF]
                rfl
               refine qL (i:=18) (N:=some 73) (v:=undef) (a':=?_) #[true,true,true,true,true,true,true,true,true,true,true,true,true,true,true,true,true,true,true,false,false,false,false,false] rfl rfl (qD HT_.out (by kernel_rfl)) (fun _ _ _ h => h) (Or.inr ⟨by rfl,rfl⟩) ?_ ?_
               rotate_left
               ·simp only [Act.put,List.setIfInBounds_toArray,List.set_cons_zero,List.set_cons_succ,qE,qF]
                rfl
               refine qL (i:=19) (N:=some 74) (v:=undef) (a':=?_) #[true,true,true,true,true,true,true,true,true,true,true,true,true,true,true,true,true,true,true,true,false,false,false,false] rfl rfl (qD HT_.out (by kernel_rfl)) (fun _ _ _ h => h) (Or.inr ⟨by rfl,rfl⟩) ?_ ?_
               rotate_left
               ·simp only [Act.put,List.setIfInBounds_toArray,List.set_cons_zero,List.set_cons_succ,qE,qF]
                rfl
               refine qL (i:=20) (N:=some 75) (v:=undef) (a':=?_) #[true,true,true,true,true,true,true,true,true,true,true,true,true,true,true,true,true,true,true,true,true,false,false,false] rfl rfl (qD HT_.out (by kernel_rfl)) (fun _ _ _ h => h) (Or.inr ⟨by rfl,rfl⟩) ?_ ?_
               rotate_left
               ·simp only [Act.put,List.setIfInBounds_toArray,List.set_cons_zero,List.set_cons_succ,qE,qF]
                rfl
               refine qL (i:=21) (N:=some 76) (v:=undef) (a':=?_) #[true,true,true,true,true,true,true,true,true,true,true,true,true,true,true,true,true,true,true,true,true,true,false,false] rfl rfl (qD HT_.out (by kernel_rfl)) (fun _ _ _ h => h) (Or.inr ⟨by rfl,rfl⟩) ?_ ?_
               rotate_left
               ·simp only [Act.put,List.setIfInBounds_toArray,List.set_cons_zero,List.set_cons_succ,qE,qF]
                rfl
               refine qL (i:=22) (N:=some 77) (v:=undef) (a':=?_) #[true,true,true,true,true,true,true,true,true,true,true,true,true,true,true,true,true,true,true,true,true,true,true,false] rfl rfl (qD HT_.out (by kernel_rfl)) (fun _ _ _ h => h) (Or.inr ⟨by rfl,rfl⟩) ?_ ?_
               rotate_left
               ·simp only [Act.put,List.setIfInBounds_toArray,List.set_cons_zero,List.set_cons_succ,qE,qF]
                rfl
               refine qL (i:=23) (N:=some 78) (v:=?_) (a':=?_) #[true,true,true,true,true,true,true,true,true,true,true,true,true,true,true,true,true,true,true,true,true,true,true,true] rfl rfl (qD HT_.out (by kernel_rfl)) (fun _ _ _ h => h) (Or.inl ⟨by rfl,?_⟩) ?_ ?_
               rotate_left
               ·intro w'
                go_simp
                with_reducible rfl
               rotate_left
               ·simp only [Act.put,List.setIfInBounds_toArray,List.set_cons_zero,List.set_cons_succ,qE,qF]
                rfl
               refine xL (zu HT_.out (by kernel_rfl)) ?_
               try go_wp2
               go_meet
               case rel => exact ⟨_,(false),(by first|rfl|(simp;done)|(simp [*];done)),H',⟨by have:=HK1.out;have:=HJ11.out;have:=HK3.out;first|omega|exact Nat.le_refl _⟩,⟨by (with_reducible repeat (first|apply Kd.jy|apply Kd.jA|apply Kd.jD));exact HO_10.out⟩,⟨by (with_reducible repeat (first|apply Kd.qy|apply Kd.qz|apply Kd.qC));exact HO_11.out⟩,⟨by (with_reducible repeat (first|refine qx ?_ _|refine qA ?_|refine qw ?_ _));exact BK160.out⟩,⟨by repeat (first|(with_reducible first|exact HB.out|apply qg|apply qc|apply qf|refine qp ?_ GE160.out)|exact HB.out)⟩⟩
             case rest =>
              clear HC20
              try clear c1
              try clear p1
              try clear q1
              try clear hx1
              try clear c2
              try clear p2
              try clear c3
              try clear p6
              try clear c17
              try clear p17
              try clear q17
              try clear hx17
              try clear c23
              try clear c25
              try clear c25b0
              try clear c26
              try clear c26b0
              try clear c28
              try clear c28b0
              try clear c29
              try clear c29b0
              try clear c30
              try clear c30b0
              try clear c31
              try clear c31b0
              try clear c34
              try clear hx171_0
              try clear hx172_0
              try clear hx173_0
              try clear hx174_0
              try clear p171
              try clear p172
              try clear p173
              try clear p174
              try clear q171
              try clear q172
              try clear q173
              try clear q174
              obtain ⟨kq,x78_19,rfl,HA,HJ19,HO_10,HO_11,BK160,HB⟩:=hcut
              cases kq with
              | zero => exact absurd HA.out (by simp [qm.j3])
              | succ kj19 =>
               have H:=HA.out
               clear HA
               simp only [qm.j3] at H
               by_cases c35 : x78_19 = true
               ·subst c35
                have H1 : (if x14_3 = 2 then (if 0 ≤ x13_3 then (if x13_3 < (a1.size : Int) then (if x11_3.length < 70368744177664 then (qm.l0 kj19 a0 a1 t162 (x11_3 ++ [(⟨x14_3,bt a1 x13_3⟩ : S59)]) (wrap64 (x12_3 + t168)) (wrap64 (x13_3 + t169)) a2_0 a2_1 a2_2 a2_3) else (none)) else (none)) else (none)) else (if x14_3 = 5 then (if 0 ≤ x13_3 then (if x13_3 < (a1.size : Int) then (if x11_3.length < 70368744177664 then (qm.l0 kj19 a0 a1 t162 (x11_3 ++ [(⟨x14_3,bt a1 x13_3⟩ : S59)]) (wrap64 (x12_3 + t168)) (wrap64 (x13_3 + t169)) a2_0 a2_1 a2_2 a2_3) else (none)) else (none)) else (none)) else (if x11_3.length < 70368744177664 then (qm.l0 kj19 a0 a1 t162 (x11_3 ++ [(⟨x14_3,0⟩ : S59)]) (wrap64 (x12_3 + t168)) (wrap64 (x13_3 + t169)) a2_0 a2_1 a2_2 a2_3) else (none)))) = some (r1,r2,r3):=by rw [if_pos rfl] at H;exact H
                clear H
                have H:=H1
                clear H1
                by_cases c36 : x14_3 = 2
                ·rw [if_pos c36] at H
                 have c36b0 : (x14_3 == 2) = true:=beq_iff_eq.mpr c36
                 have c36b1 : (x14_3 != 2) = false:=bne_eq_false_iff_eq.mpr c36
                 clear c36
                 by_cases c37 : 0 ≤ x13_3
                 ·rw [if_pos c37] at H
                  have c37b0 : decide (0 ≤ x13_3) = true:=decide_eq_true c37
                  clear c37
                  by_cases c38 : x13_3 < (a1.size : Int)
                  ·rw [if_pos c38] at H
                   have c38b0 : decide (x13_3 < (a1.size : Int)) = true:=decide_eq_true c38
                   clear c38
                   by_cases c40 : x11_3.length < 70368744177664
                   ·rw [if_pos c40] at H
                    have LMc40:=qd.mk c40
                    clear c40
                    obtain ⟨y176,hy176⟩ : ∃ y_ : List (S59),y_ = (x11_3 ++ [(⟨x14_3,bt a1 x13_3⟩ : S59)]):=⟨_,rfl⟩
                    replace H : (qm.l0 kj19 a0 a1 t162 y176 (wrap64 (x12_3 + t168)) (wrap64 (x13_3 + t169)) a2_0 a2_1 a2_2 a2_3) = some (r1,r2,r3):=by first|(rw [hy176];with_reducible exact H)|(have H2_:=(Option.bind_some _ _).symm.trans H;rw [hy176];with_reducible exact H2_)|(have H2_:=(Option.bind_some _ _).symm.trans H;with_reducible exact H2_)|with_reducible exact H|(rw [hy176];exact H)|exact H
                    have Ny176:=qd.mk hy176
                    clear hy176
                    have H':=qd.mk H
                    clear H
                    go_wp2_with (first|((with_reducible refine ji (N:=19) rfl ?_);(try (refine jm (by rfl) ?_;dsimp only));refine jg ?hg (N:=19) ?hd (cs:=#[.int .u8 0,.int .u8 0]) (t:=59) ?hr ?_;(case hd => rfl);(case hg => rfl);(case hr => first|(go_simp;done)|(go_simp;rfl));intro gb175 hg w41 hbox hb;have n0_:=qd.mk (Kd.xz (by (with_reducible repeat (first|apply Kd.jy|apply Kd.jA|apply Kd.jD));exact HO_10.out) hb);have n1_:=qd.mk (Kd.qN (Kd.Qb (by (with_reducible repeat (first|apply Kd.qy|apply Kd.qz|apply Kd.qC));exact HO_11.out) gb175 (Nat.le_of_eq hg.symm)) hb);have n2_:=qd.mk (qR (g:=gb160) (o:=.cells #[.int .i64 a2_0,.int .i64 a2_1,.int .i64 a2_2,.int .i64 a2_3] 51 (0,0)) (by (with_reducible repeat (first|refine qx ?_ _|refine qA ?_|refine qw ?_ _));exact BK160.out) hb);have n3_:=qd.mk (qI (by repeat (first|(with_reducible first|exact HB.out|apply qg|apply qc|apply qf|refine qp ?_ GE160.out)|exact HB.out)) hb);have n4_:=qd.mk (hbox);have n5_:=qd.mk ((by rw [hg];exact (qH (by repeat (first|(with_reducible first|exact HB.out|apply qg|apply qc|apply qf|refine qp ?_ GE160.out)|exact HB.out))) : w.heap.size ≤ gb175));have n6_:=qd.mk ((by rw [hg];exact (qH (by repeat (first|(with_reducible first|exact HB.out|apply qg|apply qc|apply qf|refine qp ?_ GE160.out)|exact HB.out))) : w.heap.size ≤ gb175));have n7_:=qd.mk ((by rw [hg];exact Nat.ne_of_lt (jw (g:=gb160) (o:=.cells #[.int .i64 a2_0,.int .i64 a2_1,.int .i64 a2_2,.int .i64 a2_3] 51 (0,0)) (by (with_reducible repeat (first|refine qx ?_ _|refine qA ?_|refine qw ?_ _));exact BK160.out)) : gb160 ≠ gb175));have n8_:=qd.mk ((by rw [hg];exact Nat.ne_of_gt (jw (g:=gb160) (o:=.cells #[.int .i64 a2_0,.int .i64 a2_1,.int .i64 a2_2,.int .i64 a2_3] 51 (0,0)) (by (with_reducible repeat (first|refine qx ?_ _|refine qA ?_|refine qw ?_ _));exact BK160.out)) : gb175 ≠ gb160));clear HO_10;clear HO_11;clear BK160;clear HB;have HO_10:=n0_;have HO_11:=n1_;have BK160:=n2_;have HB:=n3_;have BK175:=n4_;have GW175:=n5_;have GE175:=n6_;have NB160_175:=n7_;have NB175_160:=n8_;clear n0_ n1_ n2_ n3_ n4_ n5_ n6_ n7_ n8_;clear hb hbox hg;have hnb42:=NB175_160.out;have hnc42:=NB160_175.out;have hcz43_0 : w41.cell? ⟨gb175,0,none⟩ = some (.int .u8 0):=(qi BK175.out 0).trans rfl;have hcz43_1 : w41.cell? ⟨gb175,1,none⟩ = some (.int .u8 0):=(qi BK175.out 1).trans rfl;have hfz43_0:=ql BK175.out 0;have hfz43_1:=ql BK175.out 1;have hq_ : (((w41.setCell ⟨gb175,0,none⟩ (.int .u8 x14_3)).setCell ⟨gb175,1,none⟩ (.int .u8 0)).setCell ⟨gb175,1,none⟩ (.int .u8 (bt a1 x13_3))).cell? ⟨gb175,1,none⟩ = some (.int .u8 (bt a1 x13_3)):=(qi (jh (cs:=#[.int .u8 x14_3,.int .u8 0]) (jh (cs:=#[.int .u8 x14_3,.int .u8 0]) (jh (cs:=#[.int .u8 0,.int .u8 0]) BK175.out 0 _ rfl) 1 _ rfl) 1 _ rfl) 1).trans rfl;have p39 : 0 ≤ (x13_3 : Int):=of_decide_eq_true (by first|(with_reducible assumption)|assumption);have q39 : x13_3 < (a1.size : Int):=of_decide_eq_true (by first|(with_reducible assumption)|assumption);have hx39:=jI a1 x13_3;replace p39:=eq_true p39;replace q39:=eq_true q39)|((with_reducible refine xg (b:=.append) (xs:=#[.tmp 91,.tmp 93]) rfl ?_);(try (refine jm (by rfl) ?_;dsimp only));at_builtin;refine Kd.zo k59 (w0:=w) w.heap.size rfl (.tmp 91) (.tmp 93) 56 59 (.agg #[(.int .u8 0),(.int .u8 0)]) 2 rfl Try.underlying56 JO rfl (by decide) (by omega) u11 x11_3 (⟨x14_3,bt a1 x13_3⟩ : S59) [.int .u8 x14_3,.int .u8 (bt a1 x13_3)] (fun k_ => k_ ≠ gb175) (fun _ => False) rfl (by first|(go_simp;done)|(go_simp;rfl)) ?aP (fun _ hk => hk.elim) ?aF ?aO ?aB ?aS ?aL ?_;(case aP => exact QO _ _ _ (⟨x14_3,bt a1 x13_3⟩ : S59));(case aB => exact (by repeat (first|(with_reducible first|exact HB.out|apply qg|apply qc|apply qf|refine qp ?_ GE160.out|refine qp ?_ GE175.out)|exact HB.out)));(case aF => exact (fun k_ hk => Kd.QH (g:=gb175) (o:=.cells #[.int .u8 x14_3,.int .u8 (bt a1 x13_3)] 59 (0,0)) (by (with_reducible repeat (first|refine qx ?_ _|refine qA ?_|refine qw ?_ _));refine jh (cs:=#[.int .u8 x14_3,.int .u8 0]) ?_ 1 _ rfl;(with_reducible repeat (first|refine qx ?_ _|refine qA ?_|refine qw ?_ _));refine jh (cs:=#[.int .u8 x14_3,.int .u8 0]) ?_ 1 _ rfl;(with_reducible repeat (first|refine qx ?_ _|refine qA ?_|refine qw ?_ _));refine jh (cs:=#[.int .u8 0,.int .u8 0]) ?_ 0 _ rfl;(with_reducible repeat (first|refine qx ?_ _|refine qA ?_|refine qw ?_ _));exact BK175.out) k_ hk));(case aO => exact (by (with_reducible repeat (first|apply Kd.qy|apply Kd.qz|apply Kd.qC));exact Kd.qO (Kd.zY (p:=⟨gb175,1,none⟩) (Kd.zY (p:=⟨gb175,1,none⟩) (Kd.zY (p:=⟨gb175,0,none⟩) (Kd.qO HO_11.out (fun k_ hk => (⟨hk,hk.2⟩ : _ ∧ k_ ≠ gb175))) (fun _ hk => hk.2) (.int .u8 x14_3)) (fun _ hk => hk.2) (.int .u8 0)) (fun _ hk => hk.2) (.int .u8 (bt a1 x13_3))) (fun _ hk => hk.1.2)));(case aS => exact (qH (by repeat (first|(with_reducible first|exact HB.out|apply qg|apply qc|apply qf|refine qp ?_ GE160.out|refine qp ?_ GE175.out)|exact HB.out))));(case aL => have:=LMc40.out;omega);intro v177 w44 ho hb hg hat;rw [← Ny176.out] at ho;have n0_:=qd.mk (Kd.QA (by (with_reducible repeat (first|apply Kd.jy|apply Kd.jA|apply Kd.jD));exact (Kd.yf (Kd.yl (p:=⟨gb175,1,none⟩) (Kd.yl (p:=⟨gb175,1,none⟩) (Kd.yl (p:=⟨gb175,0,none⟩) (Kd.QM HO_10.out BK175.out (by decide)) (fun _ hk => hk.2) (.int .u8 x14_3)) (fun _ hk => hk.2) (.int .u8 0)) (fun _ hk => hk.2) (.int .u8 (bt a1 x13_3))) (fun _ h_ => h_.1))) (Kd.jf (by (with_reducible repeat (first|apply Kd.qy|apply Kd.qz|apply Kd.qC));exact (Kd.qO (Kd.zY (p:=⟨gb175,1,none⟩) (Kd.zY (p:=⟨gb175,1,none⟩) (Kd.zY (p:=⟨gb175,0,none⟩) (Kd.qO HO_11.out (fun k_ hk => (⟨hk,hk.2⟩ : _ ∧ k_ ≠ gb175))) (fun _ hk => hk.2) (.int .u8 x14_3)) (fun _ hk => hk.2) (.int .u8 0)) (fun _ hk => hk.2) (.int .u8 (bt a1 x13_3))) (fun _ h_ => h_.1)))) (by decide) hg);have n1_:=qd.mk (zG (g:=gb160) (o:=.cells #[.int .i64 a2_0,.int .i64 a2_1,.int .i64 a2_2,.int .i64 a2_3] 51 (0,0)) (by (with_reducible repeat (first|refine qx ?_ _|refine qA ?_|refine qw ?_ _));refine j5 ?_ NB160_175.out _;(with_reducible repeat (first|refine qx ?_ _|refine qA ?_|refine qw ?_ _));refine j5 ?_ NB160_175.out _;(with_reducible repeat (first|refine qx ?_ _|refine qA ?_|refine qw ?_ _));refine j5 ?_ NB160_175.out _;(with_reducible repeat (first|refine qx ?_ _|refine qA ?_|refine qw ?_ _));exact BK160.out) hg (Kd.R_ne HO_11.out BK160.out (by decide)));have n2_:=qd.mk (zG (g:=gb175) (o:=.cells #[.int .u8 x14_3,.int .u8 (bt a1 x13_3)] 59 (0,0)) (by (with_reducible repeat (first|refine qx ?_ _|refine qA ?_|refine qw ?_ _));refine jh (cs:=#[.int .u8 x14_3,.int .u8 0]) ?_ 1 _ rfl;(with_reducible repeat (first|refine qx ?_ _|refine qA ?_|refine qw ?_ _));refine jh (cs:=#[.int .u8 x14_3,.int .u8 0]) ?_ 1 _ rfl;(with_reducible repeat (first|refine qx ?_ _|refine qA ?_|refine qw ?_ _));refine jh (cs:=#[.int .u8 0,.int .u8 0]) ?_ 0 _ rfl;(with_reducible repeat (first|refine qx ?_ _|refine qA ?_|refine qw ?_ _));exact BK175.out) hg (Kd.Jn HO_11.out (fun _ hk => hk.2)));have n3_:=qd.mk (hb);have n4_:=qd.mk (ho);clear HO_10;clear BK160;clear BK175;clear HB;clear HO_11;have HO_10:=n0_;have BK160:=n1_;have BK175:=n2_;have HB:=n3_;have HO178:=n4_;clear n0_ n1_ n2_ n3_ n4_;clear ho hb hg hat))
                    go_roundg kj19
                    case measure => have:=HK1.out;have:=HJ11.out;have:=HK3.out;have:=HJ19.out;omega
                    case rel => exact ⟨(y176),(wrap64 (x12_3 + t168)),(wrap64 (x13_3 + t169)),(by first|rfl|(simp;done)|(simp [*];done)),(by first|rfl|(simp;done)|(simp [*];done)),H',⟨by have:=HK1.out;have:=HJ11.out;have:=HK3.out;have:=HJ19.out;omega⟩,⟨by (with_reducible repeat (first|apply Kd.jy|apply Kd.jA|apply Kd.jD));exact HO_10.out⟩,⟨by (with_reducible repeat (first|apply Kd.qy|apply Kd.qz|apply Kd.qC));exact Kd.qO HO178.out (fun _ hk => trivial)⟩,⟨by (with_reducible repeat (first|refine qx ?_ _|refine qA ?_|refine qw ?_ _));exact BK160.out⟩,⟨by repeat (first|(with_reducible first|exact HB.out|apply qg|apply qc|apply qf|refine qp ?_ GE160.out|refine qp ?_ GE175.out)|exact HB.out)⟩⟩
                   ·rw [if_neg c40] at H
                    exact absurd H (by simp)
                  ·rw [if_neg c38] at H
                   exact absurd H (by simp)
                 ·rw [if_neg c37] at H
                  exact absurd H (by simp)
                ·rw [if_neg c36] at H
                 have c36b0 : (x14_3 == 2) = false:=beq_eq_false_iff_ne.mpr c36
                 have c36b1 : (x14_3 != 2) = true:=bne_iff_ne.mpr c36
                 by_cases c45 : x14_3 = 5
                 ·rw [if_pos c45] at H
                  have c45b0 : (x14_3 == 5) = true:=beq_iff_eq.mpr c45
                  have c45b1 : (x14_3 != 5) = false:=bne_eq_false_iff_eq.mpr c45
                  clear c45
                  by_cases c46 : 0 ≤ x13_3
                  ·rw [if_pos c46] at H
                   have c46b0 : decide (0 ≤ x13_3) = true:=decide_eq_true c46
                   clear c46
                   by_cases c47 : x13_3 < (a1.size : Int)
                   ·rw [if_pos c47] at H
                    have c47b0 : decide (x13_3 < (a1.size : Int)) = true:=decide_eq_true c47
                    clear c47
                    by_cases c49 : x11_3.length < 70368744177664
                    ·rw [if_pos c49] at H
                     have LMc49:=qd.mk c49
                     clear c49
                     obtain ⟨y179,hy179⟩ : ∃ y_ : List (S59),y_ = (x11_3 ++ [(⟨x14_3,bt a1 x13_3⟩ : S59)]):=⟨_,rfl⟩
                     replace H : (qm.l0 kj19 a0 a1 t162 y179 (wrap64 (x12_3 + t168)) (wrap64 (x13_3 + t169)) a2_0 a2_1 a2_2 a2_3) = some (r1,r2,r3):=by first|(rw [hy179];with_reducible exact H)|(have H2_:=(Option.bind_some _ _).symm.trans H;rw [hy179];with_reducible exact H2_)|(have H2_:=(Option.bind_some _ _).symm.trans H;with_reducible exact H2_)|with_reducible exact H|(rw [hy179];exact H)|exact H
                     have Ny179:=qd.mk hy179
                     clear hy179
                     have H':=qd.mk H
                     clear H
                     go_wp2_with (first|((with_reducible refine ji (N:=19) rfl ?_);(try (refine jm (by rfl) ?_;dsimp only));refine jg ?hg (N:=19) ?hd (cs:=#[.int .u8 0,.int .u8 0]) (t:=59) ?hr ?_;(case hd => rfl);(case hg => rfl);(case hr => first|(go_simp;done)|(go_simp;rfl));intro gb175 hg w50 hbox hb;have n0_:=qd.mk (Kd.xz (by (with_reducible repeat (first|apply Kd.jy|apply Kd.jA|apply Kd.jD));exact HO_10.out) hb);have n1_:=qd.mk (Kd.qN (Kd.Qb (by (with_reducible repeat (first|apply Kd.qy|apply Kd.qz|apply Kd.qC));exact HO_11.out) gb175 (Nat.le_of_eq hg.symm)) hb);have n2_:=qd.mk (qR (g:=gb160) (o:=.cells #[.int .i64 a2_0,.int .i64 a2_1,.int .i64 a2_2,.int .i64 a2_3] 51 (0,0)) (by (with_reducible repeat (first|refine qx ?_ _|refine qA ?_|refine qw ?_ _));exact BK160.out) hb);have n3_:=qd.mk (qI (by repeat (first|(with_reducible first|exact HB.out|apply qg|apply qc|apply qf|refine qp ?_ GE160.out)|exact HB.out)) hb);have n4_:=qd.mk (hbox);have n5_:=qd.mk ((by rw [hg];exact (qH (by repeat (first|(with_reducible first|exact HB.out|apply qg|apply qc|apply qf|refine qp ?_ GE160.out)|exact HB.out))) : w.heap.size ≤ gb175));have n6_:=qd.mk ((by rw [hg];exact (qH (by repeat (first|(with_reducible first|exact HB.out|apply qg|apply qc|apply qf|refine qp ?_ GE160.out)|exact HB.out))) : w.heap.size ≤ gb175));have n7_:=qd.mk ((by rw [hg];exact Nat.ne_of_lt (jw (g:=gb160) (o:=.cells #[.int .i64 a2_0,.int .i64 a2_1,.int .i64 a2_2,.int .i64 a2_3] 51 (0,0)) (by (with_reducible repeat (first|refine qx ?_ _|refine qA ?_|refine qw ?_ _));exact BK160.out)) : gb160 ≠ gb175));have n8_:=qd.mk ((by rw [hg];exact Nat.ne_of_gt (jw (g:=gb160) (o:=.cells #[.int .i64 a2_0,.int .i64 a2_1,.int .i64 a2_2,.int .i64 a2_3] 51 (0,0)) (by (with_reducible repeat (first|refine qx ?_ _|refine qA ?_|refine qw ?_ _));exact BK160.out)) : gb175 ≠ gb160));clear HO_10;clear HO_11;clear BK160;clear HB;have HO_10:=n0_;have HO_11:=n1_;have BK160:=n2_;have HB:=n3_;have BK175:=n4_;have GW175:=n5_;have GE175:=n6_;have NB160_175:=n7_;have NB175_160:=n8_;clear n0_ n1_ n2_ n3_ n4_ n5_ n6_ n7_ n8_;clear hb hbox hg;have hnb51:=NB175_160.out;have hnc51:=NB160_175.out;have hcz52_0 : w50.cell? ⟨gb175,0,none⟩ = some (.int .u8 0):=(qi BK175.out 0).trans rfl;have hcz52_1 : w50.cell? ⟨gb175,1,none⟩ = some (.int .u8 0):=(qi BK175.out 1).trans rfl;have hfz52_0:=ql BK175.out 0;have hfz52_1:=ql BK175.out 1;have hq_ : (((w50.setCell ⟨gb175,0,none⟩ (.int .u8 x14_3)).setCell ⟨gb175,1,none⟩ (.int .u8 0)).setCell ⟨gb175,1,none⟩ (.int .u8 (bt a1 x13_3))).cell? ⟨gb175,1,none⟩ = some (.int .u8 (bt a1 x13_3)):=(qi (jh (cs:=#[.int .u8 x14_3,.int .u8 0]) (jh (cs:=#[.int .u8 x14_3,.int .u8 0]) (jh (cs:=#[.int .u8 0,.int .u8 0]) BK175.out 0 _ rfl) 1 _ rfl) 1 _ rfl) 1).trans rfl;have p48 : 0 ≤ (x13_3 : Int):=of_decide_eq_true (by first|(with_reducible assumption)|assumption);have q48 : x13_3 < (a1.size : Int):=of_decide_eq_true (by first|(with_reducible assumption)|assumption);have hx48:=jI a1 x13_3;replace p48:=eq_true p48;replace q48:=eq_true q48)|((with_reducible refine xg (b:=.append) (xs:=#[.tmp 91,.tmp 93]) rfl ?_);(try (refine jm (by rfl) ?_;dsimp only));at_builtin;refine Kd.zo k59 (w0:=w) w.heap.size rfl (.tmp 91) (.tmp 93) 56 59 (.agg #[(.int .u8 0),(.int .u8 0)]) 2 rfl Try.underlying56 JO rfl (by decide) (by omega) u11 x11_3 (⟨x14_3,bt a1 x13_3⟩ : S59) [.int .u8 x14_3,.int .u8 (bt a1 x13_3)] (fun k_ => k_ ≠ gb175) (fun _ => False) rfl (by first|(go_simp;done)|(go_simp;rfl)) ?aP (fun _ hk => hk.elim) ?aF ?aO ?aB ?aS ?aL ?_;(case aP => exact QO _ _ _ (⟨x14_3,bt a1 x13_3⟩ : S59));(case aB => exact (by repeat (first|(with_reducible first|exact HB.out|apply qg|apply qc|apply qf|refine qp ?_ GE160.out|refine qp ?_ GE175.out)|exact HB.out)));(case aF => exact (fun k_ hk => Kd.QH (g:=gb175) (o:=.cells #[.int .u8 x14_3,.int .u8 (bt a1 x13_3)] 59 (0,0)) (by (with_reducible repeat (first|refine qx ?_ _|refine qA ?_|refine qw ?_ _));refine jh (cs:=#[.int .u8 x14_3,.int .u8 0]) ?_ 1 _ rfl;(with_reducible repeat (first|refine qx ?_ _|refine qA ?_|refine qw ?_ _));refine jh (cs:=#[.int .u8 x14_3,.int .u8 0]) ?_ 1 _ rfl;(with_reducible repeat (first|refine qx ?_ _|refine qA ?_|refine qw ?_ _));refine jh (cs:=#[.int .u8 0,.int .u8 0]) ?_ 0 _ rfl;(with_reducible repeat (first|refine qx ?_ _|refine qA ?_|refine qw ?_ _));exact BK175.out) k_ hk));(case aO => exact (by (with_reducible repeat (first|apply Kd.qy|apply Kd.qz|apply Kd.qC));exact Kd.qO (Kd.zY (p:=⟨gb175,1,none⟩) (Kd.zY (p:=⟨gb175,1,none⟩) (Kd.zY (p:=⟨gb175,0,none⟩) (Kd.qO HO_11.out (fun k_ hk => (⟨hk,hk.2⟩ : _ ∧ k_ ≠ gb175))) (fun _ hk => hk.2) (.int .u8 x14_3)) (fun _ hk => hk.2) (.int .u8 0)) (fun _ hk => hk.2) (.int .u8 (bt a1 x13_3))) (fun _ hk => hk.1.2)));(case aS => exact (qH (by repeat (first|(with_reducible first|exact HB.out|apply qg|apply qc|apply qf|refine qp ?_ GE160.out|refine qp ?_ GE175.out)|exact HB.out))));(case aL => have:=LMc49.out;omega);intro v180 w53 ho hb hg hat;rw [← Ny179.out] at ho;have n0_:=qd.mk (Kd.QA (by (with_reducible repeat (first|apply Kd.jy|apply Kd.jA|apply Kd.jD));exact (Kd.yf (Kd.yl (p:=⟨gb175,1,none⟩) (Kd.yl (p:=⟨gb175,1,none⟩) (Kd.yl (p:=⟨gb175,0,none⟩) (Kd.QM HO_10.out BK175.out (by decide)) (fun _ hk => hk.2) (.int .u8 x14_3)) (fun _ hk => hk.2) (.int .u8 0)) (fun _ hk => hk.2) (.int .u8 (bt a1 x13_3))) (fun _ h_ => h_.1))) (Kd.jf (by (with_reducible repeat (first|apply Kd.qy|apply Kd.qz|apply Kd.qC));exact (Kd.qO (Kd.zY (p:=⟨gb175,1,none⟩) (Kd.zY (p:=⟨gb175,1,none⟩) (Kd.zY (p:=⟨gb175,0,none⟩) (Kd.qO HO_11.out (fun k_ hk => (⟨hk,hk.2⟩ : _ ∧ k_ ≠ gb175))) (fun _ hk => hk.2) (.int .u8 x14_3)) (fun _ hk => hk.2) (.int .u8 0)) (fun _ hk => hk.2) (.int .u8 (bt a1 x13_3))) (fun _ h_ => h_.1)))) (by decide) hg);have n1_:=qd.mk (zG (g:=gb160) (o:=.cells #[.int .i64 a2_0,.int .i64 a2_1,.int .i64 a2_2,.int .i64 a2_3] 51 (0,0)) (by (with_reducible repeat (first|refine qx ?_ _|refine qA ?_|refine qw ?_ _));refine j5 ?_ NB160_175.out _;(with_reducible repeat (first|refine qx ?_ _|refine qA ?_|refine qw ?_ _));refine j5 ?_ NB160_175.out _;(with_reducible repeat (first|refine qx ?_ _|refine qA ?_|refine qw ?_ _));refine j5 ?_ NB160_175.out _;(with_reducible repeat (first|refine qx ?_ _|refine qA ?_|refine qw ?_ _));exact BK160.out) hg (Kd.R_ne HO_11.out BK160.out (by decide)));have n2_:=qd.mk (zG (g:=gb175) (o:=.cells #[.int .u8 x14_3,.int .u8 (bt a1 x13_3)] 59 (0,0)) (by (with_reducible repeat (first|refine qx ?_ _|refine qA ?_|refine qw ?_ _));refine jh (cs:=#[.int .u8 x14_3,.int .u8 0]) ?_ 1 _ rfl;(with_reducible repeat (first|refine qx ?_ _|refine qA ?_|refine qw ?_ _));refine jh (cs:=#[.int .u8 x14_3,.int .u8 0]) ?_ 1 _ rfl;(with_reducible repeat (first|refine qx ?_ _|refine qA ?_|refine qw ?_ _));refine jh (cs:=#[.int .u8 0,.int .u8 0]) ?_ 0 _ rfl;(with_reducible repeat (first|refine qx ?_ _|refine qA ?_|refine qw ?_ _));exact BK175.out) hg (Kd.Jn HO_11.out (fun _ hk => hk.2)));have n3_:=qd.mk (hb);have n4_:=qd.mk (ho);clear HO_10;clear BK160;clear BK175;clear HB;clear HO_11;have HO_10:=n0_;have BK160:=n1_;have BK175:=n2_;have HB:=n3_;have HO181:=n4_;clear n0_ n1_ n2_ n3_ n4_;clear ho hb hg hat))
                     go_roundg kj19
                     case measure => have:=HK1.out;have:=HJ11.out;have:=HK3.out;have:=HJ19.out;omega
                     case rel => exact ⟨(y179),(wrap64 (x12_3 + t168)),(wrap64 (x13_3 + t169)),(by first|rfl|(simp;done)|(simp [*];done)),(by first|rfl|(simp;done)|(simp [*];done)),H',⟨by have:=HK1.out;have:=HJ11.out;have:=HK3.out;have:=HJ19.out;omega⟩,⟨by (with_reducible repeat (first|apply Kd.jy|apply Kd.jA|apply Kd.jD));exact HO_10.out⟩,⟨by (with_reducible repeat (first|apply Kd.qy|apply Kd.qz|apply Kd.qC));exact Kd.qO HO181.out (fun _ hk => trivial)⟩,⟨by (with_reducible repeat (first|refine qx ?_ _|refine qA ?_|refine qw ?_ _));exact BK160.out⟩,⟨by repeat (first|(with_reducible first|exact HB.out|apply qg|apply qc|apply qf|refine qp ?_ GE160.out|refine qp ?_ GE175.out)|exact HB.out)⟩⟩
                    ·rw [if_neg c49] at H
                     exact absurd H (by simp)
                   ·rw [if_neg c47] at H
                    exact absurd H (by simp)
                  ·rw [if_neg c46] at H
                   exact absurd H (by simp)
                 ·rw [if_neg c45] at H
                  have c45b0 : (x14_3 == 5) = false:=beq_eq_false_iff_ne.mpr c45
                  have c45b1 : (x14_3 != 5) = true:=bne_iff_ne.mpr c45
                  by_cases c54 : x11_3.length < 70368744177664
                  ·rw [if_pos c54] at H
                   have LMc54:=qd.mk c54
                   clear c54
                   obtain ⟨y182,hy182⟩ : ∃ y_ : List (S59),y_ = (x11_3 ++ [(⟨x14_3,0⟩ : S59)]):=⟨_,rfl⟩
                   replace H : (qm.l0 kj19 a0 a1 t162 y182 (wrap64 (x12_3 + t168)) (wrap64 (x13_3 + t169)) a2_0 a2_1 a2_2 a2_3) = some (r1,r2,r3):=by first|(rw [hy182];with_reducible exact H)|(have H2_:=(Option.bind_some _ _).symm.trans H;rw [hy182];with_reducible exact H2_)|(have H2_:=(Option.bind_some _ _).symm.trans H;with_reducible exact H2_)|with_reducible exact H|(rw [hy182];exact H)|exact H
                   have Ny182:=qd.mk hy182
                   clear hy182
                   have H':=qd.mk H
                   clear H
                   go_wp2_with (first|((with_reducible refine ji (N:=19) rfl ?_);(try (refine jm (by rfl) ?_;dsimp only));refine jg ?hg (N:=19) ?hd (cs:=#[.int .u8 0,.int .u8 0]) (t:=59) ?hr ?_;(case hd => rfl);(case hg => rfl);(case hr => first|(go_simp;done)|(go_simp;rfl));intro gb175 hg w55 hbox hb;have n0_:=qd.mk (Kd.xz (by (with_reducible repeat (first|apply Kd.jy|apply Kd.jA|apply Kd.jD));exact HO_10.out) hb);have n1_:=qd.mk (Kd.qN (Kd.Qb (by (with_reducible repeat (first|apply Kd.qy|apply Kd.qz|apply Kd.qC));exact HO_11.out) gb175 (Nat.le_of_eq hg.symm)) hb);have n2_:=qd.mk (qR (g:=gb160) (o:=.cells #[.int .i64 a2_0,.int .i64 a2_1,.int .i64 a2_2,.int .i64 a2_3] 51 (0,0)) (by (with_reducible repeat (first|refine qx ?_ _|refine qA ?_|refine qw ?_ _));exact BK160.out) hb);have n3_:=qd.mk (qI (by repeat (first|(with_reducible first|exact HB.out|apply qg|apply qc|apply qf|refine qp ?_ GE160.out)|exact HB.out)) hb);have n4_:=qd.mk (hbox);have n5_:=qd.mk ((by rw [hg];exact (qH (by repeat (first|(with_reducible first|exact HB.out|apply qg|apply qc|apply qf|refine qp ?_ GE160.out)|exact HB.out))) : w.heap.size ≤ gb175));have n6_:=qd.mk ((by rw [hg];exact (qH (by repeat (first|(with_reducible first|exact HB.out|apply qg|apply qc|apply qf|refine qp ?_ GE160.out)|exact HB.out))) : w.heap.size ≤ gb175));have n7_:=qd.mk ((by rw [hg];exact Nat.ne_of_lt (jw (g:=gb160) (o:=.cells #[.int .i64 a2_0,.int .i64 a2_1,.int .i64 a2_2,.int .i64 a2_3] 51 (0,0)) (by (with_reducible repeat (first|refine qx ?_ _|refine qA ?_|refine qw ?_ _));exact BK160.out)) : gb160 ≠ gb175));have n8_:=qd.mk ((by rw [hg];exact Nat.ne_of_gt (jw (g:=gb160) (o:=.cells #[.int .i64 a2_0,.int .i64 a2_1,.int .i64 a2_2,.int .i64 a2_3] 51 (0,0)) (by (with_reducible repeat (first|refine qx ?_ _|refine qA ?_|refine qw ?_ _));exact BK160.out)) : gb175 ≠ gb160));clear HO_10;clear HO_11;clear BK160;clear HB;have HO_10:=n0_;have HO_11:=n1_;have BK160:=n2_;have HB:=n3_;have BK175:=n4_;have GW175:=n5_;have GE175:=n6_;have NB160_175:=n7_;have NB175_160:=n8_;clear n0_ n1_ n2_ n3_ n4_ n5_ n6_ n7_ n8_;clear hb hbox hg;have hnb56:=NB175_160.out;have hnc56:=NB160_175.out;have hcz57_0 : w55.cell? ⟨gb175,0,none⟩ = some (.int .u8 0):=(qi BK175.out 0).trans rfl;have hcz57_1 : w55.cell? ⟨gb175,1,none⟩ = some (.int .u8 0):=(qi BK175.out 1).trans rfl;have hfz57_0:=ql BK175.out 0;have hfz57_1:=ql BK175.out 1)|((with_reducible refine xg (b:=.append) (xs:=#[.tmp 91,.tmp 93]) rfl ?_);(try (refine jm (by rfl) ?_;dsimp only));at_builtin;refine Kd.zo k59 (w0:=w) w.heap.size rfl (.tmp 91) (.tmp 93) 56 59 (.agg #[(.int .u8 0),(.int .u8 0)]) 2 rfl Try.underlying56 JO rfl (by decide) (by omega) u11 x11_3 (⟨x14_3,0⟩ : S59) [.int .u8 x14_3,.int .u8 0] (fun k_ => k_ ≠ gb175) (fun _ => False) rfl (by first|(go_simp;done)|(go_simp;rfl)) ?aP (fun _ hk => hk.elim) ?aF ?aO ?aB ?aS ?aL ?_;(case aP => exact QO _ _ _ (⟨x14_3,0⟩ : S59));(case aB => exact (by repeat (first|(with_reducible first|exact HB.out|apply qg|apply qc|apply qf|refine qp ?_ GE160.out|refine qp ?_ GE175.out)|exact HB.out)));(case aF => exact (fun k_ hk => Kd.QH (g:=gb175) (o:=.cells #[.int .u8 x14_3,.int .u8 0] 59 (0,0)) (by (with_reducible repeat (first|refine qx ?_ _|refine qA ?_|refine qw ?_ _));refine jh (cs:=#[.int .u8 x14_3,.int .u8 0]) ?_ 1 _ rfl;(with_reducible repeat (first|refine qx ?_ _|refine qA ?_|refine qw ?_ _));refine jh (cs:=#[.int .u8 0,.int .u8 0]) ?_ 0 _ rfl;(with_reducible repeat (first|refine qx ?_ _|refine qA ?_|refine qw ?_ _));exact BK175.out) k_ hk));(case aO => exact (by (with_reducible repeat (first|apply Kd.qy|apply Kd.qz|apply Kd.qC));exact Kd.qO (Kd.zY (p:=⟨gb175,1,none⟩) (Kd.zY (p:=⟨gb175,0,none⟩) (Kd.qO HO_11.out (fun k_ hk => (⟨hk,hk.2⟩ : _ ∧ k_ ≠ gb175))) (fun _ hk => hk.2) (.int .u8 x14_3)) (fun _ hk => hk.2) (.int .u8 0)) (fun _ hk => hk.1.2)));(case aS => exact (qH (by repeat (first|(with_reducible first|exact HB.out|apply qg|apply qc|apply qf|refine qp ?_ GE160.out|refine qp ?_ GE175.out)|exact HB.out))));(case aL => have:=LMc54.out;omega);intro v183 w58 ho hb hg hat;rw [← Ny182.out] at ho;have n0_:=qd.mk (Kd.QA (by (with_reducible repeat (first|apply Kd.jy|apply Kd.jA|apply Kd.jD));exact (Kd.yf (Kd.yl (p:=⟨gb175,1,none⟩) (Kd.yl (p:=⟨gb175,0,none⟩) (Kd.QM HO_10.out BK175.out (by decide)) (fun _ hk => hk.2) (.int .u8 x14_3)) (fun _ hk => hk.2) (.int .u8 0)) (fun _ h_ => h_.1))) (Kd.jf (by (with_reducible repeat (first|apply Kd.qy|apply Kd.qz|apply Kd.qC));exact (Kd.qO (Kd.zY (p:=⟨gb175,1,none⟩) (Kd.zY (p:=⟨gb175,0,none⟩) (Kd.qO HO_11.out (fun k_ hk => (⟨hk,hk.2⟩ : _ ∧ k_ ≠ gb175))) (fun _ hk => hk.2) (.int .u8 x14_3)) (fun _ hk => hk.2) (.int .u8 0)) (fun _ h_ => h_.1)))) (by decide) hg);have n1_:=qd.mk (zG (g:=gb160) (o:=.cells #[.int .i64 a2_0,.int .i64 a2_1,.int .i64 a2_2,.int .i64 a2_3] 51 (0,0)) (by (with_reducible repeat (first|refine qx ?_ _|refine qA ?_|refine qw ?_ _));refine j5 ?_ NB160_175.out _;(with_reducible repeat (first|refine qx ?_ _|refine qA ?_|refine qw ?_ _));refine j5 ?_ NB160_175.out _;(with_reducible repeat (first|refine qx ?_ _|refine qA ?_|refine qw ?_ _));exact BK160.out) hg (Kd.R_ne HO_11.out BK160.out (by decide)));have n2_:=qd.mk (zG (g:=gb175) (o:=.cells #[.int .u8 x14_3,.int .u8 0] 59 (0,0)) (by (with_reducible repeat (first|refine qx ?_ _|refine qA ?_|refine qw ?_ _));refine jh (cs:=#[.int .u8 x14_3,.int .u8 0]) ?_ 1 _ rfl;(with_reducible repeat (first|refine qx ?_ _|refine qA ?_|refine qw ?_ _));refine jh (cs:=#[.int .u8 0,.int .u8 0]) ?_ 0 _ rfl;(with_reducible repeat (first|refine qx ?_ _|refine qA ?_|refine qw ?_ _));exact BK175.out) hg (Kd.Jn HO_11.out (fun _ hk => hk.2)));have n3_:=qd.mk (hb);have n4_:=qd.mk (ho);clear HO_10;clear BK160;clear BK175;clear HB;clear HO_11;have HO_10:=n0_;have BK160:=n1_;have BK175:=n2_;have HB:=n3_;have HO184:=n4_;clear n0_ n1_ n2_ n3_ n4_;clear ho hb hg hat))
                   go_roundg kj19
                   case measure => have:=HK1.out;have:=HJ11.out;have:=HK3.out;have:=HJ19.out;omega
                   case rel => exact ⟨(y182),(wrap64 (x12_3 + t168)),(wrap64 (x13_3 + t169)),(by first|rfl|(simp;done)|(simp [*];done)),(by first|rfl|(simp;done)|(simp [*];done)),H',⟨by have:=HK1.out;have:=HJ11.out;have:=HK3.out;have:=HJ19.out;omega⟩,⟨by (with_reducible repeat (first|apply Kd.jy|apply Kd.jA|apply Kd.jD));exact HO_10.out⟩,⟨by (with_reducible repeat (first|apply Kd.qy|apply Kd.qz|apply Kd.qC));exact Kd.qO HO184.out (fun _ hk => trivial)⟩,⟨by (with_reducible repeat (first|refine qx ?_ _|refine qA ?_|refine qw ?_ _));exact BK160.out⟩,⟨by repeat (first|(with_reducible first|exact HB.out|apply qg|apply qc|apply qf|refine qp ?_ GE160.out|refine qp ?_ GE175.out)|exact HB.out)⟩⟩
                  ·rw [if_neg c54] at H
                   exact absurd H (by simp)
               ·replace c35:=Bool.eq_false_iff.mpr c35
                subst c35
                have H1 : (qm.l1 kj19 a0 a1 t162 x11_3 x12_3 x13_3 ((x14_3 + 1) % 256) a2_0 a2_1 a2_2 a2_3) = some (r1,r2,r3):=by rw [if_neg (show ¬ (false = true) by decide)] at H;exact H
                clear H
                have H:=H1
                clear H1
                have H':=qd.mk H
                clear H
                go_wp2
                go_roundg kj19
                case measure => have:=HK1.out;have:=HJ11.out;have:=HK3.out;have:=HJ19.out;omega
                case rel => exact ⟨(x11_3),(x12_3),(x13_3),((x14_3 + 1) % 256),(by first|rfl|(simp;done)|(simp [*];done)),(by first|rfl|(simp;done)|(simp [*];done)),(by first|rfl|(simp;done)|(simp [*];done)),H',⟨by have:=HK1.out;have:=HJ11.out;have:=HK3.out;have:=HJ19.out;omega⟩,⟨by (with_reducible repeat (first|apply Kd.jy|apply Kd.jA|apply Kd.jD));exact HO_10.out⟩,⟨by (with_reducible repeat (first|apply Kd.qy|apply Kd.qz|apply Kd.qC));exact HO_11.out⟩,⟨by (with_reducible repeat (first|refine qx ?_ _|refine qA ?_|refine qw ?_ _));exact BK160.out⟩,⟨by repeat (first|(with_reducible first|exact HB.out|apply qg|apply qc|apply qf|refine qp ?_ GE160.out)|exact HB.out)⟩⟩
            ·rw [if_neg c18] at H
             exact absurd H (by simp)
           ·rw [if_neg c17] at H
            exact absurd H (by simp)
          ·rw [if_neg c16] at H
           exact absurd H (by simp)
         ·rw [if_neg c15] at H
          exact absurd H (by simp)
      ·replace c14:=Bool.eq_false_iff.mpr c14
       subst c14
       have H1 : (if 0 < (t162.length : Int) then (if 0 < ((qW t162 0).length : Int) then (some (x11_1,rd (qW t162 0) 0,0)) else (none)) else (none)) = some (r1,r2,r3):=by rw [if_neg (show ¬ (false = true) by decide)] at H;exact H
       clear H
       have H:=H1
       clear H1
       by_cases c59 : 0 < (t162.length : Int)
       ·rw [if_pos c59] at H
        have c59b0 : decide (0 < (t162.length : Int)) = true:=decide_eq_true c59
        have c59b1 : decide (0 < t162.length) = true:=decide_eq_true (by omega)
        clear c59
        by_cases c60 : 0 < ((qW t162 0).length : Int)
        ·rw [if_pos c60] at H
         have c60b0 : decide (0 < ((qW t162 0).length : Int)) = true:=decide_eq_true c60
         have c60b1 : decide (0 < (qW t162 0).length) = true:=decide_eq_true (by omega)
         clear c60
         simp only [Option.some.injEq,Prod.mk.injEq] at H
         obtain ⟨rfl,rfl,rfl⟩:=H
         try go_wp2
         have n0_:=qd.mk (Kd.jD HO_10.out)
         have n1_:=qd.mk (Kd.qC HO_11.out)
         have n2_:=qd.mk (qA BK160.out)
         have n3_:=qd.mk (qf HB.out)
         clear HO_10
         clear HO_11
         clear BK160
         clear HB
         have HO_10:=n0_
         have HO_11:=n1_
         have BK160:=n2_
         have HB:=n3_
         clear n0_ n1_ n2_ n3_
         obtain ⟨Ao62,co62,eo62⟩:=Kd.QE HO_10.out
         (first|subst eo62|(injection eo62 with f1_ f2_ f3_;have f4_:=f1_.symm;have f5_:=f3_.symm;clear f1_ f2_ f3_;subst f4_;subst f5_))
         have p165 : 0 ≤ (0 : Int):=(by omega)
         have q165 : 0 < (t162.length : Int):=of_decide_eq_true (by first|(with_reducible assumption)|assumption)
         obtain ⟨ad165,A165_0,c165_0,e165,hx165_0,hl165_0,hi165_0⟩:=kv (Kd.jR HO_10.out).2.2 0 p165 q165
         cases e165
         obtain ⟨ce165,hce165,hMe165,hcc165⟩:=Kd.kS HO_10.out [] 0 p165 (by first|exact q165|exact of_decide_eq_true (by first|(with_reducible assumption)|assumption)|(have e_:=(Kd.jR HO_10.out).1;omega))
         obtain ⟨ve165_0,rfl,ge165_0⟩:=hMe165
         have hv165_0:=hcc165 0 _ rfl
         rw [Nat.add_zero,show ((Kd.slice 3 (Kd.int .i64))).sz = 1 from rfl,Nat.mul_one] at hv165_0
         replace hv165_0:=Option.some.inj (hv165_0.symm.trans hx165_0)
         rw [hv165_0] at ge165_0
         have HL165_0:=qd.mk (show Kd.R (Kd.int .i64) 3 _ _ _ _ (qW t162 0) from ge165_0)
         clear hv165_0 ge165_0
         clear hcc165 hce165
         have qi165 : (0 < t162.length) = True:=eq_true (by omega)
         (try rw [show ((0 : Int)).toNat = 0 from rfl] at hx165_0)
         (try rw [Addr.add_zero'] at hx165_0)
         have HR165_0:=qd.mk hi165_0
         have HC165_0:=qd.mk hl165_0
         clear hi165_0 hl165_0
         replace p165:=eq_true p165
         replace q165:=eq_true q165
         have p166 : 0 ≤ (0 : Int):=(by omega)
         have q166 : 0 < ((qW t162 0).length : Int):=of_decide_eq_true (by first|(with_reducible assumption)|assumption)
         obtain ⟨ad166,e166,hx166_0⟩:=Kd.vK (by repeat (first|(with_reducible exact HR165_0.out)|(with_reducible refine Kd.jP ?_ _)|(with_reducible refine Kd.jQ ?_ _)|(with_reducible refine Kd.zh ?_)|exact HR165_0.out)) 0 p166 q166
         cases e166
         have qi166 : (0 < (qW t162 0).length) = True:=eq_true (by omega)
         (try rw [show ((0 : Int)).toNat = 0 from rfl] at hx166_0)
         (try rw [Addr.add_zero'] at hx166_0)
         replace p166:=eq_true p166
         replace q166:=eq_true q166
         refine zN (n:=9) (S:=fun w' => w'.cell? ad165 = some (.slice (some ad166) (qW t162 0).length c165_0) ∧ w'.cell? ad166 = some (.int .i64 (rd (qW t162 0) 0))) (ds:=[]) #[false,false,false,false,false,false,false,false,false] (by kernel_rfl) rfl rfl ⟨hx165_0,hx166_0⟩ (fun hHeld => ?_);refine jT qm.VZ qm.VS (fun HT_ HW_ => ?_)
         generalize wc.drew = w61 at HO_10 HO_11 BK160 HB HL165_0 HR165_0 hx165_0 hx166_0 hHeld ⊢
         refine qL (i:=0) (N:=some 103) (v:=?_) (a':=?_) #[true,false,false,false,false,false,false,false,false] rfl rfl (qD HT_.out (by kernel_rfl)) (fun _ _ _ h => h) (Or.inl ⟨by rfl,?_⟩) ?_ ?_
         rotate_left
         ·intro w'
          go_simp
          with_reducible rfl
         rotate_left
         ·simp only [Act.put,List.setIfInBounds_toArray,List.set_cons_zero,List.set_cons_succ,qE,qF]
          rfl
         refine qL (i:=1) (N:=some 104) (v:=?_) (a':=?_) #[true,true,false,false,false,false,false,false,false] rfl rfl (qD HT_.out (by kernel_rfl)) (fun _ _ _ h => h) (Or.inl ⟨by rfl,?_⟩) ?_ ?_
         rotate_left
         ·intro w'
          go_simp
          with_reducible rfl
         rotate_left
         ·simp only [Act.put,List.setIfInBounds_toArray,List.set_cons_zero,List.set_cons_succ,qE,qF]
          rfl
         refine qL (i:=2) (N:=some 105) (v:=?_) (a':=?_) #[true,true,true,false,false,false,false,false,false] rfl rfl (qD HT_.out (by kernel_rfl)) (fun _ _ _ h => h) (Or.inl ⟨by rfl,?_⟩) ?_ ?_
         rotate_left
         ·intro w'
          go_simp
          with_reducible rfl
         rotate_left
         ·simp only [Act.put,List.setIfInBounds_toArray,List.set_cons_zero,List.set_cons_succ,qE,qF]
          rfl
         refine qL (i:=6) (N:=some 6) (v:=?_) (a':=?_) #[true,true,true,false,false,false,true,false,false] rfl rfl (qD HT_.out (by kernel_rfl)) (fun _ _ _ h => h) (Or.inl ⟨by rfl,?_⟩) ?_ ?_
         rotate_left
         ·intro w'
          go_simp
          with_reducible rfl
         rotate_left
         ·simp only [Act.put,List.setIfInBounds_toArray,List.set_cons_zero,List.set_cons_succ,qE,qF]
          rfl
         refine zz (i:=3) (N:=some 106) (v:=?_) (a':=?_) #[true,true,true,true,false,false,true,false,false] rfl rfl (jF HT_.out HW_.out (by kernel_rfl)) (fun _ _ _ h => h) (Or.inl ⟨by rfl,?_⟩) hHeld ?_ ?_
         rotate_left
         ·rintro w' ⟨s0,s1⟩
          go_simp
          with_reducible rfl
         rotate_left
         ·simp only [Act.put,List.setIfInBounds_toArray,List.set_cons_zero,List.set_cons_succ,qE,qF]
          rfl
         refine qL (i:=4) (N:=some 107) (v:=?_) (a':=?_) #[true,true,true,true,true,false,true,false,false] rfl rfl (qD HT_.out (by kernel_rfl)) (fun _ _ _ h => h) (Or.inl ⟨by rfl,?_⟩) ?_ ?_
         rotate_left
         ·intro w'
          go_simp
          with_reducible rfl
         rotate_left
         ·simp only [Act.put,List.setIfInBounds_toArray,List.set_cons_zero,List.set_cons_succ,qE,qF]
          rfl
         refine zz (i:=5) (N:=some 108) (v:=?_) (a':=?_) #[true,true,true,true,true,true,true,false,false] rfl rfl (jF HT_.out HW_.out (by kernel_rfl)) (fun _ _ _ h => h) (Or.inl ⟨by rfl,?_⟩) hHeld ?_ ?_
         rotate_left
         ·rintro w' ⟨s0,s1⟩
          go_simp
          with_reducible rfl
         rotate_left
         ·simp only [Act.put,List.setIfInBounds_toArray,List.set_cons_zero,List.set_cons_succ,qE,qF]
          rfl
         refine qL (i:=7) (N:=some 7) (v:=?_) (a':=?_) #[true,true,true,true,true,true,true,true,false] rfl rfl (qD HT_.out (by kernel_rfl)) (fun _ _ _ h => h) (Or.inl ⟨by rfl,?_⟩) ?_ ?_
         rotate_left
         ·intro w'
          go_simp
          with_reducible rfl
         rotate_left
         ·simp only [Act.put,List.setIfInBounds_toArray,List.set_cons_zero,List.set_cons_succ,qE,qF]
          rfl
         refine qL (i:=8) (N:=some 8) (v:=?_) (a':=?_) #[true,true,true,true,true,true,true,true,true] rfl rfl (qD HT_.out (by kernel_rfl)) (fun _ _ _ h => h) (Or.inl ⟨by rfl,?_⟩) ?_ ?_
         rotate_left
         ·intro w'
          go_simp
          with_reducible rfl
         rotate_left
         ·simp only [Act.put,List.setIfInBounds_toArray,List.set_cons_zero,List.set_cons_succ,qE,qF]
          rfl
         refine xL (zu HT_.out (by kernel_rfl)) ?_
         try go_wp2
         go_ret3
         exact ⟨_,by first|rfl|(simp [qQ,qP] <;> rfl)|(simp [*,qQ,qP] <;> rfl),by (with_reducible repeat (first|apply Kd.qy|apply Kd.qz|apply Kd.qC));exact HO_11.out,by repeat (first|(with_reducible first|exact HB.out|apply qg|apply qc|apply qf|refine qp ?_ GE160.out)|exact HB.out)⟩
        ·rw [if_neg c60] at H
         exact absurd H (by simp)
       ·rw [if_neg c59] at H
        exact absurd H (by simp)
 ·rw [if_neg c5] at H
  have c5b0 : (t161 == 0) = false:=beq_eq_false_iff_ne.mpr c5
  have c5b1 : (t161 != 0) = true:=bne_iff_ne.mpr c5
  simp only [Option.some.injEq,Prod.mk.injEq] at H
  obtain ⟨rfl,rfl,rfl⟩:=H
  go_enter Try.func25,Try.ntmps25
  go_wp2_with (first|((with_reducible refine ji (N:=5) rfl ?_);(try (refine jm (by rfl) ?_;dsimp only));refine jg ?hg (N:=5) ?hd (cs:=#[.int .i64 a2_0,.int .i64 a2_1,.int .i64 a2_2,.int .i64 a2_3]) (t:=51) ?hr ?_;(case hd => rfl);(case hg => rfl);(case hr => first|(go_simp;done)|(go_simp;rfl));intro gb160 hg w63 hbox hb;have n0_:=qd.mk (qI (by repeat (first|(with_reducible first|exact HB.out|apply qg|apply qc|apply qf)|exact HB.out)) hb);have n1_:=qd.mk (hbox);have n2_:=qd.mk ((by rw [hg];exact (qH (by repeat (first|(with_reducible first|exact HB.out|apply qg|apply qc|apply qf)|exact HB.out))) : w.heap.size ≤ gb160));have n3_:=qd.mk ((by rw [hg];exact (qH (by repeat (first|(with_reducible first|exact HB.out|apply qg|apply qc|apply qf)|exact HB.out))) : w.heap.size ≤ gb160));clear HB;have HB:=n0_;have BK160:=n1_;have GW160:=n2_;have GE160:=n3_;clear n0_ n1_ n2_ n3_;clear hb hbox hg;have hcz64_0 : w63.cell? ⟨gb160,0,none⟩ = some (.int .i64 a2_0):=(qi BK160.out 0).trans rfl;have hcz64_1 : w63.cell? ⟨gb160,1,none⟩ = some (.int .i64 a2_1):=(qi BK160.out 1).trans rfl;have hcz64_2 : w63.cell? ⟨gb160,2,none⟩ = some (.int .i64 a2_2):=(qi BK160.out 2).trans rfl;have hcz64_3 : w63.cell? ⟨gb160,3,none⟩ = some (.int .i64 a2_3):=(qi BK160.out 3).trans rfl;have hfz64_0:=ql BK160.out 0;have hfz64_1:=ql BK160.out 1;have hfz64_2:=ql BK160.out 2;have hfz64_3:=ql BK160.out 3)|((with_reducible refine qZ (f:=32) rfl ?_);refine jL (some 23) rfl rfl Try.func32 (by kernel_rfl) rfl #[.string a0,.string a1,.agg #[.int .i64 a2_0,.int .i64 a2_1,.int .i64 a2_2,.int .i64 a2_3]] rfl (by (try simp only [List.map_toArray,List.map_cons,List.map_nil]);first|done|rfl|(simp only [List.length_drop,List.length_take];rfl)) ?_;(with_reducible refine (jv.calls a0 a1 a2_0 a2_1 a2_2 a2_3 t161 _ A4.out).mono ?_);rintro e w65 ⟨rfl,hb⟩;refine ⟨_,rfl,?_⟩;have n0_:=qd.mk (qR (g:=gb160) (o:=.cells #[.int .i64 a2_0,.int .i64 a2_1,.int .i64 a2_2,.int .i64 a2_3] 51 (0,0)) (by (with_reducible repeat (first|refine qx ?_ _|refine qA ?_|refine qw ?_ _));exact BK160.out) hb);have n1_:=qd.mk (qI (by repeat (first|(with_reducible first|exact HB.out|apply qg|apply qc|apply qf|refine qp ?_ GE160.out)|exact HB.out)) hb);clear BK160;clear HB;have BK160:=n0_;have HB:=n1_;clear n0_ n1_;(try clear hb);(try clear hb2);(try clear hk);(try clear hi)))
  go_ret3
  exact ⟨_,by first|rfl|(simp [qQ,qP] <;> rfl)|(simp [*,qQ,qP] <;> rfl),by first|exact Kd.kz _ _ _ _ _|exact Kd.ZN _ _ _ _ _|exact Kd.ZF _ _ _ _ _|exact Kd.Xk _ _ _ _ _|exact Kd.Xf _ _ _ _ _,by repeat (first|(with_reducible first|exact HB.out|apply qg|apply qc|apply qf|refine qp ?_ GE160.out)|exact HB.out)⟩
end Go.Proofs.Ytdefecnngccmoaa.QTells
namespace Go.Proofs.Ytdefecnngccmoaa.Ed
open Go.RowKit Go.Proofs.YtdefecnngccmoaaW.PrintWords QTells
section
variable (c : Lb.Cst) (a b : ByteArray)
def mt (kind : Int) (i j : Nat) : Prop:=okB a b kind i j = true ∧ kc c kind + dd c a b (i + ux kind) (j + uy kind) = dd c a b i j
def opOf (kind : Int) (j : Nat) : S59:=if kind = 2 then ⟨kind,bt b j⟩ else if kind = 5 then ⟨kind,bt b j⟩ else ⟨kind,0⟩
variable {c a b}
theorem V4 (hc : c.Ok) (ha : a.size ≤ 60) (hb : b.size ≤ 60) {G : List (List Int)} (g : GA c a b G (-1)) {i j : Nat} (hi : i ≤ a.size) (hj : j ≤ b.size) (k : Nat) (acc : List S59) (hn : acc.length ≤ 1000) (kind : Int) (h1 : 1 ≤ kind) (h5 : kind ≤ 5) :
    (mt c a b kind i j → qm.l1 (k + 2) a b G acc i j kind c.ins c.del c.chg c.swp = qm.l0 k a b G (acc ++ [opOf b kind j]) ((i + ux kind : Nat) : Int) ((j + uy kind : Nat) : Int) c.ins c.del c.chg c.swp) ∧
    (¬ mt c a b kind i j → qm.l1 (k + 2) a b G acc i j kind c.ins c.del c.chg c.swp = qm.l1 k a b G acc i j (kind + 1) c.ins c.del c.chg c.swp):=by
  have t1 : (0 : Int) ≤ (i : Int):=by omega
  have t2 : (i : Int) ≤ (a.size : Int):=by omega
  have t3 : (0 : Int) ≤ (j : Int):=by omega
  have t4 : (j : Int) ≤ (b.size : Int):=by omega
  have t5 : ((i : Nat) : Int).toNat = i:=by omega
  have t6 : ((j : Nat) : Int).toNat = j:=by omega
  have t7 : (kind + 1) % 256 = kind + 1:=by omega
  have no : ∀ (x y : Int),qm.j3 (k + 1) a b G acc i j kind x y false c.ins c.del c.chg c.swp = qm.l1 k a b G acc i j (kind + 1) c.ins c.del c.chg c.swp:=by
    intro x y
    rw [qm.j3,if_neg (by simp),t7]
  rw [qm.l1,if_pos t1,if_pos t2,if_pos t3,if_pos t4,t5,t6,QY c a b k kind i j hi hj,Option.bind_some]
  dsimp only
  by_cases h : okB a b kind i j = true
  · obtain ⟨x1,x2,x3,x4,x5⟩:=Vi h h1 h5 hi hj
    have g1:=g.rows (i + ux kind) (by omega) x1
    have g2:=g.rows i (by omega) hi
    have bd:=jO hc a b ha hb (i + ux kind) (j + uy kind)
    have kb:=Vj hc kind
    have hl : acc.length < 70368744177664:=by omega
    have z1 : (0 : Int) ≤ ((i + ux kind : Nat) : Int):=by omega
    have z2 : ((i + ux kind : Nat) : Int) < (G.length : Int):=by have:=g.len;omega
    have z3 : (0 : Int) ≤ ((j + uy kind : Nat) : Int):=by omega
    have z4 : ((j + uy kind : Nat) : Int) < ((b.size + 1 : Nat) : Int):=by omega
    have y3 : (i : Int) < (G.length : Int):=by have:=g.len;omega
    have y4 : (j : Int) < ((b.size + 1 : Nat) : Int):=by omega
    have z5 : -1000000000 ≤ (i : Int) + ((ux kind : Nat) : Int) ∧ (i : Int) + ((ux kind : Nat) : Int) ≤ 1000000000:=by omega
    have z6 : -1000000000 ≤ (j : Int) + ((uy kind : Nat) : Int) ∧ (j : Int) + ((uy kind : Nat) : Int) ≤ 1000000000:=by omega
    have z7 : -1000000000 ≤ kc c kind + dd c a b (i + ux kind) (j + uy kind) ∧ kc c kind + dd c a b (i + ux kind) (j + uy kind) ≤ 1000000000:=by omega
    have z8 : (i : Int) + ((ux kind : Nat) : Int) = ((i + ux kind : Nat) : Int):=by omega
    have z9 : (j : Int) + ((uy kind : Nat) : Int) = ((j + uy kind : Nat) : Int):=by omega
    have e1 : wrap64 ((i : Int) + ((ux kind : Nat) : Int)) = ((i + ux kind : Nat) : Int):=(w64 z5.1 z5.2).trans z8
    have e2 : wrap64 ((j : Int) + ((uy kind : Nat) : Int)) = ((j + uy kind : Nat) : Int):=(w64 z6.1 z6.2).trans z9
    have r1:=g1.2 (j + uy kind) x2
    have r2:=g2.2 j hj
    rw [if_pos h,e1,e2,r1,g1.1,r2,g2.1,w64 z7.1 z7.2]
    simp only [if_pos z1,if_pos z2,if_pos z3,if_pos z4,if_pos y3,if_pos y4]
    constructor
    · intro hm
      rw [beq_iff_eq.2 hm.2,qm.j3,if_pos rfl,e1,e2]
      clear e1 e2
      simp only [if_pos hl,if_pos t3]
      unfold opOf
      by_cases k2 : kind = 2
      · have : j < b.size:=by subst k2;unfold okB at h;simp at h;omega
        have jb : (j : Int) < (b.size : Int):=by omega
        rw [if_pos k2,if_pos k2,if_pos jb]
      · rw [if_neg k2,if_neg k2]
        by_cases k5 : kind = 5
        · have : j < b.size:=by subst k5;unfold okB at h;simp at h;omega
          have jb : (j : Int) < (b.size : Int):=by omega
          rw [if_pos k5,if_pos k5,if_pos jb]
        · rw [if_neg k5,if_neg k5]
    · intro hm
      have : (kc c kind + dd c a b (i + ux kind) (j + uy kind) == dd c a b i j) = false:=beq_eq_false_iff_ne.2 (fun e => hm ⟨h,e⟩)
      rw [this,no]
  · rw [if_neg h]
    exact ⟨fun hm => absurd hm.1 h,fun _ => no _ _⟩
theorem Jf {G : List (List Int)} {i j : Nat} (k : Nat) (acc : List S59) (h : i < a.size ∨ j < b.size) :
    qm.l0 (k + 2) a b G acc i j c.ins c.del c.chg c.swp = qm.l1 k a b G acc i j 1 c.ins c.del c.chg c.swp:=by
  rw [qm.l0]
  by_cases h1 : i < a.size
  · rw [if_pos (by omega),qm.j1,if_pos rfl]
  · rw [if_neg (by omega),qm.j1,if_pos (by rw [decide_eq_true_eq];omega)]
theorem XB {G : List (List Int)} (g : GA c a b G (-1)) (k : Nat) (acc : List S59) :
    qm.l0 (k + 2) a b G acc a.size b.size c.ins c.del c.chg c.swp = some (acc,dd c a b 0 0,0):=by
  have g1:=g.rows 0 (by omega) (by omega)
  have r1:=g1.2 0 (by omega)
  have e1 : (qW G 0).length = b.size + 1:=g1.1
  have e2 : rd (qW G 0) 0 = dd c a b 0 0:=r1
  have:=g.len
  rw [qm.l0,if_neg (by omega),qm.j1,if_neg (by simp),if_pos (by omega),if_pos (by omega),e2]
theorem Qk (hc : c.Ok) (ha : a.size ≤ 60) (hb : b.size ≤ 60) {G : List (List Int)} (g : GA c a b G (-1)) {i j : Nat} (hi : i ≤ a.size) (hj : j ≤ b.size) (hij : i < a.size ∨ j < b.size) (acc : List S59) (hn : acc.length ≤ 1000) :
    (mt c a b 1 i j → ∀ k,qm.l0 (k + 2 + 2) a b G acc i j c.ins c.del c.chg c.swp = qm.l0 k a b G (acc ++ [opOf b 1 j]) ((i + 1 : Nat) : Int) ((j + 1 : Nat) : Int) c.ins c.del c.chg c.swp) ∧
    (¬ mt c a b 1 i j → mt c a b 2 i j → ∀ k,qm.l0 (k + 2 + 2 + 2) a b G acc i j c.ins c.del c.chg c.swp = qm.l0 k a b G (acc ++ [opOf b 2 j]) ((i + 1 : Nat) : Int) ((j + 1 : Nat) : Int) c.ins c.del c.chg c.swp) ∧
    (¬ mt c a b 1 i j → ¬ mt c a b 2 i j → mt c a b 3 i j → ∀ k,qm.l0 (k + 2 + 2 + 2 + 2) a b G acc i j c.ins c.del c.chg c.swp = qm.l0 k a b G (acc ++ [opOf b 3 j]) ((i + 2 : Nat) : Int) ((j + 2 : Nat) : Int) c.ins c.del c.chg c.swp) ∧
    (¬ mt c a b 1 i j → ¬ mt c a b 2 i j → ¬ mt c a b 3 i j → mt c a b 4 i j → ∀ k,qm.l0 (k + 2 + 2 + 2 + 2 + 2) a b G acc i j c.ins c.del c.chg c.swp = qm.l0 k a b G (acc ++ [opOf b 4 j]) ((i + 1 : Nat) : Int) ((j : Nat) : Int) c.ins c.del c.chg c.swp) ∧
    (¬ mt c a b 1 i j → ¬ mt c a b 2 i j → ¬ mt c a b 3 i j → ¬ mt c a b 4 i j → mt c a b 5 i j → ∀ k,qm.l0 (k + 2 + 2 + 2 + 2 + 2 + 2) a b G acc i j c.ins c.del c.chg c.swp = qm.l0 k a b G (acc ++ [opOf b 5 j]) ((i : Nat) : Int) ((j + 1 : Nat) : Int) c.ins c.del c.chg c.swp):=by
  have s:=fun (k : Nat) (kind : Int) h1 h5 => V4 hc ha hb g hi hj k acc hn kind h1 h5
  refine ⟨?_,?_,?_,?_,?_⟩
  · intro m1 k
    rw [Jf _ _ hij,(s _ 1 (by omega) (by omega)).1 m1];rfl
  · intro n1 m2 k
    rw [Jf _ _ hij,(s _ 1 (by omega) (by omega)).2 n1,show (1 + 1 : Int) = 2 from rfl,(s _ 2 (by omega) (by omega)).1 m2];rfl
  · intro n1 n2 m3 k
    rw [Jf _ _ hij,(s _ 1 (by omega) (by omega)).2 n1,show (1 + 1 : Int) = 2 from rfl,(s _ 2 (by omega) (by omega)).2 n2,show (2 + 1 : Int) = 3 from rfl,(s _ 3 (by omega) (by omega)).1 m3];rfl
  · intro n1 n2 n3 m4 k
    rw [Jf _ _ hij,(s _ 1 (by omega) (by omega)).2 n1,show (1 + 1 : Int) = 2 from rfl,(s _ 2 (by omega) (by omega)).2 n2,show (2 + 1 : Int) = 3 from rfl,(s _ 3 (by omega) (by omega)).2 n3,show (3 + 1 : Int) = 4 from rfl,(s _ 4 (by omega) (by omega)).1 m4];rfl
  · intro n1 n2 n3 n4 m5 k
    rw [Jf _ _ hij,(s _ 1 (by omega) (by omega)).2 n1,show (1 + 1 : Int) = 2 from rfl,(s _ 2 (by omega) (by omega)).2 n2,show (2 + 1 : Int) = 3 from rfl,(s _ 3 (by omega) (by omega)).2 n3,show (3 + 1 : Int) = 4 from rfl,(s _ 4 (by omega) (by omega)).2 n4,show (4 + 1 : Int) = 5 from rfl,(s _ 5 (by omega) (by omega)).1 m5];rfl
def cv (o : S38) : S59:=⟨o.f0,o.f1⟩
theorem mt1 (i j : Nat) : mt c a b 1 i j ↔ (i < a.size ∧ j < b.size ∧ bt a i = bt b j) ∧ 0 + dd c a b (i + 1) (j + 1) = dd c a b i j:=by
  show (decide (i < a.size ∧ j < b.size ∧ bt a i = bt b j) = true ∧ 0 + dd c a b (i + 1) (j + 1) = dd c a b i j) ↔ _
  rw [decide_eq_true_eq]
theorem mt2 (i j : Nat) : mt c a b 2 i j ↔ (i < a.size ∧ j < b.size ∧ ¬ bt a i = bt b j) ∧ c.chg + dd c a b (i + 1) (j + 1) = dd c a b i j:=by
  show (decide (i < a.size ∧ j < b.size ∧ ¬ bt a i = bt b j) = true ∧ c.chg + dd c a b (i + 1) (j + 1) = dd c a b i j) ↔ _
  rw [decide_eq_true_eq]
theorem mt3 (i j : Nat) : mt c a b 3 i j ↔ sw a b i j = true ∧ c.swp + dd c a b (i + 2) (j + 2) = dd c a b i j:=Iff.rfl
theorem mt4 (i j : Nat) : mt c a b 4 i j ↔ i < a.size ∧ c.del + dd c a b (i + 1) j = dd c a b i j:=by
  show (decide (i < a.size) = true ∧ c.del + dd c a b (i + 1) j = dd c a b i j) ↔ _
  rw [decide_eq_true_eq]
theorem mt5 (i j : Nat) : mt c a b 5 i j ↔ j < b.size ∧ c.ins + dd c a b i (j + 1) = dd c a b i j:=by
  show (decide (j < b.size) = true ∧ c.ins + dd c a b i (j + 1) = dd c a b i j) ↔ _
  rw [decide_eq_true_eq]
theorem Vp {i j : Nat} (h : ¬ (i + 1 < a.size ∧ j + 1 < b.size)) : sw a b i j = false:=by
  cases hs : sw a b i j with
  | false => rfl
  | true => exact absurd (xA hs) h
theorem Vg (hc : c.Ok) (ha : a.size ≤ 60) (hb : b.size ≤ 60) {G : List (List Int)} (g : GA c a b G (-1)) : ∀ (n i j : Nat) (acc : List S59),i ≤ a.size → j ≤ b.size → (a.size - i) + (b.size - j) ≤ n → acc.length + n ≤ 1000 →
    ∃ k,∀ m,qm.l0 (m + k) a b G acc i j c.ins c.del c.chg c.swp = some (acc ++ (pp c a b i j).map cv,dd c a b 0 0,0):=by
  intro n
  induction n with
  | zero =>
    intro i j acc hi hj hn hl
    have e1 : i = a.size:=by omega
    have e2 : j = b.size:=by omega
    subst e1;subst e2
    exact ⟨2,fun m => by rw [XB g,yS,List.map_nil,List.append_nil]⟩
  | succ n ih =>
    intro i j acc hi hj hn hl
    have la : ∀ o : S59,(acc ++ [o]).length + n ≤ 1000:=fun o => by rw [List.length_append];simp;omega
    have fin : ∀ (o : S38) (l : List S38),acc ++ [cv o] ++ l.map cv = acc ++ (o :: l).map cv:=fun o l => by rw [List.append_assoc];rfl
    by_cases h1 : i < a.size
    · by_cases h2 : j < b.size
      · obtain ⟨q1,q2,q3,q4,q5⟩:=Qk hc ha hb g hi hj (Or.inl h1) acc (by omega)
        have p:=xk c a b i j h1 h2
        by_cases m1 : mt c a b 1 i j
        · have w:=(mt1 i j).1 m1
          rw [if_pos ⟨w.1.2.2,by omega⟩] at p
          obtain ⟨k,hk⟩:=ih (i + 1) (j + 1) (acc ++ [opOf b 1 j]) (by omega) (by omega) (by omega) (la _)
          exact ⟨k + 2 + 2,fun m => by rw [← Nat.add_assoc,← Nat.add_assoc,q1 m1,hk,p,← fin];rfl⟩
        rw [if_neg (fun w => m1 ((mt1 i j).2 ⟨⟨h1,h2,w.1⟩,by omega⟩))] at p
        by_cases m2 : mt c a b 2 i j
        · have w:=(mt2 i j).1 m2
          rw [if_pos ⟨w.1.2.2,w.2⟩] at p
          obtain ⟨k,hk⟩:=ih (i + 1) (j + 1) (acc ++ [opOf b 2 j]) (by omega) (by omega) (by omega) (la _)
          exact ⟨k + 2 + 2 + 2,fun m => by rw [← Nat.add_assoc,← Nat.add_assoc,← Nat.add_assoc,q2 m1 m2,hk,p,← fin];rfl⟩
        rw [if_neg (fun w => m2 ((mt2 i j).2 ⟨⟨h1,h2,w.1⟩,w.2⟩))] at p
        by_cases m3 : mt c a b 3 i j
        · have w:=(mt3 i j).1 m3
          have sl:=xA w.1
          rw [if_pos w] at p
          obtain ⟨k,hk⟩:=ih (i + 2) (j + 2) (acc ++ [opOf b 3 j]) (by omega) (by omega) (by omega) (la _)
          exact ⟨k + 2 + 2 + 2 + 2,fun m => by rw [← Nat.add_assoc,← Nat.add_assoc,← Nat.add_assoc,← Nat.add_assoc,q3 m1 m2 m3,hk,p,← fin];rfl⟩
        rw [if_neg (fun w => m3 ((mt3 i j).2 w))] at p
        by_cases m4 : mt c a b 4 i j
        · have w:=(mt4 i j).1 m4
          rw [if_pos w.2] at p
          obtain ⟨k,hk⟩:=ih (i + 1) j (acc ++ [opOf b 4 j]) (by omega) (by omega) (by omega) (la _)
          exact ⟨k + 2 + 2 + 2 + 2 + 2,fun m => by rw [← Nat.add_assoc,← Nat.add_assoc,← Nat.add_assoc,← Nat.add_assoc,← Nat.add_assoc,q4 m1 m2 m3 m4,hk,p,← fin];rfl⟩
        rw [if_neg (fun w => m4 ((mt4 i j).2 ⟨h1,w⟩))] at p
        have m5 : mt c a b 5 i j:=by
          rw [mt5]
          rw [mt1] at m1;rw [mt2] at m2;rw [mt3] at m3;rw [mt4] at m4
          have s:=xy c a b i j h1 h2
          unfold Lb.one at s
          refine ⟨h2,?_⟩
          clear q1 q2 q3 q4 q5 p ih fin la hn hl
          generalize dd c a b (i + 1) (j + 1) = e1 at *
          generalize dd c a b (i + 2) (j + 2) = e2 at *
          generalize dd c a b (i + 1) j = e3 at *
          generalize dd c a b i (j + 1) = e4 at *
          generalize dd c a b i j = e0 at *
          by_cases hx : bt a i = bt b j
          · rw [if_pos hx] at s
            have n1 : ¬ e1 = e0:=fun e => m1 ⟨⟨h1,h2,hx⟩,by omega⟩
            cases hs : sw a b i j with
            | true =>
              have n3 : ¬ c.swp + e2 = e0:=fun e => m3 ⟨hs,e⟩
              rw [hs,if_pos rfl] at s;omega
            | false => rw [hs,if_neg (by simp)] at s;omega
          · rw [if_neg hx] at s
            have n1 : ¬ c.chg + e1 = e0:=fun e => m2 ⟨⟨h1,h2,hx⟩,e⟩
            cases hs : sw a b i j with
            | true =>
              have n3 : ¬ c.swp + e2 = e0:=fun e => m3 ⟨hs,e⟩
              rw [hs,if_pos rfl] at s;omega
            | false => rw [hs,if_neg (by simp)] at s;omega
        obtain ⟨k,hk⟩:=ih i (j + 1) (acc ++ [opOf b 5 j]) (by omega) (by omega) (by omega) (la _)
        exact ⟨k + 2 + 2 + 2 + 2 + 2 + 2,fun m => by rw [← Nat.add_assoc,← Nat.add_assoc,← Nat.add_assoc,← Nat.add_assoc,← Nat.add_assoc,← Nat.add_assoc,q5 m1 m2 m3 m4 m5,hk,p,← fin];rfl⟩
      · have e2 : j = b.size:=by omega
        subst e2
        obtain ⟨q1,q2,q3,q4,q5⟩:=Qk hc ha hb g hi hj (Or.inl h1) acc (by omega)
        have p:=JC c a b i h1
        have s:=yU c a b i h1
        have m1 : ¬ mt c a b 1 i b.size:=by rw [mt1];omega
        have m2 : ¬ mt c a b 2 i b.size:=by rw [mt2];omega
        have m3 : ¬ mt c a b 3 i b.size:=by rw [mt3,Vp (by omega)];simp
        have m4 : mt c a b 4 i b.size:=by rw [mt4];omega
        obtain ⟨k,hk⟩:=ih (i + 1) b.size (acc ++ [opOf b 4 b.size]) (by omega) (by omega) (by omega) (la _)
        exact ⟨k + 2 + 2 + 2 + 2 + 2,fun m => by rw [← Nat.add_assoc,← Nat.add_assoc,← Nat.add_assoc,← Nat.add_assoc,← Nat.add_assoc,q4 m1 m2 m3 m4,hk,p,← fin];rfl⟩
    · have e1 : i = a.size:=by omega
      subst e1
      by_cases h2 : j < b.size
      · obtain ⟨q1,q2,q3,q4,q5⟩:=Qk hc ha hb g hi hj (Or.inr h2) acc (by omega)
        have p:=JJ c a b j h2
        have s:=Qe c a b j h2
        have m1 : ¬ mt c a b 1 a.size j:=by rw [mt1];omega
        have m2 : ¬ mt c a b 2 a.size j:=by rw [mt2];omega
        have m3 : ¬ mt c a b 3 a.size j:=by rw [mt3,Vp (by omega)];simp
        have m4 : ¬ mt c a b 4 a.size j:=by rw [mt4];omega
        have m5 : mt c a b 5 a.size j:=by rw [mt5];omega
        obtain ⟨k,hk⟩:=ih a.size (j + 1) (acc ++ [opOf b 5 j]) (by omega) (by omega) (by omega) (la _)
        exact ⟨k + 2 + 2 + 2 + 2 + 2 + 2,fun m => by rw [← Nat.add_assoc,← Nat.add_assoc,← Nat.add_assoc,← Nat.add_assoc,← Nat.add_assoc,← Nat.add_assoc,q5 m1 m2 m3 m4 m5,hk,p,← fin];rfl⟩
      · have e2 : j = b.size:=by omega
        subst e2
        exact ⟨2,fun m => by rw [XB g,yS,List.map_nil,List.append_nil]⟩
end
end Go.Proofs.Ytdefecnngccmoaa.Ed
namespace Go.Proofs.Ytdefecnngccmoaa.Ed
open Go.RowKit Go.Proofs.YtdefecnngccmoaaW.PrintWords QTells
def Qd (c : Lb.Cst) (k : Int) : Int:=if k = 1 then 0 else if k = 2 then c.chg else if k = 3 then c.swp else if k = 4 then c.del else c.ins
def kindOk (k : Int) : Bool:=decide (1 ≤ k) && decide (k ≤ 5)
def sumK (c : Lb.Cst) : List S38 → Int
  | [] => 0
  | o :: l => Qd c o.f0 + sumK c l
def yR (c : Lb.Cst) (l : List S38) : Int × Int:=if l.all (fun o => kindOk o.f0) = true then (sumK c l,0) else (0,60)
def ZH (l : List S38) (c0 c1 c2 c3 : Int) : Int × Int :=
  if zl c0 c1 c2 c3 = true then (if (l.length : Int) > 120 then (0,3) else yR ⟨c0,c1,c2,c3⟩ l) else (0,2)
theorem Q9 {c : Lb.Cst} (h : c.Ok) (k : Int) : 0 ≤ Qd c k ∧ Qd c k ≤ 1000:=by
  have:=h.i1;have:=h.i2;have:=h.d1;have:=h.d2;have:=h.c1;have:=h.c2;have:=h.s1;have:=h.s2
  unfold Qd
  repeat' split
  all_goals omega
theorem yt (c : Lb.Cst) : ∀ l m : List S38,sumK c (l ++ m) = sumK c l + sumK c m
  | [],m => by simp [sumK]
  | o :: l,m => by simp only [List.cons_append,sumK,yt c l m];omega
theorem Za {c : Lb.Cst} (h : c.Ok) : ∀ l : List S38,0 ≤ sumK c l ∧ sumK c l ≤ 1000 * l.length
  | [] => by simp [sumK]
  | o :: l => by have:=Q9 h o.f0;have:=Za h l;simp only [sumK,List.length_cons];omega
theorem ZT (l : List S38) (k : Nat) (h : k < l.length) : l.take (k + 1) = l.take k ++ [qJ l (k : Int)]:=by
  rw [List.take_succ_eq_append_getElem h]
  simp [qJ,h]
def by6 (c : Lb.Cst) : Array Value:=#[.int .i64 0,.int .i64 0,.int .i64 c.chg,.int .i64 c.swp,.int .i64 c.del,.int .i64 c.ins]
theorem Vr (c : Lb.Cst) (k : Int) (h : 1 ≤ k) (h' : k ≤ 5) : (by6 c)[k.toNat]? = some (.int .i64 (Qd c k)):=by
  have : k = 1 ∨ k = 2 ∨ k = 3 ∨ k = 4 ∨ k = 5:=by omega
  rcases this with rfl|rfl|rfl|rfl|rfl <;> rfl
set_option maxRecDepth 1000000 in
set_option maxHeartbeats 4000000 in
theorem XL (A0 : Option Addr) (cap : Nat) (l : List S38) (c0 c1 c2 c3 : Int) (w : World) (hr0 : Kd.C k38 w A0 l.length l) (hc0 : l.length ≤ cap) (hc : zl c0 c1 c2 c3 = true) (hl : l.length ≤ 120) :
    Calls Try.prog 17 #[.slice A0 l.length cap,.agg #[.int .i64 c0,.int .i64 c1,.int .i64 c2,.int .i64 c3]] w fun e w' => e = .returned (.tuple #[.int .i64 (yR ⟨c0,c1,c2,c3⟩ l).1,.int .i64 (yR ⟨c0,c1,c2,c3⟩ l).2]) ∧ Below w.heap.size w w':=by
  have hOk : Lb.Cst.Ok ⟨c0,c1,c2,c3⟩:=by
    simp only [zl,okc,Bool.and_eq_true,decide_eq_true_eq] at hc
    obtain ⟨⟨i1,i2⟩,⟨d1,d2⟩,⟨e1,e2⟩,s1,s2⟩:=hc
    exact ⟨i1,i2,d1,d2,e1,e2,s1,s2⟩
  have HC:=Lib.hid hc
  clear hc
  go_enter Try.func17,Try.ntmps17
  go_wp2_with fail
  refine (xM c0 c1 c2 c3 _).mono ?_
  rw [HC.out]
  rintro e w1 ⟨rfl,hB1⟩
  have k0 : w1.cell? ⟨w.heap.size,0,none⟩ = some (.int .i64 c0):=(qi ((hB1.block _ (by simp)).trans (jc w _)) 0).trans rfl
  have k1 : w1.cell? ⟨w.heap.size,1,none⟩ = some (.int .i64 c1):=(qi ((hB1.block _ (by simp)).trans (jc w _)) 1).trans rfl
  have k2 : w1.cell? ⟨w.heap.size,2,none⟩ = some (.int .i64 c2):=(qi ((hB1.block _ (by simp)).trans (jc w _)) 2).trans rfl
  have k3 : w1.cell? ⟨w.heap.size,3,none⟩ = some (.int .i64 c3):=(qi ((hB1.block _ (by simp)).trans (jc w _)) 3).trans rfl
  have hBB : Below w.heap.size w w1:=((Below.refl _ w).alloc (Nat.le_refl _) _).trans (hB1.mono (by simp))
  clear hB1
  have hl2 : (l.length : Int) ≤ 120:=by omega
  go_wp2
  have hz:=jc w1 (.cells (by6 ⟨c0,c1,c2,c3⟩) 36)
  have hb2:=hBB.alloc hBB.size (.cells (by6 ⟨c0,c1,c2,c3⟩) 36)
  have hge : w.heap.size ≤ w1.heap.size:=hBB.size
  go_loopw [7,27] (fun s v W => ∃ k : Nat,k ≤ l.length ∧ v = .int .i64 (k : Int) ∧ s = .int .i64 (sumK ⟨c0,c1,c2,c3⟩ (l.take k)) ∧ (l.take k).all (fun o => kindOk o.f0) = true ∧ Below w.heap.size w W ∧ W.heap[w1.heap.size]? = some (.cells (by6 ⟨c0,c1,c2,c3⟩) 36 (0,0))) (fun _ v _ => l.length - (intOf v).toNat)
  case atStart => exact ⟨0,Nat.zero_le _,rfl,rfl,rfl,hb2,hz⟩
  case round =>
    obtain ⟨k,hk,rfl,rfl,hall,hb,hz6⟩:=hrel
    clear hz hb2 hBB k0 k1 k2 k3
    have hs:=Za hOk (l.take k)
    have hsl : (l.take k).length ≤ 120:=by rw [List.length_take];omega
    have HA:=Lib.hid hall
    clear hall
    by_cases hkl : k < l.length
    · obtain ⟨ad,hA,hx0,hx1⟩:=vD (Kd.xS hr0 hb) (k : Int) (by omega) (by omega)
      simp only [Int.toNat_natCast] at hx0 hx1
      have ht:=ZT l k hkl
      generalize qJ l (k : Int) = o at *
      have hsum : sumK ⟨c0,c1,c2,c3⟩ (l.take (k + 1)) = sumK ⟨c0,c1,c2,c3⟩ (l.take k) + Qd ⟨c0,c1,c2,c3⟩ o.f0:=by rw [ht,yt];simp [sumK]
      have hck:=Q9 hOk o.f0
      have HS:=Lib.hid hsum
      have HT:=Lib.hid ht
      have Hz:=Lib.hid hz6
      clear hsum ht hz6
      subst hA
      generalize sumK ⟨c0,c1,c2,c3⟩ (l.take k) = s at *
      have kk : (k : Int) < (l.length : Int):=by omega
      by_cases hko : 1 ≤ o.f0 ∧ o.f0 ≤ 5
      · obtain ⟨g1,g5⟩:=hko
        have gc:=(qi (qw Hz.out (.cells #[.int .u8 o.f0,.int .u8 o.f1] 38)) o.f0.toNat).trans (Vr ⟨c0,c1,c2,c3⟩ o.f0 g1 g5)
        generalize Qd ⟨c0,c1,c2,c3⟩ o.f0 = q at *
        go_wp2
        go_roundw
        case rel => exact ⟨k + 1,hkl,by go_num,by rw [HS.out],by rw [HT.out,List.all_append,HA.out];simp [kindOk,g1,g5],hb.alloc hb.size _,qw Hz.out _⟩
        case measure => simp [intOf];omega
      · have HF : Hid (l.all (fun o => kindOk o.f0) = false):=by
          have hm : o ∈ l:=by
            have : o ∈ l.take (k + 1):=by rw [HT.out];simp
            exact List.mem_of_mem_take this
          have hko2 : kindOk o.f0 = false:=by unfold kindOk;rw [Bool.and_eq_false_iff];simp;omega
          rw [List.all_eq_false]
          exact ⟨o,hm,by simp [hko2]⟩
        have HP : Hid (yR ⟨c0,c1,c2,c3⟩ l = (0,60)):=by unfold yR;rw [HF.out];rfl
        have g2 : o.f0 < 1 ∨ 5 < o.f0:=by omega
        clear HF hko HT HS hck hsl hs HA
        rcases g2 with g1|g2
        · go_wp2
          go_ret2
          rw [HP.out]
          exact ⟨rfl,hb.alloc hb.size _⟩
        · have g1 : ¬ o.f0 < 1:=by omega
          go_wp2
          go_ret2
          rw [HP.out]
          exact ⟨rfl,hb.alloc hb.size _⟩
    · obtain rfl : k = l.length:=by omega
      rw [List.take_length] at HA
      have HP : Hid (yR ⟨c0,c1,c2,c3⟩ l = (sumK ⟨c0,c1,c2,c3⟩ (l.take l.length),0)):=by unfold yR;rw [HA.out,List.take_length];rfl
      generalize sumK ⟨c0,c1,c2,c3⟩ (l.take l.length) = s at *
      go_wp2
      go_ret2
      rw [HP.out]
      exact ⟨rfl,hb⟩
set_option maxRecDepth 1000000 in
set_option maxHeartbeats 4000000 in
theorem ZV (A0 : Option Addr) (cap : Nat) (l : List S38) (c0 c1 c2 c3 : Int) (w : World) (hc : zl c0 c1 c2 c3 = false) :
    Calls Try.prog 17 #[.slice A0 l.length cap,.agg #[.int .i64 c0,.int .i64 c1,.int .i64 c2,.int .i64 c3]] w fun e w' => e = .returned (.tuple #[.int .i64 0,.int .i64 2]) ∧ Below w.heap.size w w':=by
  have HC:=Lib.hid hc
  clear hc
  go_enter Try.func17,Try.ntmps17
  go_wp2_with fail
  refine (xM c0 c1 c2 c3 _).mono ?_
  rw [HC.out]
  rintro e w1 ⟨rfl,hB1⟩
  go_wp2
  go_ret2
  exact ⟨rfl,((Below.refl _ w).alloc (Nat.le_refl _) _).trans (hB1.mono (by simp))⟩
set_option maxRecDepth 1000000 in
set_option maxHeartbeats 4000000 in
theorem Zh (A0 : Option Addr) (cap : Nat) (l : List S38) (c0 c1 c2 c3 : Int) (w : World) (hc : zl c0 c1 c2 c3 = true) (hl : 120 < (l.length : Int)) :
    Calls Try.prog 17 #[.slice A0 l.length cap,.agg #[.int .i64 c0,.int .i64 c1,.int .i64 c2,.int .i64 c3]] w fun e w' => e = .returned (.tuple #[.int .i64 0,.int .i64 3]) ∧ Below w.heap.size w w':=by
  have HC:=Lib.hid hc
  clear hc
  go_enter Try.func17,Try.ntmps17
  go_wp2_with fail
  refine (xM c0 c1 c2 c3 _).mono ?_
  rw [HC.out]
  rintro e w1 ⟨rfl,hB1⟩
  go_wp2
  go_ret2
  exact ⟨rfl,((Below.refl _ w).alloc (Nat.le_refl _) _).trans (hB1.mono (by simp))⟩
theorem VA (A0 : Option Addr) (cap : Nat) (l : List S38) (c0 c1 c2 c3 : Int) (w : World) (hr0 : Kd.C k38 w A0 l.length l) (hc0 : l.length ≤ cap) :
    Calls Try.prog 17 #[.slice A0 l.length cap,.agg #[.int .i64 c0,.int .i64 c1,.int .i64 c2,.int .i64 c3]] w fun e w' => e = .returned (.tuple #[.int .i64 (ZH l c0 c1 c2 c3).1,.int .i64 (ZH l c0 c1 c2 c3).2]) ∧ Below w.heap.size w w':=by
  unfold ZH
  cases hc : zl c0 c1 c2 c3 with
  | false => exact ZV A0 cap l c0 c1 c2 c3 w hc
  | true =>
    rw [if_pos rfl]
    by_cases hl : (l.length : Int) > 120
    · rw [if_pos hl];exact Zh A0 cap l c0 c1 c2 c3 w hc hl
    · rw [if_neg hl]
      exact XL A0 cap l c0 c1 c2 c3 w hr0 hc0 hc (by omega)
end Go.Proofs.Ytdefecnngccmoaa.Ed
namespace Go.Proofs.Ytdefecnngccmoaa.Ed
open Go.RowKit Go.Proofs.YtdefecnngccmoaaW.PrintWords QTells
def zF : List Int → List Int → List S38
  | _,[] => []
  | [],k :: l => ⟨k,0⟩ :: zF [] l
  | b :: bs,k :: l => if k = 2 ∨ k = 5 then ⟨k,b⟩ :: zF bs l else ⟨k,0⟩ :: zF (b :: bs) l
def Kh (l : List S38) (w : World) (e : Ending) (w' : World) : Prop:=∃ v,e = .returned v ∧ Kd.R k38 38 w' w.heap.size (fun _ => True) v l ∧ Below w.heap.size w w'
theorem Jk (l : List Int) (k : Nat) (h : k < l.length) : l.drop k = rd l k :: l.drop (k + 1):=by
  rw [List.drop_eq_getElem_cons h];simp [rd,h]
theorem yT (s : ByteArray) (h : 0 < s.size) : bytesOf s = bt s 0 :: bytesOf (s.extract 1 s.size):=by
  have e:=jK s 0 h
  rw [List.drop_zero] at e
  rw [zL];exact e
theorem Qp (s : ByteArray) (h : s.size = 0) : bytesOf s = []:=List.eq_nil_of_length_eq_zero (by rw [bytesOf_length];exact h)
theorem Jo (bs : List Int) : zF bs [] = []:=by cases bs <;> rfl
theorem Zq (bs : List Int) (k : Int) (l : List Int) (h : ¬ (k = 2 ∨ k = 5)) : zF bs (k :: l) = ⟨k,0⟩ :: zF bs l:=by
  cases bs with
  | nil => rfl
  | cons b bs => simp only [zF];rw [if_neg h]
set_option maxRecDepth 1000000 in
set_option maxHeartbeats 8000000 in
theorem Zw (s0 : ByteArray) (A : Option Addr) (cap : Nat) (l : List Int) (w : World) (hr : Kd.C (Kd.int .u8) w A l.length l) (hl : l.length ≤ 1000) :
    Calls Try.prog 20 #[.string s0,.slice A l.length cap] w (Kh (zF (bytesOf s0) l) w):=by
  go_enter Try.func20,Try.ntmps20
  go_wp2
  go_loopw [0,5,6] (fun x v y W => ∃ (k : Nat) (s : ByteArray) (acc : List S38),x = .string s ∧ y = .int .i64 (k : Int) ∧ k ≤ l.length ∧ acc.length = k ∧ Kd.R k38 38 W w.heap.size (fun _ => True) v acc ∧ Below w.heap.size w W ∧ acc ++ zF (bytesOf s) (l.drop k) = zF (bytesOf s0) l) (fun _ _ y _ => l.length - (intOf y).toNat)
  case atStart => exact ⟨0,s0,[],rfl,rfl,Nat.zero_le _,rfl,Kd.kz _ _ _ _ _,Below.refl _ _,rfl⟩
  case round =>
    obtain ⟨k,s,acc,rfl,rfl,hk,hn,hR,hB,hA⟩:=hrel
    have HA:=Lib.hid hA
    have HN:=Lib.hid hn
    clear hA hn
    by_cases hkl : k < l.length
    · obtain ⟨ad,e0,hx⟩:=Kd.vK (Kd.xS hr hB) (k : Int) (by omega) (by omega)
      subst e0
      simp only [Int.toNat_natCast] at hx
      have HD:=Lib.hid (Jk l k hkl)
      generalize rd l (k : Int) = x at *
      have kk : (k : Int) < (l.length : Int):=by omega
      have hx2:=xJ ((Below.refl wr.heap.size wr).alloc (Nat.le_refl _) (.cells #[.int .u8 x,.int .u8 0] 38)) hx
      clear hr
      by_cases h2 : x = 2
      · have b2 : (x == 2) = true:=beq_iff_eq.2 h2
        have H2:=Lib.hid h2
        by_cases hs : 0 < s.size
        · skip
          have z1 : s.toList.isEmpty = false:=by rw [Lib.toList_data];have:=zZ s;cases h : s.data.toList with
            | nil => rw [h] at this;simp at this;omega
            | cons _ _ => rfl
          have z2 : (!s.toList.isEmpty) = true:=by rw [z1];rfl
          have z3 : 0 < (s.size : Int):=by omega
          have z4 : ∀ h : 0 < s.size,((s[0]'h).toNat : Int) = bt s 0:=jI s 0
          have HK:=Lib.hid (show zF (bytesOf s) (x :: l.drop (k + 1)) = ⟨x,bt s 0⟩ :: zF (bytesOf (s.extract 1 s.size)) (l.drop (k + 1)) by rw [yT s hs];simp only [zF];rw [if_pos (by omega)])
          try clear h2
          try clear h5
          go_wp2_with (at_builtin;refine Kd.zo k38 (w0:=w) w.heap.size rfl (.tmp 40) (.tmp 42) 33 38 (.agg #[(.int .u8 0),(.int .u8 0)]) 2 rfl Try.underlying33 vo rfl (by decide) (by omega) _ acc (⟨x,(bt s 0)⟩ : S38) [.int .u8 x,.int .u8 (bt s 0)] (fun _ => True) (fun _ => False) rfl (by first|(go_simp;done)|rfl) (xC _ _ _ _) (fun _ h => h.elim) (fun _ _ => trivial) (Kd.qy hR _) (hB.alloc hB.size _) (hB.alloc hB.size _).size (by have:=HN.out;omega) ?_;intro v1 w1 HO1 HB1 hg1 _)
          go_roundw
          case rel => exact ⟨k + 1,s.extract 1 s.size,acc ++ [⟨x,(bt s 0)⟩],rfl,by go_num,hkl,by rw [List.length_append,HN.out];rfl,HO1,HB1,by rw [List.append_assoc,← HA.out,HD.out];exact congrArg (acc ++ ·) (HK.out).symm⟩
          case measure => simp [intOf];omega
        · skip
          have z0 : s.toList.isEmpty = true:=by rw [Lib.toList_data];have:=zZ s;cases h : s.data.toList with
            | nil => rfl
            | cons _ _ => rw [h] at this;simp at this;omega
          have z2 : (!s.toList.isEmpty) = false:=by rw [z0];rfl
          have z1 : s.toList = []:=List.isEmpty_iff.1 z0
          have HK:=Lib.hid (show zF (bytesOf s) (x :: l.drop (k + 1)) = ⟨x,0⟩ :: zF (bytesOf s) (l.drop (k + 1)) by rw [Qp s (by omega)];rfl)
          try clear h2
          try clear h5
          go_wp2_with (at_builtin;refine Kd.zo k38 (w0:=w) w.heap.size rfl (.tmp 40) (.tmp 42) 33 38 (.agg #[(.int .u8 0),(.int .u8 0)]) 2 rfl Try.underlying33 vo rfl (by decide) (by omega) _ acc (⟨x,0⟩ : S38) [.int .u8 x,.int .u8 0] (fun _ => True) (fun _ => False) rfl (by first|(go_simp;done)|rfl) (xC _ _ _ _) (fun _ h => h.elim) (fun _ _ => trivial) (Kd.qy hR _) (hB.alloc hB.size _) (hB.alloc hB.size _).size (by have:=HN.out;omega) ?_;intro v1 w1 HO1 HB1 hg1 _)
          go_roundw
          case rel => exact ⟨k + 1,s,acc ++ [⟨x,0⟩],rfl,by go_num,hkl,by rw [List.length_append,HN.out];rfl,HO1,HB1,by rw [List.append_assoc,← HA.out,HD.out];exact congrArg (acc ++ ·) (HK.out).symm⟩
          case measure => simp [intOf];omega
      · have b2 : (x == 2) = false:=beq_eq_false_iff_ne.2 h2
        by_cases h5 : x = 5
        · have b5 : (x == 5) = true:=beq_iff_eq.2 h5
          by_cases hs : 0 < s.size
          · skip
            have z1 : s.toList.isEmpty = false:=by rw [Lib.toList_data];have:=zZ s;cases h : s.data.toList with
              | nil => rw [h] at this;simp at this;omega
              | cons _ _ => rfl
            have z2 : (!s.toList.isEmpty) = true:=by rw [z1];rfl
            have z3 : 0 < (s.size : Int):=by omega
            have z4 : ∀ h : 0 < s.size,((s[0]'h).toNat : Int) = bt s 0:=jI s 0
            have HK:=Lib.hid (show zF (bytesOf s) (x :: l.drop (k + 1)) = ⟨x,bt s 0⟩ :: zF (bytesOf (s.extract 1 s.size)) (l.drop (k + 1)) by rw [yT s hs];simp only [zF];rw [if_pos (by omega)])
            try clear h2
            try clear h5
            go_wp2_with (at_builtin;refine Kd.zo k38 (w0:=w) w.heap.size rfl (.tmp 40) (.tmp 42) 33 38 (.agg #[(.int .u8 0),(.int .u8 0)]) 2 rfl Try.underlying33 vo rfl (by decide) (by omega) _ acc (⟨x,(bt s 0)⟩ : S38) [.int .u8 x,.int .u8 (bt s 0)] (fun _ => True) (fun _ => False) rfl (by first|(go_simp;done)|rfl) (xC _ _ _ _) (fun _ h => h.elim) (fun _ _ => trivial) (Kd.qy hR _) (hB.alloc hB.size _) (hB.alloc hB.size _).size (by have:=HN.out;omega) ?_;intro v1 w1 HO1 HB1 hg1 _)
            go_roundw
            case rel => exact ⟨k + 1,s.extract 1 s.size,acc ++ [⟨x,(bt s 0)⟩],rfl,by go_num,hkl,by rw [List.length_append,HN.out];rfl,HO1,HB1,by rw [List.append_assoc,← HA.out,HD.out];exact congrArg (acc ++ ·) (HK.out).symm⟩
            case measure => simp [intOf];omega
          · skip
            have z0 : s.toList.isEmpty = true:=by rw [Lib.toList_data];have:=zZ s;cases h : s.data.toList with
              | nil => rfl
              | cons _ _ => rw [h] at this;simp at this;omega
            have z2 : (!s.toList.isEmpty) = false:=by rw [z0];rfl
            have z1 : s.toList = []:=List.isEmpty_iff.1 z0
            have HK:=Lib.hid (show zF (bytesOf s) (x :: l.drop (k + 1)) = ⟨x,0⟩ :: zF (bytesOf s) (l.drop (k + 1)) by rw [Qp s (by omega)];rfl)
            try clear h2
            try clear h5
            go_wp2_with (at_builtin;refine Kd.zo k38 (w0:=w) w.heap.size rfl (.tmp 40) (.tmp 42) 33 38 (.agg #[(.int .u8 0),(.int .u8 0)]) 2 rfl Try.underlying33 vo rfl (by decide) (by omega) _ acc (⟨x,0⟩ : S38) [.int .u8 x,.int .u8 0] (fun _ => True) (fun _ => False) rfl (by first|(go_simp;done)|rfl) (xC _ _ _ _) (fun _ h => h.elim) (fun _ _ => trivial) (Kd.qy hR _) (hB.alloc hB.size _) (hB.alloc hB.size _).size (by have:=HN.out;omega) ?_;intro v1 w1 HO1 HB1 hg1 _)
            go_roundw
            case rel => exact ⟨k + 1,s,acc ++ [⟨x,0⟩],rfl,by go_num,hkl,by rw [List.length_append,HN.out];rfl,HO1,HB1,by rw [List.append_assoc,← HA.out,HD.out];exact congrArg (acc ++ ·) (HK.out).symm⟩
            case measure => simp [intOf];omega
        · have b5 : (x == 5) = false:=beq_eq_false_iff_ne.2 h5
          have HK:=Lib.hid (Zq (bytesOf s) x (l.drop (k + 1)) (by omega))
          try clear h2
          try clear h5
          go_wp2_with (at_builtin;refine Kd.zo k38 (w0:=w) w.heap.size rfl (.tmp 40) (.tmp 42) 33 38 (.agg #[(.int .u8 0),(.int .u8 0)]) 2 rfl Try.underlying33 vo rfl (by decide) (by omega) _ acc (⟨x,0⟩ : S38) [.int .u8 x,.int .u8 0] (fun _ => True) (fun _ => False) rfl (by first|(go_simp;done)|rfl) (xC _ _ _ _) (fun _ h => h.elim) (fun _ _ => trivial) (Kd.qy hR _) (hB.alloc hB.size _) (hB.alloc hB.size _).size (by have:=HN.out;omega) ?_;intro v1 w1 HO1 HB1 hg1 _)
          go_roundw
          case rel => exact ⟨k + 1,s,acc ++ [⟨x,0⟩],rfl,by go_num,hkl,by rw [List.length_append,HN.out];rfl,HO1,HB1,by rw [List.append_assoc,← HA.out,HD.out];exact congrArg (acc ++ ·) (HK.out).symm⟩
          case measure => simp [intOf];omega
    · obtain rfl : k = l.length:=by omega
      have HE : Hid (acc = zF (bytesOf s0) l):=by
        have e:=HA.out
        rw [List.drop_length,Jo,List.append_nil] at e
        exact e
      clear HA HN
      go_wp2
      go_ret
      exact ⟨_,rfl,HE.out ▸ hR,hB⟩
end Go.Proofs.Ytdefecnngccmoaa.Ed
namespace Go.Proofs.Ytdefecnngccmoaa.QTells
open Go.RowKit Go.Proofs.YtdefecnngccmoaaW.PrintWords Go.Proofs.YtdefecnngccmoaaW.PrintLast Go.Proofs.YtdefecnngccmoaaW.PrintMore
attribute [local go_sem] jX jV zk zi jM jN jU jY
set_option linter.unusedVariables false
set_option linter.unusedSimpArgs false
open Go.Proofs.Ytdefecnngccmoaa.Ed
def jH.f (a0_0 : Int) (a0_1 : Int) (a0_2 : Int) (a0_3 : Int) : Option Bool:=some (zl a0_0 a0_1 a0_2 a0_3)
theorem jH.calls (a0_0 : Int) (a0_1 : Int) (a0_2 : Int) (a0_3 : Int) (r : Bool) (w : World) (h : jH.f a0_0 a0_1 a0_2 a0_3 = some r) :
  Calls Try.prog 11 #[.agg #[.int .i64 a0_0,.int .i64 a0_1,.int .i64 a0_2,.int .i64 a0_3]] w fun e w' => e = .returned (.bool r) ∧ Below w.heap.size w w':=by
 obtain rfl:=Option.some.inj h
 exact xM a0_0 a0_1 a0_2 a0_3 w
end Go.Proofs.Ytdefecnngccmoaa.QTells
namespace Go.Proofs.Ytdefecnngccmoaa.QTells
open Go.RowKit Go.Proofs.YtdefecnngccmoaaW.PrintWords Go.Proofs.YtdefecnngccmoaaW.PrintLast Go.Proofs.YtdefecnngccmoaaW.PrintMore
attribute [local go_sem] jX jV zk zi jM jN jU jY
set_option linter.unusedVariables false
set_option linter.unusedSimpArgs false
open Go.Proofs.Ytdefecnngccmoaa.Ed
def jr.f (a0 : ByteArray) (a1 : ByteArray) (a2_0 : Int) (a2_1 : Int) (a2_2 : Int) (a2_3 : Int) : Option (Int × Int):=some (zQ a0 a1 a2_0 a2_1 a2_2 a2_3)
theorem jr.calls (a0 : ByteArray) (a1 : ByteArray) (a2_0 : Int) (a2_1 : Int) (a2_2 : Int) (a2_3 : Int) (r1 : Int) (r2 : Int) (w : World) (h : jr.f a0 a1 a2_0 a2_1 a2_2 a2_3 = some (r1,r2)) :
  Calls Try.prog 12 #[.string a0,.string a1,.agg #[.int .i64 a2_0,.int .i64 a2_1,.int .i64 a2_2,.int .i64 a2_3]] w fun e w' => e = .returned (.tuple #[.int .i64 r1,.int .i64 r2]) ∧ Below w.heap.size w w':=by
 have h':=Option.some.inj h
 have e:=Qa a0 a1 a2_0 a2_1 a2_2 a2_3 w
 rw [h'] at e
 exact e
end Go.Proofs.Ytdefecnngccmoaa.QTells
namespace Go.Proofs.Ytdefecnngccmoaa.QTells
open Go.RowKit Go.Proofs.YtdefecnngccmoaaW.PrintWords Go.Proofs.YtdefecnngccmoaaW.PrintLast Go.Proofs.YtdefecnngccmoaaW.PrintMore
attribute [local go_sem] jX jV zk zi jM jN jU jY
set_option linter.unusedVariables false
set_option linter.unusedSimpArgs false
open Go.Proofs.Ytdefecnngccmoaa.Ed
def zI.f (a0 : ByteArray) (a1 : ByteArray) (a2_0 : Int) (a2_1 : Int) (a2_2 : Int) (a2_3 : Int) : Option (List S38 × Int × Int):=some (xc a0 a1 a2_0 a2_1 a2_2 a2_3,zQ a0 a1 a2_0 a2_1 a2_2 a2_3)
theorem zI.calls (a0 : ByteArray) (a1 : ByteArray) (a2_0 : Int) (a2_1 : Int) (a2_2 : Int) (a2_3 : Int) (r1 : List (S38)) (r2 : Int) (r3 : Int) (w : World) (h : zI.f a0 a1 a2_0 a2_1 a2_2 a2_3 = some (r1,r2,r3)) :
  Calls Try.prog 14 #[.string a0,.string a1,.agg #[.int .i64 a2_0,.int .i64 a2_1,.int .i64 a2_2,.int .i64 a2_3]] w fun e w' => ∃ v0_ : Value,e = .returned (.tuple #[v0_,.int .i64 r2,.int .i64 r3]) ∧ Kd.R k38 38 w' w.heap.size (fun _ => True) v0_ r1 ∧ Below w.heap.size w w':=by
 have h':=Option.some.inj h
 obtain ⟨rfl,h2⟩:=Prod.mk.inj h'
 have e:=Jp a0 a1 a2_0 a2_1 a2_2 a2_3 w
 rw [h2] at e
 exact e
end Go.Proofs.Ytdefecnngccmoaa.QTells
namespace Go.Proofs.Ytdefecnngccmoaa.QTells
open Go.RowKit Go.Proofs.YtdefecnngccmoaaW.PrintWords Go.Proofs.YtdefecnngccmoaaW.PrintLast Go.Proofs.YtdefecnngccmoaaW.PrintMore
attribute [local go_sem] jX jV zk zi jM jN jU jY
set_option linter.unusedVariables false
set_option linter.unusedSimpArgs false
open Go.Proofs.Ytdefecnngccmoaa.Ed
def jE.f (a0 : ByteArray) (a1 : ByteArray) (a2_0 : Int) (a2_1 : Int) (a2_2 : Int) (a2_3 : Int) (a3 : Int) : Option (Int × Bool × Int):=(jr.f a0 a1 a2_0 a2_1 a2_2 a2_3).bind fun bt120 => (if bt120.2 = 0 then (if bt120.1 > a3 then (some (0,false,bt120.2)) else (some (bt120.1,true,0))) else (some (0,false,bt120.2)))
set_option maxHeartbeats 8000000 in
set_option maxRecDepth 100000 in
theorem jE.calls (a0 : ByteArray) (a1 : ByteArray) (a2_0 : Int) (a2_1 : Int) (a2_2 : Int) (a2_3 : Int) (a3 : Int) (r1 : Int) (r2 : Bool) (r3 : Int) (w : World) (h : jE.f a0 a1 a2_0 a2_1 a2_2 a2_3 a3 = some (r1,r2,r3)) :
  Calls Try.prog 19 #[.string a0,.string a1,.agg #[.int .i64 a2_0,.int .i64 a2_1,.int .i64 a2_2,.int .i64 a2_3],.int .i64 a3] w fun e w' => e = .returned (.tuple #[.int .i64 r1,.bool r2,.int .i64 r3]) ∧ Below w.heap.size w w':=by
 have hu23:=Try.underlying23
 have HB:=qd.mk (Below.refl w.heap.size w)
 have H : ((jr.f a0 a1 a2_0 a2_1 a2_2 a2_3).bind fun bt120 => (if bt120.2 = 0 then (if bt120.1 > a3 then (some (0,false,bt120.2)) else (some (bt120.1,true,0))) else (some (0,false,bt120.2)))) = some (r1,r2,r3):=h
 clear h
 replace H:=Option.bind_eq_some_iff.mp H
 obtain ⟨⟨t120,t121⟩,A50,H⟩:=H
 replace H : (if t121 = 0 then (if t120 > a3 then (some (0,false,t121)) else (some (t120,true,0))) else (some (0,false,t121))) = some (r1,r2,r3):=H
 have A5:=qd.mk A50
 clear A50
 by_cases c6 : t121 = 0
 ·rw [if_pos c6] at H
  have c6b0 : (t121 == 0) = true:=beq_iff_eq.mpr c6
  have c6b1 : (t121 != 0) = false:=bne_eq_false_iff_eq.mpr c6
  clear c6
  by_cases c7 : t120 > a3
  ·rw [if_pos c7] at H
   have c7b0 : decide (a3 < t120) = true:=decide_eq_true c7
   clear c7
   simp only [Option.some.injEq,Prod.mk.injEq] at H
   obtain ⟨rfl,rfl,rfl⟩:=H
   go_enter Try.func19,Try.ntmps19
   go_wp2_with (first|((with_reducible refine ji (N:=6) rfl ?_);refine jg ?hg (N:=6) ?hd (cs:=#[.int .i64 a2_0,.int .i64 a2_1,.int .i64 a2_2,.int .i64 a2_3]) (t:=23) ?hr ?_;(case hd => rfl);(case hg => rfl);(case hr => first|(go_simp;done)|(go_simp;rfl));intro gb119 hg w8 hbox hb;have n0_:=qd.mk (qI (by repeat (first|(with_reducible first|exact HB.out|apply qg|apply qc|apply qf)|exact HB.out)) hb);have n1_:=qd.mk (hbox);have n2_:=qd.mk ((by rw [hg];exact (qH (by repeat (first|(with_reducible first|exact HB.out|apply qg|apply qc|apply qf)|exact HB.out))) : w.heap.size ≤ gb119));have n3_:=qd.mk ((by rw [hg];exact (qH (by repeat (first|(with_reducible first|exact HB.out|apply qg|apply qc|apply qf)|exact HB.out))) : w.heap.size ≤ gb119));clear HB;have HB:=n0_;have BK119:=n1_;have GW119:=n2_;have GE119:=n3_;clear n0_ n1_ n2_ n3_;clear hb hbox hg;have hcz9_0 : w8.cell? ⟨gb119,0,none⟩ = some (.int .i64 a2_0):=(qi BK119.out 0).trans rfl;have hcz9_1 : w8.cell? ⟨gb119,1,none⟩ = some (.int .i64 a2_1):=(qi BK119.out 1).trans rfl;have hcz9_2 : w8.cell? ⟨gb119,2,none⟩ = some (.int .i64 a2_2):=(qi BK119.out 2).trans rfl;have hcz9_3 : w8.cell? ⟨gb119,3,none⟩ = some (.int .i64 a2_3):=(qi BK119.out 3).trans rfl;have hfz9_0:=ql BK119.out 0;have hfz9_1:=ql BK119.out 1;have hfz9_2:=ql BK119.out 2;have hfz9_3:=ql BK119.out 3)|((with_reducible refine qZ (f:=12) rfl ?_);refine jL (some 17) rfl rfl Try.func12 (by kernel_rfl) rfl #[.string a0,.string a1,.agg #[.int .i64 a2_0,.int .i64 a2_1,.int .i64 a2_2,.int .i64 a2_3]] rfl (by (try simp only [List.map_toArray,List.map_cons,List.map_nil]);first|done|rfl|(simp only [List.length_drop,List.length_take];rfl)) ?_;(with_reducible refine (jr.calls a0 a1 a2_0 a2_1 a2_2 a2_3 t120 t121 _ A5.out).mono ?_);rintro e w10 ⟨rfl,hb⟩;refine ⟨_,rfl,?_⟩;have n0_:=qd.mk (qR (g:=gb119) (o:=.cells #[.int .i64 a2_0,.int .i64 a2_1,.int .i64 a2_2,.int .i64 a2_3] 23 (0,0)) (by (with_reducible repeat (first|refine qx ?_ _|refine qA ?_|refine qw ?_ _));exact BK119.out) hb);have n1_:=qd.mk (qI (by repeat (first|(with_reducible first|exact HB.out|apply qg|apply qc|apply qf|refine qp ?_ GE119.out)|exact HB.out)) hb);clear BK119;clear HB;have BK119:=n0_;have HB:=n1_;clear n0_ n1_;(try clear hb);(try clear hb2);(try clear hk);(try clear hi)))
   go_ret3
   exact ⟨by first|rfl|(simp [qQ,qP] <;> rfl)|(simp [*,qQ,qP] <;> rfl),by repeat (first|(with_reducible first|exact HB.out|apply qg|apply qc|apply qf|refine qp ?_ GE119.out)|exact HB.out)⟩
  ·rw [if_neg c7] at H
   have c7b0 : decide (a3 < t120) = false:=decide_eq_false c7
   clear c7
   simp only [Option.some.injEq,Prod.mk.injEq] at H
   obtain ⟨rfl,rfl,rfl⟩:=H
   go_enter Try.func19,Try.ntmps19
   go_wp2_with (first|((with_reducible refine ji (N:=6) rfl ?_);refine jg ?hg (N:=6) ?hd (cs:=#[.int .i64 a2_0,.int .i64 a2_1,.int .i64 a2_2,.int .i64 a2_3]) (t:=23) ?hr ?_;(case hd => rfl);(case hg => rfl);(case hr => first|(go_simp;done)|(go_simp;rfl));intro gb119 hg w11 hbox hb;have n0_:=qd.mk (qI (by repeat (first|(with_reducible first|exact HB.out|apply qg|apply qc|apply qf)|exact HB.out)) hb);have n1_:=qd.mk (hbox);have n2_:=qd.mk ((by rw [hg];exact (qH (by repeat (first|(with_reducible first|exact HB.out|apply qg|apply qc|apply qf)|exact HB.out))) : w.heap.size ≤ gb119));have n3_:=qd.mk ((by rw [hg];exact (qH (by repeat (first|(with_reducible first|exact HB.out|apply qg|apply qc|apply qf)|exact HB.out))) : w.heap.size ≤ gb119));clear HB;have HB:=n0_;have BK119:=n1_;have GW119:=n2_;have GE119:=n3_;clear n0_ n1_ n2_ n3_;clear hb hbox hg;have hcz12_0 : w11.cell? ⟨gb119,0,none⟩ = some (.int .i64 a2_0):=(qi BK119.out 0).trans rfl;have hcz12_1 : w11.cell? ⟨gb119,1,none⟩ = some (.int .i64 a2_1):=(qi BK119.out 1).trans rfl;have hcz12_2 : w11.cell? ⟨gb119,2,none⟩ = some (.int .i64 a2_2):=(qi BK119.out 2).trans rfl;have hcz12_3 : w11.cell? ⟨gb119,3,none⟩ = some (.int .i64 a2_3):=(qi BK119.out 3).trans rfl;have hfz12_0:=ql BK119.out 0;have hfz12_1:=ql BK119.out 1;have hfz12_2:=ql BK119.out 2;have hfz12_3:=ql BK119.out 3)|((with_reducible refine qZ (f:=12) rfl ?_);refine jL (some 17) rfl rfl Try.func12 (by kernel_rfl) rfl #[.string a0,.string a1,.agg #[.int .i64 a2_0,.int .i64 a2_1,.int .i64 a2_2,.int .i64 a2_3]] rfl (by (try simp only [List.map_toArray,List.map_cons,List.map_nil]);first|done|rfl|(simp only [List.length_drop,List.length_take];rfl)) ?_;(with_reducible refine (jr.calls a0 a1 a2_0 a2_1 a2_2 a2_3 t120 t121 _ A5.out).mono ?_);rintro e w13 ⟨rfl,hb⟩;refine ⟨_,rfl,?_⟩;have n0_:=qd.mk (qR (g:=gb119) (o:=.cells #[.int .i64 a2_0,.int .i64 a2_1,.int .i64 a2_2,.int .i64 a2_3] 23 (0,0)) (by (with_reducible repeat (first|refine qx ?_ _|refine qA ?_|refine qw ?_ _));exact BK119.out) hb);have n1_:=qd.mk (qI (by repeat (first|(with_reducible first|exact HB.out|apply qg|apply qc|apply qf|refine qp ?_ GE119.out)|exact HB.out)) hb);clear BK119;clear HB;have BK119:=n0_;have HB:=n1_;clear n0_ n1_;(try clear hb);(try clear hb2);(try clear hk);(try clear hi)))
   go_ret3
   exact ⟨by first|rfl|(simp [qQ,qP] <;> rfl)|(simp [*,qQ,qP] <;> rfl),by repeat (first|(with_reducible first|exact HB.out|apply qg|apply qc|apply qf|refine qp ?_ GE119.out)|exact HB.out)⟩
 ·rw [if_neg c6] at H
  have c6b0 : (t121 == 0) = false:=beq_eq_false_iff_ne.mpr c6
  have c6b1 : (t121 != 0) = true:=bne_iff_ne.mpr c6
  simp only [Option.some.injEq,Prod.mk.injEq] at H
  obtain ⟨rfl,rfl,rfl⟩:=H
  go_enter Try.func19,Try.ntmps19
  go_wp2_with (first|((with_reducible refine ji (N:=6) rfl ?_);refine jg ?hg (N:=6) ?hd (cs:=#[.int .i64 a2_0,.int .i64 a2_1,.int .i64 a2_2,.int .i64 a2_3]) (t:=23) ?hr ?_;(case hd => rfl);(case hg => rfl);(case hr => first|(go_simp;done)|(go_simp;rfl));intro gb119 hg w14 hbox hb;have n0_:=qd.mk (qI (by repeat (first|(with_reducible first|exact HB.out|apply qg|apply qc|apply qf)|exact HB.out)) hb);have n1_:=qd.mk (hbox);have n2_:=qd.mk ((by rw [hg];exact (qH (by repeat (first|(with_reducible first|exact HB.out|apply qg|apply qc|apply qf)|exact HB.out))) : w.heap.size ≤ gb119));have n3_:=qd.mk ((by rw [hg];exact (qH (by repeat (first|(with_reducible first|exact HB.out|apply qg|apply qc|apply qf)|exact HB.out))) : w.heap.size ≤ gb119));clear HB;have HB:=n0_;have BK119:=n1_;have GW119:=n2_;have GE119:=n3_;clear n0_ n1_ n2_ n3_;clear hb hbox hg;have hcz15_0 : w14.cell? ⟨gb119,0,none⟩ = some (.int .i64 a2_0):=(qi BK119.out 0).trans rfl;have hcz15_1 : w14.cell? ⟨gb119,1,none⟩ = some (.int .i64 a2_1):=(qi BK119.out 1).trans rfl;have hcz15_2 : w14.cell? ⟨gb119,2,none⟩ = some (.int .i64 a2_2):=(qi BK119.out 2).trans rfl;have hcz15_3 : w14.cell? ⟨gb119,3,none⟩ = some (.int .i64 a2_3):=(qi BK119.out 3).trans rfl;have hfz15_0:=ql BK119.out 0;have hfz15_1:=ql BK119.out 1;have hfz15_2:=ql BK119.out 2;have hfz15_3:=ql BK119.out 3)|((with_reducible refine qZ (f:=12) rfl ?_);refine jL (some 17) rfl rfl Try.func12 (by kernel_rfl) rfl #[.string a0,.string a1,.agg #[.int .i64 a2_0,.int .i64 a2_1,.int .i64 a2_2,.int .i64 a2_3]] rfl (by (try simp only [List.map_toArray,List.map_cons,List.map_nil]);first|done|rfl|(simp only [List.length_drop,List.length_take];rfl)) ?_;(with_reducible refine (jr.calls a0 a1 a2_0 a2_1 a2_2 a2_3 t120 t121 _ A5.out).mono ?_);rintro e w16 ⟨rfl,hb⟩;refine ⟨_,rfl,?_⟩;have n0_:=qd.mk (qR (g:=gb119) (o:=.cells #[.int .i64 a2_0,.int .i64 a2_1,.int .i64 a2_2,.int .i64 a2_3] 23 (0,0)) (by (with_reducible repeat (first|refine qx ?_ _|refine qA ?_|refine qw ?_ _));exact BK119.out) hb);have n1_:=qd.mk (qI (by repeat (first|(with_reducible first|exact HB.out|apply qg|apply qc|apply qf|refine qp ?_ GE119.out)|exact HB.out)) hb);clear BK119;clear HB;have BK119:=n0_;have HB:=n1_;clear n0_ n1_;(try clear hb);(try clear hb2);(try clear hk);(try clear hi)))
  go_ret3
  exact ⟨by first|rfl|(simp [qQ,qP] <;> rfl)|(simp [*,qQ,qP] <;> rfl),by repeat (first|(with_reducible first|exact HB.out|apply qg|apply qc|apply qf|refine qp ?_ GE119.out)|exact HB.out)⟩
end Go.Proofs.Ytdefecnngccmoaa.QTells
namespace Go.Proofs.Ytdefecnngccmoaa.QTells
open Go.RowKit Go.Proofs.YtdefecnngccmoaaW.PrintWords Go.Proofs.YtdefecnngccmoaaW.PrintLast Go.Proofs.YtdefecnngccmoaaW.PrintMore
attribute [local go_sem] jX jV zk zi jM jN jU jY
set_option linter.unusedVariables false
set_option linter.unusedSimpArgs false
def jZ.f (a0_0 : Int) (a0_1 : Int) (a0_2 : Int) (a0_3 : Int) : Option (Int × Int × Int × Int):=some (a0_0,a0_1,a0_2,a0_3)
set_option maxHeartbeats 8000000 in
set_option maxRecDepth 100000 in
theorem jZ.calls (a0_0 : Int) (a0_1 : Int) (a0_2 : Int) (a0_3 : Int) (r1 : Int) (r2 : Int) (r3 : Int) (r4 : Int) (w : World) (h : jZ.f a0_0 a0_1 a0_2 a0_3 = some (r1,r2,r3,r4)) :
  Calls Try.prog 22 #[.agg #[.int .i64 a0_0,.int .i64 a0_1,.int .i64 a0_2,.int .i64 a0_3]] w fun e w' => e = .returned (.agg #[.int .i64 r1,.int .i64 r2,.int .i64 r3,.int .i64 r4]) ∧ Below w.heap.size w w':=by
 have hu23:=Try.underlying23
 have hu51:=Try.underlying51
 have HB:=qd.mk (Below.refl w.heap.size w)
 have H : (some (a0_0,a0_1,a0_2,a0_3)) = some (r1,r2,r3,r4):=h
 clear h
 simp only [Option.some.injEq,Prod.mk.injEq] at H
 obtain ⟨rfl,rfl,rfl,rfl⟩:=H
 go_enter Try.func22,Try.ntmps22
 go_wp2_with (first|((with_reducible refine ji (N:=1) rfl ?_);refine jg ?hg (N:=1) ?hd (cs:=#[.int .i64 a0_0,.int .i64 a0_1,.int .i64 a0_2,.int .i64 a0_3]) (t:=23) ?hr ?_;(case hd => rfl);(case hg => rfl);(case hr => first|(go_simp;done)|(go_simp;rfl));intro gb124 hg w2 hbox hb;have n0_:=qd.mk (qI (by repeat (first|(with_reducible first|exact HB.out|apply qg|apply qc|apply qf)|exact HB.out)) hb);have n1_:=qd.mk (hbox);have n2_:=qd.mk ((by rw [hg];exact (qH (by repeat (first|(with_reducible first|exact HB.out|apply qg|apply qc|apply qf)|exact HB.out))) : w.heap.size ≤ gb124));have n3_:=qd.mk ((by rw [hg];exact (qH (by repeat (first|(with_reducible first|exact HB.out|apply qg|apply qc|apply qf)|exact HB.out))) : w.heap.size ≤ gb124));clear HB;have HB:=n0_;have BK124:=n1_;have GW124:=n2_;have GE124:=n3_;clear n0_ n1_ n2_ n3_;clear hb hbox hg)|((with_reducible refine ji (N:=2) rfl ?_);refine jg ?hg (N:=2) ?hd (cs:=#[.int .i64 0,.int .i64 0,.int .i64 0,.int .i64 0]) (t:=51) ?hr ?_;(case hd => rfl);(case hg => rfl);(case hr => first|(go_simp;done)|(go_simp;rfl));intro gb125 hg w3 hbox hb;have n0_:=qd.mk (qR (g:=gb124) (o:=.cells #[.int .i64 a0_0,.int .i64 a0_1,.int .i64 a0_2,.int .i64 a0_3] 23 (0,0)) (by (with_reducible repeat (first|refine qx ?_ _|refine qA ?_|refine qw ?_ _));exact BK124.out) hb);have n1_:=qd.mk (qI (by repeat (first|(with_reducible first|exact HB.out|apply qg|apply qc|apply qf|refine qp ?_ GE124.out)|exact HB.out)) hb);have n2_:=qd.mk (hbox);have n3_:=qd.mk ((by rw [hg];exact (qH (by repeat (first|(with_reducible first|exact HB.out|apply qg|apply qc|apply qf|refine qp ?_ GE124.out)|exact HB.out))) : w.heap.size ≤ gb125));have n4_:=qd.mk ((by rw [hg];exact (qH (by repeat (first|(with_reducible first|exact HB.out|apply qg|apply qc|apply qf|refine qp ?_ GE124.out)|exact HB.out))) : w.heap.size ≤ gb125));have n5_:=qd.mk ((by rw [hg];exact Nat.ne_of_lt (jw (g:=gb124) (o:=.cells #[.int .i64 a0_0,.int .i64 a0_1,.int .i64 a0_2,.int .i64 a0_3] 23 (0,0)) (by (with_reducible repeat (first|refine qx ?_ _|refine qA ?_|refine qw ?_ _));exact BK124.out)) : gb124 ≠ gb125));have n6_:=qd.mk ((by rw [hg];exact Nat.ne_of_gt (jw (g:=gb124) (o:=.cells #[.int .i64 a0_0,.int .i64 a0_1,.int .i64 a0_2,.int .i64 a0_3] 23 (0,0)) (by (with_reducible repeat (first|refine qx ?_ _|refine qA ?_|refine qw ?_ _));exact BK124.out)) : gb125 ≠ gb124));clear BK124;clear HB;have BK124:=n0_;have HB:=n1_;have BK125:=n2_;have GW125:=n3_;have GE125:=n4_;have NB124_125:=n5_;have NB125_124:=n6_;clear n0_ n1_ n2_ n3_ n4_ n5_ n6_;clear hb hbox hg;have hnb4:=NB124_125.out;have hnc4:=NB125_124.out;have hcz5_0 : w3.cell? ⟨gb124,0,none⟩ = some (.int .i64 a0_0):=(qi BK124.out 0).trans rfl;have hcz5_1 : w3.cell? ⟨gb124,1,none⟩ = some (.int .i64 a0_1):=(qi BK124.out 1).trans rfl;have hcz5_2 : w3.cell? ⟨gb124,2,none⟩ = some (.int .i64 a0_2):=(qi BK124.out 2).trans rfl;have hcz5_3 : w3.cell? ⟨gb124,3,none⟩ = some (.int .i64 a0_3):=(qi BK124.out 3).trans rfl;have hfz5_0:=ql BK124.out 0;have hfz5_1:=ql BK124.out 1;have hfz5_2:=ql BK124.out 2;have hfz5_3:=ql BK124.out 3;have hcz6_0 : w3.cell? ⟨gb125,0,none⟩ = some (.int .i64 0):=(qi BK125.out 0).trans rfl;have hcz6_1 : w3.cell? ⟨gb125,1,none⟩ = some (.int .i64 0):=(qi BK125.out 1).trans rfl;have hcz6_2 : w3.cell? ⟨gb125,2,none⟩ = some (.int .i64 0):=(qi BK125.out 2).trans rfl;have hcz6_3 : w3.cell? ⟨gb125,3,none⟩ = some (.int .i64 0):=(qi BK125.out 3).trans rfl;have hfz6_0:=ql BK125.out 0;have hfz6_1:=ql BK125.out 1;have hfz6_2:=ql BK125.out 2;have hfz6_3:=ql BK125.out 3))
 refine bodyPost_ret (results_cell_row rfl _ _ gb125 51 #[.int .i64 a0_0,.int .i64 a0_1,.int .i64 a0_2,.int .i64 a0_3] (0,0) _ rfl (by (with_reducible repeat (first|refine qx ?_ _|refine qA ?_|refine qw ?_ _));refine jh (cs:=#[.int .i64 a0_0,.int .i64 a0_1,.int .i64 a0_2,.int .i64 0]) ?_ 3 _ rfl;(with_reducible repeat (first|refine qx ?_ _|refine qA ?_|refine qw ?_ _));refine jh (cs:=#[.int .i64 a0_0,.int .i64 a0_1,.int .i64 0,.int .i64 0]) ?_ 2 _ rfl;(with_reducible repeat (first|refine qx ?_ _|refine qA ?_|refine qw ?_ _));refine jh (cs:=#[.int .i64 a0_0,.int .i64 0,.int .i64 0,.int .i64 0]) ?_ 1 _ rfl;(with_reducible repeat (first|refine qx ?_ _|refine qA ?_|refine qw ?_ _));refine jh (cs:=#[.int .i64 0,.int .i64 0,.int .i64 0,.int .i64 0]) ?_ 0 _ rfl;(with_reducible repeat (first|refine qx ?_ _|refine qA ?_|refine qw ?_ _));exact BK125.out) Try.underlying51 rfl (by kernel_rfl)) rfl ?_
 exact ⟨by first|rfl|(simp [qQ,qP] <;> rfl)|(simp [*,qQ,qP] <;> rfl),by repeat (first|(with_reducible first|exact HB.out|apply qg|apply qc|apply qf|refine qp ?_ GE124.out|refine qp ?_ GE125.out)|exact HB.out)⟩
end Go.Proofs.Ytdefecnngccmoaa.QTells
namespace Go.Proofs.Ytdefecnngccmoaa.QTells
open Go.RowKit Go.Proofs.YtdefecnngccmoaaW.PrintWords Go.Proofs.YtdefecnngccmoaaW.PrintLast Go.Proofs.YtdefecnngccmoaaW.PrintMore
attribute [local go_sem] jX jV zk zi jM jN jU jY
set_option linter.unusedVariables false
set_option linter.unusedSimpArgs false
def qU.f (k : Nat) (a0 : ByteArray) (a1 : ByteArray) (a2_0 : Int) (a2_1 : Int) (a2_2 : Int) (a2_3 : Int) : Option (Int × Int):=(jv.f a0 a1 a2_0 a2_1 a2_2 a2_3).bind fun t154 => (if t154 = 0 then ((qj.f k a0 a1 a2_0 a2_1 a2_2 a2_3).bind fun t155 => (if 0 < (t155.length : Int) then (if 0 < ((qW t155 0).length : Int) then (some (rd (qW t155 0) 0,0)) else (none)) else (none))) else (some (0,t154)))
theorem qU.mono : ∀ a0 a1 a2 a3 a4 a5 k,LeO (qU.f k a0 a1 a2 a3 a4 a5) (qU.f (k + 1) a0 a1 a2 a3 a4 a5):=by
 intro a0 a1 a2 a3 a4 a5 k
 unfold qU.f
 repeat' first
   | (with_reducible exact qj.mono _ _ _ _ _ _ _)
   | (with_reducible exact LeO.refl _)
   | (with_reducible exact LeO.none _)
   | (with_reducible refine LeO.ite ?_ ?_)
   | (with_reducible refine LeO.bind ?_ (fun _ => ?_))
   | exact qj.mono _ _ _ _ _ _ _
   | exact LeO.none _
   | refine LeO.ite ?_ ?_
   | refine LeO.bind ?_ (fun _ => ?_)
set_option maxHeartbeats 8000000 in
set_option maxRecDepth 100000 in
theorem qU.calls (k : Nat) (a0 : ByteArray) (a1 : ByteArray) (a2_0 : Int) (a2_1 : Int) (a2_2 : Int) (a2_3 : Int) (r1 : Int) (r2 : Int) (w : World) (h : qU.f k a0 a1 a2_0 a2_1 a2_2 a2_3 = some (r1,r2)) :
  Calls Try.prog 23 #[.string a0,.string a1,.agg #[.int .i64 a2_0,.int .i64 a2_1,.int .i64 a2_2,.int .i64 a2_3]] w fun e w' => e = .returned (.tuple #[.int .i64 r1,.int .i64 r2]) ∧ Below w.heap.size w w':=by
 have hu51:=Try.underlying51
 have HB:=qd.mk (Below.refl w.heap.size w)
 have H : ((jv.f a0 a1 a2_0 a2_1 a2_2 a2_3).bind fun t154 => (if t154 = 0 then ((qj.f k a0 a1 a2_0 a2_1 a2_2 a2_3).bind fun t155 => (if 0 < (t155.length : Int) then (if 0 < ((qW t155 0).length : Int) then (some (rd (qW t155 0) 0,0)) else (none)) else (none))) else (some (0,t154)))) = some (r1,r2):=h
 clear h
 replace H:=Option.bind_eq_some_iff.mp H
 obtain ⟨t154,A40,H⟩:=H
 replace H : (if t154 = 0 then ((qj.f k a0 a1 a2_0 a2_1 a2_2 a2_3).bind fun t155 => (if 0 < (t155.length : Int) then (if 0 < ((qW t155 0).length : Int) then (some (rd (qW t155 0) 0,0)) else (none)) else (none))) else (some (0,t154))) = some (r1,r2):=H
 have A4:=qd.mk A40
 clear A40
 by_cases c5 : t154 = 0
 ·rw [if_pos c5] at H
  have c5b0 : (t154 == 0) = true:=beq_iff_eq.mpr c5
  have c5b1 : (t154 != 0) = false:=bne_eq_false_iff_eq.mpr c5
  clear c5
  replace H:=Option.bind_eq_some_iff.mp H
  obtain ⟨t155,A60,H⟩:=H
  replace H : (if 0 < (t155.length : Int) then (if 0 < ((qW t155 0).length : Int) then (some (rd (qW t155 0) 0,0)) else (none)) else (none)) = some (r1,r2):=H
  have A6:=qd.mk A60
  clear A60
  by_cases c7 : 0 < (t155.length : Int)
  ·rw [if_pos c7] at H
   have c7b0 : decide (0 < (t155.length : Int)) = true:=decide_eq_true c7
   have c7b1 : decide (0 < t155.length) = true:=decide_eq_true (by omega)
   clear c7
   by_cases c8 : 0 < ((qW t155 0).length : Int)
   ·rw [if_pos c8] at H
    have c8b0 : decide (0 < ((qW t155 0).length : Int)) = true:=decide_eq_true c8
    have c8b1 : decide (0 < (qW t155 0).length) = true:=decide_eq_true (by omega)
    clear c8
    simp only [Option.some.injEq,Prod.mk.injEq] at H
    obtain ⟨rfl,rfl⟩:=H
    go_enter Try.func23,Try.ntmps23
    go_wp2_with (first|((with_reducible refine ji (N:=5) rfl ?_);refine jg ?hg (N:=5) ?hd (cs:=#[.int .i64 a2_0,.int .i64 a2_1,.int .i64 a2_2,.int .i64 a2_3]) (t:=51) ?hr ?_;(case hd => rfl);(case hg => rfl);(case hr => first|(go_simp;done)|(go_simp;rfl));intro gb153 hg w9 hbox hb;have n0_:=qd.mk (qI (by repeat (first|(with_reducible first|exact HB.out|apply qg|apply qc|apply qf)|exact HB.out)) hb);have n1_:=qd.mk (hbox);have n2_:=qd.mk ((by rw [hg];exact (qH (by repeat (first|(with_reducible first|exact HB.out|apply qg|apply qc|apply qf)|exact HB.out))) : w.heap.size ≤ gb153));have n3_:=qd.mk ((by rw [hg];exact (qH (by repeat (first|(with_reducible first|exact HB.out|apply qg|apply qc|apply qf)|exact HB.out))) : w.heap.size ≤ gb153));clear HB;have HB:=n0_;have BK153:=n1_;have GW153:=n2_;have GE153:=n3_;clear n0_ n1_ n2_ n3_;clear hb hbox hg;have hcz10_0 : w9.cell? ⟨gb153,0,none⟩ = some (.int .i64 a2_0):=(qi BK153.out 0).trans rfl;have hcz10_1 : w9.cell? ⟨gb153,1,none⟩ = some (.int .i64 a2_1):=(qi BK153.out 1).trans rfl;have hcz10_2 : w9.cell? ⟨gb153,2,none⟩ = some (.int .i64 a2_2):=(qi BK153.out 2).trans rfl;have hcz10_3 : w9.cell? ⟨gb153,3,none⟩ = some (.int .i64 a2_3):=(qi BK153.out 3).trans rfl;have hfz10_0:=ql BK153.out 0;have hfz10_1:=ql BK153.out 1;have hfz10_2:=ql BK153.out 2;have hfz10_3:=ql BK153.out 3)|((with_reducible refine qZ (f:=32) rfl ?_);refine jL (some 12) rfl rfl Try.func32 (by kernel_rfl) rfl #[.string a0,.string a1,.agg #[.int .i64 a2_0,.int .i64 a2_1,.int .i64 a2_2,.int .i64 a2_3]] rfl (by (try simp only [List.map_toArray,List.map_cons,List.map_nil]);first|done|rfl|(simp only [List.length_drop,List.length_take];rfl)) ?_;(with_reducible refine (jv.calls a0 a1 a2_0 a2_1 a2_2 a2_3 t154 _ A4.out).mono ?_);rintro e w11 ⟨rfl,hb⟩;refine ⟨_,rfl,?_⟩;have n0_:=qd.mk (qR (g:=gb153) (o:=.cells #[.int .i64 a2_0,.int .i64 a2_1,.int .i64 a2_2,.int .i64 a2_3] 51 (0,0)) (by (with_reducible repeat (first|refine qx ?_ _|refine qA ?_|refine qw ?_ _));exact BK153.out) hb);have n1_:=qd.mk (qI (by repeat (first|(with_reducible first|exact HB.out|apply qg|apply qc|apply qf|refine qp ?_ GE153.out)|exact HB.out)) hb);clear BK153;clear HB;have BK153:=n0_;have HB:=n1_;clear n0_ n1_;(try clear hb);(try clear hb2);(try clear hk);(try clear hi);have hcz12_0 : w11.cell? ⟨gb153,0,none⟩ = some (.int .i64 a2_0):=(qi BK153.out 0).trans rfl;have hcz12_1 : w11.cell? ⟨gb153,1,none⟩ = some (.int .i64 a2_1):=(qi BK153.out 1).trans rfl;have hcz12_2 : w11.cell? ⟨gb153,2,none⟩ = some (.int .i64 a2_2):=(qi BK153.out 2).trans rfl;have hcz12_3 : w11.cell? ⟨gb153,3,none⟩ = some (.int .i64 a2_3):=(qi BK153.out 3).trans rfl;have hfz12_0:=ql BK153.out 0;have hfz12_1:=ql BK153.out 1;have hfz12_2:=ql BK153.out 2;have hfz12_3:=ql BK153.out 3)|((with_reducible refine qZ (f:=33) rfl ?_);refine jL (some 19) rfl rfl Try.func33 (by kernel_rfl) rfl #[.string a0,.string a1,.agg #[.int .i64 a2_0,.int .i64 a2_1,.int .i64 a2_2,.int .i64 a2_3]] rfl (by (try simp only [List.map_toArray,List.map_cons,List.map_nil]);first|done|rfl|(simp only [List.length_drop,List.length_take];rfl)) ?_;(with_reducible refine (qj.calls k a0 a1 a2_0 a2_1 a2_2 a2_3 t155 _ A6.out).mono ?_);rintro e w13 ⟨v156,rfl,ho0,hb⟩;refine ⟨_,rfl,?_⟩;have n0_:=qd.mk (Kd.QR ho0 (qH (by repeat (first|(with_reducible first|exact HB.out|apply qg|apply qc|apply qf|refine qp ?_ GE153.out)|exact HB.out))));have n1_:=qd.mk (qR (g:=gb153) (o:=.cells #[.int .i64 a2_0,.int .i64 a2_1,.int .i64 a2_2,.int .i64 a2_3] 51 (0,0)) (by (with_reducible repeat (first|refine qx ?_ _|refine qA ?_|refine qw ?_ _));exact BK153.out) hb);have n2_:=qd.mk (qI (by repeat (first|(with_reducible first|exact HB.out|apply qg|apply qc|apply qf|refine qp ?_ GE153.out)|exact HB.out)) hb);clear BK153;clear HB;have HO157:=n0_;have BK153:=n1_;have HB:=n2_;clear n0_ n1_ n2_;(try clear hb);(try clear hb2);(try clear hk);(try clear hi);(try clear ho0);obtain ⟨Ao14,co14,eo14⟩:=Kd.QE HO157.out;subst eo14;have p158 : 0 ≤ (0 : Int):=(by omega);have q158 : 0 < (t155.length : Int):=of_decide_eq_true (by first|(with_reducible assumption)|assumption);obtain ⟨ad158,A158_0,c158_0,e158,hx158_0,hl158_0,hi158_0⟩:=kv (Kd.jR HO157.out).2.2 0 p158 q158;cases e158;obtain ⟨ce158,hce158,hMe158,hcc158⟩:=Kd.kS HO157.out [] 0 p158 (by first|exact q158|exact of_decide_eq_true (by first|(with_reducible assumption)|assumption)|(have e_:=(Kd.jR HO157.out).1;omega));obtain ⟨ve158_0,rfl,ge158_0⟩:=hMe158;have hv158_0:=hcc158 0 _ rfl;rw [Nat.add_zero,show ((Kd.slice 3 (Kd.int .i64))).sz = 1 from rfl,Nat.mul_one] at hv158_0;replace hv158_0:=Option.some.inj (hv158_0.symm.trans hx158_0);rw [hv158_0] at ge158_0;have HL158_0:=qd.mk (show Kd.R (Kd.int .i64) 3 _ _ _ _ (qW t155 0) from ge158_0);clear hv158_0 ge158_0;clear hcc158 hce158;have qi158 : (0 < t155.length) = True:=eq_true (by omega);(try rw [show ((0 : Int)).toNat = 0 from rfl] at hx158_0);(try rw [Addr.add_zero'] at hx158_0);have HR158_0:=qd.mk hi158_0;have HC158_0:=qd.mk hl158_0;clear hi158_0 hl158_0;replace p158:=eq_true p158;replace q158:=eq_true q158;have p159 : 0 ≤ (0 : Int):=(by omega);have q159 : 0 < ((qW t155 0).length : Int):=of_decide_eq_true (by first|(with_reducible assumption)|assumption);obtain ⟨ad159,e159,hx159_0⟩:=Kd.vK (by repeat (first|(with_reducible exact HR158_0.out)|(with_reducible refine Kd.jP ?_ _)|(with_reducible refine Kd.jQ ?_ _)|(with_reducible refine Kd.zh ?_)|exact HR158_0.out)) 0 p159 q159;cases e159;have qi159 : (0 < (qW t155 0).length) = True:=eq_true (by omega);(try rw [show ((0 : Int)).toNat = 0 from rfl] at hx159_0);(try rw [Addr.add_zero'] at hx159_0);replace p159:=eq_true p159;replace q159:=eq_true q159))
    go_ret2
    exact ⟨by first|rfl|(simp [qQ,qP] <;> rfl)|(simp [*,qQ,qP] <;> rfl),by repeat (first|(with_reducible first|exact HB.out|apply qg|apply qc|apply qf|refine qp ?_ GE153.out)|exact HB.out)⟩
   ·rw [if_neg c8] at H
    exact absurd H (by simp)
  ·rw [if_neg c7] at H
   exact absurd H (by simp)
 ·rw [if_neg c5] at H
  have c5b0 : (t154 == 0) = false:=beq_eq_false_iff_ne.mpr c5
  have c5b1 : (t154 != 0) = true:=bne_iff_ne.mpr c5
  simp only [Option.some.injEq,Prod.mk.injEq] at H
  obtain ⟨rfl,rfl⟩:=H
  go_enter Try.func23,Try.ntmps23
  go_wp2_with (first|((with_reducible refine ji (N:=5) rfl ?_);refine jg ?hg (N:=5) ?hd (cs:=#[.int .i64 a2_0,.int .i64 a2_1,.int .i64 a2_2,.int .i64 a2_3]) (t:=51) ?hr ?_;(case hd => rfl);(case hg => rfl);(case hr => first|(go_simp;done)|(go_simp;rfl));intro gb153 hg w15 hbox hb;have n0_:=qd.mk (qI (by repeat (first|(with_reducible first|exact HB.out|apply qg|apply qc|apply qf)|exact HB.out)) hb);have n1_:=qd.mk (hbox);have n2_:=qd.mk ((by rw [hg];exact (qH (by repeat (first|(with_reducible first|exact HB.out|apply qg|apply qc|apply qf)|exact HB.out))) : w.heap.size ≤ gb153));have n3_:=qd.mk ((by rw [hg];exact (qH (by repeat (first|(with_reducible first|exact HB.out|apply qg|apply qc|apply qf)|exact HB.out))) : w.heap.size ≤ gb153));clear HB;have HB:=n0_;have BK153:=n1_;have GW153:=n2_;have GE153:=n3_;clear n0_ n1_ n2_ n3_;clear hb hbox hg;have hcz16_0 : w15.cell? ⟨gb153,0,none⟩ = some (.int .i64 a2_0):=(qi BK153.out 0).trans rfl;have hcz16_1 : w15.cell? ⟨gb153,1,none⟩ = some (.int .i64 a2_1):=(qi BK153.out 1).trans rfl;have hcz16_2 : w15.cell? ⟨gb153,2,none⟩ = some (.int .i64 a2_2):=(qi BK153.out 2).trans rfl;have hcz16_3 : w15.cell? ⟨gb153,3,none⟩ = some (.int .i64 a2_3):=(qi BK153.out 3).trans rfl;have hfz16_0:=ql BK153.out 0;have hfz16_1:=ql BK153.out 1;have hfz16_2:=ql BK153.out 2;have hfz16_3:=ql BK153.out 3)|((with_reducible refine qZ (f:=32) rfl ?_);refine jL (some 12) rfl rfl Try.func32 (by kernel_rfl) rfl #[.string a0,.string a1,.agg #[.int .i64 a2_0,.int .i64 a2_1,.int .i64 a2_2,.int .i64 a2_3]] rfl (by (try simp only [List.map_toArray,List.map_cons,List.map_nil]);first|done|rfl|(simp only [List.length_drop,List.length_take];rfl)) ?_;(with_reducible refine (jv.calls a0 a1 a2_0 a2_1 a2_2 a2_3 t154 _ A4.out).mono ?_);rintro e w17 ⟨rfl,hb⟩;refine ⟨_,rfl,?_⟩;have n0_:=qd.mk (qR (g:=gb153) (o:=.cells #[.int .i64 a2_0,.int .i64 a2_1,.int .i64 a2_2,.int .i64 a2_3] 51 (0,0)) (by (with_reducible repeat (first|refine qx ?_ _|refine qA ?_|refine qw ?_ _));exact BK153.out) hb);have n1_:=qd.mk (qI (by repeat (first|(with_reducible first|exact HB.out|apply qg|apply qc|apply qf|refine qp ?_ GE153.out)|exact HB.out)) hb);clear BK153;clear HB;have BK153:=n0_;have HB:=n1_;clear n0_ n1_;(try clear hb);(try clear hb2);(try clear hk);(try clear hi)))
  go_ret2
  exact ⟨by first|rfl|(simp [qQ,qP] <;> rfl)|(simp [*,qQ,qP] <;> rfl),by repeat (first|(with_reducible first|exact HB.out|apply qg|apply qc|apply qf|refine qp ?_ GE153.out)|exact HB.out)⟩
end Go.Proofs.Ytdefecnngccmoaa.QTells
