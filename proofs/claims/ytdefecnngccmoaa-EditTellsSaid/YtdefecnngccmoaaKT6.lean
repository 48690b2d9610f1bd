/- A part of the texts of one claim: the walk of the code by hand-proved contracts, and the plain law. -/
import Derived.Test.YtdefecnngccmoaaKT5
set_option linter.unusedVariables false
set_option linter.unusedSimpArgs false
namespace Go.Proofs.Ytdefecnngccmoaa.QTells
open Go.RowKit Go.Proofs.YtdefecnngccmoaaW.PrintWords Go.Proofs.YtdefecnngccmoaaW.PrintLast Go.Proofs.YtdefecnngccmoaaW.PrintMore
attribute [local go_sem] jX jV zk zi jM jN jU jY
set_option linter.unusedVariables false
set_option linter.unusedSimpArgs false
open Go.Proofs.Ytdefecnngccmoaa.Ed
mutual
def qh.j0 : Nat → ByteArray → ByteArray → Int → Int → Int → Bool → Int → Int → Int → Int → Int → Int → Int → Int → Option (Bool)
  | 0,_,_,_,_,_,_,_,_,_,_,_,_,_,_ => none
  | k + 1,x0,x1,x3,x12,x13,x49,x186000,x186001,x186002,x186003,x191000,x191001,x191002,x191003 => if x49 = true then (some false) else ((jE.f x0 x1 x186000 x186001 x186002 x186003 x3).bind fun bt197 => (if x13 = 0 then (if x12 ≤ x3 then (if bt197.1 = x12 then (if bt197.2.1 = true then (if bt197.2.2 = 0 then (if x12 > x3 then (if bt197.1 = 0 then (qh.j1 k x0 x1 true x186000 x186001 x186002 x186003 x191000 x191001 x191002 x191003) else (qh.j1 k x0 x1 true x186000 x186001 x186002 x186003 x191000 x191001 x191002 x191003)) else (qh.j1 k x0 x1 false x186000 x186001 x186002 x186003 x191000 x191001 x191002 x191003)) else (qh.j1 k x0 x1 true x186000 x186001 x186002 x186003 x191000 x191001 x191002 x191003)) else (qh.j1 k x0 x1 true x186000 x186001 x186002 x186003 x191000 x191001 x191002 x191003)) else (qh.j1 k x0 x1 true x186000 x186001 x186002 x186003 x191000 x191001 x191002 x191003)) else (if x12 > x3 then (if bt197.1 = 0 then (if bt197.2.1 = true then (qh.j1 k x0 x1 true x186000 x186001 x186002 x186003 x191000 x191001 x191002 x191003) else (qh.j1 k x0 x1 (bt197.2.2 != x13) x186000 x186001 x186002 x186003 x191000 x191001 x191002 x191003)) else (qh.j1 k x0 x1 true x186000 x186001 x186002 x186003 x191000 x191001 x191002 x191003)) else (qh.j1 k x0 x1 false x186000 x186001 x186002 x186003 x191000 x191001 x191002 x191003))) else (if bt197.1 = 0 then (if bt197.2.1 = true then (qh.j1 k x0 x1 true x186000 x186001 x186002 x186003 x191000 x191001 x191002 x191003) else (qh.j1 k x0 x1 (bt197.2.2 != x13) x186000 x186001 x186002 x186003 x191000 x191001 x191002 x191003)) else (qh.j1 k x0 x1 true x186000 x186001 x186002 x186003 x191000 x191001 x191002 x191003))))
def qh.j1 : Nat → ByteArray → ByteArray → Bool → Int → Int → Int → Int → Int → Int → Int → Int → Option (Bool)
  | 0,_,_,_,_,_,_,_,_,_,_,_ => none
  | k + 1,x0,x1,x99,x186000,x186001,x186002,x186003,x191000,x191001,x191002,x191003 => if x99 = true then (some false) else ((zI.f x0 x1 x186000 x186001 x186002 x186003).bind fun bt200 => ((qm.f k x0 x1 x191000 x191001 x191002 x191003).bind fun bt205 => (if bt200.2.1 = bt205.2.1 then (if bt200.2.2 = bt205.2.2 then (qh.j2 k bt200.1 bt205.1 ((bt200.1.length : Int) != (bt205.1.length : Int))) else (qh.j2 k bt200.1 bt205.1 true)) else (qh.j2 k bt200.1 bt205.1 true))))
def qh.j2 : Nat → List (S38) → List (S59) → Bool → Option (Bool)
  | 0,_,_,_ => none
  | k + 1,x16,x17,x130 => if x130 = true then (some false) else (qh.l0 k x16 x17 0)
def qh.l0 : Nat → List (S38) → List (S59) → Int → Option (Bool)
  | 0,_,_,_ => none
  | k + 1,x16,x17,x18 => if x18 < (x16.length : Int) then (if 0 ≤ x18 then (if x18 < (x17.length : Int) then (if ((qJ x16 x18).f0) = ((zM x17 x18).f0) then (if ((qJ x16 x18).f1) = ((zM x17 x18).f1) then (qh.l0 k x16 x17 (wrap64 (x18 + 1))) else (some false)) else (some false)) else (none)) else (none)) else (some true)
end
def qh.f (k : Nat) (a0 : ByteArray) (a1 : ByteArray) (a2_0 : Int) (a2_1 : Int) (a2_2 : Int) (a2_3 : Int) (a3 : Int) : Option (Bool):=(jZ.f a2_0 a2_1 a2_2 a2_3).bind fun bt186 => ((jr.f a0 a1 a2_0 a2_1 a2_2 a2_3).bind fun bt191 => ((qU.f k a0 a1 bt186.1 bt186.2.1 bt186.2.2.1 bt186.2.2.2).bind fun bt193 => ((jH.f a2_0 a2_1 a2_2 a2_3).bind fun t195 => ((q9.f bt186.1 bt186.2.1 bt186.2.2.1 bt186.2.2.2).bind fun t196 => (if (t195 != t196) = true then (qh.j0 k a0 a1 a3 bt193.1 bt193.2 true a2_0 a2_1 a2_2 a2_3 bt186.1 bt186.2.1 bt186.2.2.1 bt186.2.2.2) else (if bt191.1 = bt193.1 then (qh.j0 k a0 a1 a3 bt193.1 bt193.2 (bt191.2 != bt193.2) a2_0 a2_1 a2_2 a2_3 bt186.1 bt186.2.1 bt186.2.2.1 bt186.2.2.2) else (qh.j0 k a0 a1 a3 bt193.1 bt193.2 true a2_0 a2_1 a2_2 a2_3 bt186.1 bt186.2.1 bt186.2.2.1 bt186.2.2.2)))))))
theorem qh.zP : ∀ k,(∀ y0 y1 y2 y3 y4 y5 y6 y7 y8 y9 y10 y11 y12 y13,LeO (qh.j0 k y0 y1 y2 y3 y4 y5 y6 y7 y8 y9 y10 y11 y12 y13) (qh.j0 (k + 1) y0 y1 y2 y3 y4 y5 y6 y7 y8 y9 y10 y11 y12 y13)) ∧ (∀ y0 y1 y2 y3 y4 y5 y6 y7 y8 y9 y10,LeO (qh.j1 k y0 y1 y2 y3 y4 y5 y6 y7 y8 y9 y10) (qh.j1 (k + 1) y0 y1 y2 y3 y4 y5 y6 y7 y8 y9 y10)) ∧ (∀ y0 y1 y2,LeO (qh.j2 k y0 y1 y2) (qh.j2 (k + 1) y0 y1 y2)) ∧ (∀ y0 y1 y2,LeO (qh.l0 k y0 y1 y2) (qh.l0 (k + 1) y0 y1 y2))
  | 0 => ⟨fun _ _ _ _ _ _ _ _ _ _ _ _ _ _ r h => by simp [qh.j0] at h,fun _ _ _ _ _ _ _ _ _ _ _ r h => by simp [qh.j1] at h,fun _ _ _ r h => by simp [qh.j2] at h,fun _ _ _ r h => by simp [qh.l0] at h⟩
  | k + 1 => by
    obtain ⟨ih0,ih1,ih2,ih3⟩:=qh.zP k
    refine ⟨?_,?_,?_,?_⟩
    · intro y0 y1 y2 y3 y4 y5 y6 y7 y8 y9 y10 y11 y12 y13
      unfold qh.j0
      repeat' first
      | (with_reducible exact ih0 _ _ _ _ _ _ _ _ _ _ _ _ _ _)
      | (with_reducible exact ih1 _ _ _ _ _ _ _ _ _ _ _)
      | (with_reducible exact ih2 _ _ _)
      | (with_reducible exact ih3 _ _ _)
      | (with_reducible exact qU.mono _ _ _ _ _ _ _)
      | (with_reducible exact qm.mono _ _ _ _ _ _ _)
      | (with_reducible exact LeO.refl _)
      | (with_reducible exact LeO.none _)
      | (with_reducible refine LeO.ite ?_ ?_)
      | (with_reducible refine LeO.bind ?_ (fun _ => ?_))
      | exact ih0 _ _ _ _ _ _ _ _ _ _ _ _ _ _
      | exact ih1 _ _ _ _ _ _ _ _ _ _ _
      | exact ih2 _ _ _
      | exact ih3 _ _ _
      | exact qU.mono _ _ _ _ _ _ _
      | exact qm.mono _ _ _ _ _ _ _
      | exact LeO.none _
      | refine LeO.ite ?_ ?_
      | refine LeO.bind ?_ (fun _ => ?_)
    · intro y0 y1 y2 y3 y4 y5 y6 y7 y8 y9 y10
      unfold qh.j1
      repeat' first
      | (with_reducible exact ih0 _ _ _ _ _ _ _ _ _ _ _ _ _ _)
      | (with_reducible exact ih1 _ _ _ _ _ _ _ _ _ _ _)
      | (with_reducible exact ih2 _ _ _)
      | (with_reducible exact ih3 _ _ _)
      | (with_reducible exact qU.mono _ _ _ _ _ _ _)
      | (with_reducible exact qm.mono _ _ _ _ _ _ _)
      | (with_reducible exact LeO.refl _)
      | (with_reducible exact LeO.none _)
      | (with_reducible refine LeO.ite ?_ ?_)
      | (with_reducible refine LeO.bind ?_ (fun _ => ?_))
      | exact ih0 _ _ _ _ _ _ _ _ _ _ _ _ _ _
      | exact ih1 _ _ _ _ _ _ _ _ _ _ _
      | exact ih2 _ _ _
      | exact ih3 _ _ _
      | exact qU.mono _ _ _ _ _ _ _
      | exact qm.mono _ _ _ _ _ _ _
      | exact LeO.none _
      | refine LeO.ite ?_ ?_
      | refine LeO.bind ?_ (fun _ => ?_)
    · intro y0 y1 y2
      unfold qh.j2
      repeat' first
      | (with_reducible exact ih0 _ _ _ _ _ _ _ _ _ _ _ _ _ _)
      | (with_reducible exact ih1 _ _ _ _ _ _ _ _ _ _ _)
      | (with_reducible exact ih2 _ _ _)
      | (with_reducible exact ih3 _ _ _)
      | (with_reducible exact qU.mono _ _ _ _ _ _ _)
      | (with_reducible exact qm.mono _ _ _ _ _ _ _)
      | (with_reducible exact LeO.refl _)
      | (with_reducible exact LeO.none _)
      | (with_reducible refine LeO.ite ?_ ?_)
      | (with_reducible refine LeO.bind ?_ (fun _ => ?_))
      | exact ih0 _ _ _ _ _ _ _ _ _ _ _ _ _ _
      | exact ih1 _ _ _ _ _ _ _ _ _ _ _
      | exact ih2 _ _ _
      | exact ih3 _ _ _
      | exact qU.mono _ _ _ _ _ _ _
      | exact qm.mono _ _ _ _ _ _ _
      | exact LeO.none _
      | refine LeO.ite ?_ ?_
      | refine LeO.bind ?_ (fun _ => ?_)
    · intro y0 y1 y2
      unfold qh.l0
      repeat' first
      | (with_reducible exact ih0 _ _ _ _ _ _ _ _ _ _ _ _ _ _)
      | (with_reducible exact ih1 _ _ _ _ _ _ _ _ _ _ _)
      | (with_reducible exact ih2 _ _ _)
      | (with_reducible exact ih3 _ _ _)
      | (with_reducible exact qU.mono _ _ _ _ _ _ _)
      | (with_reducible exact qm.mono _ _ _ _ _ _ _)
      | (with_reducible exact LeO.refl _)
      | (with_reducible exact LeO.none _)
      | (with_reducible refine LeO.ite ?_ ?_)
      | (with_reducible refine LeO.bind ?_ (fun _ => ?_))
      | exact ih0 _ _ _ _ _ _ _ _ _ _ _ _ _ _
      | exact ih1 _ _ _ _ _ _ _ _ _ _ _
      | exact ih2 _ _ _
      | exact ih3 _ _ _
      | exact qU.mono _ _ _ _ _ _ _
      | exact qm.mono _ _ _ _ _ _ _
      | exact LeO.none _
      | refine LeO.ite ?_ ?_
      | refine LeO.bind ?_ (fun _ => ?_)
theorem qh.mono : ∀ a0 a1 a2 a3 a4 a5 a6 k,LeO (qh.f k a0 a1 a2 a3 a4 a5 a6) (qh.f (k + 1) a0 a1 a2 a3 a4 a5 a6):=by
  intro a0 a1 a2 a3 a4 a5 a6 k
  obtain ⟨ih0,ih1,ih2,ih3⟩:=qh.zP k
  unfold qh.f
  repeat' first
      | (with_reducible exact ih0 _ _ _ _ _ _ _ _ _ _ _ _ _ _)
      | (with_reducible exact ih1 _ _ _ _ _ _ _ _ _ _ _)
      | (with_reducible exact ih2 _ _ _)
      | (with_reducible exact ih3 _ _ _)
      | (with_reducible exact qU.mono _ _ _ _ _ _ _)
      | (with_reducible exact qm.mono _ _ _ _ _ _ _)
      | (with_reducible exact LeO.refl _)
      | (with_reducible exact LeO.none _)
      | (with_reducible refine LeO.ite ?_ ?_)
      | (with_reducible refine LeO.bind ?_ (fun _ => ?_))
      | exact ih0 _ _ _ _ _ _ _ _ _ _ _ _ _ _
      | exact ih1 _ _ _ _ _ _ _ _ _ _ _
      | exact ih2 _ _ _
      | exact ih3 _ _ _
      | exact qU.mono _ _ _ _ _ _ _
      | exact qm.mono _ _ _ _ _ _ _
      | exact LeO.none _
      | refine LeO.ite ?_ ?_
      | refine LeO.bind ?_ (fun _ => ?_)
def qh.T4 : Bool × List (List Nat × List Nat):=(true,[([],[]),([0],[0]),([],[]),([2,1],[2]),([1,3],[1,3]),([4,3],[4]),([5],[5]),([5],[5]),([6,7,5],[5,6,7]),([5,8],[5,8]),([9,5],[9]),([10],[10]),([10],[10]),([11,12,10],[10,11,12]),([10,13],[10,13])])
def qh.B4 : List Nat:=[0,1,0,7,15,31,63,63,255,511,1023,2047,2047,8191,16383]
theorem qh.tab4 : rtab .any (opsOf Try.f10 4) = qh.T4:=by kernel_rfl
theorem qh.Kj : zt qh.T4.2 qh.B4 = true:=by kernel_rfl
def qh.T16 : Bool × List (List Nat × List Nat):=(true,[([],[]),([],[]),([0,1],[0,1]),([2],[2]),([3],[3]),([],[]),([],[]),([5,6],[5,6]),([7],[7]),([8],[8]),([4,9],[4,9]),([10],[10]),([11],[11]),([11],[11]),([12,13,11],[11,12,13]),([14,11],[11,14]),([15,11],[11,15]),([11],[11]),([11],[11]),([17,18,11],[11,17,18]),([19,11],[11,19]),([20,11],[11,20]),([16,21,11],[11,16,21]),([11,22],[11,22])])
def qh.B16 : List Nat:=[0,0,3,7,15,0,0,96,224,480,1023,2047,4095,4095,16383,32767,65535,4095,4095,397311,921599,1970175,4194303,8388607]
theorem qh.Ka : rtab .any (opsOf Try.f10 16) = qh.T16:=by kernel_rfl
theorem qh.VO : zt qh.T16.2 qh.B16 = true:=by kernel_rfl
theorem no0 (k : Nat) (x0 x1 : ByteArray) (x3 x12 x13 y0 y1 y2 y3 z0 z1 z2 z3 : Int) : ¬ qh.j0 k x0 x1 x3 x12 x13 true y0 y1 y2 y3 z0 z1 z2 z3 = some true:=by
  cases k with
  | zero => rw [qh.j0];simp
  | succ k => rw [qh.j0,if_pos rfl];simp
theorem no1 (k : Nat) (x0 x1 : ByteArray) (y0 y1 y2 y3 z0 z1 z2 z3 : Int) : ¬ qh.j1 k x0 x1 true y0 y1 y2 y3 z0 z1 z2 z3 = some true:=by
  cases k with
  | zero => rw [qh.j1];simp
  | succ k => rw [qh.j1,if_pos rfl];simp
theorem no2 (k : Nat) (x : List S38) (y : List S59) : ¬ qh.j2 k x y true = some true:=by
  cases k with
  | zero => rw [qh.j2];simp
  | succ k => rw [qh.j2,if_pos rfl];simp
set_option maxHeartbeats 8000000 in
set_option maxRecDepth 100000 in
theorem qh.calls (k : Nat) (a0 : ByteArray) (a1 : ByteArray) (a2_0 : Int) (a2_1 : Int) (a2_2 : Int) (a2_3 : Int) (a3 : Int) (r : Bool) (hr : r = true) (w : World) (h : qh.f k a0 a1 a2_0 a2_1 a2_2 a2_3 a3 = some r) :
    Calls Try.prog 10 #[.string a0,.string a1,.agg #[.int .i64 a2_0,.int .i64 a2_1,.int .i64 a2_2,.int .i64 a2_3],.int .i64 a3] w fun e w' => e = .returned (.bool r) ∧ Below w.heap.size w w':=by
  have hu23:=Try.underlying23
  have hu51:=Try.underlying51
  have HRr:=qd.mk hr
  clear hr
  have HB:=qd.mk (Below.refl w.heap.size w)
  have H : ((jZ.f a2_0 a2_1 a2_2 a2_3).bind fun bt186 => ((jr.f a0 a1 a2_0 a2_1 a2_2 a2_3).bind fun bt191 => ((qU.f k a0 a1 bt186.1 bt186.2.1 bt186.2.2.1 bt186.2.2.2).bind fun bt193 => ((jH.f a2_0 a2_1 a2_2 a2_3).bind fun t195 => ((q9.f bt186.1 bt186.2.1 bt186.2.2.1 bt186.2.2.2).bind fun t196 => (if (t195 != t196) = true then (qh.j0 k a0 a1 a3 bt193.1 bt193.2 true a2_0 a2_1 a2_2 a2_3 bt186.1 bt186.2.1 bt186.2.2.1 bt186.2.2.2) else (if bt191.1 = bt193.1 then (qh.j0 k a0 a1 a3 bt193.1 bt193.2 (bt191.2 != bt193.2) a2_0 a2_1 a2_2 a2_3 bt186.1 bt186.2.1 bt186.2.2.1 bt186.2.2.2) else (qh.j0 k a0 a1 a3 bt193.1 bt193.2 true a2_0 a2_1 a2_2 a2_3 bt186.1 bt186.2.1 bt186.2.2.1 bt186.2.2.2)))))))) = some r:=h
  clear h
  replace H:=Option.bind_eq_some_iff.mp H
  obtain ⟨⟨t186,t187,t188,t189⟩,A50,H⟩:=H
  replace H : ((jr.f a0 a1 a2_0 a2_1 a2_2 a2_3).bind fun bt191 => ((qU.f k a0 a1 t186 t187 t188 t189).bind fun bt193 => ((jH.f a2_0 a2_1 a2_2 a2_3).bind fun t195 => ((q9.f t186 t187 t188 t189).bind fun t196 => (if (t195 != t196) = true then (qh.j0 k a0 a1 a3 bt193.1 bt193.2 true a2_0 a2_1 a2_2 a2_3 t186 t187 t188 t189) else (if bt191.1 = bt193.1 then (qh.j0 k a0 a1 a3 bt193.1 bt193.2 (bt191.2 != bt193.2) a2_0 a2_1 a2_2 a2_3 t186 t187 t188 t189) else (qh.j0 k a0 a1 a3 bt193.1 bt193.2 true a2_0 a2_1 a2_2 a2_3 t186 t187 t188 t189))))))) = some r:=H
  have A5:=qd.mk A50
  clear A50
  replace H:=Option.bind_eq_some_iff.mp H
  obtain ⟨⟨t191,t192⟩,A60,H⟩:=H
  replace H : ((qU.f k a0 a1 t186 t187 t188 t189).bind fun bt193 => ((jH.f a2_0 a2_1 a2_2 a2_3).bind fun t195 => ((q9.f t186 t187 t188 t189).bind fun t196 => (if (t195 != t196) = true then (qh.j0 k a0 a1 a3 bt193.1 bt193.2 true a2_0 a2_1 a2_2 a2_3 t186 t187 t188 t189) else (if t191 = bt193.1 then (qh.j0 k a0 a1 a3 bt193.1 bt193.2 (t192 != bt193.2) a2_0 a2_1 a2_2 a2_3 t186 t187 t188 t189) else (qh.j0 k a0 a1 a3 bt193.1 bt193.2 true a2_0 a2_1 a2_2 a2_3 t186 t187 t188 t189)))))) = some r:=H
  have A6:=qd.mk A60
  clear A60
  replace H:=Option.bind_eq_some_iff.mp H
  obtain ⟨⟨t193,t194⟩,A70,H⟩:=H
  replace H : ((jH.f a2_0 a2_1 a2_2 a2_3).bind fun t195 => ((q9.f t186 t187 t188 t189).bind fun t196 => (if (t195 != t196) = true then (qh.j0 k a0 a1 a3 t193 t194 true a2_0 a2_1 a2_2 a2_3 t186 t187 t188 t189) else (if t191 = t193 then (qh.j0 k a0 a1 a3 t193 t194 (t192 != t194) a2_0 a2_1 a2_2 a2_3 t186 t187 t188 t189) else (qh.j0 k a0 a1 a3 t193 t194 true a2_0 a2_1 a2_2 a2_3 t186 t187 t188 t189))))) = some r:=H
  have A7:=qd.mk A70
  clear A70
  have HC8:=qd.mk H
  clear H
  go_enter Try.func10,Try.ntmps10
  go_upto_region 4 with (first|((with_reducible refine ji (N:=6) rfl ?_);(try (refine jm (by rfl) ?_;dsimp only));refine jg ?hg (N:=6) ?hd (cs:=#[.int .i64 a2_0,.int .i64 a2_1,.int .i64 a2_2,.int .i64 a2_3]) (t:=23) ?hr ?_;(case hd => rfl);(case hg => rfl);(case hr => first|(go_simp;done)|(go_simp;rfl));intro gb185 hg w9 hbox hb;have n0_:=qd.mk (qI (by repeat (first|(with_reducible first|exact HB.out|apply qg|apply qc|apply qf)|exact HB.out)) hb);have n1_:=qd.mk (hbox);have n2_:=qd.mk ((by rw [hg];exact (qH (by repeat (first|(with_reducible first|exact HB.out|apply qg|apply qc|apply qf)|exact HB.out))) : w.heap.size ≤ gb185));have n3_:=qd.mk ((by rw [hg];exact (qH (by repeat (first|(with_reducible first|exact HB.out|apply qg|apply qc|apply qf)|exact HB.out))) : w.heap.size ≤ gb185));clear HB;have HB:=n0_;have BK185:=n1_;have GW185:=n2_;have GE185:=n3_;clear n0_ n1_ n2_ n3_;clear hb hbox hg;have hcz10_0 : w9.cell? ⟨gb185,0,none⟩ = some (.int .i64 a2_0):=(qi BK185.out 0).trans rfl;have hcz10_1 : w9.cell? ⟨gb185,1,none⟩ = some (.int .i64 a2_1):=(qi BK185.out 1).trans rfl;have hcz10_2 : w9.cell? ⟨gb185,2,none⟩ = some (.int .i64 a2_2):=(qi BK185.out 2).trans rfl;have hcz10_3 : w9.cell? ⟨gb185,3,none⟩ = some (.int .i64 a2_3):=(qi BK185.out 3).trans rfl;have hfz10_0:=ql BK185.out 0;have hfz10_1:=ql BK185.out 1;have hfz10_2:=ql BK185.out 2;have hfz10_3:=ql BK185.out 3)|((with_reducible refine qZ (f:=22) rfl ?_);refine jL (some 20) rfl rfl Try.func22 (by kernel_rfl) rfl #[.agg #[.int .i64 a2_0,.int .i64 a2_1,.int .i64 a2_2,.int .i64 a2_3]] rfl (by (try simp only [List.map_toArray,List.map_cons,List.map_nil]);first|done|rfl|(simp only [List.length_drop,List.length_take];rfl)) ?_;(with_reducible refine (jZ.calls a2_0 a2_1 a2_2 a2_3 t186 t187 t188 t189 _ A5.out).mono ?_);rintro e w11 ⟨rfl,hb⟩;refine ⟨_,rfl,?_⟩;have n0_:=qd.mk (qR (g:=gb185) (o:=.cells #[.int .i64 a2_0,.int .i64 a2_1,.int .i64 a2_2,.int .i64 a2_3] 23 (0,0)) (by (with_reducible repeat (first|refine qx ?_ _|refine qA ?_|refine qw ?_ _));exact BK185.out) hb);have n1_:=qd.mk (qI (by repeat (first|(with_reducible first|exact HB.out|apply qg|apply qc|apply qf|refine qp ?_ GE185.out)|exact HB.out)) hb);clear BK185;clear HB;have BK185:=n0_;have HB:=n1_;clear n0_ n1_;(try clear hb);(try clear hb2);(try clear hk);(try clear hi))|((with_reducible refine ji (N:=9) rfl ?_);(try (refine jm (by rfl) ?_;dsimp only));refine jg ?hg (N:=9) ?hd (cs:=#[.int .i64 0,.int .i64 0,.int .i64 0,.int .i64 0]) (t:=51) ?hr ?_;(case hd => rfl);(case hg => rfl);(case hr => first|(go_simp;done)|(go_simp;rfl));intro gb190 hg w12 hbox hb;have n0_:=qd.mk (qR (g:=gb185) (o:=.cells #[.int .i64 a2_0,.int .i64 a2_1,.int .i64 a2_2,.int .i64 a2_3] 23 (0,0)) (by (with_reducible repeat (first|refine qx ?_ _|refine qA ?_|refine qw ?_ _));exact BK185.out) hb);have n1_:=qd.mk (qI (by repeat (first|(with_reducible first|exact HB.out|apply qg|apply qc|apply qf|refine qp ?_ GE185.out)|exact HB.out)) hb);have n2_:=qd.mk (hbox);have n3_:=qd.mk ((by rw [hg];exact (qH (by repeat (first|(with_reducible first|exact HB.out|apply qg|apply qc|apply qf|refine qp ?_ GE185.out)|exact HB.out))) : w.heap.size ≤ gb190));have n4_:=qd.mk ((by rw [hg];exact (qH (by repeat (first|(with_reducible first|exact HB.out|apply qg|apply qc|apply qf|refine qp ?_ GE185.out)|exact HB.out))) : w.heap.size ≤ gb190));have n5_:=qd.mk ((by rw [hg];exact Nat.ne_of_lt (jw (g:=gb185) (o:=.cells #[.int .i64 a2_0,.int .i64 a2_1,.int .i64 a2_2,.int .i64 a2_3] 23 (0,0)) (by (with_reducible repeat (first|refine qx ?_ _|refine qA ?_|refine qw ?_ _));exact BK185.out)) : gb185 ≠ gb190));have n6_:=qd.mk ((by rw [hg];exact Nat.ne_of_gt (jw (g:=gb185) (o:=.cells #[.int .i64 a2_0,.int .i64 a2_1,.int .i64 a2_2,.int .i64 a2_3] 23 (0,0)) (by (with_reducible repeat (first|refine qx ?_ _|refine qA ?_|refine qw ?_ _));exact BK185.out)) : gb190 ≠ gb185));clear BK185;clear HB;have BK185:=n0_;have HB:=n1_;have BK190:=n2_;have GW190:=n3_;have GE190:=n4_;have NB185_190:=n5_;have NB190_185:=n6_;clear n0_ n1_ n2_ n3_ n4_ n5_ n6_;clear hb hbox hg;have hnb13:=NB190_185.out;have hnc13:=NB185_190.out;have hcz14_0 : w12.cell? ⟨gb190,0,none⟩ = some (.int .i64 0):=(qi BK190.out 0).trans rfl;have hcz14_1 : w12.cell? ⟨gb190,1,none⟩ = some (.int .i64 0):=(qi BK190.out 1).trans rfl;have hcz14_2 : w12.cell? ⟨gb190,2,none⟩ = some (.int .i64 0):=(qi BK190.out 2).trans rfl;have hcz14_3 : w12.cell? ⟨gb190,3,none⟩ = some (.int .i64 0):=(qi BK190.out 3).trans rfl;have hfz14_0:=ql BK190.out 0;have hfz14_1:=ql BK190.out 1;have hfz14_2:=ql BK190.out 2;have hfz14_3:=ql BK190.out 3;have hcz15_0 : w12.cell? ⟨gb185,0,none⟩ = some (.int .i64 a2_0):=(qi BK185.out 0).trans rfl;have hcz15_1 : w12.cell? ⟨gb185,1,none⟩ = some (.int .i64 a2_1):=(qi BK185.out 1).trans rfl;have hcz15_2 : w12.cell? ⟨gb185,2,none⟩ = some (.int .i64 a2_2):=(qi BK185.out 2).trans rfl;have hcz15_3 : w12.cell? ⟨gb185,3,none⟩ = some (.int .i64 a2_3):=(qi BK185.out 3).trans rfl;have hfz15_0:=ql BK185.out 0;have hfz15_1:=ql BK185.out 1;have hfz15_2:=ql BK185.out 2;have hfz15_3:=ql BK185.out 3)|((with_reducible refine qZ (f:=12) rfl ?_);refine jL (some 25) rfl rfl Try.func12 (by kernel_rfl) rfl #[.string a0,.string a1,.agg #[.int .i64 a2_0,.int .i64 a2_1,.int .i64 a2_2,.int .i64 a2_3]] rfl (by (try simp only [List.map_toArray,List.map_cons,List.map_nil]);first|done|rfl|(simp only [List.length_drop,List.length_take];rfl)) ?_;(with_reducible refine (jr.calls a0 a1 a2_0 a2_1 a2_2 a2_3 t191 t192 _ A6.out).mono ?_);rintro e w16 ⟨rfl,hb⟩;refine ⟨_,rfl,?_⟩;have n0_:=qd.mk (qR (g:=gb185) (o:=.cells #[.int .i64 a2_0,.int .i64 a2_1,.int .i64 a2_2,.int .i64 a2_3] 23 (0,0)) (by (with_reducible repeat (first|refine qx ?_ _|refine qA ?_|refine qw ?_ _));refine j5 ?_ NB185_190.out _;(with_reducible repeat (first|refine qx ?_ _|refine qA ?_|refine qw ?_ _));refine j5 ?_ NB185_190.out _;(with_reducible repeat (first|refine qx ?_ _|refine qA ?_|refine qw ?_ _));refine j5 ?_ NB185_190.out _;(with_reducible repeat (first|refine qx ?_ _|refine qA ?_|refine qw ?_ _));refine j5 ?_ NB185_190.out _;(with_reducible repeat (first|refine qx ?_ _|refine qA ?_|refine qw ?_ _));exact BK185.out) hb);have n1_:=qd.mk (qR (g:=gb190) (o:=.cells #[.int .i64 t186,.int .i64 t187,.int .i64 t188,.int .i64 t189] 51 (0,0)) (by (with_reducible repeat (first|refine qx ?_ _|refine qA ?_|refine qw ?_ _));refine jh (cs:=#[.int .i64 t186,.int .i64 t187,.int .i64 t188,.int .i64 0]) ?_ 3 _ rfl;(with_reducible repeat (first|refine qx ?_ _|refine qA ?_|refine qw ?_ _));refine jh (cs:=#[.int .i64 t186,.int .i64 t187,.int .i64 0,.int .i64 0]) ?_ 2 _ rfl;(with_reducible repeat (first|refine qx ?_ _|refine qA ?_|refine qw ?_ _));refine jh (cs:=#[.int .i64 t186,.int .i64 0,.int .i64 0,.int .i64 0]) ?_ 1 _ rfl;(with_reducible repeat (first|refine qx ?_ _|refine qA ?_|refine qw ?_ _));refine jh (cs:=#[.int .i64 0,.int .i64 0,.int .i64 0,.int .i64 0]) ?_ 0 _ rfl;(with_reducible repeat (first|refine qx ?_ _|refine qA ?_|refine qw ?_ _));exact BK190.out) hb);have n2_:=qd.mk (qI (by repeat (first|(with_reducible first|exact HB.out|apply qg|apply qc|apply qf|refine qp ?_ GE185.out|refine qp ?_ GE190.out)|exact HB.out)) hb);clear BK185;clear BK190;clear HB;have BK185:=n0_;have BK190:=n1_;have HB:=n2_;clear n0_ n1_ n2_;(try clear hb);(try clear hb2);(try clear hk);(try clear hi);have hcz17_0 : w16.cell? ⟨gb190,0,none⟩ = some (.int .i64 t186):=(qi BK190.out 0).trans rfl;have hcz17_1 : w16.cell? ⟨gb190,1,none⟩ = some (.int .i64 t187):=(qi BK190.out 1).trans rfl;have hcz17_2 : w16.cell? ⟨gb190,2,none⟩ = some (.int .i64 t188):=(qi BK190.out 2).trans rfl;have hcz17_3 : w16.cell? ⟨gb190,3,none⟩ = some (.int .i64 t189):=(qi BK190.out 3).trans rfl;have hfz17_0:=ql BK190.out 0;have hfz17_1:=ql BK190.out 1;have hfz17_2:=ql BK190.out 2;have hfz17_3:=ql BK190.out 3)|((with_reducible refine qZ (f:=23) rfl ?_);refine jL (some 32) rfl rfl Try.func23 (by kernel_rfl) rfl #[.string a0,.string a1,.agg #[.int .i64 t186,.int .i64 t187,.int .i64 t188,.int .i64 t189]] rfl (by (try simp only [List.map_toArray,List.map_cons,List.map_nil]);first|done|rfl|(simp only [List.length_drop,List.length_take];rfl)) ?_;(with_reducible refine (qU.calls k a0 a1 t186 t187 t188 t189 t193 t194 _ A7.out).mono ?_);rintro e w18 ⟨rfl,hb⟩;refine ⟨_,rfl,?_⟩;have n0_:=qd.mk (qR (g:=gb185) (o:=.cells #[.int .i64 a2_0,.int .i64 a2_1,.int .i64 a2_2,.int .i64 a2_3] 23 (0,0)) (by (with_reducible repeat (first|refine qx ?_ _|refine qA ?_|refine qw ?_ _));exact BK185.out) hb);have n1_:=qd.mk (qR (g:=gb190) (o:=.cells #[.int .i64 t186,.int .i64 t187,.int .i64 t188,.int .i64 t189] 51 (0,0)) (by (with_reducible repeat (first|refine qx ?_ _|refine qA ?_|refine qw ?_ _));exact BK190.out) hb);have n2_:=qd.mk (qI (by repeat (first|(with_reducible first|exact HB.out|apply qg|apply qc|apply qf|refine qp ?_ GE185.out|refine qp ?_ GE190.out)|exact HB.out)) hb);clear BK185;clear BK190;clear HB;have BK185:=n0_;have BK190:=n1_;have HB:=n2_;clear n0_ n1_ n2_;(try clear hb);(try clear hb2);(try clear hk);(try clear hi)))
  (try simp only [Act.put,List.setIfInBounds_toArray,List.set_cons_zero,List.set_cons_succ])
  go_cut [49] (fun v49 wc => ∃ (kq : Nat) (x49_7 : Bool),v49 = .bool x49_7 ∧ qd (qh.j0 kq a0 a1 a3 t193 t194 x49_7 a2_0 a2_1 a2_2 a2_3 t186 t187 t188 t189 = some r) ∧ qd (kq ≤ k) ∧ qd (wc.heap[gb185]? = some (.cells #[.int .i64 a2_0,.int .i64 a2_1,.int .i64 a2_2,.int .i64 a2_3] 23 (0,0))) ∧ qd (wc.heap[gb190]? = some (.cells #[.int .i64 t186,.int .i64 t187,.int .i64 t188,.int .i64 t189] 51 (0,0))) ∧ qd (Below w.heap.size w wc))
  case first =>
    have H:=HC8.out
    clear HC8
    replace H:=Option.bind_eq_some_iff.mp H
    obtain ⟨t195,A190,H⟩:=H
    replace H : ((q9.f t186 t187 t188 t189).bind fun t196 => (if (t195 != t196) = true then (qh.j0 k a0 a1 a3 t193 t194 true a2_0 a2_1 a2_2 a2_3 t186 t187 t188 t189) else (if t191 = t193 then (qh.j0 k a0 a1 a3 t193 t194 (t192 != t194) a2_0 a2_1 a2_2 a2_3 t186 t187 t188 t189) else (qh.j0 k a0 a1 a3 t193 t194 true a2_0 a2_1 a2_2 a2_3 t186 t187 t188 t189)))) = some r:=H
    have A19:=qd.mk A190
    clear A190
    replace H:=Option.bind_eq_some_iff.mp H
    obtain ⟨t196,A200,H⟩:=H
    replace H : (if (t195 != t196) = true then (qh.j0 k a0 a1 a3 t193 t194 true a2_0 a2_1 a2_2 a2_3 t186 t187 t188 t189) else (if t191 = t193 then (qh.j0 k a0 a1 a3 t193 t194 (t192 != t194) a2_0 a2_1 a2_2 a2_3 t186 t187 t188 t189) else (qh.j0 k a0 a1 a3 t193 t194 true a2_0 a2_1 a2_2 a2_3 t186 t187 t188 t189))) = some r:=H
    have A20:=qd.mk A200
    clear A200
    by_cases c21 : (t195 != t196) = true
    · rw [if_pos c21] at H
      have c21b0 : (t195 != t196) = true:=c21
      (try (have c21b1 : decide (t195 = t196) = false:=by simpa using c21))
      (try (have c21b2 : (t195 == t196) = false:=by simpa using c21))
      (try (have c21b3 : ¬ (t195 = t196):=by simpa using c21))
      clear c21
      (first|rw [c21b0]|(simp only [qE,qF];rw [c21b0])|skip)
      exact absurd (H.trans (congrArg some HRr.out)) (by first|apply no0|apply no1|apply no2)
    · rw [if_neg c21] at H
      have c21b0 : (t195 != t196) = false:=by simpa using c21
      (try (have c21b1 : decide (t195 = t196) = true:=by simpa using c21))
      (try (have c21b2 : (t195 == t196) = true:=by simpa using c21))
      clear c21
      (first|rw [c21b0]|(simp only [qE,qF];rw [c21b0])|skip)
      by_cases c25 : t191 = t193
      · rw [if_pos c25] at H
        have c25b0 : (t191 == t193) = true:=beq_iff_eq.mpr c25
        have c25b1 : (t191 != t193) = false:=bne_eq_false_iff_eq.mpr c25
        clear c25
        have H':=qd.mk H
        clear H
        try go_wp2
        have n0_:=qd.mk (qA BK185.out)
        have n1_:=qd.mk (qA BK190.out)
        have n2_:=qd.mk (qf HB.out)
        clear BK185
        clear BK190
        clear HB
        have BK185:=n0_
        have BK190:=n1_
        have HB:=n2_
        clear n0_ n1_ n2_
        refine zN (n:=15) (S:=fun w' => w'.cell? ⟨gb185,0,none⟩ = some (.int .i64 a2_0) ∧ w'.cell? ⟨gb185,1,none⟩ = some (.int .i64 a2_1) ∧ w'.cell? ⟨gb185,2,none⟩ = some (.int .i64 a2_2) ∧ w'.cell? ⟨gb185,3,none⟩ = some (.int .i64 a2_3) ∧ w'.cell? ⟨gb190,0,none⟩ = some (.int .i64 t186) ∧ w'.cell? ⟨gb190,1,none⟩ = some (.int .i64 t187) ∧ w'.cell? ⟨gb190,2,none⟩ = some (.int .i64 t188) ∧ w'.cell? ⟨gb190,3,none⟩ = some (.int .i64 t189)) (ds:=[]) #[false,false,false,false,false,false,false,false,false,false,false,false,false,false,false] (by kernel_rfl) rfl rfl ⟨(qi BK185.out 0).trans rfl,(qi BK185.out 1).trans rfl,(qi BK185.out 2).trans rfl,(qi BK185.out 3).trans rfl,(qi BK190.out 0).trans rfl,(qi BK190.out 1).trans rfl,(qi BK190.out 2).trans rfl,(qi BK190.out 3).trans rfl⟩ (fun hHeld => ?_);refine jT qh.tab4 qh.Kj (fun HT_ HW_ => ?_)
        generalize w18.drew = w26 at BK185 BK190 HB hHeld ⊢
        refine zz (i:=0) (N:=some 35) (v:=?_) (a':=?_) #[true,false,false,false,false,false,false,false,false,false,false,false,false,false,false] rfl rfl (jF HT_.out HW_.out (by kernel_rfl)) (fun _ _ _ h => h) (Or.inl ⟨by rfl,?_⟩) hHeld ?_ ?_
        rotate_left
        · rintro w' ⟨s0,s1,s2,s3,s4,s5,s6,s7⟩
          go_simp
          with_reducible rfl
        rotate_left
        · simp only [Act.put,List.setIfInBounds_toArray,List.set_cons_zero,List.set_cons_succ,qE,qF]
          rfl
        refine zz (i:=2) (N:=some 37) (v:=?_) (a':=?_) #[true,false,true,false,false,false,false,false,false,false,false,false,false,false,false] rfl rfl (jF HT_.out HW_.out (by kernel_rfl)) (fun _ _ _ h => h) (Or.inl ⟨by rfl,?_⟩) hHeld ?_ ?_
        rotate_left
        · rintro w' ⟨s0,s1,s2,s3,s4,s5,s6,s7⟩
          go_simp
          with_reducible rfl
        rotate_left
        · simp only [Act.put,List.setIfInBounds_toArray,List.set_cons_zero,List.set_cons_succ,qE,qF]
          rfl
        refine one_ (i:=1) (N:=some 36) #[true,true,true,false,false,false,false,false,false,false,false,false,false,false,false] rfl rfl (vM HT_.out (by kernel_rfl)) (by decide) (fun K hK => ?_)
        refine xR Try.func11 (by kernel_rfl) rfl #[.agg #[.int .i64 a2_0,.int .i64 a2_1,.int .i64 a2_2,.int .i64 a2_3]] (by rfl) rfl rfl (by (try simp only [List.map_toArray,List.map_cons,List.map_nil]);first|done|rfl|(simp only [List.length_drop,List.length_take];rfl)) ?_
        with_reducible refine (jH.calls a2_0 a2_1 a2_2 a2_3 t195 _ A19.out).mono ?_
        rintro e w27 ⟨rfl,hb⟩
        refine ⟨_,rfl,?_⟩
        have n0_:=qd.mk (qR (g:=gb185) (o:=.cells #[.int .i64 a2_0,.int .i64 a2_1,.int .i64 a2_2,.int .i64 a2_3] 23 (0,0)) (by (with_reducible repeat (first|refine qx ?_ _|refine qA ?_|refine qw ?_ _));exact BK185.out) hb)
        have n1_:=qd.mk (qR (g:=gb190) (o:=.cells #[.int .i64 t186,.int .i64 t187,.int .i64 t188,.int .i64 t189] 51 (0,0)) (by (with_reducible repeat (first|refine qx ?_ _|refine qA ?_|refine qw ?_ _));exact BK190.out) hb)
        have n2_:=qd.mk (qI (by repeat (first|(with_reducible first|exact HB.out|apply qg|apply qc|apply qf|refine qp ?_ GE185.out|refine qp ?_ GE190.out)|exact HB.out)) hb)
        clear BK185
        clear BK190
        clear HB
        have BK185:=n0_
        have BK190:=n1_
        have HB:=n2_
        clear n0_ n1_ n2_
        (try clear hb)
        (try clear hb2)
        (try clear hk)
        (try clear hi)
        refine hK.out _ _ ⟨(qi BK185.out 0).trans rfl,(qi BK185.out 1).trans rfl,(qi BK185.out 2).trans rfl,(qi BK185.out 3).trans rfl,(qi BK190.out 0).trans rfl,(qi BK190.out 1).trans rfl,(qi BK190.out 2).trans rfl,(qi BK190.out 3).trans rfl⟩ (fun hHeld => ?_)
        clear hK K
        refine yc (a':=?_) ?_ ?_
        rotate_left
        · show Act.put _ (some 36) _ = _
          simp only [Act.put,List.setIfInBounds_toArray,List.set_cons_zero,List.set_cons_succ,qE,qF]
          rfl
        refine one_ (i:=3) (N:=some 38) #[true,true,true,true,false,false,false,false,false,false,false,false,false,false,false] rfl rfl (vM HT_.out (by kernel_rfl)) (by decide) (fun K hK => ?_)
        refine xR Try.func24 (by kernel_rfl) rfl #[.agg #[.int .i64 t186,.int .i64 t187,.int .i64 t188,.int .i64 t189]] (by rfl) rfl rfl (by (try simp only [List.map_toArray,List.map_cons,List.map_nil]);first|done|rfl|(simp only [List.length_drop,List.length_take];rfl)) ?_
        with_reducible refine (q9.calls t186 t187 t188 t189 t196 _ A20.out).mono ?_
        rintro e w28 ⟨rfl,hb⟩
        refine ⟨_,rfl,?_⟩
        have n0_:=qd.mk (qR (g:=gb185) (o:=.cells #[.int .i64 a2_0,.int .i64 a2_1,.int .i64 a2_2,.int .i64 a2_3] 23 (0,0)) (by (with_reducible repeat (first|refine qx ?_ _|refine qA ?_|refine qw ?_ _));exact BK185.out) hb)
        have n1_:=qd.mk (qR (g:=gb190) (o:=.cells #[.int .i64 t186,.int .i64 t187,.int .i64 t188,.int .i64 t189] 51 (0,0)) (by (with_reducible repeat (first|refine qx ?_ _|refine qA ?_|refine qw ?_ _));exact BK190.out) hb)
        have n2_:=qd.mk (qI (by repeat (first|(with_reducible first|exact HB.out|apply qg|apply qc|apply qf|refine qp ?_ GE185.out|refine qp ?_ GE190.out)|exact HB.out)) hb)
        clear BK185
        clear BK190
        clear HB
        have BK185:=n0_
        have BK190:=n1_
        have HB:=n2_
        clear n0_ n1_ n2_
        (try clear hb)
        (try clear hb2)
        (try clear hk)
        (try clear hi)
        refine hK.out _ _ ⟨(qi BK185.out 0).trans rfl,(qi BK185.out 1).trans rfl,(qi BK185.out 2).trans rfl,(qi BK185.out 3).trans rfl,(qi BK190.out 0).trans rfl,(qi BK190.out 1).trans rfl,(qi BK190.out 2).trans rfl,(qi BK190.out 3).trans rfl⟩ (fun hHeld => ?_)
        clear hK K
        refine yc (a':=?_) ?_ ?_
        rotate_left
        · show Act.put _ (some 38) _ = _
          simp only [Act.put,List.setIfInBounds_toArray,List.set_cons_zero,List.set_cons_succ,qE,qF]
          rfl
        refine qL (i:=4) (N:=some 39) (v:=?_) (a':=?_) #[true,true,true,true,true,false,false,false,false,false,false,false,false,false,false] rfl rfl (qD HT_.out (by kernel_rfl)) (fun _ _ _ h => h) (Or.inl ⟨by rfl,?_⟩) ?_ ?_
        rotate_left
        · intro w'
          go_simp
          with_reducible rfl
        rotate_left
        · simp only [Act.put,List.setIfInBounds_toArray,List.set_cons_zero,List.set_cons_succ,qE,qF]
          rfl
        refine qL (i:=5) (N:=some 40) (v:=?_) (a':=?_) #[true,true,true,true,true,true,false,false,false,false,false,false,false,false,false] rfl rfl (qD HT_.out (by kernel_rfl)) (fun _ _ _ h => h) (Or.inl ⟨by rfl,?_⟩) ?_ ?_
        rotate_left
        · intro w'
          go_simp
          with_reducible rfl
        rotate_left
        · simp only [Act.put,List.setIfInBounds_toArray,List.set_cons_zero,List.set_cons_succ,qE,qF]
          rfl
        refine qL (i:=6) (N:=some 41) (v:=?_) (a':=?_) #[true,true,true,true,true,true,true,false,false,false,false,false,false,false,false] rfl rfl (qD HT_.out (by kernel_rfl)) (fun _ _ _ h => h) (Or.inl ⟨by rfl,?_⟩) ?_ ?_
        rotate_left
        · intro w'
          go_simp
          with_reducible rfl
        rotate_left
        · simp only [Act.put,List.setIfInBounds_toArray,List.set_cons_zero,List.set_cons_succ,qE,qF]
          rfl
        refine qL (i:=7) (N:=some 42) (v:=?_) (a':=?_) #[true,true,true,true,true,true,true,true,false,false,false,false,false,false,false] rfl rfl (qD HT_.out (by kernel_rfl)) (fun _ _ _ h => h) (Or.inl ⟨by rfl,?_⟩) ?_ ?_
        rotate_left
        · intro w'
          go_simp
          with_reducible rfl
        rotate_left
        · simp only [Act.put,List.setIfInBounds_toArray,List.set_cons_zero,List.set_cons_succ,qE,qF]
          rfl
        refine qL (i:=8) (N:=some 43) (v:=?_) (a':=?_) #[true,true,true,true,true,true,true,true,true,false,false,false,false,false,false] rfl rfl (qD HT_.out (by kernel_rfl)) (fun _ _ _ h => h) (Or.inl ⟨by rfl,?_⟩) ?_ ?_
        rotate_left
        · intro w'
          go_simp
          with_reducible rfl
        rotate_left
        · simp only [Act.put,List.setIfInBounds_toArray,List.set_cons_zero,List.set_cons_succ,qE,qF]
          rfl
        refine qL (i:=9) (N:=some 44) (v:=?_) (a':=?_) #[true,true,true,true,true,true,true,true,true,true,false,false,false,false,false] rfl rfl (qD HT_.out (by kernel_rfl)) (fun _ _ _ h => h) (Or.inl ⟨by rfl,?_⟩) ?_ ?_
        rotate_left
        · intro w'
          go_simp
          with_reducible rfl
        rotate_left
        · simp only [Act.put,List.setIfInBounds_toArray,List.set_cons_zero,List.set_cons_succ,qE,qF]
          rfl
        refine qL (i:=10) (N:=some 45) (v:=?_) (a':=?_) #[true,true,true,true,true,true,true,true,true,true,true,false,false,false,false] rfl rfl (qD HT_.out (by kernel_rfl)) (fun _ _ _ h => h) (Or.inl ⟨by rfl,?_⟩) ?_ ?_
        rotate_left
        · intro w'
          go_simp
          with_reducible rfl
        rotate_left
        · simp only [Act.put,List.setIfInBounds_toArray,List.set_cons_zero,List.set_cons_succ,qE,qF]
          rfl
        refine qL (i:=11) (N:=some 46) (v:=?_) (a':=?_) #[true,true,true,true,true,true,true,true,true,true,true,true,false,false,false] rfl rfl (qD HT_.out (by kernel_rfl)) (fun _ _ _ h => h) (Or.inl ⟨by rfl,?_⟩) ?_ ?_
        rotate_left
        · intro w'
          go_simp
          with_reducible rfl
        rotate_left
        · simp only [Act.put,List.setIfInBounds_toArray,List.set_cons_zero,List.set_cons_succ,qE,qF]
          rfl
        refine qL (i:=12) (N:=some 47) (v:=?_) (a':=?_) #[true,true,true,true,true,true,true,true,true,true,true,true,true,false,false] rfl rfl (qD HT_.out (by kernel_rfl)) (fun _ _ _ h => h) (Or.inl ⟨by rfl,?_⟩) ?_ ?_
        rotate_left
        · intro w'
          go_simp
          with_reducible rfl
        rotate_left
        · simp only [Act.put,List.setIfInBounds_toArray,List.set_cons_zero,List.set_cons_succ,qE,qF]
          rfl
        refine qL (i:=13) (N:=some 48) (v:=?_) (a':=?_) #[true,true,true,true,true,true,true,true,true,true,true,true,true,true,false] rfl rfl (qD HT_.out (by kernel_rfl)) (fun _ _ _ h => h) (Or.inl ⟨by rfl,?_⟩) ?_ ?_
        rotate_left
        · intro w'
          go_simp
          with_reducible rfl
        rotate_left
        · simp only [Act.put,List.setIfInBounds_toArray,List.set_cons_zero,List.set_cons_succ,qE,qF]
          rfl
        refine qL (i:=14) (N:=some 49) (v:=?_) (a':=?_) #[true,true,true,true,true,true,true,true,true,true,true,true,true,true,true] rfl rfl (qD HT_.out (by kernel_rfl)) (fun _ _ _ h => h) (Or.inl ⟨by rfl,?_⟩) ?_ ?_
        rotate_left
        · intro w'
          go_simp
          with_reducible rfl
        rotate_left
        · simp only [Act.put,List.setIfInBounds_toArray,List.set_cons_zero,List.set_cons_succ,qE,qF]
          rfl
        refine xL (zu HT_.out (by kernel_rfl)) ?_
        try go_wp2
        go_meet
        case rel => exact ⟨_,((t192 != t194)),(by first|rfl|(simp;done)|(simp [*];done)),H',⟨by first|omega|exact Nat.le_refl _⟩,⟨by (with_reducible repeat (first|refine qx ?_ _|refine qA ?_|refine qw ?_ _));exact BK185.out⟩,⟨by (with_reducible repeat (first|refine qx ?_ _|refine qA ?_|refine qw ?_ _));exact BK190.out⟩,⟨by repeat (first|(with_reducible first|exact HB.out|apply qg|apply qc|apply qf|refine qp ?_ GE185.out|refine qp ?_ GE190.out)|exact HB.out)⟩⟩
      · rw [if_neg c25] at H
        have c25b0 : (t191 == t193) = false:=beq_eq_false_iff_ne.mpr c25
        have c25b1 : (t191 != t193) = true:=bne_iff_ne.mpr c25
        exact absurd (H.trans (congrArg some HRr.out)) (by first|apply no0|apply no1|apply no2)
  case rest =>
    clear HC8
    try clear c1
    try clear c2
    try clear p2
    try clear c10
    try clear c11
    try clear c12
    try clear c13
    try clear c21
    try clear c21b0
    try clear c21b1
    try clear c21b2
    try clear c22
    try clear c23
    try clear c24
    try clear c25
    try clear c25b0
    try clear c25b1
    try clear hcz10_0
    try clear hcz10_1
    try clear hcz10_2
    try clear hcz10_3
    try clear hcz14_0
    try clear hcz14_1
    try clear hcz14_2
    try clear hcz14_3
    try clear hcz15_0
    try clear hcz15_1
    try clear hcz15_2
    try clear hcz15_3
    try clear hcz17_0
    try clear hcz17_1
    try clear hcz17_2
    try clear hcz17_3
    try clear hfz10_0
    try clear hfz10_1
    try clear hfz10_2
    try clear hfz10_3
    try clear hfz14_0
    try clear hfz14_1
    try clear hfz14_2
    try clear hfz14_3
    try clear hfz15_0
    try clear hfz15_1
    try clear hfz15_2
    try clear hfz15_3
    try clear hfz17_0
    try clear hfz17_1
    try clear hfz17_2
    try clear hfz17_3
    obtain ⟨kq,x49_7,rfl,HA,HJ7,BK185,BK190,HB⟩:=hcut
    cases kq with
    | zero => exact absurd HA.out (by simp [qh.j0])
    | succ kj7 =>
      have H:=HA.out
      clear HA
      simp only [qh.j0] at H
      by_cases c32 : x49_7 = true
      · subst c32
        have H1 : (some false) = some r:=by rw [if_pos rfl] at H;exact H
        clear H
        have H:=H1
        clear H1
        exact absurd (H.trans (congrArg some HRr.out)) (by simp)
      · replace c32:=Bool.eq_false_iff.mpr c32
        subst c32
        have H1 : ((jE.f a0 a1 a2_0 a2_1 a2_2 a2_3 a3).bind fun bt197 => (if t194 = 0 then (if t193 ≤ a3 then (if bt197.1 = t193 then (if bt197.2.1 = true then (if bt197.2.2 = 0 then (if t193 > a3 then (if bt197.1 = 0 then (qh.j1 kj7 a0 a1 true a2_0 a2_1 a2_2 a2_3 t186 t187 t188 t189) else (qh.j1 kj7 a0 a1 true a2_0 a2_1 a2_2 a2_3 t186 t187 t188 t189)) else (qh.j1 kj7 a0 a1 false a2_0 a2_1 a2_2 a2_3 t186 t187 t188 t189)) else (qh.j1 kj7 a0 a1 true a2_0 a2_1 a2_2 a2_3 t186 t187 t188 t189)) else (qh.j1 kj7 a0 a1 true a2_0 a2_1 a2_2 a2_3 t186 t187 t188 t189)) else (qh.j1 kj7 a0 a1 true a2_0 a2_1 a2_2 a2_3 t186 t187 t188 t189)) else (if t193 > a3 then (if bt197.1 = 0 then (if bt197.2.1 = true then (qh.j1 kj7 a0 a1 true a2_0 a2_1 a2_2 a2_3 t186 t187 t188 t189) else (qh.j1 kj7 a0 a1 (bt197.2.2 != t194) a2_0 a2_1 a2_2 a2_3 t186 t187 t188 t189)) else (qh.j1 kj7 a0 a1 true a2_0 a2_1 a2_2 a2_3 t186 t187 t188 t189)) else (qh.j1 kj7 a0 a1 false a2_0 a2_1 a2_2 a2_3 t186 t187 t188 t189))) else (if bt197.1 = 0 then (if bt197.2.1 = true then (qh.j1 kj7 a0 a1 true a2_0 a2_1 a2_2 a2_3 t186 t187 t188 t189) else (qh.j1 kj7 a0 a1 (bt197.2.2 != t194) a2_0 a2_1 a2_2 a2_3 t186 t187 t188 t189)) else (qh.j1 kj7 a0 a1 true a2_0 a2_1 a2_2 a2_3 t186 t187 t188 t189)))) = some r:=by rw [if_neg (show ¬ (false = true) by decide)] at H;exact H
        clear H
        have H:=H1
        clear H1
        replace H:=Option.bind_eq_some_iff.mp H
        obtain ⟨⟨t197,t198,t199⟩,A330,H⟩:=H
        replace H : (if t194 = 0 then (if t193 ≤ a3 then (if t197 = t193 then (if t198 = true then (if t199 = 0 then (if t193 > a3 then (if t197 = 0 then (qh.j1 kj7 a0 a1 true a2_0 a2_1 a2_2 a2_3 t186 t187 t188 t189) else (qh.j1 kj7 a0 a1 true a2_0 a2_1 a2_2 a2_3 t186 t187 t188 t189)) else (qh.j1 kj7 a0 a1 false a2_0 a2_1 a2_2 a2_3 t186 t187 t188 t189)) else (qh.j1 kj7 a0 a1 true a2_0 a2_1 a2_2 a2_3 t186 t187 t188 t189)) else (qh.j1 kj7 a0 a1 true a2_0 a2_1 a2_2 a2_3 t186 t187 t188 t189)) else (qh.j1 kj7 a0 a1 true a2_0 a2_1 a2_2 a2_3 t186 t187 t188 t189)) else (if t193 > a3 then (if t197 = 0 then (if t198 = true then (qh.j1 kj7 a0 a1 true a2_0 a2_1 a2_2 a2_3 t186 t187 t188 t189) else (qh.j1 kj7 a0 a1 (t199 != t194) a2_0 a2_1 a2_2 a2_3 t186 t187 t188 t189)) else (qh.j1 kj7 a0 a1 true a2_0 a2_1 a2_2 a2_3 t186 t187 t188 t189)) else (qh.j1 kj7 a0 a1 false a2_0 a2_1 a2_2 a2_3 t186 t187 t188 t189))) else (if t197 = 0 then (if t198 = true then (qh.j1 kj7 a0 a1 true a2_0 a2_1 a2_2 a2_3 t186 t187 t188 t189) else (qh.j1 kj7 a0 a1 (t199 != t194) a2_0 a2_1 a2_2 a2_3 t186 t187 t188 t189)) else (qh.j1 kj7 a0 a1 true a2_0 a2_1 a2_2 a2_3 t186 t187 t188 t189))) = some r:=H
        have A33:=qd.mk A330
        clear A330
        have HC34:=qd.mk H
        clear H
        have hnb35:=NB185_190.out
        have hnc35:=NB190_185.out
        have hcz36_0 : wc.cell? ⟨gb185,0,none⟩ = some (.int .i64 a2_0):=(qi BK185.out 0).trans rfl
        have hcz36_1 : wc.cell? ⟨gb185,1,none⟩ = some (.int .i64 a2_1):=(qi BK185.out 1).trans rfl
        have hcz36_2 : wc.cell? ⟨gb185,2,none⟩ = some (.int .i64 a2_2):=(qi BK185.out 2).trans rfl
        have hcz36_3 : wc.cell? ⟨gb185,3,none⟩ = some (.int .i64 a2_3):=(qi BK185.out 3).trans rfl
        have hfz36_0:=ql BK185.out 0
        have hfz36_1:=ql BK185.out 1
        have hfz36_2:=ql BK185.out 2
        have hfz36_3:=ql BK185.out 3
        go_upto_region 7 with (first|((with_reducible refine qZ (f:=19) rfl ?_);refine jL (some 55) rfl rfl Try.func19 (by kernel_rfl) rfl #[.string a0,.string a1,.agg #[.int .i64 a2_0,.int .i64 a2_1,.int .i64 a2_2,.int .i64 a2_3],.int .i64 a3] rfl (by (try simp only [List.map_toArray,List.map_cons,List.map_nil]);first|done|rfl|(simp only [List.length_drop,List.length_take];rfl)) ?_;(with_reducible refine (jE.calls a0 a1 a2_0 a2_1 a2_2 a2_3 a3 t197 t198 t199 _ A33.out).mono ?_);rintro e w37 ⟨rfl,hb⟩;refine ⟨_,rfl,?_⟩;have n0_:=qd.mk (qR (g:=gb185) (o:=.cells #[.int .i64 a2_0,.int .i64 a2_1,.int .i64 a2_2,.int .i64 a2_3] 23 (0,0)) (by (with_reducible repeat (first|refine qx ?_ _|refine qA ?_|refine qw ?_ _));exact BK185.out) hb);have n1_:=qd.mk (qR (g:=gb190) (o:=.cells #[.int .i64 t186,.int .i64 t187,.int .i64 t188,.int .i64 t189] 51 (0,0)) (by (with_reducible repeat (first|refine qx ?_ _|refine qA ?_|refine qw ?_ _));exact BK190.out) hb);have n2_:=qd.mk (qI (by repeat (first|(with_reducible first|exact HB.out|apply qg|apply qc|apply qf|refine qp ?_ GE185.out|refine qp ?_ GE190.out)|exact HB.out)) hb);clear BK185;clear BK190;clear HB;have BK185:=n0_;have BK190:=n1_;have HB:=n2_;clear n0_ n1_ n2_;(try clear hb);(try clear hb2);(try clear hk);(try clear hi)))
        (try simp only [Act.put,List.setIfInBounds_toArray,List.set_cons_zero,List.set_cons_succ])
        go_cut [99] (fun v99 wc => ∃ (kq : Nat) (x99_33 : Bool),v99 = .bool x99_33 ∧ qd (qh.j1 kq a0 a1 x99_33 a2_0 a2_1 a2_2 a2_3 t186 t187 t188 t189 = some r) ∧ qd (kq ≤ kj7) ∧ qd (wc.heap[gb185]? = some (.cells #[.int .i64 a2_0,.int .i64 a2_1,.int .i64 a2_2,.int .i64 a2_3] 23 (0,0))) ∧ qd (wc.heap[gb190]? = some (.cells #[.int .i64 t186,.int .i64 t187,.int .i64 t188,.int .i64 t189] 51 (0,0))) ∧ qd (Below w.heap.size w wc))
        case first =>
          have H:=HC34.out
          clear HC34
          by_cases c38 : t194 = 0
          · rw [if_pos c38] at H
            have c38b0 : (t194 == 0) = true:=beq_iff_eq.mpr c38
            have c38b1 : (t194 != 0) = false:=bne_eq_false_iff_eq.mpr c38
            clear c38
            (first|rw [c38b0]|(simp only [qE,qF];rw [c38b0])|skip)
            by_cases c39 : t193 ≤ a3
            · rw [if_pos c39] at H
              have c39b0 : decide (t193 ≤ a3) = true:=decide_eq_true c39
              clear c39
              by_cases c40 : t197 = t193
              · rw [if_pos c40] at H
                have c40b0 : (t197 == t193) = true:=beq_iff_eq.mpr c40
                have c40b1 : (t197 != t193) = false:=bne_eq_false_iff_eq.mpr c40
                clear c40
                by_cases c41 : t198 = true
                · subst c41
                  have H1 : (if t199 = 0 then (if t193 > a3 then (if t197 = 0 then (qh.j1 kj7 a0 a1 true a2_0 a2_1 a2_2 a2_3 t186 t187 t188 t189) else (qh.j1 kj7 a0 a1 true a2_0 a2_1 a2_2 a2_3 t186 t187 t188 t189)) else (qh.j1 kj7 a0 a1 false a2_0 a2_1 a2_2 a2_3 t186 t187 t188 t189)) else (qh.j1 kj7 a0 a1 true a2_0 a2_1 a2_2 a2_3 t186 t187 t188 t189)) = some r:=by rw [if_pos rfl] at H;exact H
                  clear H
                  have H:=H1
                  clear H1
                  by_cases c42 : t199 = 0
                  · rw [if_pos c42] at H
                    have c42b0 : (t199 == 0) = true:=beq_iff_eq.mpr c42
                    have c42b1 : (t199 != 0) = false:=bne_eq_false_iff_eq.mpr c42
                    clear c42
                    by_cases c43 : t193 > a3
                    · rw [if_pos c43] at H
                      have c43b0 : decide (a3 < t193) = true:=decide_eq_true c43
                      clear c43
                      by_cases c44 : t197 = 0
                      · rw [if_pos c44] at H
                        have c44b0 : (t197 == 0) = true:=beq_iff_eq.mpr c44
                        have c44b1 : (t197 != 0) = false:=bne_eq_false_iff_eq.mpr c44
                        clear c44
                        exact absurd (H.trans (congrArg some HRr.out)) (by first|apply no0|apply no1|apply no2)
                      · rw [if_neg c44] at H
                        have c44b0 : (t197 == 0) = false:=beq_eq_false_iff_ne.mpr c44
                        have c44b1 : (t197 != 0) = true:=bne_iff_ne.mpr c44
                        exact absurd (H.trans (congrArg some HRr.out)) (by first|apply no0|apply no1|apply no2)
                    · rw [if_neg c43] at H
                      have c43b0 : decide (a3 < t193) = false:=decide_eq_false c43
                      clear c43
                      have H':=qd.mk H
                      clear H
                      go_wp2
                      go_meet
                      case rel => exact ⟨_,(false),(by first|rfl|(simp;done)|(simp [*];done)),H',⟨by have:=HJ7.out;first|omega|exact Nat.le_refl _⟩,⟨by (with_reducible repeat (first|refine qx ?_ _|refine qA ?_|refine qw ?_ _));exact BK185.out⟩,⟨by (with_reducible repeat (first|refine qx ?_ _|refine qA ?_|refine qw ?_ _));exact BK190.out⟩,⟨by repeat (first|(with_reducible first|exact HB.out|apply qg|apply qc|apply qf|refine qp ?_ GE185.out|refine qp ?_ GE190.out)|exact HB.out)⟩⟩
                  · rw [if_neg c42] at H
                    have c42b0 : (t199 == 0) = false:=beq_eq_false_iff_ne.mpr c42
                    have c42b1 : (t199 != 0) = true:=bne_iff_ne.mpr c42
                    exact absurd (H.trans (congrArg some HRr.out)) (by first|apply no0|apply no1|apply no2)
                · replace c41:=Bool.eq_false_iff.mpr c41
                  subst c41
                  have H1 : (qh.j1 kj7 a0 a1 true a2_0 a2_1 a2_2 a2_3 t186 t187 t188 t189) = some r:=by rw [if_neg (show ¬ (false = true) by decide)] at H;exact H
                  clear H
                  have H:=H1
                  clear H1
                  exact absurd (H.trans (congrArg some HRr.out)) (by first|apply no0|apply no1|apply no2)
              · rw [if_neg c40] at H
                have c40b0 : (t197 == t193) = false:=beq_eq_false_iff_ne.mpr c40
                have c40b1 : (t197 != t193) = true:=bne_iff_ne.mpr c40
                exact absurd (H.trans (congrArg some HRr.out)) (by first|apply no0|apply no1|apply no2)
            · rw [if_neg c39] at H
              have c39b0 : decide (t193 ≤ a3) = false:=decide_eq_false c39
              clear c39
              by_cases c45 : t193 > a3
              · rw [if_pos c45] at H
                have c45b0 : decide (a3 < t193) = true:=decide_eq_true c45
                clear c45
                by_cases c46 : t197 = 0
                · rw [if_pos c46] at H
                  have c46b0 : (t197 == 0) = true:=beq_iff_eq.mpr c46
                  have c46b1 : (t197 != 0) = false:=bne_eq_false_iff_eq.mpr c46
                  clear c46
                  by_cases c47 : t198 = true
                  · subst c47
                    have H1 : (qh.j1 kj7 a0 a1 true a2_0 a2_1 a2_2 a2_3 t186 t187 t188 t189) = some r:=by rw [if_pos rfl] at H;exact H
                    clear H
                    have H:=H1
                    clear H1
                    exact absurd (H.trans (congrArg some HRr.out)) (by first|apply no0|apply no1|apply no2)
                  · replace c47:=Bool.eq_false_iff.mpr c47
                    subst c47
                    have H1 : (qh.j1 kj7 a0 a1 (t199 != t194) a2_0 a2_1 a2_2 a2_3 t186 t187 t188 t189) = some r:=by rw [if_neg (show ¬ (false = true) by decide)] at H;exact H
                    clear H
                    have H:=H1
                    clear H1
                    have H':=qd.mk H
                    clear H
                    go_wp2
                    go_meet
                    case rel => exact ⟨_,((t199 != t194)),(by first|rfl|(simp;done)|(simp [*];done)),H',⟨by have:=HJ7.out;first|omega|exact Nat.le_refl _⟩,⟨by (with_reducible repeat (first|refine qx ?_ _|refine qA ?_|refine qw ?_ _));exact BK185.out⟩,⟨by (with_reducible repeat (first|refine qx ?_ _|refine qA ?_|refine qw ?_ _));exact BK190.out⟩,⟨by repeat (first|(with_reducible first|exact HB.out|apply qg|apply qc|apply qf|refine qp ?_ GE185.out|refine qp ?_ GE190.out)|exact HB.out)⟩⟩
                · rw [if_neg c46] at H
                  have c46b0 : (t197 == 0) = false:=beq_eq_false_iff_ne.mpr c46
                  have c46b1 : (t197 != 0) = true:=bne_iff_ne.mpr c46
                  exact absurd (H.trans (congrArg some HRr.out)) (by first|apply no0|apply no1|apply no2)
              · rw [if_neg c45] at H
                have c45b0 : decide (a3 < t193) = false:=decide_eq_false c45
                clear c45
                have H':=qd.mk H
                clear H
                go_wp2
                go_meet
                case rel => exact ⟨_,(false),(by first|rfl|(simp;done)|(simp [*];done)),H',⟨by have:=HJ7.out;first|omega|exact Nat.le_refl _⟩,⟨by (with_reducible repeat (first|refine qx ?_ _|refine qA ?_|refine qw ?_ _));exact BK185.out⟩,⟨by (with_reducible repeat (first|refine qx ?_ _|refine qA ?_|refine qw ?_ _));exact BK190.out⟩,⟨by repeat (first|(with_reducible first|exact HB.out|apply qg|apply qc|apply qf|refine qp ?_ GE185.out|refine qp ?_ GE190.out)|exact HB.out)⟩⟩
          · rw [if_neg c38] at H
            have c38b0 : (t194 == 0) = false:=beq_eq_false_iff_ne.mpr c38
            have c38b1 : (t194 != 0) = true:=bne_iff_ne.mpr c38
            (first|rw [c38b0]|(simp only [qE,qF];rw [c38b0])|skip)
            by_cases c48 : t197 = 0
            · rw [if_pos c48] at H
              have c48b0 : (t197 == 0) = true:=beq_iff_eq.mpr c48
              have c48b1 : (t197 != 0) = false:=bne_eq_false_iff_eq.mpr c48
              clear c48
              by_cases c49 : t198 = true
              · subst c49
                have H1 : (qh.j1 kj7 a0 a1 true a2_0 a2_1 a2_2 a2_3 t186 t187 t188 t189) = some r:=by rw [if_pos rfl] at H;exact H
                clear H
                have H:=H1
                clear H1
                exact absurd (H.trans (congrArg some HRr.out)) (by first|apply no0|apply no1|apply no2)
              · replace c49:=Bool.eq_false_iff.mpr c49
                subst c49
                have H1 : (qh.j1 kj7 a0 a1 (t199 != t194) a2_0 a2_1 a2_2 a2_3 t186 t187 t188 t189) = some r:=by rw [if_neg (show ¬ (false = true) by decide)] at H;exact H
                clear H
                have H:=H1
                clear H1
                have H':=qd.mk H
                clear H
                go_wp2
                go_meet
                case rel => exact ⟨_,((t199 != t194)),(by first|rfl|(simp;done)|(simp [*];done)),H',⟨by have:=HJ7.out;first|omega|exact Nat.le_refl _⟩,⟨by (with_reducible repeat (first|refine qx ?_ _|refine qA ?_|refine qw ?_ _));exact BK185.out⟩,⟨by (with_reducible repeat (first|refine qx ?_ _|refine qA ?_|refine qw ?_ _));exact BK190.out⟩,⟨by repeat (first|(with_reducible first|exact HB.out|apply qg|apply qc|apply qf|refine qp ?_ GE185.out|refine qp ?_ GE190.out)|exact HB.out)⟩⟩
            · rw [if_neg c48] at H
              have c48b0 : (t197 == 0) = false:=beq_eq_false_iff_ne.mpr c48
              have c48b1 : (t197 != 0) = true:=bne_iff_ne.mpr c48
              exact absurd (H.trans (congrArg some HRr.out)) (by first|apply no0|apply no1|apply no2)
        case rest =>
          clear HC34
          try clear c1
          try clear c2
          try clear p2
          try clear c3
          try clear c4
          try clear c10
          try clear c11
          try clear c12
          try clear c13
          try clear c19
          try clear c21
          try clear c21b0
          try clear c21b1
          try clear c21b2
          try clear c22
          try clear c23
          try clear c24
          try clear c25
          try clear c25b0
          try clear c25b1
          try clear c32
          try clear c35
          try clear c38
          try clear c38b0
          try clear c38b1
          try clear c39
          try clear c39b0
          try clear c40
          try clear c40b0
          try clear c40b1
          try clear c41
          try clear c42
          try clear c42b0
          try clear c42b1
          try clear c43
          try clear c43b0
          try clear c44
          try clear c44b0
          try clear c44b1
          try clear c45
          try clear c45b0
          try clear c46
          try clear c46b0
          try clear c46b1
          try clear c47
          try clear c48
          try clear c48b0
          try clear c48b1
          try clear c49
          try clear hcz10_0
          try clear hcz10_1
          try clear hcz10_2
          try clear hcz10_3
          try clear hcz14_0
          try clear hcz14_1
          try clear hcz14_2
          try clear hcz14_3
          try clear hcz15_0
          try clear hcz15_1
          try clear hcz15_2
          try clear hcz15_3
          try clear hcz17_0
          try clear hcz17_1
          try clear hcz17_2
          try clear hcz17_3
          try clear hcz36_0
          try clear hcz36_1
          try clear hcz36_2
          try clear hcz36_3
          try clear hfz10_0
          try clear hfz10_1
          try clear hfz10_2
          try clear hfz10_3
          try clear hfz14_0
          try clear hfz14_1
          try clear hfz14_2
          try clear hfz14_3
          try clear hfz15_0
          try clear hfz15_1
          try clear hfz15_2
          try clear hfz15_3
          try clear hfz17_0
          try clear hfz17_1
          try clear hfz17_2
          try clear hfz17_3
          try clear hfz36_0
          try clear hfz36_1
          try clear hfz36_2
          try clear hfz36_3
          try clear p2
          obtain ⟨kq,x99_33,rfl,HA,HJ33,BK185,BK190,HB⟩:=hcut
          cases kq with
          | zero => exact absurd HA.out (by simp [qh.j1])
          | succ kj33 =>
            have H:=HA.out
            clear HA
            simp only [qh.j1] at H
            by_cases c50 : x99_33 = true
            · subst c50
              have H1 : (some false) = some r:=by rw [if_pos rfl] at H;exact H
              clear H
              have H:=H1
              clear H1
              exact absurd (H.trans (congrArg some HRr.out)) (by simp)
            · replace c50:=Bool.eq_false_iff.mpr c50
              subst c50
              have H1 : ((zI.f a0 a1 a2_0 a2_1 a2_2 a2_3).bind fun bt200 => ((qm.f kj33 a0 a1 t186 t187 t188 t189).bind fun bt205 => (if bt200.2.1 = bt205.2.1 then (if bt200.2.2 = bt205.2.2 then (qh.j2 kj33 bt200.1 bt205.1 ((bt200.1.length : Int) != (bt205.1.length : Int))) else (qh.j2 kj33 bt200.1 bt205.1 true)) else (qh.j2 kj33 bt200.1 bt205.1 true)))) = some r:=by rw [if_neg (show ¬ (false = true) by decide)] at H;exact H
              clear H
              have H:=H1
              clear H1
              replace H:=Option.bind_eq_some_iff.mp H
              obtain ⟨⟨t200,t203,t204⟩,A510,H⟩:=H
              replace H : ((qm.f kj33 a0 a1 t186 t187 t188 t189).bind fun bt205 => (if t203 = bt205.2.1 then (if t204 = bt205.2.2 then (qh.j2 kj33 t200 bt205.1 ((t200.length : Int) != (bt205.1.length : Int))) else (qh.j2 kj33 t200 bt205.1 true)) else (qh.j2 kj33 t200 bt205.1 true))) = some r:=H
              have A51:=qd.mk A510
              clear A510
              replace H:=Option.bind_eq_some_iff.mp H
              obtain ⟨⟨t205,t208,t209⟩,A520,H⟩:=H
              replace H : (if t203 = t208 then (if t204 = t209 then (qh.j2 kj33 t200 t205 ((t200.length : Int) != (t205.length : Int))) else (qh.j2 kj33 t200 t205 true)) else (qh.j2 kj33 t200 t205 true)) = some r:=H
              have A52:=qd.mk A520
              clear A520
              have HC53:=qd.mk H
              clear H
              have hnb54:=NB185_190.out
              have hnc54:=NB190_185.out
              have hcz55_0 : wc.cell? ⟨gb185,0,none⟩ = some (.int .i64 a2_0):=(qi BK185.out 0).trans rfl
              have hcz55_1 : wc.cell? ⟨gb185,1,none⟩ = some (.int .i64 a2_1):=(qi BK185.out 1).trans rfl
              have hcz55_2 : wc.cell? ⟨gb185,2,none⟩ = some (.int .i64 a2_2):=(qi BK185.out 2).trans rfl
              have hcz55_3 : wc.cell? ⟨gb185,3,none⟩ = some (.int .i64 a2_3):=(qi BK185.out 3).trans rfl
              have hfz55_0:=ql BK185.out 0
              have hfz55_1:=ql BK185.out 1
              have hfz55_2:=ql BK185.out 2
              have hfz55_3:=ql BK185.out 3
              go_upto_region 11 with (first|((with_reducible refine qZ (f:=14) rfl ?_);refine jL (some 104) rfl rfl Try.func14 (by kernel_rfl) rfl #[.string a0,.string a1,.agg #[.int .i64 a2_0,.int .i64 a2_1,.int .i64 a2_2,.int .i64 a2_3]] rfl (by (try simp only [List.map_toArray,List.map_cons,List.map_nil]);first|done|rfl|(simp only [List.length_drop,List.length_take];rfl)) ?_;(with_reducible refine (zI.calls a0 a1 a2_0 a2_1 a2_2 a2_3 t200 t203 t204 _ A51.out).mono ?_);rintro e w56 ⟨v201,rfl,ho0,hb⟩;refine ⟨_,rfl,?_⟩;have n0_:=qd.mk (Kd.jS ho0 (qH (by repeat (first|(with_reducible first|exact HB.out|apply qg|apply qc|apply qf|refine qp ?_ GE185.out|refine qp ?_ GE190.out)|exact HB.out))));have n1_:=qd.mk (qR (g:=gb185) (o:=.cells #[.int .i64 a2_0,.int .i64 a2_1,.int .i64 a2_2,.int .i64 a2_3] 23 (0,0)) (by (with_reducible repeat (first|refine qx ?_ _|refine qA ?_|refine qw ?_ _));exact BK185.out) hb);have n2_:=qd.mk (qR (g:=gb190) (o:=.cells #[.int .i64 t186,.int .i64 t187,.int .i64 t188,.int .i64 t189] 51 (0,0)) (by (with_reducible repeat (first|refine qx ?_ _|refine qA ?_|refine qw ?_ _));exact BK190.out) hb);have n3_:=qd.mk (qI (by repeat (first|(with_reducible first|exact HB.out|apply qg|apply qc|apply qf|refine qp ?_ GE185.out|refine qp ?_ GE190.out)|exact HB.out)) hb);clear BK185;clear BK190;clear HB;have HO202:=n0_;have BK185:=n1_;have BK190:=n2_;have HB:=n3_;clear n0_ n1_ n2_ n3_;(try clear hb);(try clear hb2);(try clear hk);(try clear hi);(try clear ho0);have hcz57_0 : w56.cell? ⟨gb190,0,none⟩ = some (.int .i64 t186):=(qi BK190.out 0).trans rfl;have hcz57_1 : w56.cell? ⟨gb190,1,none⟩ = some (.int .i64 t187):=(qi BK190.out 1).trans rfl;have hcz57_2 : w56.cell? ⟨gb190,2,none⟩ = some (.int .i64 t188):=(qi BK190.out 2).trans rfl;have hcz57_3 : w56.cell? ⟨gb190,3,none⟩ = some (.int .i64 t189):=(qi BK190.out 3).trans rfl;have hfz57_0:=ql BK190.out 0;have hfz57_1:=ql BK190.out 1;have hfz57_2:=ql BK190.out 2;have hfz57_3:=ql BK190.out 3)|((with_reducible refine qZ (f:=25) rfl ?_);refine jL (some 112) rfl rfl Try.func25 (by kernel_rfl) rfl #[.string a0,.string a1,.agg #[.int .i64 t186,.int .i64 t187,.int .i64 t188,.int .i64 t189]] rfl (by (try simp only [List.map_toArray,List.map_cons,List.map_nil]);first|done|rfl|(simp only [List.length_drop,List.length_take];rfl)) ?_;(with_reducible refine (qm.calls kj33 a0 a1 t186 t187 t188 t189 t205 t208 t209 _ A52.out).mono ?_);rintro e w58 ⟨v206,rfl,ho0,hb⟩;refine ⟨_,rfl,?_⟩;have n0_:=qd.mk (Kd.qN (by (with_reducible repeat (first|apply Kd.qy|apply Kd.qz|apply Kd.qC));exact HO202.out) hb);have n1_:=qd.mk (Kd.jS ho0 (qH (by repeat (first|(with_reducible first|exact HB.out|apply qg|apply qc|apply qf|refine qp ?_ GE185.out|refine qp ?_ GE190.out)|exact HB.out))));have n2_:=qd.mk (qR (g:=gb185) (o:=.cells #[.int .i64 a2_0,.int .i64 a2_1,.int .i64 a2_2,.int .i64 a2_3] 23 (0,0)) (by (with_reducible repeat (first|refine qx ?_ _|refine qA ?_|refine qw ?_ _));exact BK185.out) hb);have n3_:=qd.mk (qR (g:=gb190) (o:=.cells #[.int .i64 t186,.int .i64 t187,.int .i64 t188,.int .i64 t189] 51 (0,0)) (by (with_reducible repeat (first|refine qx ?_ _|refine qA ?_|refine qw ?_ _));exact BK190.out) hb);have n4_:=qd.mk (qI (by repeat (first|(with_reducible first|exact HB.out|apply qg|apply qc|apply qf|refine qp ?_ GE185.out|refine qp ?_ GE190.out)|exact HB.out)) hb);clear HO202;clear BK185;clear BK190;clear HB;have HO202:=n0_;have HO207:=n1_;have BK185:=n2_;have BK190:=n3_;have HB:=n4_;clear n0_ n1_ n2_ n3_ n4_;(try clear hb);(try clear hb2);(try clear hk);(try clear hi);(try clear ho0)))
              (try simp only [Act.put,List.setIfInBounds_toArray,List.set_cons_zero,List.set_cons_succ])
              go_cut [130] (fun v130 wc => ∃ (kq : Nat) (x130_52 : Bool),v130 = .bool x130_52 ∧ qd (qh.j2 kq t200 t205 x130_52 = some r) ∧ qd (kq ≤ kj33) ∧ qd (Kd.R k38 38 wc w.heap.size (fun _ => True) v201 t200) ∧ qd (Kd.R k59 59 wc w.heap.size (fun _ => True) v206 t205) ∧ qd (wc.heap[gb185]? = some (.cells #[.int .i64 a2_0,.int .i64 a2_1,.int .i64 a2_2,.int .i64 a2_3] 23 (0,0))) ∧ qd (wc.heap[gb190]? = some (.cells #[.int .i64 t186,.int .i64 t187,.int .i64 t188,.int .i64 t189] 51 (0,0))) ∧ qd (Below w.heap.size w wc))
              case first =>
                have H:=HC53.out
                clear HC53
                by_cases c59 : t203 = t208
                · rw [if_pos c59] at H
                  have c59b0 : (t203 == t208) = true:=beq_iff_eq.mpr c59
                  have c59b1 : (t203 != t208) = false:=bne_eq_false_iff_eq.mpr c59
                  clear c59
                  (first|rw [c59b0]|(simp only [qE,qF];rw [c59b0])|skip)
                  by_cases c60 : t204 = t209
                  · rw [if_pos c60] at H
                    have c60b0 : (t204 == t209) = true:=beq_iff_eq.mpr c60
                    have c60b1 : (t204 != t209) = false:=bne_eq_false_iff_eq.mpr c60
                    clear c60
                    have H':=qd.mk H
                    clear H
                    obtain ⟨Ao61,co61,eo61⟩:=Kd.jk HO202.out
                    subst eo61
                    obtain ⟨Ao62,co62,eo62⟩:=Kd.jk HO207.out
                    subst eo62
                    go_wp2
                    go_meet
                    case rel => exact ⟨_,(((t200.length : Int) != (t205.length : Int))),(by first|rfl|(simp;done)|(simp [*];done)),H',⟨by have:=HJ7.out;have:=HJ33.out;first|omega|exact Nat.le_refl _⟩,⟨by (with_reducible repeat (first|apply Kd.qy|apply Kd.qz|apply Kd.qC));exact HO202.out⟩,⟨by (with_reducible repeat (first|apply Kd.qy|apply Kd.qz|apply Kd.qC));exact HO207.out⟩,⟨by (with_reducible repeat (first|refine qx ?_ _|refine qA ?_|refine qw ?_ _));exact BK185.out⟩,⟨by (with_reducible repeat (first|refine qx ?_ _|refine qA ?_|refine qw ?_ _));exact BK190.out⟩,⟨by repeat (first|(with_reducible first|exact HB.out|apply qg|apply qc|apply qf|refine qp ?_ GE185.out|refine qp ?_ GE190.out)|exact HB.out)⟩⟩
                  · rw [if_neg c60] at H
                    have c60b0 : (t204 == t209) = false:=beq_eq_false_iff_ne.mpr c60
                    have c60b1 : (t204 != t209) = true:=bne_iff_ne.mpr c60
                    exact absurd (H.trans (congrArg some HRr.out)) (by first|apply no0|apply no1|apply no2)
                · rw [if_neg c59] at H
                  have c59b0 : (t203 == t208) = false:=beq_eq_false_iff_ne.mpr c59
                  have c59b1 : (t203 != t208) = true:=bne_iff_ne.mpr c59
                  (first|rw [c59b0]|(simp only [qE,qF];rw [c59b0])|skip)
                  exact absurd (H.trans (congrArg some HRr.out)) (by first|apply no0|apply no1|apply no2)
              case rest =>
                clear HC53
                try clear c1
                try clear c2
                try clear p2
                try clear c3
                try clear c4
                try clear c5
                try clear c6
                try clear c10
                try clear c11
                try clear c12
                try clear c13
                try clear c14
                try clear c19
                try clear c21
                try clear c21b0
                try clear c21b1
                try clear c21b2
                try clear c22
                try clear c23
                try clear c24
                try clear c25
                try clear c25b0
                try clear c25b1
                try clear c32
                try clear c35
                try clear c38
                try clear c38b0
                try clear c38b1
                try clear c39
                try clear c39b0
                try clear c40
                try clear c40b0
                try clear c40b1
                try clear c41
                try clear c42
                try clear c42b0
                try clear c42b1
                try clear c43
                try clear c43b0
                try clear c44
                try clear c44b0
                try clear c44b1
                try clear c45
                try clear c45b0
                try clear c46
                try clear c46b0
                try clear c46b1
                try clear c47
                try clear c48
                try clear c48b0
                try clear c48b1
                try clear c49
                try clear c50
                try clear c54
                try clear c59
                try clear c59b0
                try clear c59b1
                try clear c60
                try clear c60b0
                try clear c60b1
                try clear hcz10_0
                try clear hcz10_1
                try clear hcz10_2
                try clear hcz10_3
                try clear hcz14_0
                try clear hcz14_1
                try clear hcz14_2
                try clear hcz14_3
                try clear hcz15_0
                try clear hcz15_1
                try clear hcz15_2
                try clear hcz15_3
                try clear hcz17_0
                try clear hcz17_1
                try clear hcz17_2
                try clear hcz17_3
                try clear hcz36_0
                try clear hcz36_1
                try clear hcz36_2
                try clear hcz36_3
                try clear hcz55_0
                try clear hcz55_1
                try clear hcz55_2
                try clear hcz55_3
                try clear hcz57_0
                try clear hcz57_1
                try clear hcz57_2
                try clear hcz57_3
                try clear hfz10_0
                try clear hfz10_1
                try clear hfz10_2
                try clear hfz10_3
                try clear hfz14_0
                try clear hfz14_1
                try clear hfz14_2
                try clear hfz14_3
                try clear hfz15_0
                try clear hfz15_1
                try clear hfz15_2
                try clear hfz15_3
                try clear hfz17_0
                try clear hfz17_1
                try clear hfz17_2
                try clear hfz17_3
                try clear hfz36_0
                try clear hfz36_1
                try clear hfz36_2
                try clear hfz36_3
                try clear hfz55_0
                try clear hfz55_1
                try clear hfz55_2
                try clear hfz55_3
                try clear hfz57_0
                try clear hfz57_1
                try clear hfz57_2
                try clear hfz57_3
                try clear p2
                obtain ⟨kq,x130_52,rfl,HA,HJ52,HO_16,HO_17,BK185,BK190,HB⟩:=hcut
                cases kq with
                | zero => exact absurd HA.out (by simp [qh.j2])
                | succ kj52 =>
                  have H:=HA.out
                  clear HA
                  simp only [qh.j2] at H
                  by_cases c63 : x130_52 = true
                  · subst c63
                    have H1 : (some false) = some r:=by rw [if_pos rfl] at H;exact H
                    clear H
                    have H:=H1
                    clear H1
                    exact absurd (H.trans (congrArg some HRr.out)) (by simp)
                  · replace c63:=Bool.eq_false_iff.mpr c63
                    subst c63
                    have H1 : (qh.l0 kj52 t200 t205 0) = some r:=by rw [if_neg (show ¬ (false = true) by decide)] at H;exact H
                    clear H
                    have H:=H1
                    clear H1
                    have H':=qd.mk H
                    clear H
                    go_wp2
                    go_loopg [18] kj52 (fun kq v18 w' => ∃ (x18_4 : Int),v18 = .int .i64 x18_4 ∧ qd (qh.l0 kq t200 t205 x18_4 = some r) ∧ qd (kq ≤ kj52) ∧ qd (Kd.R k38 38 w' w.heap.size (fun _ => True) v201 t200) ∧ qd (Kd.R k59 59 w' w.heap.size (fun _ => True) v206 t205) ∧ qd (w'.heap[gb185]? = some (.cells #[.int .i64 a2_0,.int .i64 a2_1,.int .i64 a2_2,.int .i64 a2_3] 23 (0,0))) ∧ qd (w'.heap[gb190]? = some (.cells #[.int .i64 t186,.int .i64 t187,.int .i64 t188,.int .i64 t189] 51 (0,0))) ∧ qd (Below w.heap.size w w'))
                    case atStart => exact ⟨(0),(by first|rfl|(simp;done)|(simp [*];done)),H',⟨Nat.le_refl _⟩,⟨by (with_reducible repeat (first|apply Kd.qy|apply Kd.qz|apply Kd.qC));exact HO_16.out⟩,⟨by (with_reducible repeat (first|apply Kd.qy|apply Kd.qz|apply Kd.qC));exact HO_17.out⟩,⟨by (with_reducible repeat (first|refine qx ?_ _|refine qA ?_|refine qw ?_ _));exact BK185.out⟩,⟨by (with_reducible repeat (first|refine qx ?_ _|refine qA ?_|refine qw ?_ _));exact BK190.out⟩,⟨by repeat (first|(with_reducible first|exact HB.out|apply qg|apply qc|apply qf|refine qp ?_ GE185.out|refine qp ?_ GE190.out)|exact HB.out)⟩⟩
                    case round =>
                      clear H'
                      try clear c1
                      try clear c2
                      try clear p2
                      try clear c3
                      try clear c4
                      try clear c5
                      try clear c6
                      try clear c10
                      try clear c11
                      try clear c12
                      try clear c13
                      try clear c14
                      try clear c19
                      try clear c21
                      try clear c21b0
                      try clear c21b1
                      try clear c21b2
                      try clear c22
                      try clear c23
                      try clear c24
                      try clear c25
                      try clear c25b0
                      try clear c25b1
                      try clear c32
                      try clear c35
                      try clear c38
                      try clear c38b0
                      try clear c38b1
                      try clear c39
                      try clear c39b0
                      try clear c40
                      try clear c40b0
                      try clear c40b1
                      try clear c41
                      try clear c42
                      try clear c42b0
                      try clear c42b1
                      try clear c43
                      try clear c43b0
                      try clear c44
                      try clear c44b0
                      try clear c44b1
                      try clear c45
                      try clear c45b0
                      try clear c46
                      try clear c46b0
                      try clear c46b1
                      try clear c47
                      try clear c48
                      try clear c48b0
                      try clear c48b1
                      try clear c49
                      try clear c50
                      try clear c54
                      try clear c59
                      try clear c59b0
                      try clear c59b1
                      try clear c60
                      try clear c60b0
                      try clear c60b1
                      try clear c63
                      try clear hcz10_0
                      try clear hcz10_1
                      try clear hcz10_2
                      try clear hcz10_3
                      try clear hcz14_0
                      try clear hcz14_1
                      try clear hcz14_2
                      try clear hcz14_3
                      try clear hcz15_0
                      try clear hcz15_1
                      try clear hcz15_2
                      try clear hcz15_3
                      try clear hcz17_0
                      try clear hcz17_1
                      try clear hcz17_2
                      try clear hcz17_3
                      try clear hcz36_0
                      try clear hcz36_1
                      try clear hcz36_2
                      try clear hcz36_3
                      try clear hcz55_0
                      try clear hcz55_1
                      try clear hcz55_2
                      try clear hcz55_3
                      try clear hcz57_0
                      try clear hcz57_1
                      try clear hcz57_2
                      try clear hcz57_3
                      try clear hfz10_0
                      try clear hfz10_1
                      try clear hfz10_2
                      try clear hfz10_3
                      try clear hfz14_0
                      try clear hfz14_1
                      try clear hfz14_2
                      try clear hfz14_3
                      try clear hfz15_0
                      try clear hfz15_1
                      try clear hfz15_2
                      try clear hfz15_3
                      try clear hfz17_0
                      try clear hfz17_1
                      try clear hfz17_2
                      try clear hfz17_3
                      try clear hfz36_0
                      try clear hfz36_1
                      try clear hfz36_2
                      try clear hfz36_3
                      try clear hfz55_0
                      try clear hfz55_1
                      try clear hfz55_2
                      try clear hfz55_3
                      try clear hfz57_0
                      try clear hfz57_1
                      try clear hfz57_2
                      try clear hfz57_3
                      try clear p2
                      obtain ⟨x18_4,rfl,HA,HK4,HO_16,HO_17,BK185,BK190,HB⟩:=hrel
                      cases gk with
                      | zero => exact absurd HA.out (by simp [qh.l0])
                      | succ k4 =>
                        have H:=HA.out
                        clear HA
                        simp only [qh.l0] at H
                        by_cases c64 : x18_4 < (t200.length : Int)
                        · rw [if_pos c64] at H
                          have c64b0 : decide (x18_4 < (t200.length : Int)) = true:=decide_eq_true c64
                          clear c64
                          by_cases c65 : 0 ≤ x18_4
                          · rw [if_pos c65] at H
                            have c65b0 : decide (0 ≤ x18_4) = true:=decide_eq_true c65
                            clear c65
                            by_cases c66 : x18_4 < (t205.length : Int)
                            · rw [if_pos c66] at H
                              have c66b0 : decide (x18_4 < (t205.length : Int)) = true:=decide_eq_true c66
                              clear c66
                              by_cases c67 : ((qJ t200 x18_4).f0) = ((zM t205 x18_4).f0)
                              · rw [if_pos c67] at H
                                have c67b0 : (((qJ t200 x18_4).f0) == ((zM t205 x18_4).f0)) = true:=beq_iff_eq.mpr c67
                                have c67b1 : (((qJ t200 x18_4).f0) != ((zM t205 x18_4).f0)) = false:=bne_eq_false_iff_eq.mpr c67
                                clear c67
                                by_cases c68 : ((qJ t200 x18_4).f1) = ((zM t205 x18_4).f1)
                                · rw [if_pos c68] at H
                                  have c68b0 : (((qJ t200 x18_4).f1) == ((zM t205 x18_4).f1)) = true:=beq_iff_eq.mpr c68
                                  have c68b1 : (((qJ t200 x18_4).f1) != ((zM t205 x18_4).f1)) = false:=bne_eq_false_iff_eq.mpr c68
                                  clear c68
                                  have H':=qd.mk H
                                  clear H
                                  obtain ⟨Ao69,co69,eo69⟩:=Kd.jk HO_16.out
                                  subst eo69
                                  try go_wp2
                                  have n0_:=qd.mk (Kd.qC HO_16.out)
                                  have n1_:=qd.mk (Kd.qC HO_17.out)
                                  have n2_:=qd.mk (qA BK185.out)
                                  have n3_:=qd.mk (qA BK190.out)
                                  have n4_:=qd.mk (qf HB.out)
                                  clear HO_16
                                  clear HO_17
                                  clear BK185
                                  clear BK190
                                  clear HB
                                  have HO_16:=n0_
                                  have HO_17:=n1_
                                  have BK185:=n2_
                                  have BK190:=n3_
                                  have HB:=n4_
                                  clear n0_ n1_ n2_ n3_ n4_
                                  have p210 : 0 ≤ (x18_4 : Int):=of_decide_eq_true (by first|(with_reducible assumption)|assumption)
                                  have q210 : x18_4 < (t200.length : Int):=of_decide_eq_true (by first|(with_reducible assumption)|assumption)
                                  obtain ⟨ad210,e210,hx210_0,hx210_1⟩:=vD (Kd.je HO_16.out).2.2 x18_4 p210 q210
                                  cases e210
                                  replace p210:=eq_true p210
                                  replace q210:=eq_true q210
                                  obtain ⟨Ao71,co71,eo71⟩:=Kd.jk HO_17.out
                                  (first|subst eo71|(injection eo71 with f1_ f2_ f3_;have f4_:=f1_.symm;have f5_:=f3_.symm;clear f1_ f2_ f3_;subst f4_;subst f5_))
                                  have p211 : 0 ≤ (x18_4 : Int):=of_decide_eq_true (by first|(with_reducible assumption)|assumption)
                                  have q211 : x18_4 < (t205.length : Int):=of_decide_eq_true (by first|(with_reducible assumption)|assumption)
                                  obtain ⟨ad211,e211,hx211_0,hx211_1⟩:=ZE (Kd.je HO_17.out).2.2 x18_4 p211 q211
                                  cases e211
                                  replace p211:=eq_true p211
                                  replace q211:=eq_true q211
                                  have p212 : 0 ≤ (x18_4 : Int):=of_decide_eq_true (by first|(with_reducible assumption)|assumption)
                                  have q212 : x18_4 < (t200.length : Int):=of_decide_eq_true (by first|(with_reducible assumption)|assumption)
                                  obtain ⟨ad212,e212,hx212_0,hx212_1⟩:=vD (Kd.je HO_16.out).2.2 x18_4 p212 q212
                                  obtain rfl : ad210 = ad212:=(by injection e212)
                                  replace p212:=eq_true p212
                                  replace q212:=eq_true q212
                                  have p213 : 0 ≤ (x18_4 : Int):=of_decide_eq_true (by first|(with_reducible assumption)|assumption)
                                  have q213 : x18_4 < (t205.length : Int):=of_decide_eq_true (by first|(with_reducible assumption)|assumption)
                                  obtain ⟨ad213,e213,hx213_0,hx213_1⟩:=ZE (Kd.je HO_17.out).2.2 x18_4 p213 q213
                                  obtain rfl : ad211 = ad213:=(by injection e213)
                                  replace p213:=eq_true p213
                                  replace q213:=eq_true q213
                                  refine zN (n:=24) (S:=fun w' => w'.cell? (ad210.add ((x18_4).toNat * 2)) = some (.int .u8 ((qJ t200 x18_4).f0)) ∧ w'.cell? ⟨(ad210.add ((x18_4).toNat * 2)).block,(ad210.add ((x18_4).toNat * 2)).off + 1,none⟩ = some (.int .u8 ((qJ t200 x18_4).f1)) ∧ w'.cell? (ad211.add ((x18_4).toNat * 2)) = some (.int .u8 ((zM t205 x18_4).f0)) ∧ w'.cell? ⟨(ad211.add ((x18_4).toNat * 2)).block,(ad211.add ((x18_4).toNat * 2)).off + 1,none⟩ = some (.int .u8 ((zM t205 x18_4).f1)) ∧ w'.cell? (ad210.add ((x18_4).toNat * 2)) = some (.int .u8 ((qJ t200 x18_4).f0)) ∧ w'.cell? ⟨(ad210.add ((x18_4).toNat * 2)).block,(ad210.add ((x18_4).toNat * 2)).off + 1,none⟩ = some (.int .u8 ((qJ t200 x18_4).f1)) ∧ w'.cell? (ad211.add ((x18_4).toNat * 2)) = some (.int .u8 ((zM t205 x18_4).f0)) ∧ w'.cell? ⟨(ad211.add ((x18_4).toNat * 2)).block,(ad211.add ((x18_4).toNat * 2)).off + 1,none⟩ = some (.int .u8 ((zM t205 x18_4).f1))) (ds:=[]) #[false,false,false,false,false,false,false,false,false,false,false,false,false,false,false,false,false,false,false,false,false,false,false,false] (by kernel_rfl) rfl rfl ⟨hx210_0,hx210_1,hx211_0,hx211_1,hx212_0,hx212_1,hx213_0,hx213_1⟩ (fun hHeld => ?_);refine jT qh.Ka qh.VO (fun HT_ HW_ => ?_)
                                  generalize wr.drew = w70 at HO_16 HO_17 BK185 BK190 HB hx210_0 hx210_1 hx211_0 hx211_1 hx212_0 hx212_1 hx213_0 hx213_1 hHeld ⊢
                                  refine qL (i:=0) (N:=some 137) (v:=?_) (a':=?_) #[true,false,false,false,false,false,false,false,false,false,false,false,false,false,false,false,false,false,false,false,false,false,false,false] rfl rfl (qD HT_.out (by kernel_rfl)) (fun _ _ _ h => h) (Or.inl ⟨by rfl,?_⟩) ?_ ?_
                                  rotate_left
                                  · intro w'
                                    go_simp
                                    with_reducible rfl
                                  rotate_left
                                  · simp only [Act.put,List.setIfInBounds_toArray,List.set_cons_zero,List.set_cons_succ,qE,qF]
                                    rfl
                                  refine qL (i:=1) (N:=some 138) (v:=?_) (a':=?_) #[true,true,false,false,false,false,false,false,false,false,false,false,false,false,false,false,false,false,false,false,false,false,false,false] rfl rfl (qD HT_.out (by kernel_rfl)) (fun _ _ _ h => h) (Or.inl ⟨by rfl,?_⟩) ?_ ?_
                                  rotate_left
                                  · intro w'
                                    go_simp
                                    with_reducible rfl
                                  rotate_left
                                  · simp only [Act.put,List.setIfInBounds_toArray,List.set_cons_zero,List.set_cons_succ,qE,qF]
                                    rfl
                                  refine qL (i:=2) (N:=some 139) (v:=?_) (a':=?_) #[true,true,true,false,false,false,false,false,false,false,false,false,false,false,false,false,false,false,false,false,false,false,false,false] rfl rfl (qD HT_.out (by kernel_rfl)) (fun _ _ _ h => h) (Or.inl ⟨by rfl,?_⟩) ?_ ?_
                                  rotate_left
                                  · intro w'
                                    go_simp
                                    with_reducible rfl
                                  rotate_left
                                  · simp only [Act.put,List.setIfInBounds_toArray,List.set_cons_zero,List.set_cons_succ,qE,qF]
                                    rfl
                                  refine qL (i:=3) (N:=some 140) (v:=?_) (a':=?_) #[true,true,true,true,false,false,false,false,false,false,false,false,false,false,false,false,false,false,false,false,false,false,false,false] rfl rfl (qD HT_.out (by kernel_rfl)) (fun _ _ _ h => h) (Or.inl ⟨by rfl,?_⟩) ?_ ?_
                                  rotate_left
                                  · intro w'
                                    go_simp
                                    with_reducible rfl
                                  rotate_left
                                  · simp only [Act.put,List.setIfInBounds_toArray,List.set_cons_zero,List.set_cons_succ,qE,qF]
                                    rfl
                                  refine qL (i:=5) (N:=some 142) (v:=?_) (a':=?_) #[true,true,true,true,false,true,false,false,false,false,false,false,false,false,false,false,false,false,false,false,false,false,false,false] rfl rfl (qD HT_.out (by kernel_rfl)) (fun _ _ _ h => h) (Or.inl ⟨by rfl,?_⟩) ?_ ?_
                                  rotate_left
                                  · intro w'
                                    go_simp
                                    with_reducible rfl
                                  rotate_left
                                  · simp only [Act.put,List.setIfInBounds_toArray,List.set_cons_zero,List.set_cons_succ,qE,qF]
                                    rfl
                                  refine qL (i:=6) (N:=some 143) (v:=?_) (a':=?_) #[true,true,true,true,false,true,true,false,false,false,false,false,false,false,false,false,false,false,false,false,false,false,false,false] rfl rfl (qD HT_.out (by kernel_rfl)) (fun _ _ _ h => h) (Or.inl ⟨by rfl,?_⟩) ?_ ?_
                                  rotate_left
                                  · intro w'
                                    go_simp
                                    with_reducible rfl
                                  rotate_left
                                  · simp only [Act.put,List.setIfInBounds_toArray,List.set_cons_zero,List.set_cons_succ,qE,qF]
                                    rfl
                                  refine qL (i:=7) (N:=some 144) (v:=?_) (a':=?_) #[true,true,true,true,false,true,true,true,false,false,false,false,false,false,false,false,false,false,false,false,false,false,false,false] rfl rfl (qD HT_.out (by kernel_rfl)) (fun _ _ _ h => h) (Or.inl ⟨by rfl,?_⟩) ?_ ?_
                                  rotate_left
                                  · intro w'
                                    go_simp
                                    with_reducible rfl
                                  rotate_left
                                  · simp only [Act.put,List.setIfInBounds_toArray,List.set_cons_zero,List.set_cons_succ,qE,qF]
                                    rfl
                                  refine qL (i:=8) (N:=some 145) (v:=?_) (a':=?_) #[true,true,true,true,false,true,true,true,true,false,false,false,false,false,false,false,false,false,false,false,false,false,false,false] rfl rfl (qD HT_.out (by kernel_rfl)) (fun _ _ _ h => h) (Or.inl ⟨by rfl,?_⟩) ?_ ?_
                                  rotate_left
                                  · intro w'
                                    go_simp
                                    with_reducible rfl
                                  rotate_left
                                  · simp only [Act.put,List.setIfInBounds_toArray,List.set_cons_zero,List.set_cons_succ,qE,qF]
                                    rfl
                                  refine zz (i:=4) (N:=some 141) (v:=?_) (a':=?_) #[true,true,true,true,true,true,true,true,true,false,false,false,false,false,false,false,false,false,false,false,false,false,false,false] rfl rfl (jF HT_.out HW_.out (by kernel_rfl)) (fun _ _ _ h => h) (Or.inl ⟨by rfl,?_⟩) hHeld ?_ ?_
                                  rotate_left
                                  · rintro w' ⟨s0,s1,s2,s3,s4,s5,s6,s7⟩
                                    go_simp
                                    with_reducible rfl
                                  rotate_left
                                  · simp only [Act.put,List.setIfInBounds_toArray,List.set_cons_zero,List.set_cons_succ,qE,qF]
                                    rfl
                                  refine zz (i:=9) (N:=some 146) (v:=?_) (a':=?_) #[true,true,true,true,true,true,true,true,true,true,false,false,false,false,false,false,false,false,false,false,false,false,false,false] rfl rfl (jF HT_.out HW_.out (by kernel_rfl)) (fun _ _ _ h => h) (Or.inl ⟨by rfl,?_⟩) hHeld ?_ ?_
                                  rotate_left
                                  · rintro w' ⟨s0,s1,s2,s3,s4,s5,s6,s7⟩
                                    go_simp
                                    with_reducible rfl
                                  rotate_left
                                  · simp only [Act.put,List.setIfInBounds_toArray,List.set_cons_zero,List.set_cons_succ,qE,qF]
                                    rfl
                                  refine qL (i:=10) (N:=some 147) (v:=?_) (a':=?_) #[true,true,true,true,true,true,true,true,true,true,true,false,false,false,false,false,false,false,false,false,false,false,false,false] rfl rfl (qD HT_.out (by kernel_rfl)) (fun _ _ _ h => h) (Or.inl ⟨by rfl,?_⟩) ?_ ?_
                                  rotate_left
                                  · intro w'
                                    go_simp
                                    with_reducible rfl
                                  rotate_left
                                  · simp only [Act.put,List.setIfInBounds_toArray,List.set_cons_zero,List.set_cons_succ,qE,qF]
                                    rfl
                                  refine qL (i:=11) (N:=some 148) (v:=?_) (a':=?_) #[true,true,true,true,true,true,true,true,true,true,true,true,false,false,false,false,false,false,false,false,false,false,false,false] rfl rfl (qD HT_.out (by kernel_rfl)) (fun _ _ _ h => h) (Or.inl ⟨by rfl,?_⟩) ?_ ?_
                                  rotate_left
                                  · intro w'
                                    go_simp
                                    with_reducible rfl
                                  rotate_left
                                  · simp only [Act.put,List.setIfInBounds_toArray,List.set_cons_zero,List.set_cons_succ,qE,qF]
                                    rfl
                                  refine qL (i:=12) (N:=some 149) (v:=?_) (a':=?_) #[true,true,true,true,true,true,true,true,true,true,true,true,true,false,false,false,false,false,false,false,false,false,false,false] rfl rfl (qD HT_.out (by kernel_rfl)) (fun _ _ _ h => h) (Or.inl ⟨by rfl,?_⟩) ?_ ?_
                                  rotate_left
                                  · intro w'
                                    go_simp
                                    with_reducible rfl
                                  rotate_left
                                  · simp only [Act.put,List.setIfInBounds_toArray,List.set_cons_zero,List.set_cons_succ,qE,qF]
                                    rfl
                                  refine qL (i:=13) (N:=some 150) (v:=?_) (a':=?_) #[true,true,true,true,true,true,true,true,true,true,true,true,true,true,false,false,false,false,false,false,false,false,false,false] rfl rfl (qD HT_.out (by kernel_rfl)) (fun _ _ _ h => h) (Or.inl ⟨by rfl,?_⟩) ?_ ?_
                                  rotate_left
                                  · intro w'
                                    go_simp
                                    with_reducible rfl
                                  rotate_left
                                  · simp only [Act.put,List.setIfInBounds_toArray,List.set_cons_zero,List.set_cons_succ,qE,qF]
                                    rfl
                                  refine qL (i:=14) (N:=some 151) (v:=?_) (a':=?_) #[true,true,true,true,true,true,true,true,true,true,true,true,true,true,true,false,false,false,false,false,false,false,false,false] rfl rfl (qD HT_.out (by kernel_rfl)) (fun _ _ _ h => h) (Or.inl ⟨by rfl,?_⟩) ?_ ?_
                                  rotate_left
                                  · intro w'
                                    go_simp
                                    with_reducible rfl
                                  rotate_left
                                  · simp only [Act.put,List.setIfInBounds_toArray,List.set_cons_zero,List.set_cons_succ,qE,qF]
                                    rfl
                                  refine qL (i:=15) (N:=some 152) (v:=?_) (a':=?_) #[true,true,true,true,true,true,true,true,true,true,true,true,true,true,true,true,false,false,false,false,false,false,false,false] rfl rfl (qD HT_.out (by kernel_rfl)) (fun _ _ _ h => h) (Or.inl ⟨by rfl,?_⟩) ?_ ?_
                                  rotate_left
                                  · intro w'
                                    go_simp
                                    with_reducible rfl
                                  rotate_left
                                  · simp only [Act.put,List.setIfInBounds_toArray,List.set_cons_zero,List.set_cons_succ,qE,qF]
                                    rfl
                                  refine qL (i:=17) (N:=some 154) (v:=?_) (a':=?_) #[true,true,true,true,true,true,true,true,true,true,true,true,true,true,true,true,false,true,false,false,false,false,false,false] rfl rfl (qD HT_.out (by kernel_rfl)) (fun _ _ _ h => h) (Or.inl ⟨by rfl,?_⟩) ?_ ?_
                                  rotate_left
                                  · intro w'
                                    go_simp
                                    with_reducible rfl
                                  rotate_left
                                  · simp only [Act.put,List.setIfInBounds_toArray,List.set_cons_zero,List.set_cons_succ,qE,qF]
                                    rfl
                                  refine qL (i:=18) (N:=some 155) (v:=?_) (a':=?_) #[true,true,true,true,true,true,true,true,true,true,true,true,true,true,true,true,false,true,true,false,false,false,false,false] rfl rfl (qD HT_.out (by kernel_rfl)) (fun _ _ _ h => h) (Or.inl ⟨by rfl,?_⟩) ?_ ?_
                                  rotate_left
                                  · intro w'
                                    go_simp
                                    with_reducible rfl
                                  rotate_left
                                  · simp only [Act.put,List.setIfInBounds_toArray,List.set_cons_zero,List.set_cons_succ,qE,qF]
                                    rfl
                                  refine qL (i:=19) (N:=some 156) (v:=?_) (a':=?_) #[true,true,true,true,true,true,true,true,true,true,true,true,true,true,true,true,false,true,true,true,false,false,false,false] rfl rfl (qD HT_.out (by kernel_rfl)) (fun _ _ _ h => h) (Or.inl ⟨by rfl,?_⟩) ?_ ?_
                                  rotate_left
                                  · intro w'
                                    go_simp
                                    with_reducible rfl
                                  rotate_left
                                  · simp only [Act.put,List.setIfInBounds_toArray,List.set_cons_zero,List.set_cons_succ,qE,qF]
                                    rfl
                                  refine qL (i:=20) (N:=some 157) (v:=?_) (a':=?_) #[true,true,true,true,true,true,true,true,true,true,true,true,true,true,true,true,false,true,true,true,true,false,false,false] rfl rfl (qD HT_.out (by kernel_rfl)) (fun _ _ _ h => h) (Or.inl ⟨by rfl,?_⟩) ?_ ?_
                                  rotate_left
                                  · intro w'
                                    go_simp
                                    with_reducible rfl
                                  rotate_left
                                  · simp only [Act.put,List.setIfInBounds_toArray,List.set_cons_zero,List.set_cons_succ,qE,qF]
                                    rfl
                                  refine zz (i:=16) (N:=some 153) (v:=?_) (a':=?_) #[true,true,true,true,true,true,true,true,true,true,true,true,true,true,true,true,true,true,true,true,true,false,false,false] rfl rfl (jF HT_.out HW_.out (by kernel_rfl)) (fun _ _ _ h => h) (Or.inl ⟨by rfl,?_⟩) hHeld ?_ ?_
                                  rotate_left
                                  · rintro w' ⟨s0,s1,s2,s3,s4,s5,s6,s7⟩
                                    go_simp
                                    with_reducible rfl
                                  rotate_left
                                  · simp only [Act.put,List.setIfInBounds_toArray,List.set_cons_zero,List.set_cons_succ,qE,qF]
                                    rfl
                                  refine zz (i:=21) (N:=some 158) (v:=?_) (a':=?_) #[true,true,true,true,true,true,true,true,true,true,true,true,true,true,true,true,true,true,true,true,true,true,false,false] rfl rfl (jF HT_.out HW_.out (by kernel_rfl)) (fun _ _ _ h => h) (Or.inl ⟨by rfl,?_⟩) hHeld ?_ ?_
                                  rotate_left
                                  · rintro w' ⟨s0,s1,s2,s3,s4,s5,s6,s7⟩
                                    go_simp
                                    with_reducible rfl
                                  rotate_left
                                  · simp only [Act.put,List.setIfInBounds_toArray,List.set_cons_zero,List.set_cons_succ,qE,qF]
                                    rfl
                                  refine qL (i:=22) (N:=some 159) (v:=?_) (a':=?_) #[true,true,true,true,true,true,true,true,true,true,true,true,true,true,true,true,true,true,true,true,true,true,true,false] rfl rfl (qD HT_.out (by kernel_rfl)) (fun _ _ _ h => h) (Or.inl ⟨by rfl,?_⟩) ?_ ?_
                                  rotate_left
                                  · intro w'
                                    go_simp
                                    with_reducible rfl
                                  rotate_left
                                  · simp only [Act.put,List.setIfInBounds_toArray,List.set_cons_zero,List.set_cons_succ,qE,qF]
                                    rfl
                                  refine qL (i:=23) (N:=some 160) (v:=?_) (a':=?_) #[true,true,true,true,true,true,true,true,true,true,true,true,true,true,true,true,true,true,true,true,true,true,true,true] rfl rfl (qD HT_.out (by kernel_rfl)) (fun _ _ _ h => h) (Or.inl ⟨by rfl,?_⟩) ?_ ?_
                                  rotate_left
                                  · intro w'
                                    go_simp
                                    with_reducible rfl
                                  rotate_left
                                  · simp only [Act.put,List.setIfInBounds_toArray,List.set_cons_zero,List.set_cons_succ,qE,qF]
                                    rfl
                                  refine xL (zu HT_.out (by kernel_rfl)) ?_
                                  try go_wp2
                                  go_roundg k4
                                  case measure => have:=HJ7.out;have:=HJ33.out;have:=HJ52.out;have:=HK4.out;omega
                                  case rel => exact ⟨(wrap64 (x18_4 + 1)),(by first|rfl|(simp;done)|(simp [*];done)),H',⟨by have:=HJ7.out;have:=HJ33.out;have:=HJ52.out;have:=HK4.out;omega⟩,⟨by (with_reducible repeat (first|apply Kd.qy|apply Kd.qz|apply Kd.qC));exact HO_16.out⟩,⟨by (with_reducible repeat (first|apply Kd.qy|apply Kd.qz|apply Kd.qC));exact HO_17.out⟩,⟨by (with_reducible repeat (first|refine qx ?_ _|refine qA ?_|refine qw ?_ _));exact BK185.out⟩,⟨by (with_reducible repeat (first|refine qx ?_ _|refine qA ?_|refine qw ?_ _));exact BK190.out⟩,⟨by repeat (first|(with_reducible first|exact HB.out|apply qg|apply qc|apply qf|refine qp ?_ GE185.out|refine qp ?_ GE190.out)|exact HB.out)⟩⟩
                                · rw [if_neg c68] at H
                                  have c68b0 : (((qJ t200 x18_4).f1) == ((zM t205 x18_4).f1)) = false:=beq_eq_false_iff_ne.mpr c68
                                  have c68b1 : (((qJ t200 x18_4).f1) != ((zM t205 x18_4).f1)) = true:=bne_iff_ne.mpr c68
                                  exact absurd (H.trans (congrArg some HRr.out)) (by simp)
                              · rw [if_neg c67] at H
                                have c67b0 : (((qJ t200 x18_4).f0) == ((zM t205 x18_4).f0)) = false:=beq_eq_false_iff_ne.mpr c67
                                have c67b1 : (((qJ t200 x18_4).f0) != ((zM t205 x18_4).f0)) = true:=bne_iff_ne.mpr c67
                                exact absurd (H.trans (congrArg some HRr.out)) (by simp)
                            · rw [if_neg c66] at H
                              exact absurd H (by simp)
                          · rw [if_neg c65] at H
                            exact absurd H (by simp)
                        · rw [if_neg c64] at H
                          have c64b0 : decide (x18_4 < (t200.length : Int)) = false:=decide_eq_false c64
                          clear c64
                          obtain rfl:=Option.some.inj H
                          obtain ⟨Ao78,co78,eo78⟩:=Kd.jk HO_16.out
                          subst eo78
                          go_wp2
                          go_ret
                          exact ⟨by first|rfl|(simp [qQ,qP] <;> rfl)|(simp [*,qQ,qP] <;> rfl),by repeat (first|(with_reducible first|exact HB.out|apply qg|apply qc|apply qf|refine qp ?_ GE185.out|refine qp ?_ GE190.out)|exact HB.out)⟩
end Go.Proofs.Ytdefecnngccmoaa.QTells
namespace Go.Proofs.Ytdefecnngccmoaa.Ed
open Go.RowKit Go.Proofs.YtdefecnngccmoaaW.PrintWords QTells
theorem Jm (c0 c1 c2 c3 : Int) : q9.f c0 c1 c2 c3 = some (zl c0 c1 c2 c3):=by
  unfold q9.f zl okc
  repeat' split
  all_goals simp_all
  all_goals omega
theorem QU (a b : ByteArray) (c0 c1 c2 c3 : Int) : jv.f a b c0 c1 c2 c3 = some (mayE a b c0 c1 c2 c3):=by
  unfold jv.f mayE
  rw [Jm,Option.bind_some]
  repeat' split
  all_goals rfl
theorem Zn {c0 c1 c2 c3 : Int} (h : zl c0 c1 c2 c3 = true) : Lb.Cst.Ok ⟨c0,c1,c2,c3⟩:=by
  simp only [zl,okc,Bool.and_eq_true,decide_eq_true_eq] at h
  obtain ⟨⟨i1,i2⟩,⟨d1,d2⟩,⟨e1,e2⟩,s1,s2⟩:=h
  exact ⟨i1,i2,d1,d2,e1,e2,s1,s2⟩
theorem XU (a b : ByteArray) (c0 c1 c2 c3 : Int) : ∃ K,∀ m,qU.f (m + K) a b c0 c1 c2 c3 = some (zQ a b c0 c1 c2 c3) ∧
    qm.f (m + K) a b c0 c1 c2 c3 = some ((xc a b c0 c1 c2 c3).map cv,(zQ a b c0 c1 c2 c3).1,(zQ a b c0 c1 c2 c3).2):=by
  by_cases h : mayE a b c0 c1 c2 c3 = 0
  · obtain ⟨h1,h2,h3⟩:=yN h
    have hc:=Zn h1
    have T:=fun k => XW (c:=⟨c0,c1,c2,c3⟩) hc h2 h3 k
    generalize (9 * (b.size + 1) + 2) * (a.size + 1) = F at T
    obtain ⟨G0,t0,g0⟩:=T 0
    have up : ∀ m,qj.f (m + (0 + 1 + F)) a b c0 c1 c2 c3 = some G0:=by
      intro m
      induction m with
      | zero => rw [Nat.zero_add];exact t0
      | succ m ih => rw [show m + 1 + (0 + 1 + F) = (m + (0 + 1 + F)) + 1 by omega];exact qj.mono _ _ _ _ _ _ _ _ ih
    have gl:=g0.len
    have g1:=g0.rows 0 (by omega) (by omega)
    have e1 : (qW G0 0).length = b.size + 1:=g1.1
    have e2 : rd (qW G0 0) 0 = dd ⟨c0,c1,c2,c3⟩ a b 0 0:=g1.2 0 (by omega)
    obtain ⟨kp,hp⟩:=Vg hc h2 h3 g0 (a.size + b.size) 0 0 [] (by omega) (by omega) (by omega) (by simp;omega)
    refine ⟨kp + (0 + 1 + F),fun m => ⟨?_,?_⟩⟩
    · unfold qU.f zQ
      rw [QU,h,Option.bind_some,if_pos rfl,← Nat.add_assoc,up,Option.bind_some,if_pos (by omega),if_pos (by omega),e2,if_pos rfl]
    · unfold qm.f zQ xc
      rw [QU,h,Option.bind_some,if_pos rfl,← Nat.add_assoc,up,Option.bind_some,if_pos rfl,if_pos rfl,show m + kp + (0 + 1 + F) = (m + (0 + 1 + F)) + kp by omega]
      exact hp _
  · refine ⟨0,fun m => ⟨?_,?_⟩⟩
    · unfold qU.f zQ
      rw [QU,Option.bind_some,if_neg h,if_neg h]
    · unfold qm.f zQ xc
      rw [QU,Option.bind_some,if_neg h,if_neg h,if_neg h];rfl
theorem Z7 (L : List S38) (hL : L.length ≤ 1000) : ∀ (n i : Nat),L.length - i ≤ n → i ≤ L.length → ∀ m,qh.l0 (m + n + 1) L (L.map cv) i = some true:=by
  intro n
  induction n with
  | zero =>
    intro i h1 h2 m
    rw [qh.l0,if_neg (by omega)]
  | succ n ih =>
    intro i h1 h2 m
    rw [qh.l0]
    by_cases h : i < L.length
    · have e : zM (L.map cv) i = cv (qJ L i):=by
        unfold zM qJ
        rw [show ((i : Nat) : Int).toNat = i by omega,List.getD_eq_getElem?_getD,List.getD_eq_getElem?_getD,List.getElem?_map]
        simp [h]
      rw [if_pos (by omega),if_pos (by omega),if_pos (by rw [List.length_map];omega),e,if_pos (show (qJ L i).f0 = (cv (qJ L i)).f0 from rfl),if_pos (show (qJ L i).f1 = (cv (qJ L i)).f1 from rfl),w64 (by omega) (by omega)]
      exact ih (i + 1) (by omega) (by omega) m
    · rw [if_neg (by omega)]
theorem JI (a b : ByteArray) (c0 c1 c2 c3 most : Int) : jE.f a b c0 c1 c2 c3 most = some (if (zQ a b c0 c1 c2 c3).2 = 0 then (if (zQ a b c0 c1 c2 c3).1 > most then (0,false,(zQ a b c0 c1 c2 c3).2) else ((zQ a b c0 c1 c2 c3).1,true,0)) else (0,false,(zQ a b c0 c1 c2 c3).2)):=by
  unfold jE.f jr.f
  rw [Option.bind_some]
  split
  · split <;> rfl
  · rfl
theorem Vs (c : Lb.Cst) (a b : ByteArray) : ∀ (n i j : Nat),i ≤ a.size → j ≤ b.size → (a.size - i) + (b.size - j) ≤ n → (pp c a b i j).length ≤ n:=by
  intro n
  induction n with
  | zero =>
    intro i j hi hj hn
    have e1 : i = a.size:=by omega
    have e2 : j = b.size:=by omega
    rw [e1,e2,yS];simp
  | succ n ih =>
    intro i j hi hj hn
    by_cases h1 : i < a.size
    · by_cases h2 : j < b.size
      · rw [xk c a b i j h1 h2]
        split
        · have:=ih (i + 1) (j + 1) (by omega) (by omega) (by omega);simp;omega
        split
        · have:=ih (i + 1) (j + 1) (by omega) (by omega) (by omega);simp;omega
        split
        · rename_i hs
          have:=xA hs.1
          have:=ih (i + 2) (j + 2) (by omega) (by omega) (by omega);simp;omega
        split
        · have:=ih (i + 1) j (by omega) (by omega) (by omega);simp;omega
        · have:=ih i (j + 1) (by omega) (by omega) (by omega);simp;omega
      · have e2 : j = b.size:=by omega
        subst e2
        have:=ih (i + 1) b.size (by omega) (by omega) (by omega)
        rw [JC c a b i h1];simp;omega
    · have e1 : i = a.size:=by omega
      subst e1
      by_cases h2 : j < b.size
      · have:=ih a.size (j + 1) (by omega) (by omega) (by omega)
        rw [JJ c a b j h2];simp;omega
      · have e2 : j = b.size:=by omega
        rw [e2,yS];simp
theorem Zg (a b : ByteArray) (c0 c1 c2 c3 : Int) : (xc a b c0 c1 c2 c3).length ≤ 1000:=by
  unfold xc
  split
  · rename_i h
    obtain ⟨h1,h2,h3⟩:=yN h
    have:=Vs ⟨c0,c1,c2,c3⟩ a b (a.size + b.size) 0 0 (by omega) (by omega) (by omega)
    omega
  · simp
theorem JF (a b : ByteArray) (c0 c1 c2 c3 most : Int) : ∃ k,qh.f k a b c0 c1 c2 c3 most = some true:=by
  obtain ⟨K,hK⟩:=XU a b c0 c1 c2 c3
  have hl:=Zg a b c0 c1 c2 c3
  have hs:=Z7 (xc a b c0 c1 c2 c3) hl (xc a b c0 c1 c2 c3).length 0 (by omega) (by omega)
  have hw:=JI a b c0 c1 c2 c3 most
  have tail : ∀ m,qh.j1 (m + K + (xc a b c0 c1 c2 c3).length + 3) a b false c0 c1 c2 c3 c0 c1 c2 c3 = some true:=by
    intro m
    rw [qh.j1,if_neg (by simp)]
    unfold zI.f
    rw [Option.bind_some,show m + K + (xc a b c0 c1 c2 c3).length + 2 = (m + (xc a b c0 c1 c2 c3).length + 2) + K by omega,(hK _).2,Option.bind_some,if_pos rfl,if_pos rfl]
    have e : (((xc a b c0 c1 c2 c3).length : Int) != (((xc a b c0 c1 c2 c3).map cv).length : Int)) = false:=by rw [List.length_map];simp
    dsimp only
    rw [e,show (m + (xc a b c0 c1 c2 c3).length + 2) + K = (m + K) + (xc a b c0 c1 c2 c3).length + 1 + 1 by omega,qh.j2,if_neg (by simp)]
    exact hs _
  refine ⟨0 + K + (xc a b c0 c1 c2 c3).length + 3 + 1,?_⟩
  unfold qh.f jZ.f jr.f jH.f
  rw [Option.bind_some,Option.bind_some]
  dsimp only
  rw [show 0 + K + (xc a b c0 c1 c2 c3).length + 3 + 1 = ((xc a b c0 c1 c2 c3).length + 3 + 1) + K by omega,(hK _).1,Option.bind_some,Option.bind_some,Jm,Option.bind_some,if_neg (by simp),if_pos rfl,
    show ((zQ a b c0 c1 c2 c3).2 != (zQ a b c0 c1 c2 c3).2) = false by simp,show ((xc a b c0 c1 c2 c3).length + 3 + 1) + K = 0 + K + (xc a b c0 c1 c2 c3).length + 3 + 1 by omega,
    qh.j0,if_neg (by simp),hw,Option.bind_some]
  have t:=tail 0
  generalize (zQ a b c0 c1 c2 c3).2 = e at *
  generalize (zQ a b c0 c1 c2 c3).1 = n at *
  by_cases he : e = 0
  · subst he
    rw [if_pos rfl,if_pos rfl]
    by_cases hn : n > most
    · rw [if_pos hn,if_neg (by omega),if_pos hn,if_pos rfl,if_neg (by simp)]
      exact t
    · rw [if_neg hn,if_pos (by omega),if_pos rfl,if_pos rfl,if_pos rfl,if_neg hn]
      exact t
  · rw [if_neg he,if_neg he,if_pos rfl,if_neg (by simp)]
    dsimp only
    rw [show (e != e) = false by simp]
    exact t
end Go.Proofs.Ytdefecnngccmoaa.Ed
namespace Go.Proofs.Ytdefecnngccmoaa.QTells
open Go.RowKit Go.Proofs.YtdefecnngccmoaaW.PrintWords Go.Proofs.YtdefecnngccmoaaW.PrintLast Go.Proofs.YtdefecnngccmoaaW.PrintMore
attribute [local go_sem] jX jV zk zi jM jN jU jY
set_option linter.unusedVariables false
set_option linter.unusedSimpArgs false
open Go.Proofs.Ytdefecnngccmoaa.Ed
def qK.f  : Option (Int × Int × Int × Int):=some (1,1,1,1)
set_option maxHeartbeats 8000000 in
set_option maxRecDepth 100000 in
theorem qK.calls  (r1 : Int) (r2 : Int) (r3 : Int) (r4 : Int) (w : World) (h : qK.f  = some (r1,r2,r3,r4)) :
  Calls Try.prog 15 #[] w fun e w' => e = .returned (.agg #[.int .i64 r1,.int .i64 r2,.int .i64 r3,.int .i64 r4]) ∧ Below w.heap.size w w':=by
 have hu23:=Try.underlying23
 have HB:=qd.mk (Below.refl w.heap.size w)
 have H : (some (1,1,1,1)) = some (r1,r2,r3,r4):=h
 clear h
 simp only [Option.some.injEq,Prod.mk.injEq] at H
 obtain ⟨rfl,rfl,rfl,rfl⟩:=H
 go_enter Try.func15,Try.ntmps15
 go_wp2_with (first|((with_reducible refine ji (N:=0) rfl ?_);refine jg ?hg (N:=0) ?hd (cs:=#[.int .i64 0,.int .i64 0,.int .i64 0,.int .i64 0]) (t:=23) ?hr ?_;(case hd => rfl);(case hg => rfl);(case hr => first|(go_simp;done)|(go_simp;rfl));intro gb101 hg w1 hbox hb;have n0_:=qd.mk (qI (by repeat (first|(with_reducible first|exact HB.out|apply qg|apply qc|apply qf)|exact HB.out)) hb);have n1_:=qd.mk (hbox);have n2_:=qd.mk ((by rw [hg];exact (qH (by repeat (first|(with_reducible first|exact HB.out|apply qg|apply qc|apply qf)|exact HB.out))) : w.heap.size ≤ gb101));have n3_:=qd.mk ((by rw [hg];exact (qH (by repeat (first|(with_reducible first|exact HB.out|apply qg|apply qc|apply qf)|exact HB.out))) : w.heap.size ≤ gb101));clear HB;have HB:=n0_;have BK101:=n1_;have GW101:=n2_;have GE101:=n3_;clear n0_ n1_ n2_ n3_;clear hb hbox hg;have hcz2_0 : w1.cell? ⟨gb101,0,none⟩ = some (.int .i64 0):=(qi BK101.out 0).trans rfl;have hcz2_1 : w1.cell? ⟨gb101,1,none⟩ = some (.int .i64 0):=(qi BK101.out 1).trans rfl;have hcz2_2 : w1.cell? ⟨gb101,2,none⟩ = some (.int .i64 0):=(qi BK101.out 2).trans rfl;have hcz2_3 : w1.cell? ⟨gb101,3,none⟩ = some (.int .i64 0):=(qi BK101.out 3).trans rfl;have hfz2_0:=ql BK101.out 0;have hfz2_1:=ql BK101.out 1;have hfz2_2:=ql BK101.out 2;have hfz2_3:=ql BK101.out 3))
 refine bodyPost_ret (results_cell_row rfl _ _ gb101 23 #[.int .i64 1,.int .i64 1,.int .i64 1,.int .i64 1] (0,0) _ rfl (by (with_reducible repeat (first|refine qx ?_ _|refine qA ?_|refine qw ?_ _));refine jh (cs:=#[.int .i64 1,.int .i64 1,.int .i64 1,.int .i64 0]) ?_ 3 _ rfl;(with_reducible repeat (first|refine qx ?_ _|refine qA ?_|refine qw ?_ _));refine jh (cs:=#[.int .i64 1,.int .i64 1,.int .i64 0,.int .i64 0]) ?_ 2 _ rfl;(with_reducible repeat (first|refine qx ?_ _|refine qA ?_|refine qw ?_ _));refine jh (cs:=#[.int .i64 1,.int .i64 0,.int .i64 0,.int .i64 0]) ?_ 1 _ rfl;(with_reducible repeat (first|refine qx ?_ _|refine qA ?_|refine qw ?_ _));refine jh (cs:=#[.int .i64 0,.int .i64 0,.int .i64 0,.int .i64 0]) ?_ 0 _ rfl;(with_reducible repeat (first|refine qx ?_ _|refine qA ?_|refine qw ?_ _));exact BK101.out) Try.underlying23 rfl (by kernel_rfl)) rfl ?_
 exact ⟨by first|rfl|(simp [qQ,qP] <;> rfl)|(simp [*,qQ,qP] <;> rfl),by repeat (first|(with_reducible first|exact HB.out|apply qg|apply qc|apply qf|refine qp ?_ GE101.out)|exact HB.out)⟩
end Go.Proofs.Ytdefecnngccmoaa.QTells
