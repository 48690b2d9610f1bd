/- A part of the texts of one claim: the walk of the code by hand-proved contracts, and the plain law. -/
import Derived.Test.YtdefecnngccmoaaKT3
set_option linter.unusedVariables false
set_option linter.unusedSimpArgs false
namespace Go.Proofs.Ytdefecnngccmoaa.QTells
open Go.RowKit Go.Proofs.YtdefecnngccmoaaW.PrintWords Go.Proofs.YtdefecnngccmoaaW.PrintLast Go.Proofs.YtdefecnngccmoaaW.PrintMore
attribute [local go_sem] jX jV zk zi jM jN jU jY
set_option linter.unusedVariables false
set_option linter.unusedSimpArgs false
mutual
def qj.l0 : Nat → ByteArray → ByteArray → List (List Int) → Int → Int → Int → Int → Int → Option ((List (List Int)))
 | 0,_,_,_,_,_,_,_,_ => none
 | k + 1,x0,x1,x7,x8,x131000,x131001,x131002,x131003 => if x8 ≥ 0 then (if 0 ≤ (wrap64 ((x1.size : Int) + 1)) then (if (wrap64 ((x1.size : Int) + 1) : Int).toNat ≤ 35184372088832 then (if 0 ≤ x8 then (if x8 < (x7.length : Int) then (qj.l1 k x0 x1 (x7.set (x8 : Int).toNat (List.replicate (wrap64 ((x1.size : Int) + 1) : Int).toNat 0)) x8 (x1.size : Int) x131000 x131001 x131002 x131003) else (none)) else (none)) else (none)) else (none)) else (some x7)
def qj.l1 : Nat → ByteArray → ByteArray → List (List Int) → Int → Int → Int → Int → Int → Int → Option ((List (List Int)))
 | 0,_,_,_,_,_,_,_,_,_ => none
 | k + 1,x0,x1,x7,x8,x9,x131000,x131001,x131002,x131003 => if x9 ≥ 0 then (if x8 = (x0.size : Int) then (qj.j2 k x0 x1 x7 x8 x9 (-1) (x9 == (x1.size : Int)) x131000 x131001 x131002 x131003) else (qj.j2 k x0 x1 x7 x8 x9 (-1) false x131000 x131001 x131002 x131003)) else (qj.l0 k x0 x1 x7 (wrap64 (x8 - 1)) x131000 x131001 x131002 x131003)
def qj.j2 : Nat → ByteArray → ByteArray → List (List Int) → Int → Int → Int → Bool → Int → Int → Int → Int → Option ((List (List Int)))
 | 0,_,_,_,_,_,_,_,_,_,_,_ => none
 | k + 1,x0,x1,x7,x8,x9,x10,x48,x131000,x131001,x131002,x131003 => if x48 = true then (qj.j3 k x0 x1 x7 x8 x9 0 x131000 x131001 x131002 x131003) else (qj.j3 k x0 x1 x7 x8 x9 x10 x131000 x131001 x131002 x131003)
def qj.j3 : Nat → ByteArray → ByteArray → List (List Int) → Int → Int → Int → Int → Int → Int → Int → Option ((List (List Int)))
 | 0,_,_,_,_,_,_,_,_,_,_ => none
 | k + 1,x0,x1,x7,x8,x9,x10,x131000,x131001,x131002,x131003 => qj.l2 k x0 x1 x7 x8 x9 x10 1 x131000 x131001 x131002 x131003
def qj.l2 : Nat → ByteArray → ByteArray → List (List Int) → Int → Int → Int → Int → Int → Int → Int → Int → Option ((List (List Int)))
 | 0,_,_,_,_,_,_,_,_,_,_,_ => none
 | k + 1,x0,x1,x7,x8,x9,x10,x11,x131000,x131001,x131002,x131003 => if x11 ≤ 5 then (if 0 ≤ x8 then (if x8 ≤ (x0.size : Int) then (if 0 ≤ x9 then (if x9 ≤ (x1.size : Int) then ((qG.f k x11 (x0.extract (x8 : Int).toNat x0.size) (x1.extract (x9 : Int).toNat x1.size) x131000 x131001 x131002 x131003).bind fun bt138 => (if bt138.1 = true then (if x10 < 0 then (if 0 ≤ (wrap64 (x8 + bt138.2.1)) then (if (wrap64 (x8 + bt138.2.1)) < (x7.length : Int) then (if 0 ≤ (wrap64 (x9 + bt138.2.2.1)) then (if (wrap64 (x9 + bt138.2.2.1)) < ((qW x7 (wrap64 (x8 + bt138.2.1))).length : Int) then (qj.l2 k x0 x1 x7 x8 x9 (wrap64 (bt138.2.2.2 + (rd (qW x7 (wrap64 (x8 + bt138.2.1))) (wrap64 (x9 + bt138.2.2.1))))) ((x11 + 1) % 256) x131000 x131001 x131002 x131003) else (none)) else (none)) else (none)) else (none)) else (if 0 ≤ (wrap64 (x8 + bt138.2.1)) then (if (wrap64 (x8 + bt138.2.1)) < (x7.length : Int) then (if 0 ≤ (wrap64 (x9 + bt138.2.2.1)) then (if (wrap64 (x9 + bt138.2.2.1)) < ((qW x7 (wrap64 (x8 + bt138.2.1))).length : Int) then (if (wrap64 (bt138.2.2.2 + (rd (qW x7 (wrap64 (x8 + bt138.2.1))) (wrap64 (x9 + bt138.2.2.1))))) < x10 then (qj.l2 k x0 x1 x7 x8 x9 (wrap64 (bt138.2.2.2 + (rd (qW x7 (wrap64 (x8 + bt138.2.1))) (wrap64 (x9 + bt138.2.2.1))))) ((x11 + 1) % 256) x131000 x131001 x131002 x131003) else (qj.l2 k x0 x1 x7 x8 x9 x10 ((x11 + 1) % 256) x131000 x131001 x131002 x131003)) else (none)) else (none)) else (none)) else (none))) else (qj.l2 k x0 x1 x7 x8 x9 x10 ((x11 + 1) % 256) x131000 x131001 x131002 x131003))) else (none)) else (none)) else (none)) else (none)) else (if 0 ≤ x8 then (if x8 < (x7.length : Int) then (if 0 ≤ x9 then (if x9 < ((qW x7 x8).length : Int) then (qj.l1 k x0 x1 (x7.set (x8 : Int).toNat ((qW x7 x8).set (x9 : Int).toNat x10)) x8 (wrap64 (x9 - 1)) x131000 x131001 x131002 x131003) else (none)) else (none)) else (none)) else (none))
end
def qj.f (k : Nat) (a0 : ByteArray) (a1 : ByteArray) (a2_0 : Int) (a2_1 : Int) (a2_2 : Int) (a2_3 : Int) : Option ((List (List Int))):=if 0 ≤ (wrap64 ((a0.size : Int) + 1)) then (if (wrap64 ((a0.size : Int) + 1) : Int).toNat ≤ 11728124029610 then (qj.l0 k a0 a1 (List.replicate (wrap64 ((a0.size : Int) + 1) : Int).toNat []) (a0.size : Int) a2_0 a2_1 a2_2 a2_3) else (none)) else (none)
theorem qj.zP : ∀ k,(∀ y0 y1 y2 y3 y4 y5 y6 y7,LeO (qj.l0 k y0 y1 y2 y3 y4 y5 y6 y7) (qj.l0 (k + 1) y0 y1 y2 y3 y4 y5 y6 y7)) ∧ (∀ y0 y1 y2 y3 y4 y5 y6 y7 y8,LeO (qj.l1 k y0 y1 y2 y3 y4 y5 y6 y7 y8) (qj.l1 (k + 1) y0 y1 y2 y3 y4 y5 y6 y7 y8)) ∧ (∀ y0 y1 y2 y3 y4 y5 y6 y7 y8 y9 y10,LeO (qj.j2 k y0 y1 y2 y3 y4 y5 y6 y7 y8 y9 y10) (qj.j2 (k + 1) y0 y1 y2 y3 y4 y5 y6 y7 y8 y9 y10)) ∧ (∀ y0 y1 y2 y3 y4 y5 y6 y7 y8 y9,LeO (qj.j3 k y0 y1 y2 y3 y4 y5 y6 y7 y8 y9) (qj.j3 (k + 1) y0 y1 y2 y3 y4 y5 y6 y7 y8 y9)) ∧ (∀ y0 y1 y2 y3 y4 y5 y6 y7 y8 y9 y10,LeO (qj.l2 k y0 y1 y2 y3 y4 y5 y6 y7 y8 y9 y10) (qj.l2 (k + 1) y0 y1 y2 y3 y4 y5 y6 y7 y8 y9 y10))
 | 0 => ⟨fun _ _ _ _ _ _ _ _ r h => by simp [qj.l0] at h,fun _ _ _ _ _ _ _ _ _ r h => by simp [qj.l1] at h,fun _ _ _ _ _ _ _ _ _ _ _ r h => by simp [qj.j2] at h,fun _ _ _ _ _ _ _ _ _ _ r h => by simp [qj.j3] at h,fun _ _ _ _ _ _ _ _ _ _ _ r h => by simp [qj.l2] at h⟩
 | k + 1 => by
  obtain ⟨ih0,ih1,ih2,ih3,ih4⟩:=qj.zP k
  refine ⟨?_,?_,?_,?_,?_⟩
  ·intro y0 y1 y2 y3 y4 y5 y6 y7
   unfold qj.l0
   repeat' first
   | (with_reducible exact ih0 _ _ _ _ _ _ _ _)
   | (with_reducible exact ih1 _ _ _ _ _ _ _ _ _)
   | (with_reducible exact ih2 _ _ _ _ _ _ _ _ _ _ _)
   | (with_reducible exact ih3 _ _ _ _ _ _ _ _ _ _)
   | (with_reducible exact ih4 _ _ _ _ _ _ _ _ _ _ _)
   | (with_reducible exact qG.mono _ _ _ _ _ _ _ _)
   | (with_reducible exact LeO.refl _)
   | (with_reducible exact LeO.none _)
   | (with_reducible refine LeO.ite ?_ ?_)
   | (with_reducible refine LeO.bind ?_ (fun _ => ?_))
   | exact ih0 _ _ _ _ _ _ _ _
   | exact ih1 _ _ _ _ _ _ _ _ _
   | exact ih2 _ _ _ _ _ _ _ _ _ _ _
   | exact ih3 _ _ _ _ _ _ _ _ _ _
   | exact ih4 _ _ _ _ _ _ _ _ _ _ _
   | exact qG.mono _ _ _ _ _ _ _ _
   | exact LeO.none _
   | refine LeO.ite ?_ ?_
   | refine LeO.bind ?_ (fun _ => ?_)
  ·intro y0 y1 y2 y3 y4 y5 y6 y7 y8
   unfold qj.l1
   repeat' first
   | (with_reducible exact ih0 _ _ _ _ _ _ _ _)
   | (with_reducible exact ih1 _ _ _ _ _ _ _ _ _)
   | (with_reducible exact ih2 _ _ _ _ _ _ _ _ _ _ _)
   | (with_reducible exact ih3 _ _ _ _ _ _ _ _ _ _)
   | (with_reducible exact ih4 _ _ _ _ _ _ _ _ _ _ _)
   | (with_reducible exact qG.mono _ _ _ _ _ _ _ _)
   | (with_reducible exact LeO.refl _)
   | (with_reducible exact LeO.none _)
   | (with_reducible refine LeO.ite ?_ ?_)
   | (with_reducible refine LeO.bind ?_ (fun _ => ?_))
   | exact ih0 _ _ _ _ _ _ _ _
   | exact ih1 _ _ _ _ _ _ _ _ _
   | exact ih2 _ _ _ _ _ _ _ _ _ _ _
   | exact ih3 _ _ _ _ _ _ _ _ _ _
   | exact ih4 _ _ _ _ _ _ _ _ _ _ _
   | exact qG.mono _ _ _ _ _ _ _ _
   | exact LeO.none _
   | refine LeO.ite ?_ ?_
   | refine LeO.bind ?_ (fun _ => ?_)
  ·intro y0 y1 y2 y3 y4 y5 y6 y7 y8 y9 y10
   unfold qj.j2
   repeat' first
   | (with_reducible exact ih0 _ _ _ _ _ _ _ _)
   | (with_reducible exact ih1 _ _ _ _ _ _ _ _ _)
   | (with_reducible exact ih2 _ _ _ _ _ _ _ _ _ _ _)
   | (with_reducible exact ih3 _ _ _ _ _ _ _ _ _ _)
   | (with_reducible exact ih4 _ _ _ _ _ _ _ _ _ _ _)
   | (with_reducible exact qG.mono _ _ _ _ _ _ _ _)
   | (with_reducible exact LeO.refl _)
   | (with_reducible exact LeO.none _)
   | (with_reducible refine LeO.ite ?_ ?_)
   | (with_reducible refine LeO.bind ?_ (fun _ => ?_))
   | exact ih0 _ _ _ _ _ _ _ _
   | exact ih1 _ _ _ _ _ _ _ _ _
   | exact ih2 _ _ _ _ _ _ _ _ _ _ _
   | exact ih3 _ _ _ _ _ _ _ _ _ _
   | exact ih4 _ _ _ _ _ _ _ _ _ _ _
   | exact qG.mono _ _ _ _ _ _ _ _
   | exact LeO.none _
   | refine LeO.ite ?_ ?_
   | refine LeO.bind ?_ (fun _ => ?_)
  ·intro y0 y1 y2 y3 y4 y5 y6 y7 y8 y9
   unfold qj.j3
   repeat' first
   | (with_reducible exact ih0 _ _ _ _ _ _ _ _)
   | (with_reducible exact ih1 _ _ _ _ _ _ _ _ _)
   | (with_reducible exact ih2 _ _ _ _ _ _ _ _ _ _ _)
   | (with_reducible exact ih3 _ _ _ _ _ _ _ _ _ _)
   | (with_reducible exact ih4 _ _ _ _ _ _ _ _ _ _ _)
   | (with_reducible exact qG.mono _ _ _ _ _ _ _ _)
   | (with_reducible exact LeO.refl _)
   | (with_reducible exact LeO.none _)
   | (with_reducible refine LeO.ite ?_ ?_)
   | (with_reducible refine LeO.bind ?_ (fun _ => ?_))
   | exact ih0 _ _ _ _ _ _ _ _
   | exact ih1 _ _ _ _ _ _ _ _ _
   | exact ih2 _ _ _ _ _ _ _ _ _ _ _
   | exact ih3 _ _ _ _ _ _ _ _ _ _
   | exact ih4 _ _ _ _ _ _ _ _ _ _ _
   | exact qG.mono _ _ _ _ _ _ _ _
   | exact LeO.none _
   | refine LeO.ite ?_ ?_
   | refine LeO.bind ?_ (fun _ => ?_)
  ·intro y0 y1 y2 y3 y4 y5 y6 y7 y8 y9 y10
   unfold qj.l2
   repeat' first
   | (with_reducible exact ih0 _ _ _ _ _ _ _ _)
   | (with_reducible exact ih1 _ _ _ _ _ _ _ _ _)
   | (with_reducible exact ih2 _ _ _ _ _ _ _ _ _ _ _)
   | (with_reducible exact ih3 _ _ _ _ _ _ _ _ _ _)
   | (with_reducible exact ih4 _ _ _ _ _ _ _ _ _ _ _)
   | (with_reducible exact qG.mono _ _ _ _ _ _ _ _)
   | (with_reducible exact LeO.refl _)
   | (with_reducible exact LeO.none _)
   | (with_reducible refine LeO.ite ?_ ?_)
   | (with_reducible refine LeO.bind ?_ (fun _ => ?_))
   | exact ih0 _ _ _ _ _ _ _ _
   | exact ih1 _ _ _ _ _ _ _ _ _
   | exact ih2 _ _ _ _ _ _ _ _ _ _ _
   | exact ih3 _ _ _ _ _ _ _ _ _ _
   | exact ih4 _ _ _ _ _ _ _ _ _ _ _
   | exact qG.mono _ _ _ _ _ _ _ _
   | exact LeO.none _
   | refine LeO.ite ?_ ?_
   | refine LeO.bind ?_ (fun _ => ?_)
theorem qj.mono : ∀ a0 a1 a2 a3 a4 a5 k,LeO (qj.f k a0 a1 a2 a3 a4 a5) (qj.f (k + 1) a0 a1 a2 a3 a4 a5):=by
 intro a0 a1 a2 a3 a4 a5 k
 obtain ⟨ih0,ih1,ih2,ih3,ih4⟩:=qj.zP k
 unfold qj.f
 repeat' first
   | (with_reducible exact ih0 _ _ _ _ _ _ _ _)
   | (with_reducible exact ih1 _ _ _ _ _ _ _ _ _)
   | (with_reducible exact ih2 _ _ _ _ _ _ _ _ _ _ _)
   | (with_reducible exact ih3 _ _ _ _ _ _ _ _ _ _)
   | (with_reducible exact ih4 _ _ _ _ _ _ _ _ _ _ _)
   | (with_reducible exact qG.mono _ _ _ _ _ _ _ _)
   | (with_reducible exact LeO.refl _)
   | (with_reducible exact LeO.none _)
   | (with_reducible refine LeO.ite ?_ ?_)
   | (with_reducible refine LeO.bind ?_ (fun _ => ?_))
   | exact ih0 _ _ _ _ _ _ _ _
   | exact ih1 _ _ _ _ _ _ _ _ _
   | exact ih2 _ _ _ _ _ _ _ _ _ _ _
   | exact ih3 _ _ _ _ _ _ _ _ _ _
   | exact ih4 _ _ _ _ _ _ _ _ _ _ _
   | exact qG.mono _ _ _ _ _ _ _ _
   | exact LeO.none _
   | refine LeO.ite ?_ ?_
   | refine LeO.bind ?_ (fun _ => ?_)
def qj.T15 : Bool × List (List Nat × List Nat):=(true,[([],[]),([],[]),([],[]),([1,2],[1,2]),([],[]),([],[]),([4,5],[4,5]),([],[]),([0,3,6,7],[0,3,6,7]),([8],[8]),([9],[9]),([9],[9]),([9],[9]),([9],[9]),([10,8,0,1,2,3,4,5,6,7,8,9,10],[10]),([11,14,0,1,2,3,4,5,6,7,8,9,10,11,14],[11]),([12,15,0,1,2,3,4,5,6,7,8,9,10,11,12,14,15],[12]),([13,16,0,1,2,3,4,5,6,7,8,9,10,11,12,13,14,15,16],[13])])
def qj.B15 : List Nat:=[0,0,0,6,0,0,48,0,255,511,1023,1023,1023,1023,2047,20479,57343,131071]
theorem qj.J4 : rtab .any (opsOf Try.f33 15) = qj.T15:=by kernel_rfl
theorem qj.QC : zt qj.T15.2 qj.B15 = true:=by kernel_rfl
set_option maxHeartbeats 8000000 in
set_option maxRecDepth 100000 in
theorem qj.calls (k : Nat) (a0 : ByteArray) (a1 : ByteArray) (a2_0 : Int) (a2_1 : Int) (a2_2 : Int) (a2_3 : Int) (r : List (List Int)) (w : World) (h : qj.f k a0 a1 a2_0 a2_1 a2_2 a2_3 = some r) :
  Calls Try.prog 33 #[.string a0,.string a1,.agg #[.int .i64 a2_0,.int .i64 a2_1,.int .i64 a2_2,.int .i64 a2_3]] w fun e w' => ∃ v0_ : Value,e = .returned (v0_) ∧ Kd.S (Kd.slice 3 (Kd.int .i64)) 62 w' w.heap.size (fun _ => True) v0_ r ∧ Below w.heap.size w w':=by
 have hu51:=Try.underlying51
 have HB:=qd.mk (Below.refl w.heap.size w)
 have H : (if 0 ≤ (wrap64 ((a0.size : Int) + 1)) then (if (wrap64 ((a0.size : Int) + 1) : Int).toNat ≤ 11728124029610 then (qj.l0 k a0 a1 (List.replicate (wrap64 ((a0.size : Int) + 1) : Int).toNat []) (a0.size : Int) a2_0 a2_1 a2_2 a2_3) else (none)) else (none)) = some r:=h
 clear h
 obtain ⟨ji4,hji4⟩ : ∃ j_ : Int,(wrap64 ((a0.size : Int) + 1)) = j_:=⟨_,rfl⟩
 replace H : (if 0 ≤ (ji4) then (if (ji4 : Int).toNat ≤ 11728124029610 then (qj.l0 k a0 a1 (List.replicate (ji4 : Int).toNat []) (a0.size : Int) a2_0 a2_1 a2_2 a2_3) else (none)) else (none)) = some r:=by first|(rw [hji4] at H;exact H)|(simp only [hji4] at H ⊢;exact H)
 have hji4w : (IntKind.i64.wrap ((a0.size : Int) + 1)) = ji4:=(qE _).trans hji4
 by_cases c5 : 0 ≤ (ji4)
 ·rw [if_pos c5] at H
  have c5b0:=eq_true c5
  have c5b1 : decide (0 ≤ (ji4)) = true:=decide_eq_true c5
  clear c5
  by_cases c6 : (ji4 : Int).toNat ≤ 11728124029610
  ·rw [if_pos c6] at H
   have c6b0:=eq_true c6
   have c6b1 : decide ((ji4 : Int).toNat ≤ 11728124029610) = true:=decide_eq_true c6
   clear c6
   obtain ⟨y131,hy131⟩ : ∃ y_ : List (List Int),y_ = (List.replicate (ji4 : Int).toNat []):=⟨_,rfl⟩
   replace H : (qj.l0 k a0 a1 y131 (a0.size : Int) a2_0 a2_1 a2_2 a2_3) = some r:=by first|(rw [hy131];with_reducible exact H)|(have H2_:=(Option.bind_some _ _).symm.trans H;rw [hy131];with_reducible exact H2_)|(have H2_:=(Option.bind_some _ _).symm.trans H;with_reducible exact H2_)|with_reducible exact H|(rw [hy131];exact H)|exact H
   have Ny131:=qd.mk hy131
   clear hy131
   have H':=qd.mk H
   clear H
   go_enter Try.func33,Try.ntmps33
   go_wp2_with (first|((with_reducible refine ji (N:=5) rfl ?_);(try (refine jm (by rfl) ?_;dsimp only));refine jg ?hg (N:=5) ?hd (cs:=#[.int .i64 a2_0,.int .i64 a2_1,.int .i64 a2_2,.int .i64 a2_3]) (t:=51) ?hr ?_;(case hd => rfl);(case hg => rfl);(case hr => first|(go_simp;done)|(go_simp;rfl));intro gb130 hg w7 hbox hb;have n0_:=qd.mk (qI (by repeat (first|(with_reducible first|exact HB.out|apply qg|apply qc|apply qf)|exact HB.out)) hb);have n1_:=qd.mk (hbox);have n2_:=qd.mk ((by rw [hg];exact (qH (by repeat (first|(with_reducible first|exact HB.out|apply qg|apply qc|apply qf)|exact HB.out))) : w.heap.size ≤ gb130));have n3_:=qd.mk ((by rw [hg];exact (qH (by repeat (first|(with_reducible first|exact HB.out|apply qg|apply qc|apply qf)|exact HB.out))) : w.heap.size ≤ gb130));clear HB;have HB:=n0_;have BK130:=n1_;have GW130:=n2_;have GE130:=n3_;clear n0_ n1_ n2_ n3_;clear hb hbox hg)|((with_reducible refine ji (N:=19) rfl ?_);(try (refine jm (by rfl) ?_;dsimp only));refine Kd.VU (Kd.slice 3 (Kd.int .i64)) _ 62 rfl (N:=19) rfl 78 _ _ rfl ji4 rfl rfl Try.underlying78 (.slice none 0 0) 24 VQ rfl (by decide) (by omega) [] (ok:=fun _ => True) (okp:=fun _ => True) ⟨_,rfl,Kd.kz _ _ _ _ _⟩ (fun _ hk => hk) trivial (of_decide_eq_true (by first|(with_reducible assumption)|assumption)) (Nat.le_trans (Nat.mul_le_mul_right _ (of_decide_eq_true (by first|(with_reducible assumption)|assumption) : ji4.toNat ≤ 11728124029610)) (by omega)) (Below.refl _ _) (Nat.le_refl _) ?_;intro v132 w8 ho9 hb hg_ hnew_;clear hg_ hnew_;(first|rw [← Ny131.out] at ho9|(simp only [Int.reduceToNat] at ho9;rw [← Ny131.out] at ho9));have n0_:=qd.mk (Kd.QR ho9 (qH (by repeat (first|(with_reducible first|exact HB.out|apply qg|apply qc|apply qf|refine qp ?_ GE130.out)|exact HB.out))));have n1_:=qd.mk (qR (g:=gb130) (o:=.cells #[.int .i64 a2_0,.int .i64 a2_1,.int .i64 a2_2,.int .i64 a2_3] 51 (0,0)) (by (with_reducible repeat (first|refine qx ?_ _|refine qA ?_|refine qw ?_ _));exact BK130.out) hb);have n2_:=qd.mk (qI (by repeat (first|(with_reducible first|exact HB.out|apply qg|apply qc|apply qf|refine qp ?_ GE130.out)|exact HB.out)) hb);clear BK130;clear HB;have HO133:=n0_;have BK130:=n1_;have HB:=n2_;clear n0_ n1_ n2_;clear hb ho9))
   go_loopg [8] k (fun kq v8 w' => ∃ (x7_1 : List (List Int)) (x8_1 : Int),v8 = .int .i64 x8_1 ∧ qd (qj.l0 kq a0 a1 x7_1 x8_1 a2_0 a2_1 a2_2 a2_3 = some r) ∧ qd (kq ≤ k) ∧ qd (Kd.S (Kd.slice 3 (Kd.int .i64)) 62 w' w.heap.size (fun _ => True) v132 x7_1) ∧ qd (w'.heap[gb130]? = some (.cells #[.int .i64 a2_0,.int .i64 a2_1,.int .i64 a2_2,.int .i64 a2_3] 51 (0,0))) ∧ qd (Below w.heap.size w w'))
   case atStart => exact ⟨(y131),((a0.size : Int)),(by first|rfl|(simp;done)|(simp [*];done)),H',⟨Nat.le_refl _⟩,⟨by (with_reducible repeat (first|apply Kd.jy|apply Kd.jA|apply Kd.jD));exact HO133.out⟩,⟨by (with_reducible repeat (first|refine qx ?_ _|refine qA ?_|refine qw ?_ _));exact BK130.out⟩,⟨by repeat (first|(with_reducible first|exact HB.out|apply qg|apply qc|apply qf|refine qp ?_ GE130.out)|exact HB.out)⟩⟩
   case round =>
    clear H'
    try clear p2
    try clear c3
    try clear c5
    try clear c5b0
    try clear c5b1
    try clear c6
    try clear c6b0
    try clear c6b1
    try clear p6
    obtain ⟨x7_1,x8_1,rfl,HA,HK1,HO_7,BK130,HB⟩:=hrel
    cases gk with
    | zero => exact absurd HA.out (by simp [qj.l0])
    | succ k1 =>
     have H:=HA.out
     clear HA
     simp only [qj.l0] at H
     by_cases c10 : x8_1 ≥ 0
     ·rw [if_pos c10] at H
      have c10b0 : decide (0 ≤ x8_1) = true:=decide_eq_true c10
      clear c10
      obtain ⟨ji11,hji11⟩ : ∃ j_ : Int,(wrap64 ((a1.size : Int) + 1)) = j_:=⟨_,rfl⟩
      replace H : (if 0 ≤ (ji11) then (if (ji11 : Int).toNat ≤ 35184372088832 then (if 0 ≤ x8_1 then (if x8_1 < (x7_1.length : Int) then (qj.l1 k1 a0 a1 (x7_1.set (x8_1 : Int).toNat (List.replicate (ji11 : Int).toNat 0)) x8_1 (a1.size : Int) a2_0 a2_1 a2_2 a2_3) else (none)) else (none)) else (none)) else (none)) = some r:=by first|(rw [hji11] at H;exact H)|(simp only [hji11] at H ⊢;exact H)
      have hji11w : (IntKind.i64.wrap ((a1.size : Int) + 1)) = ji11:=(qE _).trans hji11
      by_cases c12 : 0 ≤ (ji11)
      ·rw [if_pos c12] at H
       have c12b0:=eq_true c12
       have c12b1 : decide (0 ≤ (ji11)) = true:=decide_eq_true c12
       clear c12
       by_cases c13 : (ji11 : Int).toNat ≤ 35184372088832
       ·rw [if_pos c13] at H
        have c13b0:=eq_true c13
        have c13b1 : decide ((ji11 : Int).toNat ≤ 35184372088832) = true:=decide_eq_true c13
        clear c13
        obtain ⟨y134,hy134⟩ : ∃ y_ : List Int,y_ = (List.replicate (ji11 : Int).toNat 0):=⟨_,rfl⟩
        replace H : (if 0 ≤ x8_1 then (if x8_1 < (x7_1.length : Int) then (qj.l1 k1 a0 a1 (x7_1.set (x8_1 : Int).toNat y134) x8_1 (a1.size : Int) a2_0 a2_1 a2_2 a2_3) else (none)) else (none)) = some r:=by first|(rw [hy134];with_reducible exact H)|(have H2_:=(Option.bind_some _ _).symm.trans H;rw [hy134];with_reducible exact H2_)|(have H2_:=(Option.bind_some _ _).symm.trans H;with_reducible exact H2_)|with_reducible exact H|(rw [hy134];exact H)|exact H
        have Ny134:=qd.mk hy134
        clear hy134
        by_cases c14 : 0 ≤ x8_1
        ·rw [if_pos c14] at H
         have c14b0 : decide (0 ≤ x8_1) = true:=decide_eq_true c14
         clear c14
         by_cases c15 : x8_1 < (x7_1.length : Int)
         ·rw [if_pos c15] at H
          have c15b0 : decide (x8_1 < (x7_1.length : Int)) = true:=decide_eq_true c15
          clear c15
          obtain ⟨y137,hy137⟩ : ∃ y_ : List (List Int),y_ = (x7_1.set (x8_1 : Int).toNat y134):=⟨_,rfl⟩
          replace H : (qj.l1 k1 a0 a1 y137 x8_1 (a1.size : Int) a2_0 a2_1 a2_2 a2_3) = some r:=by first|(rw [hy137];with_reducible exact H)|(have H2_:=(Option.bind_some _ _).symm.trans H;rw [hy137];with_reducible exact H2_)|(have H2_:=(Option.bind_some _ _).symm.trans H;with_reducible exact H2_)|with_reducible exact H|(rw [hy137];exact H)|exact H
          have Ny137:=qd.mk hy137
          clear hy137
          have H':=qd.mk H
          clear H
          go_wp2_with (first|((with_reducible refine ji (N:=31) rfl ?_);(try (refine jm (by rfl) ?_;dsimp only));refine Kd.XF (Kd.int .i64) _ 3 rfl (N:=31) rfl 62 _ _ rfl ji11 rfl rfl Try.underlying62 (.int .i64 0) 8 info3 rfl (by decide) (by omega) 0 (ok:=fun _ => True) (okp:=fun _ => True) rfl (fun _ hk => hk) trivial (of_decide_eq_true (by first|(with_reducible assumption)|assumption)) (Nat.le_trans (Nat.mul_le_mul_right _ (of_decide_eq_true (by first|(with_reducible assumption)|assumption) : ji11.toNat ≤ 35184372088832)) (by omega)) (Below.refl _ _) (Nat.le_refl _) ?_;intro v135 w17 ho18 hb hg_ hnew_;clear hg_ hnew_;(first|rw [← Ny134.out] at ho18|(simp only [Int.reduceToNat] at ho18;rw [← Ny134.out] at ho18));have n0_:=qd.mk (Kd.XG (by (with_reducible repeat (first|apply Kd.jy|apply Kd.jA|apply Kd.jD));exact HO_7.out) (Kd.jd ho18) hb);have n1_:=qd.mk (Kd.jS ho18 (qH (by repeat (first|(with_reducible first|exact HB.out|apply qg|apply qc|apply qf|refine qp ?_ GE130.out)|exact HB.out))));have n2_:=qd.mk (qR (g:=gb130) (o:=.cells #[.int .i64 a2_0,.int .i64 a2_1,.int .i64 a2_2,.int .i64 a2_3] 51 (0,0)) (by (with_reducible repeat (first|refine qx ?_ _|refine qA ?_|refine qw ?_ _));exact BK130.out) hb);have n3_:=qd.mk (qI (by repeat (first|(with_reducible first|exact HB.out|apply qg|apply qc|apply qf|refine qp ?_ GE130.out)|exact HB.out)) hb);clear HO_7;clear BK130;clear HB;have HO_7:=n0_;have HO136:=n1_;have BK130:=n2_;have HB:=n3_;clear n0_ n1_ n2_ n3_;clear hb ho18;have p16 : 0 ≤ (x8_1 : Int):=of_decide_eq_true (by first|(with_reducible assumption)|assumption);have q16 : (x8_1 : Int) < ((x7_1.length : Int) : Int):=of_decide_eq_true (by first|(with_reducible assumption)|assumption);obtain ⟨go16,co16,eo16,gb16,gl16,cl16,HG16⟩:=Kd.VF HO_7.out (by omega);(first|cases eo16|(injection eo16 with ea_ en_ ec_;(first|subst ea_|(injection ea_ with ea_;subst ea_));subst ec_;clear en_));have GB16:=qd.mk gb16;have GG16:=qd.mk HG16;clear gb16 gl16 HG16;obtain ⟨_,ce16,hcl16,hM16,hcc16,hfr16,_,_⟩:=Kd.ZR HO_7.out [] (x8_1 : Int) p16 q16;obtain ⟨ve16_0,rfl,ge16_0⟩:=hM16;have hx16_0:=hcc16 0 _ rfl;have hf16_0:=hfr16 0;(try simp only [show ((Kd.slice 3 (Kd.int .i64))).sz = 1 from rfl,Nat.mul_one,Nat.add_zero] at hx16_0);(try simp only [show ((Kd.slice 3 (Kd.int .i64))).sz = 1 from rfl,Nat.mul_one,Nat.add_zero] at hf16_0);(try clear hcl16);(try clear hcc16);(try clear hfr16);(try clear hM16);replace p16:=eq_true p16;replace q16:=eq_true q16;have n_:=qd.mk (Kd.yf (ok':=(fun k_ => some k_ ≠ (v135 : Value).ownBlock)) HO_7.out (fun k_ hk => hk.2));clear HO_7;have HO_7:=n_;clear n_;have HX19:=qd.mk (show Kd.S (Kd.slice 3 (Kd.int .i64)) 62 w17 w.heap.size (fun k_ => ((fun _ => True)) k_ ∧ ¬ ((fun k_ => some k_ = (v135 : Value).ownBlock)) k_) (.slice (some ⟨go16,0,none⟩) x7_1.length co16) x7_1 from (by (with_reducible repeat (first|apply Kd.jy|apply Kd.jA|apply Kd.jD));exact Kd.yf HO_7.out (fun k_ hk => ⟨trivial,fun e_ => hk e_⟩)));obtain ⟨oki19,ce19,hcl19,hM19,hcc19,hfr19,hoki19,hH19⟩:=Kd.ZR HX19.out [] (x8_1 : Int) (of_decide_eq_true (by first|(with_reducible assumption)|assumption)) (by have h_ : (x8_1 : Int) < ((x7_1.length : Int) : Int):=of_decide_eq_true (by first|(with_reducible assumption)|assumption);first|exact h_|(have e_:=(Kd.jR HO_7.out).1;omega)|simpa using h_);obtain ⟨ve19_0,rfl,ge19_0⟩:=hM19;have HP19:=Kd.Kv hH19 (of_decide_eq_true (by first|(with_reducible assumption)|assumption)) (by have h_ : (x8_1 : Int) < ((x7_1.length : Int) : Int):=of_decide_eq_true (by first|(with_reducible assumption)|assumption);first|exact h_|(have e_:=(Kd.jR HO_7.out).1;omega)|simpa using h_) (seg:=[v135]) (j:=0) (show 1 ≤ 1 from by decide) (x':=y134) (Kd.Vl (Kd.qO (Kd.JR rfl (Kd.qO (ok':=fun k_ => ((fun _ => True)) k_ ∧ k_ ≠ go16) (Kd.ja (HO136.out) (Kd.JX HO_7.out) (by decide)) (fun k_ hk => ⟨trivial,fun e_ => (hk.2) (by rw [e_];rfl)⟩))) (fun _ h_ => Or.inr (h_)))) (fun _ hk => hk) (fun k_ hk_ => ((Kd.qO (ok':=fun k_ => ((fun _ => True)) k_ ∧ k_ ≠ go16) (Kd.ja (HO136.out) (Kd.JX HO_7.out) (by decide)) (fun k_ hk => ⟨trivial,fun e_ => (hk.2) (by rw [e_];rfl)⟩))).1 k_ hk_.symm);have hx19_0:=hcc19 0 _ rfl;(try simp only [show ((Kd.slice 3 (Kd.int .i64))).sz = 1 from rfl,Nat.mul_one,Nat.add_zero] at hx19_0);have hf19_0:=hfr19 0;(try simp only [show ((Kd.slice 3 (Kd.int .i64))).sz = 1 from rfl,Nat.mul_one,Nat.add_zero] at hf19_0);(try clear hcl19);(try clear hcc19);(try clear hfr19);(try clear hM19);(try clear hoki19);(try clear hH19);(try simp only [show ((Kd.slice 3 (Kd.int .i64))).sz = 1 from rfl,Nat.mul_one,Nat.add_zero] at HP19))|((with_reducible refine yZ (t:=62) (p:=32) rfl ?_);refine yw (w1:=(w17.setCell ⟨go16,(x8_1 : Int).toNat,none⟩ (v135))) rfl (t:=62) (p:=32) rfl rfl ?hr ?_;(case hr => obtain ⟨Ah_,ch_,rfl⟩:=Kd.jk HO136.out;first|(go_simp;done)|(go_simp;rfl));intro w20 hw;have hg : w17.grownBy w20 (some go16):=(by rw [hw];exact HP19.2);have hp_ : Kd.S (Kd.slice 3 (Kd.int .i64)) 62 w20 w.heap.size (fun _ => True) (.slice (some ⟨go16,0,none⟩) x7_1.length co16) y137:=(by rw [hw,Ny137.out];exact HP19.1);clear HP19;have n0_:=qd.mk (hp_);have n1_:=qd.mk (zG (g:=gb130) (o:=.cells #[.int .i64 a2_0,.int .i64 a2_1,.int .i64 a2_2,.int .i64 a2_3] 51 (0,0)) (by (with_reducible repeat (first|refine qx ?_ _|refine qA ?_|refine qw ?_ _));exact BK130.out) hg (Kd.S_ne HO_7.out BK130.out (by decide)));have n2_:=qd.mk ((by rw [hw];exact qp (HB.out) GB16.out : Below w.heap.size w w20));clear HO_7;clear BK130;clear HB;clear HO136;have HO_7:=n0_;have BK130:=n1_;have HB:=n2_;clear n0_ n1_ n2_;clear hg hw hp_))
          go_loopg [9] k1 (fun kq v9 w' => ∃ (x7_2 : List (List Int)) (x9_2 : Int),v9 = .int .i64 x9_2 ∧ qd (qj.l1 kq a0 a1 x7_2 x8_1 x9_2 a2_0 a2_1 a2_2 a2_3 = some r) ∧ qd (kq ≤ k1) ∧ qd (Kd.S (Kd.slice 3 (Kd.int .i64)) 62 w' w.heap.size (fun _ => True) (.slice (some ⟨go16,0,none⟩) x7_1.length co16) x7_2) ∧ qd (w'.heap[gb130]? = some (.cells #[.int .i64 a2_0,.int .i64 a2_1,.int .i64 a2_2,.int .i64 a2_3] 51 (0,0))) ∧ qd (Below w.heap.size w w'))
          case atStart => exact ⟨(y137),((a1.size : Int)),(by first|rfl|(simp;done)|(simp [*];done)),H',⟨Nat.le_refl _⟩,⟨by (with_reducible repeat (first|apply Kd.jy|apply Kd.jA|apply Kd.jD));exact HO_7.out⟩,⟨by (with_reducible repeat (first|refine qx ?_ _|refine qA ?_|refine qw ?_ _));exact BK130.out⟩,⟨by repeat (first|(with_reducible first|exact HB.out|apply qg|apply qc|apply qf|refine qp ?_ GE130.out)|exact HB.out)⟩⟩
          case round =>
           clear H'
           try clear c1
           try clear p1
           try clear q1
           try clear hx1
           try clear p2
           try clear c3
           try clear c5
           try clear c5b0
           try clear c5b1
           try clear c6
           try clear c6b0
           try clear c6b1
           try clear p6
           try clear c10
           try clear c10b0
           try clear c12
           try clear c12b0
           try clear c12b1
           try clear c13
           try clear c13b0
           try clear c13b1
           try clear c14
           try clear c14b0
           try clear c15
           try clear c15b0
           try clear c16
           try clear p16
           try clear q16
           try clear hx16
           try clear hf16
           try clear c19
           try clear hx19
           try clear hf19
           try clear hx16_0
           try clear hx19_0
           try clear p16
           try clear p2
           try clear p6
           try clear q16
           obtain ⟨x7_2,x9_2,rfl,HA,HK2,HO_7,BK130,HB⟩:=hrel
           have hl7_2:=(Kd.jR HO_7.out).1
           rw [hl7_2] at HO_7
           (try simp only [hl7_2])
           (try simp only [hl7_2] at BK130)
           cases gk with
           | zero => exact absurd HA.out (by simp [qj.l1])
           | succ k2 =>
            have H:=HA.out
            clear HA
            simp only [qj.l1] at H
            by_cases c21 : x9_2 ≥ 0
            ·rw [if_pos c21] at H
             have c21b0 : decide (0 ≤ x9_2) = true:=decide_eq_true c21
             clear c21
             have HC22:=qd.mk H
             clear H
             go_upto_region 10 with (fail)
             go_cut [48] (fun v48 wc => ∃ (kq : Nat) (x48_21 : Bool),v48 = .bool x48_21 ∧ qd (qj.j2 kq a0 a1 x7_2 x8_1 x9_2 (-1) x48_21 a2_0 a2_1 a2_2 a2_3 = some r) ∧ qd (kq ≤ k2) ∧ qd (Kd.S (Kd.slice 3 (Kd.int .i64)) 62 wc w.heap.size (fun _ => True) (.slice (some ⟨go16,0,none⟩) x7_2.length co16) x7_2) ∧ qd (wc.heap[gb130]? = some (.cells #[.int .i64 a2_0,.int .i64 a2_1,.int .i64 a2_2,.int .i64 a2_3] 51 (0,0))) ∧ qd (Below w.heap.size w wc))
             case first =>
              have H:=HC22.out
              clear HC22
              by_cases c23 : x8_1 = (a0.size : Int)
              ·rw [if_pos c23] at H
               have c23b0 : (x8_1 == (a0.size : Int)) = true:=beq_iff_eq.mpr c23
               have c23b1 : (x8_1 != (a0.size : Int)) = false:=bne_eq_false_iff_eq.mpr c23
               clear c23
               (first|rw [c23b0]|(simp only [qE,qF];rw [c23b0])|skip)
               have H':=qd.mk H
               clear H
               go_wp2
               go_meet
               case rel => exact ⟨_,((x9_2 == (a1.size : Int))),(by first|rfl|(simp;done)|(simp [*];done)),H',⟨by have:=HK1.out;have:=HK2.out;first|omega|exact Nat.le_refl _⟩,⟨by (try simp only [hl7_2]);(with_reducible repeat (first|apply Kd.jy|apply Kd.jA|apply Kd.jD));exact HO_7.out⟩,⟨by (try simp only [hl7_2]);(with_reducible repeat (first|refine qx ?_ _|refine qA ?_|refine qw ?_ _));exact BK130.out⟩,⟨by repeat (first|(with_reducible first|exact HB.out|apply qg|apply qc|apply qf|refine qp ?_ GE130.out)|exact HB.out)⟩⟩
              ·rw [if_neg c23] at H
               have c23b0 : (x8_1 == (a0.size : Int)) = false:=beq_eq_false_iff_ne.mpr c23
               have c23b1 : (x8_1 != (a0.size : Int)) = true:=bne_iff_ne.mpr c23
               (first|rw [c23b0]|(simp only [qE,qF];rw [c23b0])|skip)
               have H':=qd.mk H
               clear H
               go_wp2
               go_meet
               case rel => exact ⟨_,(false),(by first|rfl|(simp;done)|(simp [*];done)),H',⟨by have:=HK1.out;have:=HK2.out;first|omega|exact Nat.le_refl _⟩,⟨by (try simp only [hl7_2]);(with_reducible repeat (first|apply Kd.jy|apply Kd.jA|apply Kd.jD));exact HO_7.out⟩,⟨by (try simp only [hl7_2]);(with_reducible repeat (first|refine qx ?_ _|refine qA ?_|refine qw ?_ _));exact BK130.out⟩,⟨by repeat (first|(with_reducible first|exact HB.out|apply qg|apply qc|apply qf|refine qp ?_ GE130.out)|exact HB.out)⟩⟩
             case rest =>
              clear HC22
              try clear c1
              try clear p1
              try clear q1
              try clear hx1
              try clear c2
              try clear p2
              try clear c3
              try clear c5
              try clear c5b0
              try clear c5b1
              try clear c6
              try clear c6b0
              try clear c6b1
              try clear p6
              try clear c10
              try clear c10b0
              try clear c12
              try clear c12b0
              try clear c12b1
              try clear c13
              try clear c13b0
              try clear c13b1
              try clear c14
              try clear c14b0
              try clear c15
              try clear c15b0
              try clear c16
              try clear p16
              try clear q16
              try clear hx16
              try clear hf16
              try clear c19
              try clear hx19
              try clear hf19
              try clear c21
              try clear c21b0
              try clear c23
              try clear c23b0
              try clear c23b1
              try clear hx16_0
              try clear hx19_0
              try clear p1
              try clear p16
              try clear p2
              try clear p6
              try clear q1
              try clear q16
              obtain ⟨kq,x48_21,rfl,HA,HJ21,HO_7,BK130,HB⟩:=hcut
              cases kq with
              | zero => exact absurd HA.out (by simp [qj.j2])
              | succ kj21 =>
               have H:=HA.out
               clear HA
               simp only [qj.j2] at H
               have HC24:=qd.mk H
               clear H
               go_upto_if 48 with (fail)
               go_cut [10] (fun v10 wc => ∃ (kq : Nat) (x10_23 : Int),v10 = .int .i64 x10_23 ∧ qd (qj.j3 kq a0 a1 x7_2 x8_1 x9_2 x10_23 a2_0 a2_1 a2_2 a2_3 = some r) ∧ qd (kq ≤ kj21) ∧ qd (Kd.S (Kd.slice 3 (Kd.int .i64)) 62 wc w.heap.size (fun _ => True) (.slice (some ⟨go16,0,none⟩) x7_2.length co16) x7_2) ∧ qd (wc.heap[gb130]? = some (.cells #[.int .i64 a2_0,.int .i64 a2_1,.int .i64 a2_2,.int .i64 a2_3] 51 (0,0))) ∧ qd (Below w.heap.size w wc))
               case first =>
                have H:=HC24.out
                clear HC24
                by_cases c25 : x48_21 = true
                ·subst c25
                 have H1 : (qj.j3 kj21 a0 a1 x7_2 x8_1 x9_2 0 a2_0 a2_1 a2_2 a2_3) = some r:=by rw [if_pos rfl] at H;exact H
                 clear H
                 have H:=H1
                 clear H1
                 have H':=qd.mk H
                 clear H
                 go_wp2
                 go_meet
                 case rel => exact ⟨_,(0),(by first|rfl|(simp;done)|(simp [*];done)),H',⟨by have:=HK1.out;have:=HK2.out;have:=HJ21.out;first|omega|exact Nat.le_refl _⟩,⟨by (try simp only [hl7_2]);(with_reducible repeat (first|apply Kd.jy|apply Kd.jA|apply Kd.jD));exact HO_7.out⟩,⟨by (try simp only [hl7_2]);(with_reducible repeat (first|refine qx ?_ _|refine qA ?_|refine qw ?_ _));exact BK130.out⟩,⟨by repeat (first|(with_reducible first|exact HB.out|apply qg|apply qc|apply qf|refine qp ?_ GE130.out)|exact HB.out)⟩⟩
                ·replace c25:=Bool.eq_false_iff.mpr c25
                 subst c25
                 have H1 : (qj.j3 kj21 a0 a1 x7_2 x8_1 x9_2 (-1) a2_0 a2_1 a2_2 a2_3) = some r:=by rw [if_neg (show ¬ (false = true) by decide)] at H;exact H
                 clear H
                 have H:=H1
                 clear H1
                 have H':=qd.mk H
                 clear H
                 go_wp2
                 go_meet
                 case rel => exact ⟨_,((-1)),(by first|rfl|(simp;done)|(simp [*];done)),H',⟨by have:=HK1.out;have:=HK2.out;have:=HJ21.out;first|omega|exact Nat.le_refl _⟩,⟨by (try simp only [hl7_2]);(with_reducible repeat (first|apply Kd.jy|apply Kd.jA|apply Kd.jD));exact HO_7.out⟩,⟨by (try simp only [hl7_2]);(with_reducible repeat (first|refine qx ?_ _|refine qA ?_|refine qw ?_ _));exact BK130.out⟩,⟨by repeat (first|(with_reducible first|exact HB.out|apply qg|apply qc|apply qf|refine qp ?_ GE130.out)|exact HB.out)⟩⟩
               case rest =>
                clear HC24
                try clear c1
                try clear p1
                try clear q1
                try clear hx1
                try clear c2
                try clear p2
                try clear c3
                try clear c5
                try clear c5b0
                try clear c5b1
                try clear c6
                try clear c6b0
                try clear c6b1
                try clear p6
                try clear c10
                try clear c10b0
                try clear c12
                try clear c12b0
                try clear c12b1
                try clear c13
                try clear c13b0
                try clear c13b1
                try clear c14
                try clear c14b0
                try clear c15
                try clear c15b0
                try clear c16
                try clear p16
                try clear q16
                try clear hx16
                try clear hf16
                try clear c19
                try clear hx19
                try clear hf19
                try clear c21
                try clear c21b0
                try clear c23
                try clear c23b0
                try clear c23b1
                try clear c25
                try clear hx16_0
                try clear hx19_0
                try clear p1
                try clear p16
                try clear p2
                try clear p6
                try clear q1
                try clear q16
                obtain ⟨kq,x10_23,rfl,HA,HJ23,HO_7,BK130,HB⟩:=hcut
                cases kq with
                | zero => exact absurd HA.out (by simp [qj.j3])
                | succ kj23 =>
                 have H:=HA.out
                 clear HA
                 simp only [qj.j3] at H
                 have H':=qd.mk H
                 clear H
                 go_wp2
                 go_loopg [10,11] kj23 (fun kq v10 v11 w' => ∃ (x10_5 : Int) (x11_5 : Int),v10 = .int .i64 x10_5 ∧ v11 = .int .u8 x11_5 ∧ qd (qj.l2 kq a0 a1 x7_2 x8_1 x9_2 x10_5 x11_5 a2_0 a2_1 a2_2 a2_3 = some r) ∧ qd (kq ≤ kj23) ∧ qd (Kd.S (Kd.slice 3 (Kd.int .i64)) 62 w' w.heap.size (fun _ => True) (.slice (some ⟨go16,0,none⟩) x7_2.length co16) x7_2) ∧ qd (w'.heap[gb130]? = some (.cells #[.int .i64 a2_0,.int .i64 a2_1,.int .i64 a2_2,.int .i64 a2_3] 51 (0,0))) ∧ qd (Below w.heap.size w w'))
                 case atStart => exact ⟨(x10_23),(1),(by first|rfl|(simp;done)|(simp [*];done)),(by first|rfl|(simp;done)|(simp [*];done)),H',⟨Nat.le_refl _⟩,⟨by (try simp only [hl7_2]);(with_reducible repeat (first|apply Kd.jy|apply Kd.jA|apply Kd.jD));exact HO_7.out⟩,⟨by (try simp only [hl7_2]);(with_reducible repeat (first|refine qx ?_ _|refine qA ?_|refine qw ?_ _));exact BK130.out⟩,⟨by repeat (first|(with_reducible first|exact HB.out|apply qg|apply qc|apply qf|refine qp ?_ GE130.out)|exact HB.out)⟩⟩
                 case round =>
                  clear H'
                  try clear c1
                  try clear p1
                  try clear q1
                  try clear hx1
                  try clear c2
                  try clear p2
                  try clear c3
                  try clear c5
                  try clear c5b0
                  try clear c5b1
                  try clear c6
                  try clear c6b0
                  try clear c6b1
                  try clear p6
                  try clear c10
                  try clear c10b0
                  try clear c12
                  try clear c12b0
                  try clear c12b1
                  try clear c13
                  try clear c13b0
                  try clear c13b1
                  try clear c14
                  try clear c14b0
                  try clear c15
                  try clear c15b0
                  try clear c16
                  try clear p16
                  try clear q16
                  try clear hx16
                  try clear hf16
                  try clear c19
                  try clear hx19
                  try clear hf19
                  try clear c21
                  try clear c21b0
                  try clear c23
                  try clear c23b0
                  try clear c23b1
                  try clear c25
                  try clear hx16_0
                  try clear hx19_0
                  try clear p1
                  try clear p16
                  try clear p2
                  try clear p6
                  try clear q1
                  try clear q16
                  obtain ⟨x10_5,x11_5,rfl,rfl,HA,HK5,HO_7,BK130,HB⟩:=hrel
                  cases gk with
                  | zero => exact absurd HA.out (by simp [qj.l2])
                  | succ k5 =>
                   have H:=HA.out
                   clear HA
                   simp only [qj.l2] at H
                   by_cases c26 : x11_5 ≤ 5
                   ·rw [if_pos c26] at H
                    have c26b0 : decide (x11_5 ≤ 5) = true:=decide_eq_true c26
                    clear c26
                    by_cases c27 : 0 ≤ x8_1
                    ·rw [if_pos c27] at H
                     have c27b0:=eq_true c27
                     have c27b1 : decide (0 ≤ x8_1) = true:=decide_eq_true c27
                     clear c27
                     by_cases c28 : x8_1 ≤ (a0.size : Int)
                     ·rw [if_pos c28] at H
                      have c28b0:=eq_true c28
                      have c28b1 : decide (x8_1 ≤ (a0.size : Int)) = true:=decide_eq_true c28
                      clear c28
                      by_cases c29 : 0 ≤ x9_2
                      ·rw [if_pos c29] at H
                       have c29b0:=eq_true c29
                       have c29b1 : decide (0 ≤ x9_2) = true:=decide_eq_true c29
                       clear c29
                       by_cases c30 : x9_2 ≤ (a1.size : Int)
                       ·rw [if_pos c30] at H
                        have c30b0:=eq_true c30
                        have c30b1 : decide (x9_2 ≤ (a1.size : Int)) = true:=decide_eq_true c30
                        clear c30
                        replace H:=Option.bind_eq_some_iff.mp H
                        obtain ⟨⟨t138,t139,t140,t141⟩,A310,H⟩:=H
                        replace H : (if t138 = true then (if x10_5 < 0 then (if 0 ≤ (wrap64 (x8_1 + t139)) then (if (wrap64 (x8_1 + t139)) < (x7_2.length : Int) then (if 0 ≤ (wrap64 (x9_2 + t140)) then (if (wrap64 (x9_2 + t140)) < ((qW x7_2 (wrap64 (x8_1 + t139))).length : Int) then (qj.l2 k5 a0 a1 x7_2 x8_1 x9_2 (wrap64 (t141 + (rd (qW x7_2 (wrap64 (x8_1 + t139))) (wrap64 (x9_2 + t140))))) ((x11_5 + 1) % 256) a2_0 a2_1 a2_2 a2_3) else (none)) else (none)) else (none)) else (none)) else (if 0 ≤ (wrap64 (x8_1 + t139)) then (if (wrap64 (x8_1 + t139)) < (x7_2.length : Int) then (if 0 ≤ (wrap64 (x9_2 + t140)) then (if (wrap64 (x9_2 + t140)) < ((qW x7_2 (wrap64 (x8_1 + t139))).length : Int) then (if (wrap64 (t141 + (rd (qW x7_2 (wrap64 (x8_1 + t139))) (wrap64 (x9_2 + t140))))) < x10_5 then (qj.l2 k5 a0 a1 x7_2 x8_1 x9_2 (wrap64 (t141 + (rd (qW x7_2 (wrap64 (x8_1 + t139))) (wrap64 (x9_2 + t140))))) ((x11_5 + 1) % 256) a2_0 a2_1 a2_2 a2_3) else (qj.l2 k5 a0 a1 x7_2 x8_1 x9_2 x10_5 ((x11_5 + 1) % 256) a2_0 a2_1 a2_2 a2_3)) else (none)) else (none)) else (none)) else (none))) else (qj.l2 k5 a0 a1 x7_2 x8_1 x9_2 x10_5 ((x11_5 + 1) % 256) a2_0 a2_1 a2_2 a2_3)) = some r:=H
                        have A31:=qd.mk A310
                        clear A310
                        by_cases c32 : t138 = true
                        ·subst c32
                         have H1 : (if x10_5 < 0 then (if 0 ≤ (wrap64 (x8_1 + t139)) then (if (wrap64 (x8_1 + t139)) < (x7_2.length : Int) then (if 0 ≤ (wrap64 (x9_2 + t140)) then (if (wrap64 (x9_2 + t140)) < ((qW x7_2 (wrap64 (x8_1 + t139))).length : Int) then (qj.l2 k5 a0 a1 x7_2 x8_1 x9_2 (wrap64 (t141 + (rd (qW x7_2 (wrap64 (x8_1 + t139))) (wrap64 (x9_2 + t140))))) ((x11_5 + 1) % 256) a2_0 a2_1 a2_2 a2_3) else (none)) else (none)) else (none)) else (none)) else (if 0 ≤ (wrap64 (x8_1 + t139)) then (if (wrap64 (x8_1 + t139)) < (x7_2.length : Int) then (if 0 ≤ (wrap64 (x9_2 + t140)) then (if (wrap64 (x9_2 + t140)) < ((qW x7_2 (wrap64 (x8_1 + t139))).length : Int) then (if (wrap64 (t141 + (rd (qW x7_2 (wrap64 (x8_1 + t139))) (wrap64 (x9_2 + t140))))) < x10_5 then (qj.l2 k5 a0 a1 x7_2 x8_1 x9_2 (wrap64 (t141 + (rd (qW x7_2 (wrap64 (x8_1 + t139))) (wrap64 (x9_2 + t140))))) ((x11_5 + 1) % 256) a2_0 a2_1 a2_2 a2_3) else (qj.l2 k5 a0 a1 x7_2 x8_1 x9_2 x10_5 ((x11_5 + 1) % 256) a2_0 a2_1 a2_2 a2_3)) else (none)) else (none)) else (none)) else (none))) = some r:=by rw [if_pos rfl] at H;exact H
                         clear H
                         have H:=H1
                         clear H1
                         by_cases c33 : x10_5 < 0
                         ·rw [if_pos c33] at H
                          have c33b0 : decide (x10_5 < 0) = true:=decide_eq_true c33
                          clear c33
                          obtain ⟨ji34,hji34⟩ : ∃ j_ : Int,(wrap64 (x8_1 + t139)) = j_:=⟨_,rfl⟩
                          replace H : (if 0 ≤ (ji34) then (if (ji34) < (x7_2.length : Int) then (if 0 ≤ (wrap64 (x9_2 + t140)) then (if (wrap64 (x9_2 + t140)) < ((qW x7_2 (ji34)).length : Int) then (qj.l2 k5 a0 a1 x7_2 x8_1 x9_2 (wrap64 (t141 + (rd (qW x7_2 (ji34)) (wrap64 (x9_2 + t140))))) ((x11_5 + 1) % 256) a2_0 a2_1 a2_2 a2_3) else (none)) else (none)) else (none)) else (none)) = some r:=by first|(rw [hji34] at H;exact H)|(simp only [hji34] at H ⊢;exact H)
                          (try rw [hji34] at A31)
                          have hji34w : (IntKind.i64.wrap (x8_1 + t139)) = ji34:=(qE _).trans hji34
                          by_cases c35 : 0 ≤ (ji34)
                          ·rw [if_pos c35] at H
                           have c35b0 : decide (0 ≤ (ji34)) = true:=decide_eq_true c35
                           clear c35
                           by_cases c36 : (ji34) < (x7_2.length : Int)
                           ·rw [if_pos c36] at H
                            have c36b0 : decide ((ji34) < (x7_2.length : Int)) = true:=decide_eq_true c36
                            clear c36
                            obtain ⟨ji37,hji37⟩ : ∃ j_ : Int,(wrap64 (x9_2 + t140)) = j_:=⟨_,rfl⟩
                            replace H : (if 0 ≤ (ji37) then (if (ji37) < ((qW x7_2 (ji34)).length : Int) then (qj.l2 k5 a0 a1 x7_2 x8_1 x9_2 (wrap64 (t141 + (rd (qW x7_2 (ji34)) (ji37)))) ((x11_5 + 1) % 256) a2_0 a2_1 a2_2 a2_3) else (none)) else (none)) = some r:=by first|(rw [hji37] at H;exact H)|(simp only [hji37] at H ⊢;exact H)
                            (try rw [hji37] at A31)
                            have hji37w : (IntKind.i64.wrap (x9_2 + t140)) = ji37:=(qE _).trans hji37
                            by_cases c38 : 0 ≤ (ji37)
                            ·rw [if_pos c38] at H
                             have c38b0 : decide (0 ≤ (ji37)) = true:=decide_eq_true c38
                             clear c38
                             by_cases c39 : (ji37) < ((qW x7_2 (ji34)).length : Int)
                             ·rw [if_pos c39] at H
                              have c39b0 : decide ((ji37) < ((qW x7_2 (ji34)).length : Int)) = true:=decide_eq_true c39
                              clear c39
                              have H':=qd.mk H
                              clear H
                              try go_wp2
                              have n0_:=qd.mk (Kd.jD HO_7.out)
                              have n1_:=qd.mk (qA BK130.out)
                              have n2_:=qd.mk (qf HB.out)
                              clear HO_7
                              clear BK130
                              clear HB
                              have HO_7:=n0_
                              have BK130:=n1_
                              have HB:=n2_
                              clear n0_ n1_ n2_
                              refine zN (n:=18) (S:=fun w' => w'.cell? ⟨gb130,0,none⟩ = some (.int .i64 a2_0) ∧ w'.cell? ⟨gb130,1,none⟩ = some (.int .i64 a2_1) ∧ w'.cell? ⟨gb130,2,none⟩ = some (.int .i64 a2_2) ∧ w'.cell? ⟨gb130,3,none⟩ = some (.int .i64 a2_3)) (ds:=[]) #[false,false,false,false,false,false,false,false,false,false,false,false,false,false,false,false,false,false] (by kernel_rfl) rfl rfl ⟨(qi BK130.out 0).trans rfl,(qi BK130.out 1).trans rfl,(qi BK130.out 2).trans rfl,(qi BK130.out 3).trans rfl⟩ (fun hHeld => ?_);refine jT qj.J4 qj.QC (fun HT_ HW_ => ?_)
                              generalize wr.drew = w40 at HO_7 BK130 HB hHeld ⊢
                              refine qL (i:=0) (N:=some 54) (v:=?_) (a':=?_) #[true,false,false,false,false,false,false,false,false,false,false,false,false,false,false,false,false,false] rfl rfl (qD HT_.out (by kernel_rfl)) (fun _ _ _ h => h) (Or.inl ⟨by rfl,?_⟩) ?_ ?_
                              rotate_left
                              ·intro w'
                               go_simp
                               with_reducible rfl
                              rotate_left
                              ·simp only [Act.put,List.setIfInBounds_toArray,List.set_cons_zero,List.set_cons_succ,qE,qF]
                               rfl
                              refine qL (i:=1) (N:=some 55) (v:=?_) (a':=?_) #[true,true,false,false,false,false,false,false,false,false,false,false,false,false,false,false,false,false] rfl rfl (qD HT_.out (by kernel_rfl)) (fun _ _ _ h => h) (Or.inl ⟨by rfl,?_⟩) ?_ ?_
                              rotate_left
                              ·intro w'
                               go_simp
                               with_reducible rfl
                              rotate_left
                              ·simp only [Act.put,List.setIfInBounds_toArray,List.set_cons_zero,List.set_cons_succ,qE,qF]
                               rfl
                              refine qL (i:=2) (N:=some 56) (v:=?_) (a':=?_) #[true,true,true,false,false,false,false,false,false,false,false,false,false,false,false,false,false,false] rfl rfl (qD HT_.out (by kernel_rfl)) (fun _ _ _ h => h) (Or.inl ⟨by rfl,?_⟩) ?_ ?_
                              rotate_left
                              ·intro w'
                               go_simp
                               with_reducible rfl
                              rotate_left
                              ·simp only [Act.put,List.setIfInBounds_toArray,List.set_cons_zero,List.set_cons_succ,qE,qF]
                               rfl
                              refine qL (i:=3) (N:=some 57) (v:=?_) (a':=?_) #[true,true,true,true,false,false,false,false,false,false,false,false,false,false,false,false,false,false] rfl rfl (qD HT_.out (by kernel_rfl)) (fun _ _ _ h => h) (Or.inl ⟨by rfl,?_⟩) ?_ ?_
                              rotate_left
                              ·intro w'
                               go_simp
                               with_reducible rfl
                              rotate_left
                              ·simp only [Act.put,List.setIfInBounds_toArray,List.set_cons_zero,List.set_cons_succ,qE,qF]
                               rfl
                              refine qL (i:=4) (N:=some 58) (v:=?_) (a':=?_) #[true,true,true,true,true,false,false,false,false,false,false,false,false,false,false,false,false,false] rfl rfl (qD HT_.out (by kernel_rfl)) (fun _ _ _ h => h) (Or.inl ⟨by rfl,?_⟩) ?_ ?_
                              rotate_left
                              ·intro w'
                               go_simp
                               with_reducible rfl
                              rotate_left
                              ·simp only [Act.put,List.setIfInBounds_toArray,List.set_cons_zero,List.set_cons_succ,qE,qF]
                               rfl
                              refine qL (i:=5) (N:=some 59) (v:=?_) (a':=?_) #[true,true,true,true,true,true,false,false,false,false,false,false,false,false,false,false,false,false] rfl rfl (qD HT_.out (by kernel_rfl)) (fun _ _ _ h => h) (Or.inl ⟨by rfl,?_⟩) ?_ ?_
                              rotate_left
                              ·intro w'
                               go_simp
                               with_reducible rfl
                              rotate_left
                              ·simp only [Act.put,List.setIfInBounds_toArray,List.set_cons_zero,List.set_cons_succ,qE,qF]
                               rfl
                              refine qL (i:=6) (N:=some 60) (v:=?_) (a':=?_) #[true,true,true,true,true,true,true,false,false,false,false,false,false,false,false,false,false,false] rfl rfl (qD HT_.out (by kernel_rfl)) (fun _ _ _ h => h) (Or.inl ⟨by rfl,?_⟩) ?_ ?_
                              rotate_left
                              ·intro w'
                               go_simp
                               with_reducible rfl
                              rotate_left
                              ·simp only [Act.put,List.setIfInBounds_toArray,List.set_cons_zero,List.set_cons_succ,qE,qF]
                               rfl
                              refine zz (i:=7) (N:=some 61) (v:=?_) (a':=?_) #[true,true,true,true,true,true,true,true,false,false,false,false,false,false,false,false,false,false] rfl rfl (jF HT_.out HW_.out (by kernel_rfl)) (fun _ _ _ h => h) (Or.inl ⟨by rfl,?_⟩) hHeld ?_ ?_
                              rotate_left
                              ·rintro w' ⟨s0,s1,s2,s3⟩
                               go_simp
                               with_reducible rfl
                              rotate_left
                              ·simp only [Act.put,List.setIfInBounds_toArray,List.set_cons_zero,List.set_cons_succ,qE,qF]
                               rfl
                              refine one_ (i:=8) (N:=some 62) #[true,true,true,true,true,true,true,true,true,false,false,false,false,false,false,false,false,false] rfl rfl (vM HT_.out (by kernel_rfl)) (by decide) (fun K hK => ?_)
                              refine xR Try.func34 (by kernel_rfl) rfl #[.int .u8 x11_5,.string (a0.extract (x8_1 : Int).toNat a0.size),.string (a1.extract (x9_2 : Int).toNat a1.size),.agg #[.int .i64 a2_0,.int .i64 a2_1,.int .i64 a2_2,.int .i64 a2_3]] (by rfl) rfl rfl (by (try simp only [List.map_toArray,List.map_cons,List.map_nil]);first|done|rfl|(simp only [List.length_drop,List.length_take];rfl)) ?_
                              with_reducible refine (qG.calls k5 x11_5 (a0.extract (x8_1 : Int).toNat a0.size) (a1.extract (x9_2 : Int).toNat a1.size) a2_0 a2_1 a2_2 a2_3 true t139 t140 t141 _ A31.out).mono ?_
                              rintro e w41 ⟨rfl,hb⟩
                              refine ⟨_,rfl,?_⟩
                              have n0_:=qd.mk (Kd.xz (by (with_reducible repeat (first|apply Kd.jy|apply Kd.jA|apply Kd.jD));exact HO_7.out) hb)
                              have n1_:=qd.mk (qR (g:=gb130) (o:=.cells #[.int .i64 a2_0,.int .i64 a2_1,.int .i64 a2_2,.int .i64 a2_3] 51 (0,0)) (by (with_reducible repeat (first|refine qx ?_ _|refine qA ?_|refine qw ?_ _));exact BK130.out) hb)
                              have n2_:=qd.mk (qI (by repeat (first|(with_reducible first|exact HB.out|apply qg|apply qc|apply qf|refine qp ?_ GE130.out)|exact HB.out)) hb)
                              clear HO_7
                              clear BK130
                              clear HB
                              have HO_7:=n0_
                              have BK130:=n1_
                              have HB:=n2_
                              clear n0_ n1_ n2_
                              (try clear hb)
                              (try clear hb2)
                              (try clear hk)
                              (try clear hi)
                              refine hK.out _ _ ⟨(qi BK130.out 0).trans rfl,(qi BK130.out 1).trans rfl,(qi BK130.out 2).trans rfl,(qi BK130.out 3).trans rfl⟩ (fun hHeld => ?_)
                              clear hK K
                              refine yc (a':=?_) ?_ ?_
                              rotate_left
                              ·show Act.put _ (some 62) _ = _
                               simp only [Act.put,List.setIfInBounds_toArray,List.set_cons_zero,List.set_cons_succ,qE,qF]
                               rfl
                              refine qL (i:=9) (N:=some 53) (v:=?_) (a':=?_) #[true,true,true,true,true,true,true,true,true,true,false,false,false,false,false,false,false,false] rfl rfl (qD HT_.out (by kernel_rfl)) (fun _ _ _ h => h) (Or.inl ⟨by rfl,?_⟩) ?_ ?_
                              rotate_left
                              ·intro w'
                               go_simp
                               with_reducible rfl
                              rotate_left
                              ·simp only [Act.put,List.setIfInBounds_toArray,List.set_cons_zero,List.set_cons_succ,qE,qF]
                               rfl
                              refine qL (i:=10) (N:=some 63) (v:=?_) (a':=?_) #[true,true,true,true,true,true,true,true,true,true,true,false,false,false,false,false,false,false] rfl rfl (qD HT_.out (by kernel_rfl)) (fun _ _ _ h => h) (Or.inl ⟨by rfl,?_⟩) ?_ ?_
                              rotate_left
                              ·intro w'
                               go_simp
                               with_reducible rfl
                              rotate_left
                              ·simp only [Act.put,List.setIfInBounds_toArray,List.set_cons_zero,List.set_cons_succ,qE,qF]
                               rfl
                              refine qL (i:=11) (N:=some 64) (v:=?_) (a':=?_) #[true,true,true,true,true,true,true,true,true,true,true,true,false,false,false,false,false,false] rfl rfl (qD HT_.out (by kernel_rfl)) (fun _ _ _ h => h) (Or.inl ⟨by rfl,?_⟩) ?_ ?_
                              rotate_left
                              ·intro w'
                               go_simp
                               with_reducible rfl
                              rotate_left
                              ·simp only [Act.put,List.setIfInBounds_toArray,List.set_cons_zero,List.set_cons_succ,qE,qF]
                               rfl
                              refine qL (i:=12) (N:=some 65) (v:=?_) (a':=?_) #[true,true,true,true,true,true,true,true,true,true,true,true,true,false,false,false,false,false] rfl rfl (qD HT_.out (by kernel_rfl)) (fun _ _ _ h => h) (Or.inl ⟨by rfl,?_⟩) ?_ ?_
                              rotate_left
                              ·intro w'
                               go_simp
                               with_reducible rfl
                              rotate_left
                              ·simp only [Act.put,List.setIfInBounds_toArray,List.set_cons_zero,List.set_cons_succ,qE,qF]
                               rfl
                              refine qL (i:=13) (N:=some 66) (v:=?_) (a':=?_) #[true,true,true,true,true,true,true,true,true,true,true,true,true,true,false,false,false,false] rfl rfl (qD HT_.out (by kernel_rfl)) (fun _ _ _ h => h) (Or.inl ⟨by rfl,?_⟩) ?_ ?_
                              rotate_left
                              ·intro w'
                               go_simp
                               with_reducible rfl
                              rotate_left
                              ·simp only [Act.put,List.setIfInBounds_toArray,List.set_cons_zero,List.set_cons_succ,qE,qF]
                               rfl
                              refine qL (i:=14) (N:=some 12) (v:=?_) (a':=?_) #[true,true,true,true,true,true,true,true,true,true,true,true,true,true,true,false,false,false] rfl rfl (qD HT_.out (by kernel_rfl)) (fun _ _ _ h => h) (Or.inl ⟨by rfl,?_⟩) ?_ ?_
                              rotate_left
                              ·intro w'
                               go_simp
                               with_reducible rfl
                              rotate_left
                              ·simp only [Act.put,List.setIfInBounds_toArray,List.set_cons_zero,List.set_cons_succ,qE,qF]
                               rfl
                              refine qL (i:=15) (N:=some 13) (v:=?_) (a':=?_) #[true,true,true,true,true,true,true,true,true,true,true,true,true,true,true,true,false,false] rfl rfl (qD HT_.out (by kernel_rfl)) (fun _ _ _ h => h) (Or.inl ⟨by rfl,?_⟩) ?_ ?_
                              rotate_left
                              ·intro w'
                               go_simp
                               with_reducible rfl
                              rotate_left
                              ·simp only [Act.put,List.setIfInBounds_toArray,List.set_cons_zero,List.set_cons_succ,qE,qF]
                               rfl
                              refine qL (i:=16) (N:=some 14) (v:=?_) (a':=?_) #[true,true,true,true,true,true,true,true,true,true,true,true,true,true,true,true,true,false] rfl rfl (qD HT_.out (by kernel_rfl)) (fun _ _ _ h => h) (Or.inl ⟨by rfl,?_⟩) ?_ ?_
                              rotate_left
                              ·intro w'
                               go_simp
                               with_reducible rfl
                              rotate_left
                              ·simp only [Act.put,List.setIfInBounds_toArray,List.set_cons_zero,List.set_cons_succ,qE,qF]
                               rfl
                              refine qL (i:=17) (N:=some 15) (v:=?_) (a':=?_) #[true,true,true,true,true,true,true,true,true,true,true,true,true,true,true,true,true,true] rfl rfl (qD HT_.out (by kernel_rfl)) (fun _ _ _ h => h) (Or.inl ⟨by rfl,?_⟩) ?_ ?_
                              rotate_left
                              ·intro w'
                               go_simp
                               with_reducible rfl
                              rotate_left
                              ·simp only [Act.put,List.setIfInBounds_toArray,List.set_cons_zero,List.set_cons_succ,qE,qF]
                               rfl
                              refine xL (zu HT_.out (by kernel_rfl)) ?_
                              have p142 : 0 ≤ ((ji34) : Int):=of_decide_eq_true (by first|(with_reducible assumption)|assumption)
                              have q142 : (ji34) < (x7_2.length : Int):=of_decide_eq_true (by first|(with_reducible assumption)|assumption)
                              obtain ⟨ad142,A142_0,c142_0,e142,hx142_0,hl142_0,hi142_0⟩:=kv (Kd.jR HO_7.out).2.2 (ji34) p142 q142
                              obtain rfl : (⟨go16,0,none⟩ : Addr) = ad142:=(by injection e142)
                              obtain ⟨ce142,hce142,hMe142,hcc142⟩:=Kd.kS HO_7.out [] (ji34) p142 (by first|exact q142|exact of_decide_eq_true (by first|(with_reducible assumption)|assumption)|(have e_:=(Kd.jR HO_7.out).1;omega))
                              obtain ⟨ve142_0,rfl,ge142_0⟩:=hMe142
                              have hv142_0:=hcc142 0 _ rfl
                              rw [Nat.add_zero,show ((Kd.slice 3 (Kd.int .i64))).sz = 1 from rfl,Nat.mul_one] at hv142_0
                              replace hv142_0:=Option.some.inj (hv142_0.symm.trans hx142_0)
                              rw [hv142_0] at ge142_0
                              have HL142_0:=qd.mk (show Kd.R (Kd.int .i64) 3 _ _ _ _ (qW x7_2 (ji34)) from ge142_0)
                              clear hv142_0 ge142_0
                              have HX142_0:=qd.mk hx142_0
                              clear hcc142 hce142
                              (first|simp only [add_plain] at hx142_0|simp only [vT] at hx142_0|simp only [Addr.add,Nat.zero_add] at hx142_0|skip)
                              have HR142_0:=qd.mk hi142_0
                              have HC142_0:=qd.mk hl142_0
                              clear hi142_0 hl142_0
                              replace p142:=eq_true p142
                              replace q142:=eq_true q142
                              have p143 : 0 ≤ ((ji37) : Int):=of_decide_eq_true (by first|(with_reducible assumption)|assumption)
                              have q143 : (ji37) < ((qW x7_2 (ji34)).length : Int):=of_decide_eq_true (by first|(with_reducible assumption)|assumption)
                              obtain ⟨ad143,e143,hx143_0⟩:=Kd.vK (by repeat (first|(with_reducible exact HR142_0.out)|(with_reducible refine Kd.jP ?_ _)|(with_reducible refine Kd.jQ ?_ _)|(with_reducible refine Kd.zh ?_)|exact HR142_0.out)) (ji37) p143 q143
                              cases e143
                              replace p143:=eq_true p143
                              replace q143:=eq_true q143
                              try go_wp2
                              go_roundg k5
                              case measure => have:=HK1.out;have:=HK2.out;have:=HJ21.out;have:=HJ23.out;have:=HK5.out;omega
                              case rel => exact ⟨(wrap64 (t141 + (rd (qW x7_2 (ji34)) (ji37)))),((x11_5 + 1) % 256),(by first|rfl|(simp;done)|(simp only [← hji34,← hji37] <;> (first|rfl|simp))|(simp [*];done)),(by first|rfl|(simp;done)|(simp [*];done)),H',⟨by have:=HK1.out;have:=HK2.out;have:=HJ21.out;have:=HJ23.out;have:=HK5.out;omega⟩,⟨by (try simp only [hl7_2]);(with_reducible repeat (first|apply Kd.jy|apply Kd.jA|apply Kd.jD));exact HO_7.out⟩,⟨by (try simp only [hl7_2]);(with_reducible repeat (first|refine qx ?_ _|refine qA ?_|refine qw ?_ _));exact BK130.out⟩,⟨by repeat (first|(with_reducible first|exact HB.out|apply qg|apply qc|apply qf|refine qp ?_ GE130.out)|exact HB.out)⟩⟩
                             ·rw [if_neg c39] at H
                              exact absurd H (by simp)
                            ·rw [if_neg c38] at H
                             exact absurd H (by simp)
                           ·rw [if_neg c36] at H
                            exact absurd H (by simp)
                          ·rw [if_neg c35] at H
                           exact absurd H (by simp)
                         ·rw [if_neg c33] at H
                          have c33b0 : decide (x10_5 < 0) = false:=decide_eq_false c33
                          clear c33
                          obtain ⟨ji42,hji42⟩ : ∃ j_ : Int,(wrap64 (x8_1 + t139)) = j_:=⟨_,rfl⟩
                          replace H : (if 0 ≤ (ji42) then (if (ji42) < (x7_2.length : Int) then (if 0 ≤ (wrap64 (x9_2 + t140)) then (if (wrap64 (x9_2 + t140)) < ((qW x7_2 (ji42)).length : Int) then (if (wrap64 (t141 + (rd (qW x7_2 (ji42)) (wrap64 (x9_2 + t140))))) < x10_5 then (qj.l2 k5 a0 a1 x7_2 x8_1 x9_2 (wrap64 (t141 + (rd (qW x7_2 (ji42)) (wrap64 (x9_2 + t140))))) ((x11_5 + 1) % 256) a2_0 a2_1 a2_2 a2_3) else (qj.l2 k5 a0 a1 x7_2 x8_1 x9_2 x10_5 ((x11_5 + 1) % 256) a2_0 a2_1 a2_2 a2_3)) else (none)) else (none)) else (none)) else (none)) = some r:=by first|(rw [hji42] at H;exact H)|(simp only [hji42] at H ⊢;exact H)
                          (try rw [hji42] at A31)
                          have hji42w : (IntKind.i64.wrap (x8_1 + t139)) = ji42:=(qE _).trans hji42
                          by_cases c43 : 0 ≤ (ji42)
                          ·rw [if_pos c43] at H
                           have c43b0 : decide (0 ≤ (ji42)) = true:=decide_eq_true c43
                           clear c43
                           by_cases c44 : (ji42) < (x7_2.length : Int)
                           ·rw [if_pos c44] at H
                            have c44b0 : decide ((ji42) < (x7_2.length : Int)) = true:=decide_eq_true c44
                            clear c44
                            obtain ⟨ji45,hji45⟩ : ∃ j_ : Int,(wrap64 (x9_2 + t140)) = j_:=⟨_,rfl⟩
                            replace H : (if 0 ≤ (ji45) then (if (ji45) < ((qW x7_2 (ji42)).length : Int) then (if (wrap64 (t141 + (rd (qW x7_2 (ji42)) (ji45)))) < x10_5 then (qj.l2 k5 a0 a1 x7_2 x8_1 x9_2 (wrap64 (t141 + (rd (qW x7_2 (ji42)) (ji45)))) ((x11_5 + 1) % 256) a2_0 a2_1 a2_2 a2_3) else (qj.l2 k5 a0 a1 x7_2 x8_1 x9_2 x10_5 ((x11_5 + 1) % 256) a2_0 a2_1 a2_2 a2_3)) else (none)) else (none)) = some r:=by first|(rw [hji45] at H;exact H)|(simp only [hji45] at H ⊢;exact H)
                            (try rw [hji45] at A31)
                            have hji45w : (IntKind.i64.wrap (x9_2 + t140)) = ji45:=(qE _).trans hji45
                            by_cases c46 : 0 ≤ (ji45)
                            ·rw [if_pos c46] at H
                             have c46b0 : decide (0 ≤ (ji45)) = true:=decide_eq_true c46
                             clear c46
                             by_cases c47 : (ji45) < ((qW x7_2 (ji42)).length : Int)
                             ·rw [if_pos c47] at H
                              have c47b0 : decide ((ji45) < ((qW x7_2 (ji42)).length : Int)) = true:=decide_eq_true c47
                              clear c47
                              by_cases c48 : (wrap64 (t141 + (rd (qW x7_2 (ji42)) (ji45)))) < x10_5
                              ·rw [if_pos c48] at H
                               have c48b0 : decide ((wrap64 (t141 + (rd (qW x7_2 (ji42)) (ji45)))) < x10_5) = true:=decide_eq_true c48
                               clear c48
                               have H':=qd.mk H
                               clear H
                               try go_wp2
                               have n0_:=qd.mk (Kd.jD HO_7.out)
                               have n1_:=qd.mk (qA BK130.out)
                               have n2_:=qd.mk (qf HB.out)
                               clear HO_7
                               clear BK130
                               clear HB
                               have HO_7:=n0_
                               have BK130:=n1_
                               have HB:=n2_
                               clear n0_ n1_ n2_
                               refine zN (n:=18) (S:=fun w' => w'.cell? ⟨gb130,0,none⟩ = some (.int .i64 a2_0) ∧ w'.cell? ⟨gb130,1,none⟩ = some (.int .i64 a2_1) ∧ w'.cell? ⟨gb130,2,none⟩ = some (.int .i64 a2_2) ∧ w'.cell? ⟨gb130,3,none⟩ = some (.int .i64 a2_3)) (ds:=[]) #[false,false,false,false,false,false,false,false,false,false,false,false,false,false,false,false,false,false] (by kernel_rfl) rfl rfl ⟨(qi BK130.out 0).trans rfl,(qi BK130.out 1).trans rfl,(qi BK130.out 2).trans rfl,(qi BK130.out 3).trans rfl⟩ (fun hHeld => ?_);refine jT qj.J4 qj.QC (fun HT_ HW_ => ?_)
                               generalize wr.drew = w49 at HO_7 BK130 HB hHeld ⊢
                               refine qL (i:=0) (N:=some 54) (v:=?_) (a':=?_) #[true,false,false,false,false,false,false,false,false,false,false,false,false,false,false,false,false,false] rfl rfl (qD HT_.out (by kernel_rfl)) (fun _ _ _ h => h) (Or.inl ⟨by rfl,?_⟩) ?_ ?_
                               rotate_left
                               ·intro w'
                                go_simp
                                with_reducible rfl
                               rotate_left
                               ·simp only [Act.put,List.setIfInBounds_toArray,List.set_cons_zero,List.set_cons_succ,qE,qF]
                                rfl
                               refine qL (i:=1) (N:=some 55) (v:=?_) (a':=?_) #[true,true,false,false,false,false,false,false,false,false,false,false,false,false,false,false,false,false] rfl rfl (qD HT_.out (by kernel_rfl)) (fun _ _ _ h => h) (Or.inl ⟨by rfl,?_⟩) ?_ ?_
                               rotate_left
                               ·intro w'
                                go_simp
                                with_reducible rfl
                               rotate_left
                               ·simp only [Act.put,List.setIfInBounds_toArray,List.set_cons_zero,List.set_cons_succ,qE,qF]
                                rfl
                               refine qL (i:=2) (N:=some 56) (v:=?_) (a':=?_) #[true,true,true,false,false,false,false,false,false,false,false,false,false,false,false,false,false,false] rfl rfl (qD HT_.out (by kernel_rfl)) (fun _ _ _ h => h) (Or.inl ⟨by rfl,?_⟩) ?_ ?_
                               rotate_left
                               ·intro w'
                                go_simp
                                with_reducible rfl
                               rotate_left
                               ·simp only [Act.put,List.setIfInBounds_toArray,List.set_cons_zero,List.set_cons_succ,qE,qF]
                                rfl
                               refine qL (i:=3) (N:=some 57) (v:=?_) (a':=?_) #[true,true,true,true,false,false,false,false,false,false,false,false,false,false,false,false,false,false] rfl rfl (qD HT_.out (by kernel_rfl)) (fun _ _ _ h => h) (Or.inl ⟨by rfl,?_⟩) ?_ ?_
                               rotate_left
                               ·intro w'
                                go_simp
                                with_reducible rfl
                               rotate_left
                               ·simp only [Act.put,List.setIfInBounds_toArray,List.set_cons_zero,List.set_cons_succ,qE,qF]
                                rfl
                               refine qL (i:=4) (N:=some 58) (v:=?_) (a':=?_) #[true,true,true,true,true,false,false,false,false,false,false,false,false,false,false,false,false,false] rfl rfl (qD HT_.out (by kernel_rfl)) (fun _ _ _ h => h) (Or.inl ⟨by rfl,?_⟩) ?_ ?_
                               rotate_left
                               ·intro w'
                                go_simp
                                with_reducible rfl
                               rotate_left
                               ·simp only [Act.put,List.setIfInBounds_toArray,List.set_cons_zero,List.set_cons_succ,qE,qF]
                                rfl
                               refine qL (i:=5) (N:=some 59) (v:=?_) (a':=?_) #[true,true,true,true,true,true,false,false,false,false,false,false,false,false,false,false,false,false] rfl rfl (qD HT_.out (by kernel_rfl)) (fun _ _ _ h => h) (Or.inl ⟨by rfl,?_⟩) ?_ ?_
                               rotate_left
                               ·intro w'
                                go_simp
                                with_reducible rfl
                               rotate_left
                               ·simp only [Act.put,List.setIfInBounds_toArray,List.set_cons_zero,List.set_cons_succ,qE,qF]
                                rfl
                               refine qL (i:=6) (N:=some 60) (v:=?_) (a':=?_) #[true,true,true,true,true,true,true,false,false,false,false,false,false,false,false,false,false,false] rfl rfl (qD HT_.out (by kernel_rfl)) (fun _ _ _ h => h) (Or.inl ⟨by rfl,?_⟩) ?_ ?_
                               rotate_left
                               ·intro w'
                                go_simp
                                with_reducible rfl
                               rotate_left
                               ·simp only [Act.put,List.setIfInBounds_toArray,List.set_cons_zero,List.set_cons_succ,qE,qF]
                                rfl
                               refine zz (i:=7) (N:=some 61) (v:=?_) (a':=?_) #[true,true,true,true,true,true,true,true,false,false,false,false,false,false,false,false,false,false] rfl rfl (jF HT_.out HW_.out (by kernel_rfl)) (fun _ _ _ h => h) (Or.inl ⟨by rfl,?_⟩) hHeld ?_ ?_
                               rotate_left
                               ·rintro w' ⟨s0,s1,s2,s3⟩
                                go_simp
                                with_reducible rfl
                               rotate_left
                               ·simp only [Act.put,List.setIfInBounds_toArray,List.set_cons_zero,List.set_cons_succ,qE,qF]
                                rfl
                               refine one_ (i:=8) (N:=some 62) #[true,true,true,true,true,true,true,true,true,false,false,false,false,false,false,false,false,false] rfl rfl (vM HT_.out (by kernel_rfl)) (by decide) (fun K hK => ?_)
                               refine xR Try.func34 (by kernel_rfl) rfl #[.int .u8 x11_5,.string (a0.extract (x8_1 : Int).toNat a0.size),.string (a1.extract (x9_2 : Int).toNat a1.size),.agg #[.int .i64 a2_0,.int .i64 a2_1,.int .i64 a2_2,.int .i64 a2_3]] (by rfl) rfl rfl (by (try simp only [List.map_toArray,List.map_cons,List.map_nil]);first|done|rfl|(simp only [List.length_drop,List.length_take];rfl)) ?_
                               with_reducible refine (qG.calls k5 x11_5 (a0.extract (x8_1 : Int).toNat a0.size) (a1.extract (x9_2 : Int).toNat a1.size) a2_0 a2_1 a2_2 a2_3 true t139 t140 t141 _ A31.out).mono ?_
                               rintro e w50 ⟨rfl,hb⟩
                               refine ⟨_,rfl,?_⟩
                               have n0_:=qd.mk (Kd.xz (by (with_reducible repeat (first|apply Kd.jy|apply Kd.jA|apply Kd.jD));exact HO_7.out) hb)
                               have n1_:=qd.mk (qR (g:=gb130) (o:=.cells #[.int .i64 a2_0,.int .i64 a2_1,.int .i64 a2_2,.int .i64 a2_3] 51 (0,0)) (by (with_reducible repeat (first|refine qx ?_ _|refine qA ?_|refine qw ?_ _));exact BK130.out) hb)
                               have n2_:=qd.mk (qI (by repeat (first|(with_reducible first|exact HB.out|apply qg|apply qc|apply qf|refine qp ?_ GE130.out)|exact HB.out)) hb)
                               clear HO_7
                               clear BK130
                               clear HB
                               have HO_7:=n0_
                               have BK130:=n1_
                               have HB:=n2_
                               clear n0_ n1_ n2_
                               (try clear hb)
                               (try clear hb2)
                               (try clear hk)
                               (try clear hi)
                               refine hK.out _ _ ⟨(qi BK130.out 0).trans rfl,(qi BK130.out 1).trans rfl,(qi BK130.out 2).trans rfl,(qi BK130.out 3).trans rfl⟩ (fun hHeld => ?_)
                               clear hK K
                               refine yc (a':=?_) ?_ ?_
                               rotate_left
                               ·show Act.put _ (some 62) _ = _
                                simp only [Act.put,List.setIfInBounds_toArray,List.set_cons_zero,List.set_cons_succ,qE,qF]
                                rfl
                               refine qL (i:=9) (N:=some 53) (v:=?_) (a':=?_) #[true,true,true,true,true,true,true,true,true,true,false,false,false,false,false,false,false,false] rfl rfl (qD HT_.out (by kernel_rfl)) (fun _ _ _ h => h) (Or.inl ⟨by rfl,?_⟩) ?_ ?_
                               rotate_left
                               ·intro w'
                                go_simp
                                with_reducible rfl
                               rotate_left
                               ·simp only [Act.put,List.setIfInBounds_toArray,List.set_cons_zero,List.set_cons_succ,qE,qF]
                                rfl
                               refine qL (i:=10) (N:=some 63) (v:=?_) (a':=?_) #[true,true,true,true,true,true,true,true,true,true,true,false,false,false,false,false,false,false] rfl rfl (qD HT_.out (by kernel_rfl)) (fun _ _ _ h => h) (Or.inl ⟨by rfl,?_⟩) ?_ ?_
                               rotate_left
                               ·intro w'
                                go_simp
                                with_reducible rfl
                               rotate_left
                               ·simp only [Act.put,List.setIfInBounds_toArray,List.set_cons_zero,List.set_cons_succ,qE,qF]
                                rfl
                               refine qL (i:=11) (N:=some 64) (v:=?_) (a':=?_) #[true,true,true,true,true,true,true,true,true,true,true,true,false,false,false,false,false,false] rfl rfl (qD HT_.out (by kernel_rfl)) (fun _ _ _ h => h) (Or.inl ⟨by rfl,?_⟩) ?_ ?_
                               rotate_left
                               ·intro w'
                                go_simp
                                with_reducible rfl
                               rotate_left
                               ·simp only [Act.put,List.setIfInBounds_toArray,List.set_cons_zero,List.set_cons_succ,qE,qF]
                                rfl
                               refine qL (i:=12) (N:=some 65) (v:=?_) (a':=?_) #[true,true,true,true,true,true,true,true,true,true,true,true,true,false,false,false,false,false] rfl rfl (qD HT_.out (by kernel_rfl)) (fun _ _ _ h => h) (Or.inl ⟨by rfl,?_⟩) ?_ ?_
                               rotate_left
                               ·intro w'
                                go_simp
                                with_reducible rfl
                               rotate_left
                               ·simp only [Act.put,List.setIfInBounds_toArray,List.set_cons_zero,List.set_cons_succ,qE,qF]
                                rfl
                               refine qL (i:=13) (N:=some 66) (v:=?_) (a':=?_) #[true,true,true,true,true,true,true,true,true,true,true,true,true,true,false,false,false,false] rfl rfl (qD HT_.out (by kernel_rfl)) (fun _ _ _ h => h) (Or.inl ⟨by rfl,?_⟩) ?_ ?_
                               rotate_left
                               ·intro w'
                                go_simp
                                with_reducible rfl
                               rotate_left
                               ·simp only [Act.put,List.setIfInBounds_toArray,List.set_cons_zero,List.set_cons_succ,qE,qF]
                                rfl
                               refine qL (i:=14) (N:=some 12) (v:=?_) (a':=?_) #[true,true,true,true,true,true,true,true,true,true,true,true,true,true,true,false,false,false] rfl rfl (qD HT_.out (by kernel_rfl)) (fun _ _ _ h => h) (Or.inl ⟨by rfl,?_⟩) ?_ ?_
                               rotate_left
                               ·intro w'
                                go_simp
                                with_reducible rfl
                               rotate_left
                               ·simp only [Act.put,List.setIfInBounds_toArray,List.set_cons_zero,List.set_cons_succ,qE,qF]
                                rfl
                               refine qL (i:=15) (N:=some 13) (v:=?_) (a':=?_) #[true,true,true,true,true,true,true,true,true,true,true,true,true,true,true,true,false,false] rfl rfl (qD HT_.out (by kernel_rfl)) (fun _ _ _ h => h) (Or.inl ⟨by rfl,?_⟩) ?_ ?_
                               rotate_left
                               ·intro w'
                                go_simp
                                with_reducible rfl
                               rotate_left
                               ·simp only [Act.put,List.setIfInBounds_toArray,List.set_cons_zero,List.set_cons_succ,qE,qF]
                                rfl
                               refine qL (i:=16) (N:=some 14) (v:=?_) (a':=?_) #[true,true,true,true,true,true,true,true,true,true,true,true,true,true,true,true,true,false] rfl rfl (qD HT_.out (by kernel_rfl)) (fun _ _ _ h => h) (Or.inl ⟨by rfl,?_⟩) ?_ ?_
                               rotate_left
                               ·intro w'
                                go_simp
                                with_reducible rfl
                               rotate_left
                               ·simp only [Act.put,List.setIfInBounds_toArray,List.set_cons_zero,List.set_cons_succ,qE,qF]
                                rfl
                               refine qL (i:=17) (N:=some 15) (v:=?_) (a':=?_) #[true,true,true,true,true,true,true,true,true,true,true,true,true,true,true,true,true,true] rfl rfl (qD HT_.out (by kernel_rfl)) (fun _ _ _ h => h) (Or.inl ⟨by rfl,?_⟩) ?_ ?_
                               rotate_left
                               ·intro w'
                                go_simp
                                with_reducible rfl
                               rotate_left
                               ·simp only [Act.put,List.setIfInBounds_toArray,List.set_cons_zero,List.set_cons_succ,qE,qF]
                                rfl
                               refine xL (zu HT_.out (by kernel_rfl)) ?_
                               have p144 : 0 ≤ ((ji42) : Int):=of_decide_eq_true (by first|(with_reducible assumption)|assumption)
                               have q144 : (ji42) < (x7_2.length : Int):=of_decide_eq_true (by first|(with_reducible assumption)|assumption)
                               obtain ⟨ad144,A144_0,c144_0,e144,hx144_0,hl144_0,hi144_0⟩:=kv (Kd.jR HO_7.out).2.2 (ji42) p144 q144
                               obtain rfl : (⟨go16,0,none⟩ : Addr) = ad144:=(by injection e144)
                               obtain ⟨ce144,hce144,hMe144,hcc144⟩:=Kd.kS HO_7.out [] (ji42) p144 (by first|exact q144|exact of_decide_eq_true (by first|(with_reducible assumption)|assumption)|(have e_:=(Kd.jR HO_7.out).1;omega))
                               obtain ⟨ve144_0,rfl,ge144_0⟩:=hMe144
                               have hv144_0:=hcc144 0 _ rfl
                               rw [Nat.add_zero,show ((Kd.slice 3 (Kd.int .i64))).sz = 1 from rfl,Nat.mul_one] at hv144_0
                               replace hv144_0:=Option.some.inj (hv144_0.symm.trans hx144_0)
                               rw [hv144_0] at ge144_0
                               have HL144_0:=qd.mk (show Kd.R (Kd.int .i64) 3 _ _ _ _ (qW x7_2 (ji42)) from ge144_0)
                               clear hv144_0 ge144_0
                               have HX144_0:=qd.mk hx144_0
                               clear hcc144 hce144
                               (first|simp only [add_plain] at hx144_0|simp only [vT] at hx144_0|simp only [Addr.add,Nat.zero_add] at hx144_0|skip)
                               have HR144_0:=qd.mk hi144_0
                               have HC144_0:=qd.mk hl144_0
                               clear hi144_0 hl144_0
                               replace p144:=eq_true p144
                               replace q144:=eq_true q144
                               have p145 : 0 ≤ ((ji45) : Int):=of_decide_eq_true (by first|(with_reducible assumption)|assumption)
                               have q145 : (ji45) < ((qW x7_2 (ji42)).length : Int):=of_decide_eq_true (by first|(with_reducible assumption)|assumption)
                               obtain ⟨ad145,e145,hx145_0⟩:=Kd.vK (by repeat (first|(with_reducible exact HR144_0.out)|(with_reducible refine Kd.jP ?_ _)|(with_reducible refine Kd.jQ ?_ _)|(with_reducible refine Kd.zh ?_)|exact HR144_0.out)) (ji45) p145 q145
                               cases e145
                               replace p145:=eq_true p145
                               replace q145:=eq_true q145
                               have p146 : 0 ≤ ((ji42) : Int):=of_decide_eq_true (by first|(with_reducible assumption)|assumption)
                               have q146 : (ji42) < (x7_2.length : Int):=of_decide_eq_true (by first|(with_reducible assumption)|assumption)
                               obtain ⟨ad146,A146_0,c146_0,e146,hx146_0,hl146_0,hi146_0⟩:=kv (Kd.jR HO_7.out).2.2 (ji42) p146 q146
                               obtain rfl : (⟨go16,0,none⟩ : Addr) = ad146:=(by injection e146)
                               obtain ⟨ce146,hce146,hMe146,hcc146⟩:=Kd.kS HO_7.out [] (ji42) p146 (by first|exact q146|exact of_decide_eq_true (by first|(with_reducible assumption)|assumption)|(have e_:=(Kd.jR HO_7.out).1;omega))
                               obtain ⟨ve146_0,rfl,ge146_0⟩:=hMe146
                               have hv146_0:=hcc146 0 _ rfl
                               rw [Nat.add_zero,show ((Kd.slice 3 (Kd.int .i64))).sz = 1 from rfl,Nat.mul_one] at hv146_0
                               replace hv146_0:=Option.some.inj (hv146_0.symm.trans hx146_0)
                               rw [hv146_0] at ge146_0
                               have HL146_0:=qd.mk (show Kd.R (Kd.int .i64) 3 _ _ _ _ (qW x7_2 (ji42)) from ge146_0)
                               clear hv146_0 ge146_0
                               have HX146_0:=qd.mk hx146_0
                               clear hcc146 hce146
                               (first|simp only [add_plain] at hx146_0|simp only [vT] at hx146_0|simp only [Addr.add,Nat.zero_add] at hx146_0|skip)
                               have HR146_0:=qd.mk hi146_0
                               have HC146_0:=qd.mk hl146_0
                               clear hi146_0 hl146_0
                               replace p146:=eq_true p146
                               replace q146:=eq_true q146
                               have ea_:=Option.some.inj (hx144_0.symm.trans hx146_0)
                               injection ea_ with ea_ en_ ec_
                               subst ea_
                               subst ec_
                               clear en_
                               have p147 : 0 ≤ ((ji45) : Int):=of_decide_eq_true (by first|(with_reducible assumption)|assumption)
                               have q147 : (ji45) < ((qW x7_2 (ji42)).length : Int):=of_decide_eq_true (by first|(with_reducible assumption)|assumption)
                               obtain ⟨ad147,e147,hx147_0⟩:=Kd.vK (by repeat (first|(with_reducible exact HR146_0.out)|(with_reducible refine Kd.jP ?_ _)|(with_reducible refine Kd.jQ ?_ _)|(with_reducible refine Kd.zh ?_)|exact HR146_0.out)) (ji45) p147 q147
                               cases e147
                               replace p147:=eq_true p147
                               replace q147:=eq_true q147
                               try go_wp2
                               go_roundg k5
                               case measure => have:=HK1.out;have:=HK2.out;have:=HJ21.out;have:=HJ23.out;have:=HK5.out;omega
                               case rel => exact ⟨(wrap64 (t141 + (rd (qW x7_2 (ji42)) (ji45)))),((x11_5 + 1) % 256),(by first|rfl|(simp;done)|(simp only [← hji42,← hji45] <;> (first|rfl|simp))|(simp [*];done)),(by first|rfl|(simp;done)|(simp [*];done)),H',⟨by have:=HK1.out;have:=HK2.out;have:=HJ21.out;have:=HJ23.out;have:=HK5.out;omega⟩,⟨by (try simp only [hl7_2]);(with_reducible repeat (first|apply Kd.jy|apply Kd.jA|apply Kd.jD));exact HO_7.out⟩,⟨by (try simp only [hl7_2]);(with_reducible repeat (first|refine qx ?_ _|refine qA ?_|refine qw ?_ _));exact BK130.out⟩,⟨by repeat (first|(with_reducible first|exact HB.out|apply qg|apply qc|apply qf|refine qp ?_ GE130.out)|exact HB.out)⟩⟩
                              ·rw [if_neg c48] at H
                               have c48b0 : decide ((wrap64 (t141 + (rd (qW x7_2 (ji42)) (ji45)))) < x10_5) = false:=decide_eq_false c48
                               clear c48
                               have H':=qd.mk H
                               clear H
                               try go_wp2
                               have n0_:=qd.mk (Kd.jD HO_7.out)
                               have n1_:=qd.mk (qA BK130.out)
                               have n2_:=qd.mk (qf HB.out)
                               clear HO_7
                               clear BK130
                               clear HB
                               have HO_7:=n0_
                               have BK130:=n1_
                               have HB:=n2_
                               clear n0_ n1_ n2_
                               refine zN (n:=18) (S:=fun w' => w'.cell? ⟨gb130,0,none⟩ = some (.int .i64 a2_0) ∧ w'.cell? ⟨gb130,1,none⟩ = some (.int .i64 a2_1) ∧ w'.cell? ⟨gb130,2,none⟩ = some (.int .i64 a2_2) ∧ w'.cell? ⟨gb130,3,none⟩ = some (.int .i64 a2_3)) (ds:=[]) #[false,false,false,false,false,false,false,false,false,false,false,false,false,false,false,false,false,false] (by kernel_rfl) rfl rfl ⟨(qi BK130.out 0).trans rfl,(qi BK130.out 1).trans rfl,(qi BK130.out 2).trans rfl,(qi BK130.out 3).trans rfl⟩ (fun hHeld => ?_);refine jT qj.J4 qj.QC (fun HT_ HW_ => ?_)
                               generalize wr.drew = w51 at HO_7 BK130 HB hHeld ⊢
                               refine qL (i:=0) (N:=some 54) (v:=?_) (a':=?_) #[true,false,false,false,false,false,false,false,false,false,false,false,false,false,false,false,false,false] rfl rfl (qD HT_.out (by kernel_rfl)) (fun _ _ _ h => h) (Or.inl ⟨by rfl,?_⟩) ?_ ?_
                               rotate_left
                               ·intro w'
                                go_simp
                                with_reducible rfl
                               rotate_left
                               ·simp only [Act.put,List.setIfInBounds_toArray,List.set_cons_zero,List.set_cons_succ,qE,qF]
                                rfl
                               refine qL (i:=1) (N:=some 55) (v:=?_) (a':=?_) #[true,true,false,false,false,false,false,false,false,false,false,false,false,false,false,false,false,false] rfl rfl (qD HT_.out (by kernel_rfl)) (fun _ _ _ h => h) (Or.inl ⟨by rfl,?_⟩) ?_ ?_
                               rotate_left
                               ·intro w'
                                go_simp
                                with_reducible rfl
                               rotate_left
                               ·simp only [Act.put,List.setIfInBounds_toArray,List.set_cons_zero,List.set_cons_succ,qE,qF]
                                rfl
                               refine qL (i:=2) (N:=some 56) (v:=?_) (a':=?_) #[true,true,true,false,false,false,false,false,false,false,false,false,false,false,false,false,false,false] rfl rfl (qD HT_.out (by kernel_rfl)) (fun _ _ _ h => h) (Or.inl ⟨by rfl,?_⟩) ?_ ?_
                               rotate_left
                               ·intro w'
                                go_simp
                                with_reducible rfl
                               rotate_left
                               ·simp only [Act.put,List.setIfInBounds_toArray,List.set_cons_zero,List.set_cons_succ,qE,qF]
                                rfl
                               refine qL (i:=3) (N:=some 57) (v:=?_) (a':=?_) #[true,true,true,true,false,false,false,false,false,false,false,false,false,false,false,false,false,false] rfl rfl (qD HT_.out (by kernel_rfl)) (fun _ _ _ h => h) (Or.inl ⟨by rfl,?_⟩) ?_ ?_
                               rotate_left
                               ·intro w'
                                go_simp
                                with_reducible rfl
                               rotate_left
                               ·simp only [Act.put,List.setIfInBounds_toArray,List.set_cons_zero,List.set_cons_succ,qE,qF]
                                rfl
                               refine qL (i:=4) (N:=some 58) (v:=?_) (a':=?_) #[true,true,true,true,true,false,false,false,false,false,false,false,false,false,false,false,false,false] rfl rfl (qD HT_.out (by kernel_rfl)) (fun _ _ _ h => h) (Or.inl ⟨by rfl,?_⟩) ?_ ?_
                               rotate_left
                               ·intro w'
                                go_simp
                                with_reducible rfl
                               rotate_left
                               ·simp only [Act.put,List.setIfInBounds_toArray,List.set_cons_zero,List.set_cons_succ,qE,qF]
                                rfl
                               refine qL (i:=5) (N:=some 59) (v:=?_) (a':=?_) #[true,true,true,true,true,true,false,false,false,false,false,false,false,false,false,false,false,false] rfl rfl (qD HT_.out (by kernel_rfl)) (fun _ _ _ h => h) (Or.inl ⟨by rfl,?_⟩) ?_ ?_
                               rotate_left
                               ·intro w'
                                go_simp
                                with_reducible rfl
                               rotate_left
                               ·simp only [Act.put,List.setIfInBounds_toArray,List.set_cons_zero,List.set_cons_succ,qE,qF]
                                rfl
                               refine qL (i:=6) (N:=some 60) (v:=?_) (a':=?_) #[true,true,true,true,true,true,true,false,false,false,false,false,false,false,false,false,false,false] rfl rfl (qD HT_.out (by kernel_rfl)) (fun _ _ _ h => h) (Or.inl ⟨by rfl,?_⟩) ?_ ?_
                               rotate_left
                               ·intro w'
                                go_simp
                                with_reducible rfl
                               rotate_left
                               ·simp only [Act.put,List.setIfInBounds_toArray,List.set_cons_zero,List.set_cons_succ,qE,qF]
                                rfl
                               refine zz (i:=7) (N:=some 61) (v:=?_) (a':=?_) #[true,true,true,true,true,true,true,true,false,false,false,false,false,false,false,false,false,false] rfl rfl (jF HT_.out HW_.out (by kernel_rfl)) (fun _ _ _ h => h) (Or.inl ⟨by rfl,?_⟩) hHeld ?_ ?_
                               rotate_left
                               ·rintro w' ⟨s0,s1,s2,s3⟩
                                go_simp
                                with_reducible rfl
                               rotate_left
                               ·simp only [Act.put,List.setIfInBounds_toArray,List.set_cons_zero,List.set_cons_succ,qE,qF]
                                rfl
                               refine one_ (i:=8) (N:=some 62) #[true,true,true,true,true,true,true,true,true,false,false,false,false,false,false,false,false,false] rfl rfl (vM HT_.out (by kernel_rfl)) (by decide) (fun K hK => ?_)
                               refine xR Try.func34 (by kernel_rfl) rfl #[.int .u8 x11_5,.string (a0.extract (x8_1 : Int).toNat a0.size),.string (a1.extract (x9_2 : Int).toNat a1.size),.agg #[.int .i64 a2_0,.int .i64 a2_1,.int .i64 a2_2,.int .i64 a2_3]] (by rfl) rfl rfl (by (try simp only [List.map_toArray,List.map_cons,List.map_nil]);first|done|rfl|(simp only [List.length_drop,List.length_take];rfl)) ?_
                               with_reducible refine (qG.calls k5 x11_5 (a0.extract (x8_1 : Int).toNat a0.size) (a1.extract (x9_2 : Int).toNat a1.size) a2_0 a2_1 a2_2 a2_3 true t139 t140 t141 _ A31.out).mono ?_
                               rintro e w52 ⟨rfl,hb⟩
                               refine ⟨_,rfl,?_⟩
                               have n0_:=qd.mk (Kd.xz (by (with_reducible repeat (first|apply Kd.jy|apply Kd.jA|apply Kd.jD));exact HO_7.out) hb)
                               have n1_:=qd.mk (qR (g:=gb130) (o:=.cells #[.int .i64 a2_0,.int .i64 a2_1,.int .i64 a2_2,.int .i64 a2_3] 51 (0,0)) (by (with_reducible repeat (first|refine qx ?_ _|refine qA ?_|refine qw ?_ _));exact BK130.out) hb)
                               have n2_:=qd.mk (qI (by repeat (first|(with_reducible first|exact HB.out|apply qg|apply qc|apply qf|refine qp ?_ GE130.out)|exact HB.out)) hb)
                               clear HO_7
                               clear BK130
                               clear HB
                               have HO_7:=n0_
                               have BK130:=n1_
                               have HB:=n2_
                               clear n0_ n1_ n2_
                               (try clear hb)
                               (try clear hb2)
                               (try clear hk)
                               (try clear hi)
                               refine hK.out _ _ ⟨(qi BK130.out 0).trans rfl,(qi BK130.out 1).trans rfl,(qi BK130.out 2).trans rfl,(qi BK130.out 3).trans rfl⟩ (fun hHeld => ?_)
                               clear hK K
                               refine yc (a':=?_) ?_ ?_
                               rotate_left
                               ·show Act.put _ (some 62) _ = _
                                simp only [Act.put,List.setIfInBounds_toArray,List.set_cons_zero,List.set_cons_succ,qE,qF]
                                rfl
                               refine qL (i:=9) (N:=some 53) (v:=?_) (a':=?_) #[true,true,true,true,true,true,true,true,true,true,false,false,false,false,false,false,false,false] rfl rfl (qD HT_.out (by kernel_rfl)) (fun _ _ _ h => h) (Or.inl ⟨by rfl,?_⟩) ?_ ?_
                               rotate_left
                               ·intro w'
                                go_simp
                                with_reducible rfl
                               rotate_left
                               ·simp only [Act.put,List.setIfInBounds_toArray,List.set_cons_zero,List.set_cons_succ,qE,qF]
                                rfl
                               refine qL (i:=10) (N:=some 63) (v:=?_) (a':=?_) #[true,true,true,true,true,true,true,true,true,true,true,false,false,false,false,false,false,false] rfl rfl (qD HT_.out (by kernel_rfl)) (fun _ _ _ h => h) (Or.inl ⟨by rfl,?_⟩) ?_ ?_
                               rotate_left
                               ·intro w'
                                go_simp
                                with_reducible rfl
                               rotate_left
                               ·simp only [Act.put,List.setIfInBounds_toArray,List.set_cons_zero,List.set_cons_succ,qE,qF]
                                rfl
                               refine qL (i:=11) (N:=some 64) (v:=?_) (a':=?_) #[true,true,true,true,true,true,true,true,true,true,true,true,false,false,false,false,false,false] rfl rfl (qD HT_.out (by kernel_rfl)) (fun _ _ _ h => h) (Or.inl ⟨by rfl,?_⟩) ?_ ?_
                               rotate_left
                               ·intro w'
                                go_simp
                                with_reducible rfl
                               rotate_left
                               ·simp only [Act.put,List.setIfInBounds_toArray,List.set_cons_zero,List.set_cons_succ,qE,qF]
                                rfl
                               refine qL (i:=12) (N:=some 65) (v:=?_) (a':=?_) #[true,true,true,true,true,true,true,true,true,true,true,true,true,false,false,false,false,false] rfl rfl (qD HT_.out (by kernel_rfl)) (fun _ _ _ h => h) (Or.inl ⟨by rfl,?_⟩) ?_ ?_
                               rotate_left
                               ·intro w'
                                go_simp
                                with_reducible rfl
                               rotate_left
                               ·simp only [Act.put,List.setIfInBounds_toArray,List.set_cons_zero,List.set_cons_succ,qE,qF]
                                rfl
                               refine qL (i:=13) (N:=some 66) (v:=?_) (a':=?_) #[true,true,true,true,true,true,true,true,true,true,true,true,true,true,false,false,false,false] rfl rfl (qD HT_.out (by kernel_rfl)) (fun _ _ _ h => h) (Or.inl ⟨by rfl,?_⟩) ?_ ?_
                               rotate_left
                               ·intro w'
                                go_simp
                                with_reducible rfl
                               rotate_left
                               ·simp only [Act.put,List.setIfInBounds_toArray,List.set_cons_zero,List.set_cons_succ,qE,qF]
                                rfl
                               refine qL (i:=14) (N:=some 12) (v:=?_) (a':=?_) #[true,true,true,true,true,true,true,true,true,true,true,true,true,true,true,false,false,false] rfl rfl (qD HT_.out (by kernel_rfl)) (fun _ _ _ h => h) (Or.inl ⟨by rfl,?_⟩) ?_ ?_
                               rotate_left
                               ·intro w'
                                go_simp
                                with_reducible rfl
                               rotate_left
                               ·simp only [Act.put,List.setIfInBounds_toArray,List.set_cons_zero,List.set_cons_succ,qE,qF]
                                rfl
                               refine qL (i:=15) (N:=some 13) (v:=?_) (a':=?_) #[true,true,true,true,true,true,true,true,true,true,true,true,true,true,true,true,false,false] rfl rfl (qD HT_.out (by kernel_rfl)) (fun _ _ _ h => h) (Or.inl ⟨by rfl,?_⟩) ?_ ?_
                               rotate_left
                               ·intro w'
                                go_simp
                                with_reducible rfl
                               rotate_left
                               ·simp only [Act.put,List.setIfInBounds_toArray,List.set_cons_zero,List.set_cons_succ,qE,qF]
                                rfl
                               refine qL (i:=16) (N:=some 14) (v:=?_) (a':=?_) #[true,true,true,true,true,true,true,true,true,true,true,true,true,true,true,true,true,false] rfl rfl (qD HT_.out (by kernel_rfl)) (fun _ _ _ h => h) (Or.inl ⟨by rfl,?_⟩) ?_ ?_
                               rotate_left
                               ·intro w'
                                go_simp
                                with_reducible rfl
                               rotate_left
                               ·simp only [Act.put,List.setIfInBounds_toArray,List.set_cons_zero,List.set_cons_succ,qE,qF]
                                rfl
                               refine qL (i:=17) (N:=some 15) (v:=?_) (a':=?_) #[true,true,true,true,true,true,true,true,true,true,true,true,true,true,true,true,true,true] rfl rfl (qD HT_.out (by kernel_rfl)) (fun _ _ _ h => h) (Or.inl ⟨by rfl,?_⟩) ?_ ?_
                               rotate_left
                               ·intro w'
                                go_simp
                                with_reducible rfl
                               rotate_left
                               ·simp only [Act.put,List.setIfInBounds_toArray,List.set_cons_zero,List.set_cons_succ,qE,qF]
                                rfl
                               refine xL (zu HT_.out (by kernel_rfl)) ?_
                               have p144 : 0 ≤ ((ji42) : Int):=of_decide_eq_true (by first|(with_reducible assumption)|assumption)
                               have q144 : (ji42) < (x7_2.length : Int):=of_decide_eq_true (by first|(with_reducible assumption)|assumption)
                               obtain ⟨ad144,A144_0,c144_0,e144,hx144_0,hl144_0,hi144_0⟩:=kv (Kd.jR HO_7.out).2.2 (ji42) p144 q144
                               obtain rfl : (⟨go16,0,none⟩ : Addr) = ad144:=(by injection e144)
                               obtain ⟨ce144,hce144,hMe144,hcc144⟩:=Kd.kS HO_7.out [] (ji42) p144 (by first|exact q144|exact of_decide_eq_true (by first|(with_reducible assumption)|assumption)|(have e_:=(Kd.jR HO_7.out).1;omega))
                               obtain ⟨ve144_0,rfl,ge144_0⟩:=hMe144
                               have hv144_0:=hcc144 0 _ rfl
                               rw [Nat.add_zero,show ((Kd.slice 3 (Kd.int .i64))).sz = 1 from rfl,Nat.mul_one] at hv144_0
                               replace hv144_0:=Option.some.inj (hv144_0.symm.trans hx144_0)
                               rw [hv144_0] at ge144_0
                               have HL144_0:=qd.mk (show Kd.R (Kd.int .i64) 3 _ _ _ _ (qW x7_2 (ji42)) from ge144_0)
                               clear hv144_0 ge144_0
                               have HX144_0:=qd.mk hx144_0
                               clear hcc144 hce144
                               (first|simp only [add_plain] at hx144_0|simp only [vT] at hx144_0|simp only [Addr.add,Nat.zero_add] at hx144_0|skip)
                               have HR144_0:=qd.mk hi144_0
                               have HC144_0:=qd.mk hl144_0
                               clear hi144_0 hl144_0
                               replace p144:=eq_true p144
                               replace q144:=eq_true q144
                               have p145 : 0 ≤ ((ji45) : Int):=of_decide_eq_true (by first|(with_reducible assumption)|assumption)
                               have q145 : (ji45) < ((qW x7_2 (ji42)).length : Int):=of_decide_eq_true (by first|(with_reducible assumption)|assumption)
                               obtain ⟨ad145,e145,hx145_0⟩:=Kd.vK (by repeat (first|(with_reducible exact HR144_0.out)|(with_reducible refine Kd.jP ?_ _)|(with_reducible refine Kd.jQ ?_ _)|(with_reducible refine Kd.zh ?_)|exact HR144_0.out)) (ji45) p145 q145
                               cases e145
                               replace p145:=eq_true p145
                               replace q145:=eq_true q145
                               try go_wp2
                               go_roundg k5
                               case measure => have:=HK1.out;have:=HK2.out;have:=HJ21.out;have:=HJ23.out;have:=HK5.out;omega
                               case rel => exact ⟨(x10_5),((x11_5 + 1) % 256),(by first|rfl|(simp;done)|(simp [*];done)),(by first|rfl|(simp;done)|(simp [*];done)),H',⟨by have:=HK1.out;have:=HK2.out;have:=HJ21.out;have:=HJ23.out;have:=HK5.out;omega⟩,⟨by (try simp only [hl7_2]);(with_reducible repeat (first|apply Kd.jy|apply Kd.jA|apply Kd.jD));exact HO_7.out⟩,⟨by (try simp only [hl7_2]);(with_reducible repeat (first|refine qx ?_ _|refine qA ?_|refine qw ?_ _));exact BK130.out⟩,⟨by repeat (first|(with_reducible first|exact HB.out|apply qg|apply qc|apply qf|refine qp ?_ GE130.out)|exact HB.out)⟩⟩
                             ·rw [if_neg c47] at H
                              exact absurd H (by simp)
                            ·rw [if_neg c46] at H
                             exact absurd H (by simp)
                           ·rw [if_neg c44] at H
                            exact absurd H (by simp)
                          ·rw [if_neg c43] at H
                           exact absurd H (by simp)
                        ·replace c32:=Bool.eq_false_iff.mpr c32
                         subst c32
                         have H1 : (qj.l2 k5 a0 a1 x7_2 x8_1 x9_2 x10_5 ((x11_5 + 1) % 256) a2_0 a2_1 a2_2 a2_3) = some r:=by rw [if_neg (show ¬ (false = true) by decide)] at H;exact H
                         clear H
                         have H:=H1
                         clear H1
                         have H':=qd.mk H
                         clear H
                         try go_wp2
                         have n0_:=qd.mk (Kd.jD HO_7.out)
                         have n1_:=qd.mk (qA BK130.out)
                         have n2_:=qd.mk (qf HB.out)
                         clear HO_7
                         clear BK130
                         clear HB
                         have HO_7:=n0_
                         have BK130:=n1_
                         have HB:=n2_
                         clear n0_ n1_ n2_
                         refine zN (n:=18) (S:=fun w' => w'.cell? ⟨gb130,0,none⟩ = some (.int .i64 a2_0) ∧ w'.cell? ⟨gb130,1,none⟩ = some (.int .i64 a2_1) ∧ w'.cell? ⟨gb130,2,none⟩ = some (.int .i64 a2_2) ∧ w'.cell? ⟨gb130,3,none⟩ = some (.int .i64 a2_3)) (ds:=[]) #[false,false,false,false,false,false,false,false,false,false,false,false,false,false,false,false,false,false] (by kernel_rfl) rfl rfl ⟨(qi BK130.out 0).trans rfl,(qi BK130.out 1).trans rfl,(qi BK130.out 2).trans rfl,(qi BK130.out 3).trans rfl⟩ (fun hHeld => ?_);refine jT qj.J4 qj.QC (fun HT_ HW_ => ?_)
                         generalize wr.drew = w53 at HO_7 BK130 HB hHeld ⊢
                         refine qL (i:=0) (N:=some 54) (v:=?_) (a':=?_) #[true,false,false,false,false,false,false,false,false,false,false,false,false,false,false,false,false,false] rfl rfl (qD HT_.out (by kernel_rfl)) (fun _ _ _ h => h) (Or.inl ⟨by rfl,?_⟩) ?_ ?_
                         rotate_left
                         ·intro w'
                          go_simp
                          with_reducible rfl
                         rotate_left
                         ·simp only [Act.put,List.setIfInBounds_toArray,List.set_cons_zero,List.set_cons_succ,qE,qF]
                          rfl
                         refine qL (i:=1) (N:=some 55) (v:=?_) (a':=?_) #[true,true,false,false,false,false,false,false,false,false,false,false,false,false,false,false,false,false] rfl rfl (qD HT_.out (by kernel_rfl)) (fun _ _ _ h => h) (Or.inl ⟨by rfl,?_⟩) ?_ ?_
                         rotate_left
                         ·intro w'
                          go_simp
                          with_reducible rfl
                         rotate_left
                         ·simp only [Act.put,List.setIfInBounds_toArray,List.set_cons_zero,List.set_cons_succ,qE,qF]
                          rfl
                         refine qL (i:=2) (N:=some 56) (v:=?_) (a':=?_) #[true,true,true,false,false,false,false,false,false,false,false,false,false,false,false,false,false,false] rfl rfl (qD HT_.out (by kernel_rfl)) (fun _ _ _ h => h) (Or.inl ⟨by rfl,?_⟩) ?_ ?_
                         rotate_left
                         ·intro w'
                          go_simp
                          with_reducible rfl
                         rotate_left
                         ·simp only [Act.put,List.setIfInBounds_toArray,List.set_cons_zero,List.set_cons_succ,qE,qF]
                          rfl
                         refine qL (i:=3) (N:=some 57) (v:=?_) (a':=?_) #[true,true,true,true,false,false,false,false,false,false,false,false,false,false,false,false,false,false] rfl rfl (qD HT_.out (by kernel_rfl)) (fun _ _ _ h => h) (Or.inl ⟨by rfl,?_⟩) ?_ ?_
                         rotate_left
                         ·intro w'
                          go_simp
                          with_reducible rfl
                         rotate_left
                         ·simp only [Act.put,List.setIfInBounds_toArray,List.set_cons_zero,List.set_cons_succ,qE,qF]
                          rfl
                         refine qL (i:=4) (N:=some 58) (v:=?_) (a':=?_) #[true,true,true,true,true,false,false,false,false,false,false,false,false,false,false,false,false,false] rfl rfl (qD HT_.out (by kernel_rfl)) (fun _ _ _ h => h) (Or.inl ⟨by rfl,?_⟩) ?_ ?_
                         rotate_left
                         ·intro w'
                          go_simp
                          with_reducible rfl
                         rotate_left
                         ·simp only [Act.put,List.setIfInBounds_toArray,List.set_cons_zero,List.set_cons_succ,qE,qF]
                          rfl
                         refine qL (i:=5) (N:=some 59) (v:=?_) (a':=?_) #[true,true,true,true,true,true,false,false,false,false,false,false,false,false,false,false,false,false] rfl rfl (qD HT_.out (by kernel_rfl)) (fun _ _ _ h => h) (Or.inl ⟨by rfl,?_⟩) ?_ ?_
                         rotate_left
                         ·intro w'
                          go_simp
                          with_reducible rfl
                         rotate_left
                         ·simp only [Act.put,List.setIfInBounds_toArray,List.set_cons_zero,List.set_cons_succ,qE,qF]
                          rfl
                         refine qL (i:=6) (N:=some 60) (v:=?_) (a':=?_) #[true,true,true,true,true,true,true,false,false,false,false,false,false,false,false,false,false,false] rfl rfl (qD HT_.out (by kernel_rfl)) (fun _ _ _ h => h) (Or.inl ⟨by rfl,?_⟩) ?_ ?_
                         rotate_left
                         ·intro w'
                          go_simp
                          with_reducible rfl
                         rotate_left
                         ·simp only [Act.put,List.setIfInBounds_toArray,List.set_cons_zero,List.set_cons_succ,qE,qF]
                          rfl
                         refine zz (i:=7) (N:=some 61) (v:=?_) (a':=?_) #[true,true,true,true,true,true,true,true,false,false,false,false,false,false,false,false,false,false] rfl rfl (jF HT_.out HW_.out (by kernel_rfl)) (fun _ _ _ h => h) (Or.inl ⟨by rfl,?_⟩) hHeld ?_ ?_
                         rotate_left
                         ·rintro w' ⟨s0,s1,s2,s3⟩
                          go_simp
                          with_reducible rfl
                         rotate_left
                         ·simp only [Act.put,List.setIfInBounds_toArray,List.set_cons_zero,List.set_cons_succ,qE,qF]
                          rfl
                         refine one_ (i:=8) (N:=some 62) #[true,true,true,true,true,true,true,true,true,false,false,false,false,false,false,false,false,false] rfl rfl (vM HT_.out (by kernel_rfl)) (by decide) (fun K hK => ?_)
                         refine xR Try.func34 (by kernel_rfl) rfl #[.int .u8 x11_5,.string (a0.extract (x8_1 : Int).toNat a0.size),.string (a1.extract (x9_2 : Int).toNat a1.size),.agg #[.int .i64 a2_0,.int .i64 a2_1,.int .i64 a2_2,.int .i64 a2_3]] (by rfl) rfl rfl (by (try simp only [List.map_toArray,List.map_cons,List.map_nil]);first|done|rfl|(simp only [List.length_drop,List.length_take];rfl)) ?_
                         with_reducible refine (qG.calls k5 x11_5 (a0.extract (x8_1 : Int).toNat a0.size) (a1.extract (x9_2 : Int).toNat a1.size) a2_0 a2_1 a2_2 a2_3 false t139 t140 t141 _ A31.out).mono ?_
                         rintro e w54 ⟨rfl,hb⟩
                         refine ⟨_,rfl,?_⟩
                         have n0_:=qd.mk (Kd.xz (by (with_reducible repeat (first|apply Kd.jy|apply Kd.jA|apply Kd.jD));exact HO_7.out) hb)
                         have n1_:=qd.mk (qR (g:=gb130) (o:=.cells #[.int .i64 a2_0,.int .i64 a2_1,.int .i64 a2_2,.int .i64 a2_3] 51 (0,0)) (by (with_reducible repeat (first|refine qx ?_ _|refine qA ?_|refine qw ?_ _));exact BK130.out) hb)
                         have n2_:=qd.mk (qI (by repeat (first|(with_reducible first|exact HB.out|apply qg|apply qc|apply qf|refine qp ?_ GE130.out)|exact HB.out)) hb)
                         clear HO_7
                         clear BK130
                         clear HB
                         have HO_7:=n0_
                         have BK130:=n1_
                         have HB:=n2_
                         clear n0_ n1_ n2_
                         (try clear hb)
                         (try clear hb2)
                         (try clear hk)
                         (try clear hi)
                         refine hK.out _ _ ⟨(qi BK130.out 0).trans rfl,(qi BK130.out 1).trans rfl,(qi BK130.out 2).trans rfl,(qi BK130.out 3).trans rfl⟩ (fun hHeld => ?_)
                         clear hK K
                         refine yc (a':=?_) ?_ ?_
                         rotate_left
                         ·show Act.put _ (some 62) _ = _
                          simp only [Act.put,List.setIfInBounds_toArray,List.set_cons_zero,List.set_cons_succ,qE,qF]
                          rfl
                         refine qL (i:=9) (N:=some 53) (v:=?_) (a':=?_) #[true,true,true,true,true,true,true,true,true,true,false,false,false,false,false,false,false,false] rfl rfl (qD HT_.out (by kernel_rfl)) (fun _ _ _ h => h) (Or.inl ⟨by rfl,?_⟩) ?_ ?_
                         rotate_left
                         ·intro w'
                          go_simp
                          with_reducible rfl
                         rotate_left
                         ·simp only [Act.put,List.setIfInBounds_toArray,List.set_cons_zero,List.set_cons_succ,qE,qF]
                          rfl
                         refine qL (i:=10) (N:=some 63) (v:=?_) (a':=?_) #[true,true,true,true,true,true,true,true,true,true,true,false,false,false,false,false,false,false] rfl rfl (qD HT_.out (by kernel_rfl)) (fun _ _ _ h => h) (Or.inl ⟨by rfl,?_⟩) ?_ ?_
                         rotate_left
                         ·intro w'
                          go_simp
                          with_reducible rfl
                         rotate_left
                         ·simp only [Act.put,List.setIfInBounds_toArray,List.set_cons_zero,List.set_cons_succ,qE,qF]
                          rfl
                         refine qL (i:=11) (N:=some 64) (v:=?_) (a':=?_) #[true,true,true,true,true,true,true,true,true,true,true,true,false,false,false,false,false,false] rfl rfl (qD HT_.out (by kernel_rfl)) (fun _ _ _ h => h) (Or.inl ⟨by rfl,?_⟩) ?_ ?_
                         rotate_left
                         ·intro w'
                          go_simp
                          with_reducible rfl
                         rotate_left
                         ·simp only [Act.put,List.setIfInBounds_toArray,List.set_cons_zero,List.set_cons_succ,qE,qF]
                          rfl
                         refine qL (i:=12) (N:=some 65) (v:=?_) (a':=?_) #[true,true,true,true,true,true,true,true,true,true,true,true,true,false,false,false,false,false] rfl rfl (qD HT_.out (by kernel_rfl)) (fun _ _ _ h => h) (Or.inl ⟨by rfl,?_⟩) ?_ ?_
                         rotate_left
                         ·intro w'
                          go_simp
                          with_reducible rfl
                         rotate_left
                         ·simp only [Act.put,List.setIfInBounds_toArray,List.set_cons_zero,List.set_cons_succ,qE,qF]
                          rfl
                         refine qL (i:=13) (N:=some 66) (v:=?_) (a':=?_) #[true,true,true,true,true,true,true,true,true,true,true,true,true,true,false,false,false,false] rfl rfl (qD HT_.out (by kernel_rfl)) (fun _ _ _ h => h) (Or.inl ⟨by rfl,?_⟩) ?_ ?_
                         rotate_left
                         ·intro w'
                          go_simp
                          with_reducible rfl
                         rotate_left
                         ·simp only [Act.put,List.setIfInBounds_toArray,List.set_cons_zero,List.set_cons_succ,qE,qF]
                          rfl
                         refine qL (i:=14) (N:=some 12) (v:=?_) (a':=?_) #[true,true,true,true,true,true,true,true,true,true,true,true,true,true,true,false,false,false] rfl rfl (qD HT_.out (by kernel_rfl)) (fun _ _ _ h => h) (Or.inl ⟨by rfl,?_⟩) ?_ ?_
                         rotate_left
                         ·intro w'
                          go_simp
                          with_reducible rfl
                         rotate_left
                         ·simp only [Act.put,List.setIfInBounds_toArray,List.set_cons_zero,List.set_cons_succ,qE,qF]
                          rfl
                         refine qL (i:=15) (N:=some 13) (v:=?_) (a':=?_) #[true,true,true,true,true,true,true,true,true,true,true,true,true,true,true,true,false,false] rfl rfl (qD HT_.out (by kernel_rfl)) (fun _ _ _ h => h) (Or.inl ⟨by rfl,?_⟩) ?_ ?_
                         rotate_left
                         ·intro w'
                          go_simp
                          with_reducible rfl
                         rotate_left
                         ·simp only [Act.put,List.setIfInBounds_toArray,List.set_cons_zero,List.set_cons_succ,qE,qF]
                          rfl
                         refine qL (i:=16) (N:=some 14) (v:=?_) (a':=?_) #[true,true,true,true,true,true,true,true,true,true,true,true,true,true,true,true,true,false] rfl rfl (qD HT_.out (by kernel_rfl)) (fun _ _ _ h => h) (Or.inl ⟨by rfl,?_⟩) ?_ ?_
                         rotate_left
                         ·intro w'
                          go_simp
                          with_reducible rfl
                         rotate_left
                         ·simp only [Act.put,List.setIfInBounds_toArray,List.set_cons_zero,List.set_cons_succ,qE,qF]
                          rfl
                         refine qL (i:=17) (N:=some 15) (v:=?_) (a':=?_) #[true,true,true,true,true,true,true,true,true,true,true,true,true,true,true,true,true,true] rfl rfl (qD HT_.out (by kernel_rfl)) (fun _ _ _ h => h) (Or.inl ⟨by rfl,?_⟩) ?_ ?_
                         rotate_left
                         ·intro w'
                          go_simp
                          with_reducible rfl
                         rotate_left
                         ·simp only [Act.put,List.setIfInBounds_toArray,List.set_cons_zero,List.set_cons_succ,qE,qF]
                          rfl
                         refine xL (zu HT_.out (by kernel_rfl)) ?_
                         try go_wp2
                         go_roundg k5
                         case measure => have:=HK1.out;have:=HK2.out;have:=HJ21.out;have:=HJ23.out;have:=HK5.out;omega
                         case rel => exact ⟨(x10_5),((x11_5 + 1) % 256),(by first|rfl|(simp;done)|(simp [*];done)),(by first|rfl|(simp;done)|(simp [*];done)),H',⟨by have:=HK1.out;have:=HK2.out;have:=HJ21.out;have:=HJ23.out;have:=HK5.out;omega⟩,⟨by (try simp only [hl7_2]);(with_reducible repeat (first|apply Kd.jy|apply Kd.jA|apply Kd.jD));exact HO_7.out⟩,⟨by (try simp only [hl7_2]);(with_reducible repeat (first|refine qx ?_ _|refine qA ?_|refine qw ?_ _));exact BK130.out⟩,⟨by repeat (first|(with_reducible first|exact HB.out|apply qg|apply qc|apply qf|refine qp ?_ GE130.out)|exact HB.out)⟩⟩
                       ·rw [if_neg c30] at H
                        exact absurd H (by simp)
                      ·rw [if_neg c29] at H
                       exact absurd H (by simp)
                     ·rw [if_neg c28] at H
                      exact absurd H (by simp)
                    ·rw [if_neg c27] at H
                     exact absurd H (by simp)
                   ·rw [if_neg c26] at H
                    have c26b0 : decide (x11_5 ≤ 5) = false:=decide_eq_false c26
                    clear c26
                    by_cases c55 : 0 ≤ x8_1
                    ·rw [if_pos c55] at H
                     have c55b0 : decide (0 ≤ x8_1) = true:=decide_eq_true c55
                     clear c55
                     by_cases c56 : x8_1 < (x7_2.length : Int)
                     ·rw [if_pos c56] at H
                      have c56b0 : decide (x8_1 < (x7_2.length : Int)) = true:=decide_eq_true c56
                      clear c56
                      by_cases c57 : 0 ≤ x9_2
                      ·rw [if_pos c57] at H
                       have c57b0 : decide (0 ≤ x9_2) = true:=decide_eq_true c57
                       clear c57
                       by_cases c58 : x9_2 < ((qW x7_2 x8_1).length : Int)
                       ·rw [if_pos c58] at H
                        have c58b0 : decide (x9_2 < ((qW x7_2 x8_1).length : Int)) = true:=decide_eq_true c58
                        clear c58
                        obtain ⟨y149,hy149⟩ : ∃ y_ : List Int,y_ = ((qW x7_2 x8_1).set (x9_2 : Int).toNat x10_5):=⟨_,rfl⟩
                        replace H : (qj.l1 k5 a0 a1 (x7_2.set (x8_1 : Int).toNat y149) x8_1 (wrap64 (x9_2 - 1)) a2_0 a2_1 a2_2 a2_3) = some r:=by first|(rw [hy149];with_reducible exact H)|(have H2_:=(Option.bind_some _ _).symm.trans H;rw [hy149];with_reducible exact H2_)|(have H2_:=(Option.bind_some _ _).symm.trans H;with_reducible exact H2_)|with_reducible exact H|(rw [hy149];exact H)|exact H
                        have Ny149:=qd.mk hy149
                        clear hy149
                        obtain ⟨y151,hy151⟩ : ∃ y_ : List (List Int),y_ = (x7_2.set (x8_1 : Int).toNat y149):=⟨_,rfl⟩
                        replace H : (qj.l1 k5 a0 a1 y151 x8_1 (wrap64 (x9_2 - 1)) a2_0 a2_1 a2_2 a2_3) = some r:=by first|(rw [hy151];with_reducible exact H)|(have H2_:=(Option.bind_some _ _).symm.trans H;rw [hy151];with_reducible exact H2_)|(have H2_:=(Option.bind_some _ _).symm.trans H;with_reducible exact H2_)|with_reducible exact H|(rw [hy151];exact H)|exact H
                        have Ny151:=qd.mk hy151
                        clear hy151
                        have H':=qd.mk H
                        clear H
                        have p148 : 0 ≤ (x8_1 : Int):=of_decide_eq_true (by first|(with_reducible assumption)|assumption)
                        have q148 : x8_1 < (x7_2.length : Int):=of_decide_eq_true (by first|(with_reducible assumption)|assumption)
                        obtain ⟨ad148,A148_0,c148_0,e148,hx148_0,hl148_0,hi148_0⟩:=kv (Kd.jR HO_7.out).2.2 x8_1 p148 q148
                        obtain rfl : (⟨go16,0,none⟩ : Addr) = ad148:=(by injection e148)
                        obtain ⟨ce148,hce148,hMe148,hcc148⟩:=Kd.kS HO_7.out [] x8_1 p148 (by first|exact q148|exact of_decide_eq_true (by first|(with_reducible assumption)|assumption)|(have e_:=(Kd.jR HO_7.out).1;omega))
                        obtain ⟨ve148_0,rfl,ge148_0⟩:=hMe148
                        have hv148_0:=hcc148 0 _ rfl
                        rw [Nat.add_zero,show ((Kd.slice 3 (Kd.int .i64))).sz = 1 from rfl,Nat.mul_one] at hv148_0
                        replace hv148_0:=Option.some.inj (hv148_0.symm.trans hx148_0)
                        rw [hv148_0] at ge148_0
                        have HL148_0:=qd.mk (show Kd.R (Kd.int .i64) 3 _ _ _ _ (qW x7_2 x8_1) from ge148_0)
                        clear hv148_0 ge148_0
                        have HX148_0:=qd.mk hx148_0
                        clear hcc148 hce148
                        (first|simp only [add_plain] at hx148_0|simp only [vT] at hx148_0|simp only [Addr.add,Nat.zero_add] at hx148_0|skip)
                        have HR148_0:=qd.mk hi148_0
                        have HC148_0:=qd.mk hl148_0
                        clear hi148_0 hl148_0
                        replace p148:=eq_true p148
                        replace q148:=eq_true q148
                        have p59 : 0 ≤ (x9_2 : Int):=of_decide_eq_true (by first|(with_reducible assumption)|assumption)
                        have q59 : (x9_2 : Int) < (((qW x7_2 x8_1).length : Int) : Int):=of_decide_eq_true (by first|(with_reducible assumption)|assumption)
                        obtain ⟨go59,co59,eo59,gb59,gl59,cl59,HG59⟩:=Kd.Xg HL148_0.out (by omega)
                        (first|cases eo59|(injection eo59 with ea_ en_ ec_;(first|subst ea_|(injection ea_ with ea_;subst ea_));subst ec_;clear en_))
                        have GB59:=qd.mk gb59
                        have GG59:=qd.mk HG59
                        clear gb59 gl59 HG59
                        obtain ⟨hx59_0,hf59_0⟩:=Kd.XQ 0 HL148_0.out (x9_2 : Int) p59 q59
                        replace p59:=eq_true p59
                        replace q59:=eq_true q59
                        have hq60 : (x8_1 : Int) < (x7_2.length : Int):=(by have h_ : (x8_1 : Int) < ((x7_2.length : Int) : Int):=of_decide_eq_true (by first|(with_reducible assumption)|assumption);first|exact h_|(have e_:=(Kd.jR HO_7.out).1;omega)|simpa only [List.length_set,List.length_set] using h_)
                        obtain ⟨oki60,ce60,hcl60,hM60,hcc60,hok60,hbk60⟩:=Kd.ZQ HO_7.out [] (x8_1 : Int) (of_decide_eq_true (by first|(with_reducible assumption)|assumption)) hq60
                        obtain ⟨ve60_0,rfl,ge60_0⟩:=hM60
                        have hv60:=hcc60 0 _ rfl
                        rw [Nat.add_zero,show ((Kd.slice 3 (Kd.int .i64))).sz = 1 from rfl,Nat.mul_one] at hv60
                        replace hv60:=Option.some.inj (hv60.symm.trans HX148_0.out)
                        subst hv60
                        clear hcc60 hcl60
                        replace ge60_0:=(show Kd.R (Kd.int .i64) 3 _ _ _ _ (qW x7_2 x8_1) from ge60_0)
                        have HP60:=Kd.VV ge60_0 (x9_2 : Int) x10_5
                        go_wp2_with (first|((with_reducible refine yZ (t:=3) (p:=108) rfl ?_);refine yw (w1:=(wr.setCell ⟨go59,(x9_2 : Int).toNat,none⟩ (.int .i64 x10_5))) rfl (t:=3) (p:=108) rfl rfl ?hr ?_;(case hr => first|(go_simp;done)|(go_simp;rfl));intro w61 hw;have hg : wr.grownBy w61 (some go59):=(by rw [hw];exact HP60.2);have hz_ : Kd.R (Kd.int .i64) 3 w61 w.heap.size oki60 (.slice (some ⟨go59,0,none⟩) (qW x7_2 x8_1).length c148_0) y149:=(by rw [hw,Ny149.out];exact HP60.1);have hp_ : Kd.S (Kd.slice 3 (Kd.int .i64)) 62 w61 w.heap.size (fun _ => True) (.slice (some ⟨go16,0,none⟩) x7_2.length co16) y151:=(by rw [Ny151.out];exact hbk60 hg (fun k_ e_ => by injection e_ with e_;subst e_;exact ge60_0.1 _ rfl) (Kd.Vl hz_));have hm_:=Kd.qO hz_ hok60;clear HP60 hbk60;have n0_:=qd.mk (hp_);have n1_:=qd.mk (zG (g:=gb130) (o:=.cells #[.int .i64 a2_0,.int .i64 a2_1,.int .i64 a2_2,.int .i64 a2_3] 51 (0,0)) (by (with_reducible repeat (first|refine qx ?_ _|refine qA ?_|refine qw ?_ _));exact BK130.out) hg (Kd.R_ne HL148_0.out BK130.out (by decide)));have n2_:=qd.mk ((by rw [hw];exact qp (HB.out) GB59.out : Below w.heap.size w w61));have n3_:=qd.mk (hm_);have n4_:=qd.mk ((Kd.je hm_).2.1);clear HO_7;clear BK130;clear HB;clear HL148_0;have HO_7:=n0_;have BK130:=n1_;have HB:=n2_;have HL152:=n3_;have HC150:=n4_;clear n0_ n1_ n2_ n3_ n4_;clear hg hw hp_ hz_ hm_ hok60))
                        (try simp only [← hl7_2])
                        go_roundg k5
                        case measure => have:=HK1.out;have:=HK2.out;have:=HJ21.out;have:=HJ23.out;have:=HK5.out;omega
                        case rel => exact ⟨(y151),(wrap64 (x9_2 - 1)),(by first|rfl|(simp;done)|(simp [*];done)),H',⟨by have:=HK1.out;have:=HK2.out;have:=HJ21.out;have:=HJ23.out;have:=HK5.out;omega⟩,⟨by (try simp only [hl7_2]);(with_reducible repeat (first|apply Kd.jy|apply Kd.jA|apply Kd.jD));exact HO_7.out⟩,⟨by (try simp only [hl7_2]);(with_reducible repeat (first|refine qx ?_ _|refine qA ?_|refine qw ?_ _));exact BK130.out⟩,⟨by repeat (first|(with_reducible first|exact HB.out|apply qg|apply qc|apply qf|refine qp ?_ GE130.out)|exact HB.out)⟩⟩
                       ·rw [if_neg c58] at H
                        exact absurd H (by simp)
                      ·rw [if_neg c57] at H
                       exact absurd H (by simp)
                     ·rw [if_neg c56] at H
                      exact absurd H (by simp)
                    ·rw [if_neg c55] at H
                     exact absurd H (by simp)
            ·rw [if_neg c21] at H
             have c21b0 : decide (0 ≤ x9_2) = false:=decide_eq_false c21
             clear c21
             have H':=qd.mk H
             clear H
             go_wp2
             (try simp only [← hl7_2])
             go_roundg k2
             case measure => have:=HK1.out;have:=HK2.out;omega
             case rel => exact ⟨(x7_2),(wrap64 (x8_1 - 1)),(by first|rfl|(simp;done)|(simp [*];done)),H',⟨by have:=HK1.out;have:=HK2.out;omega⟩,⟨by (try simp only [hl7_2]);(with_reducible repeat (first|apply Kd.jy|apply Kd.jA|apply Kd.jD));exact HO_7.out⟩,⟨by (try simp only [hl7_2]);(with_reducible repeat (first|refine qx ?_ _|refine qA ?_|refine qw ?_ _));exact BK130.out⟩,⟨by repeat (first|(with_reducible first|exact HB.out|apply qg|apply qc|apply qf|refine qp ?_ GE130.out)|exact HB.out)⟩⟩
         ·rw [if_neg c15] at H
          exact absurd H (by simp)
        ·rw [if_neg c14] at H
         exact absurd H (by simp)
       ·rw [if_neg c13] at H
        exact absurd H (by simp)
      ·rw [if_neg c12] at H
       exact absurd H (by simp)
     ·rw [if_neg c10] at H
      have c10b0 : decide (0 ≤ x8_1) = false:=decide_eq_false c10
      clear c10
      obtain rfl:=Option.some.inj H
      go_wp2
      go_ret
      exact ⟨_,by first|rfl|(simp [qQ,qP] <;> rfl)|(simp only [← hji4];first|rfl|(simp [qQ,qP] <;> rfl))|(simp [*,qQ,qP] <;> rfl),by (with_reducible repeat (first|apply Kd.jy|apply Kd.jA|apply Kd.jD));exact HO_7.out,by repeat (first|(with_reducible first|exact HB.out|apply qg|apply qc|apply qf|refine qp ?_ GE130.out)|exact HB.out)⟩
  ·rw [if_neg c6] at H
   exact absurd H (by simp)
 ·rw [if_neg c5] at H
  exact absurd H (by simp)
end Go.Proofs.Ytdefecnngccmoaa.QTells
namespace Go.Proofs.Ytdefecnngccmoaa.Ed
open Go.RowKit Go.Proofs.YtdefecnngccmoaaW.PrintWords QTells
section
variable (a b : ByteArray)
theorem V6 (i j : Nat) (h : i + 1 < a.size) (h' : j + 1 < b.size) : sw a b i j = (bt a i == bt b ((j + 1 : Nat) : Int) && (bt a ((i + 1 : Nat) : Int) == bt b j && bt a i != bt a ((i + 1 : Nat) : Int))):=by
  unfold sw
  rw [jK a i (by omega),jK a (i + 1) h,jK b j (by omega),jK b (j + 1) h']
  rfl
theorem vJ (i k : Nat) : bt (a.extract i a.size) (k : Int) = bt a ((i + k : Nat) : Int):=by
  rw [← xe,← xe,zL];unfold rd;rw [show ((i + k : Nat) : Int).toNat = i + k by omega,show ((k : Nat) : Int).toNat = k by omega];simp [List.getD_eq_getElem?_getD,List.getElem?_drop]
def okB (kind : Int) (i j : Nat) : Bool :=
  if kind = 1 then decide (i < a.size ∧ j < b.size ∧ bt a i = bt b j)
  else if kind = 2 then decide (i < a.size ∧ j < b.size ∧ ¬ bt a i = bt b j)
  else if kind = 3 then sw a b i j
  else if kind = 4 then decide (i < a.size) else decide (j < b.size)
end
def ux (kind : Int) : Nat:=if kind = 1 then 1 else if kind = 2 then 1 else if kind = 3 then 2 else if kind = 4 then 1 else 0
def uy (kind : Int) : Nat:=if kind = 1 then 1 else if kind = 2 then 1 else if kind = 3 then 2 else if kind = 4 then 0 else 1
def kc (c : Lb.Cst) (kind : Int) : Int:=if kind = 1 then 0 else if kind = 2 then c.chg else if kind = 3 then c.swp else if kind = 4 then c.del else c.ins
section
variable (c : Lb.Cst) (a b : ByteArray)
theorem QY (k : Nat) (kind : Int) (i j : Nat) (hi : i ≤ a.size) (hj : j ≤ b.size) :
    qG.f (k + 1) kind (a.extract i a.size) (b.extract j b.size) c.ins c.del c.chg c.swp = some (okB a b kind i j,((ux kind : Nat) : Int),((uy kind : Nat) : Int),kc c kind):=by
  have sa : (a.extract i a.size).size = a.size - i:=by simp
  have sb : (b.extract j b.size).size = b.size - j:=by simp
  have e0 : bt (a.extract i a.size) 0 = bt a i:=vJ a i 0
  have e1 : bt (a.extract i a.size) 1 = bt a ((i + 1 : Nat) : Int):=vJ a i 1
  have f0 : bt (b.extract j b.size) 0 = bt b j:=vJ b j 0
  have f1 : bt (b.extract j b.size) 1 = bt b ((j + 1 : Nat) : Int):=vJ b j 1
  have pa : (((a.size - i : Nat)) : Int) > 0 ↔ i < a.size:=by omega
  have pb : (((b.size - j : Nat)) : Int) > 0 ↔ j < b.size:=by omega
  have qa : (((a.size - i : Nat)) : Int) > 1 ↔ i + 1 < a.size:=by omega
  have qb : (((b.size - j : Nat)) : Int) > 1 ↔ j + 1 < b.size:=by omega
  have pa' : 0 < (((a.size - i : Nat)) : Int) ↔ i < a.size:=by omega
  have pb' : 0 < (((b.size - j : Nat)) : Int) ↔ j < b.size:=by omega
  have qa' : 1 < (((a.size - i : Nat)) : Int) ↔ i + 1 < a.size:=by omega
  have qb' : 1 < (((b.size - j : Nat)) : Int) ↔ j + 1 < b.size:=by omega
  have s3 : sw a b i j = (decide (i + 1 < a.size ∧ j + 1 < b.size) && (bt a i == bt b ((j + 1 : Nat) : Int) && (bt a ((i + 1 : Nat) : Int) == bt b j && bt a i != bt a ((i + 1 : Nat) : Int)))):=by
    by_cases h : i + 1 < a.size ∧ j + 1 < b.size
    · rw [V6 a b i j h.1 h.2,decide_eq_true h];rfl
    · rw [decide_eq_false h,Bool.false_and]
      cases hs : sw a b i j with
      | false => rfl
      | true => exact absurd (xA hs) h
  unfold qG.f
  rw [qG.j0,qG.j0,sa,sb,e0,e1,f0,f1]
  unfold okB ux uy kc
  rw [s3]
  simp only [pa,pb,qa,qb,pa',pb',qa',qb']
  generalize bt a i = x0
  generalize bt a ((i + 1 : Nat) : Int) = x1
  generalize bt b j = y0
  generalize bt b ((j + 1 : Nat) : Int) = y1
  clear sa sb e0 e1 f0 f1 pa pb qa qb pa' pb' qa' qb' s3
  by_cases k1 : kind = 1
  · simp only [if_pos k1]
    by_cases h1 : i < a.size <;> by_cases h2 : j < b.size <;> by_cases h3 : x0 = y0 <;> simp [h1,h2,h3]
  simp only [if_neg k1]
  by_cases k2 : kind = 2
  · simp only [if_pos k2]
    by_cases h1 : i < a.size <;> by_cases h2 : j < b.size <;> by_cases h3 : x0 = y0 <;> simp [h1,h2,h3]
  simp only [if_neg k2]
  by_cases k3 : kind = 3
  · simp only [if_pos k3]
    by_cases h1 : i + 1 < a.size <;> by_cases h2 : j + 1 < b.size
    · have h1' : i < a.size:=by omega
      have h2' : j < b.size:=by omega
      simp only [if_pos h1,if_pos h2,if_pos h1',if_pos h2']
      by_cases h3 : x0 = x1
      · subst h3;simp [h1,h2]
      · by_cases h4 : x0 = y1
        · subst h4;simp [h1,h2,h3]
        · simp [h1,h2,h3,h4]
    all_goals simp [h1,h2]
  simp only [if_neg k3]
  by_cases k4 : kind = 4
  · simp only [if_pos k4]
    simp
  · simp only [if_neg k4]
    simp
structure GR (G : List (List Int)) (i : Nat) (j : Int) : Prop where
  len : G.length = a.size + 1
  rows : ∀ r : Nat,i < r → r ≤ a.size → (qW G r).length = b.size + 1 ∧ ∀ q : Nat,q ≤ b.size → rd (qW G r) q = dd c a b r q
  row : (qW G i).length = b.size + 1
  cells : ∀ q : Nat,j < q → q ≤ b.size → rd (qW G i) q = dd c a b i q
variable {c a b}
theorem Vi {kind : Int} {i j : Nat} (h : okB a b kind i j = true) (h1 : 1 ≤ kind) (h5 : kind ≤ 5) (hi : i ≤ a.size) (hj : j ≤ b.size) :
    i + ux kind ≤ a.size ∧ j + uy kind ≤ b.size ∧ 0 < ux kind + uy kind ∧ ux kind ≤ 2 ∧ uy kind ≤ 2:=by
  unfold okB at h
  unfold ux uy
  split at h
  · simp only [if_pos ‹kind = 1›,decide_eq_true_eq] at h ⊢;omega
  simp only [if_neg ‹¬ kind = 1›] at h ⊢
  split at h
  · simp only [if_pos ‹kind = 2›,decide_eq_true_eq] at h ⊢;omega
  simp only [if_neg ‹¬ kind = 2›] at h ⊢
  split at h
  · have:=xA h
    simp only [if_pos ‹kind = 3›];omega
  simp only [if_neg ‹¬ kind = 3›] at h ⊢
  split at h
  · simp only [if_pos ‹kind = 4›,decide_eq_true_eq] at h ⊢;omega
  simp only [if_neg ‹¬ kind = 4›,decide_eq_true_eq] at h ⊢;omega
theorem GR.at {G : List (List Int)} {i j : Nat} (g : GR c a b G i j) {x y : Nat} (hx : i + x ≤ a.size) (hy : j + y ≤ b.size) (h : 0 < x + y) :
    (qW G ((i + x : Nat) : Int)).length = b.size + 1 ∧ rd (qW G ((i + x : Nat) : Int)) ((j + y : Nat) : Int) = dd c a b (i + x) (j + y):=by
  by_cases hx0 : x = 0
  · subst hx0
    exact ⟨g.row,g.cells (j + y) (by omega) hy⟩
  · have:=g.rows (i + x) (by omega) hx
    exact ⟨this.1,this.2 (j + y) hy⟩
variable (c a b) in
def upd (B kind : Int) (i j : Nat) : Int :=
  if okB a b kind i j = true then (if B < 0 then kc c kind + dd c a b (i + ux kind) (j + uy kind) else if kc c kind + dd c a b (i + ux kind) (j + uy kind) < B then kc c kind + dd c a b (i + ux kind) (j + uy kind) else B) else B
theorem Vj (hc : c.Ok) (kind : Int) : 0 ≤ kc c kind ∧ kc c kind ≤ 1000:=by
  have:=hc.i1;have:=hc.i2;have:=hc.d1;have:=hc.d2;have:=hc.c1;have:=hc.c2;have:=hc.s1;have:=hc.s2
  unfold kc
  repeat' split
  all_goals omega
theorem w64 {x : Int} (h0 : -1000000000 ≤ x) (h1 : x ≤ 1000000000) : wrap64 x = x:=by
  unfold wrap64;omega
theorem kL (hc : c.Ok) (ha : a.size ≤ 60) (hb : b.size ≤ 60) {G : List (List Int)} {i j : Nat} (g : GR c a b G i j) (hi : i ≤ a.size) (hj : j ≤ b.size) (k : Nat) (B kind : Int) (h1 : 1 ≤ kind) (h5 : kind ≤ 5) :
    qj.l2 (k + 2) a b G i j B kind c.ins c.del c.chg c.swp = qj.l2 (k + 1) a b G i j (upd c a b B kind i j) (kind + 1) c.ins c.del c.chg c.swp:=by
  rw [qj.l2,if_pos h5,if_pos (by omega),if_pos (by omega),if_pos (by omega),if_pos (by omega),show ((i : Nat) : Int).toNat = i by omega,show ((j : Nat) : Int).toNat = j by omega,
    QY c a b k kind i j hi hj,Option.bind_some,show (kind + 1) % 256 = kind + 1 by omega]
  dsimp only
  unfold upd
  by_cases h : okB a b kind i j = true
  · obtain ⟨x1,x2,x3,x4,x5⟩:=Vi h h1 h5 hi hj
    obtain ⟨y1,y2⟩:=g.at x1 x2 x3
    have bd:=jO hc a b ha hb (i + ux kind) (j + uy kind)
    have kb:=Vj hc kind
    have z1 : (0 : Int) ≤ ((i + ux kind : Nat) : Int):=by omega
    have z2 : ((i + ux kind : Nat) : Int) < (G.length : Int):=by have:=g.len;omega
    have z3 : (0 : Int) ≤ ((j + uy kind : Nat) : Int):=by omega
    have z4 : ((j + uy kind : Nat) : Int) < ((b.size + 1 : Nat) : Int):=by omega
    have z5 : -1000000000 ≤ (i : Int) + ((ux kind : Nat) : Int) ∧ (i : Int) + ((ux kind : Nat) : Int) ≤ 1000000000:=by omega
    have z6 : -1000000000 ≤ (j : Int) + ((uy kind : Nat) : Int) ∧ (j : Int) + ((uy kind : Nat) : Int) ≤ 1000000000:=by omega
    have z7 : -1000000000 ≤ kc c kind + dd c a b (i + ux kind) (j + uy kind) ∧ kc c kind + dd c a b (i + ux kind) (j + uy kind) ≤ 1000000000:=by omega
    have z8 : (i : Int) + ((ux kind : Nat) : Int) = ((i + ux kind : Nat) : Int):=by omega
    have z9 : (j : Int) + ((uy kind : Nat) : Int) = ((j + uy kind : Nat) : Int):=by omega
    have e1 : wrap64 ((i : Int) + ((ux kind : Nat) : Int)) = ((i + ux kind : Nat) : Int):=(w64 z5.1 z5.2).trans z8
    have e2 : wrap64 ((j : Int) + ((uy kind : Nat) : Int)) = ((j + uy kind : Nat) : Int):=(w64 z6.1 z6.2).trans z9
    rw [if_pos h,if_pos h,e1,e2,y2,y1,w64 z7.1 z7.2]
    simp only [if_pos z1,if_pos z2,if_pos z3,if_pos z4]
    by_cases hB : B < 0
    · rw [if_pos hB,if_pos hB]
    · rw [if_neg hB,if_neg hB]
      split <;> rfl
  · rw [if_neg h,if_neg h]
theorem X0 (hc : c.Ok) (ha : a.size ≤ 60) (hb : b.size ≤ 60) {i j : Nat} (hi : i ≤ a.size) (hj : j ≤ b.size) :
    upd c a b (upd c a b (upd c a b (upd c a b (upd c a b (if i = a.size ∧ j = b.size then 0 else -1) 1 i j) 2 i j) 3 i j) 4 i j) 5 i j = dd c a b i j:=by
  have o1 : okB a b 1 i j = decide (i < a.size ∧ j < b.size ∧ bt a i = bt b j):=rfl
  have o2 : okB a b 2 i j = decide (i < a.size ∧ j < b.size ∧ ¬ bt a i = bt b j):=rfl
  have o3 : okB a b 3 i j = sw a b i j:=rfl
  have o4 : okB a b 4 i j = decide (i < a.size):=rfl
  have o5 : okB a b 5 i j = decide (j < b.size):=rfl
  have u1 : ∀ B,upd c a b B 1 i j = if okB a b 1 i j = true then (if B < 0 then 0 + dd c a b (i + 1) (j + 1) else if 0 + dd c a b (i + 1) (j + 1) < B then 0 + dd c a b (i + 1) (j + 1) else B) else B:=fun _ => rfl
  have u2 : ∀ B,upd c a b B 2 i j = if okB a b 2 i j = true then (if B < 0 then c.chg + dd c a b (i + 1) (j + 1) else if c.chg + dd c a b (i + 1) (j + 1) < B then c.chg + dd c a b (i + 1) (j + 1) else B) else B:=fun _ => rfl
  have u3 : ∀ B,upd c a b B 3 i j = if okB a b 3 i j = true then (if B < 0 then c.swp + dd c a b (i + 2) (j + 2) else if c.swp + dd c a b (i + 2) (j + 2) < B then c.swp + dd c a b (i + 2) (j + 2) else B) else B:=fun _ => rfl
  have u4 : ∀ B,upd c a b B 4 i j = if okB a b 4 i j = true then (if B < 0 then c.del + dd c a b (i + 1) j else if c.del + dd c a b (i + 1) j < B then c.del + dd c a b (i + 1) j else B) else B:=fun _ => rfl
  have u5 : ∀ B,upd c a b B 5 i j = if okB a b 5 i j = true then (if B < 0 then c.ins + dd c a b i (j + 1) else if c.ins + dd c a b i (j + 1) < B then c.ins + dd c a b i (j + 1) else B) else B:=fun _ => rfl
  rw [u1,u2,u3,u4,u5,o1,o2,o3,o4,o5]
  clear u1 u2 u3 u4 u5 o1 o2 o3 o4 o5
  have:=hc.i1;have:=hc.d1;have:=hc.c1;have:=hc.s1
  by_cases h1 : i < a.size
  · by_cases h2 : j < b.size
    · have s:=xy c a b i j h1 h2
      have d1:=jO hc a b ha hb (i + 1) (j + 1)
      have d2:=jO hc a b ha hb (i + 2) (j + 2)
      have d3:=jO hc a b ha hb (i + 1) j
      have d4:=jO hc a b ha hb i (j + 1)
      have n0 : ¬ (i = a.size ∧ j = b.size):=by omega
      unfold Lb.one at s
      simp only [h1,h2,true_and,if_neg n0,decide_true,if_true]
      generalize dd c a b (i + 1) (j + 1) = e1 at *
      generalize dd c a b (i + 2) (j + 2) = e2 at *
      generalize dd c a b (i + 1) j = e3 at *
      generalize dd c a b i (j + 1) = e4 at *
      rw [s]
      clear s n0 h1 h2
      by_cases hx : bt a i = bt b j
      · cases sw a b i j <;> simp [hx] <;> omega
      · cases sw a b i j <;> simp [hx] <;> omega
    · have e2 : j = b.size:=by omega
      subst e2
      have s:=yU c a b i h1
      have n0 : ¬ (i = a.size):=by omega
      have n3 : sw a b i b.size = false:=by
        cases hs : sw a b i b.size with
        | false => rfl
        | true => have:=xA hs;omega
      simp [n0,n3,h1]
      rw [s];omega
  · have e1 : i = a.size:=by omega
    subst e1
    have n3 : sw a b a.size j = false:=by
      cases hs : sw a b a.size j with
      | false => rfl
      | true => have:=xA hs;omega
    by_cases h2 : j < b.size
    · have s:=Qe c a b j h2
      have n0 : ¬ (j = b.size):=by omega
      simp [n0,n3,h2]
      rw [s];omega
    · have e2 : j = b.size:=by omega
      subst e2
      rw [JD c a b]
      simp [n3]
theorem JU (hc : c.Ok) (ha : a.size ≤ 60) (hb : b.size ≤ 60) {G : List (List Int)} {i j : Nat} (g : GR c a b G i j) (hi : i ≤ a.size) (hj : j ≤ b.size) (k : Nat) :
    qj.l1 (k + 9) a b G i j c.ins c.del c.chg c.swp = qj.l1 k a b (G.set i ((qW G i).set j (dd c a b i j))) i ((j : Int) - 1) c.ins c.del c.chg c.swp:=by
  have tail : ∀ B : Int,qj.l2 (k + 6) a b G i j B 1 c.ins c.del c.chg c.swp = qj.l1 k a b (G.set i ((qW G i).set j (upd c a b (upd c a b (upd c a b (upd c a b (upd c a b B 1 i j) 2 i j) 3 i j) 4 i j) 5 i j))) i ((j : Int) - 1) c.ins c.del c.chg c.swp:=by
    intro B
    have z1 : (0 : Int) ≤ (i : Int):=by omega
    have z2 : (i : Int) < (G.length : Int):=by have:=g.len;omega
    have z3 : (0 : Int) ≤ (j : Int):=by omega
    have z4 : (j : Int) < ((qW G i).length : Int):=by have:=g.row;omega
    rw [kL hc ha hb g hi hj (k + 4) _ 1 (by omega) (by omega),kL hc ha hb g hi hj (k + 3) _ (1 + 1) (by omega) (by omega),kL hc ha hb g hi hj (k + 2) _ (1 + 1 + 1) (by omega) (by omega),
      kL hc ha hb g hi hj (k + 1) _ (1 + 1 + 1 + 1) (by omega) (by omega),kL hc ha hb g hi hj k _ (1 + 1 + 1 + 1 + 1) (by omega) (by omega),
      qj.l2,if_neg (by omega),if_pos z1,if_pos z2,if_pos z3,if_pos z4,w64 (x:=(j : Int) - 1) (by omega) (by omega)]
    rfl
  rw [← X0 hc ha hb hi hj,qj.l1,if_pos (by omega)]
  by_cases h1 : i = a.size
  · rw [if_pos (by omega),qj.j2]
    by_cases h2 : j = b.size
    · rw [if_pos (by rw [beq_iff_eq];omega),qj.j3,tail,if_pos ⟨h1,h2⟩]
    · rw [if_neg (by rw [beq_iff_eq];omega),qj.j3,tail,if_neg (by omega)]
  · rw [if_neg (by omega),qj.j2,if_neg (by simp),qj.j3,tail,if_neg (by omega)]
theorem kX (G : List (List Int)) (i r : Nat) (v : List Int) (h : i < G.length) : qW (G.set i v) (r : Int) = if r = i then v else qW G r:=by
  unfold qW
  rw [show ((r : Nat) : Int).toNat = r by omega,List.getD_eq_getElem?_getD,List.getD_eq_getElem?_getD,List.getElem?_set]
  by_cases e : r = i
  · subst e;simp [h]
  · rw [if_neg (fun x => e x.symm),if_neg e]
theorem X3 (l : List Int) (i r : Nat) (v : Int) (h : i < l.length) : rd (l.set i v) (r : Int) = if r = i then v else rd l r:=by
  unfold rd
  rw [show ((r : Nat) : Int).toNat = r by omega,List.getD_eq_getElem?_getD,List.getD_eq_getElem?_getD,List.getElem?_set]
  by_cases e : r = i
  · subst e;simp [h]
  · rw [if_neg (fun x => e x.symm),if_neg e]
theorem GR.put {G : List (List Int)} {i j : Nat} (g : GR c a b G i j) (hi : i ≤ a.size) (hj : j ≤ b.size) : GR c a b (G.set i ((qW G i).set j (dd c a b i j))) i ((j : Int) - 1):=by
  have hl : i < G.length:=by have:=g.len;omega
  have hr : j < (qW G i).length:=by have:=g.row;omega
  refine ⟨by rw [List.length_set];exact g.len,?_,?_,?_⟩
  · intro r h1 h2
    rw [kX _ _ _ _ hl,if_neg (by omega)]
    exact g.rows r h1 h2
  · rw [kX _ _ _ _ hl,if_pos rfl,List.length_set];exact g.row
  · intro q h1 h2
    rw [kX _ _ _ _ hl,if_pos rfl,X3 _ _ _ _ hr]
    by_cases e : q = j
    · rw [if_pos e,e]
    · rw [if_neg e];exact g.cells q (by omega) h2
theorem XY (hc : c.Ok) (ha : a.size ≤ 60) (hb : b.size ≤ 60) {i : Nat} (hi : i ≤ a.size) : ∀ (j : Nat) (k : Nat) (G : List (List Int)),j ≤ b.size → GR c a b G i j →
    ∃ G',qj.l1 (k + 9 * (j + 1)) a b G i j c.ins c.del c.chg c.swp = qj.l1 k a b G' i (-1) c.ins c.del c.chg c.swp ∧ GR c a b G' i (-1):=by
  intro j
  induction j with
  | zero =>
    intro k G hj g
    exact ⟨_,JU hc ha hb g hi hj k,g.put hi hj⟩
  | succ j ih =>
    intro k G hj g
    have s:=JU hc ha hb g hi hj (k + 9 * (j + 1))
    have p:=g.put hi hj
    have e : ((j + 1 : Nat) : Int) - 1 = (j : Int):=by omega
    rw [e] at s p
    obtain ⟨G',h1,h2⟩:=ih k _ (by omega) p
    exact ⟨G',by rw [show k + 9 * (j + 1 + 1) = k + 9 * (j + 1) + 9 by omega,s,h1],h2⟩
variable (c a b) in
structure GA (G : List (List Int)) (i : Int) : Prop where
  len : G.length = a.size + 1
  rows : ∀ r : Nat,i < r → r ≤ a.size → (qW G r).length = b.size + 1 ∧ ∀ q : Nat,q ≤ b.size → rd (qW G r) q = dd c a b r q
theorem J9 (hc : c.Ok) (ha : a.size ≤ 60) (hb : b.size ≤ 60) {G : List (List Int)} {i : Nat} (g : GA c a b G i) (hi : i ≤ a.size) (k : Nat) :
    ∃ G',qj.l0 (k + (9 * (b.size + 1) + 2)) a b G i c.ins c.del c.chg c.swp = qj.l0 k a b G' ((i : Int) - 1) c.ins c.del c.chg c.swp ∧ GA c a b G' ((i : Int) - 1):=by
  have hl : i < G.length:=by have:=g.len;omega
  have z1 : (0 : Int) ≤ ((b.size + 1 : Nat) : Int):=by omega
  have z2 : (((b.size + 1 : Nat) : Int)).toNat ≤ 35184372088832:=by omega
  have z3 : (0 : Int) ≤ (i : Int):=by omega
  have z4 : (i : Int) < (G.length : Int):=by omega
  have z5 : ((i : Nat) : Int).toNat = i:=by omega
  have z6 : ((b.size + 1 : Nat) : Int).toNat = b.size + 1:=by omega
  have z7 : (b.size : Int) + 1 = ((b.size + 1 : Nat) : Int):=by omega
  have g' : GR c a b (G.set i (List.replicate (b.size + 1) 0)) i b.size:=by
    refine ⟨by rw [List.length_set];exact g.len,?_,?_,?_⟩
    · intro r h1 h2
      rw [kX _ _ _ _ hl,if_neg (by omega)]
      exact g.rows r (by omega) h2
    · rw [kX _ _ _ _ hl,if_pos rfl,List.length_replicate]
    · intro q h1 h2;omega
  obtain ⟨G',h1,h2⟩:=XY hc ha hb hi b.size (k + 1) _ (Nat.le_refl _) g'
  refine ⟨G',?_,h2.len,?_⟩
  · rw [show k + (9 * (b.size + 1) + 2) = (k + 1 + 9 * (b.size + 1)) + 1 by omega,qj.l0,if_pos (by omega),w64 (x:=(b.size : Int) + 1) (by omega) (by omega),z7,if_pos z1,if_pos z2,if_pos z3,if_pos z4,z5,z6,h1,
      qj.l1,if_neg (by omega),w64 (x:=(i : Int) - 1) (by omega) (by omega)]
  · intro r h3 h4
    by_cases e : r = i
    · subst e
      exact ⟨h2.row,fun q hq => h2.cells q (by omega) hq⟩
    · exact h2.rows r (by omega) h4
theorem XZ (hc : c.Ok) (ha : a.size ≤ 60) (hb : b.size ≤ 60) : ∀ (i : Nat) (k : Nat) (G : List (List Int)),i ≤ a.size → GA c a b G i →
    ∃ G',qj.l0 (k + 1 + (9 * (b.size + 1) + 2) * (i + 1)) a b G i c.ins c.del c.chg c.swp = some G' ∧ GA c a b G' (-1):=by
  intro i
  induction i with
  | zero =>
    intro k G hi g
    obtain ⟨G',h1,h2⟩:=J9 hc ha hb g hi (k + 1)
    refine ⟨G',?_,h2⟩
    rw [show k + 1 + (9 * (b.size + 1) + 2) * (0 + 1) = k + 1 + (9 * (b.size + 1) + 2) by omega,h1,qj.l0,if_neg (by omega)]
  | succ i ih =>
    intro k G hi g
    obtain ⟨G',h1,h2⟩:=J9 hc ha hb g hi (k + 1 + (9 * (b.size + 1) + 2) * (i + 1))
    have e : ((i + 1 : Nat) : Int) - 1 = (i : Int):=by omega
    rw [e] at h1 h2
    obtain ⟨G'',h3,h4⟩:=ih k G' (by omega) h2
    refine ⟨G'',?_,h4⟩
    rw [show k + 1 + (9 * (b.size + 1) + 2) * (i + 1 + 1) = k + 1 + (9 * (b.size + 1) + 2) * (i + 1) + (9 * (b.size + 1) + 2) by rw [Nat.mul_add (9 * (b.size + 1) + 2) (i + 1) 1];omega,h1,h3]
theorem XW (hc : c.Ok) (ha : a.size ≤ 60) (hb : b.size ≤ 60) (k : Nat) :
    ∃ G,qj.f (k + 1 + (9 * (b.size + 1) + 2) * (a.size + 1)) a b c.ins c.del c.chg c.swp = some G ∧ GA c a b G (-1):=by
  have g : GA c a b (List.replicate (a.size + 1) []) a.size:=⟨List.length_replicate,fun r h1 h2 => by omega⟩
  obtain ⟨G,h1,h2⟩:=XZ hc ha hb a.size k _ (Nat.le_refl _) g
  refine ⟨G,?_,h2⟩
  have z1 : (0 : Int) ≤ ((a.size + 1 : Nat) : Int):=by omega
  have z2 : (((a.size + 1 : Nat) : Int)).toNat ≤ 11728124029610:=by omega
  have z6 : ((a.size + 1 : Nat) : Int).toNat = a.size + 1:=by omega
  have z7 : (a.size : Int) + 1 = ((a.size + 1 : Nat) : Int):=by omega
  unfold qj.f
  rw [w64 (x:=(a.size : Int) + 1) (by omega) (by omega),z7,if_pos z1,if_pos z2,z6]
  exact h1
end
end Go.Proofs.Ytdefecnngccmoaa.Ed
namespace Go.Proofs.Ytdefecnngccmoaa.QTells
open Go.RowKit Go.Proofs.YtdefecnngccmoaaW.PrintWords Go.Proofs.YtdefecnngccmoaaW.PrintLast Go.Proofs.YtdefecnngccmoaaW.PrintMore
attribute [local go_sem] jX jV zk zi jM jN jU jY
set_option linter.unusedVariables false
set_option linter.unusedSimpArgs false
def q9.f (a0_0 : Int) (a0_1 : Int) (a0_2 : Int) (a0_3 : Int) : Option (Bool):=if a0_0 ≥ 1 then (if a0_0 ≤ 1000 then (if a0_1 ≥ 1 then (if a0_1 ≤ 1000 then (if a0_2 ≥ 1 then (if a0_2 ≤ 1000 then (if a0_3 ≥ 1 then (some (decide (a0_3 ≤ 1000))) else (some false)) else (some false)) else (some false)) else (some false)) else (some false)) else (some false)) else (some false)
set_option maxHeartbeats 8000000 in
set_option maxRecDepth 100000 in
theorem q9.calls (a0_0 : Int) (a0_1 : Int) (a0_2 : Int) (a0_3 : Int) (r : Bool) (w : World) (h : q9.f a0_0 a0_1 a0_2 a0_3 = some r) :
  Calls Try.prog 24 #[.agg #[.int .i64 a0_0,.int .i64 a0_1,.int .i64 a0_2,.int .i64 a0_3]] w fun e w' => e = .returned (.bool r) ∧ Below w.heap.size w w':=by
 have hu51:=Try.underlying51
 have HB:=qd.mk (Below.refl w.heap.size w)
 have H : (if a0_0 ≥ 1 then (if a0_0 ≤ 1000 then (if a0_1 ≥ 1 then (if a0_1 ≤ 1000 then (if a0_2 ≥ 1 then (if a0_2 ≤ 1000 then (if a0_3 ≥ 1 then (some (decide (a0_3 ≤ 1000))) else (some false)) else (some false)) else (some false)) else (some false)) else (some false)) else (some false)) else (some false)) = some r:=h
 clear h
 by_cases c2 : a0_0 ≥ 1
 ·rw [if_pos c2] at H
  have c2b0 : decide (1 ≤ a0_0) = true:=decide_eq_true c2
  clear c2
  by_cases c3 : a0_0 ≤ 1000
  ·rw [if_pos c3] at H
   have c3b0 : decide (a0_0 ≤ 1000) = true:=decide_eq_true c3
   clear c3
   by_cases c4 : a0_1 ≥ 1
   ·rw [if_pos c4] at H
    have c4b0 : decide (1 ≤ a0_1) = true:=decide_eq_true c4
    clear c4
    by_cases c5 : a0_1 ≤ 1000
    ·rw [if_pos c5] at H
     have c5b0 : decide (a0_1 ≤ 1000) = true:=decide_eq_true c5
     clear c5
     by_cases c6 : a0_2 ≥ 1
     ·rw [if_pos c6] at H
      have c6b0 : decide (1 ≤ a0_2) = true:=decide_eq_true c6
      clear c6
      by_cases c7 : a0_2 ≤ 1000
      ·rw [if_pos c7] at H
       have c7b0 : decide (a0_2 ≤ 1000) = true:=decide_eq_true c7
       clear c7
       by_cases c8 : a0_3 ≥ 1
       ·rw [if_pos c8] at H
        have c8b0 : decide (1 ≤ a0_3) = true:=decide_eq_true c8
        clear c8
        obtain rfl:=Option.some.inj H
        go_enter Try.func24,Try.ntmps24
        go_wp2_with (first|((with_reducible refine ji (N:=1) rfl ?_);refine jg ?hg (N:=1) ?hd (cs:=#[.int .i64 a0_0,.int .i64 a0_1,.int .i64 a0_2,.int .i64 a0_3]) (t:=51) ?hr ?_;(case hd => rfl);(case hg => rfl);(case hr => first|(go_simp;done)|(go_simp;rfl));intro gb126 hg w9 hbox hb;have n0_:=qd.mk (qI (by repeat (first|(with_reducible first|exact HB.out|apply qg|apply qc|apply qf)|exact HB.out)) hb);have n1_:=qd.mk (hbox);have n2_:=qd.mk ((by rw [hg];exact (qH (by repeat (first|(with_reducible first|exact HB.out|apply qg|apply qc|apply qf)|exact HB.out))) : w.heap.size ≤ gb126));have n3_:=qd.mk ((by rw [hg];exact (qH (by repeat (first|(with_reducible first|exact HB.out|apply qg|apply qc|apply qf)|exact HB.out))) : w.heap.size ≤ gb126));clear HB;have HB:=n0_;have BK126:=n1_;have GW126:=n2_;have GE126:=n3_;clear n0_ n1_ n2_ n3_;clear hb hbox hg;have hcz10_0 : w9.cell? ⟨gb126,0,none⟩ = some (.int .i64 a0_0):=(qi BK126.out 0).trans rfl;have hcz10_1 : w9.cell? ⟨gb126,1,none⟩ = some (.int .i64 a0_1):=(qi BK126.out 1).trans rfl;have hcz10_2 : w9.cell? ⟨gb126,2,none⟩ = some (.int .i64 a0_2):=(qi BK126.out 2).trans rfl;have hcz10_3 : w9.cell? ⟨gb126,3,none⟩ = some (.int .i64 a0_3):=(qi BK126.out 3).trans rfl;have hfz10_0:=ql BK126.out 0;have hfz10_1:=ql BK126.out 1;have hfz10_2:=ql BK126.out 2;have hfz10_3:=ql BK126.out 3))
        go_ret
        exact ⟨by first|rfl|(simp [qQ,qP] <;> rfl)|(simp [*,qQ,qP] <;> rfl),by repeat (first|(with_reducible first|exact HB.out|apply qg|apply qc|apply qf|refine qp ?_ GE126.out)|exact HB.out)⟩
       ·rw [if_neg c8] at H
        have c8b0 : decide (1 ≤ a0_3) = false:=decide_eq_false c8
        clear c8
        obtain rfl:=Option.some.inj H
        go_enter Try.func24,Try.ntmps24
        go_wp2_with (first|((with_reducible refine ji (N:=1) rfl ?_);refine jg ?hg (N:=1) ?hd (cs:=#[.int .i64 a0_0,.int .i64 a0_1,.int .i64 a0_2,.int .i64 a0_3]) (t:=51) ?hr ?_;(case hd => rfl);(case hg => rfl);(case hr => first|(go_simp;done)|(go_simp;rfl));intro gb126 hg w11 hbox hb;have n0_:=qd.mk (qI (by repeat (first|(with_reducible first|exact HB.out|apply qg|apply qc|apply qf)|exact HB.out)) hb);have n1_:=qd.mk (hbox);have n2_:=qd.mk ((by rw [hg];exact (qH (by repeat (first|(with_reducible first|exact HB.out|apply qg|apply qc|apply qf)|exact HB.out))) : w.heap.size ≤ gb126));have n3_:=qd.mk ((by rw [hg];exact (qH (by repeat (first|(with_reducible first|exact HB.out|apply qg|apply qc|apply qf)|exact HB.out))) : w.heap.size ≤ gb126));clear HB;have HB:=n0_;have BK126:=n1_;have GW126:=n2_;have GE126:=n3_;clear n0_ n1_ n2_ n3_;clear hb hbox hg;have hcz12_0 : w11.cell? ⟨gb126,0,none⟩ = some (.int .i64 a0_0):=(qi BK126.out 0).trans rfl;have hcz12_1 : w11.cell? ⟨gb126,1,none⟩ = some (.int .i64 a0_1):=(qi BK126.out 1).trans rfl;have hcz12_2 : w11.cell? ⟨gb126,2,none⟩ = some (.int .i64 a0_2):=(qi BK126.out 2).trans rfl;have hcz12_3 : w11.cell? ⟨gb126,3,none⟩ = some (.int .i64 a0_3):=(qi BK126.out 3).trans rfl;have hfz12_0:=ql BK126.out 0;have hfz12_1:=ql BK126.out 1;have hfz12_2:=ql BK126.out 2;have hfz12_3:=ql BK126.out 3))
        go_ret
        exact ⟨by first|rfl|(simp [qQ,qP] <;> rfl)|(simp [*,qQ,qP] <;> rfl),by repeat (first|(with_reducible first|exact HB.out|apply qg|apply qc|apply qf|refine qp ?_ GE126.out)|exact HB.out)⟩
      ·rw [if_neg c7] at H
       have c7b0 : decide (a0_2 ≤ 1000) = false:=decide_eq_false c7
       clear c7
       obtain rfl:=Option.some.inj H
       go_enter Try.func24,Try.ntmps24
       go_wp2_with (first|((with_reducible refine ji (N:=1) rfl ?_);refine jg ?hg (N:=1) ?hd (cs:=#[.int .i64 a0_0,.int .i64 a0_1,.int .i64 a0_2,.int .i64 a0_3]) (t:=51) ?hr ?_;(case hd => rfl);(case hg => rfl);(case hr => first|(go_simp;done)|(go_simp;rfl));intro gb126 hg w13 hbox hb;have n0_:=qd.mk (qI (by repeat (first|(with_reducible first|exact HB.out|apply qg|apply qc|apply qf)|exact HB.out)) hb);have n1_:=qd.mk (hbox);have n2_:=qd.mk ((by rw [hg];exact (qH (by repeat (first|(with_reducible first|exact HB.out|apply qg|apply qc|apply qf)|exact HB.out))) : w.heap.size ≤ gb126));have n3_:=qd.mk ((by rw [hg];exact (qH (by repeat (first|(with_reducible first|exact HB.out|apply qg|apply qc|apply qf)|exact HB.out))) : w.heap.size ≤ gb126));clear HB;have HB:=n0_;have BK126:=n1_;have GW126:=n2_;have GE126:=n3_;clear n0_ n1_ n2_ n3_;clear hb hbox hg;have hcz14_0 : w13.cell? ⟨gb126,0,none⟩ = some (.int .i64 a0_0):=(qi BK126.out 0).trans rfl;have hcz14_1 : w13.cell? ⟨gb126,1,none⟩ = some (.int .i64 a0_1):=(qi BK126.out 1).trans rfl;have hcz14_2 : w13.cell? ⟨gb126,2,none⟩ = some (.int .i64 a0_2):=(qi BK126.out 2).trans rfl;have hcz14_3 : w13.cell? ⟨gb126,3,none⟩ = some (.int .i64 a0_3):=(qi BK126.out 3).trans rfl;have hfz14_0:=ql BK126.out 0;have hfz14_1:=ql BK126.out 1;have hfz14_2:=ql BK126.out 2;have hfz14_3:=ql BK126.out 3))
       go_ret
       exact ⟨by first|rfl|(simp [qQ,qP] <;> rfl)|(simp [*,qQ,qP] <;> rfl),by repeat (first|(with_reducible first|exact HB.out|apply qg|apply qc|apply qf|refine qp ?_ GE126.out)|exact HB.out)⟩
     ·rw [if_neg c6] at H
      have c6b0 : decide (1 ≤ a0_2) = false:=decide_eq_false c6
      clear c6
      obtain rfl:=Option.some.inj H
      go_enter Try.func24,Try.ntmps24
      go_wp2_with (first|((with_reducible refine ji (N:=1) rfl ?_);refine jg ?hg (N:=1) ?hd (cs:=#[.int .i64 a0_0,.int .i64 a0_1,.int .i64 a0_2,.int .i64 a0_3]) (t:=51) ?hr ?_;(case hd => rfl);(case hg => rfl);(case hr => first|(go_simp;done)|(go_simp;rfl));intro gb126 hg w15 hbox hb;have n0_:=qd.mk (qI (by repeat (first|(with_reducible first|exact HB.out|apply qg|apply qc|apply qf)|exact HB.out)) hb);have n1_:=qd.mk (hbox);have n2_:=qd.mk ((by rw [hg];exact (qH (by repeat (first|(with_reducible first|exact HB.out|apply qg|apply qc|apply qf)|exact HB.out))) : w.heap.size ≤ gb126));have n3_:=qd.mk ((by rw [hg];exact (qH (by repeat (first|(with_reducible first|exact HB.out|apply qg|apply qc|apply qf)|exact HB.out))) : w.heap.size ≤ gb126));clear HB;have HB:=n0_;have BK126:=n1_;have GW126:=n2_;have GE126:=n3_;clear n0_ n1_ n2_ n3_;clear hb hbox hg;have hcz16_0 : w15.cell? ⟨gb126,0,none⟩ = some (.int .i64 a0_0):=(qi BK126.out 0).trans rfl;have hcz16_1 : w15.cell? ⟨gb126,1,none⟩ = some (.int .i64 a0_1):=(qi BK126.out 1).trans rfl;have hcz16_2 : w15.cell? ⟨gb126,2,none⟩ = some (.int .i64 a0_2):=(qi BK126.out 2).trans rfl;have hcz16_3 : w15.cell? ⟨gb126,3,none⟩ = some (.int .i64 a0_3):=(qi BK126.out 3).trans rfl;have hfz16_0:=ql BK126.out 0;have hfz16_1:=ql BK126.out 1;have hfz16_2:=ql BK126.out 2;have hfz16_3:=ql BK126.out 3))
      go_ret
      exact ⟨by first|rfl|(simp [qQ,qP] <;> rfl)|(simp [*,qQ,qP] <;> rfl),by repeat (first|(with_reducible first|exact HB.out|apply qg|apply qc|apply qf|refine qp ?_ GE126.out)|exact HB.out)⟩
    ·rw [if_neg c5] at H
     have c5b0 : decide (a0_1 ≤ 1000) = false:=decide_eq_false c5
     clear c5
     obtain rfl:=Option.some.inj H
     go_enter Try.func24,Try.ntmps24
     go_wp2_with (first|((with_reducible refine ji (N:=1) rfl ?_);refine jg ?hg (N:=1) ?hd (cs:=#[.int .i64 a0_0,.int .i64 a0_1,.int .i64 a0_2,.int .i64 a0_3]) (t:=51) ?hr ?_;(case hd => rfl);(case hg => rfl);(case hr => first|(go_simp;done)|(go_simp;rfl));intro gb126 hg w17 hbox hb;have n0_:=qd.mk (qI (by repeat (first|(with_reducible first|exact HB.out|apply qg|apply qc|apply qf)|exact HB.out)) hb);have n1_:=qd.mk (hbox);have n2_:=qd.mk ((by rw [hg];exact (qH (by repeat (first|(with_reducible first|exact HB.out|apply qg|apply qc|apply qf)|exact HB.out))) : w.heap.size ≤ gb126));have n3_:=qd.mk ((by rw [hg];exact (qH (by repeat (first|(with_reducible first|exact HB.out|apply qg|apply qc|apply qf)|exact HB.out))) : w.heap.size ≤ gb126));clear HB;have HB:=n0_;have BK126:=n1_;have GW126:=n2_;have GE126:=n3_;clear n0_ n1_ n2_ n3_;clear hb hbox hg;have hcz18_0 : w17.cell? ⟨gb126,0,none⟩ = some (.int .i64 a0_0):=(qi BK126.out 0).trans rfl;have hcz18_1 : w17.cell? ⟨gb126,1,none⟩ = some (.int .i64 a0_1):=(qi BK126.out 1).trans rfl;have hcz18_2 : w17.cell? ⟨gb126,2,none⟩ = some (.int .i64 a0_2):=(qi BK126.out 2).trans rfl;have hcz18_3 : w17.cell? ⟨gb126,3,none⟩ = some (.int .i64 a0_3):=(qi BK126.out 3).trans rfl;have hfz18_0:=ql BK126.out 0;have hfz18_1:=ql BK126.out 1;have hfz18_2:=ql BK126.out 2;have hfz18_3:=ql BK126.out 3))
     go_ret
     exact ⟨by first|rfl|(simp [qQ,qP] <;> rfl)|(simp [*,qQ,qP] <;> rfl),by repeat (first|(with_reducible first|exact HB.out|apply qg|apply qc|apply qf|refine qp ?_ GE126.out)|exact HB.out)⟩
   ·rw [if_neg c4] at H
    have c4b0 : decide (1 ≤ a0_1) = false:=decide_eq_false c4
    clear c4
    obtain rfl:=Option.some.inj H
    go_enter Try.func24,Try.ntmps24
    go_wp2_with (first|((with_reducible refine ji (N:=1) rfl ?_);refine jg ?hg (N:=1) ?hd (cs:=#[.int .i64 a0_0,.int .i64 a0_1,.int .i64 a0_2,.int .i64 a0_3]) (t:=51) ?hr ?_;(case hd => rfl);(case hg => rfl);(case hr => first|(go_simp;done)|(go_simp;rfl));intro gb126 hg w19 hbox hb;have n0_:=qd.mk (qI (by repeat (first|(with_reducible first|exact HB.out|apply qg|apply qc|apply qf)|exact HB.out)) hb);have n1_:=qd.mk (hbox);have n2_:=qd.mk ((by rw [hg];exact (qH (by repeat (first|(with_reducible first|exact HB.out|apply qg|apply qc|apply qf)|exact HB.out))) : w.heap.size ≤ gb126));have n3_:=qd.mk ((by rw [hg];exact (qH (by repeat (first|(with_reducible first|exact HB.out|apply qg|apply qc|apply qf)|exact HB.out))) : w.heap.size ≤ gb126));clear HB;have HB:=n0_;have BK126:=n1_;have GW126:=n2_;have GE126:=n3_;clear n0_ n1_ n2_ n3_;clear hb hbox hg;have hcz20_0 : w19.cell? ⟨gb126,0,none⟩ = some (.int .i64 a0_0):=(qi BK126.out 0).trans rfl;have hcz20_1 : w19.cell? ⟨gb126,1,none⟩ = some (.int .i64 a0_1):=(qi BK126.out 1).trans rfl;have hcz20_2 : w19.cell? ⟨gb126,2,none⟩ = some (.int .i64 a0_2):=(qi BK126.out 2).trans rfl;have hcz20_3 : w19.cell? ⟨gb126,3,none⟩ = some (.int .i64 a0_3):=(qi BK126.out 3).trans rfl;have hfz20_0:=ql BK126.out 0;have hfz20_1:=ql BK126.out 1;have hfz20_2:=ql BK126.out 2;have hfz20_3:=ql BK126.out 3))
    go_ret
    exact ⟨by first|rfl|(simp [qQ,qP] <;> rfl)|(simp [*,qQ,qP] <;> rfl),by repeat (first|(with_reducible first|exact HB.out|apply qg|apply qc|apply qf|refine qp ?_ GE126.out)|exact HB.out)⟩
  ·rw [if_neg c3] at H
   have c3b0 : decide (a0_0 ≤ 1000) = false:=decide_eq_false c3
   clear c3
   obtain rfl:=Option.some.inj H
   go_enter Try.func24,Try.ntmps24
   go_wp2_with (first|((with_reducible refine ji (N:=1) rfl ?_);refine jg ?hg (N:=1) ?hd (cs:=#[.int .i64 a0_0,.int .i64 a0_1,.int .i64 a0_2,.int .i64 a0_3]) (t:=51) ?hr ?_;(case hd => rfl);(case hg => rfl);(case hr => first|(go_simp;done)|(go_simp;rfl));intro gb126 hg w21 hbox hb;have n0_:=qd.mk (qI (by repeat (first|(with_reducible first|exact HB.out|apply qg|apply qc|apply qf)|exact HB.out)) hb);have n1_:=qd.mk (hbox);have n2_:=qd.mk ((by rw [hg];exact (qH (by repeat (first|(with_reducible first|exact HB.out|apply qg|apply qc|apply qf)|exact HB.out))) : w.heap.size ≤ gb126));have n3_:=qd.mk ((by rw [hg];exact (qH (by repeat (first|(with_reducible first|exact HB.out|apply qg|apply qc|apply qf)|exact HB.out))) : w.heap.size ≤ gb126));clear HB;have HB:=n0_;have BK126:=n1_;have GW126:=n2_;have GE126:=n3_;clear n0_ n1_ n2_ n3_;clear hb hbox hg;have hcz22_0 : w21.cell? ⟨gb126,0,none⟩ = some (.int .i64 a0_0):=(qi BK126.out 0).trans rfl;have hcz22_1 : w21.cell? ⟨gb126,1,none⟩ = some (.int .i64 a0_1):=(qi BK126.out 1).trans rfl;have hcz22_2 : w21.cell? ⟨gb126,2,none⟩ = some (.int .i64 a0_2):=(qi BK126.out 2).trans rfl;have hcz22_3 : w21.cell? ⟨gb126,3,none⟩ = some (.int .i64 a0_3):=(qi BK126.out 3).trans rfl;have hfz22_0:=ql BK126.out 0;have hfz22_1:=ql BK126.out 1;have hfz22_2:=ql BK126.out 2;have hfz22_3:=ql BK126.out 3))
   go_ret
   exact ⟨by first|rfl|(simp [qQ,qP] <;> rfl)|(simp [*,qQ,qP] <;> rfl),by repeat (first|(with_reducible first|exact HB.out|apply qg|apply qc|apply qf|refine qp ?_ GE126.out)|exact HB.out)⟩
 ·rw [if_neg c2] at H
  have c2b0 : decide (1 ≤ a0_0) = false:=decide_eq_false c2
  clear c2
  obtain rfl:=Option.some.inj H
  go_enter Try.func24,Try.ntmps24
  go_wp2_with (first|((with_reducible refine ji (N:=1) rfl ?_);refine jg ?hg (N:=1) ?hd (cs:=#[.int .i64 a0_0,.int .i64 a0_1,.int .i64 a0_2,.int .i64 a0_3]) (t:=51) ?hr ?_;(case hd => rfl);(case hg => rfl);(case hr => first|(go_simp;done)|(go_simp;rfl));intro gb126 hg w23 hbox hb;have n0_:=qd.mk (qI (by repeat (first|(with_reducible first|exact HB.out|apply qg|apply qc|apply qf)|exact HB.out)) hb);have n1_:=qd.mk (hbox);have n2_:=qd.mk ((by rw [hg];exact (qH (by repeat (first|(with_reducible first|exact HB.out|apply qg|apply qc|apply qf)|exact HB.out))) : w.heap.size ≤ gb126));have n3_:=qd.mk ((by rw [hg];exact (qH (by repeat (first|(with_reducible first|exact HB.out|apply qg|apply qc|apply qf)|exact HB.out))) : w.heap.size ≤ gb126));clear HB;have HB:=n0_;have BK126:=n1_;have GW126:=n2_;have GE126:=n3_;clear n0_ n1_ n2_ n3_;clear hb hbox hg;have hcz24_0 : w23.cell? ⟨gb126,0,none⟩ = some (.int .i64 a0_0):=(qi BK126.out 0).trans rfl;have hcz24_1 : w23.cell? ⟨gb126,1,none⟩ = some (.int .i64 a0_1):=(qi BK126.out 1).trans rfl;have hcz24_2 : w23.cell? ⟨gb126,2,none⟩ = some (.int .i64 a0_2):=(qi BK126.out 2).trans rfl;have hcz24_3 : w23.cell? ⟨gb126,3,none⟩ = some (.int .i64 a0_3):=(qi BK126.out 3).trans rfl;have hfz24_0:=ql BK126.out 0;have hfz24_1:=ql BK126.out 1;have hfz24_2:=ql BK126.out 2;have hfz24_3:=ql BK126.out 3))
  go_ret
  exact ⟨by first|rfl|(simp [qQ,qP] <;> rfl)|(simp [*,qQ,qP] <;> rfl),by repeat (first|(with_reducible first|exact HB.out|apply qg|apply qc|apply qf|refine qp ?_ GE126.out)|exact HB.out)⟩
end Go.Proofs.Ytdefecnngccmoaa.QTells
namespace Go.Proofs.Ytdefecnngccmoaa.QTells
open Go.RowKit Go.Proofs.YtdefecnngccmoaaW.PrintWords Go.Proofs.YtdefecnngccmoaaW.PrintLast Go.Proofs.YtdefecnngccmoaaW.PrintMore
attribute [local go_sem] jX jV zk zi jM jN jU jY
set_option linter.unusedVariables false
set_option linter.unusedSimpArgs false
def jv.f (a0 : ByteArray) (a1 : ByteArray) (a2_0 : Int) (a2_1 : Int) (a2_2 : Int) (a2_3 : Int) : Option (Int):=(q9.f a2_0 a2_1 a2_2 a2_3).bind fun t128 => (if t128 = true then (if (a0.size : Int) > 60 then (some 3) else (if (a1.size : Int) > 60 then (some 3) else (some 0))) else (some 2))
set_option maxHeartbeats 8000000 in
set_option maxRecDepth 100000 in
theorem jv.calls (a0 : ByteArray) (a1 : ByteArray) (a2_0 : Int) (a2_1 : Int) (a2_2 : Int) (a2_3 : Int) (r : Int) (w : World) (h : jv.f a0 a1 a2_0 a2_1 a2_2 a2_3 = some r) :
  Calls Try.prog 32 #[.string a0,.string a1,.agg #[.int .i64 a2_0,.int .i64 a2_1,.int .i64 a2_2,.int .i64 a2_3]] w fun e w' => e = .returned (.int .i64 r) ∧ Below w.heap.size w w':=by
 have hu51:=Try.underlying51
 have HB:=qd.mk (Below.refl w.heap.size w)
 have H : ((q9.f a2_0 a2_1 a2_2 a2_3).bind fun t128 => (if t128 = true then (if (a0.size : Int) > 60 then (some 3) else (if (a1.size : Int) > 60 then (some 3) else (some 0))) else (some 2))) = some r:=h
 clear h
 replace H:=Option.bind_eq_some_iff.mp H
 obtain ⟨t128,A40,H⟩:=H
 replace H : (if t128 = true then (if (a0.size : Int) > 60 then (some 3) else (if (a1.size : Int) > 60 then (some 3) else (some 0))) else (some 2)) = some r:=H
 have A4:=qd.mk A40
 clear A40
 by_cases c5 : t128 = true
 ·subst c5
  have H1 : (if (a0.size : Int) > 60 then (some 3) else (if (a1.size : Int) > 60 then (some 3) else (some 0))) = some r:=by rw [if_pos rfl] at H;exact H
  clear H
  have H:=H1
  clear H1
  by_cases c6 : (a0.size : Int) > 60
  ·rw [if_pos c6] at H
   have c6b0 : decide (60 < (a0.size : Int)) = true:=decide_eq_true c6
   have c6b1 : decide (60 < a0.size) = true:=decide_eq_true (by omega)
   clear c6
   obtain rfl:=Option.some.inj H
   go_enter Try.func32,Try.ntmps32
   go_wp2_with (first|((with_reducible refine ji (N:=5) rfl ?_);(try (refine jm (by rfl) ?_;dsimp only));refine jg ?hg (N:=5) ?hd (cs:=#[.int .i64 a2_0,.int .i64 a2_1,.int .i64 a2_2,.int .i64 a2_3]) (t:=51) ?hr ?_;(case hd => rfl);(case hg => rfl);(case hr => first|(go_simp;done)|(go_simp;rfl));intro gb127 hg w7 hbox hb;have n0_:=qd.mk (qI (by repeat (first|(with_reducible first|exact HB.out|apply qg|apply qc|apply qf)|exact HB.out)) hb);have n1_:=qd.mk (hbox);have n2_:=qd.mk ((by rw [hg];exact (qH (by repeat (first|(with_reducible first|exact HB.out|apply qg|apply qc|apply qf)|exact HB.out))) : w.heap.size ≤ gb127));have n3_:=qd.mk ((by rw [hg];exact (qH (by repeat (first|(with_reducible first|exact HB.out|apply qg|apply qc|apply qf)|exact HB.out))) : w.heap.size ≤ gb127));clear HB;have HB:=n0_;have BK127:=n1_;have GW127:=n2_;have GE127:=n3_;clear n0_ n1_ n2_ n3_;clear hb hbox hg;have hcz8_0 : w7.cell? ⟨gb127,0,none⟩ = some (.int .i64 a2_0):=(qi BK127.out 0).trans rfl;have hcz8_1 : w7.cell? ⟨gb127,1,none⟩ = some (.int .i64 a2_1):=(qi BK127.out 1).trans rfl;have hcz8_2 : w7.cell? ⟨gb127,2,none⟩ = some (.int .i64 a2_2):=(qi BK127.out 2).trans rfl;have hcz8_3 : w7.cell? ⟨gb127,3,none⟩ = some (.int .i64 a2_3):=(qi BK127.out 3).trans rfl;have hfz8_0:=ql BK127.out 0;have hfz8_1:=ql BK127.out 1;have hfz8_2:=ql BK127.out 2;have hfz8_3:=ql BK127.out 3)|((with_reducible refine qZ (f:=24) rfl ?_);refine jL (some 8) rfl rfl Try.func24 (by kernel_rfl) rfl #[.agg #[.int .i64 a2_0,.int .i64 a2_1,.int .i64 a2_2,.int .i64 a2_3]] rfl (by (try simp only [List.map_toArray,List.map_cons,List.map_nil]);first|done|rfl|(simp only [List.length_drop,List.length_take];rfl)) ?_;(with_reducible refine (q9.calls a2_0 a2_1 a2_2 a2_3 true _ A4.out).mono ?_);rintro e w9 ⟨rfl,hb⟩;refine ⟨_,rfl,?_⟩;have n0_:=qd.mk (qR (g:=gb127) (o:=.cells #[.int .i64 a2_0,.int .i64 a2_1,.int .i64 a2_2,.int .i64 a2_3] 51 (0,0)) (by (with_reducible repeat (first|refine qx ?_ _|refine qA ?_|refine qw ?_ _));exact BK127.out) hb);have n1_:=qd.mk (qI (by repeat (first|(with_reducible first|exact HB.out|apply qg|apply qc|apply qf|refine qp ?_ GE127.out)|exact HB.out)) hb);clear BK127;clear HB;have BK127:=n0_;have HB:=n1_;clear n0_ n1_;(try clear hb);(try clear hb2);(try clear hk);(try clear hi)))
   go_ret
   exact ⟨by first|rfl|(simp [qQ,qP] <;> rfl)|(simp [*,qQ,qP] <;> rfl),by repeat (first|(with_reducible first|exact HB.out|apply qg|apply qc|apply qf|refine qp ?_ GE127.out)|exact HB.out)⟩
  ·rw [if_neg c6] at H
   have c6b0 : decide (60 < (a0.size : Int)) = false:=decide_eq_false c6
   have c6b1 : decide (60 < a0.size) = false:=decide_eq_false (by omega)
   clear c6
   by_cases c10 : (a1.size : Int) > 60
   ·rw [if_pos c10] at H
    have c10b0 : decide (60 < (a1.size : Int)) = true:=decide_eq_true c10
    have c10b1 : decide (60 < a1.size) = true:=decide_eq_true (by omega)
    clear c10
    obtain rfl:=Option.some.inj H
    go_enter Try.func32,Try.ntmps32
    go_wp2_with (first|((with_reducible refine ji (N:=5) rfl ?_);(try (refine jm (by rfl) ?_;dsimp only));refine jg ?hg (N:=5) ?hd (cs:=#[.int .i64 a2_0,.int .i64 a2_1,.int .i64 a2_2,.int .i64 a2_3]) (t:=51) ?hr ?_;(case hd => rfl);(case hg => rfl);(case hr => first|(go_simp;done)|(go_simp;rfl));intro gb127 hg w11 hbox hb;have n0_:=qd.mk (qI (by repeat (first|(with_reducible first|exact HB.out|apply qg|apply qc|apply qf)|exact HB.out)) hb);have n1_:=qd.mk (hbox);have n2_:=qd.mk ((by rw [hg];exact (qH (by repeat (first|(with_reducible first|exact HB.out|apply qg|apply qc|apply qf)|exact HB.out))) : w.heap.size ≤ gb127));have n3_:=qd.mk ((by rw [hg];exact (qH (by repeat (first|(with_reducible first|exact HB.out|apply qg|apply qc|apply qf)|exact HB.out))) : w.heap.size ≤ gb127));clear HB;have HB:=n0_;have BK127:=n1_;have GW127:=n2_;have GE127:=n3_;clear n0_ n1_ n2_ n3_;clear hb hbox hg;have hcz12_0 : w11.cell? ⟨gb127,0,none⟩ = some (.int .i64 a2_0):=(qi BK127.out 0).trans rfl;have hcz12_1 : w11.cell? ⟨gb127,1,none⟩ = some (.int .i64 a2_1):=(qi BK127.out 1).trans rfl;have hcz12_2 : w11.cell? ⟨gb127,2,none⟩ = some (.int .i64 a2_2):=(qi BK127.out 2).trans rfl;have hcz12_3 : w11.cell? ⟨gb127,3,none⟩ = some (.int .i64 a2_3):=(qi BK127.out 3).trans rfl;have hfz12_0:=ql BK127.out 0;have hfz12_1:=ql BK127.out 1;have hfz12_2:=ql BK127.out 2;have hfz12_3:=ql BK127.out 3)|((with_reducible refine qZ (f:=24) rfl ?_);refine jL (some 8) rfl rfl Try.func24 (by kernel_rfl) rfl #[.agg #[.int .i64 a2_0,.int .i64 a2_1,.int .i64 a2_2,.int .i64 a2_3]] rfl (by (try simp only [List.map_toArray,List.map_cons,List.map_nil]);first|done|rfl|(simp only [List.length_drop,List.length_take];rfl)) ?_;(with_reducible refine (q9.calls a2_0 a2_1 a2_2 a2_3 true _ A4.out).mono ?_);rintro e w13 ⟨rfl,hb⟩;refine ⟨_,rfl,?_⟩;have n0_:=qd.mk (qR (g:=gb127) (o:=.cells #[.int .i64 a2_0,.int .i64 a2_1,.int .i64 a2_2,.int .i64 a2_3] 51 (0,0)) (by (with_reducible repeat (first|refine qx ?_ _|refine qA ?_|refine qw ?_ _));exact BK127.out) hb);have n1_:=qd.mk (qI (by repeat (first|(with_reducible first|exact HB.out|apply qg|apply qc|apply qf|refine qp ?_ GE127.out)|exact HB.out)) hb);clear BK127;clear HB;have BK127:=n0_;have HB:=n1_;clear n0_ n1_;(try clear hb);(try clear hb2);(try clear hk);(try clear hi)))
    go_ret
    exact ⟨by first|rfl|(simp [qQ,qP] <;> rfl)|(simp [*,qQ,qP] <;> rfl),by repeat (first|(with_reducible first|exact HB.out|apply qg|apply qc|apply qf|refine qp ?_ GE127.out)|exact HB.out)⟩
   ·rw [if_neg c10] at H
    have c10b0 : decide (60 < (a1.size : Int)) = false:=decide_eq_false c10
    have c10b1 : decide (60 < a1.size) = false:=decide_eq_false (by omega)
    clear c10
    obtain rfl:=Option.some.inj H
    go_enter Try.func32,Try.ntmps32
    go_wp2_with (first|((with_reducible refine ji (N:=5) rfl ?_);(try (refine jm (by rfl) ?_;dsimp only));refine jg ?hg (N:=5) ?hd (cs:=#[.int .i64 a2_0,.int .i64 a2_1,.int .i64 a2_2,.int .i64 a2_3]) (t:=51) ?hr ?_;(case hd => rfl);(case hg => rfl);(case hr => first|(go_simp;done)|(go_simp;rfl));intro gb127 hg w14 hbox hb;have n0_:=qd.mk (qI (by repeat (first|(with_reducible first|exact HB.out|apply qg|apply qc|apply qf)|exact HB.out)) hb);have n1_:=qd.mk (hbox);have n2_:=qd.mk ((by rw [hg];exact (qH (by repeat (first|(with_reducible first|exact HB.out|apply qg|apply qc|apply qf)|exact HB.out))) : w.heap.size ≤ gb127));have n3_:=qd.mk ((by rw [hg];exact (qH (by repeat (first|(with_reducible first|exact HB.out|apply qg|apply qc|apply qf)|exact HB.out))) : w.heap.size ≤ gb127));clear HB;have HB:=n0_;have BK127:=n1_;have GW127:=n2_;have GE127:=n3_;clear n0_ n1_ n2_ n3_;clear hb hbox hg;have hcz15_0 : w14.cell? ⟨gb127,0,none⟩ = some (.int .i64 a2_0):=(qi BK127.out 0).trans rfl;have hcz15_1 : w14.cell? ⟨gb127,1,none⟩ = some (.int .i64 a2_1):=(qi BK127.out 1).trans rfl;have hcz15_2 : w14.cell? ⟨gb127,2,none⟩ = some (.int .i64 a2_2):=(qi BK127.out 2).trans rfl;have hcz15_3 : w14.cell? ⟨gb127,3,none⟩ = some (.int .i64 a2_3):=(qi BK127.out 3).trans rfl;have hfz15_0:=ql BK127.out 0;have hfz15_1:=ql BK127.out 1;have hfz15_2:=ql BK127.out 2;have hfz15_3:=ql BK127.out 3)|((with_reducible refine qZ (f:=24) rfl ?_);refine jL (some 8) rfl rfl Try.func24 (by kernel_rfl) rfl #[.agg #[.int .i64 a2_0,.int .i64 a2_1,.int .i64 a2_2,.int .i64 a2_3]] rfl (by (try simp only [List.map_toArray,List.map_cons,List.map_nil]);first|done|rfl|(simp only [List.length_drop,List.length_take];rfl)) ?_;(with_reducible refine (q9.calls a2_0 a2_1 a2_2 a2_3 true _ A4.out).mono ?_);rintro e w16 ⟨rfl,hb⟩;refine ⟨_,rfl,?_⟩;have n0_:=qd.mk (qR (g:=gb127) (o:=.cells #[.int .i64 a2_0,.int .i64 a2_1,.int .i64 a2_2,.int .i64 a2_3] 51 (0,0)) (by (with_reducible repeat (first|refine qx ?_ _|refine qA ?_|refine qw ?_ _));exact BK127.out) hb);have n1_:=qd.mk (qI (by repeat (first|(with_reducible first|exact HB.out|apply qg|apply qc|apply qf|refine qp ?_ GE127.out)|exact HB.out)) hb);clear BK127;clear HB;have BK127:=n0_;have HB:=n1_;clear n0_ n1_;(try clear hb);(try clear hb2);(try clear hk);(try clear hi)))
    go_ret
    exact ⟨by first|rfl|(simp [qQ,qP] <;> rfl)|(simp [*,qQ,qP] <;> rfl),by repeat (first|(with_reducible first|exact HB.out|apply qg|apply qc|apply qf|refine qp ?_ GE127.out)|exact HB.out)⟩
 ·replace c5:=Bool.eq_false_iff.mpr c5
  subst c5
  have H1 : (some 2) = some r:=by rw [if_neg (show ¬ (false = true) by decide)] at H;exact H
  clear H
  have H:=H1
  clear H1
  obtain rfl:=Option.some.inj H
  go_enter Try.func32,Try.ntmps32
  go_wp2_with (first|((with_reducible refine ji (N:=5) rfl ?_);(try (refine jm (by rfl) ?_;dsimp only));refine jg ?hg (N:=5) ?hd (cs:=#[.int .i64 a2_0,.int .i64 a2_1,.int .i64 a2_2,.int .i64 a2_3]) (t:=51) ?hr ?_;(case hd => rfl);(case hg => rfl);(case hr => first|(go_simp;done)|(go_simp;rfl));intro gb127 hg w17 hbox hb;have n0_:=qd.mk (qI (by repeat (first|(with_reducible first|exact HB.out|apply qg|apply qc|apply qf)|exact HB.out)) hb);have n1_:=qd.mk (hbox);have n2_:=qd.mk ((by rw [hg];exact (qH (by repeat (first|(with_reducible first|exact HB.out|apply qg|apply qc|apply qf)|exact HB.out))) : w.heap.size ≤ gb127));have n3_:=qd.mk ((by rw [hg];exact (qH (by repeat (first|(with_reducible first|exact HB.out|apply qg|apply qc|apply qf)|exact HB.out))) : w.heap.size ≤ gb127));clear HB;have HB:=n0_;have BK127:=n1_;have GW127:=n2_;have GE127:=n3_;clear n0_ n1_ n2_ n3_;clear hb hbox hg;have hcz18_0 : w17.cell? ⟨gb127,0,none⟩ = some (.int .i64 a2_0):=(qi BK127.out 0).trans rfl;have hcz18_1 : w17.cell? ⟨gb127,1,none⟩ = some (.int .i64 a2_1):=(qi BK127.out 1).trans rfl;have hcz18_2 : w17.cell? ⟨gb127,2,none⟩ = some (.int .i64 a2_2):=(qi BK127.out 2).trans rfl;have hcz18_3 : w17.cell? ⟨gb127,3,none⟩ = some (.int .i64 a2_3):=(qi BK127.out 3).trans rfl;have hfz18_0:=ql BK127.out 0;have hfz18_1:=ql BK127.out 1;have hfz18_2:=ql BK127.out 2;have hfz18_3:=ql BK127.out 3)|((with_reducible refine qZ (f:=24) rfl ?_);refine jL (some 8) rfl rfl Try.func24 (by kernel_rfl) rfl #[.agg #[.int .i64 a2_0,.int .i64 a2_1,.int .i64 a2_2,.int .i64 a2_3]] rfl (by (try simp only [List.map_toArray,List.map_cons,List.map_nil]);first|done|rfl|(simp only [List.length_drop,List.length_take];rfl)) ?_;(with_reducible refine (q9.calls a2_0 a2_1 a2_2 a2_3 false _ A4.out).mono ?_);rintro e w19 ⟨rfl,hb⟩;refine ⟨_,rfl,?_⟩;have n0_:=qd.mk (qR (g:=gb127) (o:=.cells #[.int .i64 a2_0,.int .i64 a2_1,.int .i64 a2_2,.int .i64 a2_3] 51 (0,0)) (by (with_reducible repeat (first|refine qx ?_ _|refine qA ?_|refine qw ?_ _));exact BK127.out) hb);have n1_:=qd.mk (qI (by repeat (first|(with_reducible first|exact HB.out|apply qg|apply qc|apply qf|refine qp ?_ GE127.out)|exact HB.out)) hb);clear BK127;clear HB;have BK127:=n0_;have HB:=n1_;clear n0_ n1_;(try clear hb);(try clear hb2);(try clear hk);(try clear hi)))
  go_ret
  exact ⟨by first|rfl|(simp [qQ,qP] <;> rfl)|(simp [*,qQ,qP] <;> rfl),by repeat (first|(with_reducible first|exact HB.out|apply qg|apply qc|apply qf|refine qp ?_ GE127.out)|exact HB.out)⟩
end Go.Proofs.Ytdefecnngccmoaa.QTells
