/- A part of the texts of one claim: the walk of the code by hand-proved contracts, and the plain law. -/
import Derived.WalkKit
import Derived.ProofKit
import Derived.OpenShut
import Derived.ShutString
import Derived.ChangeOld
import Derived.Below
import Derived.SizedLaws
import Derived.Lib.SmallJoins
import Derived.Test.YtdefecnngccmoaaRows
import Derived.Test.YtdefecnngccmoaaKT8
set_option linter.unusedVariables false
set_option linter.unusedSimpArgs false
namespace Go.Proofs.Ytdefecnngccmoaa.Ed
open Go.RowKit Go.Proofs.YtdefecnngccmoaaW.PrintWords QTells
def xh (c : Lb.Cst) : Nat → List Int → List Int → Int
  | 0,_,_ => 0
  | _ + 1,[],[] => 0
  | n + 1,[],_ :: t => xh c n [] t + c.ins
  | n + 1,_ :: s,[] => xh c n s [] + c.del
  | n + 1,a :: s,b :: t =>
    min (min (if Lb.zg (a :: s) (b :: t) then min (xh c n s t + Lb.one c a b) (xh c n (s.drop 1) (t.drop 1) + c.swp) else xh c n s t + Lb.one c a b)
      (xh c n s (b :: t) + c.del)) (xh c n (a :: s) t + c.ins)
theorem zV (c : Lb.Cst) : ∀ n s t,s.length + t.length < n → xh c n s t = Lb.dist c s t
  | 0,_,_,h => by omega
  | n + 1,[],[],h => by rw [xh,Lb.vL]
  | n + 1,[],b :: t,h => by rw [xh,Lb.vE,zV c n [] t (by simp at *;omega)]
  | n + 1,a :: s,[],h => by rw [xh,Lb.vC,zV c n s [] (by simp at *;omega)]
  | n + 1,a :: s,b :: t,h => by
    rw [xh,Lb.xZ,zV c n s t (by simp at *;omega),zV c n (s.drop 1) (t.drop 1) (by simp at *;omega),zV c n s (b :: t) (by simp at *;omega),zV c n (a :: s) t (by simp at *;omega)]
def vF (c : Lb.Cst) : Nat → List Int → List Int → List S38
  | 0,_,_ => []
  | _ + 1,[],[] => []
  | n + 1,[],b :: t => ⟨5,b⟩ :: vF c n [] t
  | n + 1,_ :: s,[] => ⟨4,0⟩ :: vF c n s []
  | n + 1,a :: s,b :: t =>
    if a = b ∧ xh c n s t = xh c (n + 1) (a :: s) (b :: t) then ⟨1,0⟩ :: vF c n s t
    else if a ≠ b ∧ c.chg + xh c n s t = xh c (n + 1) (a :: s) (b :: t) then ⟨2,b⟩ :: vF c n s t
    else if Lb.zg (a :: s) (b :: t) = true ∧ c.swp + xh c n (s.drop 1) (t.drop 1) = xh c (n + 1) (a :: s) (b :: t) then ⟨3,0⟩ :: vF c n (s.drop 1) (t.drop 1)
    else if c.del + xh c n s (b :: t) = xh c (n + 1) (a :: s) (b :: t) then ⟨4,0⟩ :: vF c n s (b :: t)
    else ⟨5,b⟩ :: vF c n (a :: s) t
theorem xX (c : Lb.Cst) : ∀ n s t,s.length + t.length < n → vF c n s t = xE c s t
  | 0,_,_,h => by omega
  | n + 1,[],[],h => by rw [vF,xE]
  | n + 1,[],b :: t,h => by rw [vF,xE,xX c n [] t (by simp at *;omega)]
  | n + 1,a :: s,[],h => by rw [vF,xE,xX c n s [] (by simp at *;omega)]
  | n + 1,a :: s,b :: t,h => by
    rw [vF,xE,zV c n s t (by simp at *;omega),zV c n (s.drop 1) (t.drop 1) (by simp at *;omega),zV c n s (b :: t) (by simp at *;omega),zV c (n + 1) (a :: s) (b :: t) (by simp at *;omega),
      xX c n s t (by simp at *;omega),xX c n (s.drop 1) (t.drop 1) (by simp at *;omega),xX c n s (b :: t) (by simp at *;omega),xX c n (a :: s) t (by simp at *;omega)]
theorem Qf {a b : ByteArray} (h : a.size + b.size < 10) (c2 : Int) (h2 : okc c2 = true) : mayE a b 1 1 c2 1 = 0:=by
  have e : zl 1 1 c2 1 = true:=by unfold zl;rw [h2];rfl
  unfold mayE;rw [if_pos e,if_neg (by omega),if_neg (by omega)]
theorem vH (a b : ByteArray) (c2 : Int) (h : a.size + b.size < 10) (h2 : okc c2 = true) : jr.f a b 1 1 c2 1 = some (xh ⟨1,1,c2,1⟩ 10 (bytesOf a) (bytesOf b),0):=by
  unfold jr.f zQ
  have ha:=bytesOf_length a;have hb:=bytesOf_length b
  rw [if_pos (Qf h c2 h2),zV _ _ _ _ (by omega)]
  rfl
theorem kR (a b : ByteArray) (c2 : Int) (h : a.size + b.size < 10) (h2 : okc c2 = true) : zI.f a b 1 1 c2 1 = some (vF ⟨1,1,c2,1⟩ 10 (bytesOf a) (bytesOf b),xh ⟨1,1,c2,1⟩ 10 (bytesOf a) (bytesOf b),0):=by
  unfold zI.f zQ xc
  have ha:=bytesOf_length a;have hb:=bytesOf_length b
  rw [if_pos (Qf h c2 h2),if_pos (Qf h c2 h2),zV _ _ _ _ (by omega),xX _ _ _ _ (by omega)]
  rfl
def Qv (y : List S49) (i : Int) : Prop :=
  jr.f (qM y i).f0 (qM y i).f1 (qM y i).f2.f0 (qM y i).f2.f1 (qM y i).f2.f2 (qM y i).f2.f3 = some ((qM y i).f3,0) ∧
  zI.f (qM y i).f0 (qM y i).f1 (qM y i).f2.f0 (qM y i).f2.f1 (qM y i).f2.f2 (qM y i).f2.f3 = some ((qM y i).f4,(qM y i).f3,0)
theorem vR {y : List S49} {i : Int} (j : Int) (h : Qv y i) (h0 : 0 ≤ i) (h1 : i < (y.length : Int)) (k : Nat) (hs : qV.f k (qM y i).f4 (qM y i).f4 = some true) (hw : wrap64 (i + 1) = j) :
    jo.l0 (k + 1) y (y.length : Int) i = jo.l0 k y (y.length : Int) j:=by
  rw [jo.l0,if_pos h1,if_pos h0,if_pos h1,h.1,h.2]
  simp only [Option.bind_some,if_true,hs,hw]
def kQ : List S49:=[⟨⟨#[82,79,65,68]⟩,⟨#[82,65,79,68]⟩,⟨1,1,1,1⟩,1,[⟨1,0⟩,⟨3,0⟩,⟨1,0⟩]⟩,
  ⟨⟨#[77,65,73,78]⟩,⟨#[77,65,73,78,69]⟩,⟨1,1,1,1⟩,1,[⟨1,0⟩,⟨1,0⟩,⟨1,0⟩,⟨1,0⟩,⟨5,69⟩]⟩,
  ⟨⟨#[65,66]⟩,⟨#[]⟩,⟨1,1,1,1⟩,2,[⟨4,0⟩,⟨4,0⟩]⟩,
  ⟨⟨#[67,65]⟩,⟨#[65,66,67]⟩,⟨1,1,1,1⟩,3,[⟨2,65⟩,⟨2,66⟩,⟨5,67⟩]⟩,
  ⟨⟨#[65]⟩,⟨#[66]⟩,⟨1,1,3,1⟩,2,[⟨4,0⟩,⟨5,66⟩]⟩]
theorem r0 : Qv kQ 0:=⟨(vH _ _ 1 (by decide) rfl).trans (by kernel_rfl),(kR _ _ 1 (by decide) rfl).trans (by kernel_rfl)⟩
theorem r1 : Qv kQ 1:=⟨(vH _ _ 1 (by decide) rfl).trans (by kernel_rfl),(kR _ _ 1 (by decide) rfl).trans (by kernel_rfl)⟩
theorem r2 : Qv kQ 2:=⟨(vH _ _ 1 (by decide) rfl).trans (by kernel_rfl),(kR _ _ 1 (by decide) rfl).trans (by kernel_rfl)⟩
theorem r3 : Qv kQ 3:=⟨(vH _ _ 1 (by decide) rfl).trans (by kernel_rfl),(kR _ _ 1 (by decide) rfl).trans (by kernel_rfl)⟩
theorem r4 : Qv kQ 4:=⟨(vH _ _ 3 (by decide) rfl).trans (by kernel_rfl),(kR _ _ 3 (by decide) rfl).trans (by kernel_rfl)⟩
theorem w1 : jE.f ⟨#[77,65,73,78]⟩ ⟨#[77,73,78,69]⟩ 1 1 1 1 1 = some (0,false,0):=by
  unfold jE.f
  rw [vH _ _ 1 (by decide) rfl]
  kernel_rfl
theorem w2 : jE.f ⟨#[77,65,73,78]⟩ ⟨#[77,73,78,69]⟩ 1 1 1 1 2 = some (2,true,0):=by
  unfold jE.f
  rw [vH _ _ 1 (by decide) rfl]
  kernel_rfl
theorem Ke : jo.l0 25 kQ (kQ.length : Int) 5 = some true:=by
  rw [jo.l0,if_neg (by decide)]
  simp only [qK.f,Option.bind_some,w1,w2]
  kernel_rfl
theorem Je : jo.f 30 = some true:=by
  have e : jo.f 30 = jo.l0 30 kQ (kQ.length : Int) 0:=by unfold jo.f;rfl
  rw [e,vR 1 r0 (by decide) (by decide) 29 (by kernel_rfl) (by kernel_rfl),vR 2 r1 (by decide) (by decide) 28 (by kernel_rfl) (by kernel_rfl),vR 3 r2 (by decide) (by decide) 27 (by kernel_rfl) (by kernel_rfl),vR 4 r3 (by decide) (by decide) 26 (by kernel_rfl) (by kernel_rfl),vR 5 r4 (by decide) (by decide) 25 (by kernel_rfl) (by kernel_rfl)]
  exact Ke
theorem vW (w : World) : Calls Try.prog 9 #[] w fun e w' => e = .returned (.bool true) ∧ Below w.heap.size w w' :=
  jo.calls 30 true rfl w Je
end Go.Proofs.Ytdefecnngccmoaa.Ed
namespace Go.Proofs.Ytdefecnngccmoaa.Ed
open Go.RowKit Go.Proofs.YtdefecnngccmoaaW.PrintWords QTells
theorem XC (a b : ByteArray) (c0 c1 c2 c3 most : Int) (w : World) :
    Calls Try.prog 10 #[.string a,.string b,.agg #[.int .i64 c0,.int .i64 c1,.int .i64 c2,.int .i64 c3],.int .i64 most] w fun e w' => e = .returned (.bool true) ∧ Below w.heap.size w w':=by
  obtain ⟨k,h⟩:=JF a b c0 c1 c2 c3 most
  exact qh.calls k a b c0 c1 c2 c3 most true rfl w h
set_option maxRecDepth 1000000 in
set_option maxHeartbeats 4000000 in
theorem Jw (a b : ByteArray) (c0 c1 c2 c3 most : Int) (w : World) (hm : (Lit.int .i64 most).wf = true) :
    Calls Try.prog 3 #[.string a,.string b,.agg #[.int .i64 c0,.int .i64 c1,.int .i64 c2,.int .i64 c3],.int .i64 most] w fun e w' => e = .returned (.bool true) ∧ Below w.heap.size w w':=by
  clear hm
  have hB0:=(Below.refl w.heap.size w).alloc (Nat.le_refl _) (.cells #[.int .i64 c0,.int .i64 c1,.int .i64 c2,.int .i64 c3] 23)
  by_cases ha : (a.size : Int) > 130
  · have c11b0 : decide (130 < (a.size : Int)) = true:=decide_eq_true ha
    have c11b1 : decide (130 < a.size) = true:=decide_eq_true (by omega)
    clear ha
    go_enter Try.func3,Try.ntmps3
    go_wp2_with (go_at_call 9;(with_reducible refine (vW _).mono ?_);rintro e W1 ⟨rfl,hb⟩)
    go_ret
    exact ⟨rfl,qI hB0 hb⟩
  have c11b0 : decide (130 < (a.size : Int)) = false:=decide_eq_false ha
  have c11b1 : decide (130 < a.size) = false:=decide_eq_false (by omega)
  clear ha
  by_cases hb : (b.size : Int) > 130
  · have c12b0 : decide (130 < (b.size : Int)) = true:=decide_eq_true hb
    have c12b1 : decide (130 < b.size) = true:=decide_eq_true (by omega)
    clear hb
    go_enter Try.func3,Try.ntmps3
    go_wp2_with (go_at_call 9;(with_reducible refine (vW _).mono ?_);rintro e W1 ⟨rfl,hb⟩)
    go_ret
    exact ⟨rfl,qI hB0 hb⟩
  have c12b0 : decide (130 < (b.size : Int)) = false:=decide_eq_false hb
  have c12b1 : decide (130 < b.size) = false:=decide_eq_false (by omega)
  clear hb
  go_enter Try.func3,Try.ntmps3
  go_wp2_with (first|(go_at_call 10;(with_reducible refine (XC a b c0 c1 c2 c3 most _).mono ?_);rintro e W1 ⟨rfl,hb1⟩)|(go_at_call 9;(with_reducible refine (vW _).mono ?_);rintro e W2 ⟨rfl,hb2⟩))
  go_ret
  exact ⟨rfl,qI (qI hB0 hb1) hb2⟩
end Go.Proofs.Ytdefecnngccmoaa.Ed
namespace Go.Proofs.Ytdefecnngccmoaa.editTells
open Go.ChangeShapes Go.WideShapes Go.ChangeAt Go.RowKit Go.Joins
open Go.ChangeMaps (open_string shut_string)
set_option linter.unusedVariables false
theorem own : ownKnob Try.prog.godebug = none:=by kernel_rfl
set_option maxRecDepth 100000 in
theorem lifted (os : Os) (started : os.Started) (H : Type) (enc : TypeId × Value → H) :
    ReturnsInHanded {} Try.checked os 3 .any (Rows.editTellsSpec.pre6 enc Try.prog Try.f3 Rows.editTellsRow.domain false) (Rows.editTellsSpec.post enc Try.prog Try.f3 false true false false):=by
  refine returnsInHanded_of_change_sized (C:=Try.checked) own started (by kernel_rfl) Try.func3
    (ChangeSpec.witness6 (enc:=enc) (C:=Try.checked) false ⟨#[],#[.string ByteArray.empty,.string ByteArray.empty,.agg #[.int .i64 0,.int .i64 0,.int .i64 0,.int .i64 0],.int .i64 0],[]⟩ 8 (by kernel_rfl) (by kernel_rfl) (by kernel_rfl) (by kernel_rfl)) ?_
  intro W base args ds gs before hval0 hW hcnd hsz0 _
  have hsz : (DataW.weightsEach Try.prog (Try.f3.params.toList ++ Rows.editTellsSpec.plain.varTypes Try.prog) (ds ++ gs)).all (· ≤ reachBytes) = true:=hsz0
  have hval : ∀ (j : Nat) t v,Try.f3.params[j]? = some t → args[j]? = some v → Value.okWide Try.prog W .any base t v:=hval0
  have hW':=hW
  obtain ⟨p,q,hA0,hV,rfl,hfz,hnd⟩:=hW
  have hA : DataW.TrodAll enc Try.prog W 0 (fun _ => true) true Try.f3.params.toList args.toList ds p:=hA0
  rw [Try.params3] at hA hval hsz
  obtain ⟨v0,vs0,d0,ds0,p0,q0,hargs,rfl,rfl,h0,r0⟩:=trodAll_cons hA
  obtain ⟨v1,vs1,d1,ds1,p1,q1,rfl,rfl,rfl,h1,r1⟩:=trodAll_cons r0
  obtain ⟨v2,vs2,d2,ds2,p2,q2,rfl,rfl,rfl,h2,r2⟩:=trodAll_cons r1
  obtain ⟨v3,vs3,d3,ds3,p3,q3,rfl,rfl,rfl,h3,r3⟩:=trodAll_cons r2
  obtain ⟨rfl,rfl,rfl⟩:=trodAll_nil r3
  obtain rfl : args = #[v0,v1,v2,v3]:=by cases args;simp_all
  obtain ⟨rfl,rfl⟩:=trodVars_none hV
  obtain ⟨a0,rfl,rfl,rfl,y0⟩:=open_string Try.underlying9 (hval 0 9 v0 rfl rfl) h0
  obtain ⟨a1,rfl,rfl,rfl,y1⟩:=open_string Try.underlying9 (hval 1 9 v1 rfl rfl) h1
  obtain ⟨c20,c21,c22,c23,z20,z21,z22,z23,m2,rfl,rfl,rfl,g20,g21,g22,g23⟩:=open_agg4 Try.underlying23 (by kernel_rfl) (by kernel_rfl) (hval 2 23 v2 rfl rfl) h2
  obtain ⟨a20,e20,rfl,w20⟩:=DataW.trod_int Try.underlying3 g20
  obtain ⟨a21,e21,rfl,w21⟩:=DataW.trod_int Try.underlying3 g21
  obtain ⟨a22,e22,rfl,w22⟩:=DataW.trod_int Try.underlying3 g22
  obtain ⟨a23,e23,rfl,w23⟩:=DataW.trod_int Try.underlying3 g23
  simp only [List.cons.injEq,and_true] at e20 e21 e22 e23
  subst e20 e21 e22 e23
  obtain ⟨a3,rfl,rfl,rfl,w3⟩:=open_int Try.underlying3 (hval 3 3 v3 rfl rfl) h3
  clear hA0 hval0 hsz0 hsz
  refine (Ed.Jw a0 a1 a20 a21 a22 a23 a3 W w3).mono fun e W' ⟨he,bel⟩ => ?_
  subst he
  exact ⟨_,rfl,_,_,_,[],_,[],hW',trodAll_mk1 (shut_bool Try.underlying4 _),(trodAll_cons_mk (shut_string Try.underlying9 y0) (trodAll_cons_mk (shut_string Try.underlying9 y1) (trodAll_cons_mk (shut_agg4 (y0:=(.lit (.int .i64 a20),[])) (y1:=(.lit (.int .i64 a21),[])) (y2:=(.lit (.int .i64 a22),[])) (y3:=(.lit (.int .i64 a23),[])) Try.underlying23 (by kernel_rfl) (by kernel_rfl) (field_of_Trod (shut_int Try.underlying3 w20) rfl) (field_of_Trod (shut_int Try.underlying3 w21) rfl) (field_of_Trod (shut_int Try.underlying3 w22) rfl) (field_of_Trod (shut_int Try.underlying3 w23) rfl)) (trodAll_cons_mk (shut_int Try.underlying3 w3) trodAll_mk0)))),rfl,bel.frame _,fun h => by cases h⟩
theorem over : Rows.editTellsRow.holds Try.pinned (OpenSpec.ofChange Rows.editTellsSpec) :=
  OpenClaim.holds_of_wide 3 Try.f3 rfl rfl rfl rfl rfl rfl rfl ⟨rfl,rfl,rfl,rfl,rfl⟩ rfl rfl rfl rfl rfl (by kernel_rfl) Try.func3 (by kernel_rfl)
    (of_decide_eq_true (by kernel_rfl)) (by unfold Func.isWrapper;first|(rw [if_pos (by decide +kernel)];kernel_rfl)|(rw [if_neg (by decide +kernel)];exact ⟨rfl,rfl⟩))
    (fun os started H enc _ => lifted os started H enc)
theorem proved : Rows.EditTellsSaid:=over
#print axioms proved
end Go.Proofs.Ytdefecnngccmoaa.editTells
namespace Go.Proofs.Ytdefecnngccmoaa
theorem editTells_holds : Rows.EditTellsSaid:=editTells.proved
end Go.Proofs.Ytdefecnngccmoaa
