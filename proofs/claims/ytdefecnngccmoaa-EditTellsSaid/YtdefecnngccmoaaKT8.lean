/- A part of the texts of one claim: the walk of the code by hand-proved contracts, and the plain law. -/
import Derived.Test.YtdefecnngccmoaaKT7
set_option linter.unusedVariables false
set_option linter.unusedSimpArgs false
namespace Go.Proofs.Ytdefecnngccmoaa.QTells
open Go.RowKit Go.Proofs.YtdefecnngccmoaaW.PrintWords Go.Proofs.YtdefecnngccmoaaW.PrintLast Go.Proofs.YtdefecnngccmoaaW.PrintMore
attribute [local go_sem] jX jV zk zi jM jN jU jY
set_option linter.unusedVariables false
set_option linter.unusedSimpArgs false
open Go.Proofs.Ytdefecnngccmoaa.Ed
theorem KC : (Try.prog.info? 49).map (fun i => (i.zero,i.size,i.bytes)) = some (some (.agg #[(.string ⟨#[]⟩),(.string ⟨#[]⟩),(.int .i64 0),(.int .i64 0),(.int .i64 0),(.int .i64 0),(.int .i64 0),(.slice none 0 0)]),8,96):=by kernel_rfl
theorem Kz (W : World) (ok : Nat → Prop) (x : S38) : Kd.FK k38 W ok x [.int .u8 x.f0,.int .u8 x.f1]:=fun W2 _ => Xr W2 x
structure S23 where
 f0 : Int
 f1 : Int
 f2 : Int
 f3 : Int
def z23 : S23:=⟨(0 : Int),(0 : Int),(0 : Int),(0 : Int)⟩
def k23 : Kd S23:=Kd.iso (Kd.pair (Kd.int .i64) (Kd.pair (Kd.int .i64) (Kd.pair (Kd.int .i64) (Kd.int .i64)))) (fun x : S23 => (x.f0,x.f1,x.f2,x.f3))
theorem vS {w : World} {x : S23} {cs : List Value} (h : k23.K w x cs) : cs = [.int .i64 x.f0,.int .i64 x.f1,.int .i64 x.f2,.int .i64 x.f3]:=by
 obtain ⟨_,_,rfl,rfl,⟨_,_,rfl,rfl,⟨_,_,rfl,rfl,rfl⟩⟩⟩:=h
 exact rfl
theorem yg {w : World} {base : Nat} {ok : Nat → Prop} {x : S23} {cs : List Value} (h : k23.M w base ok x cs) : cs = [.int .i64 x.f0,.int .i64 x.f1,.int .i64 x.f2,.int .i64 x.f3]:=by
 obtain ⟨_,_,rfl,rfl,⟨_,_,rfl,rfl,⟨_,_,rfl,rfl,rfl⟩⟩⟩:=h
 exact rfl
theorem QN (w : World) (x : S23)  : k23.K w x [.int .i64 x.f0,.int .i64 x.f1,.int .i64 x.f2,.int .i64 x.f3]:=⟨[.int .i64 x.f0],[.int .i64 x.f1,.int .i64 x.f2,.int .i64 x.f3],rfl,rfl,⟨[.int .i64 x.f1],[.int .i64 x.f2,.int .i64 x.f3],rfl,rfl,⟨[.int .i64 x.f2],[.int .i64 x.f3],rfl,rfl,rfl⟩⟩⟩
theorem QD (w : World) (base : Nat) (ok : Nat → Prop) (x : S23)  : k23.M w base ok x [.int .i64 x.f0,.int .i64 x.f1,.int .i64 x.f2,.int .i64 x.f3]:=⟨[.int .i64 x.f0],[.int .i64 x.f1,.int .i64 x.f2,.int .i64 x.f3],rfl,rfl,⟨[.int .i64 x.f1],[.int .i64 x.f2,.int .i64 x.f3],rfl,rfl,⟨[.int .i64 x.f2],[.int .i64 x.f3],rfl,rfl,rfl⟩⟩⟩
theorem Ky (W : World) (ok : Nat → Prop) (x : S23) : Kd.FK k23 W ok x [.int .i64 x.f0,.int .i64 x.f1,.int .i64 x.f2,.int .i64 x.f3]:=fun W2 _ => QN W2 x
def vI (xs : List S23) (i : Int) : S23:=xs.getD i.toNat z23
theorem VR {w : World} {A : Option Addr} {n : Nat} {xs : List S23} (h : Kd.C k23 w A n xs) (i : Int) (h0 : 0 ≤ i) (h1 : i < n) : ∃ ad , A = some ad ∧ w.cell? (ad.add (i.toNat * 4)) = some (.int .i64 (vI xs i).f0) ∧ w.cell? ⟨(ad.add (i.toNat * 4)).block,(ad.add (i.toNat * 4)).off + 1,none⟩ = some (.int .i64 (vI xs i).f1) ∧ w.cell? ⟨(ad.add (i.toNat * 4)).block,(ad.add (i.toNat * 4)).off + 2,none⟩ = some (.int .i64 (vI xs i).f2) ∧ w.cell? ⟨(ad.add (i.toNat * 4)).block,(ad.add (i.toNat * 4)).off + 3,none⟩ = some (.int .i64 (vI xs i).f3):=by
 obtain ⟨ad,c,e,_,hK,hc0⟩:=Kd.vP h z23 i h0 h1
 have hc : ∀ j u,c[j]? = some u → w.cell? (ad.add (i.toNat * 4 + j)) = some u:=hc0
 obtain rfl:=vS hK
 exact ⟨ad,e,hc 0 _ rfl,by rw [← jG _ _ 1 (by omega)];exact hc 1 _ rfl,by rw [← jG _ _ 2 (by omega)];exact hc 2 _ rfl,by rw [← jG _ _ 3 (by omega)];exact hc 3 _ rfl⟩
structure S49 where
 f0 : ByteArray
 f1 : ByteArray
 f2 : S23
 f3 : Int
 f4 : (List S38)
def z49 : S49:=⟨(⟨#[]⟩ : ByteArray),(⟨#[]⟩ : ByteArray),z23,(0 : Int),([] : List S38)⟩
def k49 : Kd S49:=Kd.iso (Kd.pair Kd.string (Kd.pair Kd.string (Kd.pair k23 (Kd.pair (Kd.int .i64) (Kd.slice 38 k38))))) (fun x : S49 => (x.f0,x.f1,x.f2,x.f3,x.f4))
theorem vV {w : World} {x : S49} {cs : List Value} (h : k49.K w x cs) : ∃ A7 c7,cs = [.string x.f0,.string x.f1,.int .i64 x.f2.f0,.int .i64 x.f2.f1,.int .i64 x.f2.f2,.int .i64 x.f2.f3,.int .i64 x.f3,.slice A7 x.f4.length c7] ∧ x.f4.length ≤ c7 ∧ k38.C w A7 x.f4.length x.f4:=by
 obtain ⟨_,_,rfl,rfl,⟨_,_,rfl,rfl,⟨_,_,rfl,s2,⟨_,_,rfl,rfl,⟨A7,c7,rfl,l7,g7⟩⟩⟩⟩⟩:=h
 obtain rfl:=vS s2
 exact ⟨A7,c7,rfl,l7,g7⟩
theorem Zt {w : World} {base : Nat} {ok : Nat → Prop} {x : S49} {cs : List Value} (h : k49.M w base ok x cs) : ∃ v7,cs = [.string x.f0,.string x.f1,.int .i64 x.f2.f0,.int .i64 x.f2.f1,.int .i64 x.f2.f2,.int .i64 x.f2.f3,.int .i64 x.f3,v7] ∧ k38.R 38 w base ok v7 x.f4:=by
 obtain ⟨_,_,rfl,rfl,⟨_,_,rfl,rfl,⟨_,_,rfl,s2,⟨_,_,rfl,rfl,⟨v7,rfl,g7⟩⟩⟩⟩⟩:=h
 obtain rfl:=yg s2
 exact ⟨v7,rfl,g7⟩
theorem Xt (w : World) (x : S49) {A7 : Option Addr} {c7 : Nat} (l7 : x.f4.length ≤ c7) (g7 : k38.C w A7 x.f4.length x.f4) : k49.K w x [.string x.f0,.string x.f1,.int .i64 x.f2.f0,.int .i64 x.f2.f1,.int .i64 x.f2.f2,.int .i64 x.f2.f3,.int .i64 x.f3,.slice A7 x.f4.length c7]:=⟨[.string x.f0],[.string x.f1,.int .i64 x.f2.f0,.int .i64 x.f2.f1,.int .i64 x.f2.f2,.int .i64 x.f2.f3,.int .i64 x.f3,.slice A7 x.f4.length c7],rfl,rfl,⟨[.string x.f1],[.int .i64 x.f2.f0,.int .i64 x.f2.f1,.int .i64 x.f2.f2,.int .i64 x.f2.f3,.int .i64 x.f3,.slice A7 x.f4.length c7],rfl,rfl,⟨[.int .i64 x.f2.f0,.int .i64 x.f2.f1,.int .i64 x.f2.f2,.int .i64 x.f2.f3],[.int .i64 x.f3,.slice A7 x.f4.length c7],rfl,(QN w x.f2 ),⟨[.int .i64 x.f3],[.slice A7 x.f4.length c7],rfl,rfl,⟨A7,c7,rfl,l7,g7⟩⟩⟩⟩⟩
theorem X9 (w : World) (base : Nat) (ok : Nat → Prop) (x : S49) {v7 : Value} (g7 : k38.R 38 w base ok v7 x.f4) : k49.M w base ok x [.string x.f0,.string x.f1,.int .i64 x.f2.f0,.int .i64 x.f2.f1,.int .i64 x.f2.f2,.int .i64 x.f2.f3,.int .i64 x.f3,v7]:=⟨[.string x.f0],[.string x.f1,.int .i64 x.f2.f0,.int .i64 x.f2.f1,.int .i64 x.f2.f2,.int .i64 x.f2.f3,.int .i64 x.f3,v7],rfl,rfl,⟨[.string x.f1],[.int .i64 x.f2.f0,.int .i64 x.f2.f1,.int .i64 x.f2.f2,.int .i64 x.f2.f3,.int .i64 x.f3,v7],rfl,rfl,⟨[.int .i64 x.f2.f0,.int .i64 x.f2.f1,.int .i64 x.f2.f2,.int .i64 x.f2.f3],[.int .i64 x.f3,v7],rfl,(QD w base ok x.f2 ),⟨[.int .i64 x.f3],[v7],rfl,rfl,⟨v7,rfl,g7⟩⟩⟩⟩⟩
theorem ZC {W : World} {ok : Nat → Prop} {x : S49} {cs : List Value} (h : Kd.FK k49 W ok x cs) : ∃ A7 c7,cs = [.string x.f0,.string x.f1,.int .i64 x.f2.f0,.int .i64 x.f2.f1,.int .i64 x.f2.f2,.int .i64 x.f2.f3,.int .i64 x.f3,.slice A7 x.f4.length c7] ∧ x.f4.length ≤ c7 ∧ Kd.F k38 W ok A7 x.f4.length x.f4:=by
 obtain ⟨A7,c7,rfl,l7,_⟩:=vV (Kd.QX h)
 exact ⟨A7,c7,rfl,l7,(fun W' hW => by obtain ⟨A7_,c7_,he,l7_,g7_⟩:=vV (h W' hW);injection (Option.some.inj (show some (Value.slice A7 x.f4.length c7) = some (Value.slice A7_ x.f4.length c7_) from congrArg (fun l => l[7]?) he)) with ha_ _ _;rw [ha_];exact g7_)⟩
theorem kN (W : World) (ok : Nat → Prop) (x : S49) {A7 : Option Addr} {c7 : Nat} (l7 : x.f4.length ≤ c7) (g7 : Kd.F k38 W ok A7 x.f4.length x.f4) : Kd.FK k49 W ok x [.string x.f0,.string x.f1,.int .i64 x.f2.f0,.int .i64 x.f2.f1,.int .i64 x.f2.f2,.int .i64 x.f2.f3,.int .i64 x.f3,.slice A7 x.f4.length c7]:=fun W2 hW => Xt W2 x l7 (g7 W2 hW)
def qM (xs : List S49) (i : Int) : S49:=xs.getD i.toNat z49
theorem Xc {w : World} {A : Option Addr} {n : Nat} {xs : List S49} (h : Kd.C k49 w A n xs) (i : Int) (h0 : 0 ≤ i) (h1 : i < n) : ∃ ad A7 c7,A = some ad ∧ w.cell? (ad.add (i.toNat * 8)) = some (.string (qM xs i).f0) ∧ w.cell? ⟨(ad.add (i.toNat * 8)).block,(ad.add (i.toNat * 8)).off + 1,none⟩ = some (.string (qM xs i).f1) ∧ w.cell? ⟨(ad.add (i.toNat * 8)).block,(ad.add (i.toNat * 8)).off + 2,none⟩ = some (.int .i64 (qM xs i).f2.f0) ∧ w.cell? ⟨(ad.add (i.toNat * 8)).block,(ad.add (i.toNat * 8)).off + 3,none⟩ = some (.int .i64 (qM xs i).f2.f1) ∧ w.cell? ⟨(ad.add (i.toNat * 8)).block,(ad.add (i.toNat * 8)).off + 4,none⟩ = some (.int .i64 (qM xs i).f2.f2) ∧ w.cell? ⟨(ad.add (i.toNat * 8)).block,(ad.add (i.toNat * 8)).off + 5,none⟩ = some (.int .i64 (qM xs i).f2.f3) ∧ w.cell? ⟨(ad.add (i.toNat * 8)).block,(ad.add (i.toNat * 8)).off + 6,none⟩ = some (.int .i64 (qM xs i).f3) ∧ w.cell? ⟨(ad.add (i.toNat * 8)).block,(ad.add (i.toNat * 8)).off + 7,none⟩ = some (.slice A7 (qM xs i).f4.length c7) ∧ (qM xs i).f4.length ≤ c7 ∧ k38.C w A7 (qM xs i).f4.length (qM xs i).f4:=by
 obtain ⟨ad,c,e,_,hK,hc0⟩:=Kd.vP h z49 i h0 h1
 have hc : ∀ j u,c[j]? = some u → w.cell? (ad.add (i.toNat * 8 + j)) = some u:=hc0
 obtain ⟨A7,c7,rfl,l7,g7⟩:=vV hK
 exact ⟨ad,A7,c7,e,hc 0 _ rfl,by rw [← jG _ _ 1 (by omega)];exact hc 1 _ rfl,by rw [← jG _ _ 2 (by omega)];exact hc 2 _ rfl,by rw [← jG _ _ 3 (by omega)];exact hc 3 _ rfl,by rw [← jG _ _ 4 (by omega)];exact hc 4 _ rfl,by rw [← jG _ _ 5 (by omega)];exact hc 5 _ rfl,by rw [← jG _ _ 6 (by omega)];exact hc 6 _ rfl,by rw [← jG _ _ 7 (by omega)];exact hc 7 _ rfl,l7,g7⟩
def jo.l0 : Nat → List (S49) → Int → Int → Option (Bool)
 | 0,_,_,_ => none
 | k + 1,x45,x46,x47 => if x47 < x46 then (if 0 ≤ x47 then (if x47 < (x45.length : Int) then ((jr.f ((qM x45 x47).f0) ((qM x45 x47).f1) ((qM x45 x47).f2.f0) ((qM x45 x47).f2.f1) ((qM x45 x47).f2.f2) ((qM x45 x47).f2.f3)).bind fun bt180 => ((zI.f ((qM x45 x47).f0) ((qM x45 x47).f1) ((qM x45 x47).f2.f0) ((qM x45 x47).f2.f1) ((qM x45 x47).f2.f2) ((qM x45 x47).f2.f3)).bind fun bt182 => (if bt180.1 = ((qM x45 x47).f3) then (if bt180.2 = 0 then (if bt182.2.1 = ((qM x45 x47).f3) then (if bt182.2.2 = 0 then ((qV.f k bt182.1 ((qM x45 x47).f4)).bind fun t187 => (if t187 = true then (jo.l0 k x45 x46 (wrap64 (x47 + 1))) else (some false))) else (some false)) else (some false)) else (some false)) else (some false)))) else (none)) else (none)) else ((qK.f).bind fun bt188 => ((jE.f (⟨#[77,65,73,78]⟩ : ByteArray) (⟨#[77,73,78,69]⟩ : ByteArray) bt188.1 bt188.2.1 bt188.2.2.1 bt188.2.2.2 1).bind fun bt192 => ((qK.f).bind fun bt195 => ((jE.f (⟨#[77,65,73,78]⟩ : ByteArray) (⟨#[77,73,78,69]⟩ : ByteArray) bt195.1 bt195.2.1 bt195.2.2.1 bt195.2.2.2 2).bind fun bt199 => ((qo.f (⟨#[]⟩ : ByteArray) (([3] : List Int))).bind fun t205 => ((qB.f k (⟨#[65,66]⟩ : ByteArray) t205).bind fun bt208 => ((qo.f (⟨#[]⟩ : ByteArray) (([3] : List Int))).bind fun t213 => ((qB.f k (⟨#[65,65]⟩ : ByteArray) t213).bind fun bt216 => ((qo.f (⟨#[]⟩ : ByteArray) (([1] : List Int))).bind fun t221 => ((qB.f k (⟨#[65,66]⟩ : ByteArray) t221).bind fun bt224 => ((qo.f (⟨#[65]⟩ : ByteArray) (([2] : List Int))).bind fun t229 => ((qB.f k (⟨#[65]⟩ : ByteArray) t229).bind fun bt232 => (if bt192.1 = 0 then (if bt192.2.1 = true then (some false) else (if bt192.2.2 = 0 then (if bt199.1 = 2 then (if bt199.2.1 = true then (if bt199.2.2 = 0 then (if bt208.1.toList = ([66,65] : List UInt8) then (if bt208.2 = 0 then (if bt216.2 = 60 then (if bt224.2 = 60 then (some (bt232.2 == 60)) else (some false)) else (some false)) else (some false)) else (some false)) else (some false)) else (some false)) else (some false)) else (some false))) else (some false))))))))))))))
def jo.f (k : Nat)  : Option (Bool):=(qK.f).bind fun bt124 => ((qK.f).bind fun bt129 => ((qo.f (⟨#[]⟩ : ByteArray) (([1,3,1] : List Int))).bind fun t136 => ((qK.f).bind fun bt139 => ((qo.f (⟨#[69]⟩ : ByteArray) (([1,1,1,1,5] : List Int))).bind fun t146 => ((qK.f).bind fun bt149 => ((qo.f (⟨#[]⟩ : ByteArray) (([4,4] : List Int))).bind fun t156 => ((qK.f).bind fun bt159 => ((qo.f (⟨#[65,66,67]⟩ : ByteArray) (([2,2,5] : List Int))).bind fun t166 => ((qo.f (⟨#[66]⟩ : ByteArray) (([4,5] : List Int))).bind fun t172 => ((some (([(⟨(⟨#[82,79,65,68]⟩ : ByteArray),(⟨#[82,65,79,68]⟩ : ByteArray),(⟨bt129.1,bt129.2.1,bt129.2.2.1,bt129.2.2.2⟩ : S23),1,t136⟩ : S49),(⟨(⟨#[77,65,73,78]⟩ : ByteArray),(⟨#[77,65,73,78,69]⟩ : ByteArray),(⟨bt139.1,bt139.2.1,bt139.2.2.1,bt139.2.2.2⟩ : S23),1,t146⟩ : S49),(⟨(⟨#[65,66]⟩ : ByteArray),(⟨#[]⟩ : ByteArray),(⟨bt149.1,bt149.2.1,bt149.2.2.1,bt149.2.2.2⟩ : S23),2,t156⟩ : S49),(⟨(⟨#[67,65]⟩ : ByteArray),(⟨#[65,66,67]⟩ : ByteArray),(⟨bt159.1,bt159.2.1,bt159.2.2.1,bt159.2.2.2⟩ : S23),3,t166⟩ : S49),(⟨(⟨#[65]⟩ : ByteArray),(⟨#[66]⟩ : ByteArray),(⟨bt124.1,bt124.2.1,3,bt124.2.2.2⟩ : S23),2,t172⟩ : S49)] : List (S49)) : List (S49))).bind fun y175 => (jo.l0 k y175 (y175.length : Int) 0)))))))))))
theorem jo.zP : ∀ k,(∀ y0 y1 y2,LeO (jo.l0 k y0 y1 y2) (jo.l0 (k + 1) y0 y1 y2))
 | 0 => fun _ _ _ r h => by simp [jo.l0] at h
 | k + 1 => by
  have ih0:=jo.zP k
  ·intro y0 y1 y2
   unfold jo.l0
   repeat' first
   | (with_reducible exact ih0 _ _ _)
   | (with_reducible exact qB.mono _ _ _)
   | (with_reducible exact qV.mono _ _ _)
   | (with_reducible exact LeO.refl _)
   | (with_reducible exact LeO.none _)
   | (with_reducible refine LeO.ite ?_ ?_)
   | (with_reducible refine LeO.bind ?_ (fun _ => ?_))
   | exact ih0 _ _ _
   | exact qB.mono _ _ _
   | exact qV.mono _ _ _
   | exact LeO.none _
   | refine LeO.ite ?_ ?_
   | refine LeO.bind ?_ (fun _ => ?_)
theorem jo.mono : ∀ k,LeO (jo.f k ) (jo.f (k + 1) ):=by
 intro  k
 have ih0:=jo.zP k
 unfold jo.f
 repeat' first
   | (with_reducible exact ih0 _ _ _)
   | (with_reducible exact qB.mono _ _ _)
   | (with_reducible exact qV.mono _ _ _)
   | (with_reducible exact LeO.refl _)
   | (with_reducible exact LeO.none _)
   | (with_reducible refine LeO.ite ?_ ?_)
   | (with_reducible refine LeO.bind ?_ (fun _ => ?_))
   | exact ih0 _ _ _
   | exact qB.mono _ _ _
   | exact qV.mono _ _ _
   | exact LeO.none _
   | refine LeO.ite ?_ ?_
   | refine LeO.bind ?_ (fun _ => ?_)
def jo.T3 : Bool × List (List Nat × List Nat):=(true,[([],[]),([],[]),([1,0],[1]),([0,2],[0,2]),([2],[]),([],[]),([5,4],[5]),([4,6],[4,6]),([6],[]),([],[]),([9,8],[9]),([8,10],[8,10]),([10],[]),([],[]),([13,12],[13]),([12,14],[12,14]),([],[]),([],[]),([17,14],[17]),([16,18],[16,18]),([3,7,11,15,19],[3,7,11,15,19]),([20],[20]),([],[])])
def jo.B3 : List Nat:=[0,0,3,7,7,0,55,119,119,0,887,1911,1911,0,14199,30583,0,0,161655,489335,1048575,2097151,0]
theorem jo.tab3 : rtab .any (opsOf Try.f9 3) = jo.T3:=by kernel_rfl
theorem jo.Kq : zt jo.T3.2 jo.B3 = true:=by kernel_rfl
set_option maxHeartbeats 8000000 in
set_option maxRecDepth 100000 in
theorem jo.calls (k : Nat)  (r : Bool) (hr : r = true) (w : World) (h : jo.f k  = some r) :
  Calls Try.prog 9 #[] w fun e w' => e = .returned (.bool r) ∧ Below w.heap.size w w':=by
 have hu23:=Try.underlying23
 have hu49:=Try.underlying49
 have HB:=qd.mk (Below.refl w.heap.size w)
 have H : ((qK.f).bind fun bt124 => ((qK.f).bind fun bt129 => ((qo.f (⟨#[]⟩ : ByteArray) (([1,3,1] : List Int))).bind fun t136 => ((qK.f).bind fun bt139 => ((qo.f (⟨#[69]⟩ : ByteArray) (([1,1,1,1,5] : List Int))).bind fun t146 => ((qK.f).bind fun bt149 => ((qo.f (⟨#[]⟩ : ByteArray) (([4,4] : List Int))).bind fun t156 => ((qK.f).bind fun bt159 => ((qo.f (⟨#[65,66,67]⟩ : ByteArray) (([2,2,5] : List Int))).bind fun t166 => ((qo.f (⟨#[66]⟩ : ByteArray) (([4,5] : List Int))).bind fun t172 => ((some (([(⟨(⟨#[82,79,65,68]⟩ : ByteArray),(⟨#[82,65,79,68]⟩ : ByteArray),(⟨bt129.1,bt129.2.1,bt129.2.2.1,bt129.2.2.2⟩ : S23),1,t136⟩ : S49),(⟨(⟨#[77,65,73,78]⟩ : ByteArray),(⟨#[77,65,73,78,69]⟩ : ByteArray),(⟨bt139.1,bt139.2.1,bt139.2.2.1,bt139.2.2.2⟩ : S23),1,t146⟩ : S49),(⟨(⟨#[65,66]⟩ : ByteArray),(⟨#[]⟩ : ByteArray),(⟨bt149.1,bt149.2.1,bt149.2.2.1,bt149.2.2.2⟩ : S23),2,t156⟩ : S49),(⟨(⟨#[67,65]⟩ : ByteArray),(⟨#[65,66,67]⟩ : ByteArray),(⟨bt159.1,bt159.2.1,bt159.2.2.1,bt159.2.2.2⟩ : S23),3,t166⟩ : S49),(⟨(⟨#[65]⟩ : ByteArray),(⟨#[66]⟩ : ByteArray),(⟨bt124.1,bt124.2.1,3,bt124.2.2.2⟩ : S23),2,t172⟩ : S49)] : List (S49)) : List (S49))).bind fun y175 => (jo.l0 k y175 (y175.length : Int) 0)))))))))))) = some r:=h
 clear h
 replace H:=Option.bind_eq_some_iff.mp H
 obtain ⟨⟨t124,t125,t126,t127⟩,A10,H⟩:=H
 replace H : ((qK.f).bind fun bt129 => ((qo.f (⟨#[]⟩ : ByteArray) (([1,3,1] : List Int))).bind fun t136 => ((qK.f).bind fun bt139 => ((qo.f (⟨#[69]⟩ : ByteArray) (([1,1,1,1,5] : List Int))).bind fun t146 => ((qK.f).bind fun bt149 => ((qo.f (⟨#[]⟩ : ByteArray) (([4,4] : List Int))).bind fun t156 => ((qK.f).bind fun bt159 => ((qo.f (⟨#[65,66,67]⟩ : ByteArray) (([2,2,5] : List Int))).bind fun t166 => ((qo.f (⟨#[66]⟩ : ByteArray) (([4,5] : List Int))).bind fun t172 => ((some (([(⟨(⟨#[82,79,65,68]⟩ : ByteArray),(⟨#[82,65,79,68]⟩ : ByteArray),(⟨bt129.1,bt129.2.1,bt129.2.2.1,bt129.2.2.2⟩ : S23),1,t136⟩ : S49),(⟨(⟨#[77,65,73,78]⟩ : ByteArray),(⟨#[77,65,73,78,69]⟩ : ByteArray),(⟨bt139.1,bt139.2.1,bt139.2.2.1,bt139.2.2.2⟩ : S23),1,t146⟩ : S49),(⟨(⟨#[65,66]⟩ : ByteArray),(⟨#[]⟩ : ByteArray),(⟨bt149.1,bt149.2.1,bt149.2.2.1,bt149.2.2.2⟩ : S23),2,t156⟩ : S49),(⟨(⟨#[67,65]⟩ : ByteArray),(⟨#[65,66,67]⟩ : ByteArray),(⟨bt159.1,bt159.2.1,bt159.2.2.1,bt159.2.2.2⟩ : S23),3,t166⟩ : S49),(⟨(⟨#[65]⟩ : ByteArray),(⟨#[66]⟩ : ByteArray),(⟨t124,t125,3,t127⟩ : S23),2,t172⟩ : S49)] : List (S49)) : List (S49))).bind fun y175 => (jo.l0 k y175 (y175.length : Int) 0))))))))))) = some r:=H
 have A1:=qd.mk A10
 clear A10
 replace H:=Option.bind_eq_some_iff.mp H
 obtain ⟨⟨t129,t130,t131,t132⟩,A20,H⟩:=H
 replace H : ((qo.f (⟨#[]⟩ : ByteArray) (([1,3,1] : List Int))).bind fun t136 => ((qK.f).bind fun bt139 => ((qo.f (⟨#[69]⟩ : ByteArray) (([1,1,1,1,5] : List Int))).bind fun t146 => ((qK.f).bind fun bt149 => ((qo.f (⟨#[]⟩ : ByteArray) (([4,4] : List Int))).bind fun t156 => ((qK.f).bind fun bt159 => ((qo.f (⟨#[65,66,67]⟩ : ByteArray) (([2,2,5] : List Int))).bind fun t166 => ((qo.f (⟨#[66]⟩ : ByteArray) (([4,5] : List Int))).bind fun t172 => ((some (([(⟨(⟨#[82,79,65,68]⟩ : ByteArray),(⟨#[82,65,79,68]⟩ : ByteArray),(⟨t129,t130,t131,t132⟩ : S23),1,t136⟩ : S49),(⟨(⟨#[77,65,73,78]⟩ : ByteArray),(⟨#[77,65,73,78,69]⟩ : ByteArray),(⟨bt139.1,bt139.2.1,bt139.2.2.1,bt139.2.2.2⟩ : S23),1,t146⟩ : S49),(⟨(⟨#[65,66]⟩ : ByteArray),(⟨#[]⟩ : ByteArray),(⟨bt149.1,bt149.2.1,bt149.2.2.1,bt149.2.2.2⟩ : S23),2,t156⟩ : S49),(⟨(⟨#[67,65]⟩ : ByteArray),(⟨#[65,66,67]⟩ : ByteArray),(⟨bt159.1,bt159.2.1,bt159.2.2.1,bt159.2.2.2⟩ : S23),3,t166⟩ : S49),(⟨(⟨#[65]⟩ : ByteArray),(⟨#[66]⟩ : ByteArray),(⟨t124,t125,3,t127⟩ : S23),2,t172⟩ : S49)] : List (S49)) : List (S49))).bind fun y175 => (jo.l0 k y175 (y175.length : Int) 0)))))))))) = some r:=H
 have A2:=qd.mk A20
 clear A20
 obtain ⟨y133,hy133⟩ : ∃ y_ : List Int,y_ = (([1,3,1] : List Int)):=⟨_,rfl⟩
 replace H : ((qo.f (⟨#[]⟩ : ByteArray) y133).bind fun t136 => ((qK.f).bind fun bt139 => ((qo.f (⟨#[69]⟩ : ByteArray) (([1,1,1,1,5] : List Int))).bind fun t146 => ((qK.f).bind fun bt149 => ((qo.f (⟨#[]⟩ : ByteArray) (([4,4] : List Int))).bind fun t156 => ((qK.f).bind fun bt159 => ((qo.f (⟨#[65,66,67]⟩ : ByteArray) (([2,2,5] : List Int))).bind fun t166 => ((qo.f (⟨#[66]⟩ : ByteArray) (([4,5] : List Int))).bind fun t172 => ((some (([(⟨(⟨#[82,79,65,68]⟩ : ByteArray),(⟨#[82,65,79,68]⟩ : ByteArray),(⟨t129,t130,t131,t132⟩ : S23),1,t136⟩ : S49),(⟨(⟨#[77,65,73,78]⟩ : ByteArray),(⟨#[77,65,73,78,69]⟩ : ByteArray),(⟨bt139.1,bt139.2.1,bt139.2.2.1,bt139.2.2.2⟩ : S23),1,t146⟩ : S49),(⟨(⟨#[65,66]⟩ : ByteArray),(⟨#[]⟩ : ByteArray),(⟨bt149.1,bt149.2.1,bt149.2.2.1,bt149.2.2.2⟩ : S23),2,t156⟩ : S49),(⟨(⟨#[67,65]⟩ : ByteArray),(⟨#[65,66,67]⟩ : ByteArray),(⟨bt159.1,bt159.2.1,bt159.2.2.1,bt159.2.2.2⟩ : S23),3,t166⟩ : S49),(⟨(⟨#[65]⟩ : ByteArray),(⟨#[66]⟩ : ByteArray),(⟨t124,t125,3,t127⟩ : S23),2,t172⟩ : S49)] : List (S49)) : List (S49))).bind fun y175 => (jo.l0 k y175 (y175.length : Int) 0)))))))))) = some r:=by first|(rw [hy133];with_reducible exact H)|(have H2_:=(Option.bind_some _ _).symm.trans H;rw [hy133];with_reducible exact H2_)|(have H2_:=(Option.bind_some _ _).symm.trans H;with_reducible exact H2_)|with_reducible exact H|(rw [hy133];exact H)|exact H
 have Ny133:=qd.mk hy133
 clear hy133
 replace H:=Option.bind_eq_some_iff.mp H
 obtain ⟨t136,A30,H⟩:=H
 replace H : ((qK.f).bind fun bt139 => ((qo.f (⟨#[69]⟩ : ByteArray) (([1,1,1,1,5] : List Int))).bind fun t146 => ((qK.f).bind fun bt149 => ((qo.f (⟨#[]⟩ : ByteArray) (([4,4] : List Int))).bind fun t156 => ((qK.f).bind fun bt159 => ((qo.f (⟨#[65,66,67]⟩ : ByteArray) (([2,2,5] : List Int))).bind fun t166 => ((qo.f (⟨#[66]⟩ : ByteArray) (([4,5] : List Int))).bind fun t172 => ((some (([(⟨(⟨#[82,79,65,68]⟩ : ByteArray),(⟨#[82,65,79,68]⟩ : ByteArray),(⟨t129,t130,t131,t132⟩ : S23),1,t136⟩ : S49),(⟨(⟨#[77,65,73,78]⟩ : ByteArray),(⟨#[77,65,73,78,69]⟩ : ByteArray),(⟨bt139.1,bt139.2.1,bt139.2.2.1,bt139.2.2.2⟩ : S23),1,t146⟩ : S49),(⟨(⟨#[65,66]⟩ : ByteArray),(⟨#[]⟩ : ByteArray),(⟨bt149.1,bt149.2.1,bt149.2.2.1,bt149.2.2.2⟩ : S23),2,t156⟩ : S49),(⟨(⟨#[67,65]⟩ : ByteArray),(⟨#[65,66,67]⟩ : ByteArray),(⟨bt159.1,bt159.2.1,bt159.2.2.1,bt159.2.2.2⟩ : S23),3,t166⟩ : S49),(⟨(⟨#[65]⟩ : ByteArray),(⟨#[66]⟩ : ByteArray),(⟨t124,t125,3,t127⟩ : S23),2,t172⟩ : S49)] : List (S49)) : List (S49))).bind fun y175 => (jo.l0 k y175 (y175.length : Int) 0))))))))) = some r:=H
 have A3:=qd.mk A30
 clear A30
 replace H:=Option.bind_eq_some_iff.mp H
 obtain ⟨⟨t139,t140,t141,t142⟩,A40,H⟩:=H
 replace H : ((qo.f (⟨#[69]⟩ : ByteArray) (([1,1,1,1,5] : List Int))).bind fun t146 => ((qK.f).bind fun bt149 => ((qo.f (⟨#[]⟩ : ByteArray) (([4,4] : List Int))).bind fun t156 => ((qK.f).bind fun bt159 => ((qo.f (⟨#[65,66,67]⟩ : ByteArray) (([2,2,5] : List Int))).bind fun t166 => ((qo.f (⟨#[66]⟩ : ByteArray) (([4,5] : List Int))).bind fun t172 => ((some (([(⟨(⟨#[82,79,65,68]⟩ : ByteArray),(⟨#[82,65,79,68]⟩ : ByteArray),(⟨t129,t130,t131,t132⟩ : S23),1,t136⟩ : S49),(⟨(⟨#[77,65,73,78]⟩ : ByteArray),(⟨#[77,65,73,78,69]⟩ : ByteArray),(⟨t139,t140,t141,t142⟩ : S23),1,t146⟩ : S49),(⟨(⟨#[65,66]⟩ : ByteArray),(⟨#[]⟩ : ByteArray),(⟨bt149.1,bt149.2.1,bt149.2.2.1,bt149.2.2.2⟩ : S23),2,t156⟩ : S49),(⟨(⟨#[67,65]⟩ : ByteArray),(⟨#[65,66,67]⟩ : ByteArray),(⟨bt159.1,bt159.2.1,bt159.2.2.1,bt159.2.2.2⟩ : S23),3,t166⟩ : S49),(⟨(⟨#[65]⟩ : ByteArray),(⟨#[66]⟩ : ByteArray),(⟨t124,t125,3,t127⟩ : S23),2,t172⟩ : S49)] : List (S49)) : List (S49))).bind fun y175 => (jo.l0 k y175 (y175.length : Int) 0)))))))) = some r:=H
 have A4:=qd.mk A40
 clear A40
 obtain ⟨y143,hy143⟩ : ∃ y_ : List Int,y_ = (([1,1,1,1,5] : List Int)):=⟨_,rfl⟩
 replace H : ((qo.f (⟨#[69]⟩ : ByteArray) y143).bind fun t146 => ((qK.f).bind fun bt149 => ((qo.f (⟨#[]⟩ : ByteArray) (([4,4] : List Int))).bind fun t156 => ((qK.f).bind fun bt159 => ((qo.f (⟨#[65,66,67]⟩ : ByteArray) (([2,2,5] : List Int))).bind fun t166 => ((qo.f (⟨#[66]⟩ : ByteArray) (([4,5] : List Int))).bind fun t172 => ((some (([(⟨(⟨#[82,79,65,68]⟩ : ByteArray),(⟨#[82,65,79,68]⟩ : ByteArray),(⟨t129,t130,t131,t132⟩ : S23),1,t136⟩ : S49),(⟨(⟨#[77,65,73,78]⟩ : ByteArray),(⟨#[77,65,73,78,69]⟩ : ByteArray),(⟨t139,t140,t141,t142⟩ : S23),1,t146⟩ : S49),(⟨(⟨#[65,66]⟩ : ByteArray),(⟨#[]⟩ : ByteArray),(⟨bt149.1,bt149.2.1,bt149.2.2.1,bt149.2.2.2⟩ : S23),2,t156⟩ : S49),(⟨(⟨#[67,65]⟩ : ByteArray),(⟨#[65,66,67]⟩ : ByteArray),(⟨bt159.1,bt159.2.1,bt159.2.2.1,bt159.2.2.2⟩ : S23),3,t166⟩ : S49),(⟨(⟨#[65]⟩ : ByteArray),(⟨#[66]⟩ : ByteArray),(⟨t124,t125,3,t127⟩ : S23),2,t172⟩ : S49)] : List (S49)) : List (S49))).bind fun y175 => (jo.l0 k y175 (y175.length : Int) 0)))))))) = some r:=by first|(rw [hy143];with_reducible exact H)|(have H2_:=(Option.bind_some _ _).symm.trans H;rw [hy143];with_reducible exact H2_)|(have H2_:=(Option.bind_some _ _).symm.trans H;with_reducible exact H2_)|with_reducible exact H|(rw [hy143];exact H)|exact H
 have Ny143:=qd.mk hy143
 clear hy143
 replace H:=Option.bind_eq_some_iff.mp H
 obtain ⟨t146,A50,H⟩:=H
 replace H : ((qK.f).bind fun bt149 => ((qo.f (⟨#[]⟩ : ByteArray) (([4,4] : List Int))).bind fun t156 => ((qK.f).bind fun bt159 => ((qo.f (⟨#[65,66,67]⟩ : ByteArray) (([2,2,5] : List Int))).bind fun t166 => ((qo.f (⟨#[66]⟩ : ByteArray) (([4,5] : List Int))).bind fun t172 => ((some (([(⟨(⟨#[82,79,65,68]⟩ : ByteArray),(⟨#[82,65,79,68]⟩ : ByteArray),(⟨t129,t130,t131,t132⟩ : S23),1,t136⟩ : S49),(⟨(⟨#[77,65,73,78]⟩ : ByteArray),(⟨#[77,65,73,78,69]⟩ : ByteArray),(⟨t139,t140,t141,t142⟩ : S23),1,t146⟩ : S49),(⟨(⟨#[65,66]⟩ : ByteArray),(⟨#[]⟩ : ByteArray),(⟨bt149.1,bt149.2.1,bt149.2.2.1,bt149.2.2.2⟩ : S23),2,t156⟩ : S49),(⟨(⟨#[67,65]⟩ : ByteArray),(⟨#[65,66,67]⟩ : ByteArray),(⟨bt159.1,bt159.2.1,bt159.2.2.1,bt159.2.2.2⟩ : S23),3,t166⟩ : S49),(⟨(⟨#[65]⟩ : ByteArray),(⟨#[66]⟩ : ByteArray),(⟨t124,t125,3,t127⟩ : S23),2,t172⟩ : S49)] : List (S49)) : List (S49))).bind fun y175 => (jo.l0 k y175 (y175.length : Int) 0))))))) = some r:=H
 have A5:=qd.mk A50
 clear A50
 replace H:=Option.bind_eq_some_iff.mp H
 obtain ⟨⟨t149,t150,t151,t152⟩,A60,H⟩:=H
 replace H : ((qo.f (⟨#[]⟩ : ByteArray) (([4,4] : List Int))).bind fun t156 => ((qK.f).bind fun bt159 => ((qo.f (⟨#[65,66,67]⟩ : ByteArray) (([2,2,5] : List Int))).bind fun t166 => ((qo.f (⟨#[66]⟩ : ByteArray) (([4,5] : List Int))).bind fun t172 => ((some (([(⟨(⟨#[82,79,65,68]⟩ : ByteArray),(⟨#[82,65,79,68]⟩ : ByteArray),(⟨t129,t130,t131,t132⟩ : S23),1,t136⟩ : S49),(⟨(⟨#[77,65,73,78]⟩ : ByteArray),(⟨#[77,65,73,78,69]⟩ : ByteArray),(⟨t139,t140,t141,t142⟩ : S23),1,t146⟩ : S49),(⟨(⟨#[65,66]⟩ : ByteArray),(⟨#[]⟩ : ByteArray),(⟨t149,t150,t151,t152⟩ : S23),2,t156⟩ : S49),(⟨(⟨#[67,65]⟩ : ByteArray),(⟨#[65,66,67]⟩ : ByteArray),(⟨bt159.1,bt159.2.1,bt159.2.2.1,bt159.2.2.2⟩ : S23),3,t166⟩ : S49),(⟨(⟨#[65]⟩ : ByteArray),(⟨#[66]⟩ : ByteArray),(⟨t124,t125,3,t127⟩ : S23),2,t172⟩ : S49)] : List (S49)) : List (S49))).bind fun y175 => (jo.l0 k y175 (y175.length : Int) 0)))))) = some r:=H
 have A6:=qd.mk A60
 clear A60
 obtain ⟨y153,hy153⟩ : ∃ y_ : List Int,y_ = (([4,4] : List Int)):=⟨_,rfl⟩
 replace H : ((qo.f (⟨#[]⟩ : ByteArray) y153).bind fun t156 => ((qK.f).bind fun bt159 => ((qo.f (⟨#[65,66,67]⟩ : ByteArray) (([2,2,5] : List Int))).bind fun t166 => ((qo.f (⟨#[66]⟩ : ByteArray) (([4,5] : List Int))).bind fun t172 => ((some (([(⟨(⟨#[82,79,65,68]⟩ : ByteArray),(⟨#[82,65,79,68]⟩ : ByteArray),(⟨t129,t130,t131,t132⟩ : S23),1,t136⟩ : S49),(⟨(⟨#[77,65,73,78]⟩ : ByteArray),(⟨#[77,65,73,78,69]⟩ : ByteArray),(⟨t139,t140,t141,t142⟩ : S23),1,t146⟩ : S49),(⟨(⟨#[65,66]⟩ : ByteArray),(⟨#[]⟩ : ByteArray),(⟨t149,t150,t151,t152⟩ : S23),2,t156⟩ : S49),(⟨(⟨#[67,65]⟩ : ByteArray),(⟨#[65,66,67]⟩ : ByteArray),(⟨bt159.1,bt159.2.1,bt159.2.2.1,bt159.2.2.2⟩ : S23),3,t166⟩ : S49),(⟨(⟨#[65]⟩ : ByteArray),(⟨#[66]⟩ : ByteArray),(⟨t124,t125,3,t127⟩ : S23),2,t172⟩ : S49)] : List (S49)) : List (S49))).bind fun y175 => (jo.l0 k y175 (y175.length : Int) 0)))))) = some r:=by first|(rw [hy153];with_reducible exact H)|(have H2_:=(Option.bind_some _ _).symm.trans H;rw [hy153];with_reducible exact H2_)|(have H2_:=(Option.bind_some _ _).symm.trans H;with_reducible exact H2_)|with_reducible exact H|(rw [hy153];exact H)|exact H
 have Ny153:=qd.mk hy153
 clear hy153
 replace H:=Option.bind_eq_some_iff.mp H
 obtain ⟨t156,A70,H⟩:=H
 replace H : ((qK.f).bind fun bt159 => ((qo.f (⟨#[65,66,67]⟩ : ByteArray) (([2,2,5] : List Int))).bind fun t166 => ((qo.f (⟨#[66]⟩ : ByteArray) (([4,5] : List Int))).bind fun t172 => ((some (([(⟨(⟨#[82,79,65,68]⟩ : ByteArray),(⟨#[82,65,79,68]⟩ : ByteArray),(⟨t129,t130,t131,t132⟩ : S23),1,t136⟩ : S49),(⟨(⟨#[77,65,73,78]⟩ : ByteArray),(⟨#[77,65,73,78,69]⟩ : ByteArray),(⟨t139,t140,t141,t142⟩ : S23),1,t146⟩ : S49),(⟨(⟨#[65,66]⟩ : ByteArray),(⟨#[]⟩ : ByteArray),(⟨t149,t150,t151,t152⟩ : S23),2,t156⟩ : S49),(⟨(⟨#[67,65]⟩ : ByteArray),(⟨#[65,66,67]⟩ : ByteArray),(⟨bt159.1,bt159.2.1,bt159.2.2.1,bt159.2.2.2⟩ : S23),3,t166⟩ : S49),(⟨(⟨#[65]⟩ : ByteArray),(⟨#[66]⟩ : ByteArray),(⟨t124,t125,3,t127⟩ : S23),2,t172⟩ : S49)] : List (S49)) : List (S49))).bind fun y175 => (jo.l0 k y175 (y175.length : Int) 0))))) = some r:=H
 have A7:=qd.mk A70
 clear A70
 replace H:=Option.bind_eq_some_iff.mp H
 obtain ⟨⟨t159,t160,t161,t162⟩,A80,H⟩:=H
 replace H : ((qo.f (⟨#[65,66,67]⟩ : ByteArray) (([2,2,5] : List Int))).bind fun t166 => ((qo.f (⟨#[66]⟩ : ByteArray) (([4,5] : List Int))).bind fun t172 => ((some (([(⟨(⟨#[82,79,65,68]⟩ : ByteArray),(⟨#[82,65,79,68]⟩ : ByteArray),(⟨t129,t130,t131,t132⟩ : S23),1,t136⟩ : S49),(⟨(⟨#[77,65,73,78]⟩ : ByteArray),(⟨#[77,65,73,78,69]⟩ : ByteArray),(⟨t139,t140,t141,t142⟩ : S23),1,t146⟩ : S49),(⟨(⟨#[65,66]⟩ : ByteArray),(⟨#[]⟩ : ByteArray),(⟨t149,t150,t151,t152⟩ : S23),2,t156⟩ : S49),(⟨(⟨#[67,65]⟩ : ByteArray),(⟨#[65,66,67]⟩ : ByteArray),(⟨t159,t160,t161,t162⟩ : S23),3,t166⟩ : S49),(⟨(⟨#[65]⟩ : ByteArray),(⟨#[66]⟩ : ByteArray),(⟨t124,t125,3,t127⟩ : S23),2,t172⟩ : S49)] : List (S49)) : List (S49))).bind fun y175 => (jo.l0 k y175 (y175.length : Int) 0)))) = some r:=H
 have A8:=qd.mk A80
 clear A80
 obtain ⟨y163,hy163⟩ : ∃ y_ : List Int,y_ = (([2,2,5] : List Int)):=⟨_,rfl⟩
 replace H : ((qo.f (⟨#[65,66,67]⟩ : ByteArray) y163).bind fun t166 => ((qo.f (⟨#[66]⟩ : ByteArray) (([4,5] : List Int))).bind fun t172 => ((some (([(⟨(⟨#[82,79,65,68]⟩ : ByteArray),(⟨#[82,65,79,68]⟩ : ByteArray),(⟨t129,t130,t131,t132⟩ : S23),1,t136⟩ : S49),(⟨(⟨#[77,65,73,78]⟩ : ByteArray),(⟨#[77,65,73,78,69]⟩ : ByteArray),(⟨t139,t140,t141,t142⟩ : S23),1,t146⟩ : S49),(⟨(⟨#[65,66]⟩ : ByteArray),(⟨#[]⟩ : ByteArray),(⟨t149,t150,t151,t152⟩ : S23),2,t156⟩ : S49),(⟨(⟨#[67,65]⟩ : ByteArray),(⟨#[65,66,67]⟩ : ByteArray),(⟨t159,t160,t161,t162⟩ : S23),3,t166⟩ : S49),(⟨(⟨#[65]⟩ : ByteArray),(⟨#[66]⟩ : ByteArray),(⟨t124,t125,3,t127⟩ : S23),2,t172⟩ : S49)] : List (S49)) : List (S49))).bind fun y175 => (jo.l0 k y175 (y175.length : Int) 0)))) = some r:=by first|(rw [hy163];with_reducible exact H)|(have H2_:=(Option.bind_some _ _).symm.trans H;rw [hy163];with_reducible exact H2_)|(have H2_:=(Option.bind_some _ _).symm.trans H;with_reducible exact H2_)|with_reducible exact H|(rw [hy163];exact H)|exact H
 have Ny163:=qd.mk hy163
 clear hy163
 replace H:=Option.bind_eq_some_iff.mp H
 obtain ⟨t166,A90,H⟩:=H
 replace H : ((qo.f (⟨#[66]⟩ : ByteArray) (([4,5] : List Int))).bind fun t172 => ((some (([(⟨(⟨#[82,79,65,68]⟩ : ByteArray),(⟨#[82,65,79,68]⟩ : ByteArray),(⟨t129,t130,t131,t132⟩ : S23),1,t136⟩ : S49),(⟨(⟨#[77,65,73,78]⟩ : ByteArray),(⟨#[77,65,73,78,69]⟩ : ByteArray),(⟨t139,t140,t141,t142⟩ : S23),1,t146⟩ : S49),(⟨(⟨#[65,66]⟩ : ByteArray),(⟨#[]⟩ : ByteArray),(⟨t149,t150,t151,t152⟩ : S23),2,t156⟩ : S49),(⟨(⟨#[67,65]⟩ : ByteArray),(⟨#[65,66,67]⟩ : ByteArray),(⟨t159,t160,t161,t162⟩ : S23),3,t166⟩ : S49),(⟨(⟨#[65]⟩ : ByteArray),(⟨#[66]⟩ : ByteArray),(⟨t124,t125,3,t127⟩ : S23),2,t172⟩ : S49)] : List (S49)) : List (S49))).bind fun y175 => (jo.l0 k y175 (y175.length : Int) 0))) = some r:=H
 have A9:=qd.mk A90
 clear A90
 obtain ⟨y169,hy169⟩ : ∃ y_ : List Int,y_ = (([4,5] : List Int)):=⟨_,rfl⟩
 replace H : ((qo.f (⟨#[66]⟩ : ByteArray) y169).bind fun t172 => ((some (([(⟨(⟨#[82,79,65,68]⟩ : ByteArray),(⟨#[82,65,79,68]⟩ : ByteArray),(⟨t129,t130,t131,t132⟩ : S23),1,t136⟩ : S49),(⟨(⟨#[77,65,73,78]⟩ : ByteArray),(⟨#[77,65,73,78,69]⟩ : ByteArray),(⟨t139,t140,t141,t142⟩ : S23),1,t146⟩ : S49),(⟨(⟨#[65,66]⟩ : ByteArray),(⟨#[]⟩ : ByteArray),(⟨t149,t150,t151,t152⟩ : S23),2,t156⟩ : S49),(⟨(⟨#[67,65]⟩ : ByteArray),(⟨#[65,66,67]⟩ : ByteArray),(⟨t159,t160,t161,t162⟩ : S23),3,t166⟩ : S49),(⟨(⟨#[65]⟩ : ByteArray),(⟨#[66]⟩ : ByteArray),(⟨t124,t125,3,t127⟩ : S23),2,t172⟩ : S49)] : List (S49)) : List (S49))).bind fun y175 => (jo.l0 k y175 (y175.length : Int) 0))) = some r:=by first|(rw [hy169];with_reducible exact H)|(have H2_:=(Option.bind_some _ _).symm.trans H;rw [hy169];with_reducible exact H2_)|(have H2_:=(Option.bind_some _ _).symm.trans H;with_reducible exact H2_)|with_reducible exact H|(rw [hy169];exact H)|exact H
 have Ny169:=qd.mk hy169
 clear hy169
 replace H:=Option.bind_eq_some_iff.mp H
 obtain ⟨t172,A100,H⟩:=H
 replace H : ((some (([(⟨(⟨#[82,79,65,68]⟩ : ByteArray),(⟨#[82,65,79,68]⟩ : ByteArray),(⟨t129,t130,t131,t132⟩ : S23),1,t136⟩ : S49),(⟨(⟨#[77,65,73,78]⟩ : ByteArray),(⟨#[77,65,73,78,69]⟩ : ByteArray),(⟨t139,t140,t141,t142⟩ : S23),1,t146⟩ : S49),(⟨(⟨#[65,66]⟩ : ByteArray),(⟨#[]⟩ : ByteArray),(⟨t149,t150,t151,t152⟩ : S23),2,t156⟩ : S49),(⟨(⟨#[67,65]⟩ : ByteArray),(⟨#[65,66,67]⟩ : ByteArray),(⟨t159,t160,t161,t162⟩ : S23),3,t166⟩ : S49),(⟨(⟨#[65]⟩ : ByteArray),(⟨#[66]⟩ : ByteArray),(⟨t124,t125,3,t127⟩ : S23),2,t172⟩ : S49)] : List (S49)) : List (S49))).bind fun y175 => (jo.l0 k y175 (y175.length : Int) 0)) = some r:=H
 have A10:=qd.mk A100
 clear A100
 obtain ⟨y175,hy175⟩ : ∃ y_ : List (S49),y_ = (([(⟨(⟨#[82,79,65,68]⟩ : ByteArray),(⟨#[82,65,79,68]⟩ : ByteArray),(⟨t129,t130,t131,t132⟩ : S23),1,t136⟩ : S49),(⟨(⟨#[77,65,73,78]⟩ : ByteArray),(⟨#[77,65,73,78,69]⟩ : ByteArray),(⟨t139,t140,t141,t142⟩ : S23),1,t146⟩ : S49),(⟨(⟨#[65,66]⟩ : ByteArray),(⟨#[]⟩ : ByteArray),(⟨t149,t150,t151,t152⟩ : S23),2,t156⟩ : S49),(⟨(⟨#[67,65]⟩ : ByteArray),(⟨#[65,66,67]⟩ : ByteArray),(⟨t159,t160,t161,t162⟩ : S23),3,t166⟩ : S49),(⟨(⟨#[65]⟩ : ByteArray),(⟨#[66]⟩ : ByteArray),(⟨t124,t125,3,t127⟩ : S23),2,t172⟩ : S49)] : List (S49))):=⟨_,rfl⟩
 replace H : (jo.l0 k y175 (y175.length : Int) 0) = some r:=by first|(rw [hy175];with_reducible exact H)|(have H2_:=(Option.bind_some _ _).symm.trans H;rw [hy175];with_reducible exact H2_)|(have H2_:=(Option.bind_some _ _).symm.trans H;with_reducible exact H2_)|with_reducible exact H|(rw [hy175];exact H)|exact H
 have Ny175:=qd.mk hy175
 clear hy175
 have H':=qd.mk H
 clear H
 go_enter Try.func9,Try.ntmps9
 try go_wp2_with (first|((with_reducible refine qZ (f:=15) rfl ?_);refine jL (some 23) rfl rfl Try.func15 (by kernel_rfl) rfl #[] rfl (by (try simp only [List.map_toArray,List.map_cons,List.map_nil]);first|done|rfl|(simp only [List.length_drop,List.length_take];rfl)) ?_;(with_reducible refine (qK.calls  t124 t125 t126 t127 _ A1.out).mono ?_);rintro e w11 ⟨rfl,hb⟩;refine ⟨_,rfl,?_⟩;have n0_:=qd.mk (qI (by repeat (first|(with_reducible first|exact HB.out|apply qg|apply qc|apply qf)|exact HB.out)) hb);clear HB;have HB:=n0_;clear n0_;(try clear hb);(try clear hb2);(try clear hk);(try clear hi))|((with_reducible refine ji (N:=1) rfl ?_);refine jg ?hg (N:=1) ?hd (cs:=#[.int .i64 0,.int .i64 0,.int .i64 0,.int .i64 0]) (t:=23) ?hr ?_;(case hd => rfl);(case hg => rfl);(case hr => first|(go_simp;done)|(go_simp;rfl));intro gb128 hg w12 hbox hb;have n0_:=qd.mk (qI (by repeat (first|(with_reducible first|exact HB.out|apply qg|apply qc|apply qf)|exact HB.out)) hb);have n1_:=qd.mk (hbox);have n2_:=qd.mk ((by rw [hg];exact (qH (by repeat (first|(with_reducible first|exact HB.out|apply qg|apply qc|apply qf)|exact HB.out))) : w.heap.size ≤ gb128));have n3_:=qd.mk ((by rw [hg];exact (qH (by repeat (first|(with_reducible first|exact HB.out|apply qg|apply qc|apply qf)|exact HB.out))) : w.heap.size ≤ gb128));clear HB;have HB:=n0_;have BK128:=n1_;have GW128:=n2_;have GE128:=n3_;clear n0_ n1_ n2_ n3_;clear hb hbox hg;have hcz13_0 : w12.cell? ⟨gb128,0,none⟩ = some (.int .i64 0):=(qi BK128.out 0).trans rfl;have hcz13_1 : w12.cell? ⟨gb128,1,none⟩ = some (.int .i64 0):=(qi BK128.out 1).trans rfl;have hcz13_2 : w12.cell? ⟨gb128,2,none⟩ = some (.int .i64 0):=(qi BK128.out 2).trans rfl;have hcz13_3 : w12.cell? ⟨gb128,3,none⟩ = some (.int .i64 0):=(qi BK128.out 3).trans rfl;have hfz13_0:=ql BK128.out 0;have hfz13_1:=ql BK128.out 1;have hfz13_2:=ql BK128.out 2;have hfz13_3:=ql BK128.out 3))
 have n0_ : qd ((((((w12.setCell ⟨gb128,0,none⟩ (.int .i64 t124)).setCell ⟨gb128,1,none⟩ (.int .i64 t125)).setCell ⟨gb128,2,none⟩ (.int .i64 t126)).setCell ⟨gb128,3,none⟩ (.int .i64 t127)).setCell ⟨gb128,2,none⟩ (.int .i64 3)).heap[gb128]? = some (.cells #[.int .i64 t124,.int .i64 t125,.int .i64 3,.int .i64 t127] 23 (0,0))):=⟨by (with_reducible repeat (first|refine qx ?_ _|refine qA ?_|refine qw ?_ _));refine jh (cs:=#[.int .i64 t124,.int .i64 t125,.int .i64 t126,.int .i64 t127]) ?_ 2 _ rfl;(with_reducible repeat (first|refine qx ?_ _|refine qA ?_|refine qw ?_ _));refine jh (cs:=#[.int .i64 t124,.int .i64 t125,.int .i64 t126,.int .i64 0]) ?_ 3 _ rfl;(with_reducible repeat (first|refine qx ?_ _|refine qA ?_|refine qw ?_ _));refine jh (cs:=#[.int .i64 t124,.int .i64 t125,.int .i64 0,.int .i64 0]) ?_ 2 _ rfl;(with_reducible repeat (first|refine qx ?_ _|refine qA ?_|refine qw ?_ _));refine jh (cs:=#[.int .i64 t124,.int .i64 0,.int .i64 0,.int .i64 0]) ?_ 1 _ rfl;(with_reducible repeat (first|refine qx ?_ _|refine qA ?_|refine qw ?_ _));refine jh (cs:=#[.int .i64 0,.int .i64 0,.int .i64 0,.int .i64 0]) ?_ 0 _ rfl;(with_reducible repeat (first|refine qx ?_ _|refine qA ?_|refine qw ?_ _));exact BK128.out⟩
 have n1_ : qd (Below w.heap.size w (((((w12.setCell ⟨gb128,0,none⟩ (.int .i64 t124)).setCell ⟨gb128,1,none⟩ (.int .i64 t125)).setCell ⟨gb128,2,none⟩ (.int .i64 t126)).setCell ⟨gb128,3,none⟩ (.int .i64 t127)).setCell ⟨gb128,2,none⟩ (.int .i64 3))):=⟨by repeat (first|(with_reducible first|exact HB.out|apply qg|apply qc|apply qf|refine qp ?_ GE128.out)|exact HB.out)⟩
 (try clear BK128)
 (try clear HB)
 generalize (((((w12.setCell ⟨gb128,0,none⟩ (.int .i64 t124)).setCell ⟨gb128,1,none⟩ (.int .i64 t125)).setCell ⟨gb128,2,none⟩ (.int .i64 t126)).setCell ⟨gb128,3,none⟩ (.int .i64 t127)).setCell ⟨gb128,2,none⟩ (.int .i64 3)) = w14 at n0_ n1_ ⊢
 have BK128:=n0_
 have HB:=n1_
 clear n0_ n1_
 have n0_:=qd.mk (qA BK128.out)
 have n1_:=qd.mk (qf HB.out)
 clear BK128
 clear HB
 have BK128:=n0_
 have HB:=n1_
 clear n0_ n1_
 refine zN (n:=23) (S:=fun w' => True) (ds:=[]) #[false,false,false,false,false,false,false,false,false,false,false,false,false,false,false,false,false,false,false,false,false,false,false] (by kernel_rfl) rfl rfl trivial (fun hHeld => ?_);refine jT jo.tab3 jo.Kq (fun HT_ HW_ => ?_)
 generalize w14.drew = w15 at BK128 HB hHeld ⊢
 refine qL (i:=22) (N:=some 47) (v:=?_) (a':=?_) #[false,false,false,false,false,false,false,false,false,false,false,false,false,false,false,false,false,false,false,false,false,false,true] rfl rfl (qD HT_.out (by kernel_rfl)) (fun _ _ _ h => h) (Or.inl ⟨by rfl,?_⟩) ?_ ?_
 rotate_left
 ·intro w'
  go_simp
  with_reducible rfl
 rotate_left
 ·simp only [Act.put,List.setIfInBounds_toArray,List.set_cons_zero,List.set_cons_succ,qE,qF]
  rfl
 refine VP [0,1,2,3,4,5,6,7,8,9,10,11,12,13,14,15,16,17,18,19,20,21] (fun a0_ b a w' => ∃ (v134 : Value) (v137 : Value) (v144 : Value) (v147 : Value) (v154 : Value) (v157 : Value) (v164 : Value) (v167 : Value) (v170 : Value) (v173 : Value) (v176 : Value) (m3_ : Value) (m7_ : Value) (m11_ : Value) (m15_ : Value) (m19_ : Value),a = zK a0_ b [(0,25,.agg #[.int .i64 t129,.int .i64 t130,.int .i64 t131,.int .i64 t132]),(1,26,v134),(2,27,v137),(3,28,m3_),(4,29,.agg #[.int .i64 t139,.int .i64 t140,.int .i64 t141,.int .i64 t142]),(5,30,v144),(6,31,v147),(7,32,m7_),(8,33,.agg #[.int .i64 t149,.int .i64 t150,.int .i64 t151,.int .i64 t152]),(9,34,v154),(10,35,v157),(11,36,m11_),(12,37,.agg #[.int .i64 t159,.int .i64 t160,.int .i64 t161,.int .i64 t162]),(13,38,v164),(14,39,v167),(15,40,m15_),(16,41,.agg #[.int .i64 t124,.int .i64 t125,.int .i64 3,.int .i64 t127]),(17,42,v170),(18,43,v173),(19,44,m19_),(20,45,v176),(21,46,.int .i64 (y175.length : Int))] ∧ (w'.heap[gb128]? = some (.cells #[.int .i64 t124,.int .i64 t125,.int .i64 3,.int .i64 t127] 23 (0,0))) ∧ (Below w.heap.size w w') ∧ (b 1 = true → Kd.R (Kd.int .u8) 5 w' w.heap.size (fun _ => True) v134 y133) ∧ (b 2 = true → b 20 = false → Kd.R k38 38 w' w.heap.size (fun _ => True) v137 t136) ∧ (b 5 = true → Kd.R (Kd.int .u8) 5 w' w.heap.size (fun _ => True) v144 y143) ∧ (b 6 = true → b 20 = false → Kd.R k38 38 w' w.heap.size (fun _ => True) v147 t146) ∧ (b 9 = true → Kd.R (Kd.int .u8) 5 w' w.heap.size (fun _ => True) v154 y153) ∧ (b 10 = true → b 20 = false → Kd.R k38 38 w' w.heap.size (fun _ => True) v157 t156) ∧ (b 13 = true → Kd.R (Kd.int .u8) 5 w' w.heap.size (fun _ => True) v164 y163) ∧ (b 14 = true → b 20 = false → Kd.R k38 38 w' w.heap.size (fun _ => True) v167 t166) ∧ (b 17 = true → Kd.R (Kd.int .u8) 5 w' w.heap.size (fun _ => True) v170 y169) ∧ (b 18 = true → b 20 = false → Kd.R k38 38 w' w.heap.size (fun _ => True) v173 t172) ∧ (b 20 = true → Kd.N k49 49 w' w.heap.size (fun k_ => k_ ≠ gb128) v176 y175) ∧ (b 3 = true → (m3_ : Value) = .agg #[.string (⟨#[82,79,65,68]⟩ : ByteArray),.string (⟨#[82,65,79,68]⟩ : ByteArray),.int .i64 t129,.int .i64 t130,.int .i64 t131,.int .i64 t132,.int .i64 1,v137]) ∧ (b 7 = true → (m7_ : Value) = .agg #[.string (⟨#[77,65,73,78]⟩ : ByteArray),.string (⟨#[77,65,73,78,69]⟩ : ByteArray),.int .i64 t139,.int .i64 t140,.int .i64 t141,.int .i64 t142,.int .i64 1,v147]) ∧ (b 11 = true → (m11_ : Value) = .agg #[.string (⟨#[65,66]⟩ : ByteArray),.string (⟨#[]⟩ : ByteArray),.int .i64 t149,.int .i64 t150,.int .i64 t151,.int .i64 t152,.int .i64 2,v157]) ∧ (b 15 = true → (m15_ : Value) = .agg #[.string (⟨#[67,65]⟩ : ByteArray),.string (⟨#[65,66,67]⟩ : ByteArray),.int .i64 t159,.int .i64 t160,.int .i64 t161,.int .i64 t162,.int .i64 3,v167]) ∧ (b 19 = true → (m19_ : Value) = .agg #[.string (⟨#[65]⟩ : ByteArray),.string (⟨#[66]⟩ : ByteArray),.int .i64 t124,.int .i64 t125,.int .i64 3,.int .i64 t127,.int .i64 2,v173])) HT_.out HW_.out (by kernel_rfl) (by kernel_rfl) ?_ ?_ ?_
 ·exact ⟨.bool false,.bool false,.bool false,.bool false,.bool false,.bool false,.bool false,.bool false,.bool false,.bool false,.bool false,.bool false,.bool false,.bool false,.bool false,.bool false,by simp only [zK,Bool.false_eq_true,if_false],BK128.out,HB.out,fun h_ => absurd h_ (by decide),fun h_ => absurd h_ (by decide),fun h_ => absurd h_ (by decide),fun h_ => absurd h_ (by decide),fun h_ => absurd h_ (by decide),fun h_ => absurd h_ (by decide),fun h_ => absurd h_ (by decide),fun h_ => absurd h_ (by decide),fun h_ => absurd h_ (by decide),fun h_ => absurd h_ (by decide),fun h_ => absurd h_ (by decide),fun h_ => absurd h_ (by decide),fun h_ => absurd h_ (by decide),fun h_ => absurd h_ (by decide),fun h_ => absurd h_ (by decide),fun h_ => absurd h_ (by decide)⟩
 ·skip
  clear BK128 HB
  refine jB ?_ ?_
  ·rintro b a w' ⟨v134,v137,v144,v147,v154,v157,v164,v167,v170,v173,v176,m3_,m7_,m11_,m15_,m19_,ha,Q_BK128,Q_HB,Q_HO135,Q_HO138,Q_HO145,Q_HO148,Q_HO155,Q_HO158,Q_HO165,Q_HO168,Q_HO171,Q_HO174,Q_HO177,Q_X3_,Q_X7_,Q_X11_,Q_X15_,Q_X19_⟩ hb_ hon hoff
   refine ⟨_,rfl,fun K hK => ?_⟩
   replace ha:=qd.mk ha
   have BK128:=qd.mk Q_BK128
   have HB:=qd.mk Q_HB
   refine xR Try.func15 (by kernel_rfl) rfl #[] (by rfl) rfl rfl (by first|(simp only [List.map_toArray,List.map_cons,List.map_nil,Act.eval,Array.getD_eq_getD_getElem?,Option.getD_some];done)|(simp only [List.map_toArray,List.map_cons,List.map_nil,Act.eval,Array.getD_eq_getD_getElem?,Option.getD_some];rfl)) ?_
   with_reducible refine (qK.calls  t129 t130 t131 t132 _ A2.out).mono ?_
   rintro e w16 ⟨rfl,hb⟩
   refine ⟨_,rfl,?_⟩
   have n0_:=qd.mk (qR (g:=gb128) (o:=.cells #[.int .i64 t124,.int .i64 t125,.int .i64 3,.int .i64 t127] 23 (0,0)) (by (with_reducible repeat (first|refine qx ?_ _|refine qA ?_|refine qw ?_ _));exact BK128.out) hb)
   have n1_:=qd.mk (qI (by repeat (first|(with_reducible first|exact HB.out|apply qg|apply qc|apply qf|refine qp ?_ GE128.out)|exact HB.out)) hb)
   have z_HO135:=fun (h0_ : b 1 = true) => (show Kd.R (Kd.int .u8) 5 w16 w.heap.size (fun _ => True) v134 y133 from by first|exact (Kd.qN (by (with_reducible repeat (first|apply Kd.qy|apply Kd.qz|apply Kd.qC));exact (Q_HO135 h0_)) hb)|exact Kd.qO (Kd.qN (by (with_reducible repeat (first|apply Kd.qy|apply Kd.qz|apply Kd.qC));exact (Q_HO135 h0_)) hb) (fun _ h_ => by first|trivial|exact h_|exact h_.1))
   have z_HO145:=fun (h0_ : b 5 = true) => (show Kd.R (Kd.int .u8) 5 w16 w.heap.size (fun _ => True) v144 y143 from by first|exact (Kd.qN (by (with_reducible repeat (first|apply Kd.qy|apply Kd.qz|apply Kd.qC));exact (Q_HO145 h0_)) hb)|exact Kd.qO (Kd.qN (by (with_reducible repeat (first|apply Kd.qy|apply Kd.qz|apply Kd.qC));exact (Q_HO145 h0_)) hb) (fun _ h_ => by first|trivial|exact h_|exact h_.1))
   have z_HO155:=fun (h0_ : b 9 = true) => (show Kd.R (Kd.int .u8) 5 w16 w.heap.size (fun _ => True) v154 y153 from by first|exact (Kd.qN (by (with_reducible repeat (first|apply Kd.qy|apply Kd.qz|apply Kd.qC));exact (Q_HO155 h0_)) hb)|exact Kd.qO (Kd.qN (by (with_reducible repeat (first|apply Kd.qy|apply Kd.qz|apply Kd.qC));exact (Q_HO155 h0_)) hb) (fun _ h_ => by first|trivial|exact h_|exact h_.1))
   have z_HO165:=fun (h0_ : b 13 = true) => (show Kd.R (Kd.int .u8) 5 w16 w.heap.size (fun _ => True) v164 y163 from by first|exact (Kd.qN (by (with_reducible repeat (first|apply Kd.qy|apply Kd.qz|apply Kd.qC));exact (Q_HO165 h0_)) hb)|exact Kd.qO (Kd.qN (by (with_reducible repeat (first|apply Kd.qy|apply Kd.qz|apply Kd.qC));exact (Q_HO165 h0_)) hb) (fun _ h_ => by first|trivial|exact h_|exact h_.1))
   have z_HO171:=fun (h0_ : b 17 = true) => (show Kd.R (Kd.int .u8) 5 w16 w.heap.size (fun _ => True) v170 y169 from by first|exact (Kd.qN (by (with_reducible repeat (first|apply Kd.qy|apply Kd.qz|apply Kd.qC));exact (Q_HO171 h0_)) hb)|exact Kd.qO (Kd.qN (by (with_reducible repeat (first|apply Kd.qy|apply Kd.qz|apply Kd.qC));exact (Q_HO171 h0_)) hb) (fun _ h_ => by first|trivial|exact h_|exact h_.1))
   clear BK128
   clear HB
   have BK128:=n0_
   have HB:=n1_
   clear n0_ n1_
   (try clear hb)
   (try clear hb2)
   (try clear hk)
   (try clear hi)
   refine hK.out _ _ ⟨v134,v137,v144,v147,v154,v157,v164,v167,v170,v173,v176,m3_,m7_,m11_,m15_,m19_,(by rw [ha.out];exact jC 0 hb_ rfl rfl rfl),(by (with_reducible repeat (first|refine qx ?_ _|refine qA ?_|refine qw ?_ _));exact BK128.out),(by repeat (first|(with_reducible first|exact HB.out|apply qg|apply qc|apply qf|refine qp ?_ GE128.out)|exact HB.out)),z_HO135,fun h0_ _ => absurd ((hoff 2 (by kernel_rfl)).symm.trans h0_) (by decide),z_HO145,fun h0_ _ => absurd ((hoff 6 (by kernel_rfl)).symm.trans h0_) (by decide),z_HO155,fun h0_ _ => absurd ((hoff 10 (by kernel_rfl)).symm.trans h0_) (by decide),z_HO165,fun h0_ _ => absurd ((hoff 14 (by kernel_rfl)).symm.trans h0_) (by decide),z_HO171,fun h0_ _ => absurd ((hoff 18 (by kernel_rfl)).symm.trans h0_) (by decide),fun h0_ => absurd ((hoff 20 (by kernel_rfl)).symm.trans h0_) (by decide),fun h0_ => absurd ((hoff 3 (by kernel_rfl)).symm.trans h0_) (by decide),fun h0_ => absurd ((hoff 7 (by kernel_rfl)).symm.trans h0_) (by decide),fun h0_ => absurd ((hoff 11 (by kernel_rfl)).symm.trans h0_) (by decide),fun h0_ => absurd ((hoff 15 (by kernel_rfl)).symm.trans h0_) (by decide),fun h0_ => absurd ((hoff 19 (by kernel_rfl)).symm.trans h0_) (by decide)⟩
  refine jB ?_ ?_
  ·rintro b a w' ⟨v134,v137,v144,v147,v154,v157,v164,v167,v170,v173,v176,m3_,m7_,m11_,m15_,m19_,ha,Q_BK128,Q_HB,Q_HO135,Q_HO138,Q_HO145,Q_HO148,Q_HO155,Q_HO158,Q_HO165,Q_HO168,Q_HO171,Q_HO174,Q_HO177,Q_X3_,Q_X7_,Q_X11_,Q_X15_,Q_X19_⟩ hb_ hon hoff
   refine ⟨_,rfl,fun K hK => ?_⟩
   replace ha:=qd.mk ha
   have BK128:=qd.mk Q_BK128
   have HB:=qd.mk Q_HB
   refine Kd.xn (Kd.int .u8) _ 5 ?hg (N:=26) ?hd (xs:=([1,3,1] : List Int)) (inner:=[.int .u8 1,.int .u8 3,.int .u8 1]) (ok:=fun _ => True) (okp:=fun _ => True) ?hr ?hp (fun _ hk => hk) trivial (Below.refl _ _) (Nat.le_refl _) (by simp) ?_;(case hd => rfl);(case hg => rfl);(case hr => first|(go_simp;done)|(go_simp;rfl));(case hp => exact (Reps.one (show Kd.M (Kd.int .u8) _ _ _ 1 [.int .u8 1] from rfl) (Reps.one (show Kd.M (Kd.int .u8) _ _ _ 3 [.int .u8 3] from rfl) (Reps.one (show Kd.M (Kd.int .u8) _ _ _ 1 [.int .u8 1] from rfl) (Reps.none _ _)))))
   intro v134 w16 ho17 hb hg_ hnew_
   clear hg_ hnew_
   (first|rw [← Ny133.out] at ho17|(simp only [Int.reduceToNat] at ho17;rw [← Ny133.out] at ho17))
   have n0_:=qd.mk (Kd.jS ho17 (qH (by repeat (first|(with_reducible first|exact HB.out|apply qg|apply qc|apply qf|refine qp ?_ GE128.out)|exact HB.out))))
   have n1_:=qd.mk (qR (g:=gb128) (o:=.cells #[.int .i64 t124,.int .i64 t125,.int .i64 3,.int .i64 t127] 23 (0,0)) (by (with_reducible repeat (first|refine qx ?_ _|refine qA ?_|refine qw ?_ _));exact BK128.out) hb)
   have n2_:=qd.mk (qI (by repeat (first|(with_reducible first|exact HB.out|apply qg|apply qc|apply qf|refine qp ?_ GE128.out)|exact HB.out)) hb)
   have z_HO145:=fun (h0_ : b 5 = true) => (show Kd.R (Kd.int .u8) 5 w16 w.heap.size (fun _ => True) v144 y143 from by first|exact (Kd.qY (by (with_reducible repeat (first|apply Kd.qy|apply Kd.qz|apply Kd.qC));exact (Q_HO145 h0_)) (Kd.jd ho17) hb)|exact Kd.qO (Kd.qY (by (with_reducible repeat (first|apply Kd.qy|apply Kd.qz|apply Kd.qC));exact (Q_HO145 h0_)) (Kd.jd ho17) hb) (fun _ h_ => by first|trivial|exact h_|exact h_.1))
   have z_HO155:=fun (h0_ : b 9 = true) => (show Kd.R (Kd.int .u8) 5 w16 w.heap.size (fun _ => True) v154 y153 from by first|exact (Kd.qY (by (with_reducible repeat (first|apply Kd.qy|apply Kd.qz|apply Kd.qC));exact (Q_HO155 h0_)) (Kd.jd ho17) hb)|exact Kd.qO (Kd.qY (by (with_reducible repeat (first|apply Kd.qy|apply Kd.qz|apply Kd.qC));exact (Q_HO155 h0_)) (Kd.jd ho17) hb) (fun _ h_ => by first|trivial|exact h_|exact h_.1))
   have z_HO165:=fun (h0_ : b 13 = true) => (show Kd.R (Kd.int .u8) 5 w16 w.heap.size (fun _ => True) v164 y163 from by first|exact (Kd.qY (by (with_reducible repeat (first|apply Kd.qy|apply Kd.qz|apply Kd.qC));exact (Q_HO165 h0_)) (Kd.jd ho17) hb)|exact Kd.qO (Kd.qY (by (with_reducible repeat (first|apply Kd.qy|apply Kd.qz|apply Kd.qC));exact (Q_HO165 h0_)) (Kd.jd ho17) hb) (fun _ h_ => by first|trivial|exact h_|exact h_.1))
   have z_HO171:=fun (h0_ : b 17 = true) => (show Kd.R (Kd.int .u8) 5 w16 w.heap.size (fun _ => True) v170 y169 from by first|exact (Kd.qY (by (with_reducible repeat (first|apply Kd.qy|apply Kd.qz|apply Kd.qC));exact (Q_HO171 h0_)) (Kd.jd ho17) hb)|exact Kd.qO (Kd.qY (by (with_reducible repeat (first|apply Kd.qy|apply Kd.qz|apply Kd.qC));exact (Q_HO171 h0_)) (Kd.jd ho17) hb) (fun _ h_ => by first|trivial|exact h_|exact h_.1))
   clear BK128
   clear HB
   have HO135:=n0_
   have BK128:=n1_
   have HB:=n2_
   clear n0_ n1_ n2_
   clear hb ho17
   refine hK.out _ _ ⟨v134,v137,v144,v147,v154,v157,v164,v167,v170,v173,v176,m3_,m7_,m11_,m15_,m19_,(by rw [ha.out];exact jC 1 hb_ rfl rfl rfl),(by (with_reducible repeat (first|refine qx ?_ _|refine qA ?_|refine qw ?_ _));exact BK128.out),(by repeat (first|(with_reducible first|exact HB.out|apply qg|apply qc|apply qf|refine qp ?_ GE128.out)|exact HB.out)),fun _ => (by (with_reducible repeat (first|apply Kd.qy|apply Kd.qz|apply Kd.qC));first|exact HO135.out|exact Kd.qO HO135.out (fun _ _ => trivial)),fun h0_ _ => absurd ((hoff 2 (by kernel_rfl)).symm.trans h0_) (by decide),z_HO145,fun h0_ _ => absurd ((hoff 6 (by kernel_rfl)).symm.trans h0_) (by decide),z_HO155,fun h0_ _ => absurd ((hoff 10 (by kernel_rfl)).symm.trans h0_) (by decide),z_HO165,fun h0_ _ => absurd ((hoff 14 (by kernel_rfl)).symm.trans h0_) (by decide),z_HO171,fun h0_ _ => absurd ((hoff 18 (by kernel_rfl)).symm.trans h0_) (by decide),fun h0_ => absurd ((hoff 20 (by kernel_rfl)).symm.trans h0_) (by decide),fun h0_ => absurd ((hoff 3 (by kernel_rfl)).symm.trans h0_) (by decide),fun h0_ => absurd ((hoff 7 (by kernel_rfl)).symm.trans h0_) (by decide),fun h0_ => absurd ((hoff 11 (by kernel_rfl)).symm.trans h0_) (by decide),fun h0_ => absurd ((hoff 15 (by kernel_rfl)).symm.trans h0_) (by decide),fun h0_ => absurd ((hoff 19 (by kernel_rfl)).symm.trans h0_) (by decide)⟩
  refine jB ?_ ?_
  ·rintro b a w' ⟨v134,v137,v144,v147,v154,v157,v164,v167,v170,v173,v176,m3_,m7_,m11_,m15_,m19_,ha,Q_BK128,Q_HB,Q_HO135,Q_HO138,Q_HO145,Q_HO148,Q_HO155,Q_HO158,Q_HO165,Q_HO168,Q_HO171,Q_HO174,Q_HO177,Q_X3_,Q_X7_,Q_X11_,Q_X15_,Q_X19_⟩ hb_ hon hoff
   refine ⟨_,rfl,fun K hK => ?_⟩
   have e26 : a.tmps[26]? = some (v134):=by rw [ha];exact jJ (e:=(1,26,v134)) 1 rfl rfl (hon 1 (by kernel_rfl)) rfl
   replace ha:=qd.mk ha
   have BK128:=qd.mk Q_BK128
   have HB:=qd.mk Q_HB
   have HO135:=qd.mk (Q_HO135 (hon 1 (by kernel_rfl)))
   obtain ⟨Ao20,co20,eo20⟩:=Kd.jk HO135.out
   (first|subst eo20|(injection eo20 with f1_ f2_ f3_;have f4_:=f1_.symm;have f5_:=f3_.symm;clear f1_ f2_ f3_;subst f4_;subst f5_))
   refine xR Try.func20 (by kernel_rfl) rfl #[.string (⟨#[]⟩ : ByteArray),.slice Ao20 y133.length co20] (by rfl) rfl rfl (by first|(simp only [List.map_toArray,List.map_cons,List.map_nil,Act.eval,Array.getD_eq_getD_getElem?,Option.getD_some,e26];done)|(simp only [List.map_toArray,List.map_cons,List.map_nil,Act.eval,Array.getD_eq_getD_getElem?,Option.getD_some,e26];rfl)) ?_
   with_reducible refine (qo.calls (⟨#[]⟩ : ByteArray) _ _ y133 t136 _ ?side1 ?side2 A3.out).mono ?_
   (case side1 => repeat (first|exact (Kd.je HO135.out).2.2|(with_reducible refine Kd.jP ?_ _)|(with_reducible refine Kd.jQ ?_ _)|(with_reducible refine Kd.zh ?_)))
   (case side2 => exact (Kd.je HO135.out).2.1)
   rintro e w21 ⟨v137,rfl,ho0,hb⟩
   refine ⟨_,rfl,?_⟩
   have n0_:=qd.mk (Kd.qN (by (with_reducible repeat (first|apply Kd.qy|apply Kd.qz|apply Kd.qC));exact HO135.out) hb)
   have n1_:=qd.mk (Kd.jS ho0 (qH (by repeat (first|(with_reducible first|exact HB.out|apply qg|apply qc|apply qf|refine qp ?_ GE128.out)|exact HB.out))))
   have n2_:=qd.mk (qR (g:=gb128) (o:=.cells #[.int .i64 t124,.int .i64 t125,.int .i64 3,.int .i64 t127] 23 (0,0)) (by (with_reducible repeat (first|refine qx ?_ _|refine qA ?_|refine qw ?_ _));exact BK128.out) hb)
   have n3_:=qd.mk (qI (by repeat (first|(with_reducible first|exact HB.out|apply qg|apply qc|apply qf|refine qp ?_ GE128.out)|exact HB.out)) hb)
   have z_HO145:=fun (h0_ : b 5 = true) => (show Kd.R (Kd.int .u8) 5 w21 w.heap.size (fun _ => True) v144 y143 from by first|exact (Kd.qN (by (with_reducible repeat (first|apply Kd.qy|apply Kd.qz|apply Kd.qC));exact (Q_HO145 h0_)) hb)|exact Kd.qO (Kd.qN (by (with_reducible repeat (first|apply Kd.qy|apply Kd.qz|apply Kd.qC));exact (Q_HO145 h0_)) hb) (fun _ h_ => by first|trivial|exact h_|exact h_.1))
   have z_HO155:=fun (h0_ : b 9 = true) => (show Kd.R (Kd.int .u8) 5 w21 w.heap.size (fun _ => True) v154 y153 from by first|exact (Kd.qN (by (with_reducible repeat (first|apply Kd.qy|apply Kd.qz|apply Kd.qC));exact (Q_HO155 h0_)) hb)|exact Kd.qO (Kd.qN (by (with_reducible repeat (first|apply Kd.qy|apply Kd.qz|apply Kd.qC));exact (Q_HO155 h0_)) hb) (fun _ h_ => by first|trivial|exact h_|exact h_.1))
   have z_HO165:=fun (h0_ : b 13 = true) => (show Kd.R (Kd.int .u8) 5 w21 w.heap.size (fun _ => True) v164 y163 from by first|exact (Kd.qN (by (with_reducible repeat (first|apply Kd.qy|apply Kd.qz|apply Kd.qC));exact (Q_HO165 h0_)) hb)|exact Kd.qO (Kd.qN (by (with_reducible repeat (first|apply Kd.qy|apply Kd.qz|apply Kd.qC));exact (Q_HO165 h0_)) hb) (fun _ h_ => by first|trivial|exact h_|exact h_.1))
   have z_HO171:=fun (h0_ : b 17 = true) => (show Kd.R (Kd.int .u8) 5 w21 w.heap.size (fun _ => True) v170 y169 from by first|exact (Kd.qN (by (with_reducible repeat (first|apply Kd.qy|apply Kd.qz|apply Kd.qC));exact (Q_HO171 h0_)) hb)|exact Kd.qO (Kd.qN (by (with_reducible repeat (first|apply Kd.qy|apply Kd.qz|apply Kd.qC));exact (Q_HO171 h0_)) hb) (fun _ h_ => by first|trivial|exact h_|exact h_.1))
   clear HO135
   clear BK128
   clear HB
   have HO135:=n0_
   have HO138:=n1_
   have BK128:=n2_
   have HB:=n3_
   clear n0_ n1_ n2_ n3_
   (try clear hb)
   (try clear hb2)
   (try clear hk)
   (try clear hi)
   (try clear ho0)
   obtain ⟨Ao22,co22,eo22⟩:=Kd.jk HO138.out
   (first|subst eo22|(injection eo22 with f1_ f2_ f3_;have f4_:=f1_.symm;have f5_:=f3_.symm;clear f1_ f2_ f3_;subst f4_;subst f5_))
   refine hK.out _ _ ⟨.slice Ao20 y133.length co20,.slice Ao22 t136.length co22,v144,v147,v154,v157,v164,v167,v170,v173,v176,m3_,m7_,m11_,m15_,m19_,(by rw [ha.out];exact jC 2 hb_ rfl rfl rfl),(by (with_reducible repeat (first|refine qx ?_ _|refine qA ?_|refine qw ?_ _));exact BK128.out),(by repeat (first|(with_reducible first|exact HB.out|apply qg|apply qc|apply qf|refine qp ?_ GE128.out)|exact HB.out)),fun _ => (by (with_reducible repeat (first|apply Kd.qy|apply Kd.qz|apply Kd.qC));first|exact HO135.out|exact Kd.qO HO135.out (fun _ _ => trivial)),fun _ _ => (by (with_reducible repeat (first|apply Kd.qy|apply Kd.qz|apply Kd.qC));first|exact HO138.out|exact Kd.qO HO138.out (fun _ _ => trivial)),z_HO145,fun h0_ _ => absurd ((hoff 6 (by kernel_rfl)).symm.trans h0_) (by decide),z_HO155,fun h0_ _ => absurd ((hoff 10 (by kernel_rfl)).symm.trans h0_) (by decide),z_HO165,fun h0_ _ => absurd ((hoff 14 (by kernel_rfl)).symm.trans h0_) (by decide),z_HO171,fun h0_ _ => absurd ((hoff 18 (by kernel_rfl)).symm.trans h0_) (by decide),fun h0_ => absurd ((hoff 20 (by kernel_rfl)).symm.trans h0_) (by decide),fun h0_ => absurd ((hoff 3 (by kernel_rfl)).symm.trans h0_) (by decide),fun h0_ => absurd ((hoff 7 (by kernel_rfl)).symm.trans h0_) (by decide),fun h0_ => absurd ((hoff 11 (by kernel_rfl)).symm.trans h0_) (by decide),fun h0_ => absurd ((hoff 15 (by kernel_rfl)).symm.trans h0_) (by decide),fun h0_ => absurd ((hoff 19 (by kernel_rfl)).symm.trans h0_) (by decide)⟩
  refine jB ?_ ?_
  ·rintro b a w' ⟨v134,v137,v144,v147,v154,v157,v164,v167,v170,v173,v176,m3_,m7_,m11_,m15_,m19_,ha,Q_BK128,Q_HB,Q_HO135,Q_HO138,Q_HO145,Q_HO148,Q_HO155,Q_HO158,Q_HO165,Q_HO168,Q_HO171,Q_HO174,Q_HO177,Q_X3_,Q_X7_,Q_X11_,Q_X15_,Q_X19_⟩ hb_ hon hoff
   refine ⟨_,rfl,fun K hK => ?_⟩
   have e25 : a.tmps[25]? = some (.agg #[.int .i64 t129,.int .i64 t130,.int .i64 t131,.int .i64 t132]):=by rw [ha];exact jJ (e:=(0,25,.agg #[.int .i64 t129,.int .i64 t130,.int .i64 t131,.int .i64 t132])) 0 rfl rfl (hon 0 (by kernel_rfl)) rfl
   have e27 : a.tmps[27]? = some (v137):=by rw [ha];exact jJ (e:=(2,27,v137)) 2 rfl rfl (hon 2 (by kernel_rfl)) rfl
   replace ha:=qd.mk ha
   have BK128:=qd.mk Q_BK128
   have HB:=qd.mk Q_HB
   have HO135:=qd.mk (Q_HO135 (hon 1 (by kernel_rfl)))
   have HO138:=qd.mk (Q_HO138 (hon 2 (by kernel_rfl)) (hoff 20 (by kernel_rfl)))
   obtain ⟨Ao3_0,co3_0,eo_⟩:=Kd.jk HO138.out
   subst eo_
   refine kI (w1:=w') (v:=.agg #[.string (⟨#[82,79,65,68]⟩ : ByteArray),.string (⟨#[82,65,79,68]⟩ : ByteArray),.int .i64 t129,.int .i64 t130,.int .i64 t131,.int .i64 t132,.int .i64 1,.slice Ao3_0 t136.length co3_0]) (by rfl) rfl ?_ ?_
   ·go_simp
    (try simp only [qE])
    try rfl
   refine hK.out _ _ ⟨v134,.slice Ao3_0 t136.length co3_0,v144,v147,v154,v157,v164,v167,v170,v173,v176,(.agg #[.string (⟨#[82,79,65,68]⟩ : ByteArray),.string (⟨#[82,65,79,68]⟩ : ByteArray),.int .i64 t129,.int .i64 t130,.int .i64 t131,.int .i64 t132,.int .i64 1,.slice Ao3_0 t136.length co3_0]),m7_,m11_,m15_,m19_,(by rw [ha.out];exact jC 3 hb_ rfl rfl rfl),Q_BK128,Q_HB,Q_HO135,Q_HO138,Q_HO145,Q_HO148,Q_HO155,Q_HO158,Q_HO165,Q_HO168,Q_HO171,Q_HO174,fun h0_ => absurd ((hoff 20 (by kernel_rfl)).symm.trans h0_) (by decide),fun _ => rfl,Q_X7_,Q_X11_,Q_X15_,Q_X19_⟩
  refine jB ?_ ?_
  ·rintro b a w' ⟨v134,v137,v144,v147,v154,v157,v164,v167,v170,v173,v176,m3_,m7_,m11_,m15_,m19_,ha,Q_BK128,Q_HB,Q_HO135,Q_HO138,Q_HO145,Q_HO148,Q_HO155,Q_HO158,Q_HO165,Q_HO168,Q_HO171,Q_HO174,Q_HO177,Q_X3_,Q_X7_,Q_X11_,Q_X15_,Q_X19_⟩ hb_ hon hoff
   refine ⟨_,rfl,fun K hK => ?_⟩
   replace ha:=qd.mk ha
   have BK128:=qd.mk Q_BK128
   have HB:=qd.mk Q_HB
   have HO135:=qd.mk (Q_HO135 (hon 1 (by kernel_rfl)))
   have HO138:=qd.mk (Q_HO138 (hon 2 (by kernel_rfl)) (hoff 20 (by kernel_rfl)))
   obtain ⟨Ao23,co23,eo23⟩:=Kd.jk HO138.out
   (first|subst eo23|(injection eo23 with f1_ f2_ f3_;have f4_:=f1_.symm;have f5_:=f3_.symm;clear f1_ f2_ f3_;subst f4_;subst f5_))
   refine xR Try.func15 (by kernel_rfl) rfl #[] (by rfl) rfl rfl (by first|(simp only [List.map_toArray,List.map_cons,List.map_nil,Act.eval,Array.getD_eq_getD_getElem?,Option.getD_some];done)|(simp only [List.map_toArray,List.map_cons,List.map_nil,Act.eval,Array.getD_eq_getD_getElem?,Option.getD_some];rfl)) ?_
   with_reducible refine (qK.calls  t139 t140 t141 t142 _ A4.out).mono ?_
   rintro e w24 ⟨rfl,hb⟩
   refine ⟨_,rfl,?_⟩
   have n0_:=qd.mk (Kd.qN (by (with_reducible repeat (first|apply Kd.qy|apply Kd.qz|apply Kd.qC));exact HO135.out) hb)
   have n1_:=qd.mk (Kd.qN (by (with_reducible repeat (first|apply Kd.qy|apply Kd.qz|apply Kd.qC));exact HO138.out) hb)
   have n2_:=qd.mk (qR (g:=gb128) (o:=.cells #[.int .i64 t124,.int .i64 t125,.int .i64 3,.int .i64 t127] 23 (0,0)) (by (with_reducible repeat (first|refine qx ?_ _|refine qA ?_|refine qw ?_ _));exact BK128.out) hb)
   have n3_:=qd.mk (qI (by repeat (first|(with_reducible first|exact HB.out|apply qg|apply qc|apply qf|refine qp ?_ GE128.out)|exact HB.out)) hb)
   have z_HO145:=fun (h0_ : b 5 = true) => (show Kd.R (Kd.int .u8) 5 w24 w.heap.size (fun _ => True) v144 y143 from by first|exact (Kd.qN (by (with_reducible repeat (first|apply Kd.qy|apply Kd.qz|apply Kd.qC));exact (Q_HO145 h0_)) hb)|exact Kd.qO (Kd.qN (by (with_reducible repeat (first|apply Kd.qy|apply Kd.qz|apply Kd.qC));exact (Q_HO145 h0_)) hb) (fun _ h_ => by first|trivial|exact h_|exact h_.1))
   have z_HO155:=fun (h0_ : b 9 = true) => (show Kd.R (Kd.int .u8) 5 w24 w.heap.size (fun _ => True) v154 y153 from by first|exact (Kd.qN (by (with_reducible repeat (first|apply Kd.qy|apply Kd.qz|apply Kd.qC));exact (Q_HO155 h0_)) hb)|exact Kd.qO (Kd.qN (by (with_reducible repeat (first|apply Kd.qy|apply Kd.qz|apply Kd.qC));exact (Q_HO155 h0_)) hb) (fun _ h_ => by first|trivial|exact h_|exact h_.1))
   have z_HO165:=fun (h0_ : b 13 = true) => (show Kd.R (Kd.int .u8) 5 w24 w.heap.size (fun _ => True) v164 y163 from by first|exact (Kd.qN (by (with_reducible repeat (first|apply Kd.qy|apply Kd.qz|apply Kd.qC));exact (Q_HO165 h0_)) hb)|exact Kd.qO (Kd.qN (by (with_reducible repeat (first|apply Kd.qy|apply Kd.qz|apply Kd.qC));exact (Q_HO165 h0_)) hb) (fun _ h_ => by first|trivial|exact h_|exact h_.1))
   have z_HO171:=fun (h0_ : b 17 = true) => (show Kd.R (Kd.int .u8) 5 w24 w.heap.size (fun _ => True) v170 y169 from by first|exact (Kd.qN (by (with_reducible repeat (first|apply Kd.qy|apply Kd.qz|apply Kd.qC));exact (Q_HO171 h0_)) hb)|exact Kd.qO (Kd.qN (by (with_reducible repeat (first|apply Kd.qy|apply Kd.qz|apply Kd.qC));exact (Q_HO171 h0_)) hb) (fun _ h_ => by first|trivial|exact h_|exact h_.1))
   clear HO135
   clear HO138
   clear BK128
   clear HB
   have HO135:=n0_
   have HO138:=n1_
   have BK128:=n2_
   have HB:=n3_
   clear n0_ n1_ n2_ n3_
   (try clear hb)
   (try clear hb2)
   (try clear hk)
   (try clear hi)
   refine hK.out _ _ ⟨v134,.slice Ao23 t136.length co23,v144,v147,v154,v157,v164,v167,v170,v173,v176,m3_,m7_,m11_,m15_,m19_,(by rw [ha.out];exact jC 4 hb_ rfl rfl rfl),(by (with_reducible repeat (first|refine qx ?_ _|refine qA ?_|refine qw ?_ _));exact BK128.out),(by repeat (first|(with_reducible first|exact HB.out|apply qg|apply qc|apply qf|refine qp ?_ GE128.out)|exact HB.out)),fun _ => (by (with_reducible repeat (first|apply Kd.qy|apply Kd.qz|apply Kd.qC));first|exact HO135.out|exact Kd.qO HO135.out (fun _ _ => trivial)),fun _ _ => (by (with_reducible repeat (first|apply Kd.qy|apply Kd.qz|apply Kd.qC));first|exact HO138.out|exact Kd.qO HO138.out (fun _ _ => trivial)),z_HO145,fun h0_ _ => absurd ((hoff 6 (by kernel_rfl)).symm.trans h0_) (by decide),z_HO155,fun h0_ _ => absurd ((hoff 10 (by kernel_rfl)).symm.trans h0_) (by decide),z_HO165,fun h0_ _ => absurd ((hoff 14 (by kernel_rfl)).symm.trans h0_) (by decide),z_HO171,fun h0_ _ => absurd ((hoff 18 (by kernel_rfl)).symm.trans h0_) (by decide),fun h0_ => absurd ((hoff 20 (by kernel_rfl)).symm.trans h0_) (by decide),Q_X3_,fun h0_ => absurd ((hoff 7 (by kernel_rfl)).symm.trans h0_) (by decide),fun h0_ => absurd ((hoff 11 (by kernel_rfl)).symm.trans h0_) (by decide),fun h0_ => absurd ((hoff 15 (by kernel_rfl)).symm.trans h0_) (by decide),fun h0_ => absurd ((hoff 19 (by kernel_rfl)).symm.trans h0_) (by decide)⟩
  refine jB ?_ ?_
  ·rintro b a w' ⟨v134,v137,v144,v147,v154,v157,v164,v167,v170,v173,v176,m3_,m7_,m11_,m15_,m19_,ha,Q_BK128,Q_HB,Q_HO135,Q_HO138,Q_HO145,Q_HO148,Q_HO155,Q_HO158,Q_HO165,Q_HO168,Q_HO171,Q_HO174,Q_HO177,Q_X3_,Q_X7_,Q_X11_,Q_X15_,Q_X19_⟩ hb_ hon hoff
   refine ⟨_,rfl,fun K hK => ?_⟩
   replace ha:=qd.mk ha
   have BK128:=qd.mk Q_BK128
   have HB:=qd.mk Q_HB
   refine Kd.xn (Kd.int .u8) _ 5 ?hg (N:=30) ?hd (xs:=([1,1,1,1,5] : List Int)) (inner:=[.int .u8 1,.int .u8 1,.int .u8 1,.int .u8 1,.int .u8 5]) (ok:=fun _ => True) (okp:=fun _ => True) ?hr ?hp (fun _ hk => hk) trivial (Below.refl _ _) (Nat.le_refl _) (by simp) ?_;(case hd => rfl);(case hg => rfl);(case hr => first|(go_simp;done)|(go_simp;rfl));(case hp => exact (Reps.one (show Kd.M (Kd.int .u8) _ _ _ 1 [.int .u8 1] from rfl) (Reps.one (show Kd.M (Kd.int .u8) _ _ _ 1 [.int .u8 1] from rfl) (Reps.one (show Kd.M (Kd.int .u8) _ _ _ 1 [.int .u8 1] from rfl) (Reps.one (show Kd.M (Kd.int .u8) _ _ _ 1 [.int .u8 1] from rfl) (Reps.one (show Kd.M (Kd.int .u8) _ _ _ 5 [.int .u8 5] from rfl) (Reps.none _ _)))))))
   intro v144 w16 ho17 hb hg_ hnew_
   clear hg_ hnew_
   (first|rw [← Ny143.out] at ho17|(simp only [Int.reduceToNat] at ho17;rw [← Ny143.out] at ho17))
   have n0_:=qd.mk (Kd.jS ho17 (qH (by repeat (first|(with_reducible first|exact HB.out|apply qg|apply qc|apply qf|refine qp ?_ GE128.out)|exact HB.out))))
   have n1_:=qd.mk (qR (g:=gb128) (o:=.cells #[.int .i64 t124,.int .i64 t125,.int .i64 3,.int .i64 t127] 23 (0,0)) (by (with_reducible repeat (first|refine qx ?_ _|refine qA ?_|refine qw ?_ _));exact BK128.out) hb)
   have n2_:=qd.mk (qI (by repeat (first|(with_reducible first|exact HB.out|apply qg|apply qc|apply qf|refine qp ?_ GE128.out)|exact HB.out)) hb)
   have z_HO135:=fun (h0_ : b 1 = true) => (show Kd.R (Kd.int .u8) 5 w16 w.heap.size (fun _ => True) v134 y133 from by first|exact (Kd.qY (by (with_reducible repeat (first|apply Kd.qy|apply Kd.qz|apply Kd.qC));exact (Q_HO135 h0_)) (Kd.jd ho17) hb)|exact Kd.qO (Kd.qY (by (with_reducible repeat (first|apply Kd.qy|apply Kd.qz|apply Kd.qC));exact (Q_HO135 h0_)) (Kd.jd ho17) hb) (fun _ h_ => by first|trivial|exact h_|exact h_.1))
   have z_HO138:=fun (h0_ : b 2 = true) (h1_ : b 20 = false) => (show Kd.R k38 38 w16 w.heap.size (fun _ => True) v137 t136 from by first|exact (Kd.qN (by (with_reducible repeat (first|apply Kd.qy|apply Kd.qz|apply Kd.qC));exact (Q_HO138 h0_ h1_)) hb)|exact Kd.qO (Kd.qN (by (with_reducible repeat (first|apply Kd.qy|apply Kd.qz|apply Kd.qC));exact (Q_HO138 h0_ h1_)) hb) (fun _ h_ => by first|trivial|exact h_|exact h_.1))
   have z_HO155:=fun (h0_ : b 9 = true) => (show Kd.R (Kd.int .u8) 5 w16 w.heap.size (fun _ => True) v154 y153 from by first|exact (Kd.qY (by (with_reducible repeat (first|apply Kd.qy|apply Kd.qz|apply Kd.qC));exact (Q_HO155 h0_)) (Kd.jd ho17) hb)|exact Kd.qO (Kd.qY (by (with_reducible repeat (first|apply Kd.qy|apply Kd.qz|apply Kd.qC));exact (Q_HO155 h0_)) (Kd.jd ho17) hb) (fun _ h_ => by first|trivial|exact h_|exact h_.1))
   have z_HO165:=fun (h0_ : b 13 = true) => (show Kd.R (Kd.int .u8) 5 w16 w.heap.size (fun _ => True) v164 y163 from by first|exact (Kd.qY (by (with_reducible repeat (first|apply Kd.qy|apply Kd.qz|apply Kd.qC));exact (Q_HO165 h0_)) (Kd.jd ho17) hb)|exact Kd.qO (Kd.qY (by (with_reducible repeat (first|apply Kd.qy|apply Kd.qz|apply Kd.qC));exact (Q_HO165 h0_)) (Kd.jd ho17) hb) (fun _ h_ => by first|trivial|exact h_|exact h_.1))
   have z_HO171:=fun (h0_ : b 17 = true) => (show Kd.R (Kd.int .u8) 5 w16 w.heap.size (fun _ => True) v170 y169 from by first|exact (Kd.qY (by (with_reducible repeat (first|apply Kd.qy|apply Kd.qz|apply Kd.qC));exact (Q_HO171 h0_)) (Kd.jd ho17) hb)|exact Kd.qO (Kd.qY (by (with_reducible repeat (first|apply Kd.qy|apply Kd.qz|apply Kd.qC));exact (Q_HO171 h0_)) (Kd.jd ho17) hb) (fun _ h_ => by first|trivial|exact h_|exact h_.1))
   clear BK128
   clear HB
   have HO145:=n0_
   have BK128:=n1_
   have HB:=n2_
   clear n0_ n1_ n2_
   clear hb ho17
   refine hK.out _ _ ⟨v134,v137,v144,v147,v154,v157,v164,v167,v170,v173,v176,m3_,m7_,m11_,m15_,m19_,(by rw [ha.out];exact jC 5 hb_ rfl rfl rfl),(by (with_reducible repeat (first|refine qx ?_ _|refine qA ?_|refine qw ?_ _));exact BK128.out),(by repeat (first|(with_reducible first|exact HB.out|apply qg|apply qc|apply qf|refine qp ?_ GE128.out)|exact HB.out)),z_HO135,z_HO138,fun _ => (by (with_reducible repeat (first|apply Kd.qy|apply Kd.qz|apply Kd.qC));first|exact HO145.out|exact Kd.qO HO145.out (fun _ _ => trivial)),fun h0_ _ => absurd ((hoff 6 (by kernel_rfl)).symm.trans h0_) (by decide),z_HO155,fun h0_ _ => absurd ((hoff 10 (by kernel_rfl)).symm.trans h0_) (by decide),z_HO165,fun h0_ _ => absurd ((hoff 14 (by kernel_rfl)).symm.trans h0_) (by decide),z_HO171,fun h0_ _ => absurd ((hoff 18 (by kernel_rfl)).symm.trans h0_) (by decide),fun h0_ => absurd ((hoff 20 (by kernel_rfl)).symm.trans h0_) (by decide),Q_X3_,fun h0_ => absurd ((hoff 7 (by kernel_rfl)).symm.trans h0_) (by decide),fun h0_ => absurd ((hoff 11 (by kernel_rfl)).symm.trans h0_) (by decide),fun h0_ => absurd ((hoff 15 (by kernel_rfl)).symm.trans h0_) (by decide),fun h0_ => absurd ((hoff 19 (by kernel_rfl)).symm.trans h0_) (by decide)⟩
  refine jB ?_ ?_
  ·rintro b a w' ⟨v134,v137,v144,v147,v154,v157,v164,v167,v170,v173,v176,m3_,m7_,m11_,m15_,m19_,ha,Q_BK128,Q_HB,Q_HO135,Q_HO138,Q_HO145,Q_HO148,Q_HO155,Q_HO158,Q_HO165,Q_HO168,Q_HO171,Q_HO174,Q_HO177,Q_X3_,Q_X7_,Q_X11_,Q_X15_,Q_X19_⟩ hb_ hon hoff
   refine ⟨_,rfl,fun K hK => ?_⟩
   have e30 : a.tmps[30]? = some (v144):=by rw [ha];exact jJ (e:=(5,30,v144)) 5 rfl rfl (hon 5 (by kernel_rfl)) rfl
   replace ha:=qd.mk ha
   have BK128:=qd.mk Q_BK128
   have HB:=qd.mk Q_HB
   have HO135:=qd.mk (Q_HO135 (hon 1 (by kernel_rfl)))
   have HO138:=qd.mk (Q_HO138 (hon 2 (by kernel_rfl)) (hoff 20 (by kernel_rfl)))
   have HO145:=qd.mk (Q_HO145 (hon 5 (by kernel_rfl)))
   obtain ⟨Ao26,co26,eo26⟩:=Kd.jk HO138.out
   (first|subst eo26|(injection eo26 with f1_ f2_ f3_;have f4_:=f1_.symm;have f5_:=f3_.symm;clear f1_ f2_ f3_;subst f4_;subst f5_))
   obtain ⟨Ao27,co27,eo27⟩:=Kd.jk HO145.out
   (first|subst eo27|(injection eo27 with f1_ f2_ f3_;have f4_:=f1_.symm;have f5_:=f3_.symm;clear f1_ f2_ f3_;subst f4_;subst f5_))
   refine xR Try.func20 (by kernel_rfl) rfl #[.string (⟨#[69]⟩ : ByteArray),.slice Ao27 y143.length co27] (by rfl) rfl rfl (by first|(simp only [List.map_toArray,List.map_cons,List.map_nil,Act.eval,Array.getD_eq_getD_getElem?,Option.getD_some,e30];done)|(simp only [List.map_toArray,List.map_cons,List.map_nil,Act.eval,Array.getD_eq_getD_getElem?,Option.getD_some,e30];rfl)) ?_
   with_reducible refine (qo.calls (⟨#[69]⟩ : ByteArray) _ _ y143 t146 _ ?side1 ?side2 A5.out).mono ?_
   (case side1 => repeat (first|exact (Kd.je HO145.out).2.2|(with_reducible refine Kd.jP ?_ _)|(with_reducible refine Kd.jQ ?_ _)|(with_reducible refine Kd.zh ?_)))
   (case side2 => exact (Kd.je HO145.out).2.1)
   rintro e w28 ⟨v147,rfl,ho0,hb⟩
   refine ⟨_,rfl,?_⟩
   have n0_:=qd.mk (Kd.qN (by (with_reducible repeat (first|apply Kd.qy|apply Kd.qz|apply Kd.qC));exact HO135.out) hb)
   have n1_:=qd.mk (Kd.qY (by (with_reducible repeat (first|apply Kd.qy|apply Kd.qz|apply Kd.qC));exact HO138.out) (Kd.jd ho0) hb)
   have n2_:=qd.mk (Kd.qN (by (with_reducible repeat (first|apply Kd.qy|apply Kd.qz|apply Kd.qC));exact HO145.out) hb)
   have n3_:=qd.mk (Kd.jS (Kd.zA ho0 (Kd.R_lt (by (with_reducible repeat (first|apply Kd.qy|apply Kd.qz|apply Kd.qC));exact HO138.out))) (qH (by repeat (first|(with_reducible first|exact HB.out|apply qg|apply qc|apply qf|refine qp ?_ GE128.out)|exact HB.out))))
   have n4_:=qd.mk (qR (g:=gb128) (o:=.cells #[.int .i64 t124,.int .i64 t125,.int .i64 3,.int .i64 t127] 23 (0,0)) (by (with_reducible repeat (first|refine qx ?_ _|refine qA ?_|refine qw ?_ _));exact BK128.out) hb)
   have n5_:=qd.mk (qI (by repeat (first|(with_reducible first|exact HB.out|apply qg|apply qc|apply qf|refine qp ?_ GE128.out)|exact HB.out)) hb)
   have z_HO155:=fun (h0_ : b 9 = true) => (show Kd.R (Kd.int .u8) 5 w28 w.heap.size (fun _ => True) v154 y153 from by first|exact (Kd.qN (by (with_reducible repeat (first|apply Kd.qy|apply Kd.qz|apply Kd.qC));exact (Q_HO155 h0_)) hb)|exact Kd.qO (Kd.qN (by (with_reducible repeat (first|apply Kd.qy|apply Kd.qz|apply Kd.qC));exact (Q_HO155 h0_)) hb) (fun _ h_ => by first|trivial|exact h_|exact h_.1))
   have z_HO165:=fun (h0_ : b 13 = true) => (show Kd.R (Kd.int .u8) 5 w28 w.heap.size (fun _ => True) v164 y163 from by first|exact (Kd.qN (by (with_reducible repeat (first|apply Kd.qy|apply Kd.qz|apply Kd.qC));exact (Q_HO165 h0_)) hb)|exact Kd.qO (Kd.qN (by (with_reducible repeat (first|apply Kd.qy|apply Kd.qz|apply Kd.qC));exact (Q_HO165 h0_)) hb) (fun _ h_ => by first|trivial|exact h_|exact h_.1))
   have z_HO171:=fun (h0_ : b 17 = true) => (show Kd.R (Kd.int .u8) 5 w28 w.heap.size (fun _ => True) v170 y169 from by first|exact (Kd.qN (by (with_reducible repeat (first|apply Kd.qy|apply Kd.qz|apply Kd.qC));exact (Q_HO171 h0_)) hb)|exact Kd.qO (Kd.qN (by (with_reducible repeat (first|apply Kd.qy|apply Kd.qz|apply Kd.qC));exact (Q_HO171 h0_)) hb) (fun _ h_ => by first|trivial|exact h_|exact h_.1))
   clear HO135
   clear HO138
   clear HO145
   clear BK128
   clear HB
   have HO135:=n0_
   have HO138:=n1_
   have HO145:=n2_
   have HO148:=n3_
   have BK128:=n4_
   have HB:=n5_
   clear n0_ n1_ n2_ n3_ n4_ n5_
   (try clear hb)
   (try clear hb2)
   (try clear hk)
   (try clear hi)
   (try clear ho0)
   obtain ⟨Ao29,co29,eo29⟩:=Kd.jk HO148.out
   (first|subst eo29|(injection eo29 with f1_ f2_ f3_;have f4_:=f1_.symm;have f5_:=f3_.symm;clear f1_ f2_ f3_;subst f4_;subst f5_))
   refine hK.out _ _ ⟨v134,.slice Ao26 t136.length co26,.slice Ao27 y143.length co27,.slice Ao29 t146.length co29,v154,v157,v164,v167,v170,v173,v176,m3_,m7_,m11_,m15_,m19_,(by rw [ha.out];exact jC 6 hb_ rfl rfl rfl),(by (with_reducible repeat (first|refine qx ?_ _|refine qA ?_|refine qw ?_ _));exact BK128.out),(by repeat (first|(with_reducible first|exact HB.out|apply qg|apply qc|apply qf|refine qp ?_ GE128.out)|exact HB.out)),fun _ => (by (with_reducible repeat (first|apply Kd.qy|apply Kd.qz|apply Kd.qC));first|exact HO135.out|exact Kd.qO HO135.out (fun _ _ => trivial)),fun _ _ => (by (with_reducible repeat (first|apply Kd.qy|apply Kd.qz|apply Kd.qC));first|exact Kd.qO HO138.out (fun _ hk => hk.2)|exact Kd.qO HO138.out (fun _ _ => trivial)|first|exact HO138.out|exact Kd.qO HO138.out (fun _ _ => trivial)),fun _ => (by (with_reducible repeat (first|apply Kd.qy|apply Kd.qz|apply Kd.qC));first|exact HO145.out|exact Kd.qO HO145.out (fun _ _ => trivial)),fun _ _ => (by (with_reducible repeat (first|apply Kd.qy|apply Kd.qz|apply Kd.qC));first|exact Kd.qO HO148.out (fun _ hk => hk.2)|exact Kd.qO HO148.out (fun _ _ => trivial)|first|exact HO148.out|exact Kd.qO HO148.out (fun _ _ => trivial)),z_HO155,fun h0_ _ => absurd ((hoff 10 (by kernel_rfl)).symm.trans h0_) (by decide),z_HO165,fun h0_ _ => absurd ((hoff 14 (by kernel_rfl)).symm.trans h0_) (by decide),z_HO171,fun h0_ _ => absurd ((hoff 18 (by kernel_rfl)).symm.trans h0_) (by decide),fun h0_ => absurd ((hoff 20 (by kernel_rfl)).symm.trans h0_) (by decide),Q_X3_,fun h0_ => absurd ((hoff 7 (by kernel_rfl)).symm.trans h0_) (by decide),fun h0_ => absurd ((hoff 11 (by kernel_rfl)).symm.trans h0_) (by decide),fun h0_ => absurd ((hoff 15 (by kernel_rfl)).symm.trans h0_) (by decide),fun h0_ => absurd ((hoff 19 (by kernel_rfl)).symm.trans h0_) (by decide)⟩
  refine jB ?_ ?_
  ·rintro b a w' ⟨v134,v137,v144,v147,v154,v157,v164,v167,v170,v173,v176,m3_,m7_,m11_,m15_,m19_,ha,Q_BK128,Q_HB,Q_HO135,Q_HO138,Q_HO145,Q_HO148,Q_HO155,Q_HO158,Q_HO165,Q_HO168,Q_HO171,Q_HO174,Q_HO177,Q_X3_,Q_X7_,Q_X11_,Q_X15_,Q_X19_⟩ hb_ hon hoff
   refine ⟨_,rfl,fun K hK => ?_⟩
   have e29 : a.tmps[29]? = some (.agg #[.int .i64 t139,.int .i64 t140,.int .i64 t141,.int .i64 t142]):=by rw [ha];exact jJ (e:=(4,29,.agg #[.int .i64 t139,.int .i64 t140,.int .i64 t141,.int .i64 t142])) 4 rfl rfl (hon 4 (by kernel_rfl)) rfl
   have e31 : a.tmps[31]? = some (v147):=by rw [ha];exact jJ (e:=(6,31,v147)) 6 rfl rfl (hon 6 (by kernel_rfl)) rfl
   replace ha:=qd.mk ha
   have BK128:=qd.mk Q_BK128
   have HB:=qd.mk Q_HB
   have HO135:=qd.mk (Q_HO135 (hon 1 (by kernel_rfl)))
   have HO138:=qd.mk (Q_HO138 (hon 2 (by kernel_rfl)) (hoff 20 (by kernel_rfl)))
   have HO145:=qd.mk (Q_HO145 (hon 5 (by kernel_rfl)))
   have HO148:=qd.mk (Q_HO148 (hon 6 (by kernel_rfl)) (hoff 20 (by kernel_rfl)))
   obtain ⟨Ao7_0,co7_0,eo_⟩:=Kd.jk HO148.out
   subst eo_
   refine kI (w1:=w') (v:=.agg #[.string (⟨#[77,65,73,78]⟩ : ByteArray),.string (⟨#[77,65,73,78,69]⟩ : ByteArray),.int .i64 t139,.int .i64 t140,.int .i64 t141,.int .i64 t142,.int .i64 1,.slice Ao7_0 t146.length co7_0]) (by rfl) rfl ?_ ?_
   ·go_simp
    (try simp only [qE])
    try rfl
   refine hK.out _ _ ⟨v134,v137,v144,.slice Ao7_0 t146.length co7_0,v154,v157,v164,v167,v170,v173,v176,m3_,(.agg #[.string (⟨#[77,65,73,78]⟩ : ByteArray),.string (⟨#[77,65,73,78,69]⟩ : ByteArray),.int .i64 t139,.int .i64 t140,.int .i64 t141,.int .i64 t142,.int .i64 1,.slice Ao7_0 t146.length co7_0]),m11_,m15_,m19_,(by rw [ha.out];exact jC 7 hb_ rfl rfl rfl),Q_BK128,Q_HB,Q_HO135,Q_HO138,Q_HO145,Q_HO148,Q_HO155,Q_HO158,Q_HO165,Q_HO168,Q_HO171,Q_HO174,fun h0_ => absurd ((hoff 20 (by kernel_rfl)).symm.trans h0_) (by decide),Q_X3_,fun _ => rfl,Q_X11_,Q_X15_,Q_X19_⟩
  refine jB ?_ ?_
  ·rintro b a w' ⟨v134,v137,v144,v147,v154,v157,v164,v167,v170,v173,v176,m3_,m7_,m11_,m15_,m19_,ha,Q_BK128,Q_HB,Q_HO135,Q_HO138,Q_HO145,Q_HO148,Q_HO155,Q_HO158,Q_HO165,Q_HO168,Q_HO171,Q_HO174,Q_HO177,Q_X3_,Q_X7_,Q_X11_,Q_X15_,Q_X19_⟩ hb_ hon hoff
   refine ⟨_,rfl,fun K hK => ?_⟩
   replace ha:=qd.mk ha
   have BK128:=qd.mk Q_BK128
   have HB:=qd.mk Q_HB
   have HO135:=qd.mk (Q_HO135 (hon 1 (by kernel_rfl)))
   have HO138:=qd.mk (Q_HO138 (hon 2 (by kernel_rfl)) (hoff 20 (by kernel_rfl)))
   have HO145:=qd.mk (Q_HO145 (hon 5 (by kernel_rfl)))
   have HO148:=qd.mk (Q_HO148 (hon 6 (by kernel_rfl)) (hoff 20 (by kernel_rfl)))
   obtain ⟨Ao29,co29,eo29⟩:=Kd.jk HO138.out
   (first|subst eo29|(injection eo29 with f1_ f2_ f3_;have f4_:=f1_.symm;have f5_:=f3_.symm;clear f1_ f2_ f3_;subst f4_;subst f5_))
   obtain ⟨Ao30,co30,eo30⟩:=Kd.jk HO148.out
   (first|subst eo30|(injection eo30 with f1_ f2_ f3_;have f4_:=f1_.symm;have f5_:=f3_.symm;clear f1_ f2_ f3_;subst f4_;subst f5_))
   refine xR Try.func15 (by kernel_rfl) rfl #[] (by rfl) rfl rfl (by first|(simp only [List.map_toArray,List.map_cons,List.map_nil,Act.eval,Array.getD_eq_getD_getElem?,Option.getD_some];done)|(simp only [List.map_toArray,List.map_cons,List.map_nil,Act.eval,Array.getD_eq_getD_getElem?,Option.getD_some];rfl)) ?_
   with_reducible refine (qK.calls  t149 t150 t151 t152 _ A6.out).mono ?_
   rintro e w31 ⟨rfl,hb⟩
   refine ⟨_,rfl,?_⟩
   have n0_:=qd.mk (Kd.qN (by (with_reducible repeat (first|apply Kd.qy|apply Kd.qz|apply Kd.qC));exact HO135.out) hb)
   have n1_:=qd.mk (Kd.qN (by (with_reducible repeat (first|apply Kd.qy|apply Kd.qz|apply Kd.qC));exact HO138.out) hb)
   have n2_:=qd.mk (Kd.qN (by (with_reducible repeat (first|apply Kd.qy|apply Kd.qz|apply Kd.qC));exact HO145.out) hb)
   have n3_:=qd.mk (Kd.qN (by (with_reducible repeat (first|apply Kd.qy|apply Kd.qz|apply Kd.qC));exact HO148.out) hb)
   have n4_:=qd.mk (qR (g:=gb128) (o:=.cells #[.int .i64 t124,.int .i64 t125,.int .i64 3,.int .i64 t127] 23 (0,0)) (by (with_reducible repeat (first|refine qx ?_ _|refine qA ?_|refine qw ?_ _));exact BK128.out) hb)
   have n5_:=qd.mk (qI (by repeat (first|(with_reducible first|exact HB.out|apply qg|apply qc|apply qf|refine qp ?_ GE128.out)|exact HB.out)) hb)
   have z_HO155:=fun (h0_ : b 9 = true) => (show Kd.R (Kd.int .u8) 5 w31 w.heap.size (fun _ => True) v154 y153 from by first|exact (Kd.qN (by (with_reducible repeat (first|apply Kd.qy|apply Kd.qz|apply Kd.qC));exact (Q_HO155 h0_)) hb)|exact Kd.qO (Kd.qN (by (with_reducible repeat (first|apply Kd.qy|apply Kd.qz|apply Kd.qC));exact (Q_HO155 h0_)) hb) (fun _ h_ => by first|trivial|exact h_|exact h_.1))
   have z_HO165:=fun (h0_ : b 13 = true) => (show Kd.R (Kd.int .u8) 5 w31 w.heap.size (fun _ => True) v164 y163 from by first|exact (Kd.qN (by (with_reducible repeat (first|apply Kd.qy|apply Kd.qz|apply Kd.qC));exact (Q_HO165 h0_)) hb)|exact Kd.qO (Kd.qN (by (with_reducible repeat (first|apply Kd.qy|apply Kd.qz|apply Kd.qC));exact (Q_HO165 h0_)) hb) (fun _ h_ => by first|trivial|exact h_|exact h_.1))
   have z_HO171:=fun (h0_ : b 17 = true) => (show Kd.R (Kd.int .u8) 5 w31 w.heap.size (fun _ => True) v170 y169 from by first|exact (Kd.qN (by (with_reducible repeat (first|apply Kd.qy|apply Kd.qz|apply Kd.qC));exact (Q_HO171 h0_)) hb)|exact Kd.qO (Kd.qN (by (with_reducible repeat (first|apply Kd.qy|apply Kd.qz|apply Kd.qC));exact (Q_HO171 h0_)) hb) (fun _ h_ => by first|trivial|exact h_|exact h_.1))
   clear HO135
   clear HO138
   clear HO145
   clear HO148
   clear BK128
   clear HB
   have HO135:=n0_
   have HO138:=n1_
   have HO145:=n2_
   have HO148:=n3_
   have BK128:=n4_
   have HB:=n5_
   clear n0_ n1_ n2_ n3_ n4_ n5_
   (try clear hb)
   (try clear hb2)
   (try clear hk)
   (try clear hi)
   refine hK.out _ _ ⟨v134,.slice Ao29 t136.length co29,v144,.slice Ao30 t146.length co30,v154,v157,v164,v167,v170,v173,v176,m3_,m7_,m11_,m15_,m19_,(by rw [ha.out];exact jC 8 hb_ rfl rfl rfl),(by (with_reducible repeat (first|refine qx ?_ _|refine qA ?_|refine qw ?_ _));exact BK128.out),(by repeat (first|(with_reducible first|exact HB.out|apply qg|apply qc|apply qf|refine qp ?_ GE128.out)|exact HB.out)),fun _ => (by (with_reducible repeat (first|apply Kd.qy|apply Kd.qz|apply Kd.qC));first|exact HO135.out|exact Kd.qO HO135.out (fun _ _ => trivial)),fun _ _ => (by (with_reducible repeat (first|apply Kd.qy|apply Kd.qz|apply Kd.qC));first|exact HO138.out|exact Kd.qO HO138.out (fun _ _ => trivial)),fun _ => (by (with_reducible repeat (first|apply Kd.qy|apply Kd.qz|apply Kd.qC));first|exact HO145.out|exact Kd.qO HO145.out (fun _ _ => trivial)),fun _ _ => (by (with_reducible repeat (first|apply Kd.qy|apply Kd.qz|apply Kd.qC));first|exact HO148.out|exact Kd.qO HO148.out (fun _ _ => trivial)),z_HO155,fun h0_ _ => absurd ((hoff 10 (by kernel_rfl)).symm.trans h0_) (by decide),z_HO165,fun h0_ _ => absurd ((hoff 14 (by kernel_rfl)).symm.trans h0_) (by decide),z_HO171,fun h0_ _ => absurd ((hoff 18 (by kernel_rfl)).symm.trans h0_) (by decide),fun h0_ => absurd ((hoff 20 (by kernel_rfl)).symm.trans h0_) (by decide),Q_X3_,Q_X7_,fun h0_ => absurd ((hoff 11 (by kernel_rfl)).symm.trans h0_) (by decide),fun h0_ => absurd ((hoff 15 (by kernel_rfl)).symm.trans h0_) (by decide),fun h0_ => absurd ((hoff 19 (by kernel_rfl)).symm.trans h0_) (by decide)⟩
  refine jB ?_ ?_
  ·rintro b a w' ⟨v134,v137,v144,v147,v154,v157,v164,v167,v170,v173,v176,m3_,m7_,m11_,m15_,m19_,ha,Q_BK128,Q_HB,Q_HO135,Q_HO138,Q_HO145,Q_HO148,Q_HO155,Q_HO158,Q_HO165,Q_HO168,Q_HO171,Q_HO174,Q_HO177,Q_X3_,Q_X7_,Q_X11_,Q_X15_,Q_X19_⟩ hb_ hon hoff
   refine ⟨_,rfl,fun K hK => ?_⟩
   replace ha:=qd.mk ha
   have BK128:=qd.mk Q_BK128
   have HB:=qd.mk Q_HB
   refine Kd.xn (Kd.int .u8) _ 5 ?hg (N:=34) ?hd (xs:=([4,4] : List Int)) (inner:=[.int .u8 4,.int .u8 4]) (ok:=fun _ => True) (okp:=fun _ => True) ?hr ?hp (fun _ hk => hk) trivial (Below.refl _ _) (Nat.le_refl _) (by simp) ?_;(case hd => rfl);(case hg => rfl);(case hr => first|(go_simp;done)|(go_simp;rfl));(case hp => exact (Reps.one (show Kd.M (Kd.int .u8) _ _ _ 4 [.int .u8 4] from rfl) (Reps.one (show Kd.M (Kd.int .u8) _ _ _ 4 [.int .u8 4] from rfl) (Reps.none _ _))))
   intro v154 w16 ho17 hb hg_ hnew_
   clear hg_ hnew_
   (first|rw [← Ny153.out] at ho17|(simp only [Int.reduceToNat] at ho17;rw [← Ny153.out] at ho17))
   have n0_:=qd.mk (Kd.jS ho17 (qH (by repeat (first|(with_reducible first|exact HB.out|apply qg|apply qc|apply qf|refine qp ?_ GE128.out)|exact HB.out))))
   have n1_:=qd.mk (qR (g:=gb128) (o:=.cells #[.int .i64 t124,.int .i64 t125,.int .i64 3,.int .i64 t127] 23 (0,0)) (by (with_reducible repeat (first|refine qx ?_ _|refine qA ?_|refine qw ?_ _));exact BK128.out) hb)
   have n2_:=qd.mk (qI (by repeat (first|(with_reducible first|exact HB.out|apply qg|apply qc|apply qf|refine qp ?_ GE128.out)|exact HB.out)) hb)
   have z_HO135:=fun (h0_ : b 1 = true) => (show Kd.R (Kd.int .u8) 5 w16 w.heap.size (fun _ => True) v134 y133 from by first|exact (Kd.qY (by (with_reducible repeat (first|apply Kd.qy|apply Kd.qz|apply Kd.qC));exact (Q_HO135 h0_)) (Kd.jd ho17) hb)|exact Kd.qO (Kd.qY (by (with_reducible repeat (first|apply Kd.qy|apply Kd.qz|apply Kd.qC));exact (Q_HO135 h0_)) (Kd.jd ho17) hb) (fun _ h_ => by first|trivial|exact h_|exact h_.1))
   have z_HO138:=fun (h0_ : b 2 = true) (h1_ : b 20 = false) => (show Kd.R k38 38 w16 w.heap.size (fun _ => True) v137 t136 from by first|exact (Kd.qN (by (with_reducible repeat (first|apply Kd.qy|apply Kd.qz|apply Kd.qC));exact (Q_HO138 h0_ h1_)) hb)|exact Kd.qO (Kd.qN (by (with_reducible repeat (first|apply Kd.qy|apply Kd.qz|apply Kd.qC));exact (Q_HO138 h0_ h1_)) hb) (fun _ h_ => by first|trivial|exact h_|exact h_.1))
   have z_HO145:=fun (h0_ : b 5 = true) => (show Kd.R (Kd.int .u8) 5 w16 w.heap.size (fun _ => True) v144 y143 from by first|exact (Kd.qY (by (with_reducible repeat (first|apply Kd.qy|apply Kd.qz|apply Kd.qC));exact (Q_HO145 h0_)) (Kd.jd ho17) hb)|exact Kd.qO (Kd.qY (by (with_reducible repeat (first|apply Kd.qy|apply Kd.qz|apply Kd.qC));exact (Q_HO145 h0_)) (Kd.jd ho17) hb) (fun _ h_ => by first|trivial|exact h_|exact h_.1))
   have z_HO148:=fun (h0_ : b 6 = true) (h1_ : b 20 = false) => (show Kd.R k38 38 w16 w.heap.size (fun _ => True) v147 t146 from by first|exact (Kd.qN (by (with_reducible repeat (first|apply Kd.qy|apply Kd.qz|apply Kd.qC));exact (Q_HO148 h0_ h1_)) hb)|exact Kd.qO (Kd.qN (by (with_reducible repeat (first|apply Kd.qy|apply Kd.qz|apply Kd.qC));exact (Q_HO148 h0_ h1_)) hb) (fun _ h_ => by first|trivial|exact h_|exact h_.1))
   have z_HO165:=fun (h0_ : b 13 = true) => (show Kd.R (Kd.int .u8) 5 w16 w.heap.size (fun _ => True) v164 y163 from by first|exact (Kd.qY (by (with_reducible repeat (first|apply Kd.qy|apply Kd.qz|apply Kd.qC));exact (Q_HO165 h0_)) (Kd.jd ho17) hb)|exact Kd.qO (Kd.qY (by (with_reducible repeat (first|apply Kd.qy|apply Kd.qz|apply Kd.qC));exact (Q_HO165 h0_)) (Kd.jd ho17) hb) (fun _ h_ => by first|trivial|exact h_|exact h_.1))
   have z_HO171:=fun (h0_ : b 17 = true) => (show Kd.R (Kd.int .u8) 5 w16 w.heap.size (fun _ => True) v170 y169 from by first|exact (Kd.qY (by (with_reducible repeat (first|apply Kd.qy|apply Kd.qz|apply Kd.qC));exact (Q_HO171 h0_)) (Kd.jd ho17) hb)|exact Kd.qO (Kd.qY (by (with_reducible repeat (first|apply Kd.qy|apply Kd.qz|apply Kd.qC));exact (Q_HO171 h0_)) (Kd.jd ho17) hb) (fun _ h_ => by first|trivial|exact h_|exact h_.1))
   clear BK128
   clear HB
   have HO155:=n0_
   have BK128:=n1_
   have HB:=n2_
   clear n0_ n1_ n2_
   clear hb ho17
   refine hK.out _ _ ⟨v134,v137,v144,v147,v154,v157,v164,v167,v170,v173,v176,m3_,m7_,m11_,m15_,m19_,(by rw [ha.out];exact jC 9 hb_ rfl rfl rfl),(by (with_reducible repeat (first|refine qx ?_ _|refine qA ?_|refine qw ?_ _));exact BK128.out),(by repeat (first|(with_reducible first|exact HB.out|apply qg|apply qc|apply qf|refine qp ?_ GE128.out)|exact HB.out)),z_HO135,z_HO138,z_HO145,z_HO148,fun _ => (by (with_reducible repeat (first|apply Kd.qy|apply Kd.qz|apply Kd.qC));first|exact HO155.out|exact Kd.qO HO155.out (fun _ _ => trivial)),fun h0_ _ => absurd ((hoff 10 (by kernel_rfl)).symm.trans h0_) (by decide),z_HO165,fun h0_ _ => absurd ((hoff 14 (by kernel_rfl)).symm.trans h0_) (by decide),z_HO171,fun h0_ _ => absurd ((hoff 18 (by kernel_rfl)).symm.trans h0_) (by decide),fun h0_ => absurd ((hoff 20 (by kernel_rfl)).symm.trans h0_) (by decide),Q_X3_,Q_X7_,fun h0_ => absurd ((hoff 11 (by kernel_rfl)).symm.trans h0_) (by decide),fun h0_ => absurd ((hoff 15 (by kernel_rfl)).symm.trans h0_) (by decide),fun h0_ => absurd ((hoff 19 (by kernel_rfl)).symm.trans h0_) (by decide)⟩
  refine jB ?_ ?_
  ·rintro b a w' ⟨v134,v137,v144,v147,v154,v157,v164,v167,v170,v173,v176,m3_,m7_,m11_,m15_,m19_,ha,Q_BK128,Q_HB,Q_HO135,Q_HO138,Q_HO145,Q_HO148,Q_HO155,Q_HO158,Q_HO165,Q_HO168,Q_HO171,Q_HO174,Q_HO177,Q_X3_,Q_X7_,Q_X11_,Q_X15_,Q_X19_⟩ hb_ hon hoff
   refine ⟨_,rfl,fun K hK => ?_⟩
   have e34 : a.tmps[34]? = some (v154):=by rw [ha];exact jJ (e:=(9,34,v154)) 9 rfl rfl (hon 9 (by kernel_rfl)) rfl
   replace ha:=qd.mk ha
   have BK128:=qd.mk Q_BK128
   have HB:=qd.mk Q_HB
   have HO135:=qd.mk (Q_HO135 (hon 1 (by kernel_rfl)))
   have HO138:=qd.mk (Q_HO138 (hon 2 (by kernel_rfl)) (hoff 20 (by kernel_rfl)))
   have HO145:=qd.mk (Q_HO145 (hon 5 (by kernel_rfl)))
   have HO148:=qd.mk (Q_HO148 (hon 6 (by kernel_rfl)) (hoff 20 (by kernel_rfl)))
   have HO155:=qd.mk (Q_HO155 (hon 9 (by kernel_rfl)))
   obtain ⟨Ao32,co32,eo32⟩:=Kd.jk HO138.out
   (first|subst eo32|(injection eo32 with f1_ f2_ f3_;have f4_:=f1_.symm;have f5_:=f3_.symm;clear f1_ f2_ f3_;subst f4_;subst f5_))
   obtain ⟨Ao33,co33,eo33⟩:=Kd.jk HO148.out
   (first|subst eo33|(injection eo33 with f1_ f2_ f3_;have f4_:=f1_.symm;have f5_:=f3_.symm;clear f1_ f2_ f3_;subst f4_;subst f5_))
   obtain ⟨Ao34,co34,eo34⟩:=Kd.jk HO155.out
   (first|subst eo34|(injection eo34 with f1_ f2_ f3_;have f4_:=f1_.symm;have f5_:=f3_.symm;clear f1_ f2_ f3_;subst f4_;subst f5_))
   refine xR Try.func20 (by kernel_rfl) rfl #[.string (⟨#[]⟩ : ByteArray),.slice Ao34 y153.length co34] (by rfl) rfl rfl (by first|(simp only [List.map_toArray,List.map_cons,List.map_nil,Act.eval,Array.getD_eq_getD_getElem?,Option.getD_some,e34];done)|(simp only [List.map_toArray,List.map_cons,List.map_nil,Act.eval,Array.getD_eq_getD_getElem?,Option.getD_some,e34];rfl)) ?_
   with_reducible refine (qo.calls (⟨#[]⟩ : ByteArray) _ _ y153 t156 _ ?side1 ?side2 A7.out).mono ?_
   (case side1 => repeat (first|exact (Kd.je HO155.out).2.2|(with_reducible refine Kd.jP ?_ _)|(with_reducible refine Kd.jQ ?_ _)|(with_reducible refine Kd.zh ?_)))
   (case side2 => exact (Kd.je HO155.out).2.1)
   rintro e w35 ⟨v157,rfl,ho0,hb⟩
   refine ⟨_,rfl,?_⟩
   have n0_:=qd.mk (Kd.qN (by (with_reducible repeat (first|apply Kd.qy|apply Kd.qz|apply Kd.qC));exact HO135.out) hb)
   have n1_:=qd.mk (Kd.qY (by (with_reducible repeat (first|apply Kd.qy|apply Kd.qz|apply Kd.qC));exact HO138.out) (Kd.jd ho0) hb)
   have n2_:=qd.mk (Kd.qN (by (with_reducible repeat (first|apply Kd.qy|apply Kd.qz|apply Kd.qC));exact HO145.out) hb)
   have n3_:=qd.mk (Kd.qY (by (with_reducible repeat (first|apply Kd.qy|apply Kd.qz|apply Kd.qC));exact HO148.out) (Kd.jd ho0) hb)
   have n4_:=qd.mk (Kd.qN (by (with_reducible repeat (first|apply Kd.qy|apply Kd.qz|apply Kd.qC));exact HO155.out) hb)
   have n5_:=qd.mk (Kd.jS (Kd.zA (Kd.zA ho0 (Kd.R_lt (by (with_reducible repeat (first|apply Kd.qy|apply Kd.qz|apply Kd.qC));exact HO138.out))) (Kd.R_lt (by (with_reducible repeat (first|apply Kd.qy|apply Kd.qz|apply Kd.qC));exact HO148.out))) (qH (by repeat (first|(with_reducible first|exact HB.out|apply qg|apply qc|apply qf|refine qp ?_ GE128.out)|exact HB.out))))
   have n6_:=qd.mk (qR (g:=gb128) (o:=.cells #[.int .i64 t124,.int .i64 t125,.int .i64 3,.int .i64 t127] 23 (0,0)) (by (with_reducible repeat (first|refine qx ?_ _|refine qA ?_|refine qw ?_ _));exact BK128.out) hb)
   have n7_:=qd.mk (qI (by repeat (first|(with_reducible first|exact HB.out|apply qg|apply qc|apply qf|refine qp ?_ GE128.out)|exact HB.out)) hb)
   have z_HO165:=fun (h0_ : b 13 = true) => (show Kd.R (Kd.int .u8) 5 w35 w.heap.size (fun _ => True) v164 y163 from by first|exact (Kd.qN (by (with_reducible repeat (first|apply Kd.qy|apply Kd.qz|apply Kd.qC));exact (Q_HO165 h0_)) hb)|exact Kd.qO (Kd.qN (by (with_reducible repeat (first|apply Kd.qy|apply Kd.qz|apply Kd.qC));exact (Q_HO165 h0_)) hb) (fun _ h_ => by first|trivial|exact h_|exact h_.1))
   have z_HO171:=fun (h0_ : b 17 = true) => (show Kd.R (Kd.int .u8) 5 w35 w.heap.size (fun _ => True) v170 y169 from by first|exact (Kd.qN (by (with_reducible repeat (first|apply Kd.qy|apply Kd.qz|apply Kd.qC));exact (Q_HO171 h0_)) hb)|exact Kd.qO (Kd.qN (by (with_reducible repeat (first|apply Kd.qy|apply Kd.qz|apply Kd.qC));exact (Q_HO171 h0_)) hb) (fun _ h_ => by first|trivial|exact h_|exact h_.1))
   clear HO135
   clear HO138
   clear HO145
   clear HO148
   clear HO155
   clear BK128
   clear HB
   have HO135:=n0_
   have HO138:=n1_
   have HO145:=n2_
   have HO148:=n3_
   have HO155:=n4_
   have HO158:=n5_
   have BK128:=n6_
   have HB:=n7_
   clear n0_ n1_ n2_ n3_ n4_ n5_ n6_ n7_
   (try clear hb)
   (try clear hb2)
   (try clear hk)
   (try clear hi)
   (try clear ho0)
   obtain ⟨Ao36,co36,eo36⟩:=Kd.jk HO158.out
   (first|subst eo36|(injection eo36 with f1_ f2_ f3_;have f4_:=f1_.symm;have f5_:=f3_.symm;clear f1_ f2_ f3_;subst f4_;subst f5_))
   refine hK.out _ _ ⟨v134,.slice Ao32 t136.length co32,v144,.slice Ao33 t146.length co33,.slice Ao34 y153.length co34,.slice Ao36 t156.length co36,v164,v167,v170,v173,v176,m3_,m7_,m11_,m15_,m19_,(by rw [ha.out];exact jC 10 hb_ rfl rfl rfl),(by (with_reducible repeat (first|refine qx ?_ _|refine qA ?_|refine qw ?_ _));exact BK128.out),(by repeat (first|(with_reducible first|exact HB.out|apply qg|apply qc|apply qf|refine qp ?_ GE128.out)|exact HB.out)),fun _ => (by (with_reducible repeat (first|apply Kd.qy|apply Kd.qz|apply Kd.qC));first|exact HO135.out|exact Kd.qO HO135.out (fun _ _ => trivial)),fun _ _ => (by (with_reducible repeat (first|apply Kd.qy|apply Kd.qz|apply Kd.qC));first|exact HO138.out|exact Kd.qO HO138.out (fun _ _ => trivial)),fun _ => (by (with_reducible repeat (first|apply Kd.qy|apply Kd.qz|apply Kd.qC));first|exact HO145.out|exact Kd.qO HO145.out (fun _ _ => trivial)),fun _ _ => (by (with_reducible repeat (first|apply Kd.qy|apply Kd.qz|apply Kd.qC));first|exact HO148.out|exact Kd.qO HO148.out (fun _ _ => trivial)),fun _ => (by (with_reducible repeat (first|apply Kd.qy|apply Kd.qz|apply Kd.qC));first|exact HO155.out|exact Kd.qO HO155.out (fun _ _ => trivial)),fun _ _ => (by (with_reducible repeat (first|apply Kd.qy|apply Kd.qz|apply Kd.qC));first|exact Kd.qO HO158.out (fun _ hk => ⟨hk.1.2,hk.2⟩)|exact Kd.qO HO158.out (fun _ _ => trivial)|first|exact HO158.out|exact Kd.qO HO158.out (fun _ _ => trivial)),z_HO165,fun h0_ _ => absurd ((hoff 14 (by kernel_rfl)).symm.trans h0_) (by decide),z_HO171,fun h0_ _ => absurd ((hoff 18 (by kernel_rfl)).symm.trans h0_) (by decide),fun h0_ => absurd ((hoff 20 (by kernel_rfl)).symm.trans h0_) (by decide),Q_X3_,Q_X7_,fun h0_ => absurd ((hoff 11 (by kernel_rfl)).symm.trans h0_) (by decide),fun h0_ => absurd ((hoff 15 (by kernel_rfl)).symm.trans h0_) (by decide),fun h0_ => absurd ((hoff 19 (by kernel_rfl)).symm.trans h0_) (by decide)⟩
  refine jB ?_ ?_
  ·rintro b a w' ⟨v134,v137,v144,v147,v154,v157,v164,v167,v170,v173,v176,m3_,m7_,m11_,m15_,m19_,ha,Q_BK128,Q_HB,Q_HO135,Q_HO138,Q_HO145,Q_HO148,Q_HO155,Q_HO158,Q_HO165,Q_HO168,Q_HO171,Q_HO174,Q_HO177,Q_X3_,Q_X7_,Q_X11_,Q_X15_,Q_X19_⟩ hb_ hon hoff
   refine ⟨_,rfl,fun K hK => ?_⟩
   have e33 : a.tmps[33]? = some (.agg #[.int .i64 t149,.int .i64 t150,.int .i64 t151,.int .i64 t152]):=by rw [ha];exact jJ (e:=(8,33,.agg #[.int .i64 t149,.int .i64 t150,.int .i64 t151,.int .i64 t152])) 8 rfl rfl (hon 8 (by kernel_rfl)) rfl
   have e35 : a.tmps[35]? = some (v157):=by rw [ha];exact jJ (e:=(10,35,v157)) 10 rfl rfl (hon 10 (by kernel_rfl)) rfl
   replace ha:=qd.mk ha
   have BK128:=qd.mk Q_BK128
   have HB:=qd.mk Q_HB
   have HO135:=qd.mk (Q_HO135 (hon 1 (by kernel_rfl)))
   have HO138:=qd.mk (Q_HO138 (hon 2 (by kernel_rfl)) (hoff 20 (by kernel_rfl)))
   have HO145:=qd.mk (Q_HO145 (hon 5 (by kernel_rfl)))
   have HO148:=qd.mk (Q_HO148 (hon 6 (by kernel_rfl)) (hoff 20 (by kernel_rfl)))
   have HO155:=qd.mk (Q_HO155 (hon 9 (by kernel_rfl)))
   have HO158:=qd.mk (Q_HO158 (hon 10 (by kernel_rfl)) (hoff 20 (by kernel_rfl)))
   obtain ⟨Ao11_0,co11_0,eo_⟩:=Kd.jk HO158.out
   subst eo_
   refine kI (w1:=w') (v:=.agg #[.string (⟨#[65,66]⟩ : ByteArray),.string (⟨#[]⟩ : ByteArray),.int .i64 t149,.int .i64 t150,.int .i64 t151,.int .i64 t152,.int .i64 2,.slice Ao11_0 t156.length co11_0]) (by rfl) rfl ?_ ?_
   ·go_simp
    (try simp only [qE])
    try rfl
   refine hK.out _ _ ⟨v134,v137,v144,v147,v154,.slice Ao11_0 t156.length co11_0,v164,v167,v170,v173,v176,m3_,m7_,(.agg #[.string (⟨#[65,66]⟩ : ByteArray),.string (⟨#[]⟩ : ByteArray),.int .i64 t149,.int .i64 t150,.int .i64 t151,.int .i64 t152,.int .i64 2,.slice Ao11_0 t156.length co11_0]),m15_,m19_,(by rw [ha.out];exact jC 11 hb_ rfl rfl rfl),Q_BK128,Q_HB,Q_HO135,Q_HO138,Q_HO145,Q_HO148,Q_HO155,Q_HO158,Q_HO165,Q_HO168,Q_HO171,Q_HO174,fun h0_ => absurd ((hoff 20 (by kernel_rfl)).symm.trans h0_) (by decide),Q_X3_,Q_X7_,fun _ => rfl,Q_X15_,Q_X19_⟩
  refine jB ?_ ?_
  ·rintro b a w' ⟨v134,v137,v144,v147,v154,v157,v164,v167,v170,v173,v176,m3_,m7_,m11_,m15_,m19_,ha,Q_BK128,Q_HB,Q_HO135,Q_HO138,Q_HO145,Q_HO148,Q_HO155,Q_HO158,Q_HO165,Q_HO168,Q_HO171,Q_HO174,Q_HO177,Q_X3_,Q_X7_,Q_X11_,Q_X15_,Q_X19_⟩ hb_ hon hoff
   refine ⟨_,rfl,fun K hK => ?_⟩
   replace ha:=qd.mk ha
   have BK128:=qd.mk Q_BK128
   have HB:=qd.mk Q_HB
   have HO135:=qd.mk (Q_HO135 (hon 1 (by kernel_rfl)))
   have HO138:=qd.mk (Q_HO138 (hon 2 (by kernel_rfl)) (hoff 20 (by kernel_rfl)))
   have HO145:=qd.mk (Q_HO145 (hon 5 (by kernel_rfl)))
   have HO148:=qd.mk (Q_HO148 (hon 6 (by kernel_rfl)) (hoff 20 (by kernel_rfl)))
   have HO155:=qd.mk (Q_HO155 (hon 9 (by kernel_rfl)))
   have HO158:=qd.mk (Q_HO158 (hon 10 (by kernel_rfl)) (hoff 20 (by kernel_rfl)))
   obtain ⟨Ao35,co35,eo35⟩:=Kd.jk HO138.out
   (first|subst eo35|(injection eo35 with f1_ f2_ f3_;have f4_:=f1_.symm;have f5_:=f3_.symm;clear f1_ f2_ f3_;subst f4_;subst f5_))
   obtain ⟨Ao36,co36,eo36⟩:=Kd.jk HO148.out
   (first|subst eo36|(injection eo36 with f1_ f2_ f3_;have f4_:=f1_.symm;have f5_:=f3_.symm;clear f1_ f2_ f3_;subst f4_;subst f5_))
   obtain ⟨Ao37,co37,eo37⟩:=Kd.jk HO158.out
   (first|subst eo37|(injection eo37 with f1_ f2_ f3_;have f4_:=f1_.symm;have f5_:=f3_.symm;clear f1_ f2_ f3_;subst f4_;subst f5_))
   refine xR Try.func15 (by kernel_rfl) rfl #[] (by rfl) rfl rfl (by first|(simp only [List.map_toArray,List.map_cons,List.map_nil,Act.eval,Array.getD_eq_getD_getElem?,Option.getD_some];done)|(simp only [List.map_toArray,List.map_cons,List.map_nil,Act.eval,Array.getD_eq_getD_getElem?,Option.getD_some];rfl)) ?_
   with_reducible refine (qK.calls  t159 t160 t161 t162 _ A8.out).mono ?_
   rintro e w38 ⟨rfl,hb⟩
   refine ⟨_,rfl,?_⟩
   have n0_:=qd.mk (Kd.qN (by (with_reducible repeat (first|apply Kd.qy|apply Kd.qz|apply Kd.qC));exact HO135.out) hb)
   have n1_:=qd.mk (Kd.qN (by (with_reducible repeat (first|apply Kd.qy|apply Kd.qz|apply Kd.qC));exact HO138.out) hb)
   have n2_:=qd.mk (Kd.qN (by (with_reducible repeat (first|apply Kd.qy|apply Kd.qz|apply Kd.qC));exact HO145.out) hb)
   have n3_:=qd.mk (Kd.qN (by (with_reducible repeat (first|apply Kd.qy|apply Kd.qz|apply Kd.qC));exact HO148.out) hb)
   have n4_:=qd.mk (Kd.qN (by (with_reducible repeat (first|apply Kd.qy|apply Kd.qz|apply Kd.qC));exact HO155.out) hb)
   have n5_:=qd.mk (Kd.qN (by (with_reducible repeat (first|apply Kd.qy|apply Kd.qz|apply Kd.qC));exact HO158.out) hb)
   have n6_:=qd.mk (qR (g:=gb128) (o:=.cells #[.int .i64 t124,.int .i64 t125,.int .i64 3,.int .i64 t127] 23 (0,0)) (by (with_reducible repeat (first|refine qx ?_ _|refine qA ?_|refine qw ?_ _));exact BK128.out) hb)
   have n7_:=qd.mk (qI (by repeat (first|(with_reducible first|exact HB.out|apply qg|apply qc|apply qf|refine qp ?_ GE128.out)|exact HB.out)) hb)
   have z_HO165:=fun (h0_ : b 13 = true) => (show Kd.R (Kd.int .u8) 5 w38 w.heap.size (fun _ => True) v164 y163 from by first|exact (Kd.qN (by (with_reducible repeat (first|apply Kd.qy|apply Kd.qz|apply Kd.qC));exact (Q_HO165 h0_)) hb)|exact Kd.qO (Kd.qN (by (with_reducible repeat (first|apply Kd.qy|apply Kd.qz|apply Kd.qC));exact (Q_HO165 h0_)) hb) (fun _ h_ => by first|trivial|exact h_|exact h_.1))
   have z_HO171:=fun (h0_ : b 17 = true) => (show Kd.R (Kd.int .u8) 5 w38 w.heap.size (fun _ => True) v170 y169 from by first|exact (Kd.qN (by (with_reducible repeat (first|apply Kd.qy|apply Kd.qz|apply Kd.qC));exact (Q_HO171 h0_)) hb)|exact Kd.qO (Kd.qN (by (with_reducible repeat (first|apply Kd.qy|apply Kd.qz|apply Kd.qC));exact (Q_HO171 h0_)) hb) (fun _ h_ => by first|trivial|exact h_|exact h_.1))
   clear HO135
   clear HO138
   clear HO145
   clear HO148
   clear HO155
   clear HO158
   clear BK128
   clear HB
   have HO135:=n0_
   have HO138:=n1_
   have HO145:=n2_
   have HO148:=n3_
   have HO155:=n4_
   have HO158:=n5_
   have BK128:=n6_
   have HB:=n7_
   clear n0_ n1_ n2_ n3_ n4_ n5_ n6_ n7_
   (try clear hb)
   (try clear hb2)
   (try clear hk)
   (try clear hi)
   refine hK.out _ _ ⟨v134,.slice Ao35 t136.length co35,v144,.slice Ao36 t146.length co36,v154,.slice Ao37 t156.length co37,v164,v167,v170,v173,v176,m3_,m7_,m11_,m15_,m19_,(by rw [ha.out];exact jC 12 hb_ rfl rfl rfl),(by (with_reducible repeat (first|refine qx ?_ _|refine qA ?_|refine qw ?_ _));exact BK128.out),(by repeat (first|(with_reducible first|exact HB.out|apply qg|apply qc|apply qf|refine qp ?_ GE128.out)|exact HB.out)),fun _ => (by (with_reducible repeat (first|apply Kd.qy|apply Kd.qz|apply Kd.qC));first|exact HO135.out|exact Kd.qO HO135.out (fun _ _ => trivial)),fun _ _ => (by (with_reducible repeat (first|apply Kd.qy|apply Kd.qz|apply Kd.qC));first|exact HO138.out|exact Kd.qO HO138.out (fun _ _ => trivial)),fun _ => (by (with_reducible repeat (first|apply Kd.qy|apply Kd.qz|apply Kd.qC));first|exact HO145.out|exact Kd.qO HO145.out (fun _ _ => trivial)),fun _ _ => (by (with_reducible repeat (first|apply Kd.qy|apply Kd.qz|apply Kd.qC));first|exact HO148.out|exact Kd.qO HO148.out (fun _ _ => trivial)),fun _ => (by (with_reducible repeat (first|apply Kd.qy|apply Kd.qz|apply Kd.qC));first|exact HO155.out|exact Kd.qO HO155.out (fun _ _ => trivial)),fun _ _ => (by (with_reducible repeat (first|apply Kd.qy|apply Kd.qz|apply Kd.qC));first|exact HO158.out|exact Kd.qO HO158.out (fun _ _ => trivial)),z_HO165,fun h0_ _ => absurd ((hoff 14 (by kernel_rfl)).symm.trans h0_) (by decide),z_HO171,fun h0_ _ => absurd ((hoff 18 (by kernel_rfl)).symm.trans h0_) (by decide),fun h0_ => absurd ((hoff 20 (by kernel_rfl)).symm.trans h0_) (by decide),Q_X3_,Q_X7_,Q_X11_,fun h0_ => absurd ((hoff 15 (by kernel_rfl)).symm.trans h0_) (by decide),fun h0_ => absurd ((hoff 19 (by kernel_rfl)).symm.trans h0_) (by decide)⟩
  refine jB ?_ ?_
  ·rintro b a w' ⟨v134,v137,v144,v147,v154,v157,v164,v167,v170,v173,v176,m3_,m7_,m11_,m15_,m19_,ha,Q_BK128,Q_HB,Q_HO135,Q_HO138,Q_HO145,Q_HO148,Q_HO155,Q_HO158,Q_HO165,Q_HO168,Q_HO171,Q_HO174,Q_HO177,Q_X3_,Q_X7_,Q_X11_,Q_X15_,Q_X19_⟩ hb_ hon hoff
   refine ⟨_,rfl,fun K hK => ?_⟩
   replace ha:=qd.mk ha
   have BK128:=qd.mk Q_BK128
   have HB:=qd.mk Q_HB
   refine Kd.xn (Kd.int .u8) _ 5 ?hg (N:=38) ?hd (xs:=([2,2,5] : List Int)) (inner:=[.int .u8 2,.int .u8 2,.int .u8 5]) (ok:=fun _ => True) (okp:=fun _ => True) ?hr ?hp (fun _ hk => hk) trivial (Below.refl _ _) (Nat.le_refl _) (by simp) ?_;(case hd => rfl);(case hg => rfl);(case hr => first|(go_simp;done)|(go_simp;rfl));(case hp => exact (Reps.one (show Kd.M (Kd.int .u8) _ _ _ 2 [.int .u8 2] from rfl) (Reps.one (show Kd.M (Kd.int .u8) _ _ _ 2 [.int .u8 2] from rfl) (Reps.one (show Kd.M (Kd.int .u8) _ _ _ 5 [.int .u8 5] from rfl) (Reps.none _ _)))))
   intro v164 w16 ho17 hb hg_ hnew_
   clear hg_ hnew_
   (first|rw [← Ny163.out] at ho17|(simp only [Int.reduceToNat] at ho17;rw [← Ny163.out] at ho17))
   have n0_:=qd.mk (Kd.jS ho17 (qH (by repeat (first|(with_reducible first|exact HB.out|apply qg|apply qc|apply qf|refine qp ?_ GE128.out)|exact HB.out))))
   have n1_:=qd.mk (qR (g:=gb128) (o:=.cells #[.int .i64 t124,.int .i64 t125,.int .i64 3,.int .i64 t127] 23 (0,0)) (by (with_reducible repeat (first|refine qx ?_ _|refine qA ?_|refine qw ?_ _));exact BK128.out) hb)
   have n2_:=qd.mk (qI (by repeat (first|(with_reducible first|exact HB.out|apply qg|apply qc|apply qf|refine qp ?_ GE128.out)|exact HB.out)) hb)
   have z_HO135:=fun (h0_ : b 1 = true) => (show Kd.R (Kd.int .u8) 5 w16 w.heap.size (fun _ => True) v134 y133 from by first|exact (Kd.qY (by (with_reducible repeat (first|apply Kd.qy|apply Kd.qz|apply Kd.qC));exact (Q_HO135 h0_)) (Kd.jd ho17) hb)|exact Kd.qO (Kd.qY (by (with_reducible repeat (first|apply Kd.qy|apply Kd.qz|apply Kd.qC));exact (Q_HO135 h0_)) (Kd.jd ho17) hb) (fun _ h_ => by first|trivial|exact h_|exact h_.1))
   have z_HO138:=fun (h0_ : b 2 = true) (h1_ : b 20 = false) => (show Kd.R k38 38 w16 w.heap.size (fun _ => True) v137 t136 from by first|exact (Kd.qN (by (with_reducible repeat (first|apply Kd.qy|apply Kd.qz|apply Kd.qC));exact (Q_HO138 h0_ h1_)) hb)|exact Kd.qO (Kd.qN (by (with_reducible repeat (first|apply Kd.qy|apply Kd.qz|apply Kd.qC));exact (Q_HO138 h0_ h1_)) hb) (fun _ h_ => by first|trivial|exact h_|exact h_.1))
   have z_HO145:=fun (h0_ : b 5 = true) => (show Kd.R (Kd.int .u8) 5 w16 w.heap.size (fun _ => True) v144 y143 from by first|exact (Kd.qY (by (with_reducible repeat (first|apply Kd.qy|apply Kd.qz|apply Kd.qC));exact (Q_HO145 h0_)) (Kd.jd ho17) hb)|exact Kd.qO (Kd.qY (by (with_reducible repeat (first|apply Kd.qy|apply Kd.qz|apply Kd.qC));exact (Q_HO145 h0_)) (Kd.jd ho17) hb) (fun _ h_ => by first|trivial|exact h_|exact h_.1))
   have z_HO148:=fun (h0_ : b 6 = true) (h1_ : b 20 = false) => (show Kd.R k38 38 w16 w.heap.size (fun _ => True) v147 t146 from by first|exact (Kd.qN (by (with_reducible repeat (first|apply Kd.qy|apply Kd.qz|apply Kd.qC));exact (Q_HO148 h0_ h1_)) hb)|exact Kd.qO (Kd.qN (by (with_reducible repeat (first|apply Kd.qy|apply Kd.qz|apply Kd.qC));exact (Q_HO148 h0_ h1_)) hb) (fun _ h_ => by first|trivial|exact h_|exact h_.1))
   have z_HO155:=fun (h0_ : b 9 = true) => (show Kd.R (Kd.int .u8) 5 w16 w.heap.size (fun _ => True) v154 y153 from by first|exact (Kd.qY (by (with_reducible repeat (first|apply Kd.qy|apply Kd.qz|apply Kd.qC));exact (Q_HO155 h0_)) (Kd.jd ho17) hb)|exact Kd.qO (Kd.qY (by (with_reducible repeat (first|apply Kd.qy|apply Kd.qz|apply Kd.qC));exact (Q_HO155 h0_)) (Kd.jd ho17) hb) (fun _ h_ => by first|trivial|exact h_|exact h_.1))
   have z_HO158:=fun (h0_ : b 10 = true) (h1_ : b 20 = false) => (show Kd.R k38 38 w16 w.heap.size (fun _ => True) v157 t156 from by first|exact (Kd.qN (by (with_reducible repeat (first|apply Kd.qy|apply Kd.qz|apply Kd.qC));exact (Q_HO158 h0_ h1_)) hb)|exact Kd.qO (Kd.qN (by (with_reducible repeat (first|apply Kd.qy|apply Kd.qz|apply Kd.qC));exact (Q_HO158 h0_ h1_)) hb) (fun _ h_ => by first|trivial|exact h_|exact h_.1))
   have z_HO171:=fun (h0_ : b 17 = true) => (show Kd.R (Kd.int .u8) 5 w16 w.heap.size (fun _ => True) v170 y169 from by first|exact (Kd.qY (by (with_reducible repeat (first|apply Kd.qy|apply Kd.qz|apply Kd.qC));exact (Q_HO171 h0_)) (Kd.jd ho17) hb)|exact Kd.qO (Kd.qY (by (with_reducible repeat (first|apply Kd.qy|apply Kd.qz|apply Kd.qC));exact (Q_HO171 h0_)) (Kd.jd ho17) hb) (fun _ h_ => by first|trivial|exact h_|exact h_.1))
   clear BK128
   clear HB
   have HO165:=n0_
   have BK128:=n1_
   have HB:=n2_
   clear n0_ n1_ n2_
   clear hb ho17
   refine hK.out _ _ ⟨v134,v137,v144,v147,v154,v157,v164,v167,v170,v173,v176,m3_,m7_,m11_,m15_,m19_,(by rw [ha.out];exact jC 13 hb_ rfl rfl rfl),(by (with_reducible repeat (first|refine qx ?_ _|refine qA ?_|refine qw ?_ _));exact BK128.out),(by repeat (first|(with_reducible first|exact HB.out|apply qg|apply qc|apply qf|refine qp ?_ GE128.out)|exact HB.out)),z_HO135,z_HO138,z_HO145,z_HO148,z_HO155,z_HO158,fun _ => (by (with_reducible repeat (first|apply Kd.qy|apply Kd.qz|apply Kd.qC));first|exact HO165.out|exact Kd.qO HO165.out (fun _ _ => trivial)),fun h0_ _ => absurd ((hoff 14 (by kernel_rfl)).symm.trans h0_) (by decide),z_HO171,fun h0_ _ => absurd ((hoff 18 (by kernel_rfl)).symm.trans h0_) (by decide),fun h0_ => absurd ((hoff 20 (by kernel_rfl)).symm.trans h0_) (by decide),Q_X3_,Q_X7_,Q_X11_,fun h0_ => absurd ((hoff 15 (by kernel_rfl)).symm.trans h0_) (by decide),fun h0_ => absurd ((hoff 19 (by kernel_rfl)).symm.trans h0_) (by decide)⟩
  refine jB ?_ ?_
  ·rintro b a w' ⟨v134,v137,v144,v147,v154,v157,v164,v167,v170,v173,v176,m3_,m7_,m11_,m15_,m19_,ha,Q_BK128,Q_HB,Q_HO135,Q_HO138,Q_HO145,Q_HO148,Q_HO155,Q_HO158,Q_HO165,Q_HO168,Q_HO171,Q_HO174,Q_HO177,Q_X3_,Q_X7_,Q_X11_,Q_X15_,Q_X19_⟩ hb_ hon hoff
   refine ⟨_,rfl,fun K hK => ?_⟩
   have e38 : a.tmps[38]? = some (v164):=by rw [ha];exact jJ (e:=(13,38,v164)) 13 rfl rfl (hon 13 (by kernel_rfl)) rfl
   replace ha:=qd.mk ha
   have BK128:=qd.mk Q_BK128
   have HB:=qd.mk Q_HB
   have HO135:=qd.mk (Q_HO135 (hon 1 (by kernel_rfl)))
   have HO138:=qd.mk (Q_HO138 (hon 2 (by kernel_rfl)) (hoff 20 (by kernel_rfl)))
   have HO145:=qd.mk (Q_HO145 (hon 5 (by kernel_rfl)))
   have HO148:=qd.mk (Q_HO148 (hon 6 (by kernel_rfl)) (hoff 20 (by kernel_rfl)))
   have HO155:=qd.mk (Q_HO155 (hon 9 (by kernel_rfl)))
   have HO158:=qd.mk (Q_HO158 (hon 10 (by kernel_rfl)) (hoff 20 (by kernel_rfl)))
   have HO165:=qd.mk (Q_HO165 (hon 13 (by kernel_rfl)))
   obtain ⟨Ao38,co38,eo38⟩:=Kd.jk HO138.out
   (first|subst eo38|(injection eo38 with f1_ f2_ f3_;have f4_:=f1_.symm;have f5_:=f3_.symm;clear f1_ f2_ f3_;subst f4_;subst f5_))
   obtain ⟨Ao39,co39,eo39⟩:=Kd.jk HO148.out
   (first|subst eo39|(injection eo39 with f1_ f2_ f3_;have f4_:=f1_.symm;have f5_:=f3_.symm;clear f1_ f2_ f3_;subst f4_;subst f5_))
   obtain ⟨Ao40,co40,eo40⟩:=Kd.jk HO158.out
   (first|subst eo40|(injection eo40 with f1_ f2_ f3_;have f4_:=f1_.symm;have f5_:=f3_.symm;clear f1_ f2_ f3_;subst f4_;subst f5_))
   obtain ⟨Ao41,co41,eo41⟩:=Kd.jk HO165.out
   (first|subst eo41|(injection eo41 with f1_ f2_ f3_;have f4_:=f1_.symm;have f5_:=f3_.symm;clear f1_ f2_ f3_;subst f4_;subst f5_))
   refine xR Try.func20 (by kernel_rfl) rfl #[.string (⟨#[65,66,67]⟩ : ByteArray),.slice Ao41 y163.length co41] (by rfl) rfl rfl (by first|(simp only [List.map_toArray,List.map_cons,List.map_nil,Act.eval,Array.getD_eq_getD_getElem?,Option.getD_some,e38];done)|(simp only [List.map_toArray,List.map_cons,List.map_nil,Act.eval,Array.getD_eq_getD_getElem?,Option.getD_some,e38];rfl)) ?_
   with_reducible refine (qo.calls (⟨#[65,66,67]⟩ : ByteArray) _ _ y163 t166 _ ?side1 ?side2 A9.out).mono ?_
   (case side1 => repeat (first|exact (Kd.je HO165.out).2.2|(with_reducible refine Kd.jP ?_ _)|(with_reducible refine Kd.jQ ?_ _)|(with_reducible refine Kd.zh ?_)))
   (case side2 => exact (Kd.je HO165.out).2.1)
   rintro e w42 ⟨v167,rfl,ho0,hb⟩
   refine ⟨_,rfl,?_⟩
   have n0_:=qd.mk (Kd.qN (by (with_reducible repeat (first|apply Kd.qy|apply Kd.qz|apply Kd.qC));exact HO135.out) hb)
   have n1_:=qd.mk (Kd.qY (by (with_reducible repeat (first|apply Kd.qy|apply Kd.qz|apply Kd.qC));exact HO138.out) (Kd.jd ho0) hb)
   have n2_:=qd.mk (Kd.qN (by (with_reducible repeat (first|apply Kd.qy|apply Kd.qz|apply Kd.qC));exact HO145.out) hb)
   have n3_:=qd.mk (Kd.qY (by (with_reducible repeat (first|apply Kd.qy|apply Kd.qz|apply Kd.qC));exact HO148.out) (Kd.jd ho0) hb)
   have n4_:=qd.mk (Kd.qN (by (with_reducible repeat (first|apply Kd.qy|apply Kd.qz|apply Kd.qC));exact HO155.out) hb)
   have n5_:=qd.mk (Kd.qY (by (with_reducible repeat (first|apply Kd.qy|apply Kd.qz|apply Kd.qC));exact HO158.out) (Kd.jd ho0) hb)
   have n6_:=qd.mk (Kd.qN (by (with_reducible repeat (first|apply Kd.qy|apply Kd.qz|apply Kd.qC));exact HO165.out) hb)
   have n7_:=qd.mk (Kd.jS (Kd.zA (Kd.zA (Kd.zA ho0 (Kd.R_lt (by (with_reducible repeat (first|apply Kd.qy|apply Kd.qz|apply Kd.qC));exact HO138.out))) (Kd.R_lt (by (with_reducible repeat (first|apply Kd.qy|apply Kd.qz|apply Kd.qC));exact HO148.out))) (Kd.R_lt (by (with_reducible repeat (first|apply Kd.qy|apply Kd.qz|apply Kd.qC));exact HO158.out))) (qH (by repeat (first|(with_reducible first|exact HB.out|apply qg|apply qc|apply qf|refine qp ?_ GE128.out)|exact HB.out))))
   have n8_:=qd.mk (qR (g:=gb128) (o:=.cells #[.int .i64 t124,.int .i64 t125,.int .i64 3,.int .i64 t127] 23 (0,0)) (by (with_reducible repeat (first|refine qx ?_ _|refine qA ?_|refine qw ?_ _));exact BK128.out) hb)
   have n9_:=qd.mk (qI (by repeat (first|(with_reducible first|exact HB.out|apply qg|apply qc|apply qf|refine qp ?_ GE128.out)|exact HB.out)) hb)
   have z_HO171:=fun (h0_ : b 17 = true) => (show Kd.R (Kd.int .u8) 5 w42 w.heap.size (fun _ => True) v170 y169 from by first|exact (Kd.qN (by (with_reducible repeat (first|apply Kd.qy|apply Kd.qz|apply Kd.qC));exact (Q_HO171 h0_)) hb)|exact Kd.qO (Kd.qN (by (with_reducible repeat (first|apply Kd.qy|apply Kd.qz|apply Kd.qC));exact (Q_HO171 h0_)) hb) (fun _ h_ => by first|trivial|exact h_|exact h_.1))
   clear HO135
   clear HO138
   clear HO145
   clear HO148
   clear HO155
   clear HO158
   clear HO165
   clear BK128
   clear HB
   have HO135:=n0_
   have HO138:=n1_
   have HO145:=n2_
   have HO148:=n3_
   have HO155:=n4_
   have HO158:=n5_
   have HO165:=n6_
   have HO168:=n7_
   have BK128:=n8_
   have HB:=n9_
   clear n0_ n1_ n2_ n3_ n4_ n5_ n6_ n7_ n8_ n9_
   (try clear hb)
   (try clear hb2)
   (try clear hk)
   (try clear hi)
   (try clear ho0)
   obtain ⟨Ao43,co43,eo43⟩:=Kd.jk HO168.out
   (first|subst eo43|(injection eo43 with f1_ f2_ f3_;have f4_:=f1_.symm;have f5_:=f3_.symm;clear f1_ f2_ f3_;subst f4_;subst f5_))
   refine hK.out _ _ ⟨v134,.slice Ao38 t136.length co38,v144,.slice Ao39 t146.length co39,v154,.slice Ao40 t156.length co40,.slice Ao41 y163.length co41,.slice Ao43 t166.length co43,v170,v173,v176,m3_,m7_,m11_,m15_,m19_,(by rw [ha.out];exact jC 14 hb_ rfl rfl rfl),(by (with_reducible repeat (first|refine qx ?_ _|refine qA ?_|refine qw ?_ _));exact BK128.out),(by repeat (first|(with_reducible first|exact HB.out|apply qg|apply qc|apply qf|refine qp ?_ GE128.out)|exact HB.out)),fun _ => (by (with_reducible repeat (first|apply Kd.qy|apply Kd.qz|apply Kd.qC));first|exact HO135.out|exact Kd.qO HO135.out (fun _ _ => trivial)),fun _ _ => (by (with_reducible repeat (first|apply Kd.qy|apply Kd.qz|apply Kd.qC));first|exact Kd.qO HO138.out (fun _ hk => ⟨hk.1.1,⟨hk.1.2,hk.2⟩⟩)|exact Kd.qO HO138.out (fun _ _ => trivial)|first|exact HO138.out|exact Kd.qO HO138.out (fun _ _ => trivial)),fun _ => (by (with_reducible repeat (first|apply Kd.qy|apply Kd.qz|apply Kd.qC));first|exact HO145.out|exact Kd.qO HO145.out (fun _ _ => trivial)),fun _ _ => (by (with_reducible repeat (first|apply Kd.qy|apply Kd.qz|apply Kd.qC));first|exact Kd.qO HO148.out (fun _ hk => ⟨hk.1.1,⟨hk.1.2,hk.2⟩⟩)|exact Kd.qO HO148.out (fun _ _ => trivial)|first|exact HO148.out|exact Kd.qO HO148.out (fun _ _ => trivial)),fun _ => (by (with_reducible repeat (first|apply Kd.qy|apply Kd.qz|apply Kd.qC));first|exact HO155.out|exact Kd.qO HO155.out (fun _ _ => trivial)),fun _ _ => (by (with_reducible repeat (first|apply Kd.qy|apply Kd.qz|apply Kd.qC));first|exact Kd.qO HO158.out (fun _ hk => ⟨hk.1.1,⟨hk.1.2,hk.2⟩⟩)|exact Kd.qO HO158.out (fun _ _ => trivial)|first|exact HO158.out|exact Kd.qO HO158.out (fun _ _ => trivial)),fun _ => (by (with_reducible repeat (first|apply Kd.qy|apply Kd.qz|apply Kd.qC));first|exact HO165.out|exact Kd.qO HO165.out (fun _ _ => trivial)),fun _ _ => (by (with_reducible repeat (first|apply Kd.qy|apply Kd.qz|apply Kd.qC));first|exact Kd.qO HO168.out (fun _ hk => ⟨hk.1.1.2,⟨hk.1.2,hk.2⟩⟩)|exact Kd.qO HO168.out (fun _ _ => trivial)|first|exact HO168.out|exact Kd.qO HO168.out (fun _ _ => trivial)),z_HO171,fun h0_ _ => absurd ((hoff 18 (by kernel_rfl)).symm.trans h0_) (by decide),fun h0_ => absurd ((hoff 20 (by kernel_rfl)).symm.trans h0_) (by decide),Q_X3_,Q_X7_,Q_X11_,fun h0_ => absurd ((hoff 15 (by kernel_rfl)).symm.trans h0_) (by decide),fun h0_ => absurd ((hoff 19 (by kernel_rfl)).symm.trans h0_) (by decide)⟩
  refine jB ?_ ?_
  ·rintro b a w' ⟨v134,v137,v144,v147,v154,v157,v164,v167,v170,v173,v176,m3_,m7_,m11_,m15_,m19_,ha,Q_BK128,Q_HB,Q_HO135,Q_HO138,Q_HO145,Q_HO148,Q_HO155,Q_HO158,Q_HO165,Q_HO168,Q_HO171,Q_HO174,Q_HO177,Q_X3_,Q_X7_,Q_X11_,Q_X15_,Q_X19_⟩ hb_ hon hoff
   refine ⟨_,rfl,fun K hK => ?_⟩
   have e37 : a.tmps[37]? = some (.agg #[.int .i64 t159,.int .i64 t160,.int .i64 t161,.int .i64 t162]):=by rw [ha];exact jJ (e:=(12,37,.agg #[.int .i64 t159,.int .i64 t160,.int .i64 t161,.int .i64 t162])) 12 rfl rfl (hon 12 (by kernel_rfl)) rfl
   have e39 : a.tmps[39]? = some (v167):=by rw [ha];exact jJ (e:=(14,39,v167)) 14 rfl rfl (hon 14 (by kernel_rfl)) rfl
   replace ha:=qd.mk ha
   have BK128:=qd.mk Q_BK128
   have HB:=qd.mk Q_HB
   have HO135:=qd.mk (Q_HO135 (hon 1 (by kernel_rfl)))
   have HO138:=qd.mk (Q_HO138 (hon 2 (by kernel_rfl)) (hoff 20 (by kernel_rfl)))
   have HO145:=qd.mk (Q_HO145 (hon 5 (by kernel_rfl)))
   have HO148:=qd.mk (Q_HO148 (hon 6 (by kernel_rfl)) (hoff 20 (by kernel_rfl)))
   have HO155:=qd.mk (Q_HO155 (hon 9 (by kernel_rfl)))
   have HO158:=qd.mk (Q_HO158 (hon 10 (by kernel_rfl)) (hoff 20 (by kernel_rfl)))
   have HO165:=qd.mk (Q_HO165 (hon 13 (by kernel_rfl)))
   have HO168:=qd.mk (Q_HO168 (hon 14 (by kernel_rfl)) (hoff 20 (by kernel_rfl)))
   obtain ⟨Ao15_0,co15_0,eo_⟩:=Kd.jk HO168.out
   subst eo_
   refine kI (w1:=w') (v:=.agg #[.string (⟨#[67,65]⟩ : ByteArray),.string (⟨#[65,66,67]⟩ : ByteArray),.int .i64 t159,.int .i64 t160,.int .i64 t161,.int .i64 t162,.int .i64 3,.slice Ao15_0 t166.length co15_0]) (by rfl) rfl ?_ ?_
   ·go_simp
    (try simp only [qE])
    try rfl
   refine hK.out _ _ ⟨v134,v137,v144,v147,v154,v157,v164,.slice Ao15_0 t166.length co15_0,v170,v173,v176,m3_,m7_,m11_,(.agg #[.string (⟨#[67,65]⟩ : ByteArray),.string (⟨#[65,66,67]⟩ : ByteArray),.int .i64 t159,.int .i64 t160,.int .i64 t161,.int .i64 t162,.int .i64 3,.slice Ao15_0 t166.length co15_0]),m19_,(by rw [ha.out];exact jC 15 hb_ rfl rfl rfl),Q_BK128,Q_HB,Q_HO135,Q_HO138,Q_HO145,Q_HO148,Q_HO155,Q_HO158,Q_HO165,Q_HO168,Q_HO171,Q_HO174,fun h0_ => absurd ((hoff 20 (by kernel_rfl)).symm.trans h0_) (by decide),Q_X3_,Q_X7_,Q_X11_,fun _ => rfl,Q_X19_⟩
  refine jB ?_ ?_
  ·rintro b a w' ⟨v134,v137,v144,v147,v154,v157,v164,v167,v170,v173,v176,m3_,m7_,m11_,m15_,m19_,ha,Q_BK128,Q_HB,Q_HO135,Q_HO138,Q_HO145,Q_HO148,Q_HO155,Q_HO158,Q_HO165,Q_HO168,Q_HO171,Q_HO174,Q_HO177,Q_X3_,Q_X7_,Q_X11_,Q_X15_,Q_X19_⟩ hb_ hon hoff
   refine ⟨_,rfl,fun K hK => ?_⟩
   have e1 : a.tmps[1]? = some (.pointer (some ⟨gb128,0,none⟩)):=by rw [ha];exact (vO rfl).trans rfl
   replace ha:=qd.mk ha
   have BK128:=qd.mk Q_BK128
   have HB:=qd.mk Q_HB
   have hc0_ : w'.cell? ⟨gb128,0,none⟩ = some (.int .i64 t124):=(qi BK128.out 0).trans rfl
   have hc1_ : w'.cell? ⟨gb128,1,none⟩ = some (.int .i64 t125):=(qi BK128.out 1).trans rfl
   have hc2_ : w'.cell? ⟨gb128,2,none⟩ = some (.int .i64 3):=(qi BK128.out 2).trans rfl
   have hc3_ : w'.cell? ⟨gb128,3,none⟩ = some (.int .i64 t127):=(qi BK128.out 3).trans rfl
   refine kI (w1:=w') (v:=.agg #[.int .i64 t124,.int .i64 t125,.int .i64 3,.int .i64 t127]) (by rfl) rfl ?_ ?_
   ·go_simp
    (try simp only [qE])
    try rfl
   refine hK.out _ _ ⟨v134,v137,v144,v147,v154,v157,v164,v167,v170,v173,v176,m3_,m7_,m11_,m15_,m19_,(by rw [ha.out];exact jC 16 hb_ rfl rfl rfl),Q_BK128,Q_HB,Q_HO135,Q_HO138,Q_HO145,Q_HO148,Q_HO155,Q_HO158,Q_HO165,Q_HO168,Q_HO171,Q_HO174,fun h0_ => absurd ((hoff 20 (by kernel_rfl)).symm.trans h0_) (by decide),Q_X3_,Q_X7_,Q_X11_,Q_X15_,fun h0_ => absurd ((hoff 19 (by kernel_rfl)).symm.trans h0_) (by decide)⟩
  refine jB ?_ ?_
  ·rintro b a w' ⟨v134,v137,v144,v147,v154,v157,v164,v167,v170,v173,v176,m3_,m7_,m11_,m15_,m19_,ha,Q_BK128,Q_HB,Q_HO135,Q_HO138,Q_HO145,Q_HO148,Q_HO155,Q_HO158,Q_HO165,Q_HO168,Q_HO171,Q_HO174,Q_HO177,Q_X3_,Q_X7_,Q_X11_,Q_X15_,Q_X19_⟩ hb_ hon hoff
   refine ⟨_,rfl,fun K hK => ?_⟩
   replace ha:=qd.mk ha
   have BK128:=qd.mk Q_BK128
   have HB:=qd.mk Q_HB
   refine Kd.xn (Kd.int .u8) _ 5 ?hg (N:=42) ?hd (xs:=([4,5] : List Int)) (inner:=[.int .u8 4,.int .u8 5]) (ok:=fun _ => True) (okp:=fun _ => True) ?hr ?hp (fun _ hk => hk) trivial (Below.refl _ _) (Nat.le_refl _) (by simp) ?_;(case hd => rfl);(case hg => rfl);(case hr => first|(go_simp;done)|(go_simp;rfl));(case hp => exact (Reps.one (show Kd.M (Kd.int .u8) _ _ _ 4 [.int .u8 4] from rfl) (Reps.one (show Kd.M (Kd.int .u8) _ _ _ 5 [.int .u8 5] from rfl) (Reps.none _ _))))
   intro v170 w16 ho17 hb hg_ hnew_
   clear hg_ hnew_
   (first|rw [← Ny169.out] at ho17|(simp only [Int.reduceToNat] at ho17;rw [← Ny169.out] at ho17))
   have n0_:=qd.mk (Kd.jS ho17 (qH (by repeat (first|(with_reducible first|exact HB.out|apply qg|apply qc|apply qf|refine qp ?_ GE128.out)|exact HB.out))))
   have n1_:=qd.mk (qR (g:=gb128) (o:=.cells #[.int .i64 t124,.int .i64 t125,.int .i64 3,.int .i64 t127] 23 (0,0)) (by (with_reducible repeat (first|refine qx ?_ _|refine qA ?_|refine qw ?_ _));exact BK128.out) hb)
   have n2_:=qd.mk (qI (by repeat (first|(with_reducible first|exact HB.out|apply qg|apply qc|apply qf|refine qp ?_ GE128.out)|exact HB.out)) hb)
   have z_HO135:=fun (h0_ : b 1 = true) => (show Kd.R (Kd.int .u8) 5 w16 w.heap.size (fun _ => True) v134 y133 from by first|exact (Kd.qY (by (with_reducible repeat (first|apply Kd.qy|apply Kd.qz|apply Kd.qC));exact (Q_HO135 h0_)) (Kd.jd ho17) hb)|exact Kd.qO (Kd.qY (by (with_reducible repeat (first|apply Kd.qy|apply Kd.qz|apply Kd.qC));exact (Q_HO135 h0_)) (Kd.jd ho17) hb) (fun _ h_ => by first|trivial|exact h_|exact h_.1))
   have z_HO138:=fun (h0_ : b 2 = true) (h1_ : b 20 = false) => (show Kd.R k38 38 w16 w.heap.size (fun _ => True) v137 t136 from by first|exact (Kd.qN (by (with_reducible repeat (first|apply Kd.qy|apply Kd.qz|apply Kd.qC));exact (Q_HO138 h0_ h1_)) hb)|exact Kd.qO (Kd.qN (by (with_reducible repeat (first|apply Kd.qy|apply Kd.qz|apply Kd.qC));exact (Q_HO138 h0_ h1_)) hb) (fun _ h_ => by first|trivial|exact h_|exact h_.1))
   have z_HO145:=fun (h0_ : b 5 = true) => (show Kd.R (Kd.int .u8) 5 w16 w.heap.size (fun _ => True) v144 y143 from by first|exact (Kd.qY (by (with_reducible repeat (first|apply Kd.qy|apply Kd.qz|apply Kd.qC));exact (Q_HO145 h0_)) (Kd.jd ho17) hb)|exact Kd.qO (Kd.qY (by (with_reducible repeat (first|apply Kd.qy|apply Kd.qz|apply Kd.qC));exact (Q_HO145 h0_)) (Kd.jd ho17) hb) (fun _ h_ => by first|trivial|exact h_|exact h_.1))
   have z_HO148:=fun (h0_ : b 6 = true) (h1_ : b 20 = false) => (show Kd.R k38 38 w16 w.heap.size (fun _ => True) v147 t146 from by first|exact (Kd.qN (by (with_reducible repeat (first|apply Kd.qy|apply Kd.qz|apply Kd.qC));exact (Q_HO148 h0_ h1_)) hb)|exact Kd.qO (Kd.qN (by (with_reducible repeat (first|apply Kd.qy|apply Kd.qz|apply Kd.qC));exact (Q_HO148 h0_ h1_)) hb) (fun _ h_ => by first|trivial|exact h_|exact h_.1))
   have z_HO155:=fun (h0_ : b 9 = true) => (show Kd.R (Kd.int .u8) 5 w16 w.heap.size (fun _ => True) v154 y153 from by first|exact (Kd.qY (by (with_reducible repeat (first|apply Kd.qy|apply Kd.qz|apply Kd.qC));exact (Q_HO155 h0_)) (Kd.jd ho17) hb)|exact Kd.qO (Kd.qY (by (with_reducible repeat (first|apply Kd.qy|apply Kd.qz|apply Kd.qC));exact (Q_HO155 h0_)) (Kd.jd ho17) hb) (fun _ h_ => by first|trivial|exact h_|exact h_.1))
   have z_HO158:=fun (h0_ : b 10 = true) (h1_ : b 20 = false) => (show Kd.R k38 38 w16 w.heap.size (fun _ => True) v157 t156 from by first|exact (Kd.qN (by (with_reducible repeat (first|apply Kd.qy|apply Kd.qz|apply Kd.qC));exact (Q_HO158 h0_ h1_)) hb)|exact Kd.qO (Kd.qN (by (with_reducible repeat (first|apply Kd.qy|apply Kd.qz|apply Kd.qC));exact (Q_HO158 h0_ h1_)) hb) (fun _ h_ => by first|trivial|exact h_|exact h_.1))
   have z_HO165:=fun (h0_ : b 13 = true) => (show Kd.R (Kd.int .u8) 5 w16 w.heap.size (fun _ => True) v164 y163 from by first|exact (Kd.qY (by (with_reducible repeat (first|apply Kd.qy|apply Kd.qz|apply Kd.qC));exact (Q_HO165 h0_)) (Kd.jd ho17) hb)|exact Kd.qO (Kd.qY (by (with_reducible repeat (first|apply Kd.qy|apply Kd.qz|apply Kd.qC));exact (Q_HO165 h0_)) (Kd.jd ho17) hb) (fun _ h_ => by first|trivial|exact h_|exact h_.1))
   have z_HO168:=fun (h0_ : b 14 = true) (h1_ : b 20 = false) => (show Kd.R k38 38 w16 w.heap.size (fun _ => True) v167 t166 from by first|exact (Kd.qN (by (with_reducible repeat (first|apply Kd.qy|apply Kd.qz|apply Kd.qC));exact (Q_HO168 h0_ h1_)) hb)|exact Kd.qO (Kd.qN (by (with_reducible repeat (first|apply Kd.qy|apply Kd.qz|apply Kd.qC));exact (Q_HO168 h0_ h1_)) hb) (fun _ h_ => by first|trivial|exact h_|exact h_.1))
   clear BK128
   clear HB
   have HO171:=n0_
   have BK128:=n1_
   have HB:=n2_
   clear n0_ n1_ n2_
   clear hb ho17
   refine hK.out _ _ ⟨v134,v137,v144,v147,v154,v157,v164,v167,v170,v173,v176,m3_,m7_,m11_,m15_,m19_,(by rw [ha.out];exact jC 17 hb_ rfl rfl rfl),(by (with_reducible repeat (first|refine qx ?_ _|refine qA ?_|refine qw ?_ _));exact BK128.out),(by repeat (first|(with_reducible first|exact HB.out|apply qg|apply qc|apply qf|refine qp ?_ GE128.out)|exact HB.out)),z_HO135,z_HO138,z_HO145,z_HO148,z_HO155,z_HO158,z_HO165,z_HO168,fun _ => (by (with_reducible repeat (first|apply Kd.qy|apply Kd.qz|apply Kd.qC));first|exact HO171.out|exact Kd.qO HO171.out (fun _ _ => trivial)),fun h0_ _ => absurd ((hoff 18 (by kernel_rfl)).symm.trans h0_) (by decide),fun h0_ => absurd ((hoff 20 (by kernel_rfl)).symm.trans h0_) (by decide),Q_X3_,Q_X7_,Q_X11_,Q_X15_,fun h0_ => absurd ((hoff 19 (by kernel_rfl)).symm.trans h0_) (by decide)⟩
  refine jB ?_ ?_
  ·rintro b a w' ⟨v134,v137,v144,v147,v154,v157,v164,v167,v170,v173,v176,m3_,m7_,m11_,m15_,m19_,ha,Q_BK128,Q_HB,Q_HO135,Q_HO138,Q_HO145,Q_HO148,Q_HO155,Q_HO158,Q_HO165,Q_HO168,Q_HO171,Q_HO174,Q_HO177,Q_X3_,Q_X7_,Q_X11_,Q_X15_,Q_X19_⟩ hb_ hon hoff
   refine ⟨_,rfl,fun K hK => ?_⟩
   have e42 : a.tmps[42]? = some (v170):=by rw [ha];exact jJ (e:=(17,42,v170)) 17 rfl rfl (hon 17 (by kernel_rfl)) rfl
   replace ha:=qd.mk ha
   have BK128:=qd.mk Q_BK128
   have HB:=qd.mk Q_HB
   have HO135:=qd.mk (Q_HO135 (hon 1 (by kernel_rfl)))
   have HO138:=qd.mk (Q_HO138 (hon 2 (by kernel_rfl)) (hoff 20 (by kernel_rfl)))
   have HO145:=qd.mk (Q_HO145 (hon 5 (by kernel_rfl)))
   have HO148:=qd.mk (Q_HO148 (hon 6 (by kernel_rfl)) (hoff 20 (by kernel_rfl)))
   have HO155:=qd.mk (Q_HO155 (hon 9 (by kernel_rfl)))
   have HO158:=qd.mk (Q_HO158 (hon 10 (by kernel_rfl)) (hoff 20 (by kernel_rfl)))
   have HO165:=qd.mk (Q_HO165 (hon 13 (by kernel_rfl)))
   have HO168:=qd.mk (Q_HO168 (hon 14 (by kernel_rfl)) (hoff 20 (by kernel_rfl)))
   have HO171:=qd.mk (Q_HO171 (hon 17 (by kernel_rfl)))
   obtain ⟨Ao43,co43,eo43⟩:=Kd.jk HO138.out
   (first|subst eo43|(injection eo43 with f1_ f2_ f3_;have f4_:=f1_.symm;have f5_:=f3_.symm;clear f1_ f2_ f3_;subst f4_;subst f5_))
   obtain ⟨Ao44,co44,eo44⟩:=Kd.jk HO148.out
   (first|subst eo44|(injection eo44 with f1_ f2_ f3_;have f4_:=f1_.symm;have f5_:=f3_.symm;clear f1_ f2_ f3_;subst f4_;subst f5_))
   obtain ⟨Ao45,co45,eo45⟩:=Kd.jk HO158.out
   (first|subst eo45|(injection eo45 with f1_ f2_ f3_;have f4_:=f1_.symm;have f5_:=f3_.symm;clear f1_ f2_ f3_;subst f4_;subst f5_))
   obtain ⟨Ao46,co46,eo46⟩:=Kd.jk HO168.out
   (first|subst eo46|(injection eo46 with f1_ f2_ f3_;have f4_:=f1_.symm;have f5_:=f3_.symm;clear f1_ f2_ f3_;subst f4_;subst f5_))
   obtain ⟨Ao47,co47,eo47⟩:=Kd.jk HO171.out
   (first|subst eo47|(injection eo47 with f1_ f2_ f3_;have f4_:=f1_.symm;have f5_:=f3_.symm;clear f1_ f2_ f3_;subst f4_;subst f5_))
   refine xR Try.func20 (by kernel_rfl) rfl #[.string (⟨#[66]⟩ : ByteArray),.slice Ao47 y169.length co47] (by rfl) rfl rfl (by first|(simp only [List.map_toArray,List.map_cons,List.map_nil,Act.eval,Array.getD_eq_getD_getElem?,Option.getD_some,e42];done)|(simp only [List.map_toArray,List.map_cons,List.map_nil,Act.eval,Array.getD_eq_getD_getElem?,Option.getD_some,e42];rfl)) ?_
   with_reducible refine (qo.calls (⟨#[66]⟩ : ByteArray) _ _ y169 t172 _ ?side1 ?side2 A10.out).mono ?_
   (case side1 => repeat (first|exact (Kd.je HO171.out).2.2|(with_reducible refine Kd.jP ?_ _)|(with_reducible refine Kd.jQ ?_ _)|(with_reducible refine Kd.zh ?_)))
   (case side2 => exact (Kd.je HO171.out).2.1)
   rintro e w48 ⟨v173,rfl,ho0,hb⟩
   refine ⟨_,rfl,?_⟩
   have n0_:=qd.mk (Kd.qN (by (with_reducible repeat (first|apply Kd.qy|apply Kd.qz|apply Kd.qC));exact HO135.out) hb)
   have n1_:=qd.mk (Kd.qY (by (with_reducible repeat (first|apply Kd.qy|apply Kd.qz|apply Kd.qC));exact HO138.out) (Kd.jd ho0) hb)
   have n2_:=qd.mk (Kd.qN (by (with_reducible repeat (first|apply Kd.qy|apply Kd.qz|apply Kd.qC));exact HO145.out) hb)
   have n3_:=qd.mk (Kd.qY (by (with_reducible repeat (first|apply Kd.qy|apply Kd.qz|apply Kd.qC));exact HO148.out) (Kd.jd ho0) hb)
   have n4_:=qd.mk (Kd.qN (by (with_reducible repeat (first|apply Kd.qy|apply Kd.qz|apply Kd.qC));exact HO155.out) hb)
   have n5_:=qd.mk (Kd.qY (by (with_reducible repeat (first|apply Kd.qy|apply Kd.qz|apply Kd.qC));exact HO158.out) (Kd.jd ho0) hb)
   have n6_:=qd.mk (Kd.qN (by (with_reducible repeat (first|apply Kd.qy|apply Kd.qz|apply Kd.qC));exact HO165.out) hb)
   have n7_:=qd.mk (Kd.qY (by (with_reducible repeat (first|apply Kd.qy|apply Kd.qz|apply Kd.qC));exact HO168.out) (Kd.jd ho0) hb)
   have n8_:=qd.mk (Kd.qN (by (with_reducible repeat (first|apply Kd.qy|apply Kd.qz|apply Kd.qC));exact HO171.out) hb)
   have n9_:=qd.mk (Kd.jS (Kd.zA (Kd.zA (Kd.zA (Kd.zA ho0 (Kd.R_lt (by (with_reducible repeat (first|apply Kd.qy|apply Kd.qz|apply Kd.qC));exact HO138.out))) (Kd.R_lt (by (with_reducible repeat (first|apply Kd.qy|apply Kd.qz|apply Kd.qC));exact HO148.out))) (Kd.R_lt (by (with_reducible repeat (first|apply Kd.qy|apply Kd.qz|apply Kd.qC));exact HO158.out))) (Kd.R_lt (by (with_reducible repeat (first|apply Kd.qy|apply Kd.qz|apply Kd.qC));exact HO168.out))) (qH (by repeat (first|(with_reducible first|exact HB.out|apply qg|apply qc|apply qf|refine qp ?_ GE128.out)|exact HB.out))))
   have n10_:=qd.mk (qR (g:=gb128) (o:=.cells #[.int .i64 t124,.int .i64 t125,.int .i64 3,.int .i64 t127] 23 (0,0)) (by (with_reducible repeat (first|refine qx ?_ _|refine qA ?_|refine qw ?_ _));exact BK128.out) hb)
   have n11_:=qd.mk (qI (by repeat (first|(with_reducible first|exact HB.out|apply qg|apply qc|apply qf|refine qp ?_ GE128.out)|exact HB.out)) hb)
   clear HO135
   clear HO138
   clear HO145
   clear HO148
   clear HO155
   clear HO158
   clear HO165
   clear HO168
   clear HO171
   clear BK128
   clear HB
   have HO135:=n0_
   have HO138:=n1_
   have HO145:=n2_
   have HO148:=n3_
   have HO155:=n4_
   have HO158:=n5_
   have HO165:=n6_
   have HO168:=n7_
   have HO171:=n8_
   have HO174:=n9_
   have BK128:=n10_
   have HB:=n11_
   clear n0_ n1_ n2_ n3_ n4_ n5_ n6_ n7_ n8_ n9_ n10_ n11_
   (try clear hb)
   (try clear hb2)
   (try clear hk)
   (try clear hi)
   (try clear ho0)
   obtain ⟨Ao49,co49,eo49⟩:=Kd.jk HO174.out
   (first|subst eo49|(injection eo49 with f1_ f2_ f3_;have f4_:=f1_.symm;have f5_:=f3_.symm;clear f1_ f2_ f3_;subst f4_;subst f5_))
   refine hK.out _ _ ⟨v134,.slice Ao43 t136.length co43,v144,.slice Ao44 t146.length co44,v154,.slice Ao45 t156.length co45,v164,.slice Ao46 t166.length co46,.slice Ao47 y169.length co47,.slice Ao49 t172.length co49,v176,m3_,m7_,m11_,m15_,m19_,(by rw [ha.out];exact jC 18 hb_ rfl rfl rfl),(by (with_reducible repeat (first|refine qx ?_ _|refine qA ?_|refine qw ?_ _));exact BK128.out),(by repeat (first|(with_reducible first|exact HB.out|apply qg|apply qc|apply qf|refine qp ?_ GE128.out)|exact HB.out)),fun _ => (by (with_reducible repeat (first|apply Kd.qy|apply Kd.qz|apply Kd.qC));first|exact HO135.out|exact Kd.qO HO135.out (fun _ _ => trivial)),fun _ _ => (by (with_reducible repeat (first|apply Kd.qy|apply Kd.qz|apply Kd.qC));first|exact Kd.qO HO138.out (fun _ hk => ⟨hk.1.1,⟨hk.1.2.1,⟨hk.1.2.2,hk.2⟩⟩⟩)|exact Kd.qO HO138.out (fun _ _ => trivial)|first|exact HO138.out|exact Kd.qO HO138.out (fun _ _ => trivial)),fun _ => (by (with_reducible repeat (first|apply Kd.qy|apply Kd.qz|apply Kd.qC));first|exact HO145.out|exact Kd.qO HO145.out (fun _ _ => trivial)),fun _ _ => (by (with_reducible repeat (first|apply Kd.qy|apply Kd.qz|apply Kd.qC));first|exact Kd.qO HO148.out (fun _ hk => ⟨hk.1.1,⟨hk.1.2.1,⟨hk.1.2.2,hk.2⟩⟩⟩)|exact Kd.qO HO148.out (fun _ _ => trivial)|first|exact HO148.out|exact Kd.qO HO148.out (fun _ _ => trivial)),fun _ => (by (with_reducible repeat (first|apply Kd.qy|apply Kd.qz|apply Kd.qC));first|exact HO155.out|exact Kd.qO HO155.out (fun _ _ => trivial)),fun _ _ => (by (with_reducible repeat (first|apply Kd.qy|apply Kd.qz|apply Kd.qC));first|exact Kd.qO HO158.out (fun _ hk => ⟨hk.1.1,⟨hk.1.2.1,⟨hk.1.2.2,hk.2⟩⟩⟩)|exact Kd.qO HO158.out (fun _ _ => trivial)|first|exact HO158.out|exact Kd.qO HO158.out (fun _ _ => trivial)),fun _ => (by (with_reducible repeat (first|apply Kd.qy|apply Kd.qz|apply Kd.qC));first|exact HO165.out|exact Kd.qO HO165.out (fun _ _ => trivial)),fun _ _ => (by (with_reducible repeat (first|apply Kd.qy|apply Kd.qz|apply Kd.qC));first|exact Kd.qO HO168.out (fun _ hk => ⟨hk.1.1,⟨hk.1.2.1,⟨hk.1.2.2,hk.2⟩⟩⟩)|exact Kd.qO HO168.out (fun _ _ => trivial)|first|exact HO168.out|exact Kd.qO HO168.out (fun _ _ => trivial)),fun _ => (by (with_reducible repeat (first|apply Kd.qy|apply Kd.qz|apply Kd.qC));first|exact HO171.out|exact Kd.qO HO171.out (fun _ _ => trivial)),fun _ _ => (by (with_reducible repeat (first|apply Kd.qy|apply Kd.qz|apply Kd.qC));first|exact Kd.qO HO174.out (fun _ hk => ⟨hk.1.1.1.2,⟨hk.1.1.2,⟨hk.1.2,hk.2⟩⟩⟩)|exact Kd.qO HO174.out (fun _ _ => trivial)|first|exact HO174.out|exact Kd.qO HO174.out (fun _ _ => trivial)),fun h0_ => absurd ((hoff 20 (by kernel_rfl)).symm.trans h0_) (by decide),Q_X3_,Q_X7_,Q_X11_,Q_X15_,fun h0_ => absurd ((hoff 19 (by kernel_rfl)).symm.trans h0_) (by decide)⟩
  refine jB ?_ ?_
  ·rintro b a w' ⟨v134,v137,v144,v147,v154,v157,v164,v167,v170,v173,v176,m3_,m7_,m11_,m15_,m19_,ha,Q_BK128,Q_HB,Q_HO135,Q_HO138,Q_HO145,Q_HO148,Q_HO155,Q_HO158,Q_HO165,Q_HO168,Q_HO171,Q_HO174,Q_HO177,Q_X3_,Q_X7_,Q_X11_,Q_X15_,Q_X19_⟩ hb_ hon hoff
   refine ⟨_,rfl,fun K hK => ?_⟩
   have e41 : a.tmps[41]? = some (.agg #[.int .i64 t124,.int .i64 t125,.int .i64 3,.int .i64 t127]):=by rw [ha];exact jJ (e:=(16,41,.agg #[.int .i64 t124,.int .i64 t125,.int .i64 3,.int .i64 t127])) 16 rfl rfl (hon 16 (by kernel_rfl)) rfl
   have e43 : a.tmps[43]? = some (v173):=by rw [ha];exact jJ (e:=(18,43,v173)) 18 rfl rfl (hon 18 (by kernel_rfl)) rfl
   replace ha:=qd.mk ha
   have BK128:=qd.mk Q_BK128
   have HB:=qd.mk Q_HB
   have HO135:=qd.mk (Q_HO135 (hon 1 (by kernel_rfl)))
   have HO138:=qd.mk (Q_HO138 (hon 2 (by kernel_rfl)) (hoff 20 (by kernel_rfl)))
   have HO145:=qd.mk (Q_HO145 (hon 5 (by kernel_rfl)))
   have HO148:=qd.mk (Q_HO148 (hon 6 (by kernel_rfl)) (hoff 20 (by kernel_rfl)))
   have HO155:=qd.mk (Q_HO155 (hon 9 (by kernel_rfl)))
   have HO158:=qd.mk (Q_HO158 (hon 10 (by kernel_rfl)) (hoff 20 (by kernel_rfl)))
   have HO165:=qd.mk (Q_HO165 (hon 13 (by kernel_rfl)))
   have HO168:=qd.mk (Q_HO168 (hon 14 (by kernel_rfl)) (hoff 20 (by kernel_rfl)))
   have HO171:=qd.mk (Q_HO171 (hon 17 (by kernel_rfl)))
   have HO174:=qd.mk (Q_HO174 (hon 18 (by kernel_rfl)) (hoff 20 (by kernel_rfl)))
   obtain ⟨Ao19_0,co19_0,eo_⟩:=Kd.jk HO174.out
   subst eo_
   refine kI (w1:=w') (v:=.agg #[.string (⟨#[65]⟩ : ByteArray),.string (⟨#[66]⟩ : ByteArray),.int .i64 t124,.int .i64 t125,.int .i64 3,.int .i64 t127,.int .i64 2,.slice Ao19_0 t172.length co19_0]) (by rfl) rfl ?_ ?_
   ·go_simp
    (try simp only [qE])
    try rfl
   refine hK.out _ _ ⟨v134,v137,v144,v147,v154,v157,v164,v167,v170,.slice Ao19_0 t172.length co19_0,v176,m3_,m7_,m11_,m15_,(.agg #[.string (⟨#[65]⟩ : ByteArray),.string (⟨#[66]⟩ : ByteArray),.int .i64 t124,.int .i64 t125,.int .i64 3,.int .i64 t127,.int .i64 2,.slice Ao19_0 t172.length co19_0]),(by rw [ha.out];exact jC 19 hb_ rfl rfl rfl),Q_BK128,Q_HB,Q_HO135,Q_HO138,Q_HO145,Q_HO148,Q_HO155,Q_HO158,Q_HO165,Q_HO168,Q_HO171,Q_HO174,fun h0_ => absurd ((hoff 20 (by kernel_rfl)).symm.trans h0_) (by decide),Q_X3_,Q_X7_,Q_X11_,Q_X15_,fun _ => rfl⟩
  refine jB ?_ ?_
  ·rintro b a w' ⟨v134,v137,v144,v147,v154,v157,v164,v167,v170,v173,v176,m3_,m7_,m11_,m15_,m19_,ha,Q_BK128,Q_HB,Q_HO135,Q_HO138,Q_HO145,Q_HO148,Q_HO155,Q_HO158,Q_HO165,Q_HO168,Q_HO171,Q_HO174,Q_HO177,Q_X3_,Q_X7_,Q_X11_,Q_X15_,Q_X19_⟩ hb_ hon hoff
   refine ⟨_,rfl,fun K hK => ?_⟩
   have e28 : a.tmps[28]? = some (m3_):=by rw [ha];exact jJ (e:=(3,28,m3_)) 3 rfl rfl (hon 3 (by kernel_rfl)) rfl
   rw [Q_X3_ (hon 3 (by kernel_rfl))] at e28
   have e32 : a.tmps[32]? = some (m7_):=by rw [ha];exact jJ (e:=(7,32,m7_)) 7 rfl rfl (hon 7 (by kernel_rfl)) rfl
   rw [Q_X7_ (hon 7 (by kernel_rfl))] at e32
   have e36 : a.tmps[36]? = some (m11_):=by rw [ha];exact jJ (e:=(11,36,m11_)) 11 rfl rfl (hon 11 (by kernel_rfl)) rfl
   rw [Q_X11_ (hon 11 (by kernel_rfl))] at e36
   have e40 : a.tmps[40]? = some (m15_):=by rw [ha];exact jJ (e:=(15,40,m15_)) 15 rfl rfl (hon 15 (by kernel_rfl)) rfl
   rw [Q_X15_ (hon 15 (by kernel_rfl))] at e40
   have e44 : a.tmps[44]? = some (m19_):=by rw [ha];exact jJ (e:=(19,44,m19_)) 19 rfl rfl (hon 19 (by kernel_rfl)) rfl
   rw [Q_X19_ (hon 19 (by kernel_rfl))] at e44
   replace ha:=qd.mk ha
   have BK128:=qd.mk Q_BK128
   have HB:=qd.mk Q_HB
   have HO135:=qd.mk (Q_HO135 (hon 1 (by kernel_rfl)))
   have HO138:=qd.mk (Q_HO138 (hon 2 (by kernel_rfl)) hb_)
   have HO145:=qd.mk (Q_HO145 (hon 5 (by kernel_rfl)))
   have HO148:=qd.mk (Q_HO148 (hon 6 (by kernel_rfl)) hb_)
   have HO155:=qd.mk (Q_HO155 (hon 9 (by kernel_rfl)))
   have HO158:=qd.mk (Q_HO158 (hon 10 (by kernel_rfl)) hb_)
   have HO165:=qd.mk (Q_HO165 (hon 13 (by kernel_rfl)))
   have HO168:=qd.mk (Q_HO168 (hon 14 (by kernel_rfl)) hb_)
   have HO171:=qd.mk (Q_HO171 (hon 17 (by kernel_rfl)))
   have HO174:=qd.mk (Q_HO174 (hon 18 (by kernel_rfl)) hb_)
   obtain ⟨Ao46,co46,eo46⟩:=Kd.jk HO138.out
   (first|subst eo46|(injection eo46 with f1_ f2_ f3_;have f4_:=f1_.symm;have f5_:=f3_.symm;clear f1_ f2_ f3_;subst f4_;subst f5_))
   obtain ⟨Ao47,co47,eo47⟩:=Kd.jk HO148.out
   (first|subst eo47|(injection eo47 with f1_ f2_ f3_;have f4_:=f1_.symm;have f5_:=f3_.symm;clear f1_ f2_ f3_;subst f4_;subst f5_))
   obtain ⟨Ao48,co48,eo48⟩:=Kd.jk HO158.out
   (first|subst eo48|(injection eo48 with f1_ f2_ f3_;have f4_:=f1_.symm;have f5_:=f3_.symm;clear f1_ f2_ f3_;subst f4_;subst f5_))
   obtain ⟨Ao49,co49,eo49⟩:=Kd.jk HO168.out
   (first|subst eo49|(injection eo49 with f1_ f2_ f3_;have f4_:=f1_.symm;have f5_:=f3_.symm;clear f1_ f2_ f3_;subst f4_;subst f5_))
   obtain ⟨Ao50,co50,eo50⟩:=Kd.jk HO174.out
   (first|subst eo50|(injection eo50 with f1_ f2_ f3_;have f4_:=f1_.symm;have f5_:=f3_.symm;clear f1_ f2_ f3_;subst f4_;subst f5_))
   refine Kd.JK k49 _ 49 ?hg (N':=45) ?hd (xs:=([(⟨(⟨#[82,79,65,68]⟩ : ByteArray),(⟨#[82,65,79,68]⟩ : ByteArray),(⟨t129,t130,t131,t132⟩ : S23),1,t136⟩ : S49),(⟨(⟨#[77,65,73,78]⟩ : ByteArray),(⟨#[77,65,73,78,69]⟩ : ByteArray),(⟨t139,t140,t141,t142⟩ : S23),1,t146⟩ : S49),(⟨(⟨#[65,66]⟩ : ByteArray),(⟨#[]⟩ : ByteArray),(⟨t149,t150,t151,t152⟩ : S23),2,t156⟩ : S49),(⟨(⟨#[67,65]⟩ : ByteArray),(⟨#[65,66,67]⟩ : ByteArray),(⟨t159,t160,t161,t162⟩ : S23),3,t166⟩ : S49),(⟨(⟨#[65]⟩ : ByteArray),(⟨#[66]⟩ : ByteArray),(⟨t124,t125,3,t127⟩ : S23),2,t172⟩ : S49)] : List (S49))) (inner:=[.string (⟨#[82,79,65,68]⟩ : ByteArray),.string (⟨#[82,65,79,68]⟩ : ByteArray),.int .i64 t129,.int .i64 t130,.int .i64 t131,.int .i64 t132,.int .i64 1,.slice Ao46 t136.length co46,.string (⟨#[77,65,73,78]⟩ : ByteArray),.string (⟨#[77,65,73,78,69]⟩ : ByteArray),.int .i64 t139,.int .i64 t140,.int .i64 t141,.int .i64 t142,.int .i64 1,.slice Ao47 t146.length co47,.string (⟨#[65,66]⟩ : ByteArray),.string (⟨#[]⟩ : ByteArray),.int .i64 t149,.int .i64 t150,.int .i64 t151,.int .i64 t152,.int .i64 2,.slice Ao48 t156.length co48,.string (⟨#[67,65]⟩ : ByteArray),.string (⟨#[65,66,67]⟩ : ByteArray),.int .i64 t159,.int .i64 t160,.int .i64 t161,.int .i64 t162,.int .i64 3,.slice Ao49 t166.length co49,.string (⟨#[65]⟩ : ByteArray),.string (⟨#[66]⟩ : ByteArray),.int .i64 t124,.int .i64 t125,.int .i64 3,.int .i64 t127,.int .i64 2,.slice Ao50 t172.length co50]) (ok:=(fun k_ => some k_ ≠ (v134 : Value).ownBlock ∧ some k_ ≠ (v144 : Value).ownBlock ∧ some k_ ≠ (v154 : Value).ownBlock ∧ some k_ ≠ (v164 : Value).ownBlock ∧ some k_ ≠ (v170 : Value).ownBlock ∧ k_ ≠ gb128)) (okp:=(fun k_ => some k_ ≠ (v134 : Value).ownBlock ∧ some k_ ≠ (v144 : Value).ownBlock ∧ some k_ ≠ (v154 : Value).ownBlock ∧ some k_ ≠ (v164 : Value).ownBlock ∧ some k_ ≠ (v170 : Value).ownBlock ∧ k_ ≠ gb128)) ?hr ?hp (fun _ hk => hk) ((show ∀ k_,w'.heap.size ≤ k_ → (fun k_ => some k_ ≠ (v134 : Value).ownBlock ∧ some k_ ≠ (v144 : Value).ownBlock ∧ some k_ ≠ (v154 : Value).ownBlock ∧ some k_ ≠ (v164 : Value).ownBlock ∧ some k_ ≠ (v170 : Value).ownBlock ∧ k_ ≠ gb128) k_ from fun k_ hk => ⟨Kd.fresh' (Kd.R_lt (by (with_reducible repeat (first|apply Kd.qy|apply Kd.qz|apply Kd.qC));exact HO135.out)) k_ hk,Kd.fresh' (Kd.R_lt (by (with_reducible repeat (first|apply Kd.qy|apply Kd.qz|apply Kd.qC));exact HO145.out)) k_ hk,Kd.fresh' (Kd.R_lt (by (with_reducible repeat (first|apply Kd.qy|apply Kd.qz|apply Kd.qC));exact HO155.out)) k_ hk,Kd.fresh' (Kd.R_lt (by (with_reducible repeat (first|apply Kd.qy|apply Kd.qz|apply Kd.qC));exact HO165.out)) k_ hk,Kd.fresh' (Kd.R_lt (by (with_reducible repeat (first|apply Kd.qy|apply Kd.qz|apply Kd.qC));exact HO171.out)) k_ hk,Kd.QH (g:=gb128) (o:=.cells #[.int .i64 t124,.int .i64 t125,.int .i64 3,.int .i64 t127] 23 (0,0)) (by (with_reducible repeat (first|refine qx ?_ _|refine qA ?_|refine qw ?_ _));exact BK128.out) k_ hk⟩) _ (Nat.le_refl _)) (Below.refl _ _) (Nat.le_refl _) (by simp) ?_;(case hd => rfl);(case hg => rfl);(case hr => first|(go_simp;done)|(go_simp;rfl));(case hp => exact (Reps.c8 (show Kd.FK k49 _ _ (⟨(⟨#[82,79,65,68]⟩ : ByteArray),(⟨#[82,65,79,68]⟩ : ByteArray),(⟨t129,t130,t131,t132⟩ : S23),1,t136⟩ : S49) [.string (⟨#[82,79,65,68]⟩ : ByteArray),.string (⟨#[82,65,79,68]⟩ : ByteArray),.int .i64 t129,.int .i64 t130,.int .i64 t131,.int .i64 t132,.int .i64 1,.slice Ao46 t136.length co46] from (kN _ _ (⟨(⟨#[82,79,65,68]⟩ : ByteArray),(⟨#[82,65,79,68]⟩ : ByteArray),(⟨t129,t130,t131,t132⟩ : S23),1,t136⟩ : S49) (Kd.je (Kd.qO (ok':=(fun k_ => some k_ ≠ (v134 : Value).ownBlock ∧ some k_ ≠ (v144 : Value).ownBlock ∧ some k_ ≠ (v154 : Value).ownBlock ∧ some k_ ≠ (v164 : Value).ownBlock ∧ some k_ ≠ (v170 : Value).ownBlock ∧ k_ ≠ gb128)) (Kd.zT (Kd.ja (Kd.ja (Kd.ja (Kd.ja (Kd.ja (HO138.out) (Kd.jf HO135.out) (by decide)) (Kd.jf HO145.out) (by decide)) (Kd.jf HO155.out) (by decide)) (Kd.jf HO165.out) (by decide)) (Kd.jf HO171.out) (by decide)) BK128.out (by decide)) (fun k_ hk => ⟨hk.1.1.1.1.1.2,⟨hk.1.1.1.1.2,⟨hk.1.1.1.2,⟨hk.1.1.2,⟨hk.1.2,hk.2⟩⟩⟩⟩⟩))).2.1 (Kd.R_F (Kd.qO (ok':=(fun k_ => some k_ ≠ (v134 : Value).ownBlock ∧ some k_ ≠ (v144 : Value).ownBlock ∧ some k_ ≠ (v154 : Value).ownBlock ∧ some k_ ≠ (v164 : Value).ownBlock ∧ some k_ ≠ (v170 : Value).ownBlock ∧ k_ ≠ gb128)) (Kd.zT (Kd.ja (Kd.ja (Kd.ja (Kd.ja (Kd.ja (HO138.out) (Kd.jf HO135.out) (by decide)) (Kd.jf HO145.out) (by decide)) (Kd.jf HO155.out) (by decide)) (Kd.jf HO165.out) (by decide)) (Kd.jf HO171.out) (by decide)) BK128.out (by decide)) (fun k_ hk => ⟨hk.1.1.1.1.1.2,⟨hk.1.1.1.1.2,⟨hk.1.1.1.2,⟨hk.1.1.2,⟨hk.1.2,hk.2⟩⟩⟩⟩⟩))))) (Reps.c8 (show Kd.FK k49 _ _ (⟨(⟨#[77,65,73,78]⟩ : ByteArray),(⟨#[77,65,73,78,69]⟩ : ByteArray),(⟨t139,t140,t141,t142⟩ : S23),1,t146⟩ : S49) [.string (⟨#[77,65,73,78]⟩ : ByteArray),.string (⟨#[77,65,73,78,69]⟩ : ByteArray),.int .i64 t139,.int .i64 t140,.int .i64 t141,.int .i64 t142,.int .i64 1,.slice Ao47 t146.length co47] from (kN _ _ (⟨(⟨#[77,65,73,78]⟩ : ByteArray),(⟨#[77,65,73,78,69]⟩ : ByteArray),(⟨t139,t140,t141,t142⟩ : S23),1,t146⟩ : S49) (Kd.je (Kd.qO (ok':=(fun k_ => some k_ ≠ (v134 : Value).ownBlock ∧ some k_ ≠ (v144 : Value).ownBlock ∧ some k_ ≠ (v154 : Value).ownBlock ∧ some k_ ≠ (v164 : Value).ownBlock ∧ some k_ ≠ (v170 : Value).ownBlock ∧ k_ ≠ gb128)) (Kd.zT (Kd.ja (Kd.ja (Kd.ja (Kd.ja (Kd.ja (HO148.out) (Kd.jf HO135.out) (by decide)) (Kd.jf HO145.out) (by decide)) (Kd.jf HO155.out) (by decide)) (Kd.jf HO165.out) (by decide)) (Kd.jf HO171.out) (by decide)) BK128.out (by decide)) (fun k_ hk => ⟨hk.1.1.1.1.1.2,⟨hk.1.1.1.1.2,⟨hk.1.1.1.2,⟨hk.1.1.2,⟨hk.1.2,hk.2⟩⟩⟩⟩⟩))).2.1 (Kd.R_F (Kd.qO (ok':=(fun k_ => some k_ ≠ (v134 : Value).ownBlock ∧ some k_ ≠ (v144 : Value).ownBlock ∧ some k_ ≠ (v154 : Value).ownBlock ∧ some k_ ≠ (v164 : Value).ownBlock ∧ some k_ ≠ (v170 : Value).ownBlock ∧ k_ ≠ gb128)) (Kd.zT (Kd.ja (Kd.ja (Kd.ja (Kd.ja (Kd.ja (HO148.out) (Kd.jf HO135.out) (by decide)) (Kd.jf HO145.out) (by decide)) (Kd.jf HO155.out) (by decide)) (Kd.jf HO165.out) (by decide)) (Kd.jf HO171.out) (by decide)) BK128.out (by decide)) (fun k_ hk => ⟨hk.1.1.1.1.1.2,⟨hk.1.1.1.1.2,⟨hk.1.1.1.2,⟨hk.1.1.2,⟨hk.1.2,hk.2⟩⟩⟩⟩⟩))))) (Reps.c8 (show Kd.FK k49 _ _ (⟨(⟨#[65,66]⟩ : ByteArray),(⟨#[]⟩ : ByteArray),(⟨t149,t150,t151,t152⟩ : S23),2,t156⟩ : S49) [.string (⟨#[65,66]⟩ : ByteArray),.string (⟨#[]⟩ : ByteArray),.int .i64 t149,.int .i64 t150,.int .i64 t151,.int .i64 t152,.int .i64 2,.slice Ao48 t156.length co48] from (kN _ _ (⟨(⟨#[65,66]⟩ : ByteArray),(⟨#[]⟩ : ByteArray),(⟨t149,t150,t151,t152⟩ : S23),2,t156⟩ : S49) (Kd.je (Kd.qO (ok':=(fun k_ => some k_ ≠ (v134 : Value).ownBlock ∧ some k_ ≠ (v144 : Value).ownBlock ∧ some k_ ≠ (v154 : Value).ownBlock ∧ some k_ ≠ (v164 : Value).ownBlock ∧ some k_ ≠ (v170 : Value).ownBlock ∧ k_ ≠ gb128)) (Kd.zT (Kd.ja (Kd.ja (Kd.ja (Kd.ja (Kd.ja (HO158.out) (Kd.jf HO135.out) (by decide)) (Kd.jf HO145.out) (by decide)) (Kd.jf HO155.out) (by decide)) (Kd.jf HO165.out) (by decide)) (Kd.jf HO171.out) (by decide)) BK128.out (by decide)) (fun k_ hk => ⟨hk.1.1.1.1.1.2,⟨hk.1.1.1.1.2,⟨hk.1.1.1.2,⟨hk.1.1.2,⟨hk.1.2,hk.2⟩⟩⟩⟩⟩))).2.1 (Kd.R_F (Kd.qO (ok':=(fun k_ => some k_ ≠ (v134 : Value).ownBlock ∧ some k_ ≠ (v144 : Value).ownBlock ∧ some k_ ≠ (v154 : Value).ownBlock ∧ some k_ ≠ (v164 : Value).ownBlock ∧ some k_ ≠ (v170 : Value).ownBlock ∧ k_ ≠ gb128)) (Kd.zT (Kd.ja (Kd.ja (Kd.ja (Kd.ja (Kd.ja (HO158.out) (Kd.jf HO135.out) (by decide)) (Kd.jf HO145.out) (by decide)) (Kd.jf HO155.out) (by decide)) (Kd.jf HO165.out) (by decide)) (Kd.jf HO171.out) (by decide)) BK128.out (by decide)) (fun k_ hk => ⟨hk.1.1.1.1.1.2,⟨hk.1.1.1.1.2,⟨hk.1.1.1.2,⟨hk.1.1.2,⟨hk.1.2,hk.2⟩⟩⟩⟩⟩))))) (Reps.c8 (show Kd.FK k49 _ _ (⟨(⟨#[67,65]⟩ : ByteArray),(⟨#[65,66,67]⟩ : ByteArray),(⟨t159,t160,t161,t162⟩ : S23),3,t166⟩ : S49) [.string (⟨#[67,65]⟩ : ByteArray),.string (⟨#[65,66,67]⟩ : ByteArray),.int .i64 t159,.int .i64 t160,.int .i64 t161,.int .i64 t162,.int .i64 3,.slice Ao49 t166.length co49] from (kN _ _ (⟨(⟨#[67,65]⟩ : ByteArray),(⟨#[65,66,67]⟩ : ByteArray),(⟨t159,t160,t161,t162⟩ : S23),3,t166⟩ : S49) (Kd.je (Kd.qO (ok':=(fun k_ => some k_ ≠ (v134 : Value).ownBlock ∧ some k_ ≠ (v144 : Value).ownBlock ∧ some k_ ≠ (v154 : Value).ownBlock ∧ some k_ ≠ (v164 : Value).ownBlock ∧ some k_ ≠ (v170 : Value).ownBlock ∧ k_ ≠ gb128)) (Kd.zT (Kd.ja (Kd.ja (Kd.ja (Kd.ja (Kd.ja (HO168.out) (Kd.jf HO135.out) (by decide)) (Kd.jf HO145.out) (by decide)) (Kd.jf HO155.out) (by decide)) (Kd.jf HO165.out) (by decide)) (Kd.jf HO171.out) (by decide)) BK128.out (by decide)) (fun k_ hk => ⟨hk.1.1.1.1.1.2,⟨hk.1.1.1.1.2,⟨hk.1.1.1.2,⟨hk.1.1.2,⟨hk.1.2,hk.2⟩⟩⟩⟩⟩))).2.1 (Kd.R_F (Kd.qO (ok':=(fun k_ => some k_ ≠ (v134 : Value).ownBlock ∧ some k_ ≠ (v144 : Value).ownBlock ∧ some k_ ≠ (v154 : Value).ownBlock ∧ some k_ ≠ (v164 : Value).ownBlock ∧ some k_ ≠ (v170 : Value).ownBlock ∧ k_ ≠ gb128)) (Kd.zT (Kd.ja (Kd.ja (Kd.ja (Kd.ja (Kd.ja (HO168.out) (Kd.jf HO135.out) (by decide)) (Kd.jf HO145.out) (by decide)) (Kd.jf HO155.out) (by decide)) (Kd.jf HO165.out) (by decide)) (Kd.jf HO171.out) (by decide)) BK128.out (by decide)) (fun k_ hk => ⟨hk.1.1.1.1.1.2,⟨hk.1.1.1.1.2,⟨hk.1.1.1.2,⟨hk.1.1.2,⟨hk.1.2,hk.2⟩⟩⟩⟩⟩))))) (Reps.c8 (show Kd.FK k49 _ _ (⟨(⟨#[65]⟩ : ByteArray),(⟨#[66]⟩ : ByteArray),(⟨t124,t125,3,t127⟩ : S23),2,t172⟩ : S49) [.string (⟨#[65]⟩ : ByteArray),.string (⟨#[66]⟩ : ByteArray),.int .i64 t124,.int .i64 t125,.int .i64 3,.int .i64 t127,.int .i64 2,.slice Ao50 t172.length co50] from (kN _ _ (⟨(⟨#[65]⟩ : ByteArray),(⟨#[66]⟩ : ByteArray),(⟨t124,t125,3,t127⟩ : S23),2,t172⟩ : S49) (Kd.je (Kd.qO (ok':=(fun k_ => some k_ ≠ (v134 : Value).ownBlock ∧ some k_ ≠ (v144 : Value).ownBlock ∧ some k_ ≠ (v154 : Value).ownBlock ∧ some k_ ≠ (v164 : Value).ownBlock ∧ some k_ ≠ (v170 : Value).ownBlock ∧ k_ ≠ gb128)) (Kd.zT (Kd.ja (Kd.ja (Kd.ja (Kd.ja (Kd.ja (HO174.out) (Kd.jf HO135.out) (by decide)) (Kd.jf HO145.out) (by decide)) (Kd.jf HO155.out) (by decide)) (Kd.jf HO165.out) (by decide)) (Kd.jf HO171.out) (by decide)) BK128.out (by decide)) (fun k_ hk => ⟨hk.1.1.1.1.1.2,⟨hk.1.1.1.1.2,⟨hk.1.1.1.2,⟨hk.1.1.2,⟨hk.1.2,hk.2⟩⟩⟩⟩⟩))).2.1 (Kd.R_F (Kd.qO (ok':=(fun k_ => some k_ ≠ (v134 : Value).ownBlock ∧ some k_ ≠ (v144 : Value).ownBlock ∧ some k_ ≠ (v154 : Value).ownBlock ∧ some k_ ≠ (v164 : Value).ownBlock ∧ some k_ ≠ (v170 : Value).ownBlock ∧ k_ ≠ gb128)) (Kd.zT (Kd.ja (Kd.ja (Kd.ja (Kd.ja (Kd.ja (HO174.out) (Kd.jf HO135.out) (by decide)) (Kd.jf HO145.out) (by decide)) (Kd.jf HO155.out) (by decide)) (Kd.jf HO165.out) (by decide)) (Kd.jf HO171.out) (by decide)) BK128.out (by decide)) (fun k_ hk => ⟨hk.1.1.1.1.1.2,⟨hk.1.1.1.1.2,⟨hk.1.1.1.2,⟨hk.1.1.2,⟨hk.1.2,hk.2⟩⟩⟩⟩⟩))))) (Reps.none _ _)))))))
   intro v176 w51 ho52 hb hg_ hnew_
   clear hg_ hnew_
   (first|rw [← Ny175.out] at ho52|(simp only [Int.reduceToNat] at ho52;rw [← Ny175.out] at ho52))
   have n0_:=qd.mk (Kd.qN (by (with_reducible repeat (first|apply Kd.qy|apply Kd.qz|apply Kd.qC));exact HO135.out) hb)
   have n1_:=qd.mk (Kd.qN (by (with_reducible repeat (first|apply Kd.qy|apply Kd.qz|apply Kd.qC));exact HO145.out) hb)
   have n2_:=qd.mk (Kd.qN (by (with_reducible repeat (first|apply Kd.qy|apply Kd.qz|apply Kd.qC));exact HO155.out) hb)
   have n3_:=qd.mk (Kd.qN (by (with_reducible repeat (first|apply Kd.qy|apply Kd.qz|apply Kd.qC));exact HO165.out) hb)
   have n4_:=qd.mk (Kd.qN (by (with_reducible repeat (first|apply Kd.qy|apply Kd.qz|apply Kd.qC));exact HO171.out) hb)
   have n5_:=qd.mk (Kd.Ve ho52 (qH (by repeat (first|(with_reducible first|exact HB.out|apply qg|apply qc|apply qf|refine qp ?_ GE128.out)|exact HB.out))))
   have n6_:=qd.mk (qR (g:=gb128) (o:=.cells #[.int .i64 t124,.int .i64 t125,.int .i64 3,.int .i64 t127] 23 (0,0)) (by (with_reducible repeat (first|refine qx ?_ _|refine qA ?_|refine qw ?_ _));exact BK128.out) hb)
   have n7_:=qd.mk (qI (by repeat (first|(with_reducible first|exact HB.out|apply qg|apply qc|apply qf|refine qp ?_ GE128.out)|exact HB.out)) hb)
   clear HO135
   clear HO145
   clear HO155
   clear HO165
   clear HO171
   clear BK128
   clear HB
   clear HO138
   clear HO148
   clear HO158
   clear HO168
   clear HO174
   have HO135:=n0_
   have HO145:=n1_
   have HO155:=n2_
   have HO165:=n3_
   have HO171:=n4_
   have HO177:=n5_
   have BK128:=n6_
   have HB:=n7_
   clear n0_ n1_ n2_ n3_ n4_ n5_ n6_ n7_
   clear hb ho52
   obtain ⟨Ao53,co53,eo53⟩:=Kd.QF HO177.out
   (first|subst eo53|(injection eo53 with f1_ f2_ f3_;have f4_:=f1_.symm;have f5_:=f3_.symm;clear f1_ f2_ f3_;subst f4_;subst f5_))
   refine hK.out _ _ ⟨v134,.slice Ao46 t136.length co46,v144,.slice Ao47 t146.length co47,v154,.slice Ao48 t156.length co48,v164,.slice Ao49 t166.length co49,v170,.slice Ao50 t172.length co50,.slice Ao53 y175.length co53,m3_,m7_,m11_,m15_,m19_,(by rw [ha.out];exact jC 20 hb_ rfl rfl rfl),(by (with_reducible repeat (first|refine qx ?_ _|refine qA ?_|refine qw ?_ _));exact BK128.out),(by repeat (first|(with_reducible first|exact HB.out|apply qg|apply qc|apply qf|refine qp ?_ GE128.out)|exact HB.out)),fun _ => (by (with_reducible repeat (first|apply Kd.qy|apply Kd.qz|apply Kd.qC));first|exact HO135.out|exact Kd.qO HO135.out (fun _ _ => trivial)),fun _ h1_ => absurd ((xU b 20).symm.trans h1_) (by decide),fun _ => (by (with_reducible repeat (first|apply Kd.qy|apply Kd.qz|apply Kd.qC));first|exact HO145.out|exact Kd.qO HO145.out (fun _ _ => trivial)),fun _ h1_ => absurd ((xU b 20).symm.trans h1_) (by decide),fun _ => (by (with_reducible repeat (first|apply Kd.qy|apply Kd.qz|apply Kd.qC));first|exact HO155.out|exact Kd.qO HO155.out (fun _ _ => trivial)),fun _ h1_ => absurd ((xU b 20).symm.trans h1_) (by decide),fun _ => (by (with_reducible repeat (first|apply Kd.qy|apply Kd.qz|apply Kd.qC));first|exact HO165.out|exact Kd.qO HO165.out (fun _ _ => trivial)),fun _ h1_ => absurd ((xU b 20).symm.trans h1_) (by decide),fun _ => (by (with_reducible repeat (first|apply Kd.qy|apply Kd.qz|apply Kd.qC));first|exact HO171.out|exact Kd.qO HO171.out (fun _ _ => trivial)),fun _ h1_ => absurd ((xU b 20).symm.trans h1_) (by decide),fun _ => (by (with_reducible repeat (first|apply Kd.zb|apply Kd.ze|apply Kd.zD));first|exact HO177.out|exact Kd.kD HO177.out (fun _ hk => hk.2.2.2.2.2)),Q_X3_,Q_X7_,Q_X11_,Q_X15_,Q_X19_⟩
  refine jB ?_ ?_
  ·rintro b a w' ⟨v134,v137,v144,v147,v154,v157,v164,v167,v170,v173,v176,m3_,m7_,m11_,m15_,m19_,ha,Q_BK128,Q_HB,Q_HO135,Q_HO138,Q_HO145,Q_HO148,Q_HO155,Q_HO158,Q_HO165,Q_HO168,Q_HO171,Q_HO174,Q_HO177,Q_X3_,Q_X7_,Q_X11_,Q_X15_,Q_X19_⟩ hb_ hon hoff
   refine ⟨_,rfl,fun K hK => ?_⟩
   have e45 : a.tmps[45]? = some (v176):=by rw [ha];exact jJ (e:=(20,45,v176)) 20 rfl rfl (hon 20 (by kernel_rfl)) rfl
   replace ha:=qd.mk ha
   have BK128:=qd.mk Q_BK128
   have HB:=qd.mk Q_HB
   have HO135:=qd.mk (Q_HO135 (hon 1 (by kernel_rfl)))
   have HO145:=qd.mk (Q_HO145 (hon 5 (by kernel_rfl)))
   have HO155:=qd.mk (Q_HO155 (hon 9 (by kernel_rfl)))
   have HO165:=qd.mk (Q_HO165 (hon 13 (by kernel_rfl)))
   have HO171:=qd.mk (Q_HO171 (hon 17 (by kernel_rfl)))
   have HO177:=qd.mk (Q_HO177 (hon 20 (by kernel_rfl)))
   obtain ⟨Ao21_0,co21_0,eo_⟩:=Kd.QF HO177.out
   subst eo_
   refine kI (w1:=w') (v:=.int .i64 (y175.length : Int)) (by rfl) rfl ?_ ?_
   ·go_simp
    (try simp only [qE])
    try rfl
   refine hK.out _ _ ⟨v134,v137,v144,v147,v154,v157,v164,v167,v170,v173,.slice Ao21_0 y175.length co21_0,m3_,m7_,m11_,m15_,m19_,(by rw [ha.out];exact jC 21 hb_ rfl rfl rfl),Q_BK128,Q_HB,Q_HO135,fun _ h1_ => absurd ((hon 20 (by kernel_rfl)).symm.trans h1_) (by decide),Q_HO145,fun _ h1_ => absurd ((hon 20 (by kernel_rfl)).symm.trans h1_) (by decide),Q_HO155,fun _ h1_ => absurd ((hon 20 (by kernel_rfl)).symm.trans h1_) (by decide),Q_HO165,fun _ h1_ => absurd ((hon 20 (by kernel_rfl)).symm.trans h1_) (by decide),Q_HO171,fun _ h1_ => absurd ((hon 20 (by kernel_rfl)).symm.trans h1_) (by decide),Q_HO177,Q_X3_,Q_X7_,Q_X11_,Q_X15_,Q_X19_⟩
  exact Zu
 rintro b a w48 hall ⟨v134,v137,v144,v147,v154,v157,v164,v167,v170,v173,v176,m3_,m7_,m11_,m15_,m19_,ha,Q_BK128,Q_HB,Q_HO135,Q_HO138,Q_HO145,Q_HO148,Q_HO155,Q_HO158,Q_HO165,Q_HO168,Q_HO171,Q_HO174,Q_HO177,Q_X3_,Q_X7_,Q_X11_,Q_X15_,Q_X19_⟩
 clear BK128 HB
 have hb0_:=hall 0 (by kernel_rfl)
 have hb1_:=hall 1 (by kernel_rfl)
 have hb2_:=hall 2 (by kernel_rfl)
 have hb3_:=hall 3 (by kernel_rfl)
 have hb4_:=hall 4 (by kernel_rfl)
 have hb5_:=hall 5 (by kernel_rfl)
 have hb6_:=hall 6 (by kernel_rfl)
 have hb7_:=hall 7 (by kernel_rfl)
 have hb8_:=hall 8 (by kernel_rfl)
 have hb9_:=hall 9 (by kernel_rfl)
 have hb10_:=hall 10 (by kernel_rfl)
 have hb11_:=hall 11 (by kernel_rfl)
 have hb12_:=hall 12 (by kernel_rfl)
 have hb13_:=hall 13 (by kernel_rfl)
 have hb14_:=hall 14 (by kernel_rfl)
 have hb15_:=hall 15 (by kernel_rfl)
 have hb16_:=hall 16 (by kernel_rfl)
 have hb17_:=hall 17 (by kernel_rfl)
 have hb18_:=hall 18 (by kernel_rfl)
 have hb19_:=hall 19 (by kernel_rfl)
 have hb20_:=hall 20 (by kernel_rfl)
 have hb21_:=hall 21 (by kernel_rfl)
 subst ha
 obtain rfl:=Q_X3_ hb3_
 obtain rfl:=Q_X7_ hb7_
 obtain rfl:=Q_X11_ hb11_
 obtain rfl:=Q_X15_ hb15_
 obtain rfl:=Q_X19_ hb19_
 simp only [zK,hb0_,hb1_,hb2_,hb3_,hb4_,hb5_,hb6_,hb7_,hb8_,hb9_,hb10_,hb11_,hb12_,hb13_,hb14_,hb15_,hb16_,hb17_,hb18_,hb19_,hb20_,hb21_,if_true,Act.put,List.setIfInBounds_toArray,List.set_cons_zero,List.set_cons_succ]
 have BK128:=qd.mk Q_BK128
 clear Q_BK128
 have HB:=qd.mk Q_HB
 clear Q_HB
 have HO135:=qd.mk (Q_HO135 hb1_)
 clear Q_HO135
 clear Q_HO138
 have HO145:=qd.mk (Q_HO145 hb5_)
 clear Q_HO145
 clear Q_HO148
 have HO155:=qd.mk (Q_HO155 hb9_)
 clear Q_HO155
 clear Q_HO158
 have HO165:=qd.mk (Q_HO165 hb13_)
 clear Q_HO165
 clear Q_HO168
 have HO171:=qd.mk (Q_HO171 hb17_)
 clear Q_HO171
 clear Q_HO174
 have HO177:=qd.mk (Q_HO177 hb20_)
 clear Q_HO177
 clear hall hb0_ hb1_ hb2_ hb3_ hb4_ hb5_ hb6_ hb7_ hb8_ hb9_ hb10_ hb11_ hb12_ hb13_ hb14_ hb15_ hb16_ hb17_ hb18_ hb19_ hb20_ hb21_
 obtain ⟨Ao49,co49,eo49⟩:=Kd.QF HO177.out
 (first|subst eo49|(injection eo49 with f1_ f2_ f3_;have f4_:=f1_.symm;have f5_:=f3_.symm;clear f1_ f2_ f3_;subst f4_;subst f5_))
 try go_wp2
 go_loopg [47] k (fun kq v47 w' => ∃ (x47_1 : Int),v47 = .int .i64 x47_1 ∧ qd (jo.l0 kq y175 (y175.length : Int) x47_1 = some r) ∧ qd (kq ≤ k) ∧ qd (Kd.N k49 49 w' w.heap.size (fun k_ => k_ ≠ gb128) (.slice Ao49 y175.length co49) y175) ∧ qd (w'.heap[gb128]? = some (.cells #[.int .i64 t124,.int .i64 t125,.int .i64 3,.int .i64 t127] 23 (0,0))) ∧ qd (Below w.heap.size w w'))
 case atStart => exact ⟨(0),(by first|rfl|(simp;done)|(simp [*];done)),H',⟨Nat.le_refl _⟩,⟨by (with_reducible repeat (first|apply Kd.zb|apply Kd.ze|apply Kd.zD));first|exact HO177.out|exact Kd.kD HO177.out (fun _ hk => hk.2.2.2.2.2)⟩,⟨by (with_reducible repeat (first|refine qx ?_ _|refine qA ?_|refine qw ?_ _));exact BK128.out⟩,⟨by repeat (first|(with_reducible first|exact HB.out|apply qg|apply qc|apply qf|refine qp ?_ GE128.out)|exact HB.out)⟩⟩
 case round =>
  clear H'
  try clear c1
  try clear c2
  try clear p2
  try clear c3
  try clear c8
  try clear c15
  try clear c20
  obtain ⟨x47_1,rfl,HA,HK1,HO_45,BK128,HB⟩:=hrel
  cases gk with
  | zero => exact absurd HA.out (by simp [jo.l0])
  | succ k1 =>
   have H:=HA.out
   clear HA
   simp only [jo.l0] at H
   by_cases c50 : x47_1 < (y175.length : Int)
   ·rw [if_pos c50] at H
    have c50b0 : decide (x47_1 < (y175.length : Int)) = true:=decide_eq_true c50
    clear c50
    by_cases c51 : 0 ≤ x47_1
    ·rw [if_pos c51] at H
     have c51b0 : decide (0 ≤ x47_1) = true:=decide_eq_true c51
     clear c51
     by_cases c52 : x47_1 < (y175.length : Int)
     ·rw [if_pos c52] at H
      have c52b0 : decide (x47_1 < (y175.length : Int)) = true:=decide_eq_true c52
      clear c52
      replace H:=Option.bind_eq_some_iff.mp H
      obtain ⟨⟨t180,t181⟩,A530,H⟩:=H
      replace H : ((zI.f ((qM y175 x47_1).f0) ((qM y175 x47_1).f1) ((qM y175 x47_1).f2.f0) ((qM y175 x47_1).f2.f1) ((qM y175 x47_1).f2.f2) ((qM y175 x47_1).f2.f3)).bind fun bt182 => (if t180 = ((qM y175 x47_1).f3) then (if t181 = 0 then (if bt182.2.1 = ((qM y175 x47_1).f3) then (if bt182.2.2 = 0 then ((qV.f k1 bt182.1 ((qM y175 x47_1).f4)).bind fun t187 => (if t187 = true then (jo.l0 k1 y175 (y175.length : Int) (wrap64 (x47_1 + 1))) else (some false))) else (some false)) else (some false)) else (some false)) else (some false))) = some r:=H
      have A53:=qd.mk A530
      clear A530
      replace H:=Option.bind_eq_some_iff.mp H
      obtain ⟨⟨t182,t185,t186⟩,A540,H⟩:=H
      replace H : (if t180 = ((qM y175 x47_1).f3) then (if t181 = 0 then (if t185 = ((qM y175 x47_1).f3) then (if t186 = 0 then ((qV.f k1 t182 ((qM y175 x47_1).f4)).bind fun t187 => (if t187 = true then (jo.l0 k1 y175 (y175.length : Int) (wrap64 (x47_1 + 1))) else (some false))) else (some false)) else (some false)) else (some false)) else (some false)) = some r:=H
      have A54:=qd.mk A540
      clear A540
      by_cases c55 : t180 = ((qM y175 x47_1).f3)
      ·rw [if_pos c55] at H
       have c55b0 : (t180 == ((qM y175 x47_1).f3)) = true:=beq_iff_eq.mpr c55
       have c55b1 : (t180 != ((qM y175 x47_1).f3)) = false:=bne_eq_false_iff_eq.mpr c55
       clear c55
       by_cases c56 : t181 = 0
       ·rw [if_pos c56] at H
        have c56b0 : (t181 == 0) = true:=beq_iff_eq.mpr c56
        have c56b1 : (t181 != 0) = false:=bne_eq_false_iff_eq.mpr c56
        clear c56
        by_cases c57 : t185 = ((qM y175 x47_1).f3)
        ·rw [if_pos c57] at H
         have c57b0 : (t185 == ((qM y175 x47_1).f3)) = true:=beq_iff_eq.mpr c57
         have c57b1 : (t185 != ((qM y175 x47_1).f3)) = false:=bne_eq_false_iff_eq.mpr c57
         clear c57
         by_cases c58 : t186 = 0
         ·rw [if_pos c58] at H
          have c58b0 : (t186 == 0) = true:=beq_iff_eq.mpr c58
          have c58b1 : (t186 != 0) = false:=bne_eq_false_iff_eq.mpr c58
          clear c58
          replace H:=Option.bind_eq_some_iff.mp H
          obtain ⟨t187,A590,H⟩:=H
          replace H : (if t187 = true then (jo.l0 k1 y175 (y175.length : Int) (wrap64 (x47_1 + 1))) else (some false)) = some r:=H
          have A59:=qd.mk A590
          clear A590
          by_cases c60 : t187 = true
          ·subst c60
           have H1 : (jo.l0 k1 y175 (y175.length : Int) (wrap64 (x47_1 + 1))) = some r:=by rw [if_pos rfl] at H;exact H
           clear H
           have H:=H1
           clear H1
           have H':=qd.mk H
           clear H
           have p178 : 0 ≤ (x47_1 : Int):=of_decide_eq_true (by first|(with_reducible assumption)|assumption)
           have q178 : x47_1 < (y175.length : Int):=of_decide_eq_true (by first|(with_reducible assumption)|assumption)
           obtain ⟨ad178,A178_7,c178_7,e178,hx178_0,hx178_1,hx178_2,hx178_3,hx178_4,hx178_5,hx178_6,hx178_7,hl178_7,hi178_7⟩:=Xc (Kd.Jl HO_45.out).2.2 x47_1 p178 q178
           cases e178
           obtain ⟨ce178,hce178,hMe178,hcc178⟩:=Kd.Kt HO_45.out z49 x47_1 p178 (by first|exact q178|exact of_decide_eq_true (by first|(with_reducible assumption)|assumption)|(have e_:=(Kd.Jl HO_45.out).1;omega))
           obtain ⟨ua178_7,uc178_7,rfl,ul178_7,ge178_7⟩:=ZC hMe178
           have hv178_7:=hcc178 7 _ rfl
           rw [jG _ _ 7 (by omega)] at hv178_7
           replace hv178_7:=Option.some.inj (hv178_7.symm.trans hx178_7)
           injection hv178_7 with hva_ hvn_ hvc_
           rw [hva_] at ge178_7
           rw [hvc_] at ul178_7
           have HL178_7:=qd.mk (show Kd.V k38 38 _ w.heap.size _ _ ((qM y175 x47_1).f4) from Kd.V_mk ul178_7 ge178_7)
           clear hva_ hvn_ hvc_ ge178_7 ul178_7
           clear hcc178 hce178
           have HR178_7:=qd.mk hi178_7
           have HC178_7:=qd.mk hl178_7
           clear hi178_7 hl178_7
           replace p178:=eq_true p178
           replace q178:=eq_true q178
           go_wp2_with (first|((with_reducible refine ji (N:=3) rfl ?_);refine jg ?hg (N:=3) ?hd (cs:=#[.string (⟨#[]⟩ : ByteArray),.string (⟨#[]⟩ : ByteArray),.int .i64 0,.int .i64 0,.int .i64 0,.int .i64 0,.int .i64 0,.slice none 0 0]) (t:=49) ?hr ?_;(case hd => rfl);(case hg => rfl);(case hr => first|(go_simp;done)|(go_simp;rfl));intro gb179 hg w61 hbox hb;have n0_:=qd.mk (Kd.zX (Kd.Xa (by (with_reducible repeat (first|apply Kd.zb|apply Kd.ze|apply Kd.zD));exact HO_45.out) gb179 (Nat.le_of_eq hg.symm)) hb);have n1_:=qd.mk (Kd.J3 (Kd.Z6 (by (with_reducible repeat (first|apply Kd.yG|apply Kd.yI|apply Kd.QL));exact HL178_7.out) gb179 (Nat.le_of_eq hg.symm)) hb);have n2_:=qd.mk (qR (g:=gb128) (o:=.cells #[.int .i64 t124,.int .i64 t125,.int .i64 3,.int .i64 t127] 23 (0,0)) (by (with_reducible repeat (first|refine qx ?_ _|refine qA ?_|refine qw ?_ _));exact BK128.out) hb);have n3_:=qd.mk (Kd.xS (by repeat (first|(with_reducible exact HR178_7.out)|(with_reducible refine Kd.jP ?_ _)|(with_reducible refine Kd.jQ ?_ _)|(with_reducible refine Kd.zh ?_)|exact HR178_7.out)) hb);have n4_:=qd.mk (qI (by repeat (first|(with_reducible first|exact HB.out|apply qg|apply qc|apply qf|refine qp ?_ GE128.out)|exact HB.out)) hb);have n5_:=qd.mk (hbox);have n6_:=qd.mk ((by rw [hg];exact (qH (by repeat (first|(with_reducible first|exact HB.out|apply qg|apply qc|apply qf|refine qp ?_ GE128.out)|exact HB.out))) : w.heap.size ≤ gb179));have n7_:=qd.mk ((by rw [hg];exact (qH (by repeat (first|(with_reducible first|exact HB.out|apply qg|apply qc|apply qf|refine qp ?_ GE128.out)|exact HB.out))) : w.heap.size ≤ gb179));have n8_:=qd.mk ((by rw [hg];exact Nat.ne_of_lt (jw (g:=gb128) (o:=.cells #[.int .i64 t124,.int .i64 t125,.int .i64 3,.int .i64 t127] 23 (0,0)) (by (with_reducible repeat (first|refine qx ?_ _|refine qA ?_|refine qw ?_ _));exact BK128.out)) : gb128 ≠ gb179));have n9_:=qd.mk ((by rw [hg];exact Nat.ne_of_gt (jw (g:=gb128) (o:=.cells #[.int .i64 t124,.int .i64 t125,.int .i64 3,.int .i64 t127] 23 (0,0)) (by (with_reducible repeat (first|refine qx ?_ _|refine qA ?_|refine qw ?_ _));exact BK128.out)) : gb179 ≠ gb128));clear HO_45;clear HL178_7;clear BK128;clear HR178_7;clear HB;have HO_45:=n0_;have HL178_7:=n1_;have BK128:=n2_;have HR178_7:=n3_;have HB:=n4_;have BK179:=n5_;have GW179:=n6_;have GE179:=n7_;have NB128_179:=n8_;have NB179_128:=n9_;clear n0_ n1_ n2_ n3_ n4_ n5_ n6_ n7_ n8_ n9_;clear hb hbox hg;have hnb62:=NB179_128.out;have hnc62:=NB128_179.out;have hcz63_0 : w61.cell? ⟨gb179,0,none⟩ = some (.string (⟨#[]⟩ : ByteArray)):=(qi BK179.out 0).trans rfl;have hcz63_1 : w61.cell? ⟨gb179,1,none⟩ = some (.string (⟨#[]⟩ : ByteArray)):=(qi BK179.out 1).trans rfl;have hcz63_2 : w61.cell? ⟨gb179,2,none⟩ = some (.int .i64 0):=(qi BK179.out 2).trans rfl;have hcz63_3 : w61.cell? ⟨gb179,3,none⟩ = some (.int .i64 0):=(qi BK179.out 3).trans rfl;have hcz63_4 : w61.cell? ⟨gb179,4,none⟩ = some (.int .i64 0):=(qi BK179.out 4).trans rfl;have hcz63_5 : w61.cell? ⟨gb179,5,none⟩ = some (.int .i64 0):=(qi BK179.out 5).trans rfl;have hcz63_6 : w61.cell? ⟨gb179,6,none⟩ = some (.int .i64 0):=(qi BK179.out 6).trans rfl;have hcz63_7 : w61.cell? ⟨gb179,7,none⟩ = some (.slice none 0 0):=(qi BK179.out 7).trans rfl;have hfz63_0:=ql BK179.out 0;have hfz63_1:=ql BK179.out 1;have hfz63_2:=ql BK179.out 2;have hfz63_3:=ql BK179.out 3;have hfz63_4:=ql BK179.out 4;have hfz63_5:=ql BK179.out 5;have hfz63_6:=ql BK179.out 6;have hfz63_7:=ql BK179.out 7)|((with_reducible refine qZ (f:=12) rfl ?_);refine jL (some 58) rfl rfl Try.func12 (by kernel_rfl) rfl #[.string ((qM y175 x47_1).f0),.string ((qM y175 x47_1).f1),.agg #[.int .i64 ((qM y175 x47_1).f2.f0),.int .i64 ((qM y175 x47_1).f2.f1),.int .i64 ((qM y175 x47_1).f2.f2),.int .i64 ((qM y175 x47_1).f2.f3)]] rfl (by (try simp only [List.map_toArray,List.map_cons,List.map_nil]);first|done|rfl|(simp only [List.length_drop,List.length_take];rfl)) ?_;(with_reducible refine (jr.calls ((qM y175 x47_1).f0) ((qM y175 x47_1).f1) ((qM y175 x47_1).f2.f0) ((qM y175 x47_1).f2.f1) ((qM y175 x47_1).f2.f2) ((qM y175 x47_1).f2.f3) t180 t181 _ A53.out).mono ?_);rintro e w64 ⟨rfl,hb⟩;refine ⟨_,rfl,?_⟩;have n0_:=qd.mk (Kd.zX (by (with_reducible repeat (first|apply Kd.zb|apply Kd.ze|apply Kd.zD));exact (Kd.kD (Kd.yu (p:=⟨gb179,7,none⟩) (Kd.yu (p:=⟨gb179,6,none⟩) (Kd.yu (p:=⟨gb179,5,none⟩) (Kd.yu (p:=⟨gb179,4,none⟩) (Kd.yu (p:=⟨gb179,3,none⟩) (Kd.yu (p:=⟨gb179,2,none⟩) (Kd.yu (p:=⟨gb179,1,none⟩) (Kd.yu (p:=⟨gb179,0,none⟩) (Kd.kD HO_45.out (fun k_ hk => (⟨hk,hk.2⟩ : _ ∧ k_ ≠ gb179))) (fun _ hk => hk.2) (.string ((qM y175 x47_1).f0))) (fun _ hk => hk.2) (.string ((qM y175 x47_1).f1))) (fun _ hk => hk.2) (.int .i64 ((qM y175 x47_1).f2.f0))) (fun _ hk => hk.2) (.int .i64 ((qM y175 x47_1).f2.f1))) (fun _ hk => hk.2) (.int .i64 ((qM y175 x47_1).f2.f2))) (fun _ hk => hk.2) (.int .i64 ((qM y175 x47_1).f2.f3))) (fun _ hk => hk.2) (.int .i64 ((qM y175 x47_1).f3))) (fun _ hk => hk.2) (.slice A178_7 ((qM y175 x47_1).f4).length c178_7)) (fun _ h_ => h_.1))) hb);have n1_:=qd.mk (Kd.J3 (by (with_reducible repeat (first|apply Kd.yG|apply Kd.yI|apply Kd.QL));exact (Kd.Qz (Kd.xQ (p:=⟨gb179,7,none⟩) (Kd.xQ (p:=⟨gb179,6,none⟩) (Kd.xQ (p:=⟨gb179,5,none⟩) (Kd.xQ (p:=⟨gb179,4,none⟩) (Kd.xQ (p:=⟨gb179,3,none⟩) (Kd.xQ (p:=⟨gb179,2,none⟩) (Kd.xQ (p:=⟨gb179,1,none⟩) (Kd.xQ (p:=⟨gb179,0,none⟩) (Kd.Qz HL178_7.out (fun k_ hk => (⟨hk,hk.2⟩ : _ ∧ k_ ≠ gb179))) (fun _ hk => hk.2) (.string ((qM y175 x47_1).f0))) (fun _ hk => hk.2) (.string ((qM y175 x47_1).f1))) (fun _ hk => hk.2) (.int .i64 ((qM y175 x47_1).f2.f0))) (fun _ hk => hk.2) (.int .i64 ((qM y175 x47_1).f2.f1))) (fun _ hk => hk.2) (.int .i64 ((qM y175 x47_1).f2.f2))) (fun _ hk => hk.2) (.int .i64 ((qM y175 x47_1).f2.f3))) (fun _ hk => hk.2) (.int .i64 ((qM y175 x47_1).f3))) (fun _ hk => hk.2) (.slice A178_7 ((qM y175 x47_1).f4).length c178_7)) (fun _ h_ => h_.1))) hb);have n2_:=qd.mk (qR (g:=gb128) (o:=.cells #[.int .i64 t124,.int .i64 t125,.int .i64 3,.int .i64 t127] 23 (0,0)) (by (with_reducible repeat (first|refine qx ?_ _|refine qA ?_|refine qw ?_ _));refine j5 ?_ NB128_179.out _;(with_reducible repeat (first|refine qx ?_ _|refine qA ?_|refine qw ?_ _));refine j5 ?_ NB128_179.out _;(with_reducible repeat (first|refine qx ?_ _|refine qA ?_|refine qw ?_ _));refine j5 ?_ NB128_179.out _;(with_reducible repeat (first|refine qx ?_ _|refine qA ?_|refine qw ?_ _));refine j5 ?_ NB128_179.out _;(with_reducible repeat (first|refine qx ?_ _|refine qA ?_|refine qw ?_ _));refine j5 ?_ NB128_179.out _;(with_reducible repeat (first|refine qx ?_ _|refine qA ?_|refine qw ?_ _));refine j5 ?_ NB128_179.out _;(with_reducible repeat (first|refine qx ?_ _|refine qA ?_|refine qw ?_ _));refine j5 ?_ NB128_179.out _;(with_reducible repeat (first|refine qx ?_ _|refine qA ?_|refine qw ?_ _));refine j5 ?_ NB128_179.out _;(with_reducible repeat (first|refine qx ?_ _|refine qA ?_|refine qw ?_ _));exact BK128.out) hb);have n3_:=qd.mk (Kd.xS ((Kd.ZY (by (with_reducible repeat (first|apply Kd.yG|apply Kd.yI|apply Kd.QL));exact (Kd.Qz (Kd.xQ (p:=⟨gb179,7,none⟩) (Kd.xQ (p:=⟨gb179,6,none⟩) (Kd.xQ (p:=⟨gb179,5,none⟩) (Kd.xQ (p:=⟨gb179,4,none⟩) (Kd.xQ (p:=⟨gb179,3,none⟩) (Kd.xQ (p:=⟨gb179,2,none⟩) (Kd.xQ (p:=⟨gb179,1,none⟩) (Kd.xQ (p:=⟨gb179,0,none⟩) (Kd.Qz HL178_7.out (fun k_ hk => (⟨hk,hk.2⟩ : _ ∧ k_ ≠ gb179))) (fun _ hk => hk.2) (.string ((qM y175 x47_1).f0))) (fun _ hk => hk.2) (.string ((qM y175 x47_1).f1))) (fun _ hk => hk.2) (.int .i64 ((qM y175 x47_1).f2.f0))) (fun _ hk => hk.2) (.int .i64 ((qM y175 x47_1).f2.f1))) (fun _ hk => hk.2) (.int .i64 ((qM y175 x47_1).f2.f2))) (fun _ hk => hk.2) (.int .i64 ((qM y175 x47_1).f2.f3))) (fun _ hk => hk.2) (.int .i64 ((qM y175 x47_1).f3))) (fun _ hk => hk.2) (.slice A178_7 ((qM y175 x47_1).f4).length c178_7)) (fun _ h_ => h_.1)))).2.2) hb);have n4_:=qd.mk (qR (g:=gb179) (o:=.cells #[.string ((qM y175 x47_1).f0),.string ((qM y175 x47_1).f1),.int .i64 ((qM y175 x47_1).f2.f0),.int .i64 ((qM y175 x47_1).f2.f1),.int .i64 ((qM y175 x47_1).f2.f2),.int .i64 ((qM y175 x47_1).f2.f3),.int .i64 ((qM y175 x47_1).f3),.slice A178_7 ((qM y175 x47_1).f4).length c178_7] 49 (0,0)) (by (with_reducible repeat (first|refine qx ?_ _|refine qA ?_|refine qw ?_ _));refine jh (cs:=#[.string ((qM y175 x47_1).f0),.string ((qM y175 x47_1).f1),.int .i64 ((qM y175 x47_1).f2.f0),.int .i64 ((qM y175 x47_1).f2.f1),.int .i64 ((qM y175 x47_1).f2.f2),.int .i64 ((qM y175 x47_1).f2.f3),.int .i64 ((qM y175 x47_1).f3),.slice none 0 0]) ?_ 7 _ rfl;(with_reducible repeat (first|refine qx ?_ _|refine qA ?_|refine qw ?_ _));refine jh (cs:=#[.string ((qM y175 x47_1).f0),.string ((qM y175 x47_1).f1),.int .i64 ((qM y175 x47_1).f2.f0),.int .i64 ((qM y175 x47_1).f2.f1),.int .i64 ((qM y175 x47_1).f2.f2),.int .i64 ((qM y175 x47_1).f2.f3),.int .i64 0,.slice none 0 0]) ?_ 6 _ rfl;(with_reducible repeat (first|refine qx ?_ _|refine qA ?_|refine qw ?_ _));refine jh (cs:=#[.string ((qM y175 x47_1).f0),.string ((qM y175 x47_1).f1),.int .i64 ((qM y175 x47_1).f2.f0),.int .i64 ((qM y175 x47_1).f2.f1),.int .i64 ((qM y175 x47_1).f2.f2),.int .i64 0,.int .i64 0,.slice none 0 0]) ?_ 5 _ rfl;(with_reducible repeat (first|refine qx ?_ _|refine qA ?_|refine qw ?_ _));refine jh (cs:=#[.string ((qM y175 x47_1).f0),.string ((qM y175 x47_1).f1),.int .i64 ((qM y175 x47_1).f2.f0),.int .i64 ((qM y175 x47_1).f2.f1),.int .i64 0,.int .i64 0,.int .i64 0,.slice none 0 0]) ?_ 4 _ rfl;(with_reducible repeat (first|refine qx ?_ _|refine qA ?_|refine qw ?_ _));refine jh (cs:=#[.string ((qM y175 x47_1).f0),.string ((qM y175 x47_1).f1),.int .i64 ((qM y175 x47_1).f2.f0),.int .i64 0,.int .i64 0,.int .i64 0,.int .i64 0,.slice none 0 0]) ?_ 3 _ rfl;(with_reducible repeat (first|refine qx ?_ _|refine qA ?_|refine qw ?_ _));refine jh (cs:=#[.string ((qM y175 x47_1).f0),.string ((qM y175 x47_1).f1),.int .i64 0,.int .i64 0,.int .i64 0,.int .i64 0,.int .i64 0,.slice none 0 0]) ?_ 2 _ rfl;(with_reducible repeat (first|refine qx ?_ _|refine qA ?_|refine qw ?_ _));refine jh (cs:=#[.string ((qM y175 x47_1).f0),.string (⟨#[]⟩ : ByteArray),.int .i64 0,.int .i64 0,.int .i64 0,.int .i64 0,.int .i64 0,.slice none 0 0]) ?_ 1 _ rfl;(with_reducible repeat (first|refine qx ?_ _|refine qA ?_|refine qw ?_ _));refine jh (cs:=#[.string (⟨#[]⟩ : ByteArray),.string (⟨#[]⟩ : ByteArray),.int .i64 0,.int .i64 0,.int .i64 0,.int .i64 0,.int .i64 0,.slice none 0 0]) ?_ 0 _ rfl;(with_reducible repeat (first|refine qx ?_ _|refine qA ?_|refine qw ?_ _));exact BK179.out) hb);have n5_:=qd.mk (qI (by repeat (first|(with_reducible first|exact HB.out|apply qg|apply qc|apply qf|refine qp ?_ GE128.out|refine qp ?_ GE179.out)|exact HB.out)) hb);clear HO_45;clear HL178_7;clear BK128;clear HR178_7;clear BK179;clear HB;have HO_45:=n0_;have HL178_7:=n1_;have BK128:=n2_;have HR178_7:=n3_;have BK179:=n4_;have HB:=n5_;clear n0_ n1_ n2_ n3_ n4_ n5_;(try clear hb);(try clear hb2);(try clear hk);(try clear hi);have hcz65_0 : w64.cell? ⟨gb179,0,none⟩ = some (.string ((qM y175 x47_1).f0)):=(qi BK179.out 0).trans rfl;have hcz65_1 : w64.cell? ⟨gb179,1,none⟩ = some (.string ((qM y175 x47_1).f1)):=(qi BK179.out 1).trans rfl;have hcz65_2 : w64.cell? ⟨gb179,2,none⟩ = some (.int .i64 ((qM y175 x47_1).f2.f0)):=(qi BK179.out 2).trans rfl;have hcz65_3 : w64.cell? ⟨gb179,3,none⟩ = some (.int .i64 ((qM y175 x47_1).f2.f1)):=(qi BK179.out 3).trans rfl;have hcz65_4 : w64.cell? ⟨gb179,4,none⟩ = some (.int .i64 ((qM y175 x47_1).f2.f2)):=(qi BK179.out 4).trans rfl;have hcz65_5 : w64.cell? ⟨gb179,5,none⟩ = some (.int .i64 ((qM y175 x47_1).f2.f3)):=(qi BK179.out 5).trans rfl;have hcz65_6 : w64.cell? ⟨gb179,6,none⟩ = some (.int .i64 ((qM y175 x47_1).f3)):=(qi BK179.out 6).trans rfl;have hcz65_7 : w64.cell? ⟨gb179,7,none⟩ = some (.slice A178_7 ((qM y175 x47_1).f4).length c178_7):=(qi BK179.out 7).trans rfl;have hfz65_0:=ql BK179.out 0;have hfz65_1:=ql BK179.out 1;have hfz65_2:=ql BK179.out 2;have hfz65_3:=ql BK179.out 3;have hfz65_4:=ql BK179.out 4;have hfz65_5:=ql BK179.out 5;have hfz65_6:=ql BK179.out 6;have hfz65_7:=ql BK179.out 7)|((with_reducible refine qZ (f:=14) rfl ?_);refine jL (some 68) rfl rfl Try.func14 (by kernel_rfl) rfl #[.string ((qM y175 x47_1).f0),.string ((qM y175 x47_1).f1),.agg #[.int .i64 ((qM y175 x47_1).f2.f0),.int .i64 ((qM y175 x47_1).f2.f1),.int .i64 ((qM y175 x47_1).f2.f2),.int .i64 ((qM y175 x47_1).f2.f3)]] rfl (by (try simp only [List.map_toArray,List.map_cons,List.map_nil]);first|done|rfl|(simp only [List.length_drop,List.length_take];rfl)) ?_;(with_reducible refine (zI.calls ((qM y175 x47_1).f0) ((qM y175 x47_1).f1) ((qM y175 x47_1).f2.f0) ((qM y175 x47_1).f2.f1) ((qM y175 x47_1).f2.f2) ((qM y175 x47_1).f2.f3) t182 t185 t186 _ A54.out).mono ?_);rintro e w66 ⟨v183,rfl,ho0,hb⟩;refine ⟨_,rfl,?_⟩;have n0_:=qd.mk (Kd.xx (by (with_reducible repeat (first|apply Kd.zb|apply Kd.ze|apply Kd.zD));exact HO_45.out) (Kd.jd ho0) hb);have n1_:=qd.mk (Kd.Z9 (by (with_reducible repeat (first|apply Kd.yG|apply Kd.yI|apply Kd.QL));exact HL178_7.out) (Kd.jd ho0) hb);have n2_:=qd.mk (Kd.jS ho0 (qH (by repeat (first|(with_reducible first|exact HB.out|apply qg|apply qc|apply qf|refine qp ?_ GE128.out|refine qp ?_ GE179.out)|exact HB.out))));have n3_:=qd.mk (qR (g:=gb128) (o:=.cells #[.int .i64 t124,.int .i64 t125,.int .i64 3,.int .i64 t127] 23 (0,0)) (by (with_reducible repeat (first|refine qx ?_ _|refine qA ?_|refine qw ?_ _));exact BK128.out) hb);have n4_:=qd.mk (Kd.xS (by repeat (first|(with_reducible exact HR178_7.out)|(with_reducible refine Kd.jP ?_ _)|(with_reducible refine Kd.jQ ?_ _)|(with_reducible refine Kd.zh ?_)|exact HR178_7.out)) hb);have n5_:=qd.mk (qR (g:=gb179) (o:=.cells #[.string ((qM y175 x47_1).f0),.string ((qM y175 x47_1).f1),.int .i64 ((qM y175 x47_1).f2.f0),.int .i64 ((qM y175 x47_1).f2.f1),.int .i64 ((qM y175 x47_1).f2.f2),.int .i64 ((qM y175 x47_1).f2.f3),.int .i64 ((qM y175 x47_1).f3),.slice A178_7 ((qM y175 x47_1).f4).length c178_7] 49 (0,0)) (by (with_reducible repeat (first|refine qx ?_ _|refine qA ?_|refine qw ?_ _));exact BK179.out) hb);have n6_:=qd.mk (qI (by repeat (first|(with_reducible first|exact HB.out|apply qg|apply qc|apply qf|refine qp ?_ GE128.out|refine qp ?_ GE179.out)|exact HB.out)) hb);clear HO_45;clear HL178_7;clear BK128;clear HR178_7;clear BK179;clear HB;have HO_45:=n0_;have HL178_7:=n1_;have HO184:=n2_;have BK128:=n3_;have HR178_7:=n4_;have BK179:=n5_;have HB:=n6_;clear n0_ n1_ n2_ n3_ n4_ n5_ n6_;(try clear hb);(try clear hb2);(try clear hk);(try clear hi);(try clear ho0);have hcz67_0 : w66.cell? ⟨gb179,0,none⟩ = some (.string ((qM y175 x47_1).f0)):=(qi BK179.out 0).trans rfl;have hcz67_1 : w66.cell? ⟨gb179,1,none⟩ = some (.string ((qM y175 x47_1).f1)):=(qi BK179.out 1).trans rfl;have hcz67_2 : w66.cell? ⟨gb179,2,none⟩ = some (.int .i64 ((qM y175 x47_1).f2.f0)):=(qi BK179.out 2).trans rfl;have hcz67_3 : w66.cell? ⟨gb179,3,none⟩ = some (.int .i64 ((qM y175 x47_1).f2.f1)):=(qi BK179.out 3).trans rfl;have hcz67_4 : w66.cell? ⟨gb179,4,none⟩ = some (.int .i64 ((qM y175 x47_1).f2.f2)):=(qi BK179.out 4).trans rfl;have hcz67_5 : w66.cell? ⟨gb179,5,none⟩ = some (.int .i64 ((qM y175 x47_1).f2.f3)):=(qi BK179.out 5).trans rfl;have hcz67_6 : w66.cell? ⟨gb179,6,none⟩ = some (.int .i64 ((qM y175 x47_1).f3)):=(qi BK179.out 6).trans rfl;have hcz67_7 : w66.cell? ⟨gb179,7,none⟩ = some (.slice A178_7 ((qM y175 x47_1).f4).length c178_7):=(qi BK179.out 7).trans rfl;have hfz67_0:=ql BK179.out 0;have hfz67_1:=ql BK179.out 1;have hfz67_2:=ql BK179.out 2;have hfz67_3:=ql BK179.out 3;have hfz67_4:=ql BK179.out 4;have hfz67_5:=ql BK179.out 5;have hfz67_6:=ql BK179.out 6;have hfz67_7:=ql BK179.out 7;obtain ⟨Ao68,co68,eo68⟩:=Kd.jk HO184.out;subst eo68)|(go_at_call 21;(with_reducible refine (qV.calls k1 _ _ t182 _ _ ((qM y175 x47_1).f4) true _ ?side1 ?side2 ?side3 ?side4 A59.out).mono ?_);(case side1 => repeat (first|exact (Kd.je HO184.out).2.2|(with_reducible refine Kd.jP ?_ _)|(with_reducible refine Kd.jQ ?_ _)|(with_reducible refine Kd.zh ?_)));(case side2 => exact (Kd.je HO184.out).2.1);(case side3 => repeat (first|exact (by repeat (first|(with_reducible exact HR178_7.out)|(with_reducible refine Kd.jP ?_ _)|(with_reducible refine Kd.jQ ?_ _)|(with_reducible refine Kd.zh ?_)|exact HR178_7.out))|(with_reducible refine Kd.jP ?_ _)|(with_reducible refine Kd.jQ ?_ _)|(with_reducible refine Kd.zh ?_)));(case side4 => exact HC178_7.out);rintro e w' ⟨rfl,⟨nd,rfl⟩⟩))
           go_roundg k1
           case measure => have:=HK1.out;omega
           case rel => exact ⟨(wrap64 (x47_1 + 1)),(by first|rfl|(simp;done)|(simp [*];done)),H',⟨by have:=HK1.out;omega⟩,⟨by (with_reducible repeat (first|apply Kd.zb|apply Kd.ze|apply Kd.zD));exact Kd.kD HO_45.out (fun _ hk => hk.1.1)⟩,⟨by (with_reducible repeat (first|refine qx ?_ _|refine qA ?_|refine qw ?_ _));exact BK128.out⟩,⟨by repeat (first|(with_reducible first|exact HB.out|apply qg|apply qc|apply qf|refine qp ?_ GE128.out|refine qp ?_ GE179.out)|exact HB.out)⟩⟩
          ·replace c60:=Bool.eq_false_iff.mpr c60
           subst c60
           have H1 : (some false) = some r:=by rw [if_neg (show ¬ (false = true) by decide)] at H;exact H
           clear H
           have H:=H1
           clear H1
           exact absurd (H.trans (congrArg some hr)) (by simp)
         ·rw [if_neg c58] at H
          have c58b0 : (t186 == 0) = false:=beq_eq_false_iff_ne.mpr c58
          have c58b1 : (t186 != 0) = true:=bne_iff_ne.mpr c58
          exact absurd (H.trans (congrArg some hr)) (by simp)
        ·rw [if_neg c57] at H
         have c57b0 : (t185 == ((qM y175 x47_1).f3)) = false:=beq_eq_false_iff_ne.mpr c57
         have c57b1 : (t185 != ((qM y175 x47_1).f3)) = true:=bne_iff_ne.mpr c57
         exact absurd (H.trans (congrArg some hr)) (by simp)
       ·rw [if_neg c56] at H
        have c56b0 : (t181 == 0) = false:=beq_eq_false_iff_ne.mpr c56
        have c56b1 : (t181 != 0) = true:=bne_iff_ne.mpr c56
        exact absurd (H.trans (congrArg some hr)) (by simp)
      ·rw [if_neg c55] at H
       have c55b0 : (t180 == ((qM y175 x47_1).f3)) = false:=beq_eq_false_iff_ne.mpr c55
       have c55b1 : (t180 != ((qM y175 x47_1).f3)) = true:=bne_iff_ne.mpr c55
       exact absurd (H.trans (congrArg some hr)) (by simp)
     ·rw [if_neg c52] at H
      exact absurd H (by simp)
    ·rw [if_neg c51] at H
     exact absurd H (by simp)
   ·rw [if_neg c50] at H
    have c50b0 : decide (x47_1 < (y175.length : Int)) = false:=decide_eq_false c50
    clear c50
    replace H:=Option.bind_eq_some_iff.mp H
    obtain ⟨⟨t188,t189,t190,t191⟩,A1050,H⟩:=H
    replace H : ((jE.f (⟨#[77,65,73,78]⟩ : ByteArray) (⟨#[77,73,78,69]⟩ : ByteArray) t188 t189 t190 t191 1).bind fun bt192 => ((qK.f).bind fun bt195 => ((jE.f (⟨#[77,65,73,78]⟩ : ByteArray) (⟨#[77,73,78,69]⟩ : ByteArray) bt195.1 bt195.2.1 bt195.2.2.1 bt195.2.2.2 2).bind fun bt199 => ((qo.f (⟨#[]⟩ : ByteArray) (([3] : List Int))).bind fun t205 => ((qB.f k1 (⟨#[65,66]⟩ : ByteArray) t205).bind fun bt208 => ((qo.f (⟨#[]⟩ : ByteArray) (([3] : List Int))).bind fun t213 => ((qB.f k1 (⟨#[65,65]⟩ : ByteArray) t213).bind fun bt216 => ((qo.f (⟨#[]⟩ : ByteArray) (([1] : List Int))).bind fun t221 => ((qB.f k1 (⟨#[65,66]⟩ : ByteArray) t221).bind fun bt224 => ((qo.f (⟨#[65]⟩ : ByteArray) (([2] : List Int))).bind fun t229 => ((qB.f k1 (⟨#[65]⟩ : ByteArray) t229).bind fun bt232 => (if bt192.1 = 0 then (if bt192.2.1 = true then (some false) else (if bt192.2.2 = 0 then (if bt199.1 = 2 then (if bt199.2.1 = true then (if bt199.2.2 = 0 then (if bt208.1.toList = ([66,65] : List UInt8) then (if bt208.2 = 0 then (if bt216.2 = 60 then (if bt224.2 = 60 then (some (bt232.2 == 60)) else (some false)) else (some false)) else (some false)) else (some false)) else (some false)) else (some false)) else (some false)) else (some false))) else (some false))))))))))))) = some r:=H
    have A105:=qd.mk A1050
    clear A1050
    replace H:=Option.bind_eq_some_iff.mp H
    obtain ⟨⟨t192,t193,t194⟩,A1060,H⟩:=H
    replace H : ((qK.f).bind fun bt195 => ((jE.f (⟨#[77,65,73,78]⟩ : ByteArray) (⟨#[77,73,78,69]⟩ : ByteArray) bt195.1 bt195.2.1 bt195.2.2.1 bt195.2.2.2 2).bind fun bt199 => ((qo.f (⟨#[]⟩ : ByteArray) (([3] : List Int))).bind fun t205 => ((qB.f k1 (⟨#[65,66]⟩ : ByteArray) t205).bind fun bt208 => ((qo.f (⟨#[]⟩ : ByteArray) (([3] : List Int))).bind fun t213 => ((qB.f k1 (⟨#[65,65]⟩ : ByteArray) t213).bind fun bt216 => ((qo.f (⟨#[]⟩ : ByteArray) (([1] : List Int))).bind fun t221 => ((qB.f k1 (⟨#[65,66]⟩ : ByteArray) t221).bind fun bt224 => ((qo.f (⟨#[65]⟩ : ByteArray) (([2] : List Int))).bind fun t229 => ((qB.f k1 (⟨#[65]⟩ : ByteArray) t229).bind fun bt232 => (if t192 = 0 then (if t193 = true then (some false) else (if t194 = 0 then (if bt199.1 = 2 then (if bt199.2.1 = true then (if bt199.2.2 = 0 then (if bt208.1.toList = ([66,65] : List UInt8) then (if bt208.2 = 0 then (if bt216.2 = 60 then (if bt224.2 = 60 then (some (bt232.2 == 60)) else (some false)) else (some false)) else (some false)) else (some false)) else (some false)) else (some false)) else (some false)) else (some false))) else (some false)))))))))))) = some r:=H
    have A106:=qd.mk A1060
    clear A1060
    replace H:=Option.bind_eq_some_iff.mp H
    obtain ⟨⟨t195,t196,t197,t198⟩,A1070,H⟩:=H
    replace H : ((jE.f (⟨#[77,65,73,78]⟩ : ByteArray) (⟨#[77,73,78,69]⟩ : ByteArray) t195 t196 t197 t198 2).bind fun bt199 => ((qo.f (⟨#[]⟩ : ByteArray) (([3] : List Int))).bind fun t205 => ((qB.f k1 (⟨#[65,66]⟩ : ByteArray) t205).bind fun bt208 => ((qo.f (⟨#[]⟩ : ByteArray) (([3] : List Int))).bind fun t213 => ((qB.f k1 (⟨#[65,65]⟩ : ByteArray) t213).bind fun bt216 => ((qo.f (⟨#[]⟩ : ByteArray) (([1] : List Int))).bind fun t221 => ((qB.f k1 (⟨#[65,66]⟩ : ByteArray) t221).bind fun bt224 => ((qo.f (⟨#[65]⟩ : ByteArray) (([2] : List Int))).bind fun t229 => ((qB.f k1 (⟨#[65]⟩ : ByteArray) t229).bind fun bt232 => (if t192 = 0 then (if t193 = true then (some false) else (if t194 = 0 then (if bt199.1 = 2 then (if bt199.2.1 = true then (if bt199.2.2 = 0 then (if bt208.1.toList = ([66,65] : List UInt8) then (if bt208.2 = 0 then (if bt216.2 = 60 then (if bt224.2 = 60 then (some (bt232.2 == 60)) else (some false)) else (some false)) else (some false)) else (some false)) else (some false)) else (some false)) else (some false)) else (some false))) else (some false))))))))))) = some r:=H
    have A107:=qd.mk A1070
    clear A1070
    replace H:=Option.bind_eq_some_iff.mp H
    obtain ⟨⟨t199,t200,t201⟩,A1080,H⟩:=H
    replace H : ((qo.f (⟨#[]⟩ : ByteArray) (([3] : List Int))).bind fun t205 => ((qB.f k1 (⟨#[65,66]⟩ : ByteArray) t205).bind fun bt208 => ((qo.f (⟨#[]⟩ : ByteArray) (([3] : List Int))).bind fun t213 => ((qB.f k1 (⟨#[65,65]⟩ : ByteArray) t213).bind fun bt216 => ((qo.f (⟨#[]⟩ : ByteArray) (([1] : List Int))).bind fun t221 => ((qB.f k1 (⟨#[65,66]⟩ : ByteArray) t221).bind fun bt224 => ((qo.f (⟨#[65]⟩ : ByteArray) (([2] : List Int))).bind fun t229 => ((qB.f k1 (⟨#[65]⟩ : ByteArray) t229).bind fun bt232 => (if t192 = 0 then (if t193 = true then (some false) else (if t194 = 0 then (if t199 = 2 then (if t200 = true then (if t201 = 0 then (if bt208.1.toList = ([66,65] : List UInt8) then (if bt208.2 = 0 then (if bt216.2 = 60 then (if bt224.2 = 60 then (some (bt232.2 == 60)) else (some false)) else (some false)) else (some false)) else (some false)) else (some false)) else (some false)) else (some false)) else (some false))) else (some false)))))))))) = some r:=H
    have A108:=qd.mk A1080
    clear A1080
    obtain ⟨y202,hy202⟩ : ∃ y_ : List Int,y_ = (([3] : List Int)):=⟨_,rfl⟩
    replace H : ((qo.f (⟨#[]⟩ : ByteArray) y202).bind fun t205 => ((qB.f k1 (⟨#[65,66]⟩ : ByteArray) t205).bind fun bt208 => ((qo.f (⟨#[]⟩ : ByteArray) (([3] : List Int))).bind fun t213 => ((qB.f k1 (⟨#[65,65]⟩ : ByteArray) t213).bind fun bt216 => ((qo.f (⟨#[]⟩ : ByteArray) (([1] : List Int))).bind fun t221 => ((qB.f k1 (⟨#[65,66]⟩ : ByteArray) t221).bind fun bt224 => ((qo.f (⟨#[65]⟩ : ByteArray) (([2] : List Int))).bind fun t229 => ((qB.f k1 (⟨#[65]⟩ : ByteArray) t229).bind fun bt232 => (if t192 = 0 then (if t193 = true then (some false) else (if t194 = 0 then (if t199 = 2 then (if t200 = true then (if t201 = 0 then (if bt208.1.toList = ([66,65] : List UInt8) then (if bt208.2 = 0 then (if bt216.2 = 60 then (if bt224.2 = 60 then (some (bt232.2 == 60)) else (some false)) else (some false)) else (some false)) else (some false)) else (some false)) else (some false)) else (some false)) else (some false))) else (some false)))))))))) = some r:=by first|(rw [hy202];with_reducible exact H)|(have H2_:=(Option.bind_some _ _).symm.trans H;rw [hy202];with_reducible exact H2_)|(have H2_:=(Option.bind_some _ _).symm.trans H;with_reducible exact H2_)|with_reducible exact H|(rw [hy202];exact H)|exact H
    have Ny202:=qd.mk hy202
    clear hy202
    replace H:=Option.bind_eq_some_iff.mp H
    obtain ⟨t205,A1090,H⟩:=H
    replace H : ((qB.f k1 (⟨#[65,66]⟩ : ByteArray) t205).bind fun bt208 => ((qo.f (⟨#[]⟩ : ByteArray) (([3] : List Int))).bind fun t213 => ((qB.f k1 (⟨#[65,65]⟩ : ByteArray) t213).bind fun bt216 => ((qo.f (⟨#[]⟩ : ByteArray) (([1] : List Int))).bind fun t221 => ((qB.f k1 (⟨#[65,66]⟩ : ByteArray) t221).bind fun bt224 => ((qo.f (⟨#[65]⟩ : ByteArray) (([2] : List Int))).bind fun t229 => ((qB.f k1 (⟨#[65]⟩ : ByteArray) t229).bind fun bt232 => (if t192 = 0 then (if t193 = true then (some false) else (if t194 = 0 then (if t199 = 2 then (if t200 = true then (if t201 = 0 then (if bt208.1.toList = ([66,65] : List UInt8) then (if bt208.2 = 0 then (if bt216.2 = 60 then (if bt224.2 = 60 then (some (bt232.2 == 60)) else (some false)) else (some false)) else (some false)) else (some false)) else (some false)) else (some false)) else (some false)) else (some false))) else (some false))))))))) = some r:=H
    have A109:=qd.mk A1090
    clear A1090
    replace H:=Option.bind_eq_some_iff.mp H
    obtain ⟨⟨t208,t209⟩,A1100,H⟩:=H
    replace H : ((qo.f (⟨#[]⟩ : ByteArray) (([3] : List Int))).bind fun t213 => ((qB.f k1 (⟨#[65,65]⟩ : ByteArray) t213).bind fun bt216 => ((qo.f (⟨#[]⟩ : ByteArray) (([1] : List Int))).bind fun t221 => ((qB.f k1 (⟨#[65,66]⟩ : ByteArray) t221).bind fun bt224 => ((qo.f (⟨#[65]⟩ : ByteArray) (([2] : List Int))).bind fun t229 => ((qB.f k1 (⟨#[65]⟩ : ByteArray) t229).bind fun bt232 => (if t192 = 0 then (if t193 = true then (some false) else (if t194 = 0 then (if t199 = 2 then (if t200 = true then (if t201 = 0 then (if t208.toList = ([66,65] : List UInt8) then (if t209 = 0 then (if bt216.2 = 60 then (if bt224.2 = 60 then (some (bt232.2 == 60)) else (some false)) else (some false)) else (some false)) else (some false)) else (some false)) else (some false)) else (some false)) else (some false))) else (some false)))))))) = some r:=H
    have A110:=qd.mk A1100
    clear A1100
    obtain ⟨y210,hy210⟩ : ∃ y_ : List Int,y_ = (([3] : List Int)):=⟨_,rfl⟩
    replace H : ((qo.f (⟨#[]⟩ : ByteArray) y210).bind fun t213 => ((qB.f k1 (⟨#[65,65]⟩ : ByteArray) t213).bind fun bt216 => ((qo.f (⟨#[]⟩ : ByteArray) (([1] : List Int))).bind fun t221 => ((qB.f k1 (⟨#[65,66]⟩ : ByteArray) t221).bind fun bt224 => ((qo.f (⟨#[65]⟩ : ByteArray) (([2] : List Int))).bind fun t229 => ((qB.f k1 (⟨#[65]⟩ : ByteArray) t229).bind fun bt232 => (if t192 = 0 then (if t193 = true then (some false) else (if t194 = 0 then (if t199 = 2 then (if t200 = true then (if t201 = 0 then (if t208.toList = ([66,65] : List UInt8) then (if t209 = 0 then (if bt216.2 = 60 then (if bt224.2 = 60 then (some (bt232.2 == 60)) else (some false)) else (some false)) else (some false)) else (some false)) else (some false)) else (some false)) else (some false)) else (some false))) else (some false)))))))) = some r:=by first|(rw [hy210];with_reducible exact H)|(have H2_:=(Option.bind_some _ _).symm.trans H;rw [hy210];with_reducible exact H2_)|(have H2_:=(Option.bind_some _ _).symm.trans H;with_reducible exact H2_)|with_reducible exact H|(rw [hy210];exact H)|exact H
    have Ny210:=qd.mk hy210
    clear hy210
    replace H:=Option.bind_eq_some_iff.mp H
    obtain ⟨t213,A1110,H⟩:=H
    replace H : ((qB.f k1 (⟨#[65,65]⟩ : ByteArray) t213).bind fun bt216 => ((qo.f (⟨#[]⟩ : ByteArray) (([1] : List Int))).bind fun t221 => ((qB.f k1 (⟨#[65,66]⟩ : ByteArray) t221).bind fun bt224 => ((qo.f (⟨#[65]⟩ : ByteArray) (([2] : List Int))).bind fun t229 => ((qB.f k1 (⟨#[65]⟩ : ByteArray) t229).bind fun bt232 => (if t192 = 0 then (if t193 = true then (some false) else (if t194 = 0 then (if t199 = 2 then (if t200 = true then (if t201 = 0 then (if t208.toList = ([66,65] : List UInt8) then (if t209 = 0 then (if bt216.2 = 60 then (if bt224.2 = 60 then (some (bt232.2 == 60)) else (some false)) else (some false)) else (some false)) else (some false)) else (some false)) else (some false)) else (some false)) else (some false))) else (some false))))))) = some r:=H
    have A111:=qd.mk A1110
    clear A1110
    replace H:=Option.bind_eq_some_iff.mp H
    obtain ⟨⟨t216,t217⟩,A1120,H⟩:=H
    replace H : ((qo.f (⟨#[]⟩ : ByteArray) (([1] : List Int))).bind fun t221 => ((qB.f k1 (⟨#[65,66]⟩ : ByteArray) t221).bind fun bt224 => ((qo.f (⟨#[65]⟩ : ByteArray) (([2] : List Int))).bind fun t229 => ((qB.f k1 (⟨#[65]⟩ : ByteArray) t229).bind fun bt232 => (if t192 = 0 then (if t193 = true then (some false) else (if t194 = 0 then (if t199 = 2 then (if t200 = true then (if t201 = 0 then (if t208.toList = ([66,65] : List UInt8) then (if t209 = 0 then (if t217 = 60 then (if bt224.2 = 60 then (some (bt232.2 == 60)) else (some false)) else (some false)) else (some false)) else (some false)) else (some false)) else (some false)) else (some false)) else (some false))) else (some false)))))) = some r:=H
    have A112:=qd.mk A1120
    clear A1120
    obtain ⟨y218,hy218⟩ : ∃ y_ : List Int,y_ = (([1] : List Int)):=⟨_,rfl⟩
    replace H : ((qo.f (⟨#[]⟩ : ByteArray) y218).bind fun t221 => ((qB.f k1 (⟨#[65,66]⟩ : ByteArray) t221).bind fun bt224 => ((qo.f (⟨#[65]⟩ : ByteArray) (([2] : List Int))).bind fun t229 => ((qB.f k1 (⟨#[65]⟩ : ByteArray) t229).bind fun bt232 => (if t192 = 0 then (if t193 = true then (some false) else (if t194 = 0 then (if t199 = 2 then (if t200 = true then (if t201 = 0 then (if t208.toList = ([66,65] : List UInt8) then (if t209 = 0 then (if t217 = 60 then (if bt224.2 = 60 then (some (bt232.2 == 60)) else (some false)) else (some false)) else (some false)) else (some false)) else (some false)) else (some false)) else (some false)) else (some false))) else (some false)))))) = some r:=by first|(rw [hy218];with_reducible exact H)|(have H2_:=(Option.bind_some _ _).symm.trans H;rw [hy218];with_reducible exact H2_)|(have H2_:=(Option.bind_some _ _).symm.trans H;with_reducible exact H2_)|with_reducible exact H|(rw [hy218];exact H)|exact H
    have Ny218:=qd.mk hy218
    clear hy218
    replace H:=Option.bind_eq_some_iff.mp H
    obtain ⟨t221,A1130,H⟩:=H
    replace H : ((qB.f k1 (⟨#[65,66]⟩ : ByteArray) t221).bind fun bt224 => ((qo.f (⟨#[65]⟩ : ByteArray) (([2] : List Int))).bind fun t229 => ((qB.f k1 (⟨#[65]⟩ : ByteArray) t229).bind fun bt232 => (if t192 = 0 then (if t193 = true then (some false) else (if t194 = 0 then (if t199 = 2 then (if t200 = true then (if t201 = 0 then (if t208.toList = ([66,65] : List UInt8) then (if t209 = 0 then (if t217 = 60 then (if bt224.2 = 60 then (some (bt232.2 == 60)) else (some false)) else (some false)) else (some false)) else (some false)) else (some false)) else (some false)) else (some false)) else (some false))) else (some false))))) = some r:=H
    have A113:=qd.mk A1130
    clear A1130
    replace H:=Option.bind_eq_some_iff.mp H
    obtain ⟨⟨t224,t225⟩,A1140,H⟩:=H
    replace H : ((qo.f (⟨#[65]⟩ : ByteArray) (([2] : List Int))).bind fun t229 => ((qB.f k1 (⟨#[65]⟩ : ByteArray) t229).bind fun bt232 => (if t192 = 0 then (if t193 = true then (some false) else (if t194 = 0 then (if t199 = 2 then (if t200 = true then (if t201 = 0 then (if t208.toList = ([66,65] : List UInt8) then (if t209 = 0 then (if t217 = 60 then (if t225 = 60 then (some (bt232.2 == 60)) else (some false)) else (some false)) else (some false)) else (some false)) else (some false)) else (some false)) else (some false)) else (some false))) else (some false)))) = some r:=H
    have A114:=qd.mk A1140
    clear A1140
    obtain ⟨y226,hy226⟩ : ∃ y_ : List Int,y_ = (([2] : List Int)):=⟨_,rfl⟩
    replace H : ((qo.f (⟨#[65]⟩ : ByteArray) y226).bind fun t229 => ((qB.f k1 (⟨#[65]⟩ : ByteArray) t229).bind fun bt232 => (if t192 = 0 then (if t193 = true then (some false) else (if t194 = 0 then (if t199 = 2 then (if t200 = true then (if t201 = 0 then (if t208.toList = ([66,65] : List UInt8) then (if t209 = 0 then (if t217 = 60 then (if t225 = 60 then (some (bt232.2 == 60)) else (some false)) else (some false)) else (some false)) else (some false)) else (some false)) else (some false)) else (some false)) else (some false))) else (some false)))) = some r:=by first|(rw [hy226];with_reducible exact H)|(have H2_:=(Option.bind_some _ _).symm.trans H;rw [hy226];with_reducible exact H2_)|(have H2_:=(Option.bind_some _ _).symm.trans H;with_reducible exact H2_)|with_reducible exact H|(rw [hy226];exact H)|exact H
    have Ny226:=qd.mk hy226
    clear hy226
    replace H:=Option.bind_eq_some_iff.mp H
    obtain ⟨t229,A1150,H⟩:=H
    replace H : ((qB.f k1 (⟨#[65]⟩ : ByteArray) t229).bind fun bt232 => (if t192 = 0 then (if t193 = true then (some false) else (if t194 = 0 then (if t199 = 2 then (if t200 = true then (if t201 = 0 then (if t208.toList = ([66,65] : List UInt8) then (if t209 = 0 then (if t217 = 60 then (if t225 = 60 then (some (bt232.2 == 60)) else (some false)) else (some false)) else (some false)) else (some false)) else (some false)) else (some false)) else (some false)) else (some false))) else (some false))) = some r:=H
    have A115:=qd.mk A1150
    clear A1150
    replace H:=Option.bind_eq_some_iff.mp H
    obtain ⟨⟨t232,t233⟩,A1160,H⟩:=H
    replace H : (if t192 = 0 then (if t193 = true then (some false) else (if t194 = 0 then (if t199 = 2 then (if t200 = true then (if t201 = 0 then (if t208.toList = ([66,65] : List UInt8) then (if t209 = 0 then (if t217 = 60 then (if t225 = 60 then (some (t233 == 60)) else (some false)) else (some false)) else (some false)) else (some false)) else (some false)) else (some false)) else (some false)) else (some false))) else (some false)) = some r:=H
    have A116:=qd.mk A1160
    clear A1160
    by_cases c117 : t192 = 0
    ·rw [if_pos c117] at H
     have c117b0 : (t192 == 0) = true:=beq_iff_eq.mpr c117
     have c117b1 : (t192 != 0) = false:=bne_eq_false_iff_eq.mpr c117
     clear c117
     by_cases c118 : t193 = true
     ·subst c118
      have H1 : (some false) = some r:=by rw [if_pos rfl] at H;exact H
      clear H
      have H:=H1
      clear H1
      exact absurd (H.trans (congrArg some hr)) (by simp)
     ·replace c118:=Bool.eq_false_iff.mpr c118
      subst c118
      have H1 : (if t194 = 0 then (if t199 = 2 then (if t200 = true then (if t201 = 0 then (if t208.toList = ([66,65] : List UInt8) then (if t209 = 0 then (if t217 = 60 then (if t225 = 60 then (some (t233 == 60)) else (some false)) else (some false)) else (some false)) else (some false)) else (some false)) else (some false)) else (some false)) else (some false)) = some r:=by rw [if_neg (show ¬ (false = true) by decide)] at H;exact H
      clear H
      have H:=H1
      clear H1
      by_cases c147 : t194 = 0
      ·rw [if_pos c147] at H
       have c147b0 : (t194 == 0) = true:=beq_iff_eq.mpr c147
       have c147b1 : (t194 != 0) = false:=bne_eq_false_iff_eq.mpr c147
       clear c147
       by_cases c148 : t199 = 2
       ·rw [if_pos c148] at H
        have c148b0 : (t199 == 2) = true:=beq_iff_eq.mpr c148
        have c148b1 : (t199 != 2) = false:=bne_eq_false_iff_eq.mpr c148
        clear c148
        by_cases c149 : t200 = true
        ·subst c149
         have H1 : (if t201 = 0 then (if t208.toList = ([66,65] : List UInt8) then (if t209 = 0 then (if t217 = 60 then (if t225 = 60 then (some (t233 == 60)) else (some false)) else (some false)) else (some false)) else (some false)) else (some false)) = some r:=by rw [if_pos rfl] at H;exact H
         clear H
         have H:=H1
         clear H1
         by_cases c150 : t201 = 0
         ·rw [if_pos c150] at H
          have c150b0 : (t201 == 0) = true:=beq_iff_eq.mpr c150
          have c150b1 : (t201 != 0) = false:=bne_eq_false_iff_eq.mpr c150
          clear c150
          by_cases c151 : t208.toList = ([66,65] : List UInt8)
          ·rw [if_pos c151] at H
           have c151b0 : (t208.toList == ([66,65] : List UInt8)) = true:=beq_iff_eq.mpr c151
           have c151b1 : (t208.toList != ([66,65] : List UInt8)) = false:=bne_eq_false_iff_eq.mpr c151
           clear c151
           by_cases c152 : t209 = 0
           ·rw [if_pos c152] at H
            have c152b0 : (t209 == 0) = true:=beq_iff_eq.mpr c152
            have c152b1 : (t209 != 0) = false:=bne_eq_false_iff_eq.mpr c152
            clear c152
            by_cases c153 : t217 = 60
            ·rw [if_pos c153] at H
             have c153b0 : (t217 == 60) = true:=beq_iff_eq.mpr c153
             have c153b1 : (t217 != 60) = false:=bne_eq_false_iff_eq.mpr c153
             clear c153
             by_cases c154 : t225 = 60
             ·rw [if_pos c154] at H
              have c154b0 : (t225 == 60) = true:=beq_iff_eq.mpr c154
              have c154b1 : (t225 != 60) = false:=bne_eq_false_iff_eq.mpr c154
              clear c154
              obtain rfl:=Option.some.inj H
              go_wp2_with (first|((with_reducible refine qZ (f:=15) rfl ?_);refine jL (some 99) rfl rfl Try.func15 (by kernel_rfl) rfl #[] rfl (by (try simp only [List.map_toArray,List.map_cons,List.map_nil]);first|done|rfl|(simp only [List.length_drop,List.length_take];rfl)) ?_;(with_reducible refine (qK.calls  t188 t189 t190 t191 _ A105.out).mono ?_);rintro e w155 ⟨rfl,hb⟩;refine ⟨_,rfl,?_⟩;have n0_:=qd.mk (Kd.zX (by (with_reducible repeat (first|apply Kd.zb|apply Kd.ze|apply Kd.zD));exact HO_45.out) hb);have n1_:=qd.mk (qR (g:=gb128) (o:=.cells #[.int .i64 t124,.int .i64 t125,.int .i64 3,.int .i64 t127] 23 (0,0)) (by (with_reducible repeat (first|refine qx ?_ _|refine qA ?_|refine qw ?_ _));exact BK128.out) hb);have n2_:=qd.mk (qI (by repeat (first|(with_reducible first|exact HB.out|apply qg|apply qc|apply qf|refine qp ?_ GE128.out)|exact HB.out)) hb);clear HO_45;clear BK128;clear HB;have HO_45:=n0_;have BK128:=n1_;have HB:=n2_;clear n0_ n1_ n2_;(try clear hb);(try clear hb2);(try clear hk);(try clear hi))|((with_reducible refine qZ (f:=19) rfl ?_);refine jL (some 100) rfl rfl Try.func19 (by kernel_rfl) rfl #[.string (⟨#[77,65,73,78]⟩ : ByteArray),.string (⟨#[77,73,78,69]⟩ : ByteArray),.agg #[.int .i64 t188,.int .i64 t189,.int .i64 t190,.int .i64 t191],.int .i64 1] rfl (by (try simp only [List.map_toArray,List.map_cons,List.map_nil]);first|done|rfl|(simp only [List.length_drop,List.length_take];rfl)) ?_;(with_reducible refine (jE.calls (⟨#[77,65,73,78]⟩ : ByteArray) (⟨#[77,73,78,69]⟩ : ByteArray) t188 t189 t190 t191 1 t192 false t194 _ A106.out).mono ?_);rintro e w156 ⟨rfl,hb⟩;refine ⟨_,rfl,?_⟩;have n0_:=qd.mk (Kd.zX (by (with_reducible repeat (first|apply Kd.zb|apply Kd.ze|apply Kd.zD));exact HO_45.out) hb);have n1_:=qd.mk (qR (g:=gb128) (o:=.cells #[.int .i64 t124,.int .i64 t125,.int .i64 3,.int .i64 t127] 23 (0,0)) (by (with_reducible repeat (first|refine qx ?_ _|refine qA ?_|refine qw ?_ _));exact BK128.out) hb);have n2_:=qd.mk (qI (by repeat (first|(with_reducible first|exact HB.out|apply qg|apply qc|apply qf|refine qp ?_ GE128.out)|exact HB.out)) hb);clear HO_45;clear BK128;clear HB;have HO_45:=n0_;have BK128:=n1_;have HB:=n2_;clear n0_ n1_ n2_;(try clear hb);(try clear hb2);(try clear hk);(try clear hi))|((with_reducible refine qZ (f:=15) rfl ?_);refine jL (some 105) rfl rfl Try.func15 (by kernel_rfl) rfl #[] rfl (by (try simp only [List.map_toArray,List.map_cons,List.map_nil]);first|done|rfl|(simp only [List.length_drop,List.length_take];rfl)) ?_;(with_reducible refine (qK.calls  t195 t196 t197 t198 _ A107.out).mono ?_);rintro e w157 ⟨rfl,hb⟩;refine ⟨_,rfl,?_⟩;have n0_:=qd.mk (Kd.zX (by (with_reducible repeat (first|apply Kd.zb|apply Kd.ze|apply Kd.zD));exact HO_45.out) hb);have n1_:=qd.mk (qR (g:=gb128) (o:=.cells #[.int .i64 t124,.int .i64 t125,.int .i64 3,.int .i64 t127] 23 (0,0)) (by (with_reducible repeat (first|refine qx ?_ _|refine qA ?_|refine qw ?_ _));exact BK128.out) hb);have n2_:=qd.mk (qI (by repeat (first|(with_reducible first|exact HB.out|apply qg|apply qc|apply qf|refine qp ?_ GE128.out)|exact HB.out)) hb);clear HO_45;clear BK128;clear HB;have HO_45:=n0_;have BK128:=n1_;have HB:=n2_;clear n0_ n1_ n2_;(try clear hb);(try clear hb2);(try clear hk);(try clear hi))|((with_reducible refine qZ (f:=19) rfl ?_);refine jL (some 106) rfl rfl Try.func19 (by kernel_rfl) rfl #[.string (⟨#[77,65,73,78]⟩ : ByteArray),.string (⟨#[77,73,78,69]⟩ : ByteArray),.agg #[.int .i64 t195,.int .i64 t196,.int .i64 t197,.int .i64 t198],.int .i64 2] rfl (by (try simp only [List.map_toArray,List.map_cons,List.map_nil]);first|done|rfl|(simp only [List.length_drop,List.length_take];rfl)) ?_;(with_reducible refine (jE.calls (⟨#[77,65,73,78]⟩ : ByteArray) (⟨#[77,73,78,69]⟩ : ByteArray) t195 t196 t197 t198 2 t199 true t201 _ A108.out).mono ?_);rintro e w158 ⟨rfl,hb⟩;refine ⟨_,rfl,?_⟩;have n0_:=qd.mk (Kd.zX (by (with_reducible repeat (first|apply Kd.zb|apply Kd.ze|apply Kd.zD));exact HO_45.out) hb);have n1_:=qd.mk (qR (g:=gb128) (o:=.cells #[.int .i64 t124,.int .i64 t125,.int .i64 3,.int .i64 t127] 23 (0,0)) (by (with_reducible repeat (first|refine qx ?_ _|refine qA ?_|refine qw ?_ _));exact BK128.out) hb);have n2_:=qd.mk (qI (by repeat (first|(with_reducible first|exact HB.out|apply qg|apply qc|apply qf|refine qp ?_ GE128.out)|exact HB.out)) hb);clear HO_45;clear BK128;clear HB;have HO_45:=n0_;have BK128:=n1_;have HB:=n2_;clear n0_ n1_ n2_;(try clear hb);(try clear hb2);(try clear hk);(try clear hi))|((with_reducible refine ji (N:=111) rfl ?_);refine Kd.Jg (Kd.int .u8) _ 5 ?hg (N:=111) ?hd (xs:=([3] : List Int)) (inner:=[.int .u8 3]) (ok:=fun _ => True) (okp:=fun _ => True) ?hr ?hp (fun _ hk => hk) trivial (Below.refl _ _) (Nat.le_refl _) (by simp) ?_;(case hd => rfl);(case hg => rfl);(case hr => first|(go_simp;done)|(go_simp;rfl));(case hp => exact (Reps.one (show Kd.M (Kd.int .u8) _ _ _ 3 [.int .u8 3] from rfl) (Reps.none _ _)));intro v203 w159 ho160 hb hg_ hnew_;clear hg_ hnew_;(first|rw [← Ny202.out] at ho160|(simp only [Int.reduceToNat] at ho160;rw [← Ny202.out] at ho160));have n0_:=qd.mk (Kd.xx (by (with_reducible repeat (first|apply Kd.zb|apply Kd.ze|apply Kd.zD));exact HO_45.out) (Kd.jd ho160) hb);have n1_:=qd.mk (Kd.jS ho160 (qH (by repeat (first|(with_reducible first|exact HB.out|apply qg|apply qc|apply qf|refine qp ?_ GE128.out)|exact HB.out))));have n2_:=qd.mk (qR (g:=gb128) (o:=.cells #[.int .i64 t124,.int .i64 t125,.int .i64 3,.int .i64 t127] 23 (0,0)) (by (with_reducible repeat (first|refine qx ?_ _|refine qA ?_|refine qw ?_ _));exact BK128.out) hb);have n3_:=qd.mk (qI (by repeat (first|(with_reducible first|exact HB.out|apply qg|apply qc|apply qf|refine qp ?_ GE128.out)|exact HB.out)) hb);clear HO_45;clear BK128;clear HB;have HO_45:=n0_;have HO204:=n1_;have BK128:=n2_;have HB:=n3_;clear n0_ n1_ n2_ n3_;clear hb ho160;obtain ⟨Ao161,co161,eo161⟩:=Kd.jk HO204.out;subst eo161)|((with_reducible refine qZ (f:=20) rfl ?_);refine jL (some 112) rfl rfl Try.func20 (by kernel_rfl) rfl #[.string (⟨#[]⟩ : ByteArray),.slice Ao161 y202.length co161] rfl (by (try simp only [List.map_toArray,List.map_cons,List.map_nil]);first|done|rfl|(simp only [List.length_drop,List.length_take];rfl)) ?_;(with_reducible refine (qo.calls (⟨#[]⟩ : ByteArray) _ _ y202 t205 _ ?side1 ?side2 A109.out).mono ?_);(case side1 => repeat (first|exact (Kd.je HO204.out).2.2|(with_reducible refine Kd.jP ?_ _)|(with_reducible refine Kd.jQ ?_ _)|(with_reducible refine Kd.zh ?_)));(case side2 => exact (Kd.je HO204.out).2.1);rintro e w162 ⟨v206,rfl,ho0,hb⟩;refine ⟨_,rfl,?_⟩;have n0_:=qd.mk (Kd.xx (by (with_reducible repeat (first|apply Kd.zb|apply Kd.ze|apply Kd.zD));exact HO_45.out) (Kd.jd ho0) hb);have n1_:=qd.mk (Kd.qN (by (with_reducible repeat (first|apply Kd.qy|apply Kd.qz|apply Kd.qC));exact HO204.out) hb);have n2_:=qd.mk (Kd.jS ho0 (qH (by repeat (first|(with_reducible first|exact HB.out|apply qg|apply qc|apply qf|refine qp ?_ GE128.out)|exact HB.out))));have n3_:=qd.mk (qR (g:=gb128) (o:=.cells #[.int .i64 t124,.int .i64 t125,.int .i64 3,.int .i64 t127] 23 (0,0)) (by (with_reducible repeat (first|refine qx ?_ _|refine qA ?_|refine qw ?_ _));exact BK128.out) hb);have n4_:=qd.mk (qI (by repeat (first|(with_reducible first|exact HB.out|apply qg|apply qc|apply qf|refine qp ?_ GE128.out)|exact HB.out)) hb);clear HO_45;clear HO204;clear BK128;clear HB;have HO_45:=n0_;have HO204:=n1_;have HO207:=n2_;have BK128:=n3_;have HB:=n4_;clear n0_ n1_ n2_ n3_ n4_;(try clear hb);(try clear hb2);(try clear hk);(try clear hi);(try clear ho0);obtain ⟨Ao163,co163,eo163⟩:=Kd.jk HO207.out;subst eo163)|((with_reducible refine qZ (f:=16) rfl ?_);refine jL (some 113) rfl rfl Try.func16 (by kernel_rfl) rfl #[.string (⟨#[65,66]⟩ : ByteArray),.slice Ao163 t205.length co163] rfl (by (try simp only [List.map_toArray,List.map_cons,List.map_nil]);first|done|rfl|(simp only [List.length_drop,List.length_take];rfl)) ?_;(with_reducible refine (qB.calls k1 (⟨#[65,66]⟩ : ByteArray) _ _ t205 t208 t209 _ ?side1 ?side2 A110.out).mono ?_);(case side1 => repeat (first|exact (Kd.je HO207.out).2.2|(with_reducible refine Kd.jP ?_ _)|(with_reducible refine Kd.jQ ?_ _)|(with_reducible refine Kd.zh ?_)));(case side2 => exact (Kd.je HO207.out).2.1);rintro e w164 ⟨rfl,hb⟩;refine ⟨_,rfl,?_⟩;have n0_:=qd.mk (Kd.zX (by (with_reducible repeat (first|apply Kd.zb|apply Kd.ze|apply Kd.zD));exact HO_45.out) hb);have n1_:=qd.mk (Kd.qN (by (with_reducible repeat (first|apply Kd.qy|apply Kd.qz|apply Kd.qC));exact HO204.out) hb);have n2_:=qd.mk (Kd.qN (by (with_reducible repeat (first|apply Kd.qy|apply Kd.qz|apply Kd.qC));exact HO207.out) hb);have n3_:=qd.mk (qR (g:=gb128) (o:=.cells #[.int .i64 t124,.int .i64 t125,.int .i64 3,.int .i64 t127] 23 (0,0)) (by (with_reducible repeat (first|refine qx ?_ _|refine qA ?_|refine qw ?_ _));exact BK128.out) hb);have n4_:=qd.mk (qI (by repeat (first|(with_reducible first|exact HB.out|apply qg|apply qc|apply qf|refine qp ?_ GE128.out)|exact HB.out)) hb);clear HO_45;clear HO204;clear HO207;clear BK128;clear HB;have HO_45:=n0_;have HO204:=n1_;have HO207:=n2_;have BK128:=n3_;have HB:=n4_;clear n0_ n1_ n2_ n3_ n4_;(try clear hb);(try clear hb2);(try clear hk);(try clear hi))|((with_reducible refine ji (N:=117) rfl ?_);refine Kd.Jg (Kd.int .u8) _ 5 ?hg (N:=117) ?hd (xs:=([3] : List Int)) (inner:=[.int .u8 3]) (ok:=fun _ => True) (okp:=fun _ => True) ?hr ?hp (fun _ hk => hk) trivial (Below.refl _ _) (Nat.le_refl _) (by simp) ?_;(case hd => rfl);(case hg => rfl);(case hr => first|(go_simp;done)|(go_simp;rfl));(case hp => exact (Reps.one (show Kd.M (Kd.int .u8) _ _ _ 3 [.int .u8 3] from rfl) (Reps.none _ _)));intro v211 w165 ho166 hb hg_ hnew_;clear hg_ hnew_;(first|rw [← Ny210.out] at ho166|(simp only [Int.reduceToNat] at ho166;rw [← Ny210.out] at ho166));have n0_:=qd.mk (Kd.xx (by (with_reducible repeat (first|apply Kd.zb|apply Kd.ze|apply Kd.zD));exact HO_45.out) (Kd.jd ho166) hb);have n1_:=qd.mk (Kd.qY (by (with_reducible repeat (first|apply Kd.qy|apply Kd.qz|apply Kd.qC));exact HO204.out) (Kd.jd ho166) hb);have n2_:=qd.mk (Kd.qN (by (with_reducible repeat (first|apply Kd.qy|apply Kd.qz|apply Kd.qC));exact HO207.out) hb);have n3_:=qd.mk (Kd.jS (Kd.zA ho166 (Kd.R_lt (by (with_reducible repeat (first|apply Kd.qy|apply Kd.qz|apply Kd.qC));exact HO204.out))) (qH (by repeat (first|(with_reducible first|exact HB.out|apply qg|apply qc|apply qf|refine qp ?_ GE128.out)|exact HB.out))));have n4_:=qd.mk (qR (g:=gb128) (o:=.cells #[.int .i64 t124,.int .i64 t125,.int .i64 3,.int .i64 t127] 23 (0,0)) (by (with_reducible repeat (first|refine qx ?_ _|refine qA ?_|refine qw ?_ _));exact BK128.out) hb);have n5_:=qd.mk (qI (by repeat (first|(with_reducible first|exact HB.out|apply qg|apply qc|apply qf|refine qp ?_ GE128.out)|exact HB.out)) hb);clear HO_45;clear HO204;clear HO207;clear BK128;clear HB;have HO_45:=n0_;have HO204:=n1_;have HO207:=n2_;have HO212:=n3_;have BK128:=n4_;have HB:=n5_;clear n0_ n1_ n2_ n3_ n4_ n5_;clear hb ho166;obtain ⟨Ao167,co167,eo167⟩:=Kd.jk HO212.out;subst eo167)|((with_reducible refine qZ (f:=20) rfl ?_);refine jL (some 118) rfl rfl Try.func20 (by kernel_rfl) rfl #[.string (⟨#[]⟩ : ByteArray),.slice Ao167 y210.length co167] rfl (by (try simp only [List.map_toArray,List.map_cons,List.map_nil]);first|done|rfl|(simp only [List.length_drop,List.length_take];rfl)) ?_;(with_reducible refine (qo.calls (⟨#[]⟩ : ByteArray) _ _ y210 t213 _ ?side1 ?side2 A111.out).mono ?_);(case side1 => repeat (first|exact (Kd.je HO212.out).2.2|(with_reducible refine Kd.jP ?_ _)|(with_reducible refine Kd.jQ ?_ _)|(with_reducible refine Kd.zh ?_)));(case side2 => exact (Kd.je HO212.out).2.1);rintro e w168 ⟨v214,rfl,ho0,hb⟩;refine ⟨_,rfl,?_⟩;have n0_:=qd.mk (Kd.xx (by (with_reducible repeat (first|apply Kd.zb|apply Kd.ze|apply Kd.zD));exact HO_45.out) (Kd.jd ho0) hb);have n1_:=qd.mk (Kd.qN (by (with_reducible repeat (first|apply Kd.qy|apply Kd.qz|apply Kd.qC));exact HO204.out) hb);have n2_:=qd.mk (Kd.qY (by (with_reducible repeat (first|apply Kd.qy|apply Kd.qz|apply Kd.qC));exact HO207.out) (Kd.jd ho0) hb);have n3_:=qd.mk (Kd.qN (by (with_reducible repeat (first|apply Kd.qy|apply Kd.qz|apply Kd.qC));exact HO212.out) hb);have n4_:=qd.mk (Kd.jS (Kd.zA ho0 (Kd.R_lt (by (with_reducible repeat (first|apply Kd.qy|apply Kd.qz|apply Kd.qC));exact HO207.out))) (qH (by repeat (first|(with_reducible first|exact HB.out|apply qg|apply qc|apply qf|refine qp ?_ GE128.out)|exact HB.out))));have n5_:=qd.mk (qR (g:=gb128) (o:=.cells #[.int .i64 t124,.int .i64 t125,.int .i64 3,.int .i64 t127] 23 (0,0)) (by (with_reducible repeat (first|refine qx ?_ _|refine qA ?_|refine qw ?_ _));exact BK128.out) hb);have n6_:=qd.mk (qI (by repeat (first|(with_reducible first|exact HB.out|apply qg|apply qc|apply qf|refine qp ?_ GE128.out)|exact HB.out)) hb);clear HO_45;clear HO204;clear HO207;clear HO212;clear BK128;clear HB;have HO_45:=n0_;have HO204:=n1_;have HO207:=n2_;have HO212:=n3_;have HO215:=n4_;have BK128:=n5_;have HB:=n6_;clear n0_ n1_ n2_ n3_ n4_ n5_ n6_;(try clear hb);(try clear hb2);(try clear hk);(try clear hi);(try clear ho0);obtain ⟨Ao169,co169,eo169⟩:=Kd.jk HO215.out;subst eo169)|((with_reducible refine qZ (f:=16) rfl ?_);refine jL (some 119) rfl rfl Try.func16 (by kernel_rfl) rfl #[.string (⟨#[65,65]⟩ : ByteArray),.slice Ao169 t213.length co169] rfl (by (try simp only [List.map_toArray,List.map_cons,List.map_nil]);first|done|rfl|(simp only [List.length_drop,List.length_take];rfl)) ?_;(with_reducible refine (qB.calls k1 (⟨#[65,65]⟩ : ByteArray) _ _ t213 t216 t217 _ ?side1 ?side2 A112.out).mono ?_);(case side1 => repeat (first|exact (Kd.je HO215.out).2.2|(with_reducible refine Kd.jP ?_ _)|(with_reducible refine Kd.jQ ?_ _)|(with_reducible refine Kd.zh ?_)));(case side2 => exact (Kd.je HO215.out).2.1);rintro e w170 ⟨rfl,hb⟩;refine ⟨_,rfl,?_⟩;have n0_:=qd.mk (Kd.zX (by (with_reducible repeat (first|apply Kd.zb|apply Kd.ze|apply Kd.zD));exact HO_45.out) hb);have n1_:=qd.mk (Kd.qN (by (with_reducible repeat (first|apply Kd.qy|apply Kd.qz|apply Kd.qC));exact HO204.out) hb);have n2_:=qd.mk (Kd.qN (by (with_reducible repeat (first|apply Kd.qy|apply Kd.qz|apply Kd.qC));exact HO207.out) hb);have n3_:=qd.mk (Kd.qN (by (with_reducible repeat (first|apply Kd.qy|apply Kd.qz|apply Kd.qC));exact HO212.out) hb);have n4_:=qd.mk (Kd.qN (by (with_reducible repeat (first|apply Kd.qy|apply Kd.qz|apply Kd.qC));exact HO215.out) hb);have n5_:=qd.mk (qR (g:=gb128) (o:=.cells #[.int .i64 t124,.int .i64 t125,.int .i64 3,.int .i64 t127] 23 (0,0)) (by (with_reducible repeat (first|refine qx ?_ _|refine qA ?_|refine qw ?_ _));exact BK128.out) hb);have n6_:=qd.mk (qI (by repeat (first|(with_reducible first|exact HB.out|apply qg|apply qc|apply qf|refine qp ?_ GE128.out)|exact HB.out)) hb);clear HO_45;clear HO204;clear HO207;clear HO212;clear HO215;clear BK128;clear HB;have HO_45:=n0_;have HO204:=n1_;have HO207:=n2_;have HO212:=n3_;have HO215:=n4_;have BK128:=n5_;have HB:=n6_;clear n0_ n1_ n2_ n3_ n4_ n5_ n6_;(try clear hb);(try clear hb2);(try clear hk);(try clear hi))|((with_reducible refine ji (N:=123) rfl ?_);refine Kd.Jg (Kd.int .u8) _ 5 ?hg (N:=123) ?hd (xs:=([1] : List Int)) (inner:=[.int .u8 1]) (ok:=fun _ => True) (okp:=fun _ => True) ?hr ?hp (fun _ hk => hk) trivial (Below.refl _ _) (Nat.le_refl _) (by simp) ?_;(case hd => rfl);(case hg => rfl);(case hr => first|(go_simp;done)|(go_simp;rfl));(case hp => exact (Reps.one (show Kd.M (Kd.int .u8) _ _ _ 1 [.int .u8 1] from rfl) (Reps.none _ _)));intro v219 w171 ho172 hb hg_ hnew_;clear hg_ hnew_;(first|rw [← Ny218.out] at ho172|(simp only [Int.reduceToNat] at ho172;rw [← Ny218.out] at ho172));have n0_:=qd.mk (Kd.xx (by (with_reducible repeat (first|apply Kd.zb|apply Kd.ze|apply Kd.zD));exact HO_45.out) (Kd.jd ho172) hb);have n1_:=qd.mk (Kd.qY (by (with_reducible repeat (first|apply Kd.qy|apply Kd.qz|apply Kd.qC));exact HO204.out) (Kd.jd ho172) hb);have n2_:=qd.mk (Kd.qN (by (with_reducible repeat (first|apply Kd.qy|apply Kd.qz|apply Kd.qC));exact HO207.out) hb);have n3_:=qd.mk (Kd.qY (by (with_reducible repeat (first|apply Kd.qy|apply Kd.qz|apply Kd.qC));exact HO212.out) (Kd.jd ho172) hb);have n4_:=qd.mk (Kd.qN (by (with_reducible repeat (first|apply Kd.qy|apply Kd.qz|apply Kd.qC));exact HO215.out) hb);have n5_:=qd.mk (Kd.jS (Kd.zA (Kd.zA ho172 (Kd.R_lt (by (with_reducible repeat (first|apply Kd.qy|apply Kd.qz|apply Kd.qC));exact HO204.out))) (Kd.R_lt (by (with_reducible repeat (first|apply Kd.qy|apply Kd.qz|apply Kd.qC));exact HO212.out))) (qH (by repeat (first|(with_reducible first|exact HB.out|apply qg|apply qc|apply qf|refine qp ?_ GE128.out)|exact HB.out))));have n6_:=qd.mk (qR (g:=gb128) (o:=.cells #[.int .i64 t124,.int .i64 t125,.int .i64 3,.int .i64 t127] 23 (0,0)) (by (with_reducible repeat (first|refine qx ?_ _|refine qA ?_|refine qw ?_ _));exact BK128.out) hb);have n7_:=qd.mk (qI (by repeat (first|(with_reducible first|exact HB.out|apply qg|apply qc|apply qf|refine qp ?_ GE128.out)|exact HB.out)) hb);clear HO_45;clear HO204;clear HO207;clear HO212;clear HO215;clear BK128;clear HB;have HO_45:=n0_;have HO204:=n1_;have HO207:=n2_;have HO212:=n3_;have HO215:=n4_;have HO220:=n5_;have BK128:=n6_;have HB:=n7_;clear n0_ n1_ n2_ n3_ n4_ n5_ n6_ n7_;clear hb ho172;obtain ⟨Ao173,co173,eo173⟩:=Kd.jk HO220.out;subst eo173)|((with_reducible refine qZ (f:=20) rfl ?_);refine jL (some 124) rfl rfl Try.func20 (by kernel_rfl) rfl #[.string (⟨#[]⟩ : ByteArray),.slice Ao173 y218.length co173] rfl (by (try simp only [List.map_toArray,List.map_cons,List.map_nil]);first|done|rfl|(simp only [List.length_drop,List.length_take];rfl)) ?_;(with_reducible refine (qo.calls (⟨#[]⟩ : ByteArray) _ _ y218 t221 _ ?side1 ?side2 A113.out).mono ?_);(case side1 => repeat (first|exact (Kd.je HO220.out).2.2|(with_reducible refine Kd.jP ?_ _)|(with_reducible refine Kd.jQ ?_ _)|(with_reducible refine Kd.zh ?_)));(case side2 => exact (Kd.je HO220.out).2.1);rintro e w174 ⟨v222,rfl,ho0,hb⟩;refine ⟨_,rfl,?_⟩;have n0_:=qd.mk (Kd.xx (by (with_reducible repeat (first|apply Kd.zb|apply Kd.ze|apply Kd.zD));exact HO_45.out) (Kd.jd ho0) hb);have n1_:=qd.mk (Kd.qN (by (with_reducible repeat (first|apply Kd.qy|apply Kd.qz|apply Kd.qC));exact HO204.out) hb);have n2_:=qd.mk (Kd.qY (by (with_reducible repeat (first|apply Kd.qy|apply Kd.qz|apply Kd.qC));exact HO207.out) (Kd.jd ho0) hb);have n3_:=qd.mk (Kd.qN (by (with_reducible repeat (first|apply Kd.qy|apply Kd.qz|apply Kd.qC));exact HO212.out) hb);have n4_:=qd.mk (Kd.qY (by (with_reducible repeat (first|apply Kd.qy|apply Kd.qz|apply Kd.qC));exact HO215.out) (Kd.jd ho0) hb);have n5_:=qd.mk (Kd.qN (by (with_reducible repeat (first|apply Kd.qy|apply Kd.qz|apply Kd.qC));exact HO220.out) hb);have n6_:=qd.mk (Kd.jS (Kd.zA (Kd.zA ho0 (Kd.R_lt (by (with_reducible repeat (first|apply Kd.qy|apply Kd.qz|apply Kd.qC));exact HO207.out))) (Kd.R_lt (by (with_reducible repeat (first|apply Kd.qy|apply Kd.qz|apply Kd.qC));exact HO215.out))) (qH (by repeat (first|(with_reducible first|exact HB.out|apply qg|apply qc|apply qf|refine qp ?_ GE128.out)|exact HB.out))));have n7_:=qd.mk (qR (g:=gb128) (o:=.cells #[.int .i64 t124,.int .i64 t125,.int .i64 3,.int .i64 t127] 23 (0,0)) (by (with_reducible repeat (first|refine qx ?_ _|refine qA ?_|refine qw ?_ _));exact BK128.out) hb);have n8_:=qd.mk (qI (by repeat (first|(with_reducible first|exact HB.out|apply qg|apply qc|apply qf|refine qp ?_ GE128.out)|exact HB.out)) hb);clear HO_45;clear HO204;clear HO207;clear HO212;clear HO215;clear HO220;clear BK128;clear HB;have HO_45:=n0_;have HO204:=n1_;have HO207:=n2_;have HO212:=n3_;have HO215:=n4_;have HO220:=n5_;have HO223:=n6_;have BK128:=n7_;have HB:=n8_;clear n0_ n1_ n2_ n3_ n4_ n5_ n6_ n7_ n8_;(try clear hb);(try clear hb2);(try clear hk);(try clear hi);(try clear ho0);obtain ⟨Ao175,co175,eo175⟩:=Kd.jk HO223.out;subst eo175)|((with_reducible refine qZ (f:=16) rfl ?_);refine jL (some 125) rfl rfl Try.func16 (by kernel_rfl) rfl #[.string (⟨#[65,66]⟩ : ByteArray),.slice Ao175 t221.length co175] rfl (by (try simp only [List.map_toArray,List.map_cons,List.map_nil]);first|done|rfl|(simp only [List.length_drop,List.length_take];rfl)) ?_;(with_reducible refine (qB.calls k1 (⟨#[65,66]⟩ : ByteArray) _ _ t221 t224 t225 _ ?side1 ?side2 A114.out).mono ?_);(case side1 => repeat (first|exact (Kd.je HO223.out).2.2|(with_reducible refine Kd.jP ?_ _)|(with_reducible refine Kd.jQ ?_ _)|(with_reducible refine Kd.zh ?_)));(case side2 => exact (Kd.je HO223.out).2.1);rintro e w176 ⟨rfl,hb⟩;refine ⟨_,rfl,?_⟩;have n0_:=qd.mk (Kd.zX (by (with_reducible repeat (first|apply Kd.zb|apply Kd.ze|apply Kd.zD));exact HO_45.out) hb);have n1_:=qd.mk (Kd.qN (by (with_reducible repeat (first|apply Kd.qy|apply Kd.qz|apply Kd.qC));exact HO204.out) hb);have n2_:=qd.mk (Kd.qN (by (with_reducible repeat (first|apply Kd.qy|apply Kd.qz|apply Kd.qC));exact HO207.out) hb);have n3_:=qd.mk (Kd.qN (by (with_reducible repeat (first|apply Kd.qy|apply Kd.qz|apply Kd.qC));exact HO212.out) hb);have n4_:=qd.mk (Kd.qN (by (with_reducible repeat (first|apply Kd.qy|apply Kd.qz|apply Kd.qC));exact HO215.out) hb);have n5_:=qd.mk (Kd.qN (by (with_reducible repeat (first|apply Kd.qy|apply Kd.qz|apply Kd.qC));exact HO220.out) hb);have n6_:=qd.mk (Kd.qN (by (with_reducible repeat (first|apply Kd.qy|apply Kd.qz|apply Kd.qC));exact HO223.out) hb);have n7_:=qd.mk (qR (g:=gb128) (o:=.cells #[.int .i64 t124,.int .i64 t125,.int .i64 3,.int .i64 t127] 23 (0,0)) (by (with_reducible repeat (first|refine qx ?_ _|refine qA ?_|refine qw ?_ _));exact BK128.out) hb);have n8_:=qd.mk (qI (by repeat (first|(with_reducible first|exact HB.out|apply qg|apply qc|apply qf|refine qp ?_ GE128.out)|exact HB.out)) hb);clear HO_45;clear HO204;clear HO207;clear HO212;clear HO215;clear HO220;clear HO223;clear BK128;clear HB;have HO_45:=n0_;have HO204:=n1_;have HO207:=n2_;have HO212:=n3_;have HO215:=n4_;have HO220:=n5_;have HO223:=n6_;have BK128:=n7_;have HB:=n8_;clear n0_ n1_ n2_ n3_ n4_ n5_ n6_ n7_ n8_;(try clear hb);(try clear hb2);(try clear hk);(try clear hi))|((with_reducible refine ji (N:=129) rfl ?_);refine Kd.Jg (Kd.int .u8) _ 5 ?hg (N:=129) ?hd (xs:=([2] : List Int)) (inner:=[.int .u8 2]) (ok:=fun _ => True) (okp:=fun _ => True) ?hr ?hp (fun _ hk => hk) trivial (Below.refl _ _) (Nat.le_refl _) (by simp) ?_;(case hd => rfl);(case hg => rfl);(case hr => first|(go_simp;done)|(go_simp;rfl));(case hp => exact (Reps.one (show Kd.M (Kd.int .u8) _ _ _ 2 [.int .u8 2] from rfl) (Reps.none _ _)));intro v227 w177 ho178 hb hg_ hnew_;clear hg_ hnew_;(first|rw [← Ny226.out] at ho178|(simp only [Int.reduceToNat] at ho178;rw [← Ny226.out] at ho178));have n0_:=qd.mk (Kd.xx (by (with_reducible repeat (first|apply Kd.zb|apply Kd.ze|apply Kd.zD));exact HO_45.out) (Kd.jd ho178) hb);have n1_:=qd.mk (Kd.qY (by (with_reducible repeat (first|apply Kd.qy|apply Kd.qz|apply Kd.qC));exact HO204.out) (Kd.jd ho178) hb);have n2_:=qd.mk (Kd.qN (by (with_reducible repeat (first|apply Kd.qy|apply Kd.qz|apply Kd.qC));exact HO207.out) hb);have n3_:=qd.mk (Kd.qY (by (with_reducible repeat (first|apply Kd.qy|apply Kd.qz|apply Kd.qC));exact HO212.out) (Kd.jd ho178) hb);have n4_:=qd.mk (Kd.qN (by (with_reducible repeat (first|apply Kd.qy|apply Kd.qz|apply Kd.qC));exact HO215.out) hb);have n5_:=qd.mk (Kd.qY (by (with_reducible repeat (first|apply Kd.qy|apply Kd.qz|apply Kd.qC));exact HO220.out) (Kd.jd ho178) hb);have n6_:=qd.mk (Kd.qN (by (with_reducible repeat (first|apply Kd.qy|apply Kd.qz|apply Kd.qC));exact HO223.out) hb);have n7_:=qd.mk (Kd.jS (Kd.zA (Kd.zA (Kd.zA ho178 (Kd.R_lt (by (with_reducible repeat (first|apply Kd.qy|apply Kd.qz|apply Kd.qC));exact HO204.out))) (Kd.R_lt (by (with_reducible repeat (first|apply Kd.qy|apply Kd.qz|apply Kd.qC));exact HO212.out))) (Kd.R_lt (by (with_reducible repeat (first|apply Kd.qy|apply Kd.qz|apply Kd.qC));exact HO220.out))) (qH (by repeat (first|(with_reducible first|exact HB.out|apply qg|apply qc|apply qf|refine qp ?_ GE128.out)|exact HB.out))));have n8_:=qd.mk (qR (g:=gb128) (o:=.cells #[.int .i64 t124,.int .i64 t125,.int .i64 3,.int .i64 t127] 23 (0,0)) (by (with_reducible repeat (first|refine qx ?_ _|refine qA ?_|refine qw ?_ _));exact BK128.out) hb);have n9_:=qd.mk (qI (by repeat (first|(with_reducible first|exact HB.out|apply qg|apply qc|apply qf|refine qp ?_ GE128.out)|exact HB.out)) hb);clear HO_45;clear HO204;clear HO207;clear HO212;clear HO215;clear HO220;clear HO223;clear BK128;clear HB;have HO_45:=n0_;have HO204:=n1_;have HO207:=n2_;have HO212:=n3_;have HO215:=n4_;have HO220:=n5_;have HO223:=n6_;have HO228:=n7_;have BK128:=n8_;have HB:=n9_;clear n0_ n1_ n2_ n3_ n4_ n5_ n6_ n7_ n8_ n9_;clear hb ho178;obtain ⟨Ao179,co179,eo179⟩:=Kd.jk HO228.out;subst eo179)|((with_reducible refine qZ (f:=20) rfl ?_);refine jL (some 130) rfl rfl Try.func20 (by kernel_rfl) rfl #[.string (⟨#[65]⟩ : ByteArray),.slice Ao179 y226.length co179] rfl (by (try simp only [List.map_toArray,List.map_cons,List.map_nil]);first|done|rfl|(simp only [List.length_drop,List.length_take];rfl)) ?_;(with_reducible refine (qo.calls (⟨#[65]⟩ : ByteArray) _ _ y226 t229 _ ?side1 ?side2 A115.out).mono ?_);(case side1 => repeat (first|exact (Kd.je HO228.out).2.2|(with_reducible refine Kd.jP ?_ _)|(with_reducible refine Kd.jQ ?_ _)|(with_reducible refine Kd.zh ?_)));(case side2 => exact (Kd.je HO228.out).2.1);rintro e w180 ⟨v230,rfl,ho0,hb⟩;refine ⟨_,rfl,?_⟩;have n0_:=qd.mk (Kd.xx (by (with_reducible repeat (first|apply Kd.zb|apply Kd.ze|apply Kd.zD));exact HO_45.out) (Kd.jd ho0) hb);have n1_:=qd.mk (Kd.qN (by (with_reducible repeat (first|apply Kd.qy|apply Kd.qz|apply Kd.qC));exact HO204.out) hb);have n2_:=qd.mk (Kd.qY (by (with_reducible repeat (first|apply Kd.qy|apply Kd.qz|apply Kd.qC));exact HO207.out) (Kd.jd ho0) hb);have n3_:=qd.mk (Kd.qN (by (with_reducible repeat (first|apply Kd.qy|apply Kd.qz|apply Kd.qC));exact HO212.out) hb);have n4_:=qd.mk (Kd.qY (by (with_reducible repeat (first|apply Kd.qy|apply Kd.qz|apply Kd.qC));exact HO215.out) (Kd.jd ho0) hb);have n5_:=qd.mk (Kd.qN (by (with_reducible repeat (first|apply Kd.qy|apply Kd.qz|apply Kd.qC));exact HO220.out) hb);have n6_:=qd.mk (Kd.qY (by (with_reducible repeat (first|apply Kd.qy|apply Kd.qz|apply Kd.qC));exact HO223.out) (Kd.jd ho0) hb);have n7_:=qd.mk (Kd.qN (by (with_reducible repeat (first|apply Kd.qy|apply Kd.qz|apply Kd.qC));exact HO228.out) hb);have n8_:=qd.mk (Kd.jS (Kd.zA (Kd.zA (Kd.zA ho0 (Kd.R_lt (by (with_reducible repeat (first|apply Kd.qy|apply Kd.qz|apply Kd.qC));exact HO207.out))) (Kd.R_lt (by (with_reducible repeat (first|apply Kd.qy|apply Kd.qz|apply Kd.qC));exact HO215.out))) (Kd.R_lt (by (with_reducible repeat (first|apply Kd.qy|apply Kd.qz|apply Kd.qC));exact HO223.out))) (qH (by repeat (first|(with_reducible first|exact HB.out|apply qg|apply qc|apply qf|refine qp ?_ GE128.out)|exact HB.out))));have n9_:=qd.mk (qR (g:=gb128) (o:=.cells #[.int .i64 t124,.int .i64 t125,.int .i64 3,.int .i64 t127] 23 (0,0)) (by (with_reducible repeat (first|refine qx ?_ _|refine qA ?_|refine qw ?_ _));exact BK128.out) hb);have n10_:=qd.mk (qI (by repeat (first|(with_reducible first|exact HB.out|apply qg|apply qc|apply qf|refine qp ?_ GE128.out)|exact HB.out)) hb);clear HO_45;clear HO204;clear HO207;clear HO212;clear HO215;clear HO220;clear HO223;clear HO228;clear BK128;clear HB;have HO_45:=n0_;have HO204:=n1_;have HO207:=n2_;have HO212:=n3_;have HO215:=n4_;have HO220:=n5_;have HO223:=n6_;have HO228:=n7_;have HO231:=n8_;have BK128:=n9_;have HB:=n10_;clear n0_ n1_ n2_ n3_ n4_ n5_ n6_ n7_ n8_ n9_ n10_;(try clear hb);(try clear hb2);(try clear hk);(try clear hi);(try clear ho0);obtain ⟨Ao181,co181,eo181⟩:=Kd.jk HO231.out;subst eo181)|((with_reducible refine qZ (f:=16) rfl ?_);refine jL (some 131) rfl rfl Try.func16 (by kernel_rfl) rfl #[.string (⟨#[65]⟩ : ByteArray),.slice Ao181 t229.length co181] rfl (by (try simp only [List.map_toArray,List.map_cons,List.map_nil]);first|done|rfl|(simp only [List.length_drop,List.length_take];rfl)) ?_;(with_reducible refine (qB.calls k1 (⟨#[65]⟩ : ByteArray) _ _ t229 t232 t233 _ ?side1 ?side2 A116.out).mono ?_);(case side1 => repeat (first|exact (Kd.je HO231.out).2.2|(with_reducible refine Kd.jP ?_ _)|(with_reducible refine Kd.jQ ?_ _)|(with_reducible refine Kd.zh ?_)));(case side2 => exact (Kd.je HO231.out).2.1);rintro e w182 ⟨rfl,hb⟩;refine ⟨_,rfl,?_⟩;have n0_:=qd.mk (Kd.zX (by (with_reducible repeat (first|apply Kd.zb|apply Kd.ze|apply Kd.zD));exact HO_45.out) hb);have n1_:=qd.mk (Kd.qN (by (with_reducible repeat (first|apply Kd.qy|apply Kd.qz|apply Kd.qC));exact HO204.out) hb);have n2_:=qd.mk (Kd.qN (by (with_reducible repeat (first|apply Kd.qy|apply Kd.qz|apply Kd.qC));exact HO207.out) hb);have n3_:=qd.mk (Kd.qN (by (with_reducible repeat (first|apply Kd.qy|apply Kd.qz|apply Kd.qC));exact HO212.out) hb);have n4_:=qd.mk (Kd.qN (by (with_reducible repeat (first|apply Kd.qy|apply Kd.qz|apply Kd.qC));exact HO215.out) hb);have n5_:=qd.mk (Kd.qN (by (with_reducible repeat (first|apply Kd.qy|apply Kd.qz|apply Kd.qC));exact HO220.out) hb);have n6_:=qd.mk (Kd.qN (by (with_reducible repeat (first|apply Kd.qy|apply Kd.qz|apply Kd.qC));exact HO223.out) hb);have n7_:=qd.mk (Kd.qN (by (with_reducible repeat (first|apply Kd.qy|apply Kd.qz|apply Kd.qC));exact HO228.out) hb);have n8_:=qd.mk (Kd.qN (by (with_reducible repeat (first|apply Kd.qy|apply Kd.qz|apply Kd.qC));exact HO231.out) hb);have n9_:=qd.mk (qR (g:=gb128) (o:=.cells #[.int .i64 t124,.int .i64 t125,.int .i64 3,.int .i64 t127] 23 (0,0)) (by (with_reducible repeat (first|refine qx ?_ _|refine qA ?_|refine qw ?_ _));exact BK128.out) hb);have n10_:=qd.mk (qI (by repeat (first|(with_reducible first|exact HB.out|apply qg|apply qc|apply qf|refine qp ?_ GE128.out)|exact HB.out)) hb);clear HO_45;clear HO204;clear HO207;clear HO212;clear HO215;clear HO220;clear HO223;clear HO228;clear HO231;clear BK128;clear HB;have HO_45:=n0_;have HO204:=n1_;have HO207:=n2_;have HO212:=n3_;have HO215:=n4_;have HO220:=n5_;have HO223:=n6_;have HO228:=n7_;have HO231:=n8_;have BK128:=n9_;have HB:=n10_;clear n0_ n1_ n2_ n3_ n4_ n5_ n6_ n7_ n8_ n9_ n10_;(try clear hb);(try clear hb2);(try clear hk);(try clear hi)))
              go_ret
              exact ⟨by first|rfl|(simp [qQ,qP] <;> rfl)|(simp [*,qQ,qP] <;> rfl),by repeat (first|(with_reducible first|exact HB.out|apply qg|apply qc|apply qf|refine qp ?_ GE128.out)|exact HB.out)⟩
             ·rw [if_neg c154] at H
              have c154b0 : (t225 == 60) = false:=beq_eq_false_iff_ne.mpr c154
              have c154b1 : (t225 != 60) = true:=bne_iff_ne.mpr c154
              exact absurd (H.trans (congrArg some hr)) (by simp)
            ·rw [if_neg c153] at H
             have c153b0 : (t217 == 60) = false:=beq_eq_false_iff_ne.mpr c153
             have c153b1 : (t217 != 60) = true:=bne_iff_ne.mpr c153
             exact absurd (H.trans (congrArg some hr)) (by simp)
           ·rw [if_neg c152] at H
            have c152b0 : (t209 == 0) = false:=beq_eq_false_iff_ne.mpr c152
            have c152b1 : (t209 != 0) = true:=bne_iff_ne.mpr c152
            exact absurd (H.trans (congrArg some hr)) (by simp)
          ·rw [if_neg c151] at H
           have c151b0 : (t208.toList == ([66,65] : List UInt8)) = false:=beq_eq_false_iff_ne.mpr c151
           have c151b1 : (t208.toList != ([66,65] : List UInt8)) = true:=bne_iff_ne.mpr c151
           exact absurd (H.trans (congrArg some hr)) (by simp)
         ·rw [if_neg c150] at H
          have c150b0 : (t201 == 0) = false:=beq_eq_false_iff_ne.mpr c150
          have c150b1 : (t201 != 0) = true:=bne_iff_ne.mpr c150
          exact absurd (H.trans (congrArg some hr)) (by simp)
        ·replace c149:=Bool.eq_false_iff.mpr c149
         subst c149
         have H1 : (some false) = some r:=by rw [if_neg (show ¬ (false = true) by decide)] at H;exact H
         clear H
         have H:=H1
         clear H1
         exact absurd (H.trans (congrArg some hr)) (by simp)
       ·rw [if_neg c148] at H
        have c148b0 : (t199 == 2) = false:=beq_eq_false_iff_ne.mpr c148
        have c148b1 : (t199 != 2) = true:=bne_iff_ne.mpr c148
        exact absurd (H.trans (congrArg some hr)) (by simp)
      ·rw [if_neg c147] at H
       have c147b0 : (t194 == 0) = false:=beq_eq_false_iff_ne.mpr c147
       have c147b1 : (t194 != 0) = true:=bne_iff_ne.mpr c147
       exact absurd (H.trans (congrArg some hr)) (by simp)
    ·rw [if_neg c117] at H
     have c117b0 : (t192 == 0) = false:=beq_eq_false_iff_ne.mpr c117
     have c117b1 : (t192 != 0) = true:=bne_iff_ne.mpr c117
     exact absurd (H.trans (congrArg some hr)) (by simp)
end Go.Proofs.Ytdefecnngccmoaa.QTells
