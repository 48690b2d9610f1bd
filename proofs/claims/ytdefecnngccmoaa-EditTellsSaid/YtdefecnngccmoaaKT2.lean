/- A part of the texts of one claim: the walk of the code by hand-proved contracts, and the plain law. -/
import Derived.Below
import Derived.Deep.Draws
import Derived.Deep.AppendLies
import Derived.Maps.AppendAt
import Derived.OwnWalk
import Derived.Laws.BytesArg
import Derived.Laws.MakeOwn
import Derived.Laws.OwnMore
import Derived.Deep.OwnRows
import Derived.Tactics
import Derived.Lib.ConvBytes
import Derived.Laws.Slices
import Derived.WalkKit
import Derived.KernelRfl
import Derived.RowKit3
import Derived.Deep.LoopGhost
import Derived.Deep.QuietTactic
import Derived.BigQuiet
import Derived.WideLaws
import Derived.Deep.DeepCutAuto
import Derived.Deep.CutBlock
import Derived.Deep.RegionHeld3
import Derived.Laws.Rows
import Derived.Lib.AppendStr
import Derived.ArgAppend
import Derived.Laws.IdiomCopy
import Derived.OrdersHeld
import Derived.Laws.BitsLemmas
import Derived.RowKit
import Derived.Test.YtdefecnngccmoaaProg
import Derived.LoopN
import Derived.Outline
import Derived.Lib.Hide
import Derived.Lib.IndexBytes
import Derived.StillTailTactics
import Derived.BigRegion
import Derived.Deep.RegionWith
import Derived.RangeFuncRecord
import Derived.MapKept
import Derived.IntWalk
import Derived.Test.YtdefecnngccmoaaKT1
set_option linter.unusedVariables false
set_option linter.unusedSimpArgs false
namespace Go.Proofs.Ytdefecnngccmoaa.QE0
open Go.RowKit Go.Proofs.YtdefecnngccmoaaW.PrintWords Go.Proofs.YtdefecnngccmoaaW.PrintLast Go.Proofs.YtdefecnngccmoaaW.PrintMore
attribute [local go_sem] jX jV zk zi jM jN jU jY
set_option linter.unusedVariables false
set_option linter.unusedSimpArgs false
def errW : Option Int → Value
 | none => .nilIface
 | some c => .iface 0 (.int .i64 c)
theorem qQ : errW none = .nilIface:=rfl
theorem qP (c : Int) : errW (some c) = .iface 0 (.int .i64 c):=rfl
theorem info5 : (Try.prog.info? 5).map (fun i => (i.zero,i.size,i.bytes)) = some (some (.int .u8 0),1,1):=by kernel_rfl
theorem vo : (Try.prog.info? 38).map (fun i => (i.zero,i.size,i.bytes)) = some (some (.agg #[(.int .u8 0),(.int .u8 0)]),2,2):=by kernel_rfl
structure S38 where
 f0 : Int
 f1 : Int
def z38 : S38:=⟨(0 : Int),(0 : Int)⟩
def k38 : Kd S38:=Kd.iso (Kd.pair (Kd.int .u8) (Kd.int .u8)) (fun x : S38 => (x.f0,x.f1))
theorem yY {w : World} {x : S38} {cs : List Value} (h : k38.K w x cs) : cs = [.int .u8 x.f0,.int .u8 x.f1]:=by
 obtain ⟨_,_,rfl,rfl,rfl⟩:=h
 exact rfl
theorem Zm {w : World} {base : Nat} {ok : Nat → Prop} {x : S38} {cs : List Value} (h : k38.M w base ok x cs) : cs = [.int .u8 x.f0,.int .u8 x.f1]:=by
 obtain ⟨_,_,rfl,rfl,rfl⟩:=h
 exact rfl
theorem Xr (w : World) (x : S38)  : k38.K w x [.int .u8 x.f0,.int .u8 x.f1]:=⟨[.int .u8 x.f0],[.int .u8 x.f1],rfl,rfl,rfl⟩
theorem xC (w : World) (base : Nat) (ok : Nat → Prop) (x : S38)  : k38.M w base ok x [.int .u8 x.f0,.int .u8 x.f1]:=⟨[.int .u8 x.f0],[.int .u8 x.f1],rfl,rfl,rfl⟩
def qJ (xs : List S38) (i : Int) : S38:=xs.getD i.toNat z38
theorem vD {w : World} {A : Option Addr} {n : Nat} {xs : List S38} (h : Kd.C k38 w A n xs) (i : Int) (h0 : 0 ≤ i) (h1 : i < n) : ∃ ad , A = some ad ∧ w.cell? (ad.add (i.toNat * 2)) = some (.int .u8 (qJ xs i).f0) ∧ w.cell? ⟨(ad.add (i.toNat * 2)).block,(ad.add (i.toNat * 2)).off + 1,none⟩ = some (.int .u8 (qJ xs i).f1):=by
 obtain ⟨ad,c,e,_,hK,hc0⟩:=Kd.vP h z38 i h0 h1
 have hc : ∀ j u,c[j]? = some u → w.cell? (ad.add (i.toNat * 2 + j)) = some u:=hc0
 obtain rfl:=yY hK
 exact ⟨ad,e,hc 0 _ rfl,by rw [← jG _ _ 1 (by omega)];exact hc 1 _ rfl⟩
structure S23 where
 f0 : Int
 f1 : Int
 f2 : Int
 f3 : Int
def z23 : S23:=⟨(0 : Int),(0 : Int),(0 : Int),(0 : Int)⟩
def k23 : Kd S23:=Kd.iso (Kd.pair (Kd.int .i64) (Kd.pair (Kd.int .i64) (Kd.pair (Kd.int .i64) (Kd.int .i64)))) (fun x : S23 => (x.f0,x.f1,x.f2,x.f3))
theorem vS {w : World} {x : S23} {cs : List Value} (h : k23.K w x cs) : cs = [.int .i64 x.f0,.int .i64 x.f1,.int .i64 x.f2,.int .i64 x.f3]:=by
 obtain ⟨_,_,rfl,rfl,⟨_,_,rfl,rfl,⟨_,_,rfl,rfl,rfl⟩⟩⟩:=h
 exact rfl
theorem yg {w : World} {base : Nat} {ok : Nat → Prop} {x : S23} {cs : List Value} (h : k23.M w base ok x cs) : cs = [.int .i64 x.f0,.int .i64 x.f1,.int .i64 x.f2,.int .i64 x.f3]:=by
 obtain ⟨_,_,rfl,rfl,⟨_,_,rfl,rfl,⟨_,_,rfl,rfl,rfl⟩⟩⟩:=h
 exact rfl
theorem QN (w : World) (x : S23)  : k23.K w x [.int .i64 x.f0,.int .i64 x.f1,.int .i64 x.f2,.int .i64 x.f3]:=⟨[.int .i64 x.f0],[.int .i64 x.f1,.int .i64 x.f2,.int .i64 x.f3],rfl,rfl,⟨[.int .i64 x.f1],[.int .i64 x.f2,.int .i64 x.f3],rfl,rfl,⟨[.int .i64 x.f2],[.int .i64 x.f3],rfl,rfl,rfl⟩⟩⟩
theorem QD (w : World) (base : Nat) (ok : Nat → Prop) (x : S23)  : k23.M w base ok x [.int .i64 x.f0,.int .i64 x.f1,.int .i64 x.f2,.int .i64 x.f3]:=⟨[.int .i64 x.f0],[.int .i64 x.f1,.int .i64 x.f2,.int .i64 x.f3],rfl,rfl,⟨[.int .i64 x.f1],[.int .i64 x.f2,.int .i64 x.f3],rfl,rfl,⟨[.int .i64 x.f2],[.int .i64 x.f3],rfl,rfl,rfl⟩⟩⟩
def vI (xs : List S23) (i : Int) : S23:=xs.getD i.toNat z23
theorem VR {w : World} {A : Option Addr} {n : Nat} {xs : List S23} (h : Kd.C k23 w A n xs) (i : Int) (h0 : 0 ≤ i) (h1 : i < n) : ∃ ad , A = some ad ∧ w.cell? (ad.add (i.toNat * 4)) = some (.int .i64 (vI xs i).f0) ∧ w.cell? ⟨(ad.add (i.toNat * 4)).block,(ad.add (i.toNat * 4)).off + 1,none⟩ = some (.int .i64 (vI xs i).f1) ∧ w.cell? ⟨(ad.add (i.toNat * 4)).block,(ad.add (i.toNat * 4)).off + 2,none⟩ = some (.int .i64 (vI xs i).f2) ∧ w.cell? ⟨(ad.add (i.toNat * 4)).block,(ad.add (i.toNat * 4)).off + 3,none⟩ = some (.int .i64 (vI xs i).f3):=by
 obtain ⟨ad,c,e,_,hK,hc0⟩:=Kd.vP h z23 i h0 h1
 have hc : ∀ j u,c[j]? = some u → w.cell? (ad.add (i.toNat * 4 + j)) = some u:=hc0
 obtain rfl:=vS hK
 exact ⟨ad,e,hc 0 _ rfl,by rw [← jG _ _ 1 (by omega)];exact hc 1 _ rfl,by rw [← jG _ _ 2 (by omega)];exact hc 2 _ rfl,by rw [← jG _ _ 3 (by omega)];exact hc 3 _ rfl⟩
def qW (xs : List (List S38)) (i : Int) : (List S38):=xs.getD i.toNat ([] : List S38)
theorem kv {w : World} {A : Option Addr} {n : Nat} {xs : List (List S38)} (h : Kd.C (Kd.slice 38 k38) w A n xs) (i : Int) (h0 : 0 ≤ i) (h1 : i < n) : ∃ ad A0 c0,A = some ad ∧ w.cell? (ad.add i.toNat) = some (.slice A0 (qW xs i).length c0) ∧ (qW xs i).length ≤ c0 ∧ k38.C w A0 (qW xs i).length (qW xs i):=by
 obtain ⟨ad,c,e,_,hK,hc0⟩:=Kd.vP h ([] : List S38) i h0 h1
 have hc : ∀ j u,c[j]? = some u → w.cell? (ad.add (i.toNat * 1 + j)) = some u:=hc0
 obtain ⟨A0,c0,rfl,l0,g0⟩:=hK
 exact ⟨ad,A0,c0,e,by have hq:=hc 0 _ rfl;rwa [Nat.mul_one,Nat.add_zero] at hq,l0,g0⟩
structure S49 where
 f0 : ByteArray
 f1 : ByteArray
 f2 : S23
 f3 : Int
 f4 : (List S38)
def z49 : S49:=⟨(⟨#[]⟩ : ByteArray),(⟨#[]⟩ : ByteArray),z23,(0 : Int),([] : List S38)⟩
def k49 : Kd S49:=Kd.iso (Kd.pair Kd.string (Kd.pair Kd.string (Kd.pair k23 (Kd.pair (Kd.int .i64) (Kd.slice 38 k38))))) (fun x : S49 => (x.f0,x.f1,x.f2,x.f3,x.f4))
theorem vV {w : World} {x : S49} {cs : List Value} (h : k49.K w x cs) : ∃ A7 c7,cs = [.string x.f0,.string x.f1,.int .i64 x.f2.f0,.int .i64 x.f2.f1,.int .i64 x.f2.f2,.int .i64 x.f2.f3,.int .i64 x.f3,.slice A7 x.f4.length c7] ∧ x.f4.length ≤ c7 ∧ k38.C w A7 x.f4.length x.f4:=by
 obtain ⟨_,_,rfl,rfl,⟨_,_,rfl,rfl,⟨_,_,rfl,s2,⟨_,_,rfl,rfl,⟨A7,c7,rfl,l7,g7⟩⟩⟩⟩⟩:=h
 obtain rfl:=vS s2
 exact ⟨A7,c7,rfl,l7,g7⟩
theorem Zt {w : World} {base : Nat} {ok : Nat → Prop} {x : S49} {cs : List Value} (h : k49.M w base ok x cs) : ∃ v7,cs = [.string x.f0,.string x.f1,.int .i64 x.f2.f0,.int .i64 x.f2.f1,.int .i64 x.f2.f2,.int .i64 x.f2.f3,.int .i64 x.f3,v7] ∧ k38.R 38 w base ok v7 x.f4:=by
 obtain ⟨_,_,rfl,rfl,⟨_,_,rfl,rfl,⟨_,_,rfl,s2,⟨_,_,rfl,rfl,⟨v7,rfl,g7⟩⟩⟩⟩⟩:=h
 obtain rfl:=yg s2
 exact ⟨v7,rfl,g7⟩
theorem Xt (w : World) (x : S49) {A7 : Option Addr} {c7 : Nat} (l7 : x.f4.length ≤ c7) (g7 : k38.C w A7 x.f4.length x.f4) : k49.K w x [.string x.f0,.string x.f1,.int .i64 x.f2.f0,.int .i64 x.f2.f1,.int .i64 x.f2.f2,.int .i64 x.f2.f3,.int .i64 x.f3,.slice A7 x.f4.length c7]:=⟨[.string x.f0],[.string x.f1,.int .i64 x.f2.f0,.int .i64 x.f2.f1,.int .i64 x.f2.f2,.int .i64 x.f2.f3,.int .i64 x.f3,.slice A7 x.f4.length c7],rfl,rfl,⟨[.string x.f1],[.int .i64 x.f2.f0,.int .i64 x.f2.f1,.int .i64 x.f2.f2,.int .i64 x.f2.f3,.int .i64 x.f3,.slice A7 x.f4.length c7],rfl,rfl,⟨[.int .i64 x.f2.f0,.int .i64 x.f2.f1,.int .i64 x.f2.f2,.int .i64 x.f2.f3],[.int .i64 x.f3,.slice A7 x.f4.length c7],rfl,(QN w x.f2 ),⟨[.int .i64 x.f3],[.slice A7 x.f4.length c7],rfl,rfl,⟨A7,c7,rfl,l7,g7⟩⟩⟩⟩⟩
theorem X9 (w : World) (base : Nat) (ok : Nat → Prop) (x : S49) {v7 : Value} (g7 : k38.R 38 w base ok v7 x.f4) : k49.M w base ok x [.string x.f0,.string x.f1,.int .i64 x.f2.f0,.int .i64 x.f2.f1,.int .i64 x.f2.f2,.int .i64 x.f2.f3,.int .i64 x.f3,v7]:=⟨[.string x.f0],[.string x.f1,.int .i64 x.f2.f0,.int .i64 x.f2.f1,.int .i64 x.f2.f2,.int .i64 x.f2.f3,.int .i64 x.f3,v7],rfl,rfl,⟨[.string x.f1],[.int .i64 x.f2.f0,.int .i64 x.f2.f1,.int .i64 x.f2.f2,.int .i64 x.f2.f3,.int .i64 x.f3,v7],rfl,rfl,⟨[.int .i64 x.f2.f0,.int .i64 x.f2.f1,.int .i64 x.f2.f2,.int .i64 x.f2.f3],[.int .i64 x.f3,v7],rfl,(QD w base ok x.f2 ),⟨[.int .i64 x.f3],[v7],rfl,rfl,⟨v7,rfl,g7⟩⟩⟩⟩⟩
def qM (xs : List S49) (i : Int) : S49:=xs.getD i.toNat z49
theorem Xc {w : World} {A : Option Addr} {n : Nat} {xs : List S49} (h : Kd.C k49 w A n xs) (i : Int) (h0 : 0 ≤ i) (h1 : i < n) : ∃ ad A7 c7,A = some ad ∧ w.cell? (ad.add (i.toNat * 8)) = some (.string (qM xs i).f0) ∧ w.cell? ⟨(ad.add (i.toNat * 8)).block,(ad.add (i.toNat * 8)).off + 1,none⟩ = some (.string (qM xs i).f1) ∧ w.cell? ⟨(ad.add (i.toNat * 8)).block,(ad.add (i.toNat * 8)).off + 2,none⟩ = some (.int .i64 (qM xs i).f2.f0) ∧ w.cell? ⟨(ad.add (i.toNat * 8)).block,(ad.add (i.toNat * 8)).off + 3,none⟩ = some (.int .i64 (qM xs i).f2.f1) ∧ w.cell? ⟨(ad.add (i.toNat * 8)).block,(ad.add (i.toNat * 8)).off + 4,none⟩ = some (.int .i64 (qM xs i).f2.f2) ∧ w.cell? ⟨(ad.add (i.toNat * 8)).block,(ad.add (i.toNat * 8)).off + 5,none⟩ = some (.int .i64 (qM xs i).f2.f3) ∧ w.cell? ⟨(ad.add (i.toNat * 8)).block,(ad.add (i.toNat * 8)).off + 6,none⟩ = some (.int .i64 (qM xs i).f3) ∧ w.cell? ⟨(ad.add (i.toNat * 8)).block,(ad.add (i.toNat * 8)).off + 7,none⟩ = some (.slice A7 (qM xs i).f4.length c7) ∧ (qM xs i).f4.length ≤ c7 ∧ k38.C w A7 (qM xs i).f4.length (qM xs i).f4:=by
 obtain ⟨ad,c,e,_,hK,hc0⟩:=Kd.vP h z49 i h0 h1
 have hc : ∀ j u,c[j]? = some u → w.cell? (ad.add (i.toNat * 8 + j)) = some u:=hc0
 obtain ⟨A7,c7,rfl,l7,g7⟩:=vV hK
 exact ⟨ad,A7,c7,e,hc 0 _ rfl,by rw [← jG _ _ 1 (by omega)];exact hc 1 _ rfl,by rw [← jG _ _ 2 (by omega)];exact hc 2 _ rfl,by rw [← jG _ _ 3 (by omega)];exact hc 3 _ rfl,by rw [← jG _ _ 4 (by omega)];exact hc 4 _ rfl,by rw [← jG _ _ 5 (by omega)];exact hc 5 _ rfl,by rw [← jG _ _ 6 (by omega)];exact hc 6 _ rfl,by rw [← jG _ _ 7 (by omega)];exact hc 7 _ rfl,l7,g7⟩
end Go.Proofs.Ytdefecnngccmoaa.QE0
namespace Go.Proofs.Ytdefecnngccmoaa.Ed
open Go.RowKit Go.Proofs.YtdefecnngccmoaaW.PrintWords
def okc (c : Int) : Bool:=decide (1 ≤ c) && decide (c ≤ 1000)
def zl (c0 c1 c2 c3 : Int) : Bool:=okc c0 && (okc c1 && (okc c2 && okc c3))
set_option maxHeartbeats 4000000 in
theorem xM (c0 c1 c2 c3 : Int) (w : World) :
    Calls Try.prog 11 #[.agg #[.int .i64 c0,.int .i64 c1,.int .i64 c2,.int .i64 c3]] w fun e w' => e = .returned (.bool (zl c0 c1 c2 c3)) ∧ Below w.heap.size w w':=by
  have i0 : ∀ w,(Instr.index 60 (.agg #[.int .i64 c0,.int .i64 c1,.int .i64 c2,.int .i64 c3]) (.int .i64 0)).run Try.prog w = .ok (.int .i64 c0) w:=fun _ => by kernel_rfl
  have i1 : ∀ w,(Instr.index 60 (.agg #[.int .i64 c0,.int .i64 c1,.int .i64 c2,.int .i64 c3]) (.int .i64 1)).run Try.prog w = .ok (.int .i64 c1) w:=fun _ => by kernel_rfl
  have i2 : ∀ w,(Instr.index 60 (.agg #[.int .i64 c0,.int .i64 c1,.int .i64 c2,.int .i64 c3]) (.int .i64 2)).run Try.prog w = .ok (.int .i64 c2) w:=fun _ => by kernel_rfl
  have i3 : ∀ w,(Instr.index 60 (.agg #[.int .i64 c0,.int .i64 c1,.int .i64 c2,.int .i64 c3]) (.int .i64 3)).run Try.prog w = .ok (.int .i64 c3) w:=fun _ => by kernel_rfl
  go_enter Try.func11,Try.ntmps11
  go_wp2
  refine wp_loop_rounds 5 ?_
  rw [rounds_succ]
  go_wp2
  all_goals first
    | (refine bodyPost_ret (v:=.bool false) (by simp [results,Try.results11,go_sem]) rfl ⟨?_,(Below.refl _ _).alloc (Nat.le_refl _) _⟩;simp [zl,okc];omega)
    | skip
  rw [rounds_succ]
  go_wp2
  all_goals first
    | (refine bodyPost_ret (v:=.bool false) (by simp [results,Try.results11,go_sem]) rfl ⟨?_,(Below.refl _ _).alloc (Nat.le_refl _) _⟩;simp [zl,okc];omega)
    | skip
  rw [rounds_succ]
  go_wp2
  all_goals first
    | (refine bodyPost_ret (v:=.bool false) (by simp [results,Try.results11,go_sem]) rfl ⟨?_,(Below.refl _ _).alloc (Nat.le_refl _) _⟩;simp [zl,okc];omega)
    | skip
  rw [rounds_succ]
  go_wp2
  all_goals first
    | (refine bodyPost_ret (v:=.bool false) (by simp [results,Try.results11,go_sem]) rfl ⟨?_,(Below.refl _ _).alloc (Nat.le_refl _) _⟩;simp [zl,okc];omega)
    | skip
  rw [rounds_succ]
  go_wp2
  refine bodyPost_ret (v:=.bool true) (by simp [results,Try.results11,go_sem]) rfl ⟨?_,(Below.refl _ _).alloc (Nat.le_refl _) _⟩
  simp [zl,okc];omega
end Go.Proofs.Ytdefecnngccmoaa.Ed
namespace Go.Proofs.Ytdefecnngccmoaa.QE0
open Go.RowKit Go.Proofs.YtdefecnngccmoaaW.PrintWords Go.Proofs.YtdefecnngccmoaaW.PrintLast Go.Proofs.YtdefecnngccmoaaW.PrintMore
attribute [local go_sem] jX jV zk zi jM jN jU jY
set_option linter.unusedVariables false
set_option linter.unusedSimpArgs false
open Go.Proofs.Ytdefecnngccmoaa.Ed
def jH.f (a0_0 : Int) (a0_1 : Int) (a0_2 : Int) (a0_3 : Int) : Option Bool:=some (zl a0_0 a0_1 a0_2 a0_3)
theorem jH.calls (a0_0 : Int) (a0_1 : Int) (a0_2 : Int) (a0_3 : Int) (r : Bool) (w : World) (h : jH.f a0_0 a0_1 a0_2 a0_3 = some r) :
  Calls Try.prog 11 #[.agg #[.int .i64 a0_0,.int .i64 a0_1,.int .i64 a0_2,.int .i64 a0_3]] w fun e w' => e = .returned (.bool r) ∧ Below w.heap.size w w':=by
 obtain rfl:=Option.some.inj h
 exact xM a0_0 a0_1 a0_2 a0_3 w
def xN.f (a0 : ByteArray) (a1 : ByteArray) (a2_0 : Int) (a2_1 : Int) (a2_2 : Int) (a2_3 : Int) : Option (Int):=(jH.f a2_0 a2_1 a2_2 a2_3).bind fun t102 => (if t102 = true then (if (a0.size : Int) > 60 then (some 3) else (if (a1.size : Int) > 60 then (some 3) else (some 0))) else (some 2))
set_option maxHeartbeats 8000000 in
set_option maxRecDepth 100000 in
theorem xN.calls (a0 : ByteArray) (a1 : ByteArray) (a2_0 : Int) (a2_1 : Int) (a2_2 : Int) (a2_3 : Int) (r : Int) (w : World) (h : xN.f a0 a1 a2_0 a2_1 a2_2 a2_3 = some r) :
  Calls Try.prog 26 #[.string a0,.string a1,.agg #[.int .i64 a2_0,.int .i64 a2_1,.int .i64 a2_2,.int .i64 a2_3]] w fun e w' => e = .returned (.int .i64 r) ∧ Below w.heap.size w w':=by
 have hu23:=Try.underlying23
 have HB:=qd.mk (Below.refl w.heap.size w)
 have H : ((jH.f a2_0 a2_1 a2_2 a2_3).bind fun t102 => (if t102 = true then (if (a0.size : Int) > 60 then (some 3) else (if (a1.size : Int) > 60 then (some 3) else (some 0))) else (some 2))) = some r:=h
 clear h
 replace H:=Option.bind_eq_some_iff.mp H
 obtain ⟨t102,A40,H⟩:=H
 replace H : (if t102 = true then (if (a0.size : Int) > 60 then (some 3) else (if (a1.size : Int) > 60 then (some 3) else (some 0))) else (some 2)) = some r:=H
 have A4:=qd.mk A40
 clear A40
 by_cases c5 : t102 = true
 ·subst c5
  have H1 : (if (a0.size : Int) > 60 then (some 3) else (if (a1.size : Int) > 60 then (some 3) else (some 0))) = some r:=by rw [if_pos rfl] at H;exact H
  clear H
  have H:=H1
  clear H1
  by_cases c6 : (a0.size : Int) > 60
  ·rw [if_pos c6] at H
   have c6b0 : decide (60 < (a0.size : Int)) = true:=decide_eq_true c6
   have c6b1 : decide (60 < a0.size) = true:=decide_eq_true (by omega)
   clear c6
   obtain rfl:=Option.some.inj H
   go_enter Try.func26,Try.ntmps26
   go_wp2_with (first|((with_reducible refine ji (N:=5) rfl ?_);(try (refine jm (by rfl) ?_;dsimp only));refine jg ?hg (N:=5) ?hd (cs:=#[.int .i64 a2_0,.int .i64 a2_1,.int .i64 a2_2,.int .i64 a2_3]) (t:=23) ?hr ?_;(case hd => rfl);(case hg => rfl);(case hr => first|(go_simp;done)|(go_simp;rfl));intro gb101 hg w7 hbox hb;have n0_:=qd.mk (qI (by repeat (first|(with_reducible first|exact HB.out|apply qg|apply qc|apply qf)|exact HB.out)) hb);have n1_:=qd.mk (hbox);have n2_:=qd.mk ((by rw [hg];exact (qH (by repeat (first|(with_reducible first|exact HB.out|apply qg|apply qc|apply qf)|exact HB.out))) : w.heap.size ≤ gb101));have n3_:=qd.mk ((by rw [hg];exact (qH (by repeat (first|(with_reducible first|exact HB.out|apply qg|apply qc|apply qf)|exact HB.out))) : w.heap.size ≤ gb101));clear HB;have HB:=n0_;have BK101:=n1_;have GW101:=n2_;have GE101:=n3_;clear n0_ n1_ n2_ n3_;clear hb hbox hg;have hcz8_0 : w7.cell? ⟨gb101,0,none⟩ = some (.int .i64 a2_0):=(qi BK101.out 0).trans rfl;have hcz8_1 : w7.cell? ⟨gb101,1,none⟩ = some (.int .i64 a2_1):=(qi BK101.out 1).trans rfl;have hcz8_2 : w7.cell? ⟨gb101,2,none⟩ = some (.int .i64 a2_2):=(qi BK101.out 2).trans rfl;have hcz8_3 : w7.cell? ⟨gb101,3,none⟩ = some (.int .i64 a2_3):=(qi BK101.out 3).trans rfl;have hfz8_0:=ql BK101.out 0;have hfz8_1:=ql BK101.out 1;have hfz8_2:=ql BK101.out 2;have hfz8_3:=ql BK101.out 3)|((with_reducible refine qZ (f:=11) rfl ?_);refine jL (some 8) rfl rfl Try.func11 (by kernel_rfl) rfl #[.agg #[.int .i64 a2_0,.int .i64 a2_1,.int .i64 a2_2,.int .i64 a2_3]] rfl (by (try simp only [List.map_toArray,List.map_cons,List.map_nil]);first|done|rfl|(simp only [List.length_drop,List.length_take];rfl)) ?_;(with_reducible refine (jH.calls a2_0 a2_1 a2_2 a2_3 true _ A4.out).mono ?_);rintro e w9 ⟨rfl,hb⟩;refine ⟨_,rfl,?_⟩;have n0_:=qd.mk (qR (g:=gb101) (o:=.cells #[.int .i64 a2_0,.int .i64 a2_1,.int .i64 a2_2,.int .i64 a2_3] 23 (0,0)) (by (with_reducible repeat (first|refine qx ?_ _|refine qA ?_|refine qw ?_ _));exact BK101.out) hb);have n1_:=qd.mk (qI (by repeat (first|(with_reducible first|exact HB.out|apply qg|apply qc|apply qf|refine qp ?_ GE101.out)|exact HB.out)) hb);clear BK101;clear HB;have BK101:=n0_;have HB:=n1_;clear n0_ n1_;(try clear hb);(try clear hb2);(try clear hk);(try clear hi)))
   go_ret
   exact ⟨by first|rfl|(simp [qQ,qP] <;> rfl)|(simp [*,qQ,qP] <;> rfl),by repeat (first|(with_reducible first|exact HB.out|apply qg|apply qc|apply qf|refine qp ?_ GE101.out)|exact HB.out)⟩
  ·rw [if_neg c6] at H
   have c6b0 : decide (60 < (a0.size : Int)) = false:=decide_eq_false c6
   have c6b1 : decide (60 < a0.size) = false:=decide_eq_false (by omega)
   clear c6
   by_cases c10 : (a1.size : Int) > 60
   ·rw [if_pos c10] at H
    have c10b0 : decide (60 < (a1.size : Int)) = true:=decide_eq_true c10
    have c10b1 : decide (60 < a1.size) = true:=decide_eq_true (by omega)
    clear c10
    obtain rfl:=Option.some.inj H
    go_enter Try.func26,Try.ntmps26
    go_wp2_with (first|((with_reducible refine ji (N:=5) rfl ?_);(try (refine jm (by rfl) ?_;dsimp only));refine jg ?hg (N:=5) ?hd (cs:=#[.int .i64 a2_0,.int .i64 a2_1,.int .i64 a2_2,.int .i64 a2_3]) (t:=23) ?hr ?_;(case hd => rfl);(case hg => rfl);(case hr => first|(go_simp;done)|(go_simp;rfl));intro gb101 hg w11 hbox hb;have n0_:=qd.mk (qI (by repeat (first|(with_reducible first|exact HB.out|apply qg|apply qc|apply qf)|exact HB.out)) hb);have n1_:=qd.mk (hbox);have n2_:=qd.mk ((by rw [hg];exact (qH (by repeat (first|(with_reducible first|exact HB.out|apply qg|apply qc|apply qf)|exact HB.out))) : w.heap.size ≤ gb101));have n3_:=qd.mk ((by rw [hg];exact (qH (by repeat (first|(with_reducible first|exact HB.out|apply qg|apply qc|apply qf)|exact HB.out))) : w.heap.size ≤ gb101));clear HB;have HB:=n0_;have BK101:=n1_;have GW101:=n2_;have GE101:=n3_;clear n0_ n1_ n2_ n3_;clear hb hbox hg;have hcz12_0 : w11.cell? ⟨gb101,0,none⟩ = some (.int .i64 a2_0):=(qi BK101.out 0).trans rfl;have hcz12_1 : w11.cell? ⟨gb101,1,none⟩ = some (.int .i64 a2_1):=(qi BK101.out 1).trans rfl;have hcz12_2 : w11.cell? ⟨gb101,2,none⟩ = some (.int .i64 a2_2):=(qi BK101.out 2).trans rfl;have hcz12_3 : w11.cell? ⟨gb101,3,none⟩ = some (.int .i64 a2_3):=(qi BK101.out 3).trans rfl;have hfz12_0:=ql BK101.out 0;have hfz12_1:=ql BK101.out 1;have hfz12_2:=ql BK101.out 2;have hfz12_3:=ql BK101.out 3)|((with_reducible refine qZ (f:=11) rfl ?_);refine jL (some 8) rfl rfl Try.func11 (by kernel_rfl) rfl #[.agg #[.int .i64 a2_0,.int .i64 a2_1,.int .i64 a2_2,.int .i64 a2_3]] rfl (by (try simp only [List.map_toArray,List.map_cons,List.map_nil]);first|done|rfl|(simp only [List.length_drop,List.length_take];rfl)) ?_;(with_reducible refine (jH.calls a2_0 a2_1 a2_2 a2_3 true _ A4.out).mono ?_);rintro e w13 ⟨rfl,hb⟩;refine ⟨_,rfl,?_⟩;have n0_:=qd.mk (qR (g:=gb101) (o:=.cells #[.int .i64 a2_0,.int .i64 a2_1,.int .i64 a2_2,.int .i64 a2_3] 23 (0,0)) (by (with_reducible repeat (first|refine qx ?_ _|refine qA ?_|refine qw ?_ _));exact BK101.out) hb);have n1_:=qd.mk (qI (by repeat (first|(with_reducible first|exact HB.out|apply qg|apply qc|apply qf|refine qp ?_ GE101.out)|exact HB.out)) hb);clear BK101;clear HB;have BK101:=n0_;have HB:=n1_;clear n0_ n1_;(try clear hb);(try clear hb2);(try clear hk);(try clear hi)))
    go_ret
    exact ⟨by first|rfl|(simp [qQ,qP] <;> rfl)|(simp [*,qQ,qP] <;> rfl),by repeat (first|(with_reducible first|exact HB.out|apply qg|apply qc|apply qf|refine qp ?_ GE101.out)|exact HB.out)⟩
   ·rw [if_neg c10] at H
    have c10b0 : decide (60 < (a1.size : Int)) = false:=decide_eq_false c10
    have c10b1 : decide (60 < a1.size) = false:=decide_eq_false (by omega)
    clear c10
    obtain rfl:=Option.some.inj H
    go_enter Try.func26,Try.ntmps26
    go_wp2_with (first|((with_reducible refine ji (N:=5) rfl ?_);(try (refine jm (by rfl) ?_;dsimp only));refine jg ?hg (N:=5) ?hd (cs:=#[.int .i64 a2_0,.int .i64 a2_1,.int .i64 a2_2,.int .i64 a2_3]) (t:=23) ?hr ?_;(case hd => rfl);(case hg => rfl);(case hr => first|(go_simp;done)|(go_simp;rfl));intro gb101 hg w14 hbox hb;have n0_:=qd.mk (qI (by repeat (first|(with_reducible first|exact HB.out|apply qg|apply qc|apply qf)|exact HB.out)) hb);have n1_:=qd.mk (hbox);have n2_:=qd.mk ((by rw [hg];exact (qH (by repeat (first|(with_reducible first|exact HB.out|apply qg|apply qc|apply qf)|exact HB.out))) : w.heap.size ≤ gb101));have n3_:=qd.mk ((by rw [hg];exact (qH (by repeat (first|(with_reducible first|exact HB.out|apply qg|apply qc|apply qf)|exact HB.out))) : w.heap.size ≤ gb101));clear HB;have HB:=n0_;have BK101:=n1_;have GW101:=n2_;have GE101:=n3_;clear n0_ n1_ n2_ n3_;clear hb hbox hg;have hcz15_0 : w14.cell? ⟨gb101,0,none⟩ = some (.int .i64 a2_0):=(qi BK101.out 0).trans rfl;have hcz15_1 : w14.cell? ⟨gb101,1,none⟩ = some (.int .i64 a2_1):=(qi BK101.out 1).trans rfl;have hcz15_2 : w14.cell? ⟨gb101,2,none⟩ = some (.int .i64 a2_2):=(qi BK101.out 2).trans rfl;have hcz15_3 : w14.cell? ⟨gb101,3,none⟩ = some (.int .i64 a2_3):=(qi BK101.out 3).trans rfl;have hfz15_0:=ql BK101.out 0;have hfz15_1:=ql BK101.out 1;have hfz15_2:=ql BK101.out 2;have hfz15_3:=ql BK101.out 3)|((with_reducible refine qZ (f:=11) rfl ?_);refine jL (some 8) rfl rfl Try.func11 (by kernel_rfl) rfl #[.agg #[.int .i64 a2_0,.int .i64 a2_1,.int .i64 a2_2,.int .i64 a2_3]] rfl (by (try simp only [List.map_toArray,List.map_cons,List.map_nil]);first|done|rfl|(simp only [List.length_drop,List.length_take];rfl)) ?_;(with_reducible refine (jH.calls a2_0 a2_1 a2_2 a2_3 true _ A4.out).mono ?_);rintro e w16 ⟨rfl,hb⟩;refine ⟨_,rfl,?_⟩;have n0_:=qd.mk (qR (g:=gb101) (o:=.cells #[.int .i64 a2_0,.int .i64 a2_1,.int .i64 a2_2,.int .i64 a2_3] 23 (0,0)) (by (with_reducible repeat (first|refine qx ?_ _|refine qA ?_|refine qw ?_ _));exact BK101.out) hb);have n1_:=qd.mk (qI (by repeat (first|(with_reducible first|exact HB.out|apply qg|apply qc|apply qf|refine qp ?_ GE101.out)|exact HB.out)) hb);clear BK101;clear HB;have BK101:=n0_;have HB:=n1_;clear n0_ n1_;(try clear hb);(try clear hb2);(try clear hk);(try clear hi)))
    go_ret
    exact ⟨by first|rfl|(simp [qQ,qP] <;> rfl)|(simp [*,qQ,qP] <;> rfl),by repeat (first|(with_reducible first|exact HB.out|apply qg|apply qc|apply qf|refine qp ?_ GE101.out)|exact HB.out)⟩
 ·replace c5:=Bool.eq_false_iff.mpr c5
  subst c5
  have H1 : (some 2) = some r:=by rw [if_neg (show ¬ (false = true) by decide)] at H;exact H
  clear H
  have H:=H1
  clear H1
  obtain rfl:=Option.some.inj H
  go_enter Try.func26,Try.ntmps26
  go_wp2_with (first|((with_reducible refine ji (N:=5) rfl ?_);(try (refine jm (by rfl) ?_;dsimp only));refine jg ?hg (N:=5) ?hd (cs:=#[.int .i64 a2_0,.int .i64 a2_1,.int .i64 a2_2,.int .i64 a2_3]) (t:=23) ?hr ?_;(case hd => rfl);(case hg => rfl);(case hr => first|(go_simp;done)|(go_simp;rfl));intro gb101 hg w17 hbox hb;have n0_:=qd.mk (qI (by repeat (first|(with_reducible first|exact HB.out|apply qg|apply qc|apply qf)|exact HB.out)) hb);have n1_:=qd.mk (hbox);have n2_:=qd.mk ((by rw [hg];exact (qH (by repeat (first|(with_reducible first|exact HB.out|apply qg|apply qc|apply qf)|exact HB.out))) : w.heap.size ≤ gb101));have n3_:=qd.mk ((by rw [hg];exact (qH (by repeat (first|(with_reducible first|exact HB.out|apply qg|apply qc|apply qf)|exact HB.out))) : w.heap.size ≤ gb101));clear HB;have HB:=n0_;have BK101:=n1_;have GW101:=n2_;have GE101:=n3_;clear n0_ n1_ n2_ n3_;clear hb hbox hg;have hcz18_0 : w17.cell? ⟨gb101,0,none⟩ = some (.int .i64 a2_0):=(qi BK101.out 0).trans rfl;have hcz18_1 : w17.cell? ⟨gb101,1,none⟩ = some (.int .i64 a2_1):=(qi BK101.out 1).trans rfl;have hcz18_2 : w17.cell? ⟨gb101,2,none⟩ = some (.int .i64 a2_2):=(qi BK101.out 2).trans rfl;have hcz18_3 : w17.cell? ⟨gb101,3,none⟩ = some (.int .i64 a2_3):=(qi BK101.out 3).trans rfl;have hfz18_0:=ql BK101.out 0;have hfz18_1:=ql BK101.out 1;have hfz18_2:=ql BK101.out 2;have hfz18_3:=ql BK101.out 3)|((with_reducible refine qZ (f:=11) rfl ?_);refine jL (some 8) rfl rfl Try.func11 (by kernel_rfl) rfl #[.agg #[.int .i64 a2_0,.int .i64 a2_1,.int .i64 a2_2,.int .i64 a2_3]] rfl (by (try simp only [List.map_toArray,List.map_cons,List.map_nil]);first|done|rfl|(simp only [List.length_drop,List.length_take];rfl)) ?_;(with_reducible refine (jH.calls a2_0 a2_1 a2_2 a2_3 false _ A4.out).mono ?_);rintro e w19 ⟨rfl,hb⟩;refine ⟨_,rfl,?_⟩;have n0_:=qd.mk (qR (g:=gb101) (o:=.cells #[.int .i64 a2_0,.int .i64 a2_1,.int .i64 a2_2,.int .i64 a2_3] 23 (0,0)) (by (with_reducible repeat (first|refine qx ?_ _|refine qA ?_|refine qw ?_ _));exact BK101.out) hb);have n1_:=qd.mk (qI (by repeat (first|(with_reducible first|exact HB.out|apply qg|apply qc|apply qf|refine qp ?_ GE101.out)|exact HB.out)) hb);clear BK101;clear HB;have BK101:=n0_;have HB:=n1_;clear n0_ n1_;(try clear hb);(try clear hb2);(try clear hk);(try clear hi)))
  go_ret
  exact ⟨by first|rfl|(simp [qQ,qP] <;> rfl)|(simp [*,qQ,qP] <;> rfl),by repeat (first|(with_reducible first|exact HB.out|apply qg|apply qc|apply qf|refine qp ?_ GE101.out)|exact HB.out)⟩
def xm.f (a0 : ByteArray) (a1 : ByteArray) : Option (Bool):=if (a0.size : Int) > 1 then (if (a1.size : Int) > 1 then (if 0 < (a0.size : Int) then (if 1 < (a1.size : Int) then (if (bt a0 0) = (bt a1 1) then (if 1 < (a0.size : Int) then (if 0 < (a1.size : Int) then (if (bt a0 1) = (bt a1 0) then (some ((bt a0 0) != (bt a0 1))) else (some false)) else (none)) else (none)) else (some false)) else (none)) else (none)) else (some false)) else (some false)
set_option maxHeartbeats 8000000 in
set_option maxRecDepth 100000 in
theorem xm.calls (a0 : ByteArray) (a1 : ByteArray) (r : Bool) (w : World) (h : xm.f a0 a1 = some r) :
  Calls Try.prog 28 #[.string a0,.string a1] w fun e w' => e = .returned (.bool r) ∧ jW w w':=by
 have H : (if (a0.size : Int) > 1 then (if (a1.size : Int) > 1 then (if 0 < (a0.size : Int) then (if 1 < (a1.size : Int) then (if (bt a0 0) = (bt a1 1) then (if 1 < (a0.size : Int) then (if 0 < (a1.size : Int) then (if (bt a0 1) = (bt a1 0) then (some ((bt a0 0) != (bt a0 1))) else (some false)) else (none)) else (none)) else (some false)) else (none)) else (none)) else (some false)) else (some false)) = some r:=h
 clear h
 by_cases c3 : (a0.size : Int) > 1
 ·rw [if_pos c3] at H
  have c3b0 : decide (1 < (a0.size : Int)) = true:=decide_eq_true c3
  have c3b1 : decide (1 < a0.size) = true:=decide_eq_true (by omega)
  clear c3
  by_cases c4 : (a1.size : Int) > 1
  ·rw [if_pos c4] at H
   have c4b0 : decide (1 < (a1.size : Int)) = true:=decide_eq_true c4
   have c4b1 : decide (1 < a1.size) = true:=decide_eq_true (by omega)
   clear c4
   by_cases c5 : 0 < (a0.size : Int)
   ·rw [if_pos c5] at H
    have c5b0 : decide (0 < (a0.size : Int)) = true:=decide_eq_true c5
    have c5b1 : decide (0 < a0.size) = true:=decide_eq_true (by omega)
    clear c5
    by_cases c7 : 1 < (a1.size : Int)
    ·rw [if_pos c7] at H
     have c7b0 : decide (1 < (a1.size : Int)) = true:=decide_eq_true c7
     have c7b1 : decide (1 < a1.size) = true:=decide_eq_true (by omega)
     clear c7
     by_cases c9 : (bt a0 0) = (bt a1 1)
     ·rw [if_pos c9] at H
      have c9b0 : ((bt a0 0) == (bt a1 1)) = true:=beq_iff_eq.mpr c9
      have c9b1 : ((bt a0 0) != (bt a1 1)) = false:=bne_eq_false_iff_eq.mpr c9
      clear c9
      by_cases c10 : 1 < (a0.size : Int)
      ·rw [if_pos c10] at H
       have c10b0 : decide (1 < (a0.size : Int)) = true:=decide_eq_true c10
       have c10b1 : decide (1 < a0.size) = true:=decide_eq_true (by omega)
       clear c10
       by_cases c12 : 0 < (a1.size : Int)
       ·rw [if_pos c12] at H
        have c12b0 : decide (0 < (a1.size : Int)) = true:=decide_eq_true c12
        have c12b1 : decide (0 < a1.size) = true:=decide_eq_true (by omega)
        clear c12
        by_cases c14 : (bt a0 1) = (bt a1 0)
        ·rw [if_pos c14] at H
         have c14b0 : ((bt a0 1) == (bt a1 0)) = true:=beq_iff_eq.mpr c14
         have c14b1 : ((bt a0 1) != (bt a1 0)) = false:=bne_eq_false_iff_eq.mpr c14
         clear c14
         obtain rfl:=Option.some.inj H
         have p6 : 0 ≤ (0 : Int):=(by omega)
         have q6 : 0 < a0.size:=(by have : (0 : Int) < (a0.size : Int):=of_decide_eq_true (by first|(with_reducible assumption)|assumption);omega)
         have hx6 : ∀ h : 0 < a0.size,((a0[0]'h).toNat : Int) = bt a0 0:=jI a0 0
         clear p6
         have qi6 : (0 < (a0.size : Int)) = True:=eq_true (of_decide_eq_true (by first|(with_reducible assumption)|assumption))
         replace q6:=eq_true q6
         have p8 : 0 ≤ (1 : Int):=(by omega)
         have q8 : 1 < a1.size:=(by have : (1 : Int) < (a1.size : Int):=of_decide_eq_true (by first|(with_reducible assumption)|assumption);omega)
         have hx8 : ∀ h : 1 < a1.size,((a1[1]'h).toNat : Int) = bt a1 1:=jI a1 1
         clear p8
         have qi8 : (1 < (a1.size : Int)) = True:=eq_true (of_decide_eq_true (by first|(with_reducible assumption)|assumption))
         replace q8:=eq_true q8
         have p11 : 0 ≤ (1 : Int):=(by omega)
         have q11 : 1 < a0.size:=(by have : (1 : Int) < (a0.size : Int):=of_decide_eq_true (by first|(with_reducible assumption)|assumption);omega)
         have hx11 : ∀ h : 1 < a0.size,((a0[1]'h).toNat : Int) = bt a0 1:=jI a0 1
         clear p11
         have qi11 : (1 < (a0.size : Int)) = True:=eq_true (of_decide_eq_true (by first|(with_reducible assumption)|assumption))
         replace q11:=eq_true q11
         have p13 : 0 ≤ (0 : Int):=(by omega)
         have q13 : 0 < a1.size:=(by have : (0 : Int) < (a1.size : Int):=of_decide_eq_true (by first|(with_reducible assumption)|assumption);omega)
         have hx13 : ∀ h : 0 < a1.size,((a1[0]'h).toNat : Int) = bt a1 0:=jI a1 0
         clear p13
         have qi13 : (0 < (a1.size : Int)) = True:=eq_true (of_decide_eq_true (by first|(with_reducible assumption)|assumption))
         replace q13:=eq_true q13
         have p15 : 0 ≤ (0 : Int):=(by omega)
         have q15 : 0 < a0.size:=(by have : (0 : Int) < (a0.size : Int):=of_decide_eq_true (by first|(with_reducible assumption)|assumption);omega)
         have hx15 : ∀ h : 0 < a0.size,((a0[0]'h).toNat : Int) = bt a0 0:=jI a0 0
         clear p15
         have qi15 : (0 < (a0.size : Int)) = True:=eq_true (of_decide_eq_true (by first|(with_reducible assumption)|assumption))
         replace q15:=eq_true q15
         have p16 : 0 ≤ (1 : Int):=(by omega)
         have q16 : 1 < a0.size:=(by have : (1 : Int) < (a0.size : Int):=of_decide_eq_true (by first|(with_reducible assumption)|assumption);omega)
         have hx16 : ∀ h : 1 < a0.size,((a0[1]'h).toNat : Int) = bt a0 1:=jI a0 1
         clear p16
         have qi16 : (1 < (a0.size : Int)) = True:=eq_true (of_decide_eq_true (by first|(with_reducible assumption)|assumption))
         replace q16:=eq_true q16
         go_enter Try.func28,Try.ntmps28
         go_wp2
         repeat (go_quiet (fail);try go_wp2)
         go_ret
         exact ⟨by first|rfl|(simp;done)|(simp [*];done),by repeat (first|exact jW.refl _|apply jW.step)⟩
        ·rw [if_neg c14] at H
         have c14b0 : ((bt a0 1) == (bt a1 0)) = false:=beq_eq_false_iff_ne.mpr c14
         have c14b1 : ((bt a0 1) != (bt a1 0)) = true:=bne_iff_ne.mpr c14
         obtain rfl:=Option.some.inj H
         have p6 : 0 ≤ (0 : Int):=(by omega)
         have q6 : 0 < a0.size:=(by have : (0 : Int) < (a0.size : Int):=of_decide_eq_true (by first|(with_reducible assumption)|assumption);omega)
         have hx6 : ∀ h : 0 < a0.size,((a0[0]'h).toNat : Int) = bt a0 0:=jI a0 0
         clear p6
         have qi6 : (0 < (a0.size : Int)) = True:=eq_true (of_decide_eq_true (by first|(with_reducible assumption)|assumption))
         replace q6:=eq_true q6
         have p8 : 0 ≤ (1 : Int):=(by omega)
         have q8 : 1 < a1.size:=(by have : (1 : Int) < (a1.size : Int):=of_decide_eq_true (by first|(with_reducible assumption)|assumption);omega)
         have hx8 : ∀ h : 1 < a1.size,((a1[1]'h).toNat : Int) = bt a1 1:=jI a1 1
         clear p8
         have qi8 : (1 < (a1.size : Int)) = True:=eq_true (of_decide_eq_true (by first|(with_reducible assumption)|assumption))
         replace q8:=eq_true q8
         have p11 : 0 ≤ (1 : Int):=(by omega)
         have q11 : 1 < a0.size:=(by have : (1 : Int) < (a0.size : Int):=of_decide_eq_true (by first|(with_reducible assumption)|assumption);omega)
         have hx11 : ∀ h : 1 < a0.size,((a0[1]'h).toNat : Int) = bt a0 1:=jI a0 1
         clear p11
         have qi11 : (1 < (a0.size : Int)) = True:=eq_true (of_decide_eq_true (by first|(with_reducible assumption)|assumption))
         replace q11:=eq_true q11
         have p13 : 0 ≤ (0 : Int):=(by omega)
         have q13 : 0 < a1.size:=(by have : (0 : Int) < (a1.size : Int):=of_decide_eq_true (by first|(with_reducible assumption)|assumption);omega)
         have hx13 : ∀ h : 0 < a1.size,((a1[0]'h).toNat : Int) = bt a1 0:=jI a1 0
         clear p13
         have qi13 : (0 < (a1.size : Int)) = True:=eq_true (of_decide_eq_true (by first|(with_reducible assumption)|assumption))
         replace q13:=eq_true q13
         go_enter Try.func28,Try.ntmps28
         go_wp2
         repeat (go_quiet (fail);try go_wp2)
         go_ret
         exact ⟨by first|rfl|(simp;done)|(simp [*];done),by repeat (first|exact jW.refl _|apply jW.step)⟩
       ·rw [if_neg c12] at H
        exact absurd H (by simp)
      ·rw [if_neg c10] at H
       exact absurd H (by simp)
     ·rw [if_neg c9] at H
      have c9b0 : ((bt a0 0) == (bt a1 1)) = false:=beq_eq_false_iff_ne.mpr c9
      have c9b1 : ((bt a0 0) != (bt a1 1)) = true:=bne_iff_ne.mpr c9
      obtain rfl:=Option.some.inj H
      have p6 : 0 ≤ (0 : Int):=(by omega)
      have q6 : 0 < a0.size:=(by have : (0 : Int) < (a0.size : Int):=of_decide_eq_true (by first|(with_reducible assumption)|assumption);omega)
      have hx6 : ∀ h : 0 < a0.size,((a0[0]'h).toNat : Int) = bt a0 0:=jI a0 0
      clear p6
      have qi6 : (0 < (a0.size : Int)) = True:=eq_true (of_decide_eq_true (by first|(with_reducible assumption)|assumption))
      replace q6:=eq_true q6
      have p8 : 0 ≤ (1 : Int):=(by omega)
      have q8 : 1 < a1.size:=(by have : (1 : Int) < (a1.size : Int):=of_decide_eq_true (by first|(with_reducible assumption)|assumption);omega)
      have hx8 : ∀ h : 1 < a1.size,((a1[1]'h).toNat : Int) = bt a1 1:=jI a1 1
      clear p8
      have qi8 : (1 < (a1.size : Int)) = True:=eq_true (of_decide_eq_true (by first|(with_reducible assumption)|assumption))
      replace q8:=eq_true q8
      go_enter Try.func28,Try.ntmps28
      go_wp2
      repeat (go_quiet (fail);try go_wp2)
      go_ret
      exact ⟨by first|rfl|(simp;done)|(simp [*];done),by repeat (first|exact jW.refl _|apply jW.step)⟩
    ·rw [if_neg c7] at H
     exact absurd H (by simp)
   ·rw [if_neg c5] at H
    exact absurd H (by simp)
  ·rw [if_neg c4] at H
   have c4b0 : decide (1 < (a1.size : Int)) = false:=decide_eq_false c4
   have c4b1 : decide (1 < a1.size) = false:=decide_eq_false (by omega)
   clear c4
   obtain rfl:=Option.some.inj H
   go_enter Try.func28,Try.ntmps28
   go_wp2
   repeat (go_quiet (fail);try go_wp2)
   go_ret
   exact ⟨by first|rfl|(simp;done)|(simp [*];done),by repeat (first|exact jW.refl _|apply jW.step)⟩
 ·rw [if_neg c3] at H
  have c3b0 : decide (1 < (a0.size : Int)) = false:=decide_eq_false c3
  have c3b1 : decide (1 < a0.size) = false:=decide_eq_false (by omega)
  clear c3
  obtain rfl:=Option.some.inj H
  go_enter Try.func28,Try.ntmps28
  go_wp2
  repeat (go_quiet (fail);try go_wp2)
  go_ret
  exact ⟨by first|rfl|(simp;done)|(simp [*];done),by repeat (first|exact jW.refl _|apply jW.step)⟩
end Go.Proofs.Ytdefecnngccmoaa.QE0
namespace Go.Proofs.Ytdefecnngccmoaa.Ed
open Go.RowKit Go.Proofs.YtdefecnngccmoaaW.PrintWords
def tk (b n : Int) : Int:=if b < 0 ∨ n < b then n else b
def Jc (g : Nat) (b n : Int) (w : World) (e : Ending) (w' : World) : Prop :=
  e = .returned (.tuple #[]) ∧ w'.heap[g]? = some (.cells #[.int .i64 (tk b n)] 3 (0,0)) ∧ w.grownBy w' (some g)
theorem ZM {b n : Int} (h : b < 0 ∨ n < b) : tk b n = n:=if_pos h
theorem V8 {b n : Int} (h : ¬ (b < 0 ∨ n < b)) : tk b n = b:=if_neg h
theorem Qw (W : World) (b j : Nat) (v : Value) : W.grownBy (W.setCell ⟨b,j,none⟩ v) (some b) :=
  ⟨rfl,rfl,rfl,by simp [World.setCell],fun i _ hne => Below.heap_setCell W _ v i (fun he => hne (by rw [he]))⟩
theorem Vk {w w' : World} {r : Option Nat} (h : w.grownBy w' r) (n : Nat) : w.grownBy (w'.drewN n) r:=⟨h.os,h.tape,h.output,h.size,h.block⟩
set_option maxHeartbeats 1000000 in
theorem zn (g : Nat) (b n : Int) (w : World) (hg : w.heap[g]? = some (.cells #[.int .i64 b] 3 (0,0))) :
    Calls Try.prog 27 #[.int .i64 n,.pointer (some ⟨g,0,none⟩)] w (Jc g b n w):=by
  have hc : w.cell? ⟨g,0,none⟩ = some (.int .i64 b):=(qi hg 0).trans rfl
  have hf : w.frozen? ⟨g,0,none⟩ = false:=ql hg 0
  have Hg:=Lib.hid hg
  clear hg
  go_enter Try.func27,Try.ntmps27
  go_wp2
  · go_end0
    refine ⟨rfl,?_,Qw _ _ _ _⟩
    rw [ZM (by assumption)]
    exact (zR Hg.out 0 _).trans rfl
  · go_end0
    refine ⟨rfl,?_,.refl _ _⟩
    rw [V8 (by omega)]
    exact Hg.out
  · go_end0
    refine ⟨rfl,?_,Qw _ _ _ _⟩
    rw [ZM (by omega)]
    exact (zR Hg.out 0 _).trans rfl
end Go.Proofs.Ytdefecnngccmoaa.Ed
namespace Lb
structure Cst where
  ins : Int
  del : Int
  chg : Int
  swp : Int
structure Cst.Ok (c : Cst) : Prop where
  i1 : 1 ≤ c.ins
  i2 : c.ins ≤ 1000
  d1 : 1 ≤ c.del
  d2 : c.del ≤ 1000
  c1 : 1 ≤ c.chg
  c2 : c.chg ≤ 1000
  s1 : 1 ≤ c.swp
  s2 : c.swp ≤ 1000
def zg : List Int → List Int → Bool
  | a :: a2 :: _,b :: b2 :: _ => a == b2 && (a2 == b && a != a2)
  | _,_ => false
def one (c : Cst) (a b : Int) : Int:=if a = b then 0 else c.chg
def dist (c : Cst) : List Int → List Int → Int
  | [],[] => 0
  | [],_ :: t => dist c [] t + c.ins
  | _ :: s,[] => dist c s [] + c.del
  | a :: s,b :: t =>
    min (min (if zg (a :: s) (b :: t) then min (dist c s t + one c a b) (dist c (s.drop 1) (t.drop 1) + c.swp) else dist c s t + one c a b)
      (dist c s (b :: t) + c.del)) (dist c (a :: s) t + c.ins)
termination_by s t => s.length + t.length
decreasing_by all_goals (simp;try omega)
theorem vL (c : Cst) : dist c [] [] = 0:=by rw [dist]
theorem vE (c : Cst) (b : Int) (t : List Int) : dist c [] (b :: t) = dist c [] t + c.ins:=by rw [dist]
theorem vC (c : Cst) (a : Int) (s : List Int) : dist c (a :: s) [] = dist c s [] + c.del:=by rw [dist]
theorem xZ (c : Cst) (a b : Int) (s t : List Int) : dist c (a :: s) (b :: t) =
    min (min (if zg (a :: s) (b :: t) then min (dist c s t + one c a b) (dist c (s.drop 1) (t.drop 1) + c.swp) else dist c s t + one c a b)
      (dist c s (b :: t) + c.del)) (dist c (a :: s) t + c.ins):=by rw [dist]
theorem VM {c : Cst} (h : c.Ok) (a b : Int) : 0 ≤ one c a b ∧ one c a b ≤ 1000:=by
  unfold one;have:=h.c1;have:=h.c2;split <;> omega
theorem vN {c : Cst} (h : c.Ok) : ∀ s t : List Int,0 ≤ dist c s t ∧ dist c s t ≤ 1000 * (s.length + t.length)
  | [],[] => by simp [vL]
  | [],b :: t => by
    have ih:=vN h [] t;have:=h.i1;have:=h.i2
    rw [vE];simp only [List.length_cons,List.length_nil] at *;omega
  | a :: s,[] => by
    have ih:=vN h s [];have:=h.d1;have:=h.d2
    rw [vC];simp only [List.length_cons,List.length_nil] at *;omega
  | a :: s,b :: t => by
    have i1:=vN h s t;have i2:=vN h s (b :: t);have i3:=vN h (a :: s) t
    have i4:=vN h (s.drop 1) (t.drop 1)
    have:=h.d1;have:=h.d2;have:=h.i1;have:=h.i2;have:=h.s1;have:=h.s2
    have o:=VM h a b
    rw [xZ];simp only [List.length_cons,List.length_drop] at *
    split <;> omega
termination_by s t => s.length + t.length
decreasing_by all_goals (simp;try omega)
end Lb
namespace Go.Proofs.Ytdefecnngccmoaa.Ed
open Go.RowKit Go.Proofs.YtdefecnngccmoaaW.PrintWords
def ints (xs : List Int) : Array Value:=(xs.map (Value.int .i64)).toArray
theorem ints_at (xs : List Int) (j : Nat) (h : j < xs.length) : (ints xs)[j]? = some (.int .i64 (xs.getD j 0)):=by
  simp [ints,h]
theorem ints_set (xs : List Int) (j : Nat) (x : Int) : (ints xs).setIfInBounds j (.int .i64 x) = ints (xs.set j x):=by
  apply Array.ext'
  simp [ints,List.map_set]
theorem XE (n : Nat) : madeCells #[.int .i64 0] n = ints (List.replicate n 0):=by
  apply Array.ext
  · simp [ints,madeCells]
  · intro i h1 h2
    simp [ints,madeCells,Nat.mod_one]
theorem Zz (m : Nat) (h : m ≤ 1000000) : ∀ W : World,(Instr.makeSlice 62 (.int .i64 (m : Int)) (.int .i64 (m : Int))).run Try.prog W = .ok (.slice (some ⟨W.heap.size,0,none⟩) m m) (W.alloc (.cells (ints (List.replicate m 0)) 3)):=by
  intro W
  rw [← XE]
  exact Jy 62 3 .i64 8 Try.underlying62 (by kernel_rfl) (by omega) m (by omega) W
def sl3 (b m : Nat) : Value:=.slice (some ⟨b,0,none⟩) m m
structure DSt (w W : World) (gC g9 b0 b1 b2 : Nat) (c : Lb.Cst) (R0 R1 R2 : List Int) (m : Nat) : Prop where
  below : Below w.heap.size w W
  hC : W.heap[gC]? = some (.cells #[.int .i64 c.ins,.int .i64 c.del,.int .i64 c.chg,.int .i64 c.swp] 23 (0,0))
  h9 : W.heap[g9]? = some (.cells #[.slice (some ⟨b0,0,none⟩) (m + 1) (m + 1),.slice (some ⟨b1,0,none⟩) (m + 1) (m + 1),.slice (some ⟨b2,0,none⟩) (m + 1) (m + 1)] 63 (0,0))
  h0 : W.heap[b0]? = some (.cells (ints R0) 3 (0,0))
  h1 : W.heap[b1]? = some (.cells (ints R1) 3 (0,0))
  h2 : W.heap[b2]? = some (.cells (ints R2) 3 (0,0))
  l0 : R0.length = m + 1
  l1 : R1.length = m + 1
  l2 : R2.length = m + 1
  n01 : b0 ≠ b1
  n02 : b0 ≠ b2
  n12 : b1 ≠ b2
  e9 : w.heap.size ≤ g9
  e0 : w.heap.size ≤ b0
  e1 : w.heap.size ≤ b1
  e2 : w.heap.size ≤ b2
namespace DSt
variable {w W W' : World} {gC g9 b0 b1 b2 : Nat} {c : Lb.Cst} {R0 R1 R2 : List Int} {m : Nat}
theorem move (h : DSt w W gC g9 b0 b1 b2 c R0 R1 R2 m) (hb : Below w.heap.size w W') (hk : ∀ k,k = gC ∨ k = g9 ∨ k = b0 ∨ k = b1 ∨ k = b2 → W'.heap[k]? = W.heap[k]?) :
    DSt w W' gC g9 b0 b1 b2 c R0 R1 R2 m :=
  ⟨hb,(hk _ (by simp)).trans h.hC,(hk _ (by simp)).trans h.h9,(hk _ (by simp)).trans h.h0,(hk _ (by simp)).trans h.h1,(hk _ (by simp)).trans h.h2,h.l0,h.l1,h.l2,h.n01,h.n02,h.n12,h.e9,h.e0,h.e1,h.e2⟩
theorem lt (h : DSt w W gC g9 b0 b1 b2 c R0 R1 R2 m) : ∀ k,k = gC ∨ k = g9 ∨ k = b0 ∨ k = b1 ∨ k = b2 → k < W.heap.size:=by
  rintro k (rfl|rfl|rfl|rfl|rfl)
  · exact jw h.hC
  · exact jw h.h9
  · exact jw h.h0
  · exact jw h.h1
  · exact jw h.h2
theorem size (h : DSt w W gC g9 b0 b1 b2 c R0 R1 R2 m) : w.heap.size ≤ W.heap.size:=h.below.size
theorem alloc (h : DSt w W gC g9 b0 b1 b2 c R0 R1 R2 m) (o : Obj) : DSt w (W.alloc o) gC g9 b0 b1 b2 c R0 R1 R2 m :=
  h.move (h.below.alloc h.size o) fun k hk => Below.heap_alloc W o k (h.lt k hk)
theorem drewN (h : DSt w W gC g9 b0 b1 b2 c R0 R1 R2 m) (n : Nat) : DSt w (W.drewN n) gC g9 b0 b1 b2 c R0 R1 R2 m :=
  h.move (qc h.below n) fun _ _ => rfl
theorem grown (h : DSt w W gC g9 b0 b1 b2 c R0 R1 R2 m) {g : Nat} (hg : W.grownBy W' (some g)) (he : w.heap.size ≤ g) (hn : ∀ k,k = gC ∨ k = g9 ∨ k = b0 ∨ k = b1 ∨ k = b2 → k ≠ g) :
    DSt w W' gC g9 b0 b1 b2 c R0 R1 R2 m :=
  h.move (h.below.grown hg h.size (by rintro k hk;cases hk;exact he)) fun k hk => hg.block k (h.lt k hk) (fun e => hn k hk (Option.some.inj e))
theorem cost (h : DSt w W gC g9 b0 b1 b2 c R0 R1 R2 m) : W.cell? ⟨gC,0,none⟩ = some (.int .i64 c.ins) ∧ W.cell? ⟨gC,1,none⟩ = some (.int .i64 c.del) ∧ W.cell? ⟨gC,2,none⟩ = some (.int .i64 c.chg) ∧ W.cell? ⟨gC,3,none⟩ = some (.int .i64 c.swp) :=
  ⟨(qi h.hC 0).trans rfl,(qi h.hC 1).trans rfl,(qi h.hC 2).trans rfl,(qi h.hC 3).trans rfl⟩
theorem arr (h : DSt w W gC g9 b0 b1 b2 c R0 R1 R2 m) : W.cell? ⟨g9,0,none⟩ = some (.slice (some ⟨b0,0,none⟩) (m + 1) (m + 1)) ∧ W.cell? ⟨g9,1,none⟩ = some (.slice (some ⟨b1,0,none⟩) (m + 1) (m + 1)) ∧ W.cell? ⟨g9,2,none⟩ = some (.slice (some ⟨b2,0,none⟩) (m + 1) (m + 1)) :=
  ⟨(qi h.h9 0).trans rfl,(qi h.h9 1).trans rfl,(qi h.h9 2).trans rfl⟩
theorem at0 (h : DSt w W gC g9 b0 b1 b2 c R0 R1 R2 m) (j : Nat) (hj : j ≤ m) : W.cell? ⟨b0,j,none⟩ = some (.int .i64 (R0.getD j 0)):=(qi h.h0 j).trans (ints_at _ _ (by have:=h.l0;omega))
theorem at1 (h : DSt w W gC g9 b0 b1 b2 c R0 R1 R2 m) (j : Nat) (hj : j ≤ m) : W.cell? ⟨b1,j,none⟩ = some (.int .i64 (R1.getD j 0)):=(qi h.h1 j).trans (ints_at _ _ (by have:=h.l1;omega))
theorem at2 (h : DSt w W gC g9 b0 b1 b2 c R0 R1 R2 m) (j : Nat) (hj : j ≤ m) : W.cell? ⟨b2,j,none⟩ = some (.int .i64 (R2.getD j 0)):=(qi h.h2 j).trans (ints_at _ _ (by have:=h.l2;omega))
theorem n9 (h : DSt w W gC g9 b0 b1 b2 c R0 R1 R2 m) : g9 ≠ b0 ∧ g9 ≠ b1 ∧ g9 ≠ b2:=⟨xG h.h9 h.h0 (by decide),xG h.h9 h.h1 (by decide),xG h.h9 h.h2 (by decide)⟩
theorem nC (h : DSt w W gC g9 b0 b1 b2 c R0 R1 R2 m) : gC ≠ g9 ∧ gC ≠ b0 ∧ gC ≠ b1 ∧ gC ≠ b2:=⟨xG h.hC h.h9 (by decide),xG h.hC h.h0 (by decide),xG h.hC h.h1 (by decide),xG h.hC h.h2 (by decide)⟩
theorem set0 (h : DSt w W gC g9 b0 b1 b2 c R0 R1 R2 m) (j : Nat) (x : Int) : DSt w (W.setCell ⟨b0,j,none⟩ (.int .i64 x)) gC g9 b0 b1 b2 c (R0.set j x) R1 R2 m :=
  have f : ∀ k,k ≠ b0 → (W.setCell ⟨b0,j,none⟩ (.int .i64 x)).heap[k]? = W.heap[k]?:=fun k hk => Below.heap_setCell W _ _ k hk
  ⟨h.below.setCell h.e0 _,(f _ h.nC.2.1).trans h.hC,(f _ h.n9.1).trans h.h9,by rw [zR h.h0,ints_set],(f _ h.n01.symm).trans h.h1,(f _ h.n02.symm).trans h.h2,by simp [h.l0],h.l1,h.l2,h.n01,h.n02,h.n12,h.e9,h.e0,h.e1,h.e2⟩
theorem turn (h : DSt w W gC g9 b0 b1 b2 c R0 R1 R2 m) :
    DSt w (((W.setCell ⟨g9,0,none⟩ (.slice (some ⟨b2,0,none⟩) (m + 1) (m + 1))).setCell ⟨g9,1,none⟩ (.slice (some ⟨b0,0,none⟩) (m + 1) (m + 1))).setCell ⟨g9,2,none⟩ (.slice (some ⟨b1,0,none⟩) (m + 1) (m + 1)))
      gC g9 b2 b0 b1 c R2 R0 R1 m :=
  have f : ∀ (W : World) (k : Nat) (i : Nat) (v : Value),k ≠ g9 → (W.setCell ⟨g9,i,none⟩ v).heap[k]? = W.heap[k]?:=fun W k i v hk => Below.heap_setCell W _ _ k hk
  have F : ∀ k,k ≠ g9 → (((W.setCell ⟨g9,0,none⟩ (.slice (some ⟨b2,0,none⟩) (m + 1) (m + 1))).setCell ⟨g9,1,none⟩ (.slice (some ⟨b0,0,none⟩) (m + 1) (m + 1))).setCell ⟨g9,2,none⟩ (.slice (some ⟨b1,0,none⟩) (m + 1) (m + 1))).heap[k]? = W.heap[k]?:=fun k hk => by rw [f _ _ _ _ hk,f _ _ _ _ hk,f _ _ _ _ hk]
  ⟨((h.below.setCell h.e9 _).setCell h.e9 _).setCell h.e9 _,(F _ h.nC.1).trans h.hC,by rw [zR (zR (zR h.h9 _ _) _ _)];rfl,(F _ h.n9.2.2.symm).trans h.h2,(F _ h.n9.1.symm).trans h.h0,(F _ h.n9.2.1.symm).trans h.h1,h.l2,h.l0,h.l1,h.n02.symm,h.n12.symm,h.n01,h.e9,h.e2,h.e0,h.e1⟩
end DSt
end Go.Proofs.Ytdefecnngccmoaa.Ed
namespace Go.Proofs.Ytdefecnngccmoaa.Ed
open Go.RowKit Go.Proofs.YtdefecnngccmoaaW.PrintWords
theorem XT (x : Int) (l : List Int) : rd (x :: l) 0 = x:=rfl
theorem Xx (x y : Int) (l : List Int) : rd (x :: y :: l) 1 = y:=rfl
theorem JZ (s t : ByteArray) : QE0.xm.f s t = some (Lb.zg (bytesOf s) (bytesOf t)):=by
  have hs:=bytesOf_length s
  have ht:=bytesOf_length t
  have e0:=xe s 0
  have e1:=xe s 1
  have f0:=xe t 0
  have f1:=xe t 1
  unfold QE0.xm.f
  generalize bytesOf s = l at *
  generalize bytesOf t = m at *
  rcases l with _|⟨x,_|⟨y,l⟩⟩ <;> rcases m with _|⟨u,_|⟨v,m⟩⟩ <;> simp only [List.length_nil,List.length_cons] at hs ht
  all_goals first
    | (rw [if_neg (by omega)];simp [Lb.zg];done)
    | (rw [if_pos (by omega),if_neg (by omega)];simp [Lb.zg];done)
    | skip
  rw [XT] at e0 f0
  rw [Xx] at e1 f1
  rw [if_pos (by omega),if_pos (by omega),if_pos (by omega),if_pos (by omega),← e0,← e1,← f0,← f1]
  simp only [Lb.zg]
  by_cases h1 : x = v
  · rw [if_pos h1,if_pos (by omega),if_pos (by omega)]
    by_cases h2 : y = u
    · rw [if_pos h2];simp [h1,h2]
    · rw [if_neg h2];simp [h1,h2]
  · rw [if_neg h1];simp [h1]
theorem zL (a : ByteArray) (i : Nat) : bytesOf (a.extract i a.size) = (bytesOf a).drop i:=by
  unfold bytesOf
  rw [Lib.extract_to_end,List.map_drop]
theorem ZO (a b : ByteArray) (i j : Nat) : QE0.xm.f (a.extract i a.size) (b.extract j b.size) = some (Lb.zg ((bytesOf a).drop i) ((bytesOf b).drop j)):=by
  rw [JZ,zL,zL]
def dd (c : Lb.Cst) (a b : ByteArray) (i j : Nat) : Int:=Lb.dist c ((bytesOf a).drop i) ((bytesOf b).drop j)
def sw (a b : ByteArray) (i j : Nat) : Bool:=Lb.zg ((bytesOf a).drop i) ((bytesOf b).drop j)
theorem jK (a : ByteArray) (i : Nat) (h : i < a.size) : (bytesOf a).drop i = bt a i :: (bytesOf a).drop (i + 1):=by
  have hl:=bytesOf_length a
  have e:=xe a i
  rw [List.drop_eq_getElem_cons (by omega)]
  congr 1
  rw [← e]
  simp [rd,show i < (bytesOf a).length by omega]
theorem zW (a : ByteArray) (i : Nat) (h : a.size ≤ i) : (bytesOf a).drop i = []:=by
  apply List.drop_eq_nil_of_le
  have hl:=bytesOf_length a
  omega
theorem xA {a b : ByteArray} {i j : Nat} (h : sw a b i j = true) : i + 1 < a.size ∧ j + 1 < b.size:=by
  unfold sw at h
  have ha : i + 1 < a.size:=by
    apply Classical.byContradiction
    intro hn
    by_cases h1 : i < a.size
    · rw [jK a i h1,zW a (i + 1) (by omega)] at h;simp [Lb.zg] at h
    · rw [zW a i (by omega)] at h;simp [Lb.zg] at h
  refine ⟨ha,?_⟩
  apply Classical.byContradiction
  intro hn
  rw [jK a i (by omega),jK a (i + 1) (by omega)] at h
  by_cases h1 : j < b.size
  · rw [jK b j h1,zW b (j + 1) (by omega)] at h;simp [Lb.zg] at h
  · rw [zW b j (by omega)] at h;simp [Lb.zg] at h
theorem ZZ {a b : ByteArray} {i j : Nat} (h : sw a b i j = true) : bt a i ≠ bt b j:=by
  obtain ⟨h1,h2⟩:=xA h
  unfold sw at h
  rw [jK a i (by omega),jK a (i + 1) (by omega),jK b j (by omega),jK b (j + 1) (by omega)] at h
  simp only [Lb.zg,Bool.and_eq_true,beq_iff_eq,bne_iff_ne] at h
  obtain ⟨_,e,n⟩:=h
  intro he
  exact n (by rw [he];exact e.symm)
section
variable (c : Lb.Cst) (a b : ByteArray)
theorem JD : dd c a b a.size b.size = 0:=by
  unfold dd;rw [zW _ _ (Nat.le_refl _),zW _ _ (Nat.le_refl _),Lb.vL]
theorem Qe (j : Nat) (h : j < b.size) : dd c a b a.size j = dd c a b a.size (j + 1) + c.ins:=by
  unfold dd;rw [zW _ _ (Nat.le_refl _),jK b j h,Lb.vE]
theorem yU (i : Nat) (h : i < a.size) : dd c a b i b.size = dd c a b (i + 1) b.size + c.del:=by
  unfold dd;rw [zW b _ (Nat.le_refl _),jK a i h,Lb.vC]
theorem xy (i j : Nat) (h : i < a.size) (h' : j < b.size) : dd c a b i j =
    min (min (if sw a b i j then min (dd c a b (i + 1) (j + 1) + Lb.one c (bt a i) (bt b j)) (dd c a b (i + 2) (j + 2) + c.swp) else dd c a b (i + 1) (j + 1) + Lb.one c (bt a i) (bt b j))
      (dd c a b (i + 1) j + c.del)) (dd c a b i (j + 1) + c.ins):=by
  have e:=Lb.xZ c (bt a i) (bt b j) ((bytesOf a).drop (i + 1)) ((bytesOf b).drop (j + 1))
  rw [← jK a i h,← jK b j h',List.drop_drop,List.drop_drop] at e
  exact e
end
theorem jO {c : Lb.Cst} (hc : c.Ok) (a b : ByteArray) (ha : a.size ≤ 60) (hb : b.size ≤ 60) (i j : Nat) : 0 ≤ dd c a b i j ∧ dd c a b i j ≤ 120000:=by
  have h:=Lb.vN hc ((bytesOf a).drop i) ((bytesOf b).drop j)
  have l1 : ((bytesOf a).drop i).length ≤ 60:=by rw [List.length_drop,bytesOf_length];omega
  have l2 : ((bytesOf b).drop j).length ≤ 60:=by rw [List.length_drop,bytesOf_length];omega
  unfold dd
  omega
end Go.Proofs.Ytdefecnngccmoaa.Ed
namespace Go.Proofs.Ytdefecnngccmoaa.Ed
open Go.RowKit Go.Proofs.YtdefecnngccmoaaW.PrintWords
theorem zm {P : Program} {id : Nat} {Q : Exit → Act → World → Prop} {a : Act} {w : World} {l : List Oper} (n : Nat) (hm : P.follows .mixedOrders = true) (hB : Region.lexTailB .any l.toArray n = true)
    (h : ∀ W,W = w.drew → wpStill P l.toArray W (fun a' => wpList P l.toArray Q (l.drop n) a' W) (l.take n) a) : (Code.region id l.toArray true).wp P Q a w :=
  wp_region_still_tail n hm hB (h _ rfl)
structure BSt (w W : World) (gC g9 b0 b1 b2 gb : Nat) (c : Lb.Cst) (R0 R1 R2 : List Int) (m : Nat) (best : Int) : Prop where
  d : DSt w W gC g9 b0 b1 b2 c R0 R1 R2 m
  hb : W.heap[gb]? = some (.cells #[.int .i64 best] 3 (0,0))
  eb : w.heap.size ≤ gb
  nb : ∀ k,k = gC ∨ k = g9 ∨ k = b0 ∨ k = b1 ∨ k = b2 → k ≠ gb
namespace BSt
variable {w W W' : World} {gC g9 b0 b1 b2 gb : Nat} {c : Lb.Cst} {R0 R1 R2 : List Int} {m : Nat} {best : Int}
theorem mk_ (h : DSt w W gC g9 b0 b1 b2 c R0 R1 R2 m) (best : Int) : BSt w (W.alloc (.cells #[.int .i64 best] 3)) gC g9 b0 b1 b2 W.heap.size c R0 R1 R2 m best :=
  ⟨h.alloc _,jc W _,h.size,fun k hk => Nat.ne_of_lt (h.lt k hk)⟩
theorem drewN (h : BSt w W gC g9 b0 b1 b2 gb c R0 R1 R2 m best) (n : Nat) : BSt w (W.drewN n) gC g9 b0 b1 b2 gb c R0 R1 R2 m best:=⟨h.d.drewN n,h.hb,h.eb,h.nb⟩
theorem drew (h : BSt w W gC g9 b0 b1 b2 gb c R0 R1 R2 m best) : BSt w W.drew gC g9 b0 b1 b2 gb c R0 R1 R2 m best:=h.drewN 1
theorem take {e : Ending} {n : Int} (h : BSt w W gC g9 b0 b1 b2 gb c R0 R1 R2 m best) (ht : Jc gb best n W e W') : BSt w W' gC g9 b0 b1 b2 gb c R0 R1 R2 m (tk best n) :=
  ⟨h.d.grown ht.2.2 h.eb h.nb,ht.2.1,h.eb,h.nb⟩
theorem cell (h : BSt w W gC g9 b0 b1 b2 gb c R0 R1 R2 m best) : W.cell? ⟨gb,0,none⟩ = some (.int .i64 best):=(qi h.hb 0).trans rfl
end BSt
theorem yQ (n : Int) : tk (-1) n = n:=if_pos (.inl (by omega))
theorem Jq {b n : Int} (hb : 0 ≤ b) : tk b n = min b n:=by unfold tk;split <;> omega
theorem tk2 {x y : Int} (h : 0 ≤ x) : tk (tk (-1) x) y = min x y:=by rw [yQ,Jq h]
theorem tk3 {x y z : Int} (h : 0 ≤ x) (h1 : 0 ≤ y) : tk (tk (tk (-1) x) y) z = min (min x y) z:=by rw [tk2 h,Jq (by omega)]
theorem tk4 {x y z u : Int} (h : 0 ≤ x) (h1 : 0 ≤ y) (h2 : 0 ≤ z) : tk (tk (tk (tk (-1) x) y) z) u = min (min (min x y) z) u:=by rw [tk3 h h1,Jq (by omega)]
theorem xu (a b : ByteArray) (i j : Nat) (r : Bool) (h : sw a b i j = r) (w : World) (n : Nat) :
    Calls Try.prog 28 #[.string (a.extract i a.size),.string (b.extract j b.size)] (w.drewN n) fun e w'' => e = .returned (.bool r) ∧ ∃ m,w'' = w.drewN m:=by
  refine Calls.quiet_of ((QE0.xm.calls _ _ r _ ((ZO a b i j).trans (congrArg some h))).mono ?_)
  rintro e w' ⟨rfl,⟨m,rfl⟩⟩
  exact ⟨rfl,m,rfl⟩
def vw : Code → List Code
  | .loop c => c :: vw c
  | .seq a b => vw a ++ vw b
  | .block _ c => vw c
  | .scope c => vw c
  | .cond _ a b => vw a ++ vw b
  | _ => []
noncomputable def zw (f : Func) (n : Nat) : Code:=((f.body.map vw).getD [])[n]?.getD .skip
end Go.Proofs.Ytdefecnngccmoaa.Ed
namespace Go.Proofs.Ytdefecnngccmoaa.Ed
open Go.RowKit Go.Proofs.YtdefecnngccmoaaW.PrintWords
set_option maxRecDepth 1000000 in
set_option maxHeartbeats 40000000 in
theorem ZI (a b : ByteArray) (c0 c1 c2 c3 : Int) (hOk : Lb.Cst.Ok ⟨c0,c1,c2,c3⟩) (ha : a.size ≤ 60) (hb : b.size ≤ 60) (w : World) (gC g9 b0 b1 b2 i j : Nat) (R0 R1 R2 : List Int)
    (E0 : Hid (∀ t : Nat,j < t → t ≤ b.size → R0.getD t 0 = dd ⟨c0,c1,c2,c3⟩ a b i t)) (E1 : Hid (i < a.size → ∀ t : Nat,t ≤ b.size → R1.getD t 0 = dd ⟨c0,c1,c2,c3⟩ a b (i + 1) t)) (E2 : Hid (i + 2 ≤ a.size → ∀ t : Nat,t ≤ b.size → R2.getD t 0 = dd ⟨c0,c1,c2,c3⟩ a b (i + 2) t))
    (hin : i < a.size) (hjm : j < b.size) (he : ¬ bt a i = bt b j) (hsw : sw a b i j = true)
    (K : Act → World → Prop) (Q : Exit → Act → World → Prop) (wr : World) (hS : DSt w wr gC g9 b0 b1 b2 ⟨c0,c1,c2,c3⟩ R0 R1 R2 b.size) (v2 v3 v4 v6 v7 v8 v10 v13 v14 v15 v16 v17 v18 v19 v20 v21 v22 v23 v24 v25 v26 v27 v28 v29 v30 v31 v32 v33 v34 v35 v36 v37 v38 v39 v40 v41 v42 v43 v44 v45 v46 v47 v48 v49 v50 v51 v52 v53 v54 v55 v56 v57 v58 v59 v60 v61 v62 v63 v64 v65 v66 v67 v68 v69 v70 v71 v72 v73 v74 v75 v76 v77 v78 v79 v80 v81 v82 v83 v84 v85 v86 v87 v88 v89 v90 v91 v92 v93 v94 v95 v96 v97 v98 v99 v100 v101 v102 v103 v104 v105 v106 v107 v108 v109 v110 v111 v112 v113 v114 v115 v116 v117 v118 v119 v120 v121 v122 v123 v124 v125 v126 v127 v128 v129 v130 v131 v132 v133 v134 v135 v136 v137 v138 v139 v140 v141 v142 v143 v144 v145 v146 v147 v148 v149 v150 v151 v152 v153 v154 v155 v156 v157 v158 v159 v160 v161 v162 v163 v164 v165 v166 v167 v168 v169 v170 v171 v172 v173 v174 v175 v176 : Value)
    (hK : ∀ (u13 u14 u40 u41 u42 u43 u44 u45 u46 u47 u48 u49 u50 u51 u52 u53 u54 u55 u56 u57 u58 u59 u60 u61 u62 u63 u64 u65 u66 u67 u68 u69 u70 u71 u72 u73 u74 u75 u76 u77 u78 u79 u80 u81 u82 u83 u84 u85 u86 u87 u88 u89 u90 u91 u92 u93 u94 u95 u96 u97 u98 u99 u100 u101 u102 u103 u104 u105 u106 u107 u108 u109 u110 u111 u112 u113 u114 u115 u116 u117 u118 u119 u120 u121 u122 u123 u124 u125 u126 u127 u128 u129 u130 u131 u132 u133 u134 u135 u136 u137 u138 u139 u140 u141 u142 u143 u144 u145 u146 u147 u148 u149 u150 u151 u152 u153 u154 u155 u156 u157 u158 u159 u160 u161 u162 u163 : Value) (W : World),DSt w W gC g9 b0 b1 b2 ⟨c0,c1,c2,c3⟩ (R0.set j (dd ⟨c0,c1,c2,c3⟩ a b i j)) R1 R2 b.size → K ⟨#[.string a,.string b,v2,v3,v4,.pointer (some ⟨gC,0,none⟩),v6,v7,v8,.pointer (some ⟨g9,0,none⟩),v10,.int .i64 (i : Int),.int .i64 ((j : Int) - 1),u13,u14,v15,v16,v17,v18,v19,v20,v21,v22,v23,v24,v25,v26,v27,v28,v29,v30,v31,v32,v33,v34,v35,v36,v37,v38,v39,u40,u41,u42,u43,u44,u45,u46,u47,u48,u49,u50,u51,u52,u53,u54,u55,u56,u57,u58,u59,u60,u61,u62,u63,u64,u65,u66,u67,u68,u69,u70,u71,u72,u73,u74,u75,u76,u77,u78,u79,u80,u81,u82,u83,u84,u85,u86,u87,u88,u89,u90,u91,u92,u93,u94,u95,u96,u97,u98,u99,u100,u101,u102,u103,u104,u105,u106,u107,u108,u109,u110,u111,u112,u113,u114,u115,u116,u117,u118,u119,u120,u121,u122,u123,u124,u125,u126,u127,u128,u129,u130,u131,u132,u133,u134,u135,u136,u137,u138,u139,u140,u141,u142,u143,u144,u145,u146,u147,u148,u149,u150,u151,u152,u153,u154,u155,u156,u157,u158,u159,u160,u161,u162,u163,v164,v165,v166,v167,v168,v169,v170,v171,v172,v173,v174,v175,v176],[]⟩ W) :
    (zw Try.f12 2).wp Try.prog (Exit.then K Q) ⟨#[.string a,.string b,v2,v3,v4,.pointer (some ⟨gC,0,none⟩),v6,v7,v8,.pointer (some ⟨g9,0,none⟩),v10,.int .i64 (i : Int),.int .i64 (j : Int),v13,v14,v15,v16,v17,v18,v19,v20,v21,v22,v23,v24,v25,v26,v27,v28,v29,v30,v31,v32,v33,v34,v35,v36,v37,v38,v39,v40,v41,v42,v43,v44,v45,v46,v47,v48,v49,v50,v51,v52,v53,v54,v55,v56,v57,v58,v59,v60,v61,v62,v63,v64,v65,v66,v67,v68,v69,v70,v71,v72,v73,v74,v75,v76,v77,v78,v79,v80,v81,v82,v83,v84,v85,v86,v87,v88,v89,v90,v91,v92,v93,v94,v95,v96,v97,v98,v99,v100,v101,v102,v103,v104,v105,v106,v107,v108,v109,v110,v111,v112,v113,v114,v115,v116,v117,v118,v119,v120,v121,v122,v123,v124,v125,v126,v127,v128,v129,v130,v131,v132,v133,v134,v135,v136,v137,v138,v139,v140,v141,v142,v143,v144,v145,v146,v147,v148,v149,v150,v151,v152,v153,v154,v155,v156,v157,v158,v159,v160,v161,v162,v163,v164,v165,v166,v167,v168,v169,v170,v171,v172,v173,v174,v175,v176],[]⟩ wr:=by
  have HK:=Lib.hid hK
  clear hK
  obtain ⟨ki1,ki2,kd1,kd2,kc1,kc2,ks1,ks2⟩:=id hOk
  simp only at ki1 ki2 kd1 kd2 kc1 kc2 ks1 ks2
  have hmf : ∀ (fn : Fn) (first cap : Array Value) (w : World),(Instr.makeFunc fn first cap).run Try.prog w = .ok (.func fn first cap) w:=fun _ _ _ _ => rfl
  conv => arg 2;whnf
  have hi1 : (i : Int) ≤ (a.size : Int):=by omega
  have hj1 : (j : Int) ≤ (b.size : Int):=by omega
  have hxa : ∀ h : i < a.size,((a[i]'h).toNat : Int) = bt a i:=jI a i
  have hxb : ∀ h : j < b.size,((b[j]'h).toNat : Int) = bt b j:=jI b j
  have he1 : (bt a i == bt b j) = false:=beq_eq_false_iff_ne.2 he
  have he2 : (bt a i != bt b j) = true:=bne_iff_ne.2 he
  obtain ⟨hs1,hs2⟩:=xA hsw
  obtain ⟨x1,hx1⟩ : ∃ x,x = dd ⟨c0,c1,c2,c3⟩ a b (i + 1) (j + 1):=⟨_,rfl⟩
  have qx1:=jO hOk a b ha hb (i + 1) (j + 1)
  rw [← hx1] at qx1
  obtain ⟨qx10,qx11⟩:=qx1
  obtain ⟨x2,hx2⟩ : ∃ x,x = dd ⟨c0,c1,c2,c3⟩ a b (i + 2) (j + 2):=⟨_,rfl⟩
  have qx2:=jO hOk a b ha hb (i + 2) (j + 2)
  rw [← hx2] at qx2
  obtain ⟨qx20,qx21⟩:=qx2
  obtain ⟨x3,hx3⟩ : ∃ x,x = dd ⟨c0,c1,c2,c3⟩ a b (i + 1) (j):=⟨_,rfl⟩
  have qx3:=jO hOk a b ha hb (i + 1) (j)
  rw [← hx3] at qx3
  obtain ⟨qx30,qx31⟩:=qx3
  obtain ⟨x4,hx4⟩ : ∃ x,x = dd ⟨c0,c1,c2,c3⟩ a b (i) (j + 1):=⟨_,rfl⟩
  have qx4:=jO hOk a b ha hb (i) (j + 1)
  rw [← hx4] at qx4
  obtain ⟨qx40,qx41⟩:=qx4
  have HSW:=Lib.hid hsw
  have hfin : dd ⟨c0,c1,c2,c3⟩ a b i j = tk (tk (tk (tk (-1) (x1 + c2)) (x2 + c3)) (x3 + c1)) (x4 + c0):=by
    rw [xy _ _ _ _ _ hin hjm,if_pos hsw,← hx1,← hx2,← hx3,← hx4,tk4 (by omega) (by omega) (by omega),Lb.one,if_neg he]
  have HD:=Lib.hid hfin
  clear hfin hsw he
  have Hx1:=Lib.hid hx1
  clear hx1
  have Hx2:=Lib.hid hx2
  clear hx2
  have Hx3:=Lib.hid hx3
  clear hx3
  have Hx4:=Lib.hid hx4
  clear hx4
  go_wp2
  have S:=BSt.mk_ hS (-1)
  revert S
  generalize wr.alloc (.cells #[.int .i64 (-1)] 3) = W
  generalize wr.heap.size = gb
  intro S
  refine wp_region_quiet_lit (by kernel_rfl) (by kernel_rfl) ?_
  repeat (go_big_quiet_step (fail))
  refine wpQuiet_nil ?_
  rintro W' ⟨n',hW'⟩
  replace S:=hW' ▸ S.drewN n'
  clear hW'
  go_wp2
  refine wp_region_quiet_lit (by kernel_rfl) (by kernel_rfl) ?_
  repeat (go_big_quiet_step (fail))
  refine wpQuiet_nil ?_
  rintro W' ⟨n',hW'⟩
  replace S:=hW' ▸ S.drewN n'
  clear hW'
  go_wp2
  refine zm 10 (by kernel_rfl) (by kernel_rfl) ?_
  intro W' hW'
  replace S:=hW' ▸ S.drew
  clear hW'
  obtain ⟨k90,k91,k92⟩:=S.d.arr
  obtain ⟨kC0,kC1,kC2,kC3⟩:=S.d.cost
  have kr:=(S.d.at1 (j + 1) (by omega)).trans (by rw [E1.out (by omega) _ (by omega),← Hx1.out])
  have w5_ : IntKind.i64.wrap (x1 + c2) = x1 + c2:=IntWalk.i64_in _ (by omega)
  have w1_ : IntKind.i64.wrap ((j : Int) + 1) = (j : Int) + 1:=IntWalk.i64_in _ (by omega)
  have w2_ : 0 ≤ (j : Int) + 1:=by omega
  have w3_ : ((j : Int) + 1).toNat = j + 1:=by omega
  have w4_ : (j : Int) + 1 < (b.size : Int) + 1:=by omega
  simp only [List.take_succ_cons,List.take_zero,List.drop_succ_cons,List.drop_zero]
  repeat still_step
  refine wpStill_nil ?_
  clear w1_ w2_ w3_ w4_ w5_ k90 k91 k92 kC0 kC1 kC2 kC3 kr
  go_wp2_with (go_at_call 27;refine (zn _ _ _ _ S.hb).mono ?_;rintro e W2 hT;replace S:=S.take hT;obtain rfl:=hT.1;clear hT)
  refine wp_region_quiet_lit (by kernel_rfl) (by kernel_rfl) ?_
  repeat (go_big_quiet_step ((go_at_call 28;exact xu a b i j _ HSW.out _ _)))
  refine wpQuiet_nil ?_
  rintro W' ⟨n',hW'⟩
  replace S:=hW' ▸ S.drewN n'
  clear hW'
  go_wp2
  refine zm 10 (by kernel_rfl) (by kernel_rfl) ?_
  intro W' hW'
  replace S:=hW' ▸ S.drew
  clear hW'
  obtain ⟨k90,k91,k92⟩:=S.d.arr
  obtain ⟨kC0,kC1,kC2,kC3⟩:=S.d.cost
  have kr:=(S.d.at2 (j + 2) (by omega)).trans (by rw [E2.out (by omega) _ (by omega),← Hx2.out])
  have w5_ : IntKind.i64.wrap (x2 + c3) = x2 + c3:=IntWalk.i64_in _ (by omega)
  have w1_ : IntKind.i64.wrap ((j : Int) + 2) = (j : Int) + 2:=IntWalk.i64_in _ (by omega)
  have w2_ : 0 ≤ (j : Int) + 2:=by omega
  have w3_ : ((j : Int) + 2).toNat = j + 2:=by omega
  have w4_ : (j : Int) + 2 < (b.size : Int) + 1:=by omega
  simp only [List.take_succ_cons,List.take_zero,List.drop_succ_cons,List.drop_zero]
  repeat still_step
  refine wpStill_nil ?_
  clear w1_ w2_ w3_ w4_ w5_ k90 k91 k92 kC0 kC1 kC2 kC3 kr
  go_wp2_with (go_at_call 27;refine (zn _ _ _ _ S.hb).mono ?_;rintro e W2 hT;replace S:=S.take hT;obtain rfl:=hT.1;clear hT)
  refine zm 9 (by kernel_rfl) (by kernel_rfl) ?_
  intro W' hW'
  replace S:=hW' ▸ S.drew
  clear hW'
  obtain ⟨k90,k91,k92⟩:=S.d.arr
  obtain ⟨kC0,kC1,kC2,kC3⟩:=S.d.cost
  have kr:=(S.d.at1 (j) (by omega)).trans (by rw [E1.out (by omega) _ (by omega),← Hx3.out])
  have w5_ : IntKind.i64.wrap (x3 + c1) = x3 + c1:=IntWalk.i64_in _ (by omega)
  have w4_ : (j : Int) < (b.size : Int) + 1:=by omega
  simp only [List.take_succ_cons,List.take_zero,List.drop_succ_cons,List.drop_zero]
  repeat still_step
  refine wpStill_nil ?_
  clear w4_ w5_ k90 k91 k92 kC0 kC1 kC2 kC3 kr
  go_wp2_with (go_at_call 27;refine (zn _ _ _ _ S.hb).mono ?_;rintro e W2 hT;replace S:=S.take hT;obtain rfl:=hT.1;clear hT)
  refine zm 10 (by kernel_rfl) (by kernel_rfl) ?_
  intro W' hW'
  replace S:=hW' ▸ S.drew
  clear hW'
  obtain ⟨k90,k91,k92⟩:=S.d.arr
  obtain ⟨kC0,kC1,kC2,kC3⟩:=S.d.cost
  have kr:=(S.d.at0 (j + 1) (by omega)).trans (by rw [E0.out _ (by omega) (by omega),← Hx4.out])
  have w5_ : IntKind.i64.wrap (x4 + c0) = x4 + c0:=IntWalk.i64_in _ (by omega)
  have w1_ : IntKind.i64.wrap ((j : Int) + 1) = (j : Int) + 1:=IntWalk.i64_in _ (by omega)
  have w2_ : 0 ≤ (j : Int) + 1:=by omega
  have w3_ : ((j : Int) + 1).toNat = j + 1:=by omega
  have w4_ : (j : Int) + 1 < (b.size : Int) + 1:=by omega
  simp only [List.take_succ_cons,List.take_zero,List.drop_succ_cons,List.drop_zero]
  repeat still_step
  refine wpStill_nil ?_
  clear w1_ w2_ w3_ w4_ w5_ k90 k91 k92 kC0 kC1 kC2 kC3 kr
  go_wp2_with (go_at_call 27;refine (zn _ _ _ _ S.hb).mono ?_;rintro e W2 hT;replace S:=S.take hT;obtain rfl:=hT.1;clear hT;have kb:=S.cell;have k90:=S.d.arr.1;have f0:=ql S.d.h0 j;have kr:=S.d.at0 j (by omega))
  refine HK.out _ _ _ _ _ _ _ _ _ _ _ _ _ _ _ _ _ _ _ _ _ _ _ _ _ _ _ _ _ _ _ _ _ _ _ _ _ _ _ _ _ _ _ _ _ _ _ _ _ _ _ _ _ _ _ _ _ _ _ _ _ _ _ _ _ _ _ _ _ _ _ _ _ _ _ _ _ _ _ _ _ _ _ _ _ _ _ _ _ _ _ _ _ _ _ _ _ _ _ _ _ _ _ _ _ _ _ _ _ _ _ _ _ _ _ _ _ _ _ _ _ _ _ _ _ _ _ ?_
  rw [HD.out]
  exact S.d.set0 _ _
end Go.Proofs.Ytdefecnngccmoaa.Ed
namespace Go.Proofs.Ytdefecnngccmoaa.Ed
open Go.RowKit Go.Proofs.YtdefecnngccmoaaW.PrintWords
set_option maxRecDepth 1000000 in
set_option maxHeartbeats 40000000 in
theorem Xh (a b : ByteArray) (c0 c1 c2 c3 : Int) (hOk : Lb.Cst.Ok ⟨c0,c1,c2,c3⟩) (ha : a.size ≤ 60) (hb : b.size ≤ 60) (w : World) (gC g9 b0 b1 b2 i j : Nat) (R0 R1 R2 : List Int)
    (E0 : Hid (∀ t : Nat,j < t → t ≤ b.size → R0.getD t 0 = dd ⟨c0,c1,c2,c3⟩ a b i t)) (E1 : Hid (i < a.size → ∀ t : Nat,t ≤ b.size → R1.getD t 0 = dd ⟨c0,c1,c2,c3⟩ a b (i + 1) t)) (E2 : Hid (i + 2 ≤ a.size → ∀ t : Nat,t ≤ b.size → R2.getD t 0 = dd ⟨c0,c1,c2,c3⟩ a b (i + 2) t))
    (hin : i < a.size) (hjm : j < b.size) (he : ¬ bt a i = bt b j) (hsw : sw a b i j = false)
    (K : Act → World → Prop) (Q : Exit → Act → World → Prop) (wr : World) (hS : DSt w wr gC g9 b0 b1 b2 ⟨c0,c1,c2,c3⟩ R0 R1 R2 b.size) (v2 v3 v4 v6 v7 v8 v10 v13 v14 v15 v16 v17 v18 v19 v20 v21 v22 v23 v24 v25 v26 v27 v28 v29 v30 v31 v32 v33 v34 v35 v36 v37 v38 v39 v40 v41 v42 v43 v44 v45 v46 v47 v48 v49 v50 v51 v52 v53 v54 v55 v56 v57 v58 v59 v60 v61 v62 v63 v64 v65 v66 v67 v68 v69 v70 v71 v72 v73 v74 v75 v76 v77 v78 v79 v80 v81 v82 v83 v84 v85 v86 v87 v88 v89 v90 v91 v92 v93 v94 v95 v96 v97 v98 v99 v100 v101 v102 v103 v104 v105 v106 v107 v108 v109 v110 v111 v112 v113 v114 v115 v116 v117 v118 v119 v120 v121 v122 v123 v124 v125 v126 v127 v128 v129 v130 v131 v132 v133 v134 v135 v136 v137 v138 v139 v140 v141 v142 v143 v144 v145 v146 v147 v148 v149 v150 v151 v152 v153 v154 v155 v156 v157 v158 v159 v160 v161 v162 v163 v164 v165 v166 v167 v168 v169 v170 v171 v172 v173 v174 v175 v176 : Value)
    (hK : ∀ (u13 u14 u40 u41 u42 u43 u44 u45 u46 u47 u48 u49 u50 u51 u52 u53 u54 u55 u56 u57 u58 u59 u60 u61 u62 u63 u64 u65 u66 u67 u68 u69 u70 u71 u72 u73 u74 u75 u76 u77 u78 u79 u80 u81 u82 u83 u84 u85 u86 u87 u88 u89 u90 u91 u92 u93 u94 u95 u96 u97 u98 u99 u100 u101 u102 u103 u104 u105 u106 u107 u108 u109 u110 u111 u112 u113 u114 u115 u116 u117 u118 u119 u120 u121 u122 u123 u124 u125 u126 u127 u128 u129 u130 u131 u132 u133 u134 u135 u136 u137 u138 u139 u140 u141 u142 u143 u144 u145 u146 u147 u148 u149 u150 u151 u152 u153 u154 u155 u156 u157 u158 u159 u160 u161 u162 u163 : Value) (W : World),DSt w W gC g9 b0 b1 b2 ⟨c0,c1,c2,c3⟩ (R0.set j (dd ⟨c0,c1,c2,c3⟩ a b i j)) R1 R2 b.size → K ⟨#[.string a,.string b,v2,v3,v4,.pointer (some ⟨gC,0,none⟩),v6,v7,v8,.pointer (some ⟨g9,0,none⟩),v10,.int .i64 (i : Int),.int .i64 ((j : Int) - 1),u13,u14,v15,v16,v17,v18,v19,v20,v21,v22,v23,v24,v25,v26,v27,v28,v29,v30,v31,v32,v33,v34,v35,v36,v37,v38,v39,u40,u41,u42,u43,u44,u45,u46,u47,u48,u49,u50,u51,u52,u53,u54,u55,u56,u57,u58,u59,u60,u61,u62,u63,u64,u65,u66,u67,u68,u69,u70,u71,u72,u73,u74,u75,u76,u77,u78,u79,u80,u81,u82,u83,u84,u85,u86,u87,u88,u89,u90,u91,u92,u93,u94,u95,u96,u97,u98,u99,u100,u101,u102,u103,u104,u105,u106,u107,u108,u109,u110,u111,u112,u113,u114,u115,u116,u117,u118,u119,u120,u121,u122,u123,u124,u125,u126,u127,u128,u129,u130,u131,u132,u133,u134,u135,u136,u137,u138,u139,u140,u141,u142,u143,u144,u145,u146,u147,u148,u149,u150,u151,u152,u153,u154,u155,u156,u157,u158,u159,u160,u161,u162,u163,v164,v165,v166,v167,v168,v169,v170,v171,v172,v173,v174,v175,v176],[]⟩ W) :
    (zw Try.f12 2).wp Try.prog (Exit.then K Q) ⟨#[.string a,.string b,v2,v3,v4,.pointer (some ⟨gC,0,none⟩),v6,v7,v8,.pointer (some ⟨g9,0,none⟩),v10,.int .i64 (i : Int),.int .i64 (j : Int),v13,v14,v15,v16,v17,v18,v19,v20,v21,v22,v23,v24,v25,v26,v27,v28,v29,v30,v31,v32,v33,v34,v35,v36,v37,v38,v39,v40,v41,v42,v43,v44,v45,v46,v47,v48,v49,v50,v51,v52,v53,v54,v55,v56,v57,v58,v59,v60,v61,v62,v63,v64,v65,v66,v67,v68,v69,v70,v71,v72,v73,v74,v75,v76,v77,v78,v79,v80,v81,v82,v83,v84,v85,v86,v87,v88,v89,v90,v91,v92,v93,v94,v95,v96,v97,v98,v99,v100,v101,v102,v103,v104,v105,v106,v107,v108,v109,v110,v111,v112,v113,v114,v115,v116,v117,v118,v119,v120,v121,v122,v123,v124,v125,v126,v127,v128,v129,v130,v131,v132,v133,v134,v135,v136,v137,v138,v139,v140,v141,v142,v143,v144,v145,v146,v147,v148,v149,v150,v151,v152,v153,v154,v155,v156,v157,v158,v159,v160,v161,v162,v163,v164,v165,v166,v167,v168,v169,v170,v171,v172,v173,v174,v175,v176],[]⟩ wr:=by
  have HK:=Lib.hid hK
  clear hK
  obtain ⟨ki1,ki2,kd1,kd2,kc1,kc2,ks1,ks2⟩:=id hOk
  simp only at ki1 ki2 kd1 kd2 kc1 kc2 ks1 ks2
  have hmf : ∀ (fn : Fn) (first cap : Array Value) (w : World),(Instr.makeFunc fn first cap).run Try.prog w = .ok (.func fn first cap) w:=fun _ _ _ _ => rfl
  conv => arg 2;whnf
  have hi1 : (i : Int) ≤ (a.size : Int):=by omega
  have hj1 : (j : Int) ≤ (b.size : Int):=by omega
  have hxa : ∀ h : i < a.size,((a[i]'h).toNat : Int) = bt a i:=jI a i
  have hxb : ∀ h : j < b.size,((b[j]'h).toNat : Int) = bt b j:=jI b j
  have he1 : (bt a i == bt b j) = false:=beq_eq_false_iff_ne.2 he
  have he2 : (bt a i != bt b j) = true:=bne_iff_ne.2 he
  obtain ⟨x1,hx1⟩ : ∃ x,x = dd ⟨c0,c1,c2,c3⟩ a b (i + 1) (j + 1):=⟨_,rfl⟩
  have qx1:=jO hOk a b ha hb (i + 1) (j + 1)
  rw [← hx1] at qx1
  obtain ⟨qx10,qx11⟩:=qx1
  obtain ⟨x3,hx3⟩ : ∃ x,x = dd ⟨c0,c1,c2,c3⟩ a b (i + 1) (j):=⟨_,rfl⟩
  have qx3:=jO hOk a b ha hb (i + 1) (j)
  rw [← hx3] at qx3
  obtain ⟨qx30,qx31⟩:=qx3
  obtain ⟨x4,hx4⟩ : ∃ x,x = dd ⟨c0,c1,c2,c3⟩ a b (i) (j + 1):=⟨_,rfl⟩
  have qx4:=jO hOk a b ha hb (i) (j + 1)
  rw [← hx4] at qx4
  obtain ⟨qx40,qx41⟩:=qx4
  have HSW:=Lib.hid hsw
  have hfin : dd ⟨c0,c1,c2,c3⟩ a b i j = tk (tk (tk (-1) (x1 + c2)) (x3 + c1)) (x4 + c0):=by
    rw [xy _ _ _ _ _ hin hjm,if_neg (by rw [hsw];decide),← hx1,← hx3,← hx4,tk3 (by omega) (by omega),Lb.one,if_neg he]
  have HD:=Lib.hid hfin
  clear hfin hsw he
  have Hx1:=Lib.hid hx1
  clear hx1
  have Hx3:=Lib.hid hx3
  clear hx3
  have Hx4:=Lib.hid hx4
  clear hx4
  go_wp2
  have S:=BSt.mk_ hS (-1)
  revert S
  generalize wr.alloc (.cells #[.int .i64 (-1)] 3) = W
  generalize wr.heap.size = gb
  intro S
  refine wp_region_quiet_lit (by kernel_rfl) (by kernel_rfl) ?_
  repeat (go_big_quiet_step (fail))
  refine wpQuiet_nil ?_
  rintro W' ⟨n',hW'⟩
  replace S:=hW' ▸ S.drewN n'
  clear hW'
  go_wp2
  refine wp_region_quiet_lit (by kernel_rfl) (by kernel_rfl) ?_
  repeat (go_big_quiet_step (fail))
  refine wpQuiet_nil ?_
  rintro W' ⟨n',hW'⟩
  replace S:=hW' ▸ S.drewN n'
  clear hW'
  go_wp2
  refine zm 10 (by kernel_rfl) (by kernel_rfl) ?_
  intro W' hW'
  replace S:=hW' ▸ S.drew
  clear hW'
  obtain ⟨k90,k91,k92⟩:=S.d.arr
  obtain ⟨kC0,kC1,kC2,kC3⟩:=S.d.cost
  have kr:=(S.d.at1 (j + 1) (by omega)).trans (by rw [E1.out (by omega) _ (by omega),← Hx1.out])
  have w5_ : IntKind.i64.wrap (x1 + c2) = x1 + c2:=IntWalk.i64_in _ (by omega)
  have w1_ : IntKind.i64.wrap ((j : Int) + 1) = (j : Int) + 1:=IntWalk.i64_in _ (by omega)
  have w2_ : 0 ≤ (j : Int) + 1:=by omega
  have w3_ : ((j : Int) + 1).toNat = j + 1:=by omega
  have w4_ : (j : Int) + 1 < (b.size : Int) + 1:=by omega
  simp only [List.take_succ_cons,List.take_zero,List.drop_succ_cons,List.drop_zero]
  repeat still_step
  refine wpStill_nil ?_
  clear w1_ w2_ w3_ w4_ w5_ k90 k91 k92 kC0 kC1 kC2 kC3 kr
  go_wp2_with (go_at_call 27;refine (zn _ _ _ _ S.hb).mono ?_;rintro e W2 hT;replace S:=S.take hT;obtain rfl:=hT.1;clear hT)
  refine wp_region_quiet_lit (by kernel_rfl) (by kernel_rfl) ?_
  repeat (go_big_quiet_step ((go_at_call 28;exact xu a b i j _ HSW.out _ _)))
  refine wpQuiet_nil ?_
  rintro W' ⟨n',hW'⟩
  replace S:=hW' ▸ S.drewN n'
  clear hW'
  go_wp2
  refine zm 9 (by kernel_rfl) (by kernel_rfl) ?_
  intro W' hW'
  replace S:=hW' ▸ S.drew
  clear hW'
  obtain ⟨k90,k91,k92⟩:=S.d.arr
  obtain ⟨kC0,kC1,kC2,kC3⟩:=S.d.cost
  have kr:=(S.d.at1 (j) (by omega)).trans (by rw [E1.out (by omega) _ (by omega),← Hx3.out])
  have w5_ : IntKind.i64.wrap (x3 + c1) = x3 + c1:=IntWalk.i64_in _ (by omega)
  have w4_ : (j : Int) < (b.size : Int) + 1:=by omega
  simp only [List.take_succ_cons,List.take_zero,List.drop_succ_cons,List.drop_zero]
  repeat still_step
  refine wpStill_nil ?_
  clear w4_ w5_ k90 k91 k92 kC0 kC1 kC2 kC3 kr
  go_wp2_with (go_at_call 27;refine (zn _ _ _ _ S.hb).mono ?_;rintro e W2 hT;replace S:=S.take hT;obtain rfl:=hT.1;clear hT)
  refine zm 10 (by kernel_rfl) (by kernel_rfl) ?_
  intro W' hW'
  replace S:=hW' ▸ S.drew
  clear hW'
  obtain ⟨k90,k91,k92⟩:=S.d.arr
  obtain ⟨kC0,kC1,kC2,kC3⟩:=S.d.cost
  have kr:=(S.d.at0 (j + 1) (by omega)).trans (by rw [E0.out _ (by omega) (by omega),← Hx4.out])
  have w5_ : IntKind.i64.wrap (x4 + c0) = x4 + c0:=IntWalk.i64_in _ (by omega)
  have w1_ : IntKind.i64.wrap ((j : Int) + 1) = (j : Int) + 1:=IntWalk.i64_in _ (by omega)
  have w2_ : 0 ≤ (j : Int) + 1:=by omega
  have w3_ : ((j : Int) + 1).toNat = j + 1:=by omega
  have w4_ : (j : Int) + 1 < (b.size : Int) + 1:=by omega
  simp only [List.take_succ_cons,List.take_zero,List.drop_succ_cons,List.drop_zero]
  repeat still_step
  refine wpStill_nil ?_
  clear w1_ w2_ w3_ w4_ w5_ k90 k91 k92 kC0 kC1 kC2 kC3 kr
  go_wp2_with (go_at_call 27;refine (zn _ _ _ _ S.hb).mono ?_;rintro e W2 hT;replace S:=S.take hT;obtain rfl:=hT.1;clear hT;have kb:=S.cell;have k90:=S.d.arr.1;have f0:=ql S.d.h0 j;have kr:=S.d.at0 j (by omega))
  refine HK.out _ _ _ _ _ _ _ _ _ _ _ _ _ _ _ _ _ _ _ _ _ _ _ _ _ _ _ _ _ _ _ _ _ _ _ _ _ _ _ _ _ _ _ _ _ _ _ _ _ _ _ _ _ _ _ _ _ _ _ _ _ _ _ _ _ _ _ _ _ _ _ _ _ _ _ _ _ _ _ _ _ _ _ _ _ _ _ _ _ _ _ _ _ _ _ _ _ _ _ _ _ _ _ _ _ _ _ _ _ _ _ _ _ _ _ _ _ _ _ _ _ _ _ _ _ _ _ ?_
  rw [HD.out]
  exact S.d.set0 _ _
end Go.Proofs.Ytdefecnngccmoaa.Ed
namespace Go.Proofs.Ytdefecnngccmoaa.Ed
open Go.RowKit Go.Proofs.YtdefecnngccmoaaW.PrintWords
set_option maxRecDepth 1000000 in
set_option maxHeartbeats 40000000 in
theorem Xq (a b : ByteArray) (c0 c1 c2 c3 : Int) (hOk : Lb.Cst.Ok ⟨c0,c1,c2,c3⟩) (ha : a.size ≤ 60) (hb : b.size ≤ 60) (w : World) (gC g9 b0 b1 b2 i j : Nat) (R0 R1 R2 : List Int)
    (E0 : Hid (∀ t : Nat,j < t → t ≤ b.size → R0.getD t 0 = dd ⟨c0,c1,c2,c3⟩ a b i t)) (E1 : Hid (i < a.size → ∀ t : Nat,t ≤ b.size → R1.getD t 0 = dd ⟨c0,c1,c2,c3⟩ a b (i + 1) t)) (E2 : Hid (i + 2 ≤ a.size → ∀ t : Nat,t ≤ b.size → R2.getD t 0 = dd ⟨c0,c1,c2,c3⟩ a b (i + 2) t))
    (hin : i < a.size) (hjm : j < b.size) (he : bt a i = bt b j)
    (K : Act → World → Prop) (Q : Exit → Act → World → Prop) (wr : World) (hS : DSt w wr gC g9 b0 b1 b2 ⟨c0,c1,c2,c3⟩ R0 R1 R2 b.size) (v2 v3 v4 v6 v7 v8 v10 v13 v14 v15 v16 v17 v18 v19 v20 v21 v22 v23 v24 v25 v26 v27 v28 v29 v30 v31 v32 v33 v34 v35 v36 v37 v38 v39 v40 v41 v42 v43 v44 v45 v46 v47 v48 v49 v50 v51 v52 v53 v54 v55 v56 v57 v58 v59 v60 v61 v62 v63 v64 v65 v66 v67 v68 v69 v70 v71 v72 v73 v74 v75 v76 v77 v78 v79 v80 v81 v82 v83 v84 v85 v86 v87 v88 v89 v90 v91 v92 v93 v94 v95 v96 v97 v98 v99 v100 v101 v102 v103 v104 v105 v106 v107 v108 v109 v110 v111 v112 v113 v114 v115 v116 v117 v118 v119 v120 v121 v122 v123 v124 v125 v126 v127 v128 v129 v130 v131 v132 v133 v134 v135 v136 v137 v138 v139 v140 v141 v142 v143 v144 v145 v146 v147 v148 v149 v150 v151 v152 v153 v154 v155 v156 v157 v158 v159 v160 v161 v162 v163 v164 v165 v166 v167 v168 v169 v170 v171 v172 v173 v174 v175 v176 : Value)
    (hK : ∀ (u13 u14 u40 u41 u42 u43 u44 u45 u46 u47 u48 u49 u50 u51 u52 u53 u54 u55 u56 u57 u58 u59 u60 u61 u62 u63 u64 u65 u66 u67 u68 u69 u70 u71 u72 u73 u74 u75 u76 u77 u78 u79 u80 u81 u82 u83 u84 u85 u86 u87 u88 u89 u90 u91 u92 u93 u94 u95 u96 u97 u98 u99 u100 u101 u102 u103 u104 u105 u106 u107 u108 u109 u110 u111 u112 u113 u114 u115 u116 u117 u118 u119 u120 u121 u122 u123 u124 u125 u126 u127 u128 u129 u130 u131 u132 u133 u134 u135 u136 u137 u138 u139 u140 u141 u142 u143 u144 u145 u146 u147 u148 u149 u150 u151 u152 u153 u154 u155 u156 u157 u158 u159 u160 u161 u162 u163 : Value) (W : World),DSt w W gC g9 b0 b1 b2 ⟨c0,c1,c2,c3⟩ (R0.set j (dd ⟨c0,c1,c2,c3⟩ a b i j)) R1 R2 b.size → K ⟨#[.string a,.string b,v2,v3,v4,.pointer (some ⟨gC,0,none⟩),v6,v7,v8,.pointer (some ⟨g9,0,none⟩),v10,.int .i64 (i : Int),.int .i64 ((j : Int) - 1),u13,u14,v15,v16,v17,v18,v19,v20,v21,v22,v23,v24,v25,v26,v27,v28,v29,v30,v31,v32,v33,v34,v35,v36,v37,v38,v39,u40,u41,u42,u43,u44,u45,u46,u47,u48,u49,u50,u51,u52,u53,u54,u55,u56,u57,u58,u59,u60,u61,u62,u63,u64,u65,u66,u67,u68,u69,u70,u71,u72,u73,u74,u75,u76,u77,u78,u79,u80,u81,u82,u83,u84,u85,u86,u87,u88,u89,u90,u91,u92,u93,u94,u95,u96,u97,u98,u99,u100,u101,u102,u103,u104,u105,u106,u107,u108,u109,u110,u111,u112,u113,u114,u115,u116,u117,u118,u119,u120,u121,u122,u123,u124,u125,u126,u127,u128,u129,u130,u131,u132,u133,u134,u135,u136,u137,u138,u139,u140,u141,u142,u143,u144,u145,u146,u147,u148,u149,u150,u151,u152,u153,u154,u155,u156,u157,u158,u159,u160,u161,u162,u163,v164,v165,v166,v167,v168,v169,v170,v171,v172,v173,v174,v175,v176],[]⟩ W) :
    (zw Try.f12 2).wp Try.prog (Exit.then K Q) ⟨#[.string a,.string b,v2,v3,v4,.pointer (some ⟨gC,0,none⟩),v6,v7,v8,.pointer (some ⟨g9,0,none⟩),v10,.int .i64 (i : Int),.int .i64 (j : Int),v13,v14,v15,v16,v17,v18,v19,v20,v21,v22,v23,v24,v25,v26,v27,v28,v29,v30,v31,v32,v33,v34,v35,v36,v37,v38,v39,v40,v41,v42,v43,v44,v45,v46,v47,v48,v49,v50,v51,v52,v53,v54,v55,v56,v57,v58,v59,v60,v61,v62,v63,v64,v65,v66,v67,v68,v69,v70,v71,v72,v73,v74,v75,v76,v77,v78,v79,v80,v81,v82,v83,v84,v85,v86,v87,v88,v89,v90,v91,v92,v93,v94,v95,v96,v97,v98,v99,v100,v101,v102,v103,v104,v105,v106,v107,v108,v109,v110,v111,v112,v113,v114,v115,v116,v117,v118,v119,v120,v121,v122,v123,v124,v125,v126,v127,v128,v129,v130,v131,v132,v133,v134,v135,v136,v137,v138,v139,v140,v141,v142,v143,v144,v145,v146,v147,v148,v149,v150,v151,v152,v153,v154,v155,v156,v157,v158,v159,v160,v161,v162,v163,v164,v165,v166,v167,v168,v169,v170,v171,v172,v173,v174,v175,v176],[]⟩ wr:=by
  have HK:=Lib.hid hK
  clear hK
  obtain ⟨ki1,ki2,kd1,kd2,kc1,kc2,ks1,ks2⟩:=id hOk
  simp only at ki1 ki2 kd1 kd2 kc1 kc2 ks1 ks2
  have hmf : ∀ (fn : Fn) (first cap : Array Value) (w : World),(Instr.makeFunc fn first cap).run Try.prog w = .ok (.func fn first cap) w:=fun _ _ _ _ => rfl
  conv => arg 2;whnf
  have hi1 : (i : Int) ≤ (a.size : Int):=by omega
  have hj1 : (j : Int) ≤ (b.size : Int):=by omega
  have hxa : ∀ h : i < a.size,((a[i]'h).toNat : Int) = bt a i:=jI a i
  have hxb : ∀ h : j < b.size,((b[j]'h).toNat : Int) = bt b j:=jI b j
  have he1 : (bt a i == bt b j) = true:=beq_iff_eq.2 he
  have he2 : (bt a i != bt b j) = false:=bne_eq_false_iff_eq.2 he
  have hsw : sw a b i j = false:=by
    cases hs : sw a b i j with
    | false => rfl
    | true => exact absurd he (ZZ hs)
  obtain ⟨x1,hx1⟩ : ∃ x,x = dd ⟨c0,c1,c2,c3⟩ a b (i + 1) (j + 1):=⟨_,rfl⟩
  have qx1:=jO hOk a b ha hb (i + 1) (j + 1)
  rw [← hx1] at qx1
  obtain ⟨qx10,qx11⟩:=qx1
  obtain ⟨x3,hx3⟩ : ∃ x,x = dd ⟨c0,c1,c2,c3⟩ a b (i + 1) (j):=⟨_,rfl⟩
  have qx3:=jO hOk a b ha hb (i + 1) (j)
  rw [← hx3] at qx3
  obtain ⟨qx30,qx31⟩:=qx3
  obtain ⟨x4,hx4⟩ : ∃ x,x = dd ⟨c0,c1,c2,c3⟩ a b (i) (j + 1):=⟨_,rfl⟩
  have qx4:=jO hOk a b ha hb (i) (j + 1)
  rw [← hx4] at qx4
  obtain ⟨qx40,qx41⟩:=qx4
  have HSW:=Lib.hid hsw
  have hfin : dd ⟨c0,c1,c2,c3⟩ a b i j = tk (tk (tk (-1) x1) (x3 + c1)) (x4 + c0):=by
    rw [xy _ _ _ _ _ hin hjm,if_neg (by rw [hsw];decide),← hx1,← hx3,← hx4,tk3 (by omega) (by omega),Lb.one,if_pos he,Int.add_zero]
  have HD:=Lib.hid hfin
  clear hfin hsw he
  have Hx1:=Lib.hid hx1
  clear hx1
  have Hx3:=Lib.hid hx3
  clear hx3
  have Hx4:=Lib.hid hx4
  clear hx4
  go_wp2
  have S:=BSt.mk_ hS (-1)
  revert S
  generalize wr.alloc (.cells #[.int .i64 (-1)] 3) = W
  generalize wr.heap.size = gb
  intro S
  refine wp_region_quiet_lit (by kernel_rfl) (by kernel_rfl) ?_
  repeat (go_big_quiet_step (fail))
  refine wpQuiet_nil ?_
  rintro W' ⟨n',hW'⟩
  replace S:=hW' ▸ S.drewN n'
  clear hW'
  obtain ⟨k90,k91,k92⟩:=S.d.arr
  have kr:=(S.d.at1 (j + 1) (by omega)).trans (by rw [E1.out (by omega) _ (by omega),← Hx1.out])
  have w4_ : (j : Int) + 1 < (b.size : Int) + 1:=by omega
  go_wp2_with (go_at_call 27;refine (zn _ _ _ _ S.hb).mono ?_;rintro e W2 hT;replace S:=S.take hT;obtain rfl:=hT.1;clear hT)
  refine wp_region_quiet_lit (by kernel_rfl) (by kernel_rfl) ?_
  repeat (go_big_quiet_step (fail))
  refine wpQuiet_nil ?_
  rintro W' ⟨n',hW'⟩
  replace S:=hW' ▸ S.drewN n'
  clear hW'
  go_wp2
  refine wp_region_quiet_lit (by kernel_rfl) (by kernel_rfl) ?_
  repeat (go_big_quiet_step ((go_at_call 28;exact xu a b i j _ HSW.out _ _)))
  refine wpQuiet_nil ?_
  rintro W' ⟨n',hW'⟩
  replace S:=hW' ▸ S.drewN n'
  clear hW'
  go_wp2
  refine zm 9 (by kernel_rfl) (by kernel_rfl) ?_
  intro W' hW'
  replace S:=hW' ▸ S.drew
  clear hW'
  obtain ⟨k90,k91,k92⟩:=S.d.arr
  obtain ⟨kC0,kC1,kC2,kC3⟩:=S.d.cost
  have kr:=(S.d.at1 (j) (by omega)).trans (by rw [E1.out (by omega) _ (by omega),← Hx3.out])
  have w5_ : IntKind.i64.wrap (x3 + c1) = x3 + c1:=IntWalk.i64_in _ (by omega)
  have w4_ : (j : Int) < (b.size : Int) + 1:=by omega
  simp only [List.take_succ_cons,List.take_zero,List.drop_succ_cons,List.drop_zero]
  repeat still_step
  refine wpStill_nil ?_
  clear w4_ w5_ k90 k91 k92 kC0 kC1 kC2 kC3 kr
  go_wp2_with (go_at_call 27;refine (zn _ _ _ _ S.hb).mono ?_;rintro e W2 hT;replace S:=S.take hT;obtain rfl:=hT.1;clear hT)
  refine zm 10 (by kernel_rfl) (by kernel_rfl) ?_
  intro W' hW'
  replace S:=hW' ▸ S.drew
  clear hW'
  obtain ⟨k90,k91,k92⟩:=S.d.arr
  obtain ⟨kC0,kC1,kC2,kC3⟩:=S.d.cost
  have kr:=(S.d.at0 (j + 1) (by omega)).trans (by rw [E0.out _ (by omega) (by omega),← Hx4.out])
  have w5_ : IntKind.i64.wrap (x4 + c0) = x4 + c0:=IntWalk.i64_in _ (by omega)
  have w1_ : IntKind.i64.wrap ((j : Int) + 1) = (j : Int) + 1:=IntWalk.i64_in _ (by omega)
  have w2_ : 0 ≤ (j : Int) + 1:=by omega
  have w3_ : ((j : Int) + 1).toNat = j + 1:=by omega
  have w4_ : (j : Int) + 1 < (b.size : Int) + 1:=by omega
  simp only [List.take_succ_cons,List.take_zero,List.drop_succ_cons,List.drop_zero]
  repeat still_step
  refine wpStill_nil ?_
  clear w1_ w2_ w3_ w4_ w5_ k90 k91 k92 kC0 kC1 kC2 kC3 kr
  go_wp2_with (go_at_call 27;refine (zn _ _ _ _ S.hb).mono ?_;rintro e W2 hT;replace S:=S.take hT;obtain rfl:=hT.1;clear hT;have kb:=S.cell;have k90:=S.d.arr.1;have f0:=ql S.d.h0 j;have kr:=S.d.at0 j (by omega))
  refine HK.out _ _ _ _ _ _ _ _ _ _ _ _ _ _ _ _ _ _ _ _ _ _ _ _ _ _ _ _ _ _ _ _ _ _ _ _ _ _ _ _ _ _ _ _ _ _ _ _ _ _ _ _ _ _ _ _ _ _ _ _ _ _ _ _ _ _ _ _ _ _ _ _ _ _ _ _ _ _ _ _ _ _ _ _ _ _ _ _ _ _ _ _ _ _ _ _ _ _ _ _ _ _ _ _ _ _ _ _ _ _ _ _ _ _ _ _ _ _ _ _ _ _ _ _ _ _ _ ?_
  rw [HD.out]
  exact S.d.set0 _ _
end Go.Proofs.Ytdefecnngccmoaa.Ed
namespace Go.Proofs.Ytdefecnngccmoaa.Ed
open Go.RowKit Go.Proofs.YtdefecnngccmoaaW.PrintWords
set_option maxRecDepth 1000000 in
set_option maxHeartbeats 40000000 in
theorem Zd (a b : ByteArray) (c0 c1 c2 c3 : Int) (hOk : Lb.Cst.Ok ⟨c0,c1,c2,c3⟩) (ha : a.size ≤ 60) (hb : b.size ≤ 60) (w : World) (gC g9 b0 b1 b2 i j : Nat) (R0 R1 R2 : List Int)
    (E0 : Hid (∀ t : Nat,j < t → t ≤ b.size → R0.getD t 0 = dd ⟨c0,c1,c2,c3⟩ a b i t)) (E1 : Hid (i < a.size → ∀ t : Nat,t ≤ b.size → R1.getD t 0 = dd ⟨c0,c1,c2,c3⟩ a b (i + 1) t)) (E2 : Hid (i + 2 ≤ a.size → ∀ t : Nat,t ≤ b.size → R2.getD t 0 = dd ⟨c0,c1,c2,c3⟩ a b (i + 2) t))
    (hin : i < a.size) (hjm : Hid (j = b.size))
    (K : Act → World → Prop) (Q : Exit → Act → World → Prop) (wr : World) (hS : DSt w wr gC g9 b0 b1 b2 ⟨c0,c1,c2,c3⟩ R0 R1 R2 b.size) (v2 v3 v4 v6 v7 v8 v10 v13 v14 v15 v16 v17 v18 v19 v20 v21 v22 v23 v24 v25 v26 v27 v28 v29 v30 v31 v32 v33 v34 v35 v36 v37 v38 v39 v40 v41 v42 v43 v44 v45 v46 v47 v48 v49 v50 v51 v52 v53 v54 v55 v56 v57 v58 v59 v60 v61 v62 v63 v64 v65 v66 v67 v68 v69 v70 v71 v72 v73 v74 v75 v76 v77 v78 v79 v80 v81 v82 v83 v84 v85 v86 v87 v88 v89 v90 v91 v92 v93 v94 v95 v96 v97 v98 v99 v100 v101 v102 v103 v104 v105 v106 v107 v108 v109 v110 v111 v112 v113 v114 v115 v116 v117 v118 v119 v120 v121 v122 v123 v124 v125 v126 v127 v128 v129 v130 v131 v132 v133 v134 v135 v136 v137 v138 v139 v140 v141 v142 v143 v144 v145 v146 v147 v148 v149 v150 v151 v152 v153 v154 v155 v156 v157 v158 v159 v160 v161 v162 v163 v164 v165 v166 v167 v168 v169 v170 v171 v172 v173 v174 v175 v176 : Value)
    (hK : ∀ (u13 u14 u40 u41 u42 u43 u44 u45 u46 u47 u48 u49 u50 u51 u52 u53 u54 u55 u56 u57 u58 u59 u60 u61 u62 u63 u64 u65 u66 u67 u68 u69 u70 u71 u72 u73 u74 u75 u76 u77 u78 u79 u80 u81 u82 u83 u84 u85 u86 u87 u88 u89 u90 u91 u92 u93 u94 u95 u96 u97 u98 u99 u100 u101 u102 u103 u104 u105 u106 u107 u108 u109 u110 u111 u112 u113 u114 u115 u116 u117 u118 u119 u120 u121 u122 u123 u124 u125 u126 u127 u128 u129 u130 u131 u132 u133 u134 u135 u136 u137 u138 u139 u140 u141 u142 u143 u144 u145 u146 u147 u148 u149 u150 u151 u152 u153 u154 u155 u156 u157 u158 u159 u160 u161 u162 u163 : Value) (W : World),DSt w W gC g9 b0 b1 b2 ⟨c0,c1,c2,c3⟩ (R0.set j (dd ⟨c0,c1,c2,c3⟩ a b i j)) R1 R2 b.size → K ⟨#[.string a,.string b,v2,v3,v4,.pointer (some ⟨gC,0,none⟩),v6,v7,v8,.pointer (some ⟨g9,0,none⟩),v10,.int .i64 (i : Int),.int .i64 ((j : Int) - 1),u13,u14,v15,v16,v17,v18,v19,v20,v21,v22,v23,v24,v25,v26,v27,v28,v29,v30,v31,v32,v33,v34,v35,v36,v37,v38,v39,u40,u41,u42,u43,u44,u45,u46,u47,u48,u49,u50,u51,u52,u53,u54,u55,u56,u57,u58,u59,u60,u61,u62,u63,u64,u65,u66,u67,u68,u69,u70,u71,u72,u73,u74,u75,u76,u77,u78,u79,u80,u81,u82,u83,u84,u85,u86,u87,u88,u89,u90,u91,u92,u93,u94,u95,u96,u97,u98,u99,u100,u101,u102,u103,u104,u105,u106,u107,u108,u109,u110,u111,u112,u113,u114,u115,u116,u117,u118,u119,u120,u121,u122,u123,u124,u125,u126,u127,u128,u129,u130,u131,u132,u133,u134,u135,u136,u137,u138,u139,u140,u141,u142,u143,u144,u145,u146,u147,u148,u149,u150,u151,u152,u153,u154,u155,u156,u157,u158,u159,u160,u161,u162,u163,v164,v165,v166,v167,v168,v169,v170,v171,v172,v173,v174,v175,v176],[]⟩ W) :
    (zw Try.f12 2).wp Try.prog (Exit.then K Q) ⟨#[.string a,.string b,v2,v3,v4,.pointer (some ⟨gC,0,none⟩),v6,v7,v8,.pointer (some ⟨g9,0,none⟩),v10,.int .i64 (i : Int),.int .i64 (j : Int),v13,v14,v15,v16,v17,v18,v19,v20,v21,v22,v23,v24,v25,v26,v27,v28,v29,v30,v31,v32,v33,v34,v35,v36,v37,v38,v39,v40,v41,v42,v43,v44,v45,v46,v47,v48,v49,v50,v51,v52,v53,v54,v55,v56,v57,v58,v59,v60,v61,v62,v63,v64,v65,v66,v67,v68,v69,v70,v71,v72,v73,v74,v75,v76,v77,v78,v79,v80,v81,v82,v83,v84,v85,v86,v87,v88,v89,v90,v91,v92,v93,v94,v95,v96,v97,v98,v99,v100,v101,v102,v103,v104,v105,v106,v107,v108,v109,v110,v111,v112,v113,v114,v115,v116,v117,v118,v119,v120,v121,v122,v123,v124,v125,v126,v127,v128,v129,v130,v131,v132,v133,v134,v135,v136,v137,v138,v139,v140,v141,v142,v143,v144,v145,v146,v147,v148,v149,v150,v151,v152,v153,v154,v155,v156,v157,v158,v159,v160,v161,v162,v163,v164,v165,v166,v167,v168,v169,v170,v171,v172,v173,v174,v175,v176],[]⟩ wr:=by
  have HK:=Lib.hid hK
  clear hK
  obtain ⟨ki1,ki2,kd1,kd2,kc1,kc2,ks1,ks2⟩:=id hOk
  simp only at ki1 ki2 kd1 kd2 kc1 kc2 ks1 ks2
  have hmf : ∀ (fn : Fn) (first cap : Array Value) (w : World),(Instr.makeFunc fn first cap).run Try.prog w = .ok (.func fn first cap) w:=fun _ _ _ _ => rfl
  conv => arg 2;whnf
  have hi1 : (i : Int) ≤ (a.size : Int):=by omega
  have hi3 : ((i : Int) == (a.size : Int)) = false:=beq_eq_false_iff_ne.2 (by omega)
  have hj1 : (j : Int) ≤ (b.size : Int):=by have:=hjm.out;omega
  have hj2 : decide ((j : Int) < (b.size : Int)) = false:=decide_eq_false (by have:=hjm.out;omega)
  have hj3 : ((j : Int) == (b.size : Int)) = true:=beq_iff_eq.2 (by have:=hjm.out;omega)
  have hj5 : ¬ (j < b.size):=by have:=hjm.out;omega
  have hsw : sw a b i j = false:=by
    cases hs : sw a b i j with
    | false => rfl
    | true => have:=xA hs;omega
  obtain ⟨x3,hx3⟩ : ∃ x,x = dd ⟨c0,c1,c2,c3⟩ a b (i + 1) (j):=⟨_,rfl⟩
  have qx3:=jO hOk a b ha hb (i + 1) (j)
  rw [← hx3] at qx3
  obtain ⟨qx30,qx31⟩:=qx3
  have HSW:=Lib.hid hsw
  have hfin : dd ⟨c0,c1,c2,c3⟩ a b i j = tk (-1) (x3 + c1):=by
    rw [hx3,hjm.out,yU _ _ _ _ hin,yQ]
  have HD:=Lib.hid hfin
  clear hfin hsw
  have Hx3:=Lib.hid hx3
  clear hx3
  go_wp2
  have S:=BSt.mk_ hS (-1)
  revert S
  generalize wr.alloc (.cells #[.int .i64 (-1)] 3) = W
  generalize wr.heap.size = gb
  intro S
  refine wp_region_quiet_lit (by kernel_rfl) (by kernel_rfl) ?_
  repeat (go_big_quiet_step (fail))
  refine wpQuiet_nil ?_
  rintro W' ⟨n',hW'⟩
  replace S:=hW' ▸ S.drewN n'
  clear hW'
  go_wp2
  refine wp_region_quiet_lit (by kernel_rfl) (by kernel_rfl) ?_
  repeat (go_big_quiet_step (fail))
  refine wpQuiet_nil ?_
  rintro W' ⟨n',hW'⟩
  replace S:=hW' ▸ S.drewN n'
  clear hW'
  go_wp2
  refine wp_region_quiet_lit (by kernel_rfl) (by kernel_rfl) ?_
  repeat (go_big_quiet_step ((go_at_call 28;exact xu a b i j _ HSW.out _ _)))
  refine wpQuiet_nil ?_
  rintro W' ⟨n',hW'⟩
  replace S:=hW' ▸ S.drewN n'
  clear hW'
  go_wp2
  refine zm 9 (by kernel_rfl) (by kernel_rfl) ?_
  intro W' hW'
  replace S:=hW' ▸ S.drew
  clear hW'
  obtain ⟨k90,k91,k92⟩:=S.d.arr
  obtain ⟨kC0,kC1,kC2,kC3⟩:=S.d.cost
  have kr:=(S.d.at1 (j) (by omega)).trans (by rw [E1.out (by omega) _ (by omega),← Hx3.out])
  have w5_ : IntKind.i64.wrap (x3 + c1) = x3 + c1:=IntWalk.i64_in _ (by omega)
  have w4_ : (j : Int) < (b.size : Int) + 1:=by omega
  simp only [List.take_succ_cons,List.take_zero,List.drop_succ_cons,List.drop_zero]
  repeat still_step
  refine wpStill_nil ?_
  clear w4_ w5_ k90 k91 k92 kC0 kC1 kC2 kC3 kr
  go_wp2_with (go_at_call 27;refine (zn _ _ _ _ S.hb).mono ?_;rintro e W2 hT;replace S:=S.take hT;obtain rfl:=hT.1;clear hT;have kb:=S.cell;have k90:=S.d.arr.1;have f0:=ql S.d.h0 j;have kr:=S.d.at0 j (by omega))
  refine HK.out _ _ _ _ _ _ _ _ _ _ _ _ _ _ _ _ _ _ _ _ _ _ _ _ _ _ _ _ _ _ _ _ _ _ _ _ _ _ _ _ _ _ _ _ _ _ _ _ _ _ _ _ _ _ _ _ _ _ _ _ _ _ _ _ _ _ _ _ _ _ _ _ _ _ _ _ _ _ _ _ _ _ _ _ _ _ _ _ _ _ _ _ _ _ _ _ _ _ _ _ _ _ _ _ _ _ _ _ _ _ _ _ _ _ _ _ _ _ _ _ _ _ _ _ _ _ _ ?_
  rw [HD.out]
  exact S.d.set0 _ _
end Go.Proofs.Ytdefecnngccmoaa.Ed
namespace Go.Proofs.Ytdefecnngccmoaa.Ed
open Go.RowKit Go.Proofs.YtdefecnngccmoaaW.PrintWords
set_option maxRecDepth 1000000 in
set_option maxHeartbeats 40000000 in
theorem Zr (a b : ByteArray) (c0 c1 c2 c3 : Int) (hOk : Lb.Cst.Ok ⟨c0,c1,c2,c3⟩) (ha : a.size ≤ 60) (hb : b.size ≤ 60) (w : World) (gC g9 b0 b1 b2 i j : Nat) (R0 R1 R2 : List Int)
    (E0 : Hid (∀ t : Nat,j < t → t ≤ b.size → R0.getD t 0 = dd ⟨c0,c1,c2,c3⟩ a b i t)) (E1 : Hid (i < a.size → ∀ t : Nat,t ≤ b.size → R1.getD t 0 = dd ⟨c0,c1,c2,c3⟩ a b (i + 1) t)) (E2 : Hid (i + 2 ≤ a.size → ∀ t : Nat,t ≤ b.size → R2.getD t 0 = dd ⟨c0,c1,c2,c3⟩ a b (i + 2) t))
    (hin : Hid (i = a.size)) (hjm : j < b.size)
    (K : Act → World → Prop) (Q : Exit → Act → World → Prop) (wr : World) (hS : DSt w wr gC g9 b0 b1 b2 ⟨c0,c1,c2,c3⟩ R0 R1 R2 b.size) (v2 v3 v4 v6 v7 v8 v10 v13 v14 v15 v16 v17 v18 v19 v20 v21 v22 v23 v24 v25 v26 v27 v28 v29 v30 v31 v32 v33 v34 v35 v36 v37 v38 v39 v40 v41 v42 v43 v44 v45 v46 v47 v48 v49 v50 v51 v52 v53 v54 v55 v56 v57 v58 v59 v60 v61 v62 v63 v64 v65 v66 v67 v68 v69 v70 v71 v72 v73 v74 v75 v76 v77 v78 v79 v80 v81 v82 v83 v84 v85 v86 v87 v88 v89 v90 v91 v92 v93 v94 v95 v96 v97 v98 v99 v100 v101 v102 v103 v104 v105 v106 v107 v108 v109 v110 v111 v112 v113 v114 v115 v116 v117 v118 v119 v120 v121 v122 v123 v124 v125 v126 v127 v128 v129 v130 v131 v132 v133 v134 v135 v136 v137 v138 v139 v140 v141 v142 v143 v144 v145 v146 v147 v148 v149 v150 v151 v152 v153 v154 v155 v156 v157 v158 v159 v160 v161 v162 v163 v164 v165 v166 v167 v168 v169 v170 v171 v172 v173 v174 v175 v176 : Value)
    (hK : ∀ (u13 u14 u40 u41 u42 u43 u44 u45 u46 u47 u48 u49 u50 u51 u52 u53 u54 u55 u56 u57 u58 u59 u60 u61 u62 u63 u64 u65 u66 u67 u68 u69 u70 u71 u72 u73 u74 u75 u76 u77 u78 u79 u80 u81 u82 u83 u84 u85 u86 u87 u88 u89 u90 u91 u92 u93 u94 u95 u96 u97 u98 u99 u100 u101 u102 u103 u104 u105 u106 u107 u108 u109 u110 u111 u112 u113 u114 u115 u116 u117 u118 u119 u120 u121 u122 u123 u124 u125 u126 u127 u128 u129 u130 u131 u132 u133 u134 u135 u136 u137 u138 u139 u140 u141 u142 u143 u144 u145 u146 u147 u148 u149 u150 u151 u152 u153 u154 u155 u156 u157 u158 u159 u160 u161 u162 u163 : Value) (W : World),DSt w W gC g9 b0 b1 b2 ⟨c0,c1,c2,c3⟩ (R0.set j (dd ⟨c0,c1,c2,c3⟩ a b i j)) R1 R2 b.size → K ⟨#[.string a,.string b,v2,v3,v4,.pointer (some ⟨gC,0,none⟩),v6,v7,v8,.pointer (some ⟨g9,0,none⟩),v10,.int .i64 (i : Int),.int .i64 ((j : Int) - 1),u13,u14,v15,v16,v17,v18,v19,v20,v21,v22,v23,v24,v25,v26,v27,v28,v29,v30,v31,v32,v33,v34,v35,v36,v37,v38,v39,u40,u41,u42,u43,u44,u45,u46,u47,u48,u49,u50,u51,u52,u53,u54,u55,u56,u57,u58,u59,u60,u61,u62,u63,u64,u65,u66,u67,u68,u69,u70,u71,u72,u73,u74,u75,u76,u77,u78,u79,u80,u81,u82,u83,u84,u85,u86,u87,u88,u89,u90,u91,u92,u93,u94,u95,u96,u97,u98,u99,u100,u101,u102,u103,u104,u105,u106,u107,u108,u109,u110,u111,u112,u113,u114,u115,u116,u117,u118,u119,u120,u121,u122,u123,u124,u125,u126,u127,u128,u129,u130,u131,u132,u133,u134,u135,u136,u137,u138,u139,u140,u141,u142,u143,u144,u145,u146,u147,u148,u149,u150,u151,u152,u153,u154,u155,u156,u157,u158,u159,u160,u161,u162,u163,v164,v165,v166,v167,v168,v169,v170,v171,v172,v173,v174,v175,v176],[]⟩ W) :
    (zw Try.f12 2).wp Try.prog (Exit.then K Q) ⟨#[.string a,.string b,v2,v3,v4,.pointer (some ⟨gC,0,none⟩),v6,v7,v8,.pointer (some ⟨g9,0,none⟩),v10,.int .i64 (i : Int),.int .i64 (j : Int),v13,v14,v15,v16,v17,v18,v19,v20,v21,v22,v23,v24,v25,v26,v27,v28,v29,v30,v31,v32,v33,v34,v35,v36,v37,v38,v39,v40,v41,v42,v43,v44,v45,v46,v47,v48,v49,v50,v51,v52,v53,v54,v55,v56,v57,v58,v59,v60,v61,v62,v63,v64,v65,v66,v67,v68,v69,v70,v71,v72,v73,v74,v75,v76,v77,v78,v79,v80,v81,v82,v83,v84,v85,v86,v87,v88,v89,v90,v91,v92,v93,v94,v95,v96,v97,v98,v99,v100,v101,v102,v103,v104,v105,v106,v107,v108,v109,v110,v111,v112,v113,v114,v115,v116,v117,v118,v119,v120,v121,v122,v123,v124,v125,v126,v127,v128,v129,v130,v131,v132,v133,v134,v135,v136,v137,v138,v139,v140,v141,v142,v143,v144,v145,v146,v147,v148,v149,v150,v151,v152,v153,v154,v155,v156,v157,v158,v159,v160,v161,v162,v163,v164,v165,v166,v167,v168,v169,v170,v171,v172,v173,v174,v175,v176],[]⟩ wr:=by
  have HK:=Lib.hid hK
  clear hK
  obtain ⟨ki1,ki2,kd1,kd2,kc1,kc2,ks1,ks2⟩:=id hOk
  simp only at ki1 ki2 kd1 kd2 kc1 kc2 ks1 ks2
  have hmf : ∀ (fn : Fn) (first cap : Array Value) (w : World),(Instr.makeFunc fn first cap).run Try.prog w = .ok (.func fn first cap) w:=fun _ _ _ _ => rfl
  conv => arg 2;whnf
  have hi1 : (i : Int) ≤ (a.size : Int):=by have:=hin.out;omega
  have hi2 : decide ((i : Int) < (a.size : Int)) = false:=decide_eq_false (by have:=hin.out;omega)
  have hi3 : ((i : Int) == (a.size : Int)) = true:=beq_iff_eq.2 (by have:=hin.out;omega)
  have hi5 : ¬ (i < a.size):=by have:=hin.out;omega
  have hj1 : (j : Int) ≤ (b.size : Int):=by omega
  have hj3 : ((j : Int) == (b.size : Int)) = false:=beq_eq_false_iff_ne.2 (by omega)
  have hsw : sw a b i j = false:=by
    cases hs : sw a b i j with
    | false => rfl
    | true => have:=xA hs;omega
  obtain ⟨x4,hx4⟩ : ∃ x,x = dd ⟨c0,c1,c2,c3⟩ a b (i) (j + 1):=⟨_,rfl⟩
  have qx4:=jO hOk a b ha hb (i) (j + 1)
  rw [← hx4] at qx4
  obtain ⟨qx40,qx41⟩:=qx4
  have HSW:=Lib.hid hsw
  have hfin : dd ⟨c0,c1,c2,c3⟩ a b i j = tk (-1) (x4 + c0):=by
    rw [hx4,hin.out,Qe _ _ _ _ hjm,yQ]
  have HD:=Lib.hid hfin
  clear hfin hsw
  have Hx4:=Lib.hid hx4
  clear hx4
  go_wp2
  have S:=BSt.mk_ hS (-1)
  revert S
  generalize wr.alloc (.cells #[.int .i64 (-1)] 3) = W
  generalize wr.heap.size = gb
  intro S
  refine wp_region_quiet_lit (by kernel_rfl) (by kernel_rfl) ?_
  repeat (go_big_quiet_step (fail))
  refine wpQuiet_nil ?_
  rintro W' ⟨n',hW'⟩
  replace S:=hW' ▸ S.drewN n'
  clear hW'
  go_wp2
  refine wp_region_quiet_lit (by kernel_rfl) (by kernel_rfl) ?_
  repeat (go_big_quiet_step (fail))
  refine wpQuiet_nil ?_
  rintro W' ⟨n',hW'⟩
  replace S:=hW' ▸ S.drewN n'
  clear hW'
  go_wp2
  refine wp_region_quiet_lit (by kernel_rfl) (by kernel_rfl) ?_
  repeat (go_big_quiet_step ((go_at_call 28;exact xu a b i j _ HSW.out _ _)))
  refine wpQuiet_nil ?_
  rintro W' ⟨n',hW'⟩
  replace S:=hW' ▸ S.drewN n'
  clear hW'
  go_wp2
  refine zm 10 (by kernel_rfl) (by kernel_rfl) ?_
  intro W' hW'
  replace S:=hW' ▸ S.drew
  clear hW'
  obtain ⟨k90,k91,k92⟩:=S.d.arr
  obtain ⟨kC0,kC1,kC2,kC3⟩:=S.d.cost
  have kr:=(S.d.at0 (j + 1) (by omega)).trans (by rw [E0.out _ (by omega) (by omega),← Hx4.out])
  have w5_ : IntKind.i64.wrap (x4 + c0) = x4 + c0:=IntWalk.i64_in _ (by omega)
  have w1_ : IntKind.i64.wrap ((j : Int) + 1) = (j : Int) + 1:=IntWalk.i64_in _ (by omega)
  have w2_ : 0 ≤ (j : Int) + 1:=by omega
  have w3_ : ((j : Int) + 1).toNat = j + 1:=by omega
  have w4_ : (j : Int) + 1 < (b.size : Int) + 1:=by omega
  simp only [List.take_succ_cons,List.take_zero,List.drop_succ_cons,List.drop_zero]
  repeat still_step
  refine wpStill_nil ?_
  clear w1_ w2_ w3_ w4_ w5_ k90 k91 k92 kC0 kC1 kC2 kC3 kr
  go_wp2_with (go_at_call 27;refine (zn _ _ _ _ S.hb).mono ?_;rintro e W2 hT;replace S:=S.take hT;obtain rfl:=hT.1;clear hT;have kb:=S.cell;have k90:=S.d.arr.1;have f0:=ql S.d.h0 j;have kr:=S.d.at0 j (by omega))
  refine HK.out _ _ _ _ _ _ _ _ _ _ _ _ _ _ _ _ _ _ _ _ _ _ _ _ _ _ _ _ _ _ _ _ _ _ _ _ _ _ _ _ _ _ _ _ _ _ _ _ _ _ _ _ _ _ _ _ _ _ _ _ _ _ _ _ _ _ _ _ _ _ _ _ _ _ _ _ _ _ _ _ _ _ _ _ _ _ _ _ _ _ _ _ _ _ _ _ _ _ _ _ _ _ _ _ _ _ _ _ _ _ _ _ _ _ _ _ _ _ _ _ _ _ _ _ _ _ _ ?_
  rw [HD.out]
  exact S.d.set0 _ _
end Go.Proofs.Ytdefecnngccmoaa.Ed
namespace Go.Proofs.Ytdefecnngccmoaa.Ed
open Go.RowKit Go.Proofs.YtdefecnngccmoaaW.PrintWords
set_option maxRecDepth 1000000 in
set_option maxHeartbeats 40000000 in
theorem Zk (a b : ByteArray) (c0 c1 c2 c3 : Int) (hOk : Lb.Cst.Ok ⟨c0,c1,c2,c3⟩) (ha : a.size ≤ 60) (hb : b.size ≤ 60) (w : World) (gC g9 b0 b1 b2 i j : Nat) (R0 R1 R2 : List Int)
    (E0 : Hid (∀ t : Nat,j < t → t ≤ b.size → R0.getD t 0 = dd ⟨c0,c1,c2,c3⟩ a b i t)) (E1 : Hid (i < a.size → ∀ t : Nat,t ≤ b.size → R1.getD t 0 = dd ⟨c0,c1,c2,c3⟩ a b (i + 1) t)) (E2 : Hid (i + 2 ≤ a.size → ∀ t : Nat,t ≤ b.size → R2.getD t 0 = dd ⟨c0,c1,c2,c3⟩ a b (i + 2) t))
    (hin : Hid (i = a.size)) (hjm : Hid (j = b.size))
    (K : Act → World → Prop) (Q : Exit → Act → World → Prop) (wr : World) (hS : DSt w wr gC g9 b0 b1 b2 ⟨c0,c1,c2,c3⟩ R0 R1 R2 b.size) (v2 v3 v4 v6 v7 v8 v10 v13 v14 v15 v16 v17 v18 v19 v20 v21 v22 v23 v24 v25 v26 v27 v28 v29 v30 v31 v32 v33 v34 v35 v36 v37 v38 v39 v40 v41 v42 v43 v44 v45 v46 v47 v48 v49 v50 v51 v52 v53 v54 v55 v56 v57 v58 v59 v60 v61 v62 v63 v64 v65 v66 v67 v68 v69 v70 v71 v72 v73 v74 v75 v76 v77 v78 v79 v80 v81 v82 v83 v84 v85 v86 v87 v88 v89 v90 v91 v92 v93 v94 v95 v96 v97 v98 v99 v100 v101 v102 v103 v104 v105 v106 v107 v108 v109 v110 v111 v112 v113 v114 v115 v116 v117 v118 v119 v120 v121 v122 v123 v124 v125 v126 v127 v128 v129 v130 v131 v132 v133 v134 v135 v136 v137 v138 v139 v140 v141 v142 v143 v144 v145 v146 v147 v148 v149 v150 v151 v152 v153 v154 v155 v156 v157 v158 v159 v160 v161 v162 v163 v164 v165 v166 v167 v168 v169 v170 v171 v172 v173 v174 v175 v176 : Value)
    (hK : ∀ (u13 u14 u40 u41 u42 u43 u44 u45 u46 u47 u48 u49 u50 u51 u52 u53 u54 u55 u56 u57 u58 u59 u60 u61 u62 u63 u64 u65 u66 u67 u68 u69 u70 u71 u72 u73 u74 u75 u76 u77 u78 u79 u80 u81 u82 u83 u84 u85 u86 u87 u88 u89 u90 u91 u92 u93 u94 u95 u96 u97 u98 u99 u100 u101 u102 u103 u104 u105 u106 u107 u108 u109 u110 u111 u112 u113 u114 u115 u116 u117 u118 u119 u120 u121 u122 u123 u124 u125 u126 u127 u128 u129 u130 u131 u132 u133 u134 u135 u136 u137 u138 u139 u140 u141 u142 u143 u144 u145 u146 u147 u148 u149 u150 u151 u152 u153 u154 u155 u156 u157 u158 u159 u160 u161 u162 u163 : Value) (W : World),DSt w W gC g9 b0 b1 b2 ⟨c0,c1,c2,c3⟩ (R0.set j (dd ⟨c0,c1,c2,c3⟩ a b i j)) R1 R2 b.size → K ⟨#[.string a,.string b,v2,v3,v4,.pointer (some ⟨gC,0,none⟩),v6,v7,v8,.pointer (some ⟨g9,0,none⟩),v10,.int .i64 (i : Int),.int .i64 ((j : Int) - 1),u13,u14,v15,v16,v17,v18,v19,v20,v21,v22,v23,v24,v25,v26,v27,v28,v29,v30,v31,v32,v33,v34,v35,v36,v37,v38,v39,u40,u41,u42,u43,u44,u45,u46,u47,u48,u49,u50,u51,u52,u53,u54,u55,u56,u57,u58,u59,u60,u61,u62,u63,u64,u65,u66,u67,u68,u69,u70,u71,u72,u73,u74,u75,u76,u77,u78,u79,u80,u81,u82,u83,u84,u85,u86,u87,u88,u89,u90,u91,u92,u93,u94,u95,u96,u97,u98,u99,u100,u101,u102,u103,u104,u105,u106,u107,u108,u109,u110,u111,u112,u113,u114,u115,u116,u117,u118,u119,u120,u121,u122,u123,u124,u125,u126,u127,u128,u129,u130,u131,u132,u133,u134,u135,u136,u137,u138,u139,u140,u141,u142,u143,u144,u145,u146,u147,u148,u149,u150,u151,u152,u153,u154,u155,u156,u157,u158,u159,u160,u161,u162,u163,v164,v165,v166,v167,v168,v169,v170,v171,v172,v173,v174,v175,v176],[]⟩ W) :
    (zw Try.f12 2).wp Try.prog (Exit.then K Q) ⟨#[.string a,.string b,v2,v3,v4,.pointer (some ⟨gC,0,none⟩),v6,v7,v8,.pointer (some ⟨g9,0,none⟩),v10,.int .i64 (i : Int),.int .i64 (j : Int),v13,v14,v15,v16,v17,v18,v19,v20,v21,v22,v23,v24,v25,v26,v27,v28,v29,v30,v31,v32,v33,v34,v35,v36,v37,v38,v39,v40,v41,v42,v43,v44,v45,v46,v47,v48,v49,v50,v51,v52,v53,v54,v55,v56,v57,v58,v59,v60,v61,v62,v63,v64,v65,v66,v67,v68,v69,v70,v71,v72,v73,v74,v75,v76,v77,v78,v79,v80,v81,v82,v83,v84,v85,v86,v87,v88,v89,v90,v91,v92,v93,v94,v95,v96,v97,v98,v99,v100,v101,v102,v103,v104,v105,v106,v107,v108,v109,v110,v111,v112,v113,v114,v115,v116,v117,v118,v119,v120,v121,v122,v123,v124,v125,v126,v127,v128,v129,v130,v131,v132,v133,v134,v135,v136,v137,v138,v139,v140,v141,v142,v143,v144,v145,v146,v147,v148,v149,v150,v151,v152,v153,v154,v155,v156,v157,v158,v159,v160,v161,v162,v163,v164,v165,v166,v167,v168,v169,v170,v171,v172,v173,v174,v175,v176],[]⟩ wr:=by
  have HK:=Lib.hid hK
  clear hK
  obtain ⟨ki1,ki2,kd1,kd2,kc1,kc2,ks1,ks2⟩:=id hOk
  simp only at ki1 ki2 kd1 kd2 kc1 kc2 ks1 ks2
  have hmf : ∀ (fn : Fn) (first cap : Array Value) (w : World),(Instr.makeFunc fn first cap).run Try.prog w = .ok (.func fn first cap) w:=fun _ _ _ _ => rfl
  conv => arg 2;whnf
  have hi1 : (i : Int) ≤ (a.size : Int):=by have:=hin.out;omega
  have hi2 : decide ((i : Int) < (a.size : Int)) = false:=decide_eq_false (by have:=hin.out;omega)
  have hi3 : ((i : Int) == (a.size : Int)) = true:=beq_iff_eq.2 (by have:=hin.out;omega)
  have hi5 : ¬ (i < a.size):=by have:=hin.out;omega
  have hj1 : (j : Int) ≤ (b.size : Int):=by have:=hjm.out;omega
  have hj2 : decide ((j : Int) < (b.size : Int)) = false:=decide_eq_false (by have:=hjm.out;omega)
  have hj3 : ((j : Int) == (b.size : Int)) = true:=beq_iff_eq.2 (by have:=hjm.out;omega)
  have hj5 : ¬ (j < b.size):=by have:=hjm.out;omega
  have hsw : sw a b i j = false:=by
    cases hs : sw a b i j with
    | false => rfl
    | true => have:=xA hs;omega
  have HSW:=Lib.hid hsw
  have hfin : dd ⟨c0,c1,c2,c3⟩ a b i j = 0:=by
    rw [hin.out,hjm.out];exact JD _ _ _
  have HD:=Lib.hid hfin
  clear hfin hsw
  go_wp2
  have S:=BSt.mk_ hS 0
  revert S
  generalize wr.alloc (.cells #[.int .i64 0] 3) = W
  generalize wr.heap.size = gb
  intro S
  refine wp_region_quiet_lit (by kernel_rfl) (by kernel_rfl) ?_
  repeat (go_big_quiet_step (fail))
  refine wpQuiet_nil ?_
  rintro W' ⟨n',hW'⟩
  replace S:=hW' ▸ S.drewN n'
  clear hW'
  go_wp2
  refine wp_region_quiet_lit (by kernel_rfl) (by kernel_rfl) ?_
  repeat (go_big_quiet_step (fail))
  refine wpQuiet_nil ?_
  rintro W' ⟨n',hW'⟩
  replace S:=hW' ▸ S.drewN n'
  clear hW'
  go_wp2
  refine wp_region_quiet_lit (by kernel_rfl) (by kernel_rfl) ?_
  repeat (go_big_quiet_step ((go_at_call 28;exact xu a b i j _ HSW.out _ _)))
  refine wpQuiet_nil ?_
  rintro W' ⟨n',hW'⟩
  replace S:=hW' ▸ S.drewN n'
  clear hW'
  have kb:=S.cell
  have k90:=S.d.arr.1
  have f0:=ql S.d.h0 j
  have kr:=S.d.at0 j (by omega)
  go_wp2
  refine HK.out _ _ _ _ _ _ _ _ _ _ _ _ _ _ _ _ _ _ _ _ _ _ _ _ _ _ _ _ _ _ _ _ _ _ _ _ _ _ _ _ _ _ _ _ _ _ _ _ _ _ _ _ _ _ _ _ _ _ _ _ _ _ _ _ _ _ _ _ _ _ _ _ _ _ _ _ _ _ _ _ _ _ _ _ _ _ _ _ _ _ _ _ _ _ _ _ _ _ _ _ _ _ _ _ _ _ _ _ _ _ _ _ _ _ _ _ _ _ _ _ _ _ _ _ _ _ _ ?_
  rw [HD.out]
  exact S.d.set0 _ _
end Go.Proofs.Ytdefecnngccmoaa.Ed
namespace Go.Proofs.Ytdefecnngccmoaa.Ed
open Go.RowKit Go.Proofs.YtdefecnngccmoaaW.PrintWords
theorem kg {m j : Nat} {R0 : List Int} {f : Nat → Int} (hl : R0.length = m + 1) (E0 : Hid (∀ t : Nat,j < t → t ≤ m → R0.getD t 0 = f t)) :
    ∀ t : Nat,(j : Int) - 1 < t → t ≤ m → (R0.set j (f j)).getD t 0 = f t:=by
  intro t h1 h2
  by_cases e : j = t
  · subst e;simp [show j < R0.length by omega]
  · have:=E0.out t (by omega) h2
    rw [← this]
    simp [e]
theorem zN {w w1 : World} (c0 c1 c2 c3 : Int) (m : Nat) (h : Below (w.alloc (.cells #[.int .i64 c0,.int .i64 c1,.int .i64 c2,.int .i64 c3] 23)).heap.size (w.alloc (.cells #[.int .i64 c0,.int .i64 c1,.int .i64 c2,.int .i64 c3] 23)) w1) :
    DSt w ((((w1.alloc (.cells #[.slice (some ⟨w1.heap.size + 1,0,none⟩) (m + 1) (m + 1),.slice (some ⟨w1.heap.size + 1 + 1,0,none⟩) (m + 1) (m + 1),.slice (some ⟨w1.heap.size + 1 + 1 + 1,0,none⟩) (m + 1) (m + 1)] 63)).alloc (.cells (ints (List.replicate (m + 1) 0)) 3)).alloc (.cells (ints (List.replicate (m + 1) 0)) 3)).alloc (.cells (ints (List.replicate (m + 1) 0)) 3))
      w.heap.size w1.heap.size (w1.heap.size + 1) (w1.heap.size + 1 + 1) (w1.heap.size + 1 + 1 + 1) ⟨c0,c1,c2,c3⟩ (List.replicate (m + 1) 0) (List.replicate (m + 1) 0) (List.replicate (m + 1) 0) m:=by
  have h1:=h.size
  simp only [World.size_alloc] at h1
  have hb : Below w.heap.size w w1:=((Below.refl _ w).alloc (Nat.le_refl _) _).trans (h.mono (by simp [World.size_alloc]))
  have hC : w1.heap[w.heap.size]? = some (.cells #[.int .i64 c0,.int .i64 c1,.int .i64 c2,.int .i64 c3] 23 (0,0)):=(h.block _ (by simp [World.size_alloc])).trans (jc w _)
  refine ⟨(((hb.alloc (by omega) _).alloc (by simp [World.size_alloc];omega) _).alloc (by simp [World.size_alloc];omega) _).alloc (by simp [World.size_alloc];omega) _,?_,?_,?_,?_,?_,by simp,by simp,by simp,by omega,by omega,by omega,by omega,by omega,by omega,by omega⟩
  · exact qw (qw (qw (qw hC _) _) _) _
  · exact qw (qw (qw (jc _ _) _) _) _
  · refine qw (qw ?_ _) _
    have:=jc (w1.alloc (.cells #[.slice (some ⟨w1.heap.size + 1,0,none⟩) (m + 1) (m + 1),.slice (some ⟨w1.heap.size + 1 + 1,0,none⟩) (m + 1) (m + 1),.slice (some ⟨w1.heap.size + 1 + 1 + 1,0,none⟩) (m + 1) (m + 1)] 63)) (.cells (ints (List.replicate (m + 1) 0)) 3)
    rwa [World.size_alloc] at this
  · refine qw ?_ _
    have:=jc ((w1.alloc (.cells #[.slice (some ⟨w1.heap.size + 1,0,none⟩) (m + 1) (m + 1),.slice (some ⟨w1.heap.size + 1 + 1,0,none⟩) (m + 1) (m + 1),.slice (some ⟨w1.heap.size + 1 + 1 + 1,0,none⟩) (m + 1) (m + 1)] 63)).alloc (.cells (ints (List.replicate (m + 1) 0)) 3)) (.cells (ints (List.replicate (m + 1) 0)) 3)
    rwa [World.size_alloc,World.size_alloc] at this
  · have:=jc (((w1.alloc (.cells #[.slice (some ⟨w1.heap.size + 1,0,none⟩) (m + 1) (m + 1),.slice (some ⟨w1.heap.size + 1 + 1,0,none⟩) (m + 1) (m + 1),.slice (some ⟨w1.heap.size + 1 + 1 + 1,0,none⟩) (m + 1) (m + 1)] 63)).alloc (.cells (ints (List.replicate (m + 1) 0)) 3)).alloc (.cells (ints (List.replicate (m + 1) 0)) 3)) (.cells (ints (List.replicate (m + 1) 0)) 3)
    rwa [World.size_alloc,World.size_alloc,World.size_alloc] at this
set_option maxRecDepth 1000000 in
set_option maxHeartbeats 40000000 in
theorem yo (a b : ByteArray) (c0 c1 c2 c3 : Int) (w : World) (hc : zl c0 c1 c2 c3 = true) (ha : a.size ≤ 60) (hb : b.size ≤ 60) :
    Calls Try.prog 12 #[.string a,.string b,.agg #[.int .i64 c0,.int .i64 c1,.int .i64 c2,.int .i64 c3]] w fun e w' => e = .returned (.tuple #[.int .i64 (dd ⟨c0,c1,c2,c3⟩ a b 0 0),.int .i64 0]) ∧ Below w.heap.size w w':=by
  have hm : QE0.xN.f a b c0 c1 c2 c3 = some 0:=by
    unfold QE0.xN.f QE0.jH.f
    simp only [hc,Option.bind_some,if_true]
    rw [if_neg (by omega),if_neg (by omega)]
  have HM:=Lib.hid hm
  clear hm
  have hOk : Lb.Cst.Ok ⟨c0,c1,c2,c3⟩:=by
    simp only [zl,okc,Bool.and_eq_true,decide_eq_true_eq] at hc
    obtain ⟨⟨i1,i2⟩,⟨d1,d2⟩,⟨e1,e2⟩,s1,s2⟩:=hc
    exact ⟨i1,i2,d1,d2,e1,e2,s1,s2⟩
  clear hc
  have hmk : ∀ W : World,(Instr.makeSlice 62 (.int .i64 ((b.size : Int) + 1)) (.int .i64 ((b.size : Int) + 1))).run Try.prog W = .ok (.slice (some ⟨W.heap.size,0,none⟩) (b.size + 1) (b.size + 1)) (W.alloc (.cells (ints (List.replicate (b.size + 1) 0)) 3)):=fun W => Zz (b.size + 1) (by omega) W
  go_enter Try.func12,Try.ntmps12
  go_wp2_with (go_at_call 26;refine (QE0.xN.calls a b c0 c1 c2 c3 0 _ HM.out).mono ?_;rintro e w1 ⟨rfl,hB1⟩)
  refine wp_loop_rounds 4 ?_
  rw [rounds_succ]
  go_wp2
  rw [rounds_succ]
  go_wp2
  rw [rounds_succ]
  go_wp2
  rw [rounds_succ]
  go_wp2
  clear hmk
  go_loopw [11] (fun v W => ∃ (i : Int) (b0 b1 b2 : Nat) (R0 R1 R2 : List Int),-1 ≤ i ∧ i ≤ a.size ∧ v = .int .i64 i ∧ DSt w W w.heap.size w1.heap.size b0 b1 b2 ⟨c0,c1,c2,c3⟩ R0 R1 R2 b.size ∧
      (i + 1 ≤ a.size → ∀ j,j ≤ b.size → R1.getD j 0 = dd ⟨c0,c1,c2,c3⟩ a b (i + 1).toNat j) ∧ (i + 2 ≤ a.size → ∀ j,j ≤ b.size → R2.getD j 0 = dd ⟨c0,c1,c2,c3⟩ a b (i + 2).toNat j)) (fun v _ => (intOf v + 1).toNat)
  case atStart =>
    exact ⟨a.size,_,_,_,_,_,_,by omega,by omega,rfl,zN _ _ _ _ _ hB1,by omega,by omega⟩
  case round =>
    obtain ⟨i,b0,b1,b2,R0,R1,R2,hi0,hi1,rfl,hS,hr1,hr2⟩:=hrel
    have Hr1:=Lib.hid hr1
    have Hr2:=Lib.hid hr2
    clear hr1 hr2
    by_cases hi : 0 ≤ i
    · obtain ⟨i,rfl⟩:=Int.eq_ofNat_of_zero_le hi
      go_wp2
      obtain ⟨wo,rfl⟩ : ∃ wo : World,wo = wr:=⟨_,rfl⟩
      go_loopw [12] (fun v W => ∃ (j : Int) (R0 : List Int),-1 ≤ j ∧ j ≤ b.size ∧ v = .int .i64 j ∧ DSt w W w.heap.size w1.heap.size b0 b1 b2 ⟨c0,c1,c2,c3⟩ R0 R1 R2 b.size ∧
        (∀ t : Nat,j < t → t ≤ b.size → R0.getD t 0 = dd ⟨c0,c1,c2,c3⟩ a b i t)) (fun v _ => (intOf v + 1).toNat)
      case atStart => exact ⟨b.size,R0,by omega,by omega,rfl,hS,fun t h1 h2 => by omega⟩
      case round =>
        obtain ⟨j,R0,hj0,hj1,rfl,hS,hr0⟩:=hrel
        by_cases hj : 0 ≤ j
        · obtain ⟨j,rfl⟩:=Int.eq_ofNat_of_zero_le hj
          have E0 : Hid (∀ t : Nat,j < t → t ≤ b.size → R0.getD t 0 = dd ⟨c0,c1,c2,c3⟩ a b i t):=fun t h => hr0 t (by omega)
          clear hr0
          have E2 : Hid (i + 2 ≤ a.size → ∀ t : Nat,t ≤ b.size → R2.getD t 0 = dd ⟨c0,c1,c2,c3⟩ a b (i + 2) t):=fun h => Hr2.out (by omega)
          have E1 : Hid (i < a.size → ∀ t : Nat,t ≤ b.size → R1.getD t 0 = dd ⟨c0,c1,c2,c3⟩ a b (i + 1) t):=fun h => Hr1.out (by omega)
          clear Hr1 Hr2
          by_cases hin : i < a.size
          · by_cases hjm : j < b.size
            · by_cases he : bt a i = bt b j
              · refine Xq a b c0 c1 c2 c3 hOk ha hb w _ _ _ _ _ i j R0 R1 R2 E0 E1 E2 hin hjm he _ _ _ hS _ _ _ _ _ _ _ _ _ _ _ _ _ _ _ _ _ _ _ _ _ _ _ _ _ _ _ _ _ _ _ _ _ _ _ _ _ _ _ _ _ _ _ _ _ _ _ _ _ _ _ _ _ _ _ _ _ _ _ _ _ _ _ _ _ _ _ _ _ _ _ _ _ _ _ _ _ _ _ _ _ _ _ _ _ _ _ _ _ _ _ _ _ _ _ _ _ _ _ _ _ _ _ _ _ _ _ _ _ _ _ _ _ _ _ _ _ _ _ _ _ _ _ _ _ _ _ _ _ _ _ _ _ _ _ _ _ _ _ _ _ _ _ _ _ _ _ _ _ _ _ _ _ _ _ _ _ _ _ _ _ _ _ _ _ _ _ _ _ _ _ ?_
                intro _ _ _ _ _ _ _ _ _ _ _ _ _ _ _ _ _ _ _ _ _ _ _ _ _ _ _ _ _ _ _ _ _ _ _ _ _ _ _ _ _ _ _ _ _ _ _ _ _ _ _ _ _ _ _ _ _ _ _ _ _ _ _ _ _ _ _ _ _ _ _ _ _ _ _ _ _ _ _ _ _ _ _ _ _ _ _ _ _ _ _ _ _ _ _ _ _ _ _ _ _ _ _ _ _ _ _ _ _ _ _ _ _ _ _ _ _ _ _ _ _ _ _ _ _ _ W' h
                dsimp only
                go_roundw
                case rel => exact ⟨(j : Int) - 1,_,by omega,by omega,rfl,h,kg hS.l0 E0⟩
                case measure => simp [intOf]
              · cases hsw : sw a b i j
                · refine Xh a b c0 c1 c2 c3 hOk ha hb w _ _ _ _ _ i j R0 R1 R2 E0 E1 E2 hin hjm he hsw _ _ _ hS _ _ _ _ _ _ _ _ _ _ _ _ _ _ _ _ _ _ _ _ _ _ _ _ _ _ _ _ _ _ _ _ _ _ _ _ _ _ _ _ _ _ _ _ _ _ _ _ _ _ _ _ _ _ _ _ _ _ _ _ _ _ _ _ _ _ _ _ _ _ _ _ _ _ _ _ _ _ _ _ _ _ _ _ _ _ _ _ _ _ _ _ _ _ _ _ _ _ _ _ _ _ _ _ _ _ _ _ _ _ _ _ _ _ _ _ _ _ _ _ _ _ _ _ _ _ _ _ _ _ _ _ _ _ _ _ _ _ _ _ _ _ _ _ _ _ _ _ _ _ _ _ _ _ _ _ _ _ _ _ _ _ _ _ _ _ _ _ _ _ _ ?_
                  intro _ _ _ _ _ _ _ _ _ _ _ _ _ _ _ _ _ _ _ _ _ _ _ _ _ _ _ _ _ _ _ _ _ _ _ _ _ _ _ _ _ _ _ _ _ _ _ _ _ _ _ _ _ _ _ _ _ _ _ _ _ _ _ _ _ _ _ _ _ _ _ _ _ _ _ _ _ _ _ _ _ _ _ _ _ _ _ _ _ _ _ _ _ _ _ _ _ _ _ _ _ _ _ _ _ _ _ _ _ _ _ _ _ _ _ _ _ _ _ _ _ _ _ _ _ _ W' h
                  dsimp only
                  go_roundw
                  case rel => exact ⟨(j : Int) - 1,_,by omega,by omega,rfl,h,kg hS.l0 E0⟩
                  case measure => simp [intOf]
                · refine ZI a b c0 c1 c2 c3 hOk ha hb w _ _ _ _ _ i j R0 R1 R2 E0 E1 E2 hin hjm he hsw _ _ _ hS _ _ _ _ _ _ _ _ _ _ _ _ _ _ _ _ _ _ _ _ _ _ _ _ _ _ _ _ _ _ _ _ _ _ _ _ _ _ _ _ _ _ _ _ _ _ _ _ _ _ _ _ _ _ _ _ _ _ _ _ _ _ _ _ _ _ _ _ _ _ _ _ _ _ _ _ _ _ _ _ _ _ _ _ _ _ _ _ _ _ _ _ _ _ _ _ _ _ _ _ _ _ _ _ _ _ _ _ _ _ _ _ _ _ _ _ _ _ _ _ _ _ _ _ _ _ _ _ _ _ _ _ _ _ _ _ _ _ _ _ _ _ _ _ _ _ _ _ _ _ _ _ _ _ _ _ _ _ _ _ _ _ _ _ _ _ _ _ _ _ _ ?_
                  intro _ _ _ _ _ _ _ _ _ _ _ _ _ _ _ _ _ _ _ _ _ _ _ _ _ _ _ _ _ _ _ _ _ _ _ _ _ _ _ _ _ _ _ _ _ _ _ _ _ _ _ _ _ _ _ _ _ _ _ _ _ _ _ _ _ _ _ _ _ _ _ _ _ _ _ _ _ _ _ _ _ _ _ _ _ _ _ _ _ _ _ _ _ _ _ _ _ _ _ _ _ _ _ _ _ _ _ _ _ _ _ _ _ _ _ _ _ _ _ _ _ _ _ _ _ _ W' h
                  dsimp only
                  go_roundw
                  case rel => exact ⟨(j : Int) - 1,_,by omega,by omega,rfl,h,kg hS.l0 E0⟩
                  case measure => simp [intOf]
            · have hjm : Hid (j = b.size):=(by omega : j = b.size)
              refine Zd a b c0 c1 c2 c3 hOk ha hb w _ _ _ _ _ i j R0 R1 R2 E0 E1 E2 hin hjm _ _ _ hS _ _ _ _ _ _ _ _ _ _ _ _ _ _ _ _ _ _ _ _ _ _ _ _ _ _ _ _ _ _ _ _ _ _ _ _ _ _ _ _ _ _ _ _ _ _ _ _ _ _ _ _ _ _ _ _ _ _ _ _ _ _ _ _ _ _ _ _ _ _ _ _ _ _ _ _ _ _ _ _ _ _ _ _ _ _ _ _ _ _ _ _ _ _ _ _ _ _ _ _ _ _ _ _ _ _ _ _ _ _ _ _ _ _ _ _ _ _ _ _ _ _ _ _ _ _ _ _ _ _ _ _ _ _ _ _ _ _ _ _ _ _ _ _ _ _ _ _ _ _ _ _ _ _ _ _ _ _ _ _ _ _ _ _ _ _ _ _ _ _ _ ?_
              intro _ _ _ _ _ _ _ _ _ _ _ _ _ _ _ _ _ _ _ _ _ _ _ _ _ _ _ _ _ _ _ _ _ _ _ _ _ _ _ _ _ _ _ _ _ _ _ _ _ _ _ _ _ _ _ _ _ _ _ _ _ _ _ _ _ _ _ _ _ _ _ _ _ _ _ _ _ _ _ _ _ _ _ _ _ _ _ _ _ _ _ _ _ _ _ _ _ _ _ _ _ _ _ _ _ _ _ _ _ _ _ _ _ _ _ _ _ _ _ _ _ _ _ _ _ _ W' h
              dsimp only
              go_roundw
              case rel => exact ⟨(j : Int) - 1,_,by omega,by omega,rfl,h,kg hS.l0 E0⟩
              case measure => simp [intOf]
          · have hin : Hid (i = a.size):=(by omega : i = a.size)
            by_cases hjm : j < b.size
            · refine Zr a b c0 c1 c2 c3 hOk ha hb w _ _ _ _ _ i j R0 R1 R2 E0 E1 E2 hin hjm _ _ _ hS _ _ _ _ _ _ _ _ _ _ _ _ _ _ _ _ _ _ _ _ _ _ _ _ _ _ _ _ _ _ _ _ _ _ _ _ _ _ _ _ _ _ _ _ _ _ _ _ _ _ _ _ _ _ _ _ _ _ _ _ _ _ _ _ _ _ _ _ _ _ _ _ _ _ _ _ _ _ _ _ _ _ _ _ _ _ _ _ _ _ _ _ _ _ _ _ _ _ _ _ _ _ _ _ _ _ _ _ _ _ _ _ _ _ _ _ _ _ _ _ _ _ _ _ _ _ _ _ _ _ _ _ _ _ _ _ _ _ _ _ _ _ _ _ _ _ _ _ _ _ _ _ _ _ _ _ _ _ _ _ _ _ _ _ _ _ _ _ _ _ _ ?_
              intro _ _ _ _ _ _ _ _ _ _ _ _ _ _ _ _ _ _ _ _ _ _ _ _ _ _ _ _ _ _ _ _ _ _ _ _ _ _ _ _ _ _ _ _ _ _ _ _ _ _ _ _ _ _ _ _ _ _ _ _ _ _ _ _ _ _ _ _ _ _ _ _ _ _ _ _ _ _ _ _ _ _ _ _ _ _ _ _ _ _ _ _ _ _ _ _ _ _ _ _ _ _ _ _ _ _ _ _ _ _ _ _ _ _ _ _ _ _ _ _ _ _ _ _ _ _ W' h
              dsimp only
              go_roundw
              case rel => exact ⟨(j : Int) - 1,_,by omega,by omega,rfl,h,kg hS.l0 E0⟩
              case measure => simp [intOf]
            · have hjm : Hid (j = b.size):=(by omega : j = b.size)
              refine Zk a b c0 c1 c2 c3 hOk ha hb w _ _ _ _ _ i j R0 R1 R2 E0 E1 E2 hin hjm _ _ _ hS _ _ _ _ _ _ _ _ _ _ _ _ _ _ _ _ _ _ _ _ _ _ _ _ _ _ _ _ _ _ _ _ _ _ _ _ _ _ _ _ _ _ _ _ _ _ _ _ _ _ _ _ _ _ _ _ _ _ _ _ _ _ _ _ _ _ _ _ _ _ _ _ _ _ _ _ _ _ _ _ _ _ _ _ _ _ _ _ _ _ _ _ _ _ _ _ _ _ _ _ _ _ _ _ _ _ _ _ _ _ _ _ _ _ _ _ _ _ _ _ _ _ _ _ _ _ _ _ _ _ _ _ _ _ _ _ _ _ _ _ _ _ _ _ _ _ _ _ _ _ _ _ _ _ _ _ _ _ _ _ _ _ _ _ _ _ _ _ _ _ _ ?_
              intro _ _ _ _ _ _ _ _ _ _ _ _ _ _ _ _ _ _ _ _ _ _ _ _ _ _ _ _ _ _ _ _ _ _ _ _ _ _ _ _ _ _ _ _ _ _ _ _ _ _ _ _ _ _ _ _ _ _ _ _ _ _ _ _ _ _ _ _ _ _ _ _ _ _ _ _ _ _ _ _ _ _ _ _ _ _ _ _ _ _ _ _ _ _ _ _ _ _ _ _ _ _ _ _ _ _ _ _ _ _ _ _ _ _ _ _ _ _ _ _ _ _ _ _ _ _ W' h
              dsimp only
              go_roundw
              case rel => exact ⟨(j : Int) - 1,_,by omega,by omega,rfl,h,kg hS.l0 E0⟩
              case measure => simp [intOf]
        · have Hr0:=Lib.hid hr0
          clear hr0
          obtain rfl : j = -1:=by omega
          obtain ⟨k90,k91,k92⟩:=hS.arr
          have f0:=ql hS.h9 0
          have f1:=ql hS.h9 1
          have f2:=ql hS.h9 2
          go_wp2
          go_roundw
          case rel => exact ⟨(i : Int) - 1,_,_,_,_,_,_,by omega,by omega,rfl,hS.turn,fun h j hj => by rw [show ((i : Int) - 1 + 1).toNat = i by omega];exact Hr0.out j (by omega) hj,fun h j hj => by rw [show ((i : Int) - 1 + 2).toNat = ((i : Int) + 1).toNat by omega];exact Hr1.out (by omega) j hj⟩
          case measure => simp [intOf]
    · obtain rfl : i = -1:=by omega
      obtain ⟨k90,k91,k92⟩:=hS.arr
      have k1:=(hS.at1 0 (by omega)).trans (by rw [Hr1.out (by omega) 0 (by omega),show ((-1 : Int) + 1).toNat = 0 from rfl])
      clear Hr1 Hr2
      go_wp2
      go_ret2
      exact ⟨rfl,hS.below⟩
end Go.Proofs.Ytdefecnngccmoaa.Ed
namespace Go.Proofs.Ytdefecnngccmoaa.Ed
open Go.RowKit Go.Proofs.YtdefecnngccmoaaW.PrintWords
def jl (x y n k b : Int) : Value:=.agg #[.int .i64 x,.int .i64 y,.int .i64 n,.int .u8 k,.int .u8 b]
def zf (x y n k b : Int) (ok : Bool) (w : World) (e : Ending) (w' : World) : Prop :=
  e = .returned (.tuple #[jl x y n k b,.bool ok]) ∧ Below w.heap.size w w'
def vQ (w : World) (e : Ending) (w' : World) : Prop:=∃ x y n k b,zf x y n k b false w e w'
def Box (W : World) (g : Nat) (c : Lb.Cst) : Prop:=W.heap[g]? = some (.cells #[.int .i64 c.ins,.int .i64 c.del,.int .i64 c.chg,.int .i64 c.swp] 23 (0,0))
theorem Box.cells {W : World} {g : Nat} {c : Lb.Cst} (h : Box W g c) : W.cell? ⟨g,0,none⟩ = some (.int .i64 c.ins) ∧ W.cell? ⟨g,1,none⟩ = some (.int .i64 c.del) ∧ W.cell? ⟨g,2,none⟩ = some (.int .i64 c.chg) ∧ W.cell? ⟨g,3,none⟩ = some (.int .i64 c.swp) :=
  ⟨(qi h 0).trans rfl,(qi h 1).trans rfl,(qi h 2).trans rfl,(qi h 3).trans rfl⟩
theorem Box.alloc {W : World} {g : Nat} {c : Lb.Cst} (h : Box W g c) (o : Obj) : Box (W.alloc o) g c:=qw h o
theorem Box.below {W W' : World} {g : Nat} {c : Lb.Cst} (h : Box W g c) (hb : Below W.heap.size W W') : Box W' g c:=(hb.block g (jw h)).trans h
set_option maxHeartbeats 4000000 in
theorem xI (s t : ByteArray) (w : World) (hs : 0 < s.size) (ht : 0 < t.size) (r : Bool) (hr : (bt s 0 == bt t 0) = r) :
    Calls Try.prog 35 #[.string s,.string t] w (zf 1 1 0 1 0 r w):=by
  have hxa : ∀ h : 0 < s.size,((s[0]'h).toNat : Int) = bt s 0:=jI s 0
  have hs2 : 0 < (s.size : Int):=by omega
  have hs3 : ((s.size : Int) == 0) = false:=beq_eq_false_iff_ne.2 (by omega)
  have hxb : ∀ h : 0 < t.size,((t[0]'h).toNat : Int) = bt t 0:=jI t 0
  have ht2 : 0 < (t.size : Int):=by omega
  have ht3 : ((t.size : Int) == 0) = false:=beq_eq_false_iff_ne.2 (by omega)
  go_enter Try.func35,Try.ntmps35
  go_wp2
  go_region
  go_wp2
  refine bodyPost_ret (v:=.tuple #[jl 1 1 0 1 0,.bool r]) (by simp [results,Try.results35,go_sem,jl]) rfl ⟨rfl,?_⟩
  (repeat (with_reducible first|refine Below.setCell ?_ (by exact Nat.le_refl _) _|refine qc ?_ _|refine Below.drew ?_))
  exact (Below.refl _ _).alloc (Nat.le_refl _) _
set_option maxHeartbeats 4000000 in
theorem QW (s t : ByteArray) (w : World) (hs : s.size = 0) :
    Calls Try.prog 35 #[.string s,.string t] w (zf 1 1 0 1 0 false w):=by
  have hs2 : decide (0 < (s.size : Int)) = false:=decide_eq_false (by omega)
  have hs3 : ((s.size : Int) == 0) = true:=beq_iff_eq.2 (by omega)
  go_enter Try.func35,Try.ntmps35
  go_wp2
  go_region
  go_wp2
  refine bodyPost_ret (v:=.tuple #[jl 1 1 0 1 0,.bool false]) (by simp [results,Try.results35,go_sem,jl]) rfl ⟨rfl,?_⟩
  (repeat (with_reducible first|refine Below.setCell ?_ (by exact Nat.le_refl _) _|refine qc ?_ _|refine Below.drew ?_))
  exact (Below.refl _ _).alloc (Nat.le_refl _) _
set_option maxHeartbeats 4000000 in
theorem Zc (s t : ByteArray) (w : World) (hs : 0 < s.size) (ht : t.size = 0) :
    Calls Try.prog 35 #[.string s,.string t] w (zf 1 1 0 1 0 false w):=by
  have hxa : ∀ h : 0 < s.size,((s[0]'h).toNat : Int) = bt s 0:=jI s 0
  have hs2 : 0 < (s.size : Int):=by omega
  have hs3 : ((s.size : Int) == 0) = false:=beq_eq_false_iff_ne.2 (by omega)
  have ht2 : decide (0 < (t.size : Int)) = false:=decide_eq_false (by omega)
  have ht3 : ((t.size : Int) == 0) = true:=beq_iff_eq.2 (by omega)
  go_enter Try.func35,Try.ntmps35
  go_wp2
  go_region
  go_wp2
  refine bodyPost_ret (v:=.tuple #[jl 1 1 0 1 0,.bool false]) (by simp [results,Try.results35,go_sem,jl]) rfl ⟨rfl,?_⟩
  (repeat (with_reducible first|refine Below.setCell ?_ (by exact Nat.le_refl _) _|refine qc ?_ _|refine Below.drew ?_))
  exact (Below.refl _ _).alloc (Nat.le_refl _) _
set_option maxHeartbeats 4000000 in
theorem xV (s t : ByteArray) (w : World) (g : Nat) (c : Lb.Cst) (hB : Box w g c) (hs : 0 < s.size) (ht : 0 < t.size) (hr : (bt s 0 == bt t 0) = false) :
    Calls Try.prog 36 #[.string s,.string t,.pointer (some ⟨g,0,none⟩)] w (zf 1 1 c.chg 2 (bt t 0) true w):=by
  have hxa : ∀ h : 0 < s.size,((s[0]'h).toNat : Int) = bt s 0:=jI s 0
  have hs2 : 0 < (s.size : Int):=by omega
  have hs3 : ((s.size : Int) == 0) = false:=beq_eq_false_iff_ne.2 (by omega)
  have hxb : ∀ h : 0 < t.size,((t[0]'h).toNat : Int) = bt t 0:=jI t 0
  have ht2 : 0 < (t.size : Int):=by omega
  have ht3 : ((t.size : Int) == 0) = false:=beq_eq_false_iff_ne.2 (by omega)
  obtain ⟨k0,k1,k2,k3⟩:=(hB.alloc (.cells #[.int .i64 0,.int .i64 0,.int .i64 0,.int .u8 0,.int .u8 0] 73)).cells
  go_enter Try.func36,Try.ntmps36
  go_wp2
  go_quiet (fail)
  go_wp2
  go_region
  go_wp2
  refine bodyPost_ret (v:=.tuple #[jl 1 1 c.chg 2 (bt t 0),.bool true]) (by simp [results,Try.results36,go_sem,jl]) rfl ⟨rfl,?_⟩
  (repeat (with_reducible first|refine Below.setCell ?_ (by exact Nat.le_refl _) _|refine qc ?_ _|refine Below.drew ?_))
  exact (Below.refl _ _).alloc (Nat.le_refl _) _
set_option maxHeartbeats 4000000 in
theorem Ja (s t : ByteArray) (w : World) (g : Nat) (c : Lb.Cst) (hB : Box w g c) (hs : 0 < s.size) (ht : 0 < t.size) (hr : (bt s 0 == bt t 0) = true) :
    Calls Try.prog 36 #[.string s,.string t,.pointer (some ⟨g,0,none⟩)] w (vQ w):=by
  have hxa : ∀ h : 0 < s.size,((s[0]'h).toNat : Int) = bt s 0:=jI s 0
  have hs2 : 0 < (s.size : Int):=by omega
  have hs3 : ((s.size : Int) == 0) = false:=beq_eq_false_iff_ne.2 (by omega)
  have hxb : ∀ h : 0 < t.size,((t[0]'h).toNat : Int) = bt t 0:=jI t 0
  have ht2 : 0 < (t.size : Int):=by omega
  have ht3 : ((t.size : Int) == 0) = false:=beq_eq_false_iff_ne.2 (by omega)
  obtain ⟨k0,k1,k2,k3⟩:=(hB.alloc (.cells #[.int .i64 0,.int .i64 0,.int .i64 0,.int .u8 0,.int .u8 0] 73)).cells
  go_enter Try.func36,Try.ntmps36
  go_wp2
  go_quiet (fail)
  go_wp2
  refine bodyPost_ret (v:=.tuple #[jl 0 0 0 0 0,.bool false]) (by simp [results,Try.results36,go_sem,jl]) rfl ⟨_,_,_,_,_,rfl,?_⟩
  (repeat (with_reducible first|refine Below.setCell ?_ (by exact Nat.le_refl _) _|refine qc ?_ _|refine Below.drew ?_))
  exact (Below.refl _ _).alloc (Nat.le_refl _) _
set_option maxHeartbeats 4000000 in
theorem QV (s t : ByteArray) (w : World) (g : Nat) (c : Lb.Cst) (hB : Box w g c) (hs : s.size = 0) :
    Calls Try.prog 36 #[.string s,.string t,.pointer (some ⟨g,0,none⟩)] w (vQ w):=by
  have hs2 : decide (0 < (s.size : Int)) = false:=decide_eq_false (by omega)
  have hs3 : ((s.size : Int) == 0) = true:=beq_iff_eq.2 (by omega)
  obtain ⟨k0,k1,k2,k3⟩:=(hB.alloc (.cells #[.int .i64 0,.int .i64 0,.int .i64 0,.int .u8 0,.int .u8 0] 73)).cells
  go_enter Try.func36,Try.ntmps36
  go_wp2
  go_quiet (fail)
  go_wp2
  refine bodyPost_ret (v:=.tuple #[jl 0 0 0 0 0,.bool false]) (by simp [results,Try.results36,go_sem,jl]) rfl ⟨_,_,_,_,_,rfl,?_⟩
  (repeat (with_reducible first|refine Below.setCell ?_ (by exact Nat.le_refl _) _|refine qc ?_ _|refine Below.drew ?_))
  exact (Below.refl _ _).alloc (Nat.le_refl _) _
set_option maxHeartbeats 4000000 in
theorem J7 (s t : ByteArray) (w : World) (g : Nat) (c : Lb.Cst) (hB : Box w g c) (hs : 0 < s.size) (ht : t.size = 0) :
    Calls Try.prog 36 #[.string s,.string t,.pointer (some ⟨g,0,none⟩)] w (vQ w):=by
  have hxa : ∀ h : 0 < s.size,((s[0]'h).toNat : Int) = bt s 0:=jI s 0
  have hs2 : 0 < (s.size : Int):=by omega
  have hs3 : ((s.size : Int) == 0) = false:=beq_eq_false_iff_ne.2 (by omega)
  have ht2 : decide (0 < (t.size : Int)) = false:=decide_eq_false (by omega)
  have ht3 : ((t.size : Int) == 0) = true:=beq_iff_eq.2 (by omega)
  obtain ⟨k0,k1,k2,k3⟩:=(hB.alloc (.cells #[.int .i64 0,.int .i64 0,.int .i64 0,.int .u8 0,.int .u8 0] 73)).cells
  go_enter Try.func36,Try.ntmps36
  go_wp2
  go_quiet (fail)
  go_wp2
  refine bodyPost_ret (v:=.tuple #[jl 0 0 0 0 0,.bool false]) (by simp [results,Try.results36,go_sem,jl]) rfl ⟨_,_,_,_,_,rfl,?_⟩
  (repeat (with_reducible first|refine Below.setCell ?_ (by exact Nat.le_refl _) _|refine qc ?_ _|refine Below.drew ?_))
  exact (Below.refl _ _).alloc (Nat.le_refl _) _
set_option maxHeartbeats 4000000 in
theorem zO (s t : ByteArray) (w : World) (g : Nat) (c : Lb.Cst) (hB : Box w g c) (hs : 0 < s.size) :
    Calls Try.prog 38 #[.string s,.string t,.pointer (some ⟨g,0,none⟩)] w (zf 1 0 c.del 4 0 true w):=by
  have hxa : ∀ h : 0 < s.size,((s[0]'h).toNat : Int) = bt s 0:=jI s 0
  have hs2 : 0 < (s.size : Int):=by omega
  have hs3 : ((s.size : Int) == 0) = false:=beq_eq_false_iff_ne.2 (by omega)
  obtain ⟨k0,k1,k2,k3⟩:=(hB.alloc (.cells #[.int .i64 0,.int .i64 0,.int .i64 0,.int .u8 0,.int .u8 0] 73)).cells
  go_enter Try.func38,Try.ntmps38
  go_wp2
  refine bodyPost_ret (v:=.tuple #[jl 1 0 c.del 4 0,.bool true]) (by simp [results,Try.results38,go_sem,jl]) rfl ⟨rfl,?_⟩
  (repeat (with_reducible first|refine Below.setCell ?_ (by exact Nat.le_refl _) _|refine qc ?_ _|refine Below.drew ?_))
  exact (Below.refl _ _).alloc (Nat.le_refl _) _
set_option maxHeartbeats 4000000 in
theorem yO (s t : ByteArray) (w : World) (g : Nat) (c : Lb.Cst) (hB : Box w g c) (hs : s.size = 0) :
    Calls Try.prog 38 #[.string s,.string t,.pointer (some ⟨g,0,none⟩)] w (zf 1 0 c.del 4 0 false w):=by
  have hs2 : decide (0 < (s.size : Int)) = false:=decide_eq_false (by omega)
  have hs3 : ((s.size : Int) == 0) = true:=beq_iff_eq.2 (by omega)
  obtain ⟨k0,k1,k2,k3⟩:=(hB.alloc (.cells #[.int .i64 0,.int .i64 0,.int .i64 0,.int .u8 0,.int .u8 0] 73)).cells
  go_enter Try.func38,Try.ntmps38
  go_wp2
  refine bodyPost_ret (v:=.tuple #[jl 1 0 c.del 4 0,.bool false]) (by simp [results,Try.results38,go_sem,jl]) rfl ⟨rfl,?_⟩
  (repeat (with_reducible first|refine Below.setCell ?_ (by exact Nat.le_refl _) _|refine qc ?_ _|refine Below.drew ?_))
  exact (Below.refl _ _).alloc (Nat.le_refl _) _
set_option maxHeartbeats 4000000 in
theorem xq (s t : ByteArray) (w : World) (g : Nat) (c : Lb.Cst) (hB : Box w g c) (ht : 0 < t.size) :
    Calls Try.prog 39 #[.string s,.string t,.pointer (some ⟨g,0,none⟩)] w (zf 0 1 c.ins 5 (bt t 0) true w):=by
  have hxb : ∀ h : 0 < t.size,((t[0]'h).toNat : Int) = bt t 0:=jI t 0
  have ht2 : 0 < (t.size : Int):=by omega
  have ht3 : ((t.size : Int) == 0) = false:=beq_eq_false_iff_ne.2 (by omega)
  obtain ⟨k0,k1,k2,k3⟩:=(hB.alloc (.cells #[.int .i64 0,.int .i64 0,.int .i64 0,.int .u8 0,.int .u8 0] 73)).cells
  go_enter Try.func39,Try.ntmps39
  go_wp2
  go_region
  go_wp2
  refine bodyPost_ret (v:=.tuple #[jl 0 1 c.ins 5 (bt t 0),.bool true]) (by simp [results,Try.results39,go_sem,jl]) rfl ⟨rfl,?_⟩
  (repeat (with_reducible first|refine Below.setCell ?_ (by exact Nat.le_refl _) _|refine qc ?_ _|refine Below.drew ?_))
  exact (Below.refl _ _).alloc (Nat.le_refl _) _
set_option maxHeartbeats 4000000 in
theorem Q5 (s t : ByteArray) (w : World) (g : Nat) (c : Lb.Cst) (hB : Box w g c) (ht : t.size = 0) :
    Calls Try.prog 39 #[.string s,.string t,.pointer (some ⟨g,0,none⟩)] w (vQ w):=by
  have ht2 : decide (0 < (t.size : Int)) = false:=decide_eq_false (by omega)
  have ht3 : ((t.size : Int) == 0) = true:=beq_iff_eq.2 (by omega)
  obtain ⟨k0,k1,k2,k3⟩:=(hB.alloc (.cells #[.int .i64 0,.int .i64 0,.int .i64 0,.int .u8 0,.int .u8 0] 73)).cells
  go_enter Try.func39,Try.ntmps39
  go_wp2
  refine bodyPost_ret (v:=.tuple #[jl 0 0 0 0 0,.bool false]) (by simp [results,Try.results39,go_sem,jl]) rfl ⟨_,_,_,_,_,rfl,?_⟩
  (repeat (with_reducible first|refine Below.setCell ?_ (by exact Nat.le_refl _) _|refine qc ?_ _|refine Below.drew ?_))
  exact (Below.refl _ _).alloc (Nat.le_refl _) _
end Go.Proofs.Ytdefecnngccmoaa.Ed
namespace Go.Proofs.Ytdefecnngccmoaa.Ed
open Go.RowKit Go.Proofs.YtdefecnngccmoaaW.PrintWords
set_option maxHeartbeats 4000000 in
theorem zH (s t : ByteArray) (w : World) (g : Nat) (c : Lb.Cst) (hB : Box w g c) (r : Bool) (hr : Lb.zg (bytesOf s) (bytesOf t) = r) :
    Calls Try.prog 37 #[.string s,.string t,.pointer (some ⟨g,0,none⟩)] w (zf 2 2 c.swp 3 0 r w):=by
  have H:=Lib.hid hr
  clear hr
  obtain ⟨k0,k1,k2,k3⟩:=(hB.alloc (.cells #[.int .i64 0,.int .i64 0,.int .i64 0,.int .u8 0,.int .u8 0] 73)).cells
  go_enter Try.func37,Try.ntmps37
  go_wp2
  go_region_with (go_at_call 28;refine (QE0.xm.calls _ _ r _ (by rw [JZ,H.out])).mono ?_;rintro e w' ⟨rfl,⟨n,rfl⟩⟩)
  all_goals go_wp2
  all_goals
    refine bodyPost_ret (v:=.tuple #[jl 2 2 c.swp 3 0,.bool r]) (by simp [results,Try.results37,go_sem,jl]) rfl ⟨rfl,?_⟩
    (repeat (with_reducible first|refine Below.setCell ?_ (by exact Nat.le_refl _) _|refine qc ?_ _|refine Below.drew ?_))
    exact (Below.refl _ _).alloc (Nat.le_refl _) _
end Go.Proofs.Ytdefecnngccmoaa.Ed
namespace Go.Proofs.Ytdefecnngccmoaa.Ed
open Go.RowKit Go.Proofs.YtdefecnngccmoaaW.PrintWords
theorem Zo (W : World) (o o' : Obj) : (W.alloc o).putObj W.heap.size o' = W.alloc o':=by
  have h : (W.heap.push o).setIfInBounds W.heap.size o' = W.heap.push o':=by
    apply Array.ext
    · simp
    · intro i h1 h2
      simp only [Array.size_setIfInBounds,Array.size_push] at h1
      by_cases e : i = W.heap.size
      · subst e;simp
      · have hp : i < (W.heap.push o).size:=by simp;omega
        rw [Array.getElem_setIfInBounds_ne hp (by omega),Array.getElem_push_lt (by omega),Array.getElem_push_lt (by omega)]
  show ({ W with heap:=(W.heap.push o).setIfInBounds W.heap.size o' } : World) = { W with heap:=W.heap.push o' }
  rw [h]
theorem Zl {W : World} {mb clock : Nat} {es : Array MapEntry} (h : W.heap[mb]? = some (.map es clock)) (k : Int) (v : Value) (hf : Instr.findNow (.int .u8) (.int .u8 k) es.toList 0 = some none) :
    (Instr.mapUpdate 67 (.map (some mb)) (.int .u8 k) v).run Try.prog W = .ok () (W.putObj mb (.map (es.push ⟨.int .u8 k,v,clock⟩) (clock + 1))):=by
  unfold Instr.mapUpdate
  simp only [Sem.run_bind,run_underlying Try.underlying67,Result.andThen,MapKept.run_getObj_map h,MapKept.run_checkKey Try.underlying5 (k:=.int .u8 k) rfl false 9999,MapKept.run_findKey Try.underlying5 hf,MapKept.run_setObj_map _ h]
  rfl
theorem vv (W : World) (mb clock : Nat) (es : Array MapEntry) (hm : W.heap.size = mb) (k : Int) (v : Value) (hf : Instr.findNow (.int .u8) (.int .u8 k) es.toList 0 = some none) :
    (Instr.mapUpdate 67 (.map (some mb)) (.int .u8 k) v).run Try.prog (W.alloc (.map es clock)) = .ok () (W.alloc (.map (es.push ⟨.int .u8 k,v,clock⟩) (clock + 1))):=by
  subst hm
  rw [Zl (jc W _) k v hf,Zo]
def cl (f g : Nat) : Value:=.func (.func f) #[] #[.pointer (some ⟨g,0,none⟩)]
def Kl (g : Nat) : List MapEntry:=[⟨.int .u8 1,.func (.func 35) #[] #[],0⟩,⟨.int .u8 2,cl 36 g,1⟩,⟨.int .u8 3,cl 37 g,2⟩,⟨.int .u8 4,cl 38 g,3⟩,⟨.int .u8 5,cl 39 g,4⟩]
def vB (g n : Nat) : Array MapEntry:=((Kl g).take n).toArray
def Fits (W : World) (mb g : Nat) (c : Lb.Cst) : Prop:=W.heap[mb]? = some (.map (vB g 5) 5) ∧ Box W g c
set_option maxHeartbeats 4000000 in
theorem Q4 (c : Lb.Cst) (w : World) :
    Calls Try.prog 29 #[.agg #[.int .i64 c.ins,.int .i64 c.del,.int .i64 c.chg,.int .i64 c.swp]] w fun e w' => e = .returned (.map (some (w.heap.size + 1))) ∧ Fits w' (w.heap.size + 1) w.heap.size c ∧ Below w.heap.size w w':=by
  have hmm : ∀ W : World,(Instr.makeMap 67 none).run Try.prog W = .ok (.map (some W.heap.size)) (W.alloc (.map (vB w.heap.size 0) 0)):=fun W => run_makeMap 67 W
  have hmf : ∀ (fn : Fn) (first cap : Array Value) (w : World),(Instr.makeFunc fn first cap).run Try.prog w = .ok (.func fn first cap) w:=fun _ _ _ _ => rfl
  have hz : (w.alloc (.cells #[.int .i64 c.ins,.int .i64 c.del,.int .i64 c.chg,.int .i64 c.swp] 23)).heap.size = w.heap.size + 1:=World.size_alloc _ _
  have i1:=vv (w.alloc (.cells #[.int .i64 c.ins,.int .i64 c.del,.int .i64 c.chg,.int .i64 c.swp] 23)) (w.heap.size + 1) 0 (vB w.heap.size 0) hz 1 (.func (.func 35) #[] #[]) rfl
  replace i1:=i1.trans (show _ = Result.ok () ((w.alloc (.cells #[.int .i64 c.ins,.int .i64 c.del,.int .i64 c.chg,.int .i64 c.swp] 23)).alloc (.map (vB w.heap.size 1) 1)) from rfl)
  have i2:=vv (w.alloc (.cells #[.int .i64 c.ins,.int .i64 c.del,.int .i64 c.chg,.int .i64 c.swp] 23)) (w.heap.size + 1) (0 + 1) (vB w.heap.size 1) hz 2 (.func (.func 36) #[] #[.pointer (some ⟨w.heap.size,0,none⟩)]) rfl
  replace i2:=i2.trans (show _ = Result.ok () ((w.alloc (.cells #[.int .i64 c.ins,.int .i64 c.del,.int .i64 c.chg,.int .i64 c.swp] 23)).alloc (.map (vB w.heap.size 2) 2)) from rfl)
  have i3:=vv (w.alloc (.cells #[.int .i64 c.ins,.int .i64 c.del,.int .i64 c.chg,.int .i64 c.swp] 23)) (w.heap.size + 1) (0 + 1 + 1) (vB w.heap.size 2) hz 3 (.func (.func 37) #[] #[.pointer (some ⟨w.heap.size,0,none⟩)]) rfl
  replace i3:=i3.trans (show _ = Result.ok () ((w.alloc (.cells #[.int .i64 c.ins,.int .i64 c.del,.int .i64 c.chg,.int .i64 c.swp] 23)).alloc (.map (vB w.heap.size 3) 3)) from rfl)
  have i4:=vv (w.alloc (.cells #[.int .i64 c.ins,.int .i64 c.del,.int .i64 c.chg,.int .i64 c.swp] 23)) (w.heap.size + 1) (0 + 1 + 1 + 1) (vB w.heap.size 3) hz 4 (.func (.func 38) #[] #[.pointer (some ⟨w.heap.size,0,none⟩)]) rfl
  replace i4:=i4.trans (show _ = Result.ok () ((w.alloc (.cells #[.int .i64 c.ins,.int .i64 c.del,.int .i64 c.chg,.int .i64 c.swp] 23)).alloc (.map (vB w.heap.size 4) 4)) from rfl)
  have i5:=vv (w.alloc (.cells #[.int .i64 c.ins,.int .i64 c.del,.int .i64 c.chg,.int .i64 c.swp] 23)) (w.heap.size + 1) (0 + 1 + 1 + 1 + 1) (vB w.heap.size 4) hz 5 (.func (.func 39) #[] #[.pointer (some ⟨w.heap.size,0,none⟩)]) rfl
  replace i5:=i5.trans (show _ = Result.ok () ((w.alloc (.cells #[.int .i64 c.ins,.int .i64 c.del,.int .i64 c.chg,.int .i64 c.swp] 23)).alloc (.map (vB w.heap.size 5) 5)) from rfl)
  have hfin : Fits ((w.alloc (.cells #[.int .i64 c.ins,.int .i64 c.del,.int .i64 c.chg,.int .i64 c.swp] 23)).alloc (.map (vB w.heap.size 5) 5)) (w.heap.size + 1) w.heap.size c:=⟨by rw [← hz];exact jc _ _,qw (jc _ _) _⟩
  clear hz
  have Hfin:=Lib.hid hfin
  clear hfin
  simp only [Nat.reduceAdd] at i1 i2 i3 i4 i5
  go_enter Try.func29,Try.ntmps29
  go_wp2
  go_ret
  exact ⟨rfl,Hfin.out,((Below.refl _ _).alloc (Nat.le_refl _) _).alloc (by simp) _⟩
end Go.Proofs.Ytdefecnngccmoaa.Ed
namespace Go.Proofs.Ytdefecnngccmoaa.Ed
open Go.RowKit Go.Proofs.YtdefecnngccmoaaW.PrintWords
def yA : Array Value:=ints (List.replicate 3721 0)
theorem Qq : (Try.prog.info? 70).map (fun i => i.zero) = some (some (.agg yA)):=by kernel_rfl
theorem VK (W : World) : (Instr.alloc 70 true (.tuple #[])).run Try.prog W = .ok (.pointer (some ⟨W.heap.size,0,none⟩)) (W.alloc (.cells yA 70)):=by
  have h:=Qq
  cases hi : Try.prog.info? 70 with
  | none => rw [hi] at h;cases h
  | some i =>
    rw [hi] at h
    have hz : i.zero = some (.agg yA):=by simpa using h
    simp [Instr.alloc,zeroValue,typeInfo,hi,hz,newVar,newRow,Value.cells]
end Go.Proofs.Ytdefecnngccmoaa.Ed
namespace Go.Proofs.Ytdefecnngccmoaa.Ed
open Go.RowKit Go.Proofs.YtdefecnngccmoaaW.PrintWords
structure Ctx (W : World) (mb g gG gi gj : Nat) (c : Lb.Cst) (G : List Int) (i j : Nat) : Prop where
  fits : Fits W mb g c
  grid : W.heap[gG]? = some (.cells (ints G) 70 (0,0))
  len : G.length = 3721
  ci : W.heap[gi]? = some (.cells #[.int .i64 (i : Int)] 3 (0,0))
  cj : W.heap[gj]? = some (.cells #[.int .i64 (j : Int)] 3 (0,0))
theorem Ctx.below {W W' : World} {mb g gG gi gj : Nat} {c : Lb.Cst} {G : List Int} {i j : Nat} (h : Ctx W mb g gG gi gj c G i j) (hb : Below W.heap.size W W') : Ctx W' mb g gG gi gj c G i j :=
  ⟨⟨(hb.block _ (jw h.fits.1)).trans h.fits.1,h.fits.2.below hb⟩,(hb.block _ (jw h.grid)).trans h.grid,h.len,(hb.block _ (jw h.ci)).trans h.ci,(hb.block _ (jw h.cj)).trans h.cj⟩
def xD (v : Int) (w : World) (e : Ending) (w' : World) : Prop:=e = .returned (.int .i64 v) ∧ Below w.heap.size w w'
set_option maxHeartbeats 4000000 in
theorem JE {mb g gG gi gj : Nat} {c : Lb.Cst} {G : List Int} {i j : Nat} (w : World) (h : Ctx w mb g gG gi gj c G i j) (x y n k b : Int) (x' y' : Nat) (hx : x = x') (hy : y = y') (hi : i + x' ≤ 60) (hj : j + y' ≤ 60) :
    Calls Try.prog 31 #[jl x y n k b,.pointer (some ⟨gG,0,none⟩),.pointer (some ⟨gi,0,none⟩),.pointer (some ⟨gj,0,none⟩)] w (xD (G.getD ((i + x') * 61 + (j + y')) 0) w):=by
  subst hx hy
  unfold jl
  have hb : ∀ W,Below w.heap.size w W → W.cell? ⟨gi,0,none⟩ = some (.int .i64 (i : Int)) ∧ W.cell? ⟨gj,0,none⟩ = some (.int .i64 (j : Int)) ∧ W.cell? ⟨gG,(i + x') * 61 + (j + y'),none⟩ = some (.int .i64 (G.getD ((i + x') * 61 + (j + y')) 0)) :=
    fun W hb => ⟨(qi (h.below hb).ci 0).trans rfl,(qi (h.below hb).cj 0).trans rfl,(qi (h.below hb).grid _).trans (ints_at _ _ (by have:=h.len;omega))⟩
  obtain ⟨k1,k2,k3⟩:=hb _ ((Below.refl _ w).alloc (Nat.le_refl _) (.cells #[.int .i64 (x' : Int),.int .i64 (y' : Int),.int .i64 n,.int .u8 k,.int .u8 b] 73))
  clear hb h
  have s1 : IntKind.i64.wrap ((i : Int) + (x' : Int)) = (i : Int) + (x' : Int):=IntWalk.i64_in _ (by omega)
  have s2 : IntKind.i64.wrap ((j : Int) + (y' : Int)) = (j : Int) + (y' : Int):=IntWalk.i64_in _ (by omega)
  have p1 : 0 ≤ (i : Int) + (x' : Int):=by omega
  have p2 : 0 ≤ (j : Int) + (y' : Int):=by omega
  have q1 : (i : Int) + (x' : Int) < 61:=by omega
  have q2 : (j : Int) + (y' : Int) < 61:=by omega
  have t1 : ((i : Int) + (x' : Int)).toNat = i + x':=by omega
  have t2 : ((j : Int) + (y' : Int)).toNat = j + y':=by omega
  go_enter Try.func31,Try.ntmps31
  go_wp2
  go_quiet (fail)
  go_wp2
  go_ret
  exact ⟨rfl,qc ((Below.refl _ _).alloc (Nat.le_refl _) _) _⟩
theorem qX {W : World} {mb g : Nat} {c : Lb.Cst} (h : Fits W mb g c) :
    (Instr.lookup 67 (.map (some mb)) (.int .u8 1) false).run Try.prog W = .ok (.func (.func 35) #[] #[]) W ∧
    (Instr.lookup 67 (.map (some mb)) (.int .u8 2) false).run Try.prog W = .ok (.func (.func 36) #[] #[.pointer (some ⟨g,0,none⟩)]) W ∧
    (Instr.lookup 67 (.map (some mb)) (.int .u8 3) false).run Try.prog W = .ok (.func (.func 37) #[] #[.pointer (some ⟨g,0,none⟩)]) W ∧
    (Instr.lookup 67 (.map (some mb)) (.int .u8 4) false).run Try.prog W = .ok (.func (.func 38) #[] #[.pointer (some ⟨g,0,none⟩)]) W ∧
    (Instr.lookup 67 (.map (some mb)) (.int .u8 5) false).run Try.prog W = .ok (.func (.func 39) #[] #[.pointer (some ⟨g,0,none⟩)]) W:=by
  have f : ∀ (k : Int) (n : Nat) (v : Value),Instr.findNow (.int .u8) (.int .u8 k) (vB g 5).toList 0 = some (some (n,v)) → (Instr.lookup 67 (.map (some mb)) (.int .u8 k) false).run Try.prog W = .ok v W:=by
    intro k n v hf
    unfold Instr.lookup
    simp only [Sem.run_bind,run_underlying Try.underlying67,Result.andThen,MapKept.run_getObj_map h.1,Sem.run_pure,MapKept.run_checkKey Try.underlying5 (k:=.int .u8 k) rfl _ 9999,MapKept.run_findKey Try.underlying5 hf]
    simp
  exact ⟨f 1 0 _ rfl,f 2 1 _ rfl,f 3 2 _ rfl,f 4 3 _ rfl,f 5 4 _ rfl⟩
end Go.Proofs.Ytdefecnngccmoaa.Ed
namespace Go.Proofs.Ytdefecnngccmoaa.Ed
open Go.RowKit Go.Proofs.YtdefecnngccmoaaW.PrintWords
theorem xO {mb g gG gi gj : Nat} {c : Lb.Cst} {G : List Int} {i j : Nat} (w : World) (h : Ctx w mb g gG gi gj c G i j) (x y n k b : Int) (x' y' : Nat) (hx : x = x') (hy : y = y') (hi : i + x' ≤ 60) (hj : j + y' ≤ 60) (v : Int) (hv : G.getD ((i + x') * 61 + (j + y')) 0 = v) :
    Calls Try.prog 31 #[.agg #[.int .i64 x,.int .i64 y,.int .i64 n,.int .u8 k,.int .u8 b],.pointer (some ⟨gG,0,none⟩),.pointer (some ⟨gi,0,none⟩),.pointer (some ⟨gj,0,none⟩)] w (xD v w):=by
  rw [← hv];exact JE w h x y n k b x' y' hx hy hi hj
theorem size_ext (a : ByteArray) (i : Nat) (h : i ≤ a.size) : (a.extract i a.size).size = a.size - i:=by rw [ByteArray.size_extract];omega
theorem j6 (a : ByteArray) (i : Nat) (h : i < a.size) : bt (a.extract i a.size) 0 = bt a i:=by
  rw [← xe,zL,jK a i h];rfl
theorem zU (a b : ByteArray) (i j : Nat) : Lb.zg (bytesOf (a.extract i a.size)) (bytesOf (b.extract j b.size)) = sw a b i j:=by
  rw [zL,zL];rfl
def Done (c : Lb.Cst) (a b : ByteArray) (G : List Int) (i j : Nat) : Prop:=∀ i' j' : Nat,i' ≤ a.size → j' ≤ b.size → (i < i' ∨ i = i' ∧ j < j') → G.getD (i' * 61 + j') 0 = dd c a b i' j'
theorem Qu {a b : Int} (h : a = b) : Ending.returned (.int .i64 a) = .returned (.int .i64 b):=by rw [h]
end Go.Proofs.Ytdefecnngccmoaa.Ed
namespace Go.Proofs.Ytdefecnngccmoaa.Ed
open Go.RowKit Go.Proofs.YtdefecnngccmoaaW.PrintWords
set_option maxRecDepth 100000 in
set_option maxHeartbeats 8000000 in
theorem Xn (a b : ByteArray) (c : Lb.Cst) (hOk : c.Ok) (ha : a.size ≤ 60) (hb' : b.size ≤ 60) (mb g gG gi gj i j : Nat) (G : List Int) (hD : Done c a b G i j) (w : World) (C : Ctx w mb g gG gi gj c G i j) (hin : i < a.size) (hjm : j < b.size) (he : bt a i = bt b j) :
    Calls Try.prog 30 #[.map (some mb),.string (a.extract i a.size),.string (b.extract j b.size),.func (.func 31) #[] #[.pointer (some ⟨gG,0,none⟩),.pointer (some ⟨gi,0,none⟩),.pointer (some ⟨gj,0,none⟩)]] w (xD (dd c a b i j) w):=by
  obtain ⟨ki1,ki2,kd1,kd2,kc1,kc2,ks1,ks2⟩:=id hOk
  have hb:=Below.refl w.heap.size w
  obtain ⟨x1,hx1⟩ : ∃ x,x = dd c a b (i + 1) (j + 1):=⟨_,rfl⟩
  have qx1:=jO hOk a b ha hb' (i + 1) (j + 1)
  rw [← hx1] at qx1
  obtain ⟨qx10,qx11⟩:=qx1
  have Vx1:=Lib.hid ((hD (i + 1) (j + 1) (by omega) (by omega) (by omega)).trans hx1.symm)
  obtain ⟨x3,hx3⟩ : ∃ x,x = dd c a b (i + 1) (j):=⟨_,rfl⟩
  have qx3:=jO hOk a b ha hb' (i + 1) (j)
  rw [← hx3] at qx3
  obtain ⟨qx30,qx31⟩:=qx3
  have Vx3:=Lib.hid ((hD (i + 1) (j) (by omega) (by omega) (by omega)).trans hx3.symm)
  obtain ⟨x4,hx4⟩ : ∃ x,x = dd c a b (i) (j + 1):=⟨_,rfl⟩
  have qx4:=jO hOk a b ha hb' (i) (j + 1)
  rw [← hx4] at qx4
  obtain ⟨qx40,qx41⟩:=qx4
  have Vx4:=Lib.hid ((hD (i) (j + 1) (by omega) (by omega) (by omega)).trans hx4.symm)
  have hDD:=Lib.hid hD
  clear hD
  have hsw : sw a b i j = false:=by
    cases hs : sw a b i j with
    | false => rfl
    | true => exact absurd he (ZZ hs)
  have hfin : dd c a b i j = min (min x1 (x3 + c.del)) (x4 + c.ins):=by
    rw [xy _ _ _ _ _ hin hjm,if_neg (by rw [hsw];decide),← hx1,← hx3,← hx4,Lb.one,if_pos he,Int.add_zero]
  have HD:=Lib.hid hfin
  have HSW:=Lib.hid ((zU a b i j).trans hsw)
  have Hs:=Lib.hid (size_ext a i (by omega))
  have Ht:=Lib.hid (size_ext b j (by omega))
  clear hx1
  clear hx3
  clear hx4
  have S0:=Lib.hid (show 0 < (a.extract i a.size).size by rw [Hs.out];omega)
  have T0:=Lib.hid (show 0 < (b.extract j b.size).size by rw [Ht.out];omega)
  have HE:=Lib.hid (show (bt (a.extract i a.size) 0 == bt (b.extract j b.size) 0) = true by rw [j6 a i hin,j6 b j hjm];exact beq_iff_eq.2 he)
  clear he
  clear hfin hsw hDD
  go_enter Try.func30,Try.ntmps30
  go_wp2
  refine wp_loop_rounds 6 ?_
  all_goals rw [rounds_succ]
  all_goals obtain ⟨l1,l2,l3,l4,l5⟩:=qX (C.below hb).fits
  all_goals go_wp2_with fail
  all_goals refine (xI _ _ _ S0.out T0.out true HE.out).mono ?_
  all_goals rintro e W1 ⟨rfl,hb1⟩
  all_goals replace hb:=hb.trans (hb1.mono hb.size)
  all_goals clear l1 l2 l3 l4 l5
  all_goals try dsimp only [jl]
  all_goals go_wp2
  all_goals have z1:=hb.alloc hb.size (.cells #[.int .i64 1,.int .i64 1,.int .i64 0,.int .u8 1,.int .u8 0] 73)
  all_goals have z2:=jc W1 (.cells #[.int .i64 1,.int .i64 1,.int .i64 0,.int .u8 1,.int .u8 0] 73)
  all_goals have z3:=hb.size
  all_goals clear hb hb1
  all_goals generalize W1.alloc (.cells #[.int .i64 1,.int .i64 1,.int .i64 0,.int .u8 1,.int .u8 0] 73) = W2 at *
  all_goals generalize W1.heap.size = gb at *
  all_goals have Z4:=Lib.hid (jw z2)
  all_goals have y0:=(qi z2 0).trans rfl
  all_goals have y1:=(qi z2 1).trans rfl
  all_goals have y2:=(qi z2 2).trans rfl
  all_goals have y3:=(qi z2 3).trans rfl
  all_goals have y4:=(qi z2 4).trans rfl
  all_goals have Z2:=Lib.hid z2
  all_goals clear z2
  all_goals have w5_ : IntKind.i64.wrap (x1) = x1:=IntWalk.i64_in _ (by omega)
  all_goals go_region_held3 (fun w' => (w'.cell? ⟨gb,0,none⟩ = some (.int .i64 1) ∧ w'.cell? ⟨gb,1,none⟩ = some (.int .i64 1) ∧ w'.cell? ⟨gb,2,none⟩ = some (.int .i64 0) ∧ w'.cell? ⟨gb,3,none⟩ = some (.int .u8 1) ∧ w'.cell? ⟨gb,4,none⟩ = some (.int .u8 0)) ∧ Below w.heap.size w w' ∧ gb < w'.heap.size)
      (first|exact ⟨⟨y0,y1,y2,y3,y4⟩,z1.drew,Z4.out⟩|exact ⟨⟨(hb3.cell (p:=⟨gb,0,none⟩) Z4.out).trans y0,(hb3.cell (p:=⟨gb,1,none⟩) Z4.out).trans y1,(hb3.cell (p:=⟨gb,2,none⟩) Z4.out).trans y2,(hb3.cell (p:=⟨gb,3,none⟩) Z4.out).trans y3,(hb3.cell (p:=⟨gb,4,none⟩) Z4.out).trans y4⟩,z1.drew.trans (hb3.mono z1.size),Nat.lt_of_lt_of_le Z4.out hb3.size⟩)
      (first|(go_at_call 31;refine (xO _ (C.below z1.drew) _ _ _ _ _ 1 1 rfl rfl (by omega) (by omega) _ Vx1.out).mono ?_;rintro e W3 ⟨rfl,hb3⟩))
  all_goals have hb:=z1.drew.trans (hb3.mono z1.size)
  all_goals clear y0 y1 y2 y3 y4 z1 z3 Z4 Z2 hb3
  all_goals go_wp2
  all_goals rw [rounds_succ]
  all_goals obtain ⟨l1,l2,l3,l4,l5⟩:=qX (C.below hb).fits
  all_goals go_wp2_with fail
  all_goals refine (Ja _ _ _ g c (C.below hb).fits.2 S0.out T0.out HE.out).mono ?_
  all_goals rintro e W1 ⟨p1_,p2_,p3_,p4_,p5_,rfl,hb1⟩
  all_goals replace hb:=hb.trans (hb1.mono hb.size)
  all_goals clear l1 l2 l3 l4 l5
  all_goals try dsimp only [jl]
  all_goals go_wp2
  all_goals have z1:=hb.alloc hb.size (.cells #[.int .i64 p1_,.int .i64 p2_,.int .i64 p3_,.int .u8 p4_,.int .u8 p5_] 73)
  all_goals clear hb hb1
  all_goals generalize W1.alloc (.cells #[.int .i64 p1_,.int .i64 p2_,.int .i64 p3_,.int .u8 p4_,.int .u8 p5_] 73) = W2 at *
  all_goals have hb:=z1
  all_goals clear z1
  all_goals rw [rounds_succ]
  all_goals obtain ⟨l1,l2,l3,l4,l5⟩:=qX (C.below hb).fits
  all_goals go_wp2_with fail
  all_goals refine (zH _ _ _ g c (C.below hb).fits.2 false HSW.out).mono ?_
  all_goals rintro e W1 ⟨rfl,hb1⟩
  all_goals replace hb:=hb.trans (hb1.mono hb.size)
  all_goals clear l1 l2 l3 l4 l5
  all_goals try dsimp only [jl]
  all_goals go_wp2
  all_goals have z1:=hb.alloc hb.size (.cells #[.int .i64 2,.int .i64 2,.int .i64 c.swp,.int .u8 3,.int .u8 0] 73)
  all_goals clear hb hb1
  all_goals generalize W1.alloc (.cells #[.int .i64 2,.int .i64 2,.int .i64 c.swp,.int .u8 3,.int .u8 0] 73) = W2 at *
  all_goals have hb:=z1
  all_goals clear z1
  all_goals rw [rounds_succ]
  all_goals obtain ⟨l1,l2,l3,l4,l5⟩:=qX (C.below hb).fits
  all_goals go_wp2_with fail
  all_goals refine (zO _ _ _ g c (C.below hb).fits.2 S0.out).mono ?_
  all_goals rintro e W1 ⟨rfl,hb1⟩
  all_goals replace hb:=hb.trans (hb1.mono hb.size)
  all_goals clear l1 l2 l3 l4 l5
  all_goals try dsimp only [jl]
  all_goals go_wp2
  all_goals have z1:=hb.alloc hb.size (.cells #[.int .i64 1,.int .i64 0,.int .i64 c.del,.int .u8 4,.int .u8 0] 73)
  all_goals have z2:=jc W1 (.cells #[.int .i64 1,.int .i64 0,.int .i64 c.del,.int .u8 4,.int .u8 0] 73)
  all_goals have z3:=hb.size
  all_goals clear hb hb1
  all_goals generalize W1.alloc (.cells #[.int .i64 1,.int .i64 0,.int .i64 c.del,.int .u8 4,.int .u8 0] 73) = W2 at *
  all_goals generalize W1.heap.size = gb at *
  all_goals have Z4:=Lib.hid (jw z2)
  all_goals have y0:=(qi z2 0).trans rfl
  all_goals have y1:=(qi z2 1).trans rfl
  all_goals have y2:=(qi z2 2).trans rfl
  all_goals have y3:=(qi z2 3).trans rfl
  all_goals have y4:=(qi z2 4).trans rfl
  all_goals have Z2:=Lib.hid z2
  all_goals clear z2
  all_goals have w5_ : IntKind.i64.wrap (c.del + x3) = c.del + x3:=IntWalk.i64_in _ (by omega)
  all_goals go_region_held3 (fun w' => (w'.cell? ⟨gb,0,none⟩ = some (.int .i64 1) ∧ w'.cell? ⟨gb,1,none⟩ = some (.int .i64 0) ∧ w'.cell? ⟨gb,2,none⟩ = some (.int .i64 c.del) ∧ w'.cell? ⟨gb,3,none⟩ = some (.int .u8 4) ∧ w'.cell? ⟨gb,4,none⟩ = some (.int .u8 0)) ∧ Below w.heap.size w w' ∧ gb < w'.heap.size)
      (first|exact ⟨⟨y0,y1,y2,y3,y4⟩,z1.drew,Z4.out⟩|exact ⟨⟨(hb3.cell (p:=⟨gb,0,none⟩) Z4.out).trans y0,(hb3.cell (p:=⟨gb,1,none⟩) Z4.out).trans y1,(hb3.cell (p:=⟨gb,2,none⟩) Z4.out).trans y2,(hb3.cell (p:=⟨gb,3,none⟩) Z4.out).trans y3,(hb3.cell (p:=⟨gb,4,none⟩) Z4.out).trans y4⟩,z1.drew.trans (hb3.mono z1.size),Nat.lt_of_lt_of_le Z4.out hb3.size⟩)
      (first|(go_at_call 31;refine (xO _ (C.below z1.drew) _ _ _ _ _ 1 0 rfl rfl (by omega) (by omega) _ Vx3.out).mono ?_;rintro e W3 ⟨rfl,hb3⟩))
  all_goals have hb:=z1.drew.trans (hb3.mono z1.size)
  all_goals clear y0 y1 y2 y3 y4 z1 z3 Z4 Z2 hb3
  all_goals go_wp2
  all_goals rw [rounds_succ]
  all_goals obtain ⟨l1,l2,l3,l4,l5⟩:=qX (C.below hb).fits
  all_goals go_wp2_with fail
  all_goals refine (xq _ _ _ g c (C.below hb).fits.2 T0.out).mono ?_
  all_goals rintro e W1 ⟨rfl,hb1⟩
  all_goals replace hb:=hb.trans (hb1.mono hb.size)
  all_goals clear l1 l2 l3 l4 l5
  all_goals try dsimp only [jl]
  all_goals go_wp2
  all_goals have z1:=hb.alloc hb.size (.cells #[.int .i64 0,.int .i64 1,.int .i64 c.ins,.int .u8 5,.int .u8 (bt (b.extract j b.size) 0)] 73)
  all_goals have z2:=jc W1 (.cells #[.int .i64 0,.int .i64 1,.int .i64 c.ins,.int .u8 5,.int .u8 (bt (b.extract j b.size) 0)] 73)
  all_goals have z3:=hb.size
  all_goals clear hb hb1
  all_goals generalize W1.alloc (.cells #[.int .i64 0,.int .i64 1,.int .i64 c.ins,.int .u8 5,.int .u8 (bt (b.extract j b.size) 0)] 73) = W2 at *
  all_goals generalize W1.heap.size = gb at *
  all_goals have Z4:=Lib.hid (jw z2)
  all_goals have y0:=(qi z2 0).trans rfl
  all_goals have y1:=(qi z2 1).trans rfl
  all_goals have y2:=(qi z2 2).trans rfl
  all_goals have y3:=(qi z2 3).trans rfl
  all_goals have y4:=(qi z2 4).trans rfl
  all_goals have Z2:=Lib.hid z2
  all_goals clear z2
  all_goals have w5_ : IntKind.i64.wrap (c.ins + x4) = c.ins + x4:=IntWalk.i64_in _ (by omega)
  all_goals go_region_held3 (fun w' => (w'.cell? ⟨gb,0,none⟩ = some (.int .i64 0) ∧ w'.cell? ⟨gb,1,none⟩ = some (.int .i64 1) ∧ w'.cell? ⟨gb,2,none⟩ = some (.int .i64 c.ins) ∧ w'.cell? ⟨gb,3,none⟩ = some (.int .u8 5) ∧ w'.cell? ⟨gb,4,none⟩ = some (.int .u8 (bt (b.extract j b.size) 0))) ∧ Below w.heap.size w w' ∧ gb < w'.heap.size)
      (first|exact ⟨⟨y0,y1,y2,y3,y4⟩,z1.drew,Z4.out⟩|exact ⟨⟨(hb3.cell (p:=⟨gb,0,none⟩) Z4.out).trans y0,(hb3.cell (p:=⟨gb,1,none⟩) Z4.out).trans y1,(hb3.cell (p:=⟨gb,2,none⟩) Z4.out).trans y2,(hb3.cell (p:=⟨gb,3,none⟩) Z4.out).trans y3,(hb3.cell (p:=⟨gb,4,none⟩) Z4.out).trans y4⟩,z1.drew.trans (hb3.mono z1.size),Nat.lt_of_lt_of_le Z4.out hb3.size⟩)
      (first|(go_at_call 31;refine (xO _ (C.below z1.drew) _ _ _ _ _ 0 1 rfl rfl (by omega) (by omega) _ Vx4.out).mono ?_;rintro e W3 ⟨rfl,hb3⟩))
  all_goals have hb:=z1.drew.trans (hb3.mono z1.size)
  all_goals clear y0 y1 y2 y3 y4 z1 z3 Z4 Z2 hb3
  all_goals go_wp2
  all_goals rw [rounds_succ]
  all_goals go_wp2
  all_goals go_ret
  all_goals exact ⟨Qu (by first|exact HD.out.symm|(rw [HD.out];omega)),hb⟩
end Go.Proofs.Ytdefecnngccmoaa.Ed
namespace Go.Proofs.Ytdefecnngccmoaa.Ed
open Go.RowKit Go.Proofs.YtdefecnngccmoaaW.PrintWords
set_option maxRecDepth 100000 in
set_option maxHeartbeats 8000000 in
theorem Xu (a b : ByteArray) (c : Lb.Cst) (hOk : c.Ok) (ha : a.size ≤ 60) (hb' : b.size ≤ 60) (mb g gG gi gj i j : Nat) (G : List Int) (hD : Done c a b G i j) (w : World) (C : Ctx w mb g gG gi gj c G i j) (hin : i < a.size) (hjm : j < b.size) (he : ¬ bt a i = bt b j) (hsw : sw a b i j = false) :
    Calls Try.prog 30 #[.map (some mb),.string (a.extract i a.size),.string (b.extract j b.size),.func (.func 31) #[] #[.pointer (some ⟨gG,0,none⟩),.pointer (some ⟨gi,0,none⟩),.pointer (some ⟨gj,0,none⟩)]] w (xD (dd c a b i j) w):=by
  obtain ⟨ki1,ki2,kd1,kd2,kc1,kc2,ks1,ks2⟩:=id hOk
  have hb:=Below.refl w.heap.size w
  obtain ⟨x1,hx1⟩ : ∃ x,x = dd c a b (i + 1) (j + 1):=⟨_,rfl⟩
  have qx1:=jO hOk a b ha hb' (i + 1) (j + 1)
  rw [← hx1] at qx1
  obtain ⟨qx10,qx11⟩:=qx1
  have Vx1:=Lib.hid ((hD (i + 1) (j + 1) (by omega) (by omega) (by omega)).trans hx1.symm)
  obtain ⟨x3,hx3⟩ : ∃ x,x = dd c a b (i + 1) (j):=⟨_,rfl⟩
  have qx3:=jO hOk a b ha hb' (i + 1) (j)
  rw [← hx3] at qx3
  obtain ⟨qx30,qx31⟩:=qx3
  have Vx3:=Lib.hid ((hD (i + 1) (j) (by omega) (by omega) (by omega)).trans hx3.symm)
  obtain ⟨x4,hx4⟩ : ∃ x,x = dd c a b (i) (j + 1):=⟨_,rfl⟩
  have qx4:=jO hOk a b ha hb' (i) (j + 1)
  rw [← hx4] at qx4
  obtain ⟨qx40,qx41⟩:=qx4
  have Vx4:=Lib.hid ((hD (i) (j + 1) (by omega) (by omega) (by omega)).trans hx4.symm)
  have hDD:=Lib.hid hD
  clear hD
  have hfin : dd c a b i j = min (min (x1 + c.chg) (x3 + c.del)) (x4 + c.ins):=by
    rw [xy _ _ _ _ _ hin hjm,if_neg (by rw [hsw];decide),← hx1,← hx3,← hx4,Lb.one,if_neg he]
  have HD:=Lib.hid hfin
  have HSW:=Lib.hid ((zU a b i j).trans hsw)
  have Hs:=Lib.hid (size_ext a i (by omega))
  have Ht:=Lib.hid (size_ext b j (by omega))
  clear hx1
  clear hx3
  clear hx4
  have S0:=Lib.hid (show 0 < (a.extract i a.size).size by rw [Hs.out];omega)
  have T0:=Lib.hid (show 0 < (b.extract j b.size).size by rw [Ht.out];omega)
  have HE:=Lib.hid (show (bt (a.extract i a.size) 0 == bt (b.extract j b.size) 0) = false by rw [j6 a i hin,j6 b j hjm];exact beq_eq_false_iff_ne.2 he)
  clear he
  clear hfin hsw hDD
  go_enter Try.func30,Try.ntmps30
  go_wp2
  refine wp_loop_rounds 6 ?_
  all_goals rw [rounds_succ]
  all_goals obtain ⟨l1,l2,l3,l4,l5⟩:=qX (C.below hb).fits
  all_goals go_wp2_with fail
  all_goals refine (xI _ _ _ S0.out T0.out false HE.out).mono ?_
  all_goals rintro e W1 ⟨rfl,hb1⟩
  all_goals replace hb:=hb.trans (hb1.mono hb.size)
  all_goals clear l1 l2 l3 l4 l5
  all_goals try dsimp only [jl]
  all_goals go_wp2
  all_goals have z1:=hb.alloc hb.size (.cells #[.int .i64 1,.int .i64 1,.int .i64 0,.int .u8 1,.int .u8 0] 73)
  all_goals clear hb hb1
  all_goals generalize W1.alloc (.cells #[.int .i64 1,.int .i64 1,.int .i64 0,.int .u8 1,.int .u8 0] 73) = W2 at *
  all_goals have hb:=z1
  all_goals clear z1
  all_goals rw [rounds_succ]
  all_goals obtain ⟨l1,l2,l3,l4,l5⟩:=qX (C.below hb).fits
  all_goals go_wp2_with fail
  all_goals refine (xV _ _ _ g c (C.below hb).fits.2 S0.out T0.out HE.out).mono ?_
  all_goals rintro e W1 ⟨rfl,hb1⟩
  all_goals replace hb:=hb.trans (hb1.mono hb.size)
  all_goals clear l1 l2 l3 l4 l5
  all_goals try dsimp only [jl]
  all_goals go_wp2
  all_goals have z1:=hb.alloc hb.size (.cells #[.int .i64 1,.int .i64 1,.int .i64 c.chg,.int .u8 2,.int .u8 (bt (b.extract j b.size) 0)] 73)
  all_goals have z2:=jc W1 (.cells #[.int .i64 1,.int .i64 1,.int .i64 c.chg,.int .u8 2,.int .u8 (bt (b.extract j b.size) 0)] 73)
  all_goals have z3:=hb.size
  all_goals clear hb hb1
  all_goals generalize W1.alloc (.cells #[.int .i64 1,.int .i64 1,.int .i64 c.chg,.int .u8 2,.int .u8 (bt (b.extract j b.size) 0)] 73) = W2 at *
  all_goals generalize W1.heap.size = gb at *
  all_goals have Z4:=Lib.hid (jw z2)
  all_goals have y0:=(qi z2 0).trans rfl
  all_goals have y1:=(qi z2 1).trans rfl
  all_goals have y2:=(qi z2 2).trans rfl
  all_goals have y3:=(qi z2 3).trans rfl
  all_goals have y4:=(qi z2 4).trans rfl
  all_goals have Z2:=Lib.hid z2
  all_goals clear z2
  all_goals have w5_ : IntKind.i64.wrap (c.chg + x1) = c.chg + x1:=IntWalk.i64_in _ (by omega)
  all_goals go_region_held3 (fun w' => (w'.cell? ⟨gb,0,none⟩ = some (.int .i64 1) ∧ w'.cell? ⟨gb,1,none⟩ = some (.int .i64 1) ∧ w'.cell? ⟨gb,2,none⟩ = some (.int .i64 c.chg) ∧ w'.cell? ⟨gb,3,none⟩ = some (.int .u8 2) ∧ w'.cell? ⟨gb,4,none⟩ = some (.int .u8 (bt (b.extract j b.size) 0))) ∧ Below w.heap.size w w' ∧ gb < w'.heap.size)
      (first|exact ⟨⟨y0,y1,y2,y3,y4⟩,z1.drew,Z4.out⟩|exact ⟨⟨(hb3.cell (p:=⟨gb,0,none⟩) Z4.out).trans y0,(hb3.cell (p:=⟨gb,1,none⟩) Z4.out).trans y1,(hb3.cell (p:=⟨gb,2,none⟩) Z4.out).trans y2,(hb3.cell (p:=⟨gb,3,none⟩) Z4.out).trans y3,(hb3.cell (p:=⟨gb,4,none⟩) Z4.out).trans y4⟩,z1.drew.trans (hb3.mono z1.size),Nat.lt_of_lt_of_le Z4.out hb3.size⟩)
      (first|(go_at_call 31;refine (xO _ (C.below z1.drew) _ _ _ _ _ 1 1 rfl rfl (by omega) (by omega) _ Vx1.out).mono ?_;rintro e W3 ⟨rfl,hb3⟩))
  all_goals have hb:=z1.drew.trans (hb3.mono z1.size)
  all_goals clear y0 y1 y2 y3 y4 z1 z3 Z4 Z2 hb3
  all_goals go_wp2
  all_goals rw [rounds_succ]
  all_goals obtain ⟨l1,l2,l3,l4,l5⟩:=qX (C.below hb).fits
  all_goals go_wp2_with fail
  all_goals refine (zH _ _ _ g c (C.below hb).fits.2 false HSW.out).mono ?_
  all_goals rintro e W1 ⟨rfl,hb1⟩
  all_goals replace hb:=hb.trans (hb1.mono hb.size)
  all_goals clear l1 l2 l3 l4 l5
  all_goals try dsimp only [jl]
  all_goals go_wp2
  all_goals have z1:=hb.alloc hb.size (.cells #[.int .i64 2,.int .i64 2,.int .i64 c.swp,.int .u8 3,.int .u8 0] 73)
  all_goals clear hb hb1
  all_goals generalize W1.alloc (.cells #[.int .i64 2,.int .i64 2,.int .i64 c.swp,.int .u8 3,.int .u8 0] 73) = W2 at *
  all_goals have hb:=z1
  all_goals clear z1
  all_goals rw [rounds_succ]
  all_goals obtain ⟨l1,l2,l3,l4,l5⟩:=qX (C.below hb).fits
  all_goals go_wp2_with fail
  all_goals refine (zO _ _ _ g c (C.below hb).fits.2 S0.out).mono ?_
  all_goals rintro e W1 ⟨rfl,hb1⟩
  all_goals replace hb:=hb.trans (hb1.mono hb.size)
  all_goals clear l1 l2 l3 l4 l5
  all_goals try dsimp only [jl]
  all_goals go_wp2
  all_goals have z1:=hb.alloc hb.size (.cells #[.int .i64 1,.int .i64 0,.int .i64 c.del,.int .u8 4,.int .u8 0] 73)
  all_goals have z2:=jc W1 (.cells #[.int .i64 1,.int .i64 0,.int .i64 c.del,.int .u8 4,.int .u8 0] 73)
  all_goals have z3:=hb.size
  all_goals clear hb hb1
  all_goals generalize W1.alloc (.cells #[.int .i64 1,.int .i64 0,.int .i64 c.del,.int .u8 4,.int .u8 0] 73) = W2 at *
  all_goals generalize W1.heap.size = gb at *
  all_goals have Z4:=Lib.hid (jw z2)
  all_goals have y0:=(qi z2 0).trans rfl
  all_goals have y1:=(qi z2 1).trans rfl
  all_goals have y2:=(qi z2 2).trans rfl
  all_goals have y3:=(qi z2 3).trans rfl
  all_goals have y4:=(qi z2 4).trans rfl
  all_goals have Z2:=Lib.hid z2
  all_goals clear z2
  all_goals have w5_ : IntKind.i64.wrap (c.del + x3) = c.del + x3:=IntWalk.i64_in _ (by omega)
  all_goals go_region_held3 (fun w' => (w'.cell? ⟨gb,0,none⟩ = some (.int .i64 1) ∧ w'.cell? ⟨gb,1,none⟩ = some (.int .i64 0) ∧ w'.cell? ⟨gb,2,none⟩ = some (.int .i64 c.del) ∧ w'.cell? ⟨gb,3,none⟩ = some (.int .u8 4) ∧ w'.cell? ⟨gb,4,none⟩ = some (.int .u8 0)) ∧ Below w.heap.size w w' ∧ gb < w'.heap.size)
      (first|exact ⟨⟨y0,y1,y2,y3,y4⟩,z1.drew,Z4.out⟩|exact ⟨⟨(hb3.cell (p:=⟨gb,0,none⟩) Z4.out).trans y0,(hb3.cell (p:=⟨gb,1,none⟩) Z4.out).trans y1,(hb3.cell (p:=⟨gb,2,none⟩) Z4.out).trans y2,(hb3.cell (p:=⟨gb,3,none⟩) Z4.out).trans y3,(hb3.cell (p:=⟨gb,4,none⟩) Z4.out).trans y4⟩,z1.drew.trans (hb3.mono z1.size),Nat.lt_of_lt_of_le Z4.out hb3.size⟩)
      (first|(go_at_call 31;refine (xO _ (C.below z1.drew) _ _ _ _ _ 1 0 rfl rfl (by omega) (by omega) _ Vx3.out).mono ?_;rintro e W3 ⟨rfl,hb3⟩))
  all_goals have hb:=z1.drew.trans (hb3.mono z1.size)
  all_goals clear y0 y1 y2 y3 y4 z1 z3 Z4 Z2 hb3
  all_goals go_wp2
  all_goals rw [rounds_succ]
  all_goals obtain ⟨l1,l2,l3,l4,l5⟩:=qX (C.below hb).fits
  all_goals go_wp2_with fail
  all_goals refine (xq _ _ _ g c (C.below hb).fits.2 T0.out).mono ?_
  all_goals rintro e W1 ⟨rfl,hb1⟩
  all_goals replace hb:=hb.trans (hb1.mono hb.size)
  all_goals clear l1 l2 l3 l4 l5
  all_goals try dsimp only [jl]
  all_goals go_wp2
  all_goals have z1:=hb.alloc hb.size (.cells #[.int .i64 0,.int .i64 1,.int .i64 c.ins,.int .u8 5,.int .u8 (bt (b.extract j b.size) 0)] 73)
  all_goals have z2:=jc W1 (.cells #[.int .i64 0,.int .i64 1,.int .i64 c.ins,.int .u8 5,.int .u8 (bt (b.extract j b.size) 0)] 73)
  all_goals have z3:=hb.size
  all_goals clear hb hb1
  all_goals generalize W1.alloc (.cells #[.int .i64 0,.int .i64 1,.int .i64 c.ins,.int .u8 5,.int .u8 (bt (b.extract j b.size) 0)] 73) = W2 at *
  all_goals generalize W1.heap.size = gb at *
  all_goals have Z4:=Lib.hid (jw z2)
  all_goals have y0:=(qi z2 0).trans rfl
  all_goals have y1:=(qi z2 1).trans rfl
  all_goals have y2:=(qi z2 2).trans rfl
  all_goals have y3:=(qi z2 3).trans rfl
  all_goals have y4:=(qi z2 4).trans rfl
  all_goals have Z2:=Lib.hid z2
  all_goals clear z2
  all_goals have w5_ : IntKind.i64.wrap (c.ins + x4) = c.ins + x4:=IntWalk.i64_in _ (by omega)
  all_goals go_region_held3 (fun w' => (w'.cell? ⟨gb,0,none⟩ = some (.int .i64 0) ∧ w'.cell? ⟨gb,1,none⟩ = some (.int .i64 1) ∧ w'.cell? ⟨gb,2,none⟩ = some (.int .i64 c.ins) ∧ w'.cell? ⟨gb,3,none⟩ = some (.int .u8 5) ∧ w'.cell? ⟨gb,4,none⟩ = some (.int .u8 (bt (b.extract j b.size) 0))) ∧ Below w.heap.size w w' ∧ gb < w'.heap.size)
      (first|exact ⟨⟨y0,y1,y2,y3,y4⟩,z1.drew,Z4.out⟩|exact ⟨⟨(hb3.cell (p:=⟨gb,0,none⟩) Z4.out).trans y0,(hb3.cell (p:=⟨gb,1,none⟩) Z4.out).trans y1,(hb3.cell (p:=⟨gb,2,none⟩) Z4.out).trans y2,(hb3.cell (p:=⟨gb,3,none⟩) Z4.out).trans y3,(hb3.cell (p:=⟨gb,4,none⟩) Z4.out).trans y4⟩,z1.drew.trans (hb3.mono z1.size),Nat.lt_of_lt_of_le Z4.out hb3.size⟩)
      (first|(go_at_call 31;refine (xO _ (C.below z1.drew) _ _ _ _ _ 0 1 rfl rfl (by omega) (by omega) _ Vx4.out).mono ?_;rintro e W3 ⟨rfl,hb3⟩))
  all_goals have hb:=z1.drew.trans (hb3.mono z1.size)
  all_goals clear y0 y1 y2 y3 y4 z1 z3 Z4 Z2 hb3
  all_goals go_wp2
  all_goals rw [rounds_succ]
  all_goals go_wp2
  all_goals go_ret
  all_goals exact ⟨Qu (by first|exact HD.out.symm|(rw [HD.out];omega)),hb⟩
end Go.Proofs.Ytdefecnngccmoaa.Ed
namespace Go.Proofs.Ytdefecnngccmoaa.Ed
open Go.RowKit Go.Proofs.YtdefecnngccmoaaW.PrintWords
set_option maxRecDepth 100000 in
set_option maxHeartbeats 8000000 in
theorem Xp (a b : ByteArray) (c : Lb.Cst) (hOk : c.Ok) (ha : a.size ≤ 60) (hb' : b.size ≤ 60) (mb g gG gi gj i j : Nat) (G : List Int) (hD : Done c a b G i j) (w : World) (C : Ctx w mb g gG gi gj c G i j) (hin : i < a.size) (hjm : j < b.size) (he : ¬ bt a i = bt b j) (hsw : sw a b i j = true) :
    Calls Try.prog 30 #[.map (some mb),.string (a.extract i a.size),.string (b.extract j b.size),.func (.func 31) #[] #[.pointer (some ⟨gG,0,none⟩),.pointer (some ⟨gi,0,none⟩),.pointer (some ⟨gj,0,none⟩)]] w (xD (dd c a b i j) w):=by
  obtain ⟨ki1,ki2,kd1,kd2,kc1,kc2,ks1,ks2⟩:=id hOk
  have hb:=Below.refl w.heap.size w
  obtain ⟨hs1,hs2⟩:=xA hsw
  obtain ⟨x1,hx1⟩ : ∃ x,x = dd c a b (i + 1) (j + 1):=⟨_,rfl⟩
  have qx1:=jO hOk a b ha hb' (i + 1) (j + 1)
  rw [← hx1] at qx1
  obtain ⟨qx10,qx11⟩:=qx1
  have Vx1:=Lib.hid ((hD (i + 1) (j + 1) (by omega) (by omega) (by omega)).trans hx1.symm)
  obtain ⟨x2,hx2⟩ : ∃ x,x = dd c a b (i + 2) (j + 2):=⟨_,rfl⟩
  have qx2:=jO hOk a b ha hb' (i + 2) (j + 2)
  rw [← hx2] at qx2
  obtain ⟨qx20,qx21⟩:=qx2
  have Vx2:=Lib.hid ((hD (i + 2) (j + 2) (by omega) (by omega) (by omega)).trans hx2.symm)
  obtain ⟨x3,hx3⟩ : ∃ x,x = dd c a b (i + 1) (j):=⟨_,rfl⟩
  have qx3:=jO hOk a b ha hb' (i + 1) (j)
  rw [← hx3] at qx3
  obtain ⟨qx30,qx31⟩:=qx3
  have Vx3:=Lib.hid ((hD (i + 1) (j) (by omega) (by omega) (by omega)).trans hx3.symm)
  obtain ⟨x4,hx4⟩ : ∃ x,x = dd c a b (i) (j + 1):=⟨_,rfl⟩
  have qx4:=jO hOk a b ha hb' (i) (j + 1)
  rw [← hx4] at qx4
  obtain ⟨qx40,qx41⟩:=qx4
  have Vx4:=Lib.hid ((hD (i) (j + 1) (by omega) (by omega) (by omega)).trans hx4.symm)
  have hDD:=Lib.hid hD
  clear hD
  have hfin : dd c a b i j = min (min (min (x1 + c.chg) (x2 + c.swp)) (x3 + c.del)) (x4 + c.ins):=by
    rw [xy _ _ _ _ _ hin hjm,if_pos hsw,← hx1,← hx2,← hx3,← hx4,Lb.one,if_neg he]
  have HD:=Lib.hid hfin
  have HSW:=Lib.hid ((zU a b i j).trans hsw)
  have Hs:=Lib.hid (size_ext a i (by omega))
  have Ht:=Lib.hid (size_ext b j (by omega))
  clear hx1
  clear hx2
  clear hx3
  clear hx4
  have S0:=Lib.hid (show 0 < (a.extract i a.size).size by rw [Hs.out];omega)
  have T0:=Lib.hid (show 0 < (b.extract j b.size).size by rw [Ht.out];omega)
  have HE:=Lib.hid (show (bt (a.extract i a.size) 0 == bt (b.extract j b.size) 0) = false by rw [j6 a i hin,j6 b j hjm];exact beq_eq_false_iff_ne.2 he)
  clear he
  clear hfin hsw hDD
  go_enter Try.func30,Try.ntmps30
  go_wp2
  refine wp_loop_rounds 6 ?_
  all_goals rw [rounds_succ]
  all_goals obtain ⟨l1,l2,l3,l4,l5⟩:=qX (C.below hb).fits
  all_goals go_wp2_with fail
  all_goals refine (xI _ _ _ S0.out T0.out false HE.out).mono ?_
  all_goals rintro e W1 ⟨rfl,hb1⟩
  all_goals replace hb:=hb.trans (hb1.mono hb.size)
  all_goals clear l1 l2 l3 l4 l5
  all_goals try dsimp only [jl]
  all_goals go_wp2
  all_goals have z1:=hb.alloc hb.size (.cells #[.int .i64 1,.int .i64 1,.int .i64 0,.int .u8 1,.int .u8 0] 73)
  all_goals clear hb hb1
  all_goals generalize W1.alloc (.cells #[.int .i64 1,.int .i64 1,.int .i64 0,.int .u8 1,.int .u8 0] 73) = W2 at *
  all_goals have hb:=z1
  all_goals clear z1
  all_goals rw [rounds_succ]
  all_goals obtain ⟨l1,l2,l3,l4,l5⟩:=qX (C.below hb).fits
  all_goals go_wp2_with fail
  all_goals refine (xV _ _ _ g c (C.below hb).fits.2 S0.out T0.out HE.out).mono ?_
  all_goals rintro e W1 ⟨rfl,hb1⟩
  all_goals replace hb:=hb.trans (hb1.mono hb.size)
  all_goals clear l1 l2 l3 l4 l5
  all_goals try dsimp only [jl]
  all_goals go_wp2
  all_goals have z1:=hb.alloc hb.size (.cells #[.int .i64 1,.int .i64 1,.int .i64 c.chg,.int .u8 2,.int .u8 (bt (b.extract j b.size) 0)] 73)
  all_goals have z2:=jc W1 (.cells #[.int .i64 1,.int .i64 1,.int .i64 c.chg,.int .u8 2,.int .u8 (bt (b.extract j b.size) 0)] 73)
  all_goals have z3:=hb.size
  all_goals clear hb hb1
  all_goals generalize W1.alloc (.cells #[.int .i64 1,.int .i64 1,.int .i64 c.chg,.int .u8 2,.int .u8 (bt (b.extract j b.size) 0)] 73) = W2 at *
  all_goals generalize W1.heap.size = gb at *
  all_goals have Z4:=Lib.hid (jw z2)
  all_goals have y0:=(qi z2 0).trans rfl
  all_goals have y1:=(qi z2 1).trans rfl
  all_goals have y2:=(qi z2 2).trans rfl
  all_goals have y3:=(qi z2 3).trans rfl
  all_goals have y4:=(qi z2 4).trans rfl
  all_goals have Z2:=Lib.hid z2
  all_goals clear z2
  all_goals have w5_ : IntKind.i64.wrap (c.chg + x1) = c.chg + x1:=IntWalk.i64_in _ (by omega)
  all_goals go_region_held3 (fun w' => (w'.cell? ⟨gb,0,none⟩ = some (.int .i64 1) ∧ w'.cell? ⟨gb,1,none⟩ = some (.int .i64 1) ∧ w'.cell? ⟨gb,2,none⟩ = some (.int .i64 c.chg) ∧ w'.cell? ⟨gb,3,none⟩ = some (.int .u8 2) ∧ w'.cell? ⟨gb,4,none⟩ = some (.int .u8 (bt (b.extract j b.size) 0))) ∧ Below w.heap.size w w' ∧ gb < w'.heap.size)
      (first|exact ⟨⟨y0,y1,y2,y3,y4⟩,z1.drew,Z4.out⟩|exact ⟨⟨(hb3.cell (p:=⟨gb,0,none⟩) Z4.out).trans y0,(hb3.cell (p:=⟨gb,1,none⟩) Z4.out).trans y1,(hb3.cell (p:=⟨gb,2,none⟩) Z4.out).trans y2,(hb3.cell (p:=⟨gb,3,none⟩) Z4.out).trans y3,(hb3.cell (p:=⟨gb,4,none⟩) Z4.out).trans y4⟩,z1.drew.trans (hb3.mono z1.size),Nat.lt_of_lt_of_le Z4.out hb3.size⟩)
      (first|(go_at_call 31;refine (xO _ (C.below z1.drew) _ _ _ _ _ 1 1 rfl rfl (by omega) (by omega) _ Vx1.out).mono ?_;rintro e W3 ⟨rfl,hb3⟩))
  all_goals have hb:=z1.drew.trans (hb3.mono z1.size)
  all_goals clear y0 y1 y2 y3 y4 z1 z3 Z4 Z2 hb3
  all_goals go_wp2
  all_goals rw [rounds_succ]
  all_goals obtain ⟨l1,l2,l3,l4,l5⟩:=qX (C.below hb).fits
  all_goals go_wp2_with fail
  all_goals refine (zH _ _ _ g c (C.below hb).fits.2 true HSW.out).mono ?_
  all_goals rintro e W1 ⟨rfl,hb1⟩
  all_goals replace hb:=hb.trans (hb1.mono hb.size)
  all_goals clear l1 l2 l3 l4 l5
  all_goals try dsimp only [jl]
  all_goals go_wp2
  all_goals have z1:=hb.alloc hb.size (.cells #[.int .i64 2,.int .i64 2,.int .i64 c.swp,.int .u8 3,.int .u8 0] 73)
  all_goals have z2:=jc W1 (.cells #[.int .i64 2,.int .i64 2,.int .i64 c.swp,.int .u8 3,.int .u8 0] 73)
  all_goals have z3:=hb.size
  all_goals clear hb hb1
  all_goals generalize W1.alloc (.cells #[.int .i64 2,.int .i64 2,.int .i64 c.swp,.int .u8 3,.int .u8 0] 73) = W2 at *
  all_goals generalize W1.heap.size = gb at *
  all_goals have Z4:=Lib.hid (jw z2)
  all_goals have y0:=(qi z2 0).trans rfl
  all_goals have y1:=(qi z2 1).trans rfl
  all_goals have y2:=(qi z2 2).trans rfl
  all_goals have y3:=(qi z2 3).trans rfl
  all_goals have y4:=(qi z2 4).trans rfl
  all_goals have Z2:=Lib.hid z2
  all_goals clear z2
  all_goals have w5_ : IntKind.i64.wrap (c.swp + x2) = c.swp + x2:=IntWalk.i64_in _ (by omega)
  all_goals go_region_held3 (fun w' => (w'.cell? ⟨gb,0,none⟩ = some (.int .i64 2) ∧ w'.cell? ⟨gb,1,none⟩ = some (.int .i64 2) ∧ w'.cell? ⟨gb,2,none⟩ = some (.int .i64 c.swp) ∧ w'.cell? ⟨gb,3,none⟩ = some (.int .u8 3) ∧ w'.cell? ⟨gb,4,none⟩ = some (.int .u8 0)) ∧ Below w.heap.size w w' ∧ gb < w'.heap.size)
      (first|exact ⟨⟨y0,y1,y2,y3,y4⟩,z1.drew,Z4.out⟩|exact ⟨⟨(hb3.cell (p:=⟨gb,0,none⟩) Z4.out).trans y0,(hb3.cell (p:=⟨gb,1,none⟩) Z4.out).trans y1,(hb3.cell (p:=⟨gb,2,none⟩) Z4.out).trans y2,(hb3.cell (p:=⟨gb,3,none⟩) Z4.out).trans y3,(hb3.cell (p:=⟨gb,4,none⟩) Z4.out).trans y4⟩,z1.drew.trans (hb3.mono z1.size),Nat.lt_of_lt_of_le Z4.out hb3.size⟩)
      (first|(go_at_call 31;refine (xO _ (C.below z1.drew) _ _ _ _ _ 2 2 rfl rfl (by omega) (by omega) _ Vx2.out).mono ?_;rintro e W3 ⟨rfl,hb3⟩))
  all_goals have hb:=z1.drew.trans (hb3.mono z1.size)
  all_goals clear y0 y1 y2 y3 y4 z1 z3 Z4 Z2 hb3
  all_goals go_wp2
  all_goals rw [rounds_succ]
  all_goals obtain ⟨l1,l2,l3,l4,l5⟩:=qX (C.below hb).fits
  all_goals go_wp2_with fail
  all_goals refine (zO _ _ _ g c (C.below hb).fits.2 S0.out).mono ?_
  all_goals rintro e W1 ⟨rfl,hb1⟩
  all_goals replace hb:=hb.trans (hb1.mono hb.size)
  all_goals clear l1 l2 l3 l4 l5
  all_goals try dsimp only [jl]
  all_goals go_wp2
  all_goals have z1:=hb.alloc hb.size (.cells #[.int .i64 1,.int .i64 0,.int .i64 c.del,.int .u8 4,.int .u8 0] 73)
  all_goals have z2:=jc W1 (.cells #[.int .i64 1,.int .i64 0,.int .i64 c.del,.int .u8 4,.int .u8 0] 73)
  all_goals have z3:=hb.size
  all_goals clear hb hb1
  all_goals generalize W1.alloc (.cells #[.int .i64 1,.int .i64 0,.int .i64 c.del,.int .u8 4,.int .u8 0] 73) = W2 at *
  all_goals generalize W1.heap.size = gb at *
  all_goals have Z4:=Lib.hid (jw z2)
  all_goals have y0:=(qi z2 0).trans rfl
  all_goals have y1:=(qi z2 1).trans rfl
  all_goals have y2:=(qi z2 2).trans rfl
  all_goals have y3:=(qi z2 3).trans rfl
  all_goals have y4:=(qi z2 4).trans rfl
  all_goals have Z2:=Lib.hid z2
  all_goals clear z2
  all_goals have w5_ : IntKind.i64.wrap (c.del + x3) = c.del + x3:=IntWalk.i64_in _ (by omega)
  all_goals go_region_held3 (fun w' => (w'.cell? ⟨gb,0,none⟩ = some (.int .i64 1) ∧ w'.cell? ⟨gb,1,none⟩ = some (.int .i64 0) ∧ w'.cell? ⟨gb,2,none⟩ = some (.int .i64 c.del) ∧ w'.cell? ⟨gb,3,none⟩ = some (.int .u8 4) ∧ w'.cell? ⟨gb,4,none⟩ = some (.int .u8 0)) ∧ Below w.heap.size w w' ∧ gb < w'.heap.size)
      (first|exact ⟨⟨y0,y1,y2,y3,y4⟩,z1.drew,Z4.out⟩|exact ⟨⟨(hb3.cell (p:=⟨gb,0,none⟩) Z4.out).trans y0,(hb3.cell (p:=⟨gb,1,none⟩) Z4.out).trans y1,(hb3.cell (p:=⟨gb,2,none⟩) Z4.out).trans y2,(hb3.cell (p:=⟨gb,3,none⟩) Z4.out).trans y3,(hb3.cell (p:=⟨gb,4,none⟩) Z4.out).trans y4⟩,z1.drew.trans (hb3.mono z1.size),Nat.lt_of_lt_of_le Z4.out hb3.size⟩)
      (first|(go_at_call 31;refine (xO _ (C.below z1.drew) _ _ _ _ _ 1 0 rfl rfl (by omega) (by omega) _ Vx3.out).mono ?_;rintro e W3 ⟨rfl,hb3⟩))
  all_goals have hb:=z1.drew.trans (hb3.mono z1.size)
  all_goals clear y0 y1 y2 y3 y4 z1 z3 Z4 Z2 hb3
  all_goals go_wp2
  all_goals rw [rounds_succ]
  all_goals obtain ⟨l1,l2,l3,l4,l5⟩:=qX (C.below hb).fits
  all_goals go_wp2_with fail
  all_goals refine (xq _ _ _ g c (C.below hb).fits.2 T0.out).mono ?_
  all_goals rintro e W1 ⟨rfl,hb1⟩
  all_goals replace hb:=hb.trans (hb1.mono hb.size)
  all_goals clear l1 l2 l3 l4 l5
  all_goals try dsimp only [jl]
  all_goals go_wp2
  all_goals have z1:=hb.alloc hb.size (.cells #[.int .i64 0,.int .i64 1,.int .i64 c.ins,.int .u8 5,.int .u8 (bt (b.extract j b.size) 0)] 73)
  all_goals have z2:=jc W1 (.cells #[.int .i64 0,.int .i64 1,.int .i64 c.ins,.int .u8 5,.int .u8 (bt (b.extract j b.size) 0)] 73)
  all_goals have z3:=hb.size
  all_goals clear hb hb1
  all_goals generalize W1.alloc (.cells #[.int .i64 0,.int .i64 1,.int .i64 c.ins,.int .u8 5,.int .u8 (bt (b.extract j b.size) 0)] 73) = W2 at *
  all_goals generalize W1.heap.size = gb at *
  all_goals have Z4:=Lib.hid (jw z2)
  all_goals have y0:=(qi z2 0).trans rfl
  all_goals have y1:=(qi z2 1).trans rfl
  all_goals have y2:=(qi z2 2).trans rfl
  all_goals have y3:=(qi z2 3).trans rfl
  all_goals have y4:=(qi z2 4).trans rfl
  all_goals have Z2:=Lib.hid z2
  all_goals clear z2
  all_goals have w5_ : IntKind.i64.wrap (c.ins + x4) = c.ins + x4:=IntWalk.i64_in _ (by omega)
  all_goals go_region_held3 (fun w' => (w'.cell? ⟨gb,0,none⟩ = some (.int .i64 0) ∧ w'.cell? ⟨gb,1,none⟩ = some (.int .i64 1) ∧ w'.cell? ⟨gb,2,none⟩ = some (.int .i64 c.ins) ∧ w'.cell? ⟨gb,3,none⟩ = some (.int .u8 5) ∧ w'.cell? ⟨gb,4,none⟩ = some (.int .u8 (bt (b.extract j b.size) 0))) ∧ Below w.heap.size w w' ∧ gb < w'.heap.size)
      (first|exact ⟨⟨y0,y1,y2,y3,y4⟩,z1.drew,Z4.out⟩|exact ⟨⟨(hb3.cell (p:=⟨gb,0,none⟩) Z4.out).trans y0,(hb3.cell (p:=⟨gb,1,none⟩) Z4.out).trans y1,(hb3.cell (p:=⟨gb,2,none⟩) Z4.out).trans y2,(hb3.cell (p:=⟨gb,3,none⟩) Z4.out).trans y3,(hb3.cell (p:=⟨gb,4,none⟩) Z4.out).trans y4⟩,z1.drew.trans (hb3.mono z1.size),Nat.lt_of_lt_of_le Z4.out hb3.size⟩)
      (first|(go_at_call 31;refine (xO _ (C.below z1.drew) _ _ _ _ _ 0 1 rfl rfl (by omega) (by omega) _ Vx4.out).mono ?_;rintro e W3 ⟨rfl,hb3⟩))
  all_goals have hb:=z1.drew.trans (hb3.mono z1.size)
  all_goals clear y0 y1 y2 y3 y4 z1 z3 Z4 Z2 hb3
  all_goals go_wp2
  all_goals rw [rounds_succ]
  all_goals go_wp2
  all_goals go_ret
  all_goals exact ⟨Qu (by first|exact HD.out.symm|(rw [HD.out];omega)),hb⟩
end Go.Proofs.Ytdefecnngccmoaa.Ed
namespace Go.Proofs.Ytdefecnngccmoaa.Ed
open Go.RowKit Go.Proofs.YtdefecnngccmoaaW.PrintWords
set_option maxRecDepth 100000 in
set_option maxHeartbeats 8000000 in
theorem Zv (a b : ByteArray) (c : Lb.Cst) (hOk : c.Ok) (ha : a.size ≤ 60) (hb' : b.size ≤ 60) (mb g gG gi gj i j : Nat) (G : List Int) (hD : Done c a b G i j) (w : World) (C : Ctx w mb g gG gi gj c G i j) (hin : i < a.size) (hjm : Hid (j = b.size)) :
    Calls Try.prog 30 #[.map (some mb),.string (a.extract i a.size),.string (b.extract j b.size),.func (.func 31) #[] #[.pointer (some ⟨gG,0,none⟩),.pointer (some ⟨gi,0,none⟩),.pointer (some ⟨gj,0,none⟩)]] w (xD (dd c a b i j) w):=by
  obtain ⟨ki1,ki2,kd1,kd2,kc1,kc2,ks1,ks2⟩:=id hOk
  have hb:=Below.refl w.heap.size w
  have hj1 : j ≤ b.size:=by have:=hjm.out;omega
  have hj2 : ¬ j < b.size:=by have:=hjm.out;omega
  obtain ⟨x3,hx3⟩ : ∃ x,x = dd c a b (i + 1) (j):=⟨_,rfl⟩
  have qx3:=jO hOk a b ha hb' (i + 1) (j)
  rw [← hx3] at qx3
  obtain ⟨qx30,qx31⟩:=qx3
  have Vx3:=Lib.hid ((hD (i + 1) (j) (by omega) (by omega) (by omega)).trans hx3.symm)
  have hDD:=Lib.hid hD
  clear hD
  have hsw : sw a b i j = false:=by
    cases hs : sw a b i j with
    | false => rfl
    | true => have:=xA hs;omega
  have hfin : dd c a b i j = x3 + c.del:=by
    rw [hx3,hjm.out,yU _ _ _ _ hin]
  have HD:=Lib.hid hfin
  have HSW:=Lib.hid ((zU a b i j).trans hsw)
  have Hs:=Lib.hid (size_ext a i (by omega))
  have Ht:=Lib.hid (size_ext b j (by omega))
  clear hx3
  have S0:=Lib.hid (show 0 < (a.extract i a.size).size by rw [Hs.out];omega)
  have T0:=Lib.hid (show (b.extract j b.size).size = 0 by rw [Ht.out];have:=hjm.out;omega)
  clear hfin hsw hDD
  go_enter Try.func30,Try.ntmps30
  go_wp2
  refine wp_loop_rounds 6 ?_
  all_goals rw [rounds_succ]
  all_goals obtain ⟨l1,l2,l3,l4,l5⟩:=qX (C.below hb).fits
  all_goals go_wp2_with fail
  all_goals refine (Zc _ _ _ S0.out T0.out).mono ?_
  all_goals rintro e W1 ⟨rfl,hb1⟩
  all_goals replace hb:=hb.trans (hb1.mono hb.size)
  all_goals clear l1 l2 l3 l4 l5
  all_goals try dsimp only [jl]
  all_goals go_wp2
  all_goals have z1:=hb.alloc hb.size (.cells #[.int .i64 1,.int .i64 1,.int .i64 0,.int .u8 1,.int .u8 0] 73)
  all_goals clear hb hb1
  all_goals generalize W1.alloc (.cells #[.int .i64 1,.int .i64 1,.int .i64 0,.int .u8 1,.int .u8 0] 73) = W2 at *
  all_goals have hb:=z1
  all_goals clear z1
  all_goals rw [rounds_succ]
  all_goals obtain ⟨l1,l2,l3,l4,l5⟩:=qX (C.below hb).fits
  all_goals go_wp2_with fail
  all_goals refine (J7 _ _ _ g c (C.below hb).fits.2 S0.out T0.out).mono ?_
  all_goals rintro e W1 ⟨p1_,p2_,p3_,p4_,p5_,rfl,hb1⟩
  all_goals replace hb:=hb.trans (hb1.mono hb.size)
  all_goals clear l1 l2 l3 l4 l5
  all_goals try dsimp only [jl]
  all_goals go_wp2
  all_goals have z1:=hb.alloc hb.size (.cells #[.int .i64 p1_,.int .i64 p2_,.int .i64 p3_,.int .u8 p4_,.int .u8 p5_] 73)
  all_goals clear hb hb1
  all_goals generalize W1.alloc (.cells #[.int .i64 p1_,.int .i64 p2_,.int .i64 p3_,.int .u8 p4_,.int .u8 p5_] 73) = W2 at *
  all_goals have hb:=z1
  all_goals clear z1
  all_goals rw [rounds_succ]
  all_goals obtain ⟨l1,l2,l3,l4,l5⟩:=qX (C.below hb).fits
  all_goals go_wp2_with fail
  all_goals refine (zH _ _ _ g c (C.below hb).fits.2 false HSW.out).mono ?_
  all_goals rintro e W1 ⟨rfl,hb1⟩
  all_goals replace hb:=hb.trans (hb1.mono hb.size)
  all_goals clear l1 l2 l3 l4 l5
  all_goals try dsimp only [jl]
  all_goals go_wp2
  all_goals have z1:=hb.alloc hb.size (.cells #[.int .i64 2,.int .i64 2,.int .i64 c.swp,.int .u8 3,.int .u8 0] 73)
  all_goals clear hb hb1
  all_goals generalize W1.alloc (.cells #[.int .i64 2,.int .i64 2,.int .i64 c.swp,.int .u8 3,.int .u8 0] 73) = W2 at *
  all_goals have hb:=z1
  all_goals clear z1
  all_goals rw [rounds_succ]
  all_goals obtain ⟨l1,l2,l3,l4,l5⟩:=qX (C.below hb).fits
  all_goals go_wp2_with fail
  all_goals refine (zO _ _ _ g c (C.below hb).fits.2 S0.out).mono ?_
  all_goals rintro e W1 ⟨rfl,hb1⟩
  all_goals replace hb:=hb.trans (hb1.mono hb.size)
  all_goals clear l1 l2 l3 l4 l5
  all_goals try dsimp only [jl]
  all_goals go_wp2
  all_goals have z1:=hb.alloc hb.size (.cells #[.int .i64 1,.int .i64 0,.int .i64 c.del,.int .u8 4,.int .u8 0] 73)
  all_goals have z2:=jc W1 (.cells #[.int .i64 1,.int .i64 0,.int .i64 c.del,.int .u8 4,.int .u8 0] 73)
  all_goals have z3:=hb.size
  all_goals clear hb hb1
  all_goals generalize W1.alloc (.cells #[.int .i64 1,.int .i64 0,.int .i64 c.del,.int .u8 4,.int .u8 0] 73) = W2 at *
  all_goals generalize W1.heap.size = gb at *
  all_goals have Z4:=Lib.hid (jw z2)
  all_goals have y0:=(qi z2 0).trans rfl
  all_goals have y1:=(qi z2 1).trans rfl
  all_goals have y2:=(qi z2 2).trans rfl
  all_goals have y3:=(qi z2 3).trans rfl
  all_goals have y4:=(qi z2 4).trans rfl
  all_goals have Z2:=Lib.hid z2
  all_goals clear z2
  all_goals have w5_ : IntKind.i64.wrap (c.del + x3) = c.del + x3:=IntWalk.i64_in _ (by omega)
  all_goals go_region_held3 (fun w' => (w'.cell? ⟨gb,0,none⟩ = some (.int .i64 1) ∧ w'.cell? ⟨gb,1,none⟩ = some (.int .i64 0) ∧ w'.cell? ⟨gb,2,none⟩ = some (.int .i64 c.del) ∧ w'.cell? ⟨gb,3,none⟩ = some (.int .u8 4) ∧ w'.cell? ⟨gb,4,none⟩ = some (.int .u8 0)) ∧ Below w.heap.size w w' ∧ gb < w'.heap.size)
      (first|exact ⟨⟨y0,y1,y2,y3,y4⟩,z1.drew,Z4.out⟩|exact ⟨⟨(hb3.cell (p:=⟨gb,0,none⟩) Z4.out).trans y0,(hb3.cell (p:=⟨gb,1,none⟩) Z4.out).trans y1,(hb3.cell (p:=⟨gb,2,none⟩) Z4.out).trans y2,(hb3.cell (p:=⟨gb,3,none⟩) Z4.out).trans y3,(hb3.cell (p:=⟨gb,4,none⟩) Z4.out).trans y4⟩,z1.drew.trans (hb3.mono z1.size),Nat.lt_of_lt_of_le Z4.out hb3.size⟩)
      (first|(go_at_call 31;refine (xO _ (C.below z1.drew) _ _ _ _ _ 1 0 rfl rfl (by omega) (by omega) _ Vx3.out).mono ?_;rintro e W3 ⟨rfl,hb3⟩))
  all_goals have hb:=z1.drew.trans (hb3.mono z1.size)
  all_goals clear y0 y1 y2 y3 y4 z1 z3 Z4 Z2 hb3
  all_goals go_wp2
  all_goals rw [rounds_succ]
  all_goals obtain ⟨l1,l2,l3,l4,l5⟩:=qX (C.below hb).fits
  all_goals go_wp2_with fail
  all_goals refine (Q5 _ _ _ g c (C.below hb).fits.2 T0.out).mono ?_
  all_goals rintro e W1 ⟨p1_,p2_,p3_,p4_,p5_,rfl,hb1⟩
  all_goals replace hb:=hb.trans (hb1.mono hb.size)
  all_goals clear l1 l2 l3 l4 l5
  all_goals try dsimp only [jl]
  all_goals go_wp2
  all_goals have z1:=hb.alloc hb.size (.cells #[.int .i64 p1_,.int .i64 p2_,.int .i64 p3_,.int .u8 p4_,.int .u8 p5_] 73)
  all_goals clear hb hb1
  all_goals generalize W1.alloc (.cells #[.int .i64 p1_,.int .i64 p2_,.int .i64 p3_,.int .u8 p4_,.int .u8 p5_] 73) = W2 at *
  all_goals have hb:=z1
  all_goals clear z1
  all_goals rw [rounds_succ]
  all_goals go_wp2
  all_goals go_ret
  all_goals exact ⟨Qu (by first|exact HD.out.symm|(rw [HD.out];omega)),hb⟩
end Go.Proofs.Ytdefecnngccmoaa.Ed
namespace Go.Proofs.Ytdefecnngccmoaa.Ed
open Go.RowKit Go.Proofs.YtdefecnngccmoaaW.PrintWords
set_option maxRecDepth 100000 in
set_option maxHeartbeats 8000000 in
theorem Zj (a b : ByteArray) (c : Lb.Cst) (hOk : c.Ok) (ha : a.size ≤ 60) (hb' : b.size ≤ 60) (mb g gG gi gj i j : Nat) (G : List Int) (hD : Done c a b G i j) (w : World) (C : Ctx w mb g gG gi gj c G i j) (hin : Hid (i = a.size)) (hjm : j < b.size) :
    Calls Try.prog 30 #[.map (some mb),.string (a.extract i a.size),.string (b.extract j b.size),.func (.func 31) #[] #[.pointer (some ⟨gG,0,none⟩),.pointer (some ⟨gi,0,none⟩),.pointer (some ⟨gj,0,none⟩)]] w (xD (dd c a b i j) w):=by
  obtain ⟨ki1,ki2,kd1,kd2,kc1,kc2,ks1,ks2⟩:=id hOk
  have hb:=Below.refl w.heap.size w
  have hi1 : i ≤ a.size:=by have:=hin.out;omega
  have hi2 : ¬ i < a.size:=by have:=hin.out;omega
  obtain ⟨x4,hx4⟩ : ∃ x,x = dd c a b (i) (j + 1):=⟨_,rfl⟩
  have qx4:=jO hOk a b ha hb' (i) (j + 1)
  rw [← hx4] at qx4
  obtain ⟨qx40,qx41⟩:=qx4
  have Vx4:=Lib.hid ((hD (i) (j + 1) (by omega) (by omega) (by omega)).trans hx4.symm)
  have hDD:=Lib.hid hD
  clear hD
  have hsw : sw a b i j = false:=by
    cases hs : sw a b i j with
    | false => rfl
    | true => have:=xA hs;omega
  have hfin : dd c a b i j = x4 + c.ins:=by
    rw [hx4,hin.out,Qe _ _ _ _ hjm]
  have HD:=Lib.hid hfin
  have HSW:=Lib.hid ((zU a b i j).trans hsw)
  have Hs:=Lib.hid (size_ext a i (by omega))
  have Ht:=Lib.hid (size_ext b j (by omega))
  clear hx4
  have S0:=Lib.hid (show (a.extract i a.size).size = 0 by rw [Hs.out];have:=hin.out;omega)
  have T0:=Lib.hid (show 0 < (b.extract j b.size).size by rw [Ht.out];omega)
  clear hfin hsw hDD
  go_enter Try.func30,Try.ntmps30
  go_wp2
  refine wp_loop_rounds 6 ?_
  all_goals rw [rounds_succ]
  all_goals obtain ⟨l1,l2,l3,l4,l5⟩:=qX (C.below hb).fits
  all_goals go_wp2_with fail
  all_goals refine (QW _ _ _ S0.out).mono ?_
  all_goals rintro e W1 ⟨rfl,hb1⟩
  all_goals replace hb:=hb.trans (hb1.mono hb.size)
  all_goals clear l1 l2 l3 l4 l5
  all_goals try dsimp only [jl]
  all_goals go_wp2
  all_goals have z1:=hb.alloc hb.size (.cells #[.int .i64 1,.int .i64 1,.int .i64 0,.int .u8 1,.int .u8 0] 73)
  all_goals clear hb hb1
  all_goals generalize W1.alloc (.cells #[.int .i64 1,.int .i64 1,.int .i64 0,.int .u8 1,.int .u8 0] 73) = W2 at *
  all_goals have hb:=z1
  all_goals clear z1
  all_goals rw [rounds_succ]
  all_goals obtain ⟨l1,l2,l3,l4,l5⟩:=qX (C.below hb).fits
  all_goals go_wp2_with fail
  all_goals refine (QV _ _ _ g c (C.below hb).fits.2 S0.out).mono ?_
  all_goals rintro e W1 ⟨p1_,p2_,p3_,p4_,p5_,rfl,hb1⟩
  all_goals replace hb:=hb.trans (hb1.mono hb.size)
  all_goals clear l1 l2 l3 l4 l5
  all_goals try dsimp only [jl]
  all_goals go_wp2
  all_goals have z1:=hb.alloc hb.size (.cells #[.int .i64 p1_,.int .i64 p2_,.int .i64 p3_,.int .u8 p4_,.int .u8 p5_] 73)
  all_goals clear hb hb1
  all_goals generalize W1.alloc (.cells #[.int .i64 p1_,.int .i64 p2_,.int .i64 p3_,.int .u8 p4_,.int .u8 p5_] 73) = W2 at *
  all_goals have hb:=z1
  all_goals clear z1
  all_goals rw [rounds_succ]
  all_goals obtain ⟨l1,l2,l3,l4,l5⟩:=qX (C.below hb).fits
  all_goals go_wp2_with fail
  all_goals refine (zH _ _ _ g c (C.below hb).fits.2 false HSW.out).mono ?_
  all_goals rintro e W1 ⟨rfl,hb1⟩
  all_goals replace hb:=hb.trans (hb1.mono hb.size)
  all_goals clear l1 l2 l3 l4 l5
  all_goals try dsimp only [jl]
  all_goals go_wp2
  all_goals have z1:=hb.alloc hb.size (.cells #[.int .i64 2,.int .i64 2,.int .i64 c.swp,.int .u8 3,.int .u8 0] 73)
  all_goals clear hb hb1
  all_goals generalize W1.alloc (.cells #[.int .i64 2,.int .i64 2,.int .i64 c.swp,.int .u8 3,.int .u8 0] 73) = W2 at *
  all_goals have hb:=z1
  all_goals clear z1
  all_goals rw [rounds_succ]
  all_goals obtain ⟨l1,l2,l3,l4,l5⟩:=qX (C.below hb).fits
  all_goals go_wp2_with fail
  all_goals refine (yO _ _ _ g c (C.below hb).fits.2 S0.out).mono ?_
  all_goals rintro e W1 ⟨rfl,hb1⟩
  all_goals replace hb:=hb.trans (hb1.mono hb.size)
  all_goals clear l1 l2 l3 l4 l5
  all_goals try dsimp only [jl]
  all_goals go_wp2
  all_goals have z1:=hb.alloc hb.size (.cells #[.int .i64 1,.int .i64 0,.int .i64 c.del,.int .u8 4,.int .u8 0] 73)
  all_goals clear hb hb1
  all_goals generalize W1.alloc (.cells #[.int .i64 1,.int .i64 0,.int .i64 c.del,.int .u8 4,.int .u8 0] 73) = W2 at *
  all_goals have hb:=z1
  all_goals clear z1
  all_goals rw [rounds_succ]
  all_goals obtain ⟨l1,l2,l3,l4,l5⟩:=qX (C.below hb).fits
  all_goals go_wp2_with fail
  all_goals refine (xq _ _ _ g c (C.below hb).fits.2 T0.out).mono ?_
  all_goals rintro e W1 ⟨rfl,hb1⟩
  all_goals replace hb:=hb.trans (hb1.mono hb.size)
  all_goals clear l1 l2 l3 l4 l5
  all_goals try dsimp only [jl]
  all_goals go_wp2
  all_goals have z1:=hb.alloc hb.size (.cells #[.int .i64 0,.int .i64 1,.int .i64 c.ins,.int .u8 5,.int .u8 (bt (b.extract j b.size) 0)] 73)
  all_goals have z2:=jc W1 (.cells #[.int .i64 0,.int .i64 1,.int .i64 c.ins,.int .u8 5,.int .u8 (bt (b.extract j b.size) 0)] 73)
  all_goals have z3:=hb.size
  all_goals clear hb hb1
  all_goals generalize W1.alloc (.cells #[.int .i64 0,.int .i64 1,.int .i64 c.ins,.int .u8 5,.int .u8 (bt (b.extract j b.size) 0)] 73) = W2 at *
  all_goals generalize W1.heap.size = gb at *
  all_goals have Z4:=Lib.hid (jw z2)
  all_goals have y0:=(qi z2 0).trans rfl
  all_goals have y1:=(qi z2 1).trans rfl
  all_goals have y2:=(qi z2 2).trans rfl
  all_goals have y3:=(qi z2 3).trans rfl
  all_goals have y4:=(qi z2 4).trans rfl
  all_goals have Z2:=Lib.hid z2
  all_goals clear z2
  all_goals have w5_ : IntKind.i64.wrap (c.ins + x4) = c.ins + x4:=IntWalk.i64_in _ (by omega)
  all_goals go_region_held3 (fun w' => (w'.cell? ⟨gb,0,none⟩ = some (.int .i64 0) ∧ w'.cell? ⟨gb,1,none⟩ = some (.int .i64 1) ∧ w'.cell? ⟨gb,2,none⟩ = some (.int .i64 c.ins) ∧ w'.cell? ⟨gb,3,none⟩ = some (.int .u8 5) ∧ w'.cell? ⟨gb,4,none⟩ = some (.int .u8 (bt (b.extract j b.size) 0))) ∧ Below w.heap.size w w' ∧ gb < w'.heap.size)
      (first|exact ⟨⟨y0,y1,y2,y3,y4⟩,z1.drew,Z4.out⟩|exact ⟨⟨(hb3.cell (p:=⟨gb,0,none⟩) Z4.out).trans y0,(hb3.cell (p:=⟨gb,1,none⟩) Z4.out).trans y1,(hb3.cell (p:=⟨gb,2,none⟩) Z4.out).trans y2,(hb3.cell (p:=⟨gb,3,none⟩) Z4.out).trans y3,(hb3.cell (p:=⟨gb,4,none⟩) Z4.out).trans y4⟩,z1.drew.trans (hb3.mono z1.size),Nat.lt_of_lt_of_le Z4.out hb3.size⟩)
      (first|(go_at_call 31;refine (xO _ (C.below z1.drew) _ _ _ _ _ 0 1 rfl rfl (by omega) (by omega) _ Vx4.out).mono ?_;rintro e W3 ⟨rfl,hb3⟩))
  all_goals have hb:=z1.drew.trans (hb3.mono z1.size)
  all_goals clear y0 y1 y2 y3 y4 z1 z3 Z4 Z2 hb3
  all_goals go_wp2
  all_goals rw [rounds_succ]
  all_goals go_wp2
  all_goals go_ret
  all_goals exact ⟨Qu (by first|exact HD.out.symm|(rw [HD.out];omega)),hb⟩
end Go.Proofs.Ytdefecnngccmoaa.Ed
namespace Go.Proofs.Ytdefecnngccmoaa.Ed
open Go.RowKit Go.Proofs.YtdefecnngccmoaaW.PrintWords
set_option maxRecDepth 100000 in
set_option maxHeartbeats 8000000 in
theorem Zy (a b : ByteArray) (c : Lb.Cst) (hOk : c.Ok) (ha : a.size ≤ 60) (hb' : b.size ≤ 60) (mb g gG gi gj i j : Nat) (G : List Int) (hD : Done c a b G i j) (w : World) (C : Ctx w mb g gG gi gj c G i j) (hin : Hid (i = a.size)) (hjm : Hid (j = b.size)) :
    Calls Try.prog 30 #[.map (some mb),.string (a.extract i a.size),.string (b.extract j b.size),.func (.func 31) #[] #[.pointer (some ⟨gG,0,none⟩),.pointer (some ⟨gi,0,none⟩),.pointer (some ⟨gj,0,none⟩)]] w (xD (dd c a b i j) w):=by
  obtain ⟨ki1,ki2,kd1,kd2,kc1,kc2,ks1,ks2⟩:=id hOk
  have hb:=Below.refl w.heap.size w
  have hi1 : i ≤ a.size:=by have:=hin.out;omega
  have hi2 : ¬ i < a.size:=by have:=hin.out;omega
  have hj1 : j ≤ b.size:=by have:=hjm.out;omega
  have hj2 : ¬ j < b.size:=by have:=hjm.out;omega
  have hDD:=Lib.hid hD
  clear hD
  have hsw : sw a b i j = false:=by
    cases hs : sw a b i j with
    | false => rfl
    | true => have:=xA hs;omega
  have hfin : dd c a b i j = 0:=by
    rw [hin.out,hjm.out];exact JD _ _ _
  have HD:=Lib.hid hfin
  have HSW:=Lib.hid ((zU a b i j).trans hsw)
  have Hs:=Lib.hid (size_ext a i (by omega))
  have Ht:=Lib.hid (size_ext b j (by omega))
  have S0:=Lib.hid (show (a.extract i a.size).size = 0 by rw [Hs.out];have:=hin.out;omega)
  have T0:=Lib.hid (show (b.extract j b.size).size = 0 by rw [Ht.out];have:=hjm.out;omega)
  clear hfin hsw hDD
  go_enter Try.func30,Try.ntmps30
  go_wp2
  refine wp_loop_rounds 6 ?_
  all_goals rw [rounds_succ]
  all_goals obtain ⟨l1,l2,l3,l4,l5⟩:=qX (C.below hb).fits
  all_goals go_wp2_with fail
  all_goals refine (QW _ _ _ S0.out).mono ?_
  all_goals rintro e W1 ⟨rfl,hb1⟩
  all_goals replace hb:=hb.trans (hb1.mono hb.size)
  all_goals clear l1 l2 l3 l4 l5
  all_goals try dsimp only [jl]
  all_goals go_wp2
  all_goals have z1:=hb.alloc hb.size (.cells #[.int .i64 1,.int .i64 1,.int .i64 0,.int .u8 1,.int .u8 0] 73)
  all_goals clear hb hb1
  all_goals generalize W1.alloc (.cells #[.int .i64 1,.int .i64 1,.int .i64 0,.int .u8 1,.int .u8 0] 73) = W2 at *
  all_goals have hb:=z1
  all_goals clear z1
  all_goals rw [rounds_succ]
  all_goals obtain ⟨l1,l2,l3,l4,l5⟩:=qX (C.below hb).fits
  all_goals go_wp2_with fail
  all_goals refine (QV _ _ _ g c (C.below hb).fits.2 S0.out).mono ?_
  all_goals rintro e W1 ⟨p1_,p2_,p3_,p4_,p5_,rfl,hb1⟩
  all_goals replace hb:=hb.trans (hb1.mono hb.size)
  all_goals clear l1 l2 l3 l4 l5
  all_goals try dsimp only [jl]
  all_goals go_wp2
  all_goals have z1:=hb.alloc hb.size (.cells #[.int .i64 p1_,.int .i64 p2_,.int .i64 p3_,.int .u8 p4_,.int .u8 p5_] 73)
  all_goals clear hb hb1
  all_goals generalize W1.alloc (.cells #[.int .i64 p1_,.int .i64 p2_,.int .i64 p3_,.int .u8 p4_,.int .u8 p5_] 73) = W2 at *
  all_goals have hb:=z1
  all_goals clear z1
  all_goals rw [rounds_succ]
  all_goals obtain ⟨l1,l2,l3,l4,l5⟩:=qX (C.below hb).fits
  all_goals go_wp2_with fail
  all_goals refine (zH _ _ _ g c (C.below hb).fits.2 false HSW.out).mono ?_
  all_goals rintro e W1 ⟨rfl,hb1⟩
  all_goals replace hb:=hb.trans (hb1.mono hb.size)
  all_goals clear l1 l2 l3 l4 l5
  all_goals try dsimp only [jl]
  all_goals go_wp2
  all_goals have z1:=hb.alloc hb.size (.cells #[.int .i64 2,.int .i64 2,.int .i64 c.swp,.int .u8 3,.int .u8 0] 73)
  all_goals clear hb hb1
  all_goals generalize W1.alloc (.cells #[.int .i64 2,.int .i64 2,.int .i64 c.swp,.int .u8 3,.int .u8 0] 73) = W2 at *
  all_goals have hb:=z1
  all_goals clear z1
  all_goals rw [rounds_succ]
  all_goals obtain ⟨l1,l2,l3,l4,l5⟩:=qX (C.below hb).fits
  all_goals go_wp2_with fail
  all_goals refine (yO _ _ _ g c (C.below hb).fits.2 S0.out).mono ?_
  all_goals rintro e W1 ⟨rfl,hb1⟩
  all_goals replace hb:=hb.trans (hb1.mono hb.size)
  all_goals clear l1 l2 l3 l4 l5
  all_goals try dsimp only [jl]
  all_goals go_wp2
  all_goals have z1:=hb.alloc hb.size (.cells #[.int .i64 1,.int .i64 0,.int .i64 c.del,.int .u8 4,.int .u8 0] 73)
  all_goals clear hb hb1
  all_goals generalize W1.alloc (.cells #[.int .i64 1,.int .i64 0,.int .i64 c.del,.int .u8 4,.int .u8 0] 73) = W2 at *
  all_goals have hb:=z1
  all_goals clear z1
  all_goals rw [rounds_succ]
  all_goals obtain ⟨l1,l2,l3,l4,l5⟩:=qX (C.below hb).fits
  all_goals go_wp2_with fail
  all_goals refine (Q5 _ _ _ g c (C.below hb).fits.2 T0.out).mono ?_
  all_goals rintro e W1 ⟨p1_,p2_,p3_,p4_,p5_,rfl,hb1⟩
  all_goals replace hb:=hb.trans (hb1.mono hb.size)
  all_goals clear l1 l2 l3 l4 l5
  all_goals try dsimp only [jl]
  all_goals go_wp2
  all_goals have z1:=hb.alloc hb.size (.cells #[.int .i64 p1_,.int .i64 p2_,.int .i64 p3_,.int .u8 p4_,.int .u8 p5_] 73)
  all_goals clear hb hb1
  all_goals generalize W1.alloc (.cells #[.int .i64 p1_,.int .i64 p2_,.int .i64 p3_,.int .u8 p4_,.int .u8 p5_] 73) = W2 at *
  all_goals have hb:=z1
  all_goals clear z1
  all_goals rw [rounds_succ]
  all_goals go_wp2
  all_goals go_ret
  all_goals exact ⟨Qu (by first|exact HD.out.symm|(rw [HD.out];omega)),hb⟩
end Go.Proofs.Ytdefecnngccmoaa.Ed
namespace Go.Proofs.Ytdefecnngccmoaa.Ed
open Go.RowKit Go.Proofs.YtdefecnngccmoaaW.PrintWords
theorem Ji (a b : ByteArray) (c : Lb.Cst) (hOk : c.Ok) (ha : a.size ≤ 60) (hb' : b.size ≤ 60) (mb g gG gi gj i j : Nat) (G : List Int) (hD : Done c a b G i j) (hi : i ≤ a.size) (hj : j ≤ b.size) (w : World) (C : Ctx w mb g gG gi gj c G i j) :
    Calls Try.prog 30 #[.map (some mb),.string (a.extract i a.size),.string (b.extract j b.size),.func (.func 31) #[] #[.pointer (some ⟨gG,0,none⟩),.pointer (some ⟨gi,0,none⟩),.pointer (some ⟨gj,0,none⟩)]] w (xD (dd c a b i j) w):=by
  by_cases hin : i < a.size
  · by_cases hjm : j < b.size
    · by_cases he : bt a i = bt b j
      · exact Xn a b c hOk ha hb' mb g gG gi gj i j G hD w C hin hjm he
      · cases hsw : sw a b i j
        · exact Xu a b c hOk ha hb' mb g gG gi gj i j G hD w C hin hjm he hsw
        · exact Xp a b c hOk ha hb' mb g gG gi gj i j G hD w C hin hjm he hsw
    · exact Zv a b c hOk ha hb' mb g gG gi gj i j G hD w C hin (by omega : j = b.size)
  · by_cases hjm : j < b.size
    · exact Zj a b c hOk ha hb' mb g gG gi gj i j G hD w C (by omega : i = a.size) hjm
    · exact Zy a b c hOk ha hb' mb g gG gi gj i j G hD w C (by omega : i = a.size) (by omega : j = b.size)
def IC (W : World) (g : Nat) (v : Int) : Prop:=W.heap[g]? = some (.cells #[.int .i64 v] 3 (0,0))
theorem IC.cell {W : World} {g : Nat} {v : Int} (h : IC W g v) : W.cell? ⟨g,0,none⟩ = some (.int .i64 v):=(qi h 0).trans rfl
theorem IC.below {W W' : World} {g : Nat} {v : Int} (h : IC W g v) (hb : Below W.heap.size W W') : IC W' g v:=(hb.block g (jw h)).trans h
theorem IC.new (W : World) (v : Int) : IC (W.alloc (.cells #[.int .i64 v] 3)) W.heap.size v:=jc W _
theorem IC.set {W : World} {g : Nat} {v : Int} (h : IC W g v) (u : Int) : IC (W.setCell ⟨g,0,none⟩ (.int .i64 u)) g u:=(zR h 0 _).trans rfl
theorem IC.far {W : World} {g g' j : Nat} {v : Int} (h : IC W g v) (hne : g ≠ g') (u : Value) : IC (W.setCell ⟨g',j,none⟩ u) g v:=j5 h (p:=⟨g',j,none⟩) hne u
structure PB (w W : World) (mb g gG : Nat) (c : Lb.Cst) (G : List Int) : Prop where
  below : Below w.heap.size w W
  fits : Fits W mb g c
  grid : W.heap[gG]? = some (.cells (ints G) 70 (0,0))
  len : G.length = 3721
  eG : w.heap.size ≤ gG
namespace PB
variable {w W W' : World} {mb g gG : Nat} {c : Lb.Cst} {G : List Int}
theorem keep (h : PB w W mb g gG c G) (hb : Below W.heap.size W W') : PB w W' mb g gG c G :=
  ⟨h.below.trans (hb.mono h.below.size),⟨(hb.block _ (jw h.fits.1)).trans h.fits.1,h.fits.2.below hb⟩,(hb.block _ (jw h.grid)).trans h.grid,h.len,h.eG⟩
theorem alloc (h : PB w W mb g gG c G) (o : Obj) : PB w (W.alloc o) mb g gG c G:=h.keep ((Below.refl _ _).alloc (Nat.le_refl _) _)
theorem drewN (h : PB w W mb g gG c G) (n : Nat) : PB w (W.drewN n) mb g gG c G:=h.keep (qc (Below.refl _ _) n)
theorem drew (h : PB w W mb g gG c G) : PB w W.drew mb g gG c G:=h.drewN 1
theorem nI (h : PB w W mb g gG c G) {gi : Nat} {v : Int} (hi : IC W gi v) : gi ≠ gG:=xG hi h.grid (by decide)
theorem put (h : PB w W mb g gG c G) (k : Nat) (v : Int) : PB w (W.setCell ⟨gG,k,none⟩ (.int .i64 v)) mb g gG c (G.set k v) :=
  ⟨h.below.setCell h.eG _,⟨(Below.heap_setCell W _ _ mb (by intro e;have:=h.fits.1;rw [e] at this;have:=h.grid.symm.trans this;simp at this)).trans h.fits.1,j5 h.fits.2 (p:=⟨gG,k,none⟩) (xG h.fits.2 h.grid (by decide)) _⟩,by rw [zR h.grid,ints_set],by simp [h.len],h.eG⟩
theorem setI (h : PB w W mb g gG c G) {gi : Nat} {v : Int} (hi : IC W gi v) (he : w.heap.size ≤ gi) (u : Int) : PB w (W.setCell ⟨gi,0,none⟩ (.int .i64 u)) mb g gG c G :=
  ⟨h.below.setCell he _,⟨(Below.heap_setCell W _ _ mb (by intro e;have:=h.fits.1;rw [e] at this;have:=(show W.heap[gi]? = _ from hi).symm.trans this;simp at this)).trans h.fits.1,j5 h.fits.2 (p:=⟨gi,0,none⟩) (xG h.fits.2 hi (by decide)) _⟩,j5 h.grid (p:=⟨gi,0,none⟩) (xG h.grid hi (by decide)) _,h.len,h.eG⟩
theorem ctx (h : PB w W mb g gG c G) {gi gj i j : Nat} (hi : IC W gi i) (hj : IC W gj j) : Ctx W mb g gG gi gj c G i j:=⟨h.fits,h.grid,h.len,hi,hj⟩
theorem at_ (h : PB w W mb g gG c G) (k : Nat) (hk : k < 3721) : W.cell? ⟨gG,k,none⟩ = some (.int .i64 (G.getD k 0)):=(qi h.grid _).trans (ints_at _ _ (by have:=h.len;omega))
end PB
def Row (c : Lb.Cst) (a b : ByteArray) (G : List Int) (i : Nat) (j : Int) : Prop:=∀ j' : Nat,j < j' → j' ≤ b.size → G.getD (i * 61 + j') 0 = dd c a b i j'
def Grid (c : Lb.Cst) (a b : ByteArray) (G : List Int) (i : Int) : Prop:=∀ i' j' : Nat,i < i' → i' ≤ a.size → j' ≤ b.size → G.getD (i' * 61 + j') 0 = dd c a b i' j'
theorem zu {c : Lb.Cst} {a b : ByteArray} {G : List Int} {i j : Nat} (hg : Grid c a b G i) (hr : Row c a b G i j) : Done c a b G i j:=by
  intro i' j' h1 h2 h
  rcases h with h|⟨rfl,h⟩
  · exact hg i' j' (by omega) h1 h2
  · exact hr j' (by omega) h2
theorem Q3 (l : List Int) (k m : Nat) (v : Int) (h : k < l.length) : (l.set k v).getD m 0 = if k = m then v else l.getD m 0:=by
  by_cases e : k = m
  · subst e;simp [h]
  · simp [e]
theorem Xl {c : Lb.Cst} {a b : ByteArray} {G : List Int} {i j : Nat} (hl : G.length = 3721) (ha : a.size ≤ 60) (hb : b.size ≤ 60) (hi : i ≤ a.size) (_hj : j ≤ b.size) (hg : Grid c a b G i) (v : Int) : Grid c a b (G.set (i * 61 + j) v) i:=by
  intro i' j' h1 h2 h3
  rw [Q3 _ _ _ _ (by omega),if_neg (by omega)]
  exact hg i' j' h1 h2 h3
theorem X5 {c : Lb.Cst} {a b : ByteArray} {G : List Int} {i j : Nat} (hl : G.length = 3721) (ha : a.size ≤ 60) (hb : b.size ≤ 60) (hi : i ≤ a.size) (hj : j ≤ b.size) (hr : Row c a b G i j) : Row c a b (G.set (i * 61 + j) (dd c a b i j)) i ((j : Int) - 1):=by
  intro j' h1 h2
  rw [Q3 _ _ _ _ (by omega)]
  by_cases e : j = j'
  · subst e;rw [if_pos rfl]
  · rw [if_neg (by omega)];exact hr j' (by omega) h2
theorem ZW {c : Lb.Cst} {a b : ByteArray} {G : List Int} {i : Nat} (hg : Grid c a b G i) (hr : Row c a b G i (-1)) : Grid c a b G ((i : Int) - 1):=by
  intro i' j' h1 h2 h3
  by_cases e : i' = i
  · subst e;exact hr j' (by omega) h3
  · exact hg i' j' (by omega) h2 h3
end Go.Proofs.Ytdefecnngccmoaa.Ed
namespace Go.Proofs.Ytdefecnngccmoaa.QTells
open Go.RowKit Go.Proofs.YtdefecnngccmoaaW.PrintWords Go.Proofs.YtdefecnngccmoaaW.PrintLast Go.Proofs.YtdefecnngccmoaaW.PrintMore
attribute [local go_sem] jX jV zk zi jM jN jU jY
set_option linter.unusedVariables false
set_option linter.unusedSimpArgs false
def errW : Option Int → Value
 | none => .nilIface
 | some c => .iface 0 (.int .i64 c)
theorem qQ : errW none = .nilIface:=rfl
theorem qP (c : Int) : errW (some c) = .iface 0 (.int .i64 c):=rfl
theorem info3 : (Try.prog.info? 3).map (fun i => (i.zero,i.size,i.bytes)) = some (some (.int .i64 0),1,8):=by kernel_rfl
theorem info5 : (Try.prog.info? 5).map (fun i => (i.zero,i.size,i.bytes)) = some (some (.int .u8 0),1,1):=by kernel_rfl
theorem vo : (Try.prog.info? 38).map (fun i => (i.zero,i.size,i.bytes)) = some (some (.agg #[(.int .u8 0),(.int .u8 0)]),2,2):=by kernel_rfl
theorem JO : (Try.prog.info? 59).map (fun i => (i.zero,i.size,i.bytes)) = some (some (.agg #[(.int .u8 0),(.int .u8 0)]),2,2):=by kernel_rfl
theorem VQ : (Try.prog.info? 62).map (fun i => (i.zero,i.size,i.bytes)) = some (some (.slice none 0 0),1,24):=by kernel_rfl
structure S38 where
 f0 : Int
 f1 : Int
def z38 : S38:=⟨(0 : Int),(0 : Int)⟩
def k38 : Kd S38:=Kd.iso (Kd.pair (Kd.int .u8) (Kd.int .u8)) (fun x : S38 => (x.f0,x.f1))
theorem yY {w : World} {x : S38} {cs : List Value} (h : k38.K w x cs) : cs = [.int .u8 x.f0,.int .u8 x.f1]:=by
 obtain ⟨_,_,rfl,rfl,rfl⟩:=h
 exact rfl
theorem Zm {w : World} {base : Nat} {ok : Nat → Prop} {x : S38} {cs : List Value} (h : k38.M w base ok x cs) : cs = [.int .u8 x.f0,.int .u8 x.f1]:=by
 obtain ⟨_,_,rfl,rfl,rfl⟩:=h
 exact rfl
theorem Xr (w : World) (x : S38)  : k38.K w x [.int .u8 x.f0,.int .u8 x.f1]:=⟨[.int .u8 x.f0],[.int .u8 x.f1],rfl,rfl,rfl⟩
theorem xC (w : World) (base : Nat) (ok : Nat → Prop) (x : S38)  : k38.M w base ok x [.int .u8 x.f0,.int .u8 x.f1]:=⟨[.int .u8 x.f0],[.int .u8 x.f1],rfl,rfl,rfl⟩
def qJ (xs : List S38) (i : Int) : S38:=xs.getD i.toNat z38
theorem vD {w : World} {A : Option Addr} {n : Nat} {xs : List S38} (h : Kd.C k38 w A n xs) (i : Int) (h0 : 0 ≤ i) (h1 : i < n) : ∃ ad , A = some ad ∧ w.cell? (ad.add (i.toNat * 2)) = some (.int .u8 (qJ xs i).f0) ∧ w.cell? ⟨(ad.add (i.toNat * 2)).block,(ad.add (i.toNat * 2)).off + 1,none⟩ = some (.int .u8 (qJ xs i).f1):=by
 obtain ⟨ad,c,e,_,hK,hc0⟩:=Kd.vP h z38 i h0 h1
 have hc : ∀ j u,c[j]? = some u → w.cell? (ad.add (i.toNat * 2 + j)) = some u:=hc0
 obtain rfl:=yY hK
 exact ⟨ad,e,hc 0 _ rfl,by rw [← jG _ _ 1 (by omega)];exact hc 1 _ rfl⟩
def J6 (xs : List (List S38)) (i : Int) : (List S38):=xs.getD i.toNat ([] : List S38)
theorem KE {w : World} {A : Option Addr} {n : Nat} {xs : List (List S38)} (h : Kd.C (Kd.slice 38 k38) w A n xs) (i : Int) (h0 : 0 ≤ i) (h1 : i < n) : ∃ ad A0 c0,A = some ad ∧ w.cell? (ad.add i.toNat) = some (.slice A0 (J6 xs i).length c0) ∧ (J6 xs i).length ≤ c0 ∧ k38.C w A0 (J6 xs i).length (J6 xs i):=by
 obtain ⟨ad,c,e,_,hK,hc0⟩:=Kd.vP h ([] : List S38) i h0 h1
 have hc : ∀ j u,c[j]? = some u → w.cell? (ad.add (i.toNat * 1 + j)) = some u:=hc0
 obtain ⟨A0,c0,rfl,l0,g0⟩:=hK
 exact ⟨ad,A0,c0,e,by have hq:=hc 0 _ rfl;rwa [Nat.mul_one,Nat.add_zero] at hq,l0,g0⟩
def JS (xs : List (List Int)) (i : Int) : (List Int):=xs.getD i.toNat ([] : List Int)
theorem KF {w : World} {A : Option Addr} {n : Nat} {xs : List (List Int)} (h : Kd.C (Kd.slice 5 (Kd.int .u8)) w A n xs) (i : Int) (h0 : 0 ≤ i) (h1 : i < n) : ∃ ad A0 c0,A = some ad ∧ w.cell? (ad.add i.toNat) = some (.slice A0 (JS xs i).length c0) ∧ (JS xs i).length ≤ c0 ∧ (Kd.int .u8).C w A0 (JS xs i).length (JS xs i):=by
 obtain ⟨ad,c,e,_,hK,hc0⟩:=Kd.vP h ([] : List Int) i h0 h1
 have hc : ∀ j u,c[j]? = some u → w.cell? (ad.add (i.toNat * 1 + j)) = some u:=hc0
 obtain ⟨A0,c0,rfl,l0,g0⟩:=hK
 exact ⟨ad,A0,c0,e,by have hq:=hc 0 _ rfl;rwa [Nat.mul_one,Nat.add_zero] at hq,l0,g0⟩
def qW (xs : List (List Int)) (i : Int) : (List Int):=xs.getD i.toNat ([] : List Int)
theorem kv {w : World} {A : Option Addr} {n : Nat} {xs : List (List Int)} (h : Kd.C (Kd.slice 3 (Kd.int .i64)) w A n xs) (i : Int) (h0 : 0 ≤ i) (h1 : i < n) : ∃ ad A0 c0,A = some ad ∧ w.cell? (ad.add i.toNat) = some (.slice A0 (qW xs i).length c0) ∧ (qW xs i).length ≤ c0 ∧ (Kd.int .i64).C w A0 (qW xs i).length (qW xs i):=by
 obtain ⟨ad,c,e,_,hK,hc0⟩:=Kd.vP h ([] : List Int) i h0 h1
 have hc : ∀ j u,c[j]? = some u → w.cell? (ad.add (i.toNat * 1 + j)) = some u:=hc0
 obtain ⟨A0,c0,rfl,l0,g0⟩:=hK
 exact ⟨ad,A0,c0,e,by have hq:=hc 0 _ rfl;rwa [Nat.mul_one,Nat.add_zero] at hq,l0,g0⟩
structure S59 where
 f0 : Int
 f1 : Int
def z59 : S59:=⟨(0 : Int),(0 : Int)⟩
def k59 : Kd S59:=Kd.iso (Kd.pair (Kd.int .u8) (Kd.int .u8)) (fun x : S59 => (x.f0,x.f1))
theorem Xj {w : World} {x : S59} {cs : List Value} (h : k59.K w x cs) : cs = [.int .u8 x.f0,.int .u8 x.f1]:=by
 obtain ⟨_,_,rfl,rfl,rfl⟩:=h
 exact rfl
theorem VW {w : World} {base : Nat} {ok : Nat → Prop} {x : S59} {cs : List Value} (h : k59.M w base ok x cs) : cs = [.int .u8 x.f0,.int .u8 x.f1]:=by
 obtain ⟨_,_,rfl,rfl,rfl⟩:=h
 exact rfl
theorem KA (w : World) (x : S59)  : k59.K w x [.int .u8 x.f0,.int .u8 x.f1]:=⟨[.int .u8 x.f0],[.int .u8 x.f1],rfl,rfl,rfl⟩
theorem QO (w : World) (base : Nat) (ok : Nat → Prop) (x : S59)  : k59.M w base ok x [.int .u8 x.f0,.int .u8 x.f1]:=⟨[.int .u8 x.f0],[.int .u8 x.f1],rfl,rfl,rfl⟩
def zM (xs : List S59) (i : Int) : S59:=xs.getD i.toNat z59
theorem ZE {w : World} {A : Option Addr} {n : Nat} {xs : List S59} (h : Kd.C k59 w A n xs) (i : Int) (h0 : 0 ≤ i) (h1 : i < n) : ∃ ad , A = some ad ∧ w.cell? (ad.add (i.toNat * 2)) = some (.int .u8 (zM xs i).f0) ∧ w.cell? ⟨(ad.add (i.toNat * 2)).block,(ad.add (i.toNat * 2)).off + 1,none⟩ = some (.int .u8 (zM xs i).f1):=by
 obtain ⟨ad,c,e,_,hK,hc0⟩:=Kd.vP h z59 i h0 h1
 have hc : ∀ j u,c[j]? = some u → w.cell? (ad.add (i.toNat * 2 + j)) = some u:=hc0
 obtain rfl:=Xj hK
 exact ⟨ad,e,hc 0 _ rfl,by rw [← jG _ _ 1 (by omega)];exact hc 1 _ rfl⟩
end Go.Proofs.Ytdefecnngccmoaa.QTells
namespace Go.Proofs.Ytdefecnngccmoaa.Ed
open Go.RowKit Go.Proofs.YtdefecnngccmoaaW.PrintWords QTells
theorem PB.grown {w W W' : World} {mb g gG : Nat} {c : Lb.Cst} {G : List Int} (h : PB w W mb g gG c G) {v : Value} {acc : List S38} {base : Nat} {ok : Nat → Prop} (HO : k38.R 38 W base ok v acc) (hg : W.grownBy W' v.ownBlock) (hb : Below w.heap.size w W') : PB w W' mb g gG c G:=by
  have ht:=Kd.jf HO
  have f : ∀ k,k = mb ∨ k = g ∨ k = gG → W'.heap[k]? = W.heap[k]?:=by
    intro k hk
    have hlt : k < W.heap.size:=by
      rcases hk with rfl|rfl|rfl
      · exact jw h.fits.1
      · exact jw h.fits.2
      · exact jw h.grid
    refine hg.block k hlt ?_
    intro e
    obtain ⟨cells,hc⟩:=ht k e.symm
    rcases hk with rfl|rfl|rfl
    · have:=hc.symm.trans h.fits.1;simp at this
    · have:=hc.symm.trans h.fits.2;simp at this
    · have:=hc.symm.trans h.grid;simp at this
  exact ⟨hb,⟨(f _ (by simp)).trans h.fits.1,(f _ (by simp)).trans h.fits.2⟩,(f _ (by simp)).trans h.grid,h.len,h.eG⟩
def xE (c : Lb.Cst) : List Int → List Int → List S38
  | [],[] => []
  | [],b :: t => ⟨5,b⟩ :: xE c [] t
  | _ :: s,[] => ⟨4,0⟩ :: xE c s []
  | a :: s,b :: t =>
    if a = b ∧ Lb.dist c s t = Lb.dist c (a :: s) (b :: t) then ⟨1,0⟩ :: xE c s t
    else if a ≠ b ∧ c.chg + Lb.dist c s t = Lb.dist c (a :: s) (b :: t) then ⟨2,b⟩ :: xE c s t
    else if Lb.zg (a :: s) (b :: t) = true ∧ c.swp + Lb.dist c (s.drop 1) (t.drop 1) = Lb.dist c (a :: s) (b :: t) then ⟨3,0⟩ :: xE c (s.drop 1) (t.drop 1)
    else if c.del + Lb.dist c s (b :: t) = Lb.dist c (a :: s) (b :: t) then ⟨4,0⟩ :: xE c s (b :: t)
    else ⟨5,b⟩ :: xE c (a :: s) t
termination_by s t => s.length + t.length
decreasing_by all_goals (simp;try omega)
def pp (c : Lb.Cst) (a b : ByteArray) (i j : Nat) : List S38:=xE c ((bytesOf a).drop i) ((bytesOf b).drop j)
section
variable (c : Lb.Cst) (a b : ByteArray)
theorem yS : pp c a b a.size b.size = []:=by
  unfold pp;rw [zW _ _ (Nat.le_refl _),zW _ _ (Nat.le_refl _),xE]
theorem JJ (j : Nat) (h : j < b.size) : pp c a b a.size j = ⟨5,bt b j⟩ :: pp c a b a.size (j + 1):=by
  unfold pp;rw [zW _ _ (Nat.le_refl _),jK b j h,xE]
theorem JC (i : Nat) (h : i < a.size) : pp c a b i b.size = ⟨4,0⟩ :: pp c a b (i + 1) b.size:=by
  unfold pp;rw [zW b _ (Nat.le_refl _),jK a i h,xE]
theorem xk (i j : Nat) (h : i < a.size) (h' : j < b.size) : pp c a b i j =
    if bt a i = bt b j ∧ dd c a b (i + 1) (j + 1) = dd c a b i j then ⟨1,0⟩ :: pp c a b (i + 1) (j + 1)
    else if bt a i ≠ bt b j ∧ c.chg + dd c a b (i + 1) (j + 1) = dd c a b i j then ⟨2,bt b j⟩ :: pp c a b (i + 1) (j + 1)
    else if sw a b i j = true ∧ c.swp + dd c a b (i + 2) (j + 2) = dd c a b i j then ⟨3,0⟩ :: pp c a b (i + 2) (j + 2)
    else if c.del + dd c a b (i + 1) j = dd c a b i j then ⟨4,0⟩ :: pp c a b (i + 1) j
    else ⟨5,bt b j⟩ :: pp c a b i (j + 1):=by
  have e : xE c (bt a i :: (bytesOf a).drop (i + 1)) (bt b j :: (bytesOf b).drop (j + 1)) = _:=xE.eq_4 c (bt a i) ((bytesOf a).drop (i + 1)) (bt b j) ((bytesOf b).drop (j + 1))
  rw [List.drop_drop,List.drop_drop,← jK a i h,← jK b j h'] at e
  exact e
end
end Go.Proofs.Ytdefecnngccmoaa.Ed
namespace Go.Proofs.Ytdefecnngccmoaa.Ed
open Go.RowKit Go.Proofs.YtdefecnngccmoaaW.PrintWords QTells
structure PR (w W : World) (mb g gG : Nat) (c : Lb.Cst) (G : List Int) (vout : Value) (acc : List S38) : Prop where
  p : PB w W mb g gG c G
  r : k38.R 38 W w.heap.size (fun _ => True) vout acc
def SBox (W : World) (gb : Nat) (x y n k b : Int) : Prop:=W.heap[gb]? = some (.cells #[.int .i64 x,.int .i64 y,.int .i64 n,.int .u8 k,.int .u8 b] 73 (0,0))
namespace PR
variable {w W W' : World} {mb g gG : Nat} {c : Lb.Cst} {G : List Int} {vout : Value} {acc : List S38}
theorem keep (h : PR w W mb g gG c G vout acc) (hb : Below W.heap.size W W') : PR w W' mb g gG c G vout acc:=⟨h.p.keep hb,Kd.qN h.r hb⟩
theorem alloc (h : PR w W mb g gG c G vout acc) (o : Obj) : PR w (W.alloc o) mb g gG c G vout acc:=h.keep ((Below.refl _ _).alloc (Nat.le_refl _) _)
theorem drew (h : PR w W mb g gG c G vout acc) : PR w W.drew mb g gG c G vout acc:=h.keep (qc (Below.refl _ _) 1)
theorem drewN (h : PR w W mb g gG c G vout acc) (n : Nat) : PR w (W.drewN n) mb g gG c G vout acc:=h.keep (qc (Below.refl _ _) n)
theorem set (h : PR w W mb g gG c G vout acc) {gb : Nat} {x y n k b : Int} (hz : SBox W gb x y n k b) (he : w.heap.size ≤ gb) (j : Nat) (u : Value) : PR w (W.setCell ⟨gb,j,none⟩ u) mb g gG c G vout acc:=by
  have f : ∀ q,q ≠ gb → (W.setCell ⟨gb,j,none⟩ u).heap[q]? = W.heap[q]?:=fun q hq => Below.heap_setCell W _ _ q hq
  have n1 : mb ≠ gb:=by rintro rfl;have:=h.p.fits.1.symm.trans hz;simp at this
  have n2 : g ≠ gb:=xG h.p.fits.2 hz (by decide)
  have n3 : gG ≠ gb:=xG h.p.grid hz (by decide)
  refine ⟨⟨h.p.below.setCell he _,⟨(f _ n1).trans h.p.fits.1,(f _ n2).trans h.p.fits.2⟩,(f _ n3).trans h.p.grid,h.p.len,h.p.eG⟩,?_⟩
  have hr:=Kd.jf h.r
  refine Kd.qO (Kd.kJ (Kd.xB h.r) ?_) (fun _ _ => trivial)
  rintro q ⟨_,_,_,q',hq',cells,hc⟩
  refine f q ?_
  rintro rfl
  have e:=hc.symm.trans hz
  have hE : q' = 38:=by
    rcases List.mem_cons.1 hq' with e|e
    · exact e
    · exact absurd e (List.not_mem_nil (a:=q'))
  subst hE
  simp at e
theorem put5 (h : PR w W mb g gG c G vout acc) {gb : Nat} (hz : SBox W gb 0 0 0 0 0) (he : w.heap.size ≤ gb) (x y n k b : Int) :
    PR w (((((W.setCell ⟨gb,0,none⟩ (.int .i64 x)).setCell ⟨gb,1,none⟩ (.int .i64 y)).setCell ⟨gb,2,none⟩ (.int .i64 n)).setCell ⟨gb,3,none⟩ (.int .u8 k)).setCell ⟨gb,4,none⟩ (.int .u8 b)) mb g gG c G vout acc ∧
    SBox (((((W.setCell ⟨gb,0,none⟩ (.int .i64 x)).setCell ⟨gb,1,none⟩ (.int .i64 y)).setCell ⟨gb,2,none⟩ (.int .i64 n)).setCell ⟨gb,3,none⟩ (.int .u8 k)).setCell ⟨gb,4,none⟩ (.int .u8 b)) gb x y n k b:=by
  have a0 : SBox (W.setCell ⟨gb,0,none⟩ (.int .i64 x)) gb x 0 0 0 0:=(zR hz 0 _).trans rfl
  have a1 : SBox ((W.setCell ⟨gb,0,none⟩ (.int .i64 x)).setCell ⟨gb,1,none⟩ (.int .i64 y)) gb x y 0 0 0:=(zR a0 1 _).trans rfl
  have a2 : SBox (((W.setCell ⟨gb,0,none⟩ (.int .i64 x)).setCell ⟨gb,1,none⟩ (.int .i64 y)).setCell ⟨gb,2,none⟩ (.int .i64 n)) gb x y n 0 0:=(zR a1 2 _).trans rfl
  have a3 : SBox ((((W.setCell ⟨gb,0,none⟩ (.int .i64 x)).setCell ⟨gb,1,none⟩ (.int .i64 y)).setCell ⟨gb,2,none⟩ (.int .i64 n)).setCell ⟨gb,3,none⟩ (.int .u8 k)) gb x y n k 0:=(zR a2 3 _).trans rfl
  exact ⟨((((h.set hz he 0 _).set a0 he 1 _).set a1 he 2 _).set a2 he 3 _).set a3 he 4 _,(zR a3 4 _).trans rfl⟩
end PR
theorem SBox.cells {W : World} {gb : Nat} {x y n k b : Int} (h : SBox W gb x y n k b) : W.cell? ⟨gb,0,none⟩ = some (.int .i64 x) ∧ W.cell? ⟨gb,1,none⟩ = some (.int .i64 y) ∧ W.cell? ⟨gb,2,none⟩ = some (.int .i64 n) ∧ W.cell? ⟨gb,3,none⟩ = some (.int .u8 k) ∧ W.cell? ⟨gb,4,none⟩ = some (.int .u8 b) :=
  ⟨(qi h 0).trans rfl,(qi h 1).trans rfl,(qi h 2).trans rfl,(qi h 3).trans rfl,(qi h 4).trans rfl⟩
theorem Q7 {W : World} {base : Nat} {ok : Nat → Prop} {v : Value} {acc : List S38} {gb : Nat} {x y n k b : Int} (h : k38.R 38 W base ok v acc) (hz : SBox W gb x y n k b) : some gb ≠ v.ownBlock:=by
  intro e
  obtain ⟨cells,hc⟩:=Kd.jf h gb e.symm
  have:=hc.symm.trans hz
  simp at this
end Go.Proofs.Ytdefecnngccmoaa.Ed
namespace Go.Proofs.Ytdefecnngccmoaa.Ed
open Go.RowKit Go.Proofs.YtdefecnngccmoaaW.PrintWords QTells
set_option maxRecDepth 1000000 in
set_option maxHeartbeats 40000000 in
theorem yH (a b : ByteArray) (ha : a.size ≤ 60) (hb : b.size ≤ 60) (c : Lb.Cst) (w : World) (mb g gG i j : Nat) (G : List Int) (vout : Value) (acc : List S38) (hi : (i : Int) ≤ a.size) (hj : (j : Int) ≤ b.size)
    (hno : ∀ W,Box W g c → Calls Try.prog 35 #[.string (a.extract i a.size),.string (b.extract j b.size)] W (vQ W))
    (K : Act → World → Prop) (Q : Exit → Act → World → Prop) (wr : World) (hP : PR w wr mb g gG c G vout acc) (v2 v3 v4 v5 v6 v7 v8 v9 v10 v13 v14 v19 v20 v21 v22 v23 v24 v25 v26 v27 v28 v29 v30 v31 v32 v33 v34 v35 v36 v37 v38 v39 v40 v41 v42 v43 v44 v45 v46 v47 v48 v49 v50 v51 v52 v53 v54 v55 v56 v57 v58 v59 v60 v61 v62 v63 v64 v65 v66 v67 v68 v69 v70 v71 v72 v73 v74 v75 v76 v77 v78 v79 v80 v81 v82 v83 v84 v85 v86 v87 v88 v89 v90 v91 v92 v93 v94 v95 v96 v97 v98 v99 v100 v101 v102 v103 v104 v105 v106 v107 v108 v109 v110 v111 v112 v113 v114 v115 v116 v117 v118 v119 v120 v121 v122 v123 v124 : Value)
    (hK : ∀ (u19 u20 u70 u71 u72 u73 u74 u75 u76 u77 u78 u79 u80 u81 u82 u83 u84 u85 u86 u87 u88 u89 u90 u91 u92 u93 u94 u95 u96 u97 u98 u99 u100 u101 u102 u103 u104 u105 u106 u107 u108 u109 u110 u111 u112 u113 u114 u115 u116 u117 u118 u119 u120 u121 u122 : Value) (W : World),PR w W mb g gG c G vout acc → K ⟨#[.string a,.string b,v2,v3,v4,v5,v6,v7,v8,v9,v10,.map (some mb),.pointer (some ⟨gG,0,none⟩),v13,v14,vout,.int .i64 (i : Int),.int .i64 (j : Int),.int .u8 2,u19,u20,v21,v22,v23,v24,v25,v26,v27,v28,v29,v30,v31,v32,v33,v34,v35,v36,v37,v38,v39,v40,v41,v42,v43,v44,v45,v46,v47,v48,v49,v50,v51,v52,v53,v54,v55,v56,v57,v58,v59,v60,v61,v62,v63,v64,v65,v66,v67,v68,v69,u70,u71,u72,u73,u74,u75,u76,u77,u78,u79,u80,u81,u82,u83,u84,u85,u86,u87,u88,u89,u90,u91,u92,u93,u94,u95,u96,u97,u98,u99,u100,u101,u102,u103,u104,u105,u106,u107,u108,u109,u110,u111,u112,u113,u114,u115,u116,u117,u118,u119,u120,u121,u122,v123,v124],[]⟩ W) :
    (zw Try.f14 3).wp Try.prog (Exit.then K Q) ⟨#[.string a,.string b,v2,v3,v4,v5,v6,v7,v8,v9,v10,.map (some mb),.pointer (some ⟨gG,0,none⟩),v13,v14,vout,.int .i64 (i : Int),.int .i64 (j : Int),.int .u8 1,v19,v20,v21,v22,v23,v24,v25,v26,v27,v28,v29,v30,v31,v32,v33,v34,v35,v36,v37,v38,v39,v40,v41,v42,v43,v44,v45,v46,v47,v48,v49,v50,v51,v52,v53,v54,v55,v56,v57,v58,v59,v60,v61,v62,v63,v64,v65,v66,v67,v68,v69,v70,v71,v72,v73,v74,v75,v76,v77,v78,v79,v80,v81,v82,v83,v84,v85,v86,v87,v88,v89,v90,v91,v92,v93,v94,v95,v96,v97,v98,v99,v100,v101,v102,v103,v104,v105,v106,v107,v108,v109,v110,v111,v112,v113,v114,v115,v116,v117,v118,v119,v120,v121,v122,v123,v124],[]⟩ wr:=by
  have HK:=Lib.hid hK
  clear hK
  have l1:=(qX hP.drew.p.fits).1
  have l2:=(qX (hP.alloc (.cells #[.int .i64 0,.int .i64 0,.int .i64 0,.int .u8 0,.int .u8 0] 73)).drew.p.fits).1
  have b1:=Lib.hid hP.drew.p.fits.2
  have b2:=Lib.hid (hP.alloc (.cells #[.int .i64 0,.int .i64 0,.int .i64 0,.int .u8 0,.int .u8 0] 73)).drew.p.fits.2
  conv => arg 2;whnf
  go_wp2
  refine wp_region_noPanic ?_
  go_region_with (go_at_call 35;first|(refine (hno _ b1.out).mono ?_;rintro e W1 ⟨p1_,p2_,p3_,p4_,p5_,rfl,hb1⟩;have hQ:=hP.drew.keep hb1;try dsimp only [jl])|(refine (hno _ b2.out).mono ?_;rintro e W1 ⟨p1_,p2_,p3_,p4_,p5_,rfl,hb1⟩;have hQ:=(hP.alloc (.cells #[.int .i64 0,.int .i64 0,.int .i64 0,.int .u8 0,.int .u8 0] 73)).drew.keep hb1;have hz:=(hb1.block wr.heap.size (by simp)).trans (jc wr (.cells #[.int .i64 0,.int .i64 0,.int .i64 0,.int .u8 0,.int .u8 0] 73));have y0_:=(qi hz 0).trans rfl;have y1_:=(qi hz 1).trans rfl;have y2_:=(qi hz 2).trans rfl;have y3_:=(qi hz 3).trans rfl;have y4_:=(qi hz 4).trans rfl;have f0_:=ql hz 0;have f1_:=ql hz 1;have f2_:=ql hz 2;have f3_:=ql hz 3;have f4_:=ql hz 4;try dsimp only [jl]))
  all_goals refine NoPanic.normal ?_
  all_goals go_simp
  all_goals
    first
    | (have hR:=hQ.alloc (.cells #[.int .i64 p1_,.int .i64 p2_,.int .i64 p3_,.int .u8 p4_,.int .u8 p5_] 73)
       have hS : SBox (W1.alloc (.cells #[.int .i64 p1_,.int .i64 p2_,.int .i64 p3_,.int .u8 p4_,.int .u8 p5_] 73)) W1.heap.size p1_ p2_ p3_ p4_ p5_:=jc _ _
       clear hQ hb1 l1 l2 b1 b2
       revert hR hS
       generalize W1.alloc (.cells #[.int .i64 p1_,.int .i64 p2_,.int .i64 p3_,.int .u8 p4_,.int .u8 p5_] 73) = W2
       generalize W1.heap.size = gb
       fail_if_success (have:=hz)
       intro hR hS)
    | (obtain ⟨hR,hS⟩:=hQ.put5 hz hP.p.below.size p1_ p2_ p3_ p4_ p5_
       clear y0_ y1_ y2_ y3_ y4_ f0_ f1_ f2_ f3_ f4_ hz hQ hb1 l1 l2 b1 b2
       revert hR hS
       generalize ((((W1.setCell ⟨wr.heap.size,0,none⟩ (.int .i64 p1_)).setCell ⟨wr.heap.size,1,none⟩ (.int .i64 p2_)).setCell ⟨wr.heap.size,2,none⟩ (.int .i64 p3_)).setCell ⟨wr.heap.size,3,none⟩ (.int .u8 p4_)).setCell ⟨wr.heap.size,4,none⟩ (.int .u8 p5_) = W2
       generalize wr.heap.size = gb
       intro hR hS)
  all_goals
    go_wp2
    go_quiet (fail)
    go_wp2
    exact HK.out _ _ _ _ _ _ _ _ _ _ _ _ _ _ _ _ _ _ _ _ _ _ _ _ _ _ _ _ _ _ _ _ _ _ _ _ _ _ _ _ _ _ _ _ _ _ _ _ _ _ _ _ _ _ _ _ (hR.drewN _)
end Go.Proofs.Ytdefecnngccmoaa.Ed
