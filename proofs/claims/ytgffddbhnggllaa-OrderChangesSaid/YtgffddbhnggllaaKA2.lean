/- A part of the texts of one claim: the walk of the code by hand-proved contracts, and the plain law. -/
import Derived.Below
import Derived.Deep.Draws
import Derived.Deep.AppendLies
import Derived.Maps.AppendAt
import Derived.OwnWalk
import Derived.Laws.BytesArg
import Derived.Laws.MakeOwn
import Derived.Laws.OwnMore
import Derived.Deep.OwnRows
import Derived.Tactics
import Derived.Lib.ConvBytes
import Derived.Laws.Slices
import Derived.WalkKit
import Derived.KernelRfl
import Derived.RowKit3
import Derived.Deep.LoopGhost
import Derived.Deep.QuietTactic
import Derived.BigQuiet
import Derived.WideLaws
import Derived.Deep.DeepCutAuto
import Derived.Deep.CutBlock
import Derived.Deep.RegionHeld3
import Derived.Laws.Rows
import Derived.Lib.AppendStr
import Derived.ArgAppend
import Derived.Laws.IdiomCopy
import Derived.OrdersHeld
import Derived.Laws.BitsLemmas
import Derived.RowKit
import Derived.Test.YtgffddbhnggllaaProg
import Derived.MapKept
import Derived.RangeFuncRecord
import Derived.LoopN
import Derived.Lib.Hide
import Derived.Deep.RegionWith
import Derived.Lib.SliceRun
import Derived.Shelf.Abstract
import Derived.Laws.AppendOwn
import Derived.Lib.QuietBelow
import Derived.Shelf.RegionOpen
import Derived.Shelf.RegionOpenPlain
import Derived.Sort.AssemblyPlain
import Derived.Test.YtgffddbhnggllaaKA1
set_option linter.unusedVariables false
set_option linter.unusedSimpArgs false
namespace Go.Proofs.Ytgffddbhnggllaa.QF
open Go.RowKit Go.Proofs.YtgffddbhnggllaaW.PrintWords Go.Proofs.YtgffddbhnggllaaW.PrintLast Go.Proofs.YtgffddbhnggllaaW.PrintMore
attribute [local go_sem] max2_int min2_int max_two min_two max_three min_three max_four min_four
set_option linter.unusedVariables false
set_option linter.unusedSimpArgs false
def errW : Option Int → Value
 | none => .nilIface
 | some c => .iface 0 (.int .i64 c)
theorem errW_none : errW none = .nilIface := rfl
theorem errW_some (c : Int) : errW (some c) = .iface 0 (.int .i64 c) := rfl
theorem info3 : (Try.prog.info? 3).map (fun i => (i.zero, i.size, i.bytes)) = some (some (.int .i64 0), 1, 8) := by kernel_rfl
theorem info41 : (Try.prog.info? 41).map (fun i => (i.zero, i.size, i.bytes)) = some (some (.agg #[(.int .i64 0), (.int .i64 0), (.int .i64 0), (.int .i64 0), (.int .i64 0), (.int .u8 0)]), 6, 48) := by kernel_rfl
theorem info53 : (Try.prog.info? 53).map (fun i => (i.zero, i.size, i.bytes)) = some (some (.agg #[(.int .i64 0), (.int .i64 0), (.int .i64 0)]), 3, 24) := by kernel_rfl
theorem info54 : (Try.prog.info? 54).map (fun i => (i.zero, i.size, i.bytes)) = some (some (.agg #[(.int .i64 0), (.int .i64 0), (.int .i64 0)]), 3, 24) := by kernel_rfl
theorem info72 : (Try.prog.info? 72).map (fun i => (i.zero, i.size, i.bytes)) = some (some (.agg #[(.int .u8 0), (.int .u8 0), (.int .u8 0), (.int .u8 0), (.int .u8 0)]), 5, 5) := by kernel_rfl
structure S41 where
 f0 : Int
 f1 : Int
 f2 : Int
 f3 : Int
 f4 : Int
 f5 : Int
def z41 : S41 := ⟨(0 : Int), (0 : Int), (0 : Int), (0 : Int), (0 : Int), (0 : Int)⟩
def k41 : Kd S41 := Kd.iso (Kd.pair (Kd.int .i64) (Kd.pair (Kd.int .i64) (Kd.pair (Kd.int .i64) (Kd.pair (Kd.int .i64) (Kd.pair (Kd.int .i64) (Kd.int .u8)))))) (fun x : S41 => (x.f0, x.f1, x.f2, x.f3, x.f4, x.f5))
theorem k41_open {w : World} {x : S41} {cs : List Value} (h : k41.K w x cs) : cs = [.int .i64 x.f0, .int .i64 x.f1, .int .i64 x.f2, .int .i64 x.f3, .int .i64 x.f4, .int .u8 x.f5] := by
 obtain ⟨_, _, rfl, rfl, ⟨_, _, rfl, rfl, ⟨_, _, rfl, rfl, ⟨_, _, rfl, rfl, ⟨_, _, rfl, rfl, rfl⟩⟩⟩⟩⟩ := h
 exact rfl
theorem k41_openM {w : World} {base : Nat} {ok : Nat → Prop} {x : S41} {cs : List Value} (h : k41.M w base ok x cs) : cs = [.int .i64 x.f0, .int .i64 x.f1, .int .i64 x.f2, .int .i64 x.f3, .int .i64 x.f4, .int .u8 x.f5] := by
 obtain ⟨_, _, rfl, rfl, ⟨_, _, rfl, rfl, ⟨_, _, rfl, rfl, ⟨_, _, rfl, rfl, ⟨_, _, rfl, rfl, rfl⟩⟩⟩⟩⟩ := h
 exact rfl
theorem k41_mk (w : World) (x : S41)  : k41.K w x [.int .i64 x.f0, .int .i64 x.f1, .int .i64 x.f2, .int .i64 x.f3, .int .i64 x.f4, .int .u8 x.f5] := ⟨[.int .i64 x.f0], [.int .i64 x.f1, .int .i64 x.f2, .int .i64 x.f3, .int .i64 x.f4, .int .u8 x.f5], rfl, rfl, ⟨[.int .i64 x.f1], [.int .i64 x.f2, .int .i64 x.f3, .int .i64 x.f4, .int .u8 x.f5], rfl, rfl, ⟨[.int .i64 x.f2], [.int .i64 x.f3, .int .i64 x.f4, .int .u8 x.f5], rfl, rfl, ⟨[.int .i64 x.f3], [.int .i64 x.f4, .int .u8 x.f5], rfl, rfl, ⟨[.int .i64 x.f4], [.int .u8 x.f5], rfl, rfl, rfl⟩⟩⟩⟩⟩
theorem k41_mkM (w : World) (base : Nat) (ok : Nat → Prop) (x : S41)  : k41.M w base ok x [.int .i64 x.f0, .int .i64 x.f1, .int .i64 x.f2, .int .i64 x.f3, .int .i64 x.f4, .int .u8 x.f5] := ⟨[.int .i64 x.f0], [.int .i64 x.f1, .int .i64 x.f2, .int .i64 x.f3, .int .i64 x.f4, .int .u8 x.f5], rfl, rfl, ⟨[.int .i64 x.f1], [.int .i64 x.f2, .int .i64 x.f3, .int .i64 x.f4, .int .u8 x.f5], rfl, rfl, ⟨[.int .i64 x.f2], [.int .i64 x.f3, .int .i64 x.f4, .int .u8 x.f5], rfl, rfl, ⟨[.int .i64 x.f3], [.int .i64 x.f4, .int .u8 x.f5], rfl, rfl, ⟨[.int .i64 x.f4], [.int .u8 x.f5], rfl, rfl, rfl⟩⟩⟩⟩⟩
def rd_T41 (xs : List S41) (i : Int) : S41 := xs.getD i.toNat z41
theorem at_T41 {w : World} {A : Option Addr} {n : Nat} {xs : List S41} (h : Kd.C k41 w A n xs) (i : Int) (h0 : 0 ≤ i) (h1 : i < n) : ∃ ad , A = some ad ∧ w.cell? (ad.add (i.toNat * 6)) = some (.int .i64 (rd_T41 xs i).f0) ∧ w.cell? ⟨(ad.add (i.toNat * 6)).block, (ad.add (i.toNat * 6)).off + 1, none⟩ = some (.int .i64 (rd_T41 xs i).f1) ∧ w.cell? ⟨(ad.add (i.toNat * 6)).block, (ad.add (i.toNat * 6)).off + 2, none⟩ = some (.int .i64 (rd_T41 xs i).f2) ∧ w.cell? ⟨(ad.add (i.toNat * 6)).block, (ad.add (i.toNat * 6)).off + 3, none⟩ = some (.int .i64 (rd_T41 xs i).f3) ∧ w.cell? ⟨(ad.add (i.toNat * 6)).block, (ad.add (i.toNat * 6)).off + 4, none⟩ = some (.int .i64 (rd_T41 xs i).f4) ∧ w.cell? ⟨(ad.add (i.toNat * 6)).block, (ad.add (i.toNat * 6)).off + 5, none⟩ = some (.int .u8 (rd_T41 xs i).f5) := by
 obtain ⟨ad, c, e, _, hK, hc0⟩ := Kd.C_get h z41 i h0 h1
 have hc : ∀ j u, c[j]? = some u → w.cell? (ad.add (i.toNat * 6 + j)) = some u := hc0
 obtain rfl := k41_open hK
 exact ⟨ad, e, hc 0 _ rfl, by rw [← add_field _ _ 1 (by omega)]; exact hc 1 _ rfl, by rw [← add_field _ _ 2 (by omega)]; exact hc 2 _ rfl, by rw [← add_field _ _ 3 (by omega)]; exact hc 3 _ rfl, by rw [← add_field _ _ 4 (by omega)]; exact hc 4 _ rfl, by rw [← add_field _ _ 5 (by omega)]; exact hc 5 _ rfl⟩
def rd_L3 (xs : List (List S41)) (i : Int) : (List S41) := xs.getD i.toNat ([] : List S41)
theorem at_L3 {w : World} {A : Option Addr} {n : Nat} {xs : List (List S41)} (h : Kd.C (Kd.slice 41 k41) w A n xs) (i : Int) (h0 : 0 ≤ i) (h1 : i < n) : ∃ ad A0 c0, A = some ad ∧ w.cell? (ad.add i.toNat) = some (.slice A0 (rd_L3 xs i).length c0) ∧ (rd_L3 xs i).length ≤ c0 ∧ k41.C w A0 (rd_L3 xs i).length (rd_L3 xs i) := by
 obtain ⟨ad, c, e, _, hK, hc0⟩ := Kd.C_get h ([] : List S41) i h0 h1
 have hc : ∀ j u, c[j]? = some u → w.cell? (ad.add (i.toNat * 1 + j)) = some u := hc0
 obtain ⟨A0, c0, rfl, l0, g0⟩ := hK
 exact ⟨ad, A0, c0, e, by have hq := hc 0 _ rfl; rwa [Nat.mul_one, Nat.add_zero] at hq, l0, g0⟩
structure S54 where
 f0 : Int
 f1 : Int
 f2 : Int
def z54 : S54 := ⟨(0 : Int), (0 : Int), (0 : Int)⟩
def k54 : Kd S54 := Kd.iso (Kd.pair (Kd.int .i64) (Kd.pair (Kd.int .i64) (Kd.int .i64))) (fun x : S54 => (x.f0, x.f1, x.f2))
theorem k54_open {w : World} {x : S54} {cs : List Value} (h : k54.K w x cs) : cs = [.int .i64 x.f0, .int .i64 x.f1, .int .i64 x.f2] := by
 obtain ⟨_, _, rfl, rfl, ⟨_, _, rfl, rfl, rfl⟩⟩ := h
 exact rfl
theorem k54_openM {w : World} {base : Nat} {ok : Nat → Prop} {x : S54} {cs : List Value} (h : k54.M w base ok x cs) : cs = [.int .i64 x.f0, .int .i64 x.f1, .int .i64 x.f2] := by
 obtain ⟨_, _, rfl, rfl, ⟨_, _, rfl, rfl, rfl⟩⟩ := h
 exact rfl
theorem k54_mk (w : World) (x : S54)  : k54.K w x [.int .i64 x.f0, .int .i64 x.f1, .int .i64 x.f2] := ⟨[.int .i64 x.f0], [.int .i64 x.f1, .int .i64 x.f2], rfl, rfl, ⟨[.int .i64 x.f1], [.int .i64 x.f2], rfl, rfl, rfl⟩⟩
theorem k54_mkM (w : World) (base : Nat) (ok : Nat → Prop) (x : S54)  : k54.M w base ok x [.int .i64 x.f0, .int .i64 x.f1, .int .i64 x.f2] := ⟨[.int .i64 x.f0], [.int .i64 x.f1, .int .i64 x.f2], rfl, rfl, ⟨[.int .i64 x.f1], [.int .i64 x.f2], rfl, rfl, rfl⟩⟩
def rd_T54 (xs : List S54) (i : Int) : S54 := xs.getD i.toNat z54
theorem at_T54 {w : World} {A : Option Addr} {n : Nat} {xs : List S54} (h : Kd.C k54 w A n xs) (i : Int) (h0 : 0 ≤ i) (h1 : i < n) : ∃ ad , A = some ad ∧ w.cell? (ad.add (i.toNat * 3)) = some (.int .i64 (rd_T54 xs i).f0) ∧ w.cell? ⟨(ad.add (i.toNat * 3)).block, (ad.add (i.toNat * 3)).off + 1, none⟩ = some (.int .i64 (rd_T54 xs i).f1) ∧ w.cell? ⟨(ad.add (i.toNat * 3)).block, (ad.add (i.toNat * 3)).off + 2, none⟩ = some (.int .i64 (rd_T54 xs i).f2) := by
 obtain ⟨ad, c, e, _, hK, hc0⟩ := Kd.C_get h z54 i h0 h1
 have hc : ∀ j u, c[j]? = some u → w.cell? (ad.add (i.toNat * 3 + j)) = some u := hc0
 obtain rfl := k54_open hK
 exact ⟨ad, e, hc 0 _ rfl, by rw [← add_field _ _ 1 (by omega)]; exact hc 1 _ rfl, by rw [← add_field _ _ 2 (by omega)]; exact hc 2 _ rfl⟩
def rd_L5 (xs : List (List S54)) (i : Int) : (List S54) := xs.getD i.toNat ([] : List S54)
theorem at_L5 {w : World} {A : Option Addr} {n : Nat} {xs : List (List S54)} (h : Kd.C (Kd.slice 54 k54) w A n xs) (i : Int) (h0 : 0 ≤ i) (h1 : i < n) : ∃ ad A0 c0, A = some ad ∧ w.cell? (ad.add i.toNat) = some (.slice A0 (rd_L5 xs i).length c0) ∧ (rd_L5 xs i).length ≤ c0 ∧ k54.C w A0 (rd_L5 xs i).length (rd_L5 xs i) := by
 obtain ⟨ad, c, e, _, hK, hc0⟩ := Kd.C_get h ([] : List S54) i h0 h1
 have hc : ∀ j u, c[j]? = some u → w.cell? (ad.add (i.toNat * 1 + j)) = some u := hc0
 obtain ⟨A0, c0, rfl, l0, g0⟩ := hK
 exact ⟨ad, A0, c0, e, by have hq := hc 0 _ rfl; rwa [Nat.mul_one, Nat.add_zero] at hq, l0, g0⟩
structure S53 where
 f0 : Int
 f1 : Int
 f2 : Int
def z53 : S53 := ⟨(0 : Int), (0 : Int), (0 : Int)⟩
def k53 : Kd S53 := Kd.iso (Kd.pair (Kd.int .i64) (Kd.pair (Kd.int .i64) (Kd.int .i64))) (fun x : S53 => (x.f0, x.f1, x.f2))
theorem k53_open {w : World} {x : S53} {cs : List Value} (h : k53.K w x cs) : cs = [.int .i64 x.f0, .int .i64 x.f1, .int .i64 x.f2] := by
 obtain ⟨_, _, rfl, rfl, ⟨_, _, rfl, rfl, rfl⟩⟩ := h
 exact rfl
theorem k53_openM {w : World} {base : Nat} {ok : Nat → Prop} {x : S53} {cs : List Value} (h : k53.M w base ok x cs) : cs = [.int .i64 x.f0, .int .i64 x.f1, .int .i64 x.f2] := by
 obtain ⟨_, _, rfl, rfl, ⟨_, _, rfl, rfl, rfl⟩⟩ := h
 exact rfl
theorem k53_mk (w : World) (x : S53)  : k53.K w x [.int .i64 x.f0, .int .i64 x.f1, .int .i64 x.f2] := ⟨[.int .i64 x.f0], [.int .i64 x.f1, .int .i64 x.f2], rfl, rfl, ⟨[.int .i64 x.f1], [.int .i64 x.f2], rfl, rfl, rfl⟩⟩
theorem k53_mkM (w : World) (base : Nat) (ok : Nat → Prop) (x : S53)  : k53.M w base ok x [.int .i64 x.f0, .int .i64 x.f1, .int .i64 x.f2] := ⟨[.int .i64 x.f0], [.int .i64 x.f1, .int .i64 x.f2], rfl, rfl, ⟨[.int .i64 x.f1], [.int .i64 x.f2], rfl, rfl, rfl⟩⟩
def rd_T53 (xs : List S53) (i : Int) : S53 := xs.getD i.toNat z53
theorem at_T53 {w : World} {A : Option Addr} {n : Nat} {xs : List S53} (h : Kd.C k53 w A n xs) (i : Int) (h0 : 0 ≤ i) (h1 : i < n) : ∃ ad , A = some ad ∧ w.cell? (ad.add (i.toNat * 3)) = some (.int .i64 (rd_T53 xs i).f0) ∧ w.cell? ⟨(ad.add (i.toNat * 3)).block, (ad.add (i.toNat * 3)).off + 1, none⟩ = some (.int .i64 (rd_T53 xs i).f1) ∧ w.cell? ⟨(ad.add (i.toNat * 3)).block, (ad.add (i.toNat * 3)).off + 2, none⟩ = some (.int .i64 (rd_T53 xs i).f2) := by
 obtain ⟨ad, c, e, _, hK, hc0⟩ := Kd.C_get h z53 i h0 h1
 have hc : ∀ j u, c[j]? = some u → w.cell? (ad.add (i.toNat * 3 + j)) = some u := hc0
 obtain rfl := k53_open hK
 exact ⟨ad, e, hc 0 _ rfl, by rw [← add_field _ _ 1 (by omega)]; exact hc 1 _ rfl, by rw [← add_field _ _ 2 (by omega)]; exact hc 2 _ rfl⟩
structure S72 where
 f0 : Int
 f1 : Int
 f2 : Int
 f3 : Int
 f4 : Int
def z72 : S72 := ⟨(0 : Int), (0 : Int), (0 : Int), (0 : Int), (0 : Int)⟩
def k72 : Kd S72 := Kd.iso (Kd.pair (Kd.int .u8) (Kd.pair (Kd.int .u8) (Kd.pair (Kd.int .u8) (Kd.pair (Kd.int .u8) (Kd.int .u8))))) (fun x : S72 => (x.f0, x.f1, x.f2, x.f3, x.f4))
theorem k72_open {w : World} {x : S72} {cs : List Value} (h : k72.K w x cs) : cs = [.int .u8 x.f0, .int .u8 x.f1, .int .u8 x.f2, .int .u8 x.f3, .int .u8 x.f4] := by
 obtain ⟨_, _, rfl, rfl, ⟨_, _, rfl, rfl, ⟨_, _, rfl, rfl, ⟨_, _, rfl, rfl, rfl⟩⟩⟩⟩ := h
 exact rfl
theorem k72_openM {w : World} {base : Nat} {ok : Nat → Prop} {x : S72} {cs : List Value} (h : k72.M w base ok x cs) : cs = [.int .u8 x.f0, .int .u8 x.f1, .int .u8 x.f2, .int .u8 x.f3, .int .u8 x.f4] := by
 obtain ⟨_, _, rfl, rfl, ⟨_, _, rfl, rfl, ⟨_, _, rfl, rfl, ⟨_, _, rfl, rfl, rfl⟩⟩⟩⟩ := h
 exact rfl
theorem k72_mk (w : World) (x : S72)  : k72.K w x [.int .u8 x.f0, .int .u8 x.f1, .int .u8 x.f2, .int .u8 x.f3, .int .u8 x.f4] := ⟨[.int .u8 x.f0], [.int .u8 x.f1, .int .u8 x.f2, .int .u8 x.f3, .int .u8 x.f4], rfl, rfl, ⟨[.int .u8 x.f1], [.int .u8 x.f2, .int .u8 x.f3, .int .u8 x.f4], rfl, rfl, ⟨[.int .u8 x.f2], [.int .u8 x.f3, .int .u8 x.f4], rfl, rfl, ⟨[.int .u8 x.f3], [.int .u8 x.f4], rfl, rfl, rfl⟩⟩⟩⟩
theorem k72_mkM (w : World) (base : Nat) (ok : Nat → Prop) (x : S72)  : k72.M w base ok x [.int .u8 x.f0, .int .u8 x.f1, .int .u8 x.f2, .int .u8 x.f3, .int .u8 x.f4] := ⟨[.int .u8 x.f0], [.int .u8 x.f1, .int .u8 x.f2, .int .u8 x.f3, .int .u8 x.f4], rfl, rfl, ⟨[.int .u8 x.f1], [.int .u8 x.f2, .int .u8 x.f3, .int .u8 x.f4], rfl, rfl, ⟨[.int .u8 x.f2], [.int .u8 x.f3, .int .u8 x.f4], rfl, rfl, ⟨[.int .u8 x.f3], [.int .u8 x.f4], rfl, rfl, rfl⟩⟩⟩⟩
def rd_T72 (xs : List S72) (i : Int) : S72 := xs.getD i.toNat z72
theorem at_T72 {w : World} {A : Option Addr} {n : Nat} {xs : List S72} (h : Kd.C k72 w A n xs) (i : Int) (h0 : 0 ≤ i) (h1 : i < n) : ∃ ad , A = some ad ∧ w.cell? (ad.add (i.toNat * 5)) = some (.int .u8 (rd_T72 xs i).f0) ∧ w.cell? ⟨(ad.add (i.toNat * 5)).block, (ad.add (i.toNat * 5)).off + 1, none⟩ = some (.int .u8 (rd_T72 xs i).f1) ∧ w.cell? ⟨(ad.add (i.toNat * 5)).block, (ad.add (i.toNat * 5)).off + 2, none⟩ = some (.int .u8 (rd_T72 xs i).f2) ∧ w.cell? ⟨(ad.add (i.toNat * 5)).block, (ad.add (i.toNat * 5)).off + 3, none⟩ = some (.int .u8 (rd_T72 xs i).f3) ∧ w.cell? ⟨(ad.add (i.toNat * 5)).block, (ad.add (i.toNat * 5)).off + 4, none⟩ = some (.int .u8 (rd_T72 xs i).f4) := by
 obtain ⟨ad, c, e, _, hK, hc0⟩ := Kd.C_get h z72 i h0 h1
 have hc : ∀ j u, c[j]? = some u → w.cell? (ad.add (i.toNat * 5 + j)) = some u := hc0
 obtain rfl := k72_open hK
 exact ⟨ad, e, hc 0 _ rfl, by rw [← add_field _ _ 1 (by omega)]; exact hc 1 _ rfl, by rw [← add_field _ _ 2 (by omega)]; exact hc 2 _ rfl, by rw [← add_field _ _ 3 (by omega)]; exact hc 3 _ rfl, by rw [← add_field _ _ 4 (by omega)]; exact hc 4 _ rfl⟩
end Go.Proofs.Ytgffddbhnggllaa.QF
namespace Go.Proofs.Ytgffddbhnggllaa.QF
open Go.RowKit Go.Proofs.YtgffddbhnggllaaW.PrintWords Go.Proofs.YtgffddbhnggllaaW.PrintLast Go.Proofs.YtgffddbhnggllaaW.PrintMore
attribute [local go_sem] max2_int min2_int max_two min_two max_three min_three max_four min_four
set_option linter.unusedVariables false
set_option linter.unusedSimpArgs false
mutual
def letterbaglaw35_Built.l0 : Nat → List (S41) → List (S72) → Int → Int → Option ((List (S41)))
 | 0, _, _, _, _ => none
 | k + 1, x3, x11, x12, x13 => if x13 < x12 then (if 0 ≤ x13 then (if x13 < (x11.length : Int) then (if (wrap64 (1 + (Int.tmod (wrap64 ((rd_T72 x11 x13).f2)) 5))) = (wrap64 (1 + (Int.tmod (wrap64 ((rd_T72 x11 x13).f1)) 5))) then (letterbaglaw35_Built.j1 k x3 x11 x12 x13 ((rd_T72 x11 x13).f0) ((rd_T72 x11 x13).f1) ((rd_T72 x11 x13).f2) ((rd_T72 x11 x13).f3) ((rd_T72 x11 x13).f4) (wrap64 (1 + (Int.tmod (wrap64 ((wrap64 (7 * x13)) + 3)) 20))) (wrap64 (1 + (Int.tmod (wrap64 ((rd_T72 x11 x13).f1)) 5))) 6 (Int.tmod (wrap64 ((rd_T72 x11 x13).f3)) 80) 0 ((1 + (Int.tmod ((rd_T72 x11 x13).f0) 3)) % 256)) else (letterbaglaw35_Built.j1 k x3 x11 x12 x13 ((rd_T72 x11 x13).f0) ((rd_T72 x11 x13).f1) ((rd_T72 x11 x13).f2) ((rd_T72 x11 x13).f3) ((rd_T72 x11 x13).f4) (wrap64 (1 + (Int.tmod (wrap64 ((wrap64 (7 * x13)) + 3)) 20))) (wrap64 (1 + (Int.tmod (wrap64 ((rd_T72 x11 x13).f1)) 5))) (wrap64 (1 + (Int.tmod (wrap64 ((rd_T72 x11 x13).f2)) 5))) (Int.tmod (wrap64 ((rd_T72 x11 x13).f3)) 80) 0 ((1 + (Int.tmod ((rd_T72 x11 x13).f0) 3)) % 256))) else (none)) else (none)) else (some x3)
def letterbaglaw35_Built.j1 : Nat → List (S41) → List (S72) → Int → Int → Int → Int → Int → Int → Int → Int → Int → Int → Int → Int → Int → Option ((List (S41)))
 | 0, _, _, _, _, _, _, _, _, _, _, _, _, _, _, _ => none
 | k + 1, x3, x11, x12, x13, x305000, x305001, x305002, x305003, x305004, x306000, x306001, x306002, x306003, x306004, x306005 => if x306005 = 1 then (if x306005 = 3 then (if x3.length < 2932031007402 then (letterbaglaw35_Built.l0 k (x3 ++ [(⟨x306000, x306001, 0, x306003, x306004, x306005⟩ : S41)]) x11 x12 (wrap64 (x13 + 1))) else (none)) else (if x3.length < 2932031007402 then (letterbaglaw35_Built.l0 k (x3 ++ [(⟨x306000, x306001, x306002, x306003, x306004, x306005⟩ : S41)]) x11 x12 (wrap64 (x13 + 1))) else (none))) else (if x306005 = 3 then (if x3.length < 2932031007402 then (letterbaglaw35_Built.l0 k (x3 ++ [(⟨x306000, x306001, 0, x306003, wrap64 (x306003 + (Int.tmod (wrap64 (x305004)) 20)), x306005⟩ : S41)]) x11 x12 (wrap64 (x13 + 1))) else (none)) else (if x3.length < 2932031007402 then (letterbaglaw35_Built.l0 k (x3 ++ [(⟨x306000, x306001, x306002, x306003, wrap64 (x306003 + (Int.tmod (wrap64 (x305004)) 20)), x306005⟩ : S41)]) x11 x12 (wrap64 (x13 + 1))) else (none)))
end
def letterbaglaw35_Built.f (k : Nat) (l0 : List (S72)) : Option ((List (S41))) := if 0 ≤ (mn (l0.length : Int) 20) then (if (mn (l0.length : Int) 20) ≤ (l0.length : Int) then ((some (l0.take ((mn (l0.length : Int) 20) : Int).toNat : List (S72))).bind fun y299 => (letterbaglaw35_Built.l0 k ([] : List (S41)) y299 (y299.length : Int) 0)) else (none)) else (none)
theorem letterbaglaw35_Built.mono_l : ∀ k, (∀ y0 y1 y2 y3, LeO (letterbaglaw35_Built.l0 k y0 y1 y2 y3) (letterbaglaw35_Built.l0 (k + 1) y0 y1 y2 y3)) ∧ (∀ y0 y1 y2 y3 y4 y5 y6 y7 y8 y9 y10 y11 y12 y13 y14, LeO (letterbaglaw35_Built.j1 k y0 y1 y2 y3 y4 y5 y6 y7 y8 y9 y10 y11 y12 y13 y14) (letterbaglaw35_Built.j1 (k + 1) y0 y1 y2 y3 y4 y5 y6 y7 y8 y9 y10 y11 y12 y13 y14))
 | 0 => ⟨fun _ _ _ _ r h => by simp [letterbaglaw35_Built.l0] at h, fun _ _ _ _ _ _ _ _ _ _ _ _ _ _ _ r h => by simp [letterbaglaw35_Built.j1] at h⟩
 | k + 1 => by
  obtain ⟨ih0, ih1⟩ := letterbaglaw35_Built.mono_l k
  refine ⟨?_, ?_⟩
  ·intro y0 y1 y2 y3
   unfold letterbaglaw35_Built.l0
   repeat' first
   | (with_reducible exact ih0 _ _ _ _)
   | (with_reducible exact ih1 _ _ _ _ _ _ _ _ _ _ _ _ _ _ _)
   | (with_reducible exact LeO.refl _)
   | (with_reducible exact LeO.none _)
   | (with_reducible refine LeO.ite ?_ ?_)
   | (with_reducible refine LeO.bind ?_ (fun _ => ?_))
   | exact ih0 _ _ _ _
   | exact ih1 _ _ _ _ _ _ _ _ _ _ _ _ _ _ _
   | exact LeO.none _
   | refine LeO.ite ?_ ?_
   | refine LeO.bind ?_ (fun _ => ?_)
  ·intro y0 y1 y2 y3 y4 y5 y6 y7 y8 y9 y10 y11 y12 y13 y14
   unfold letterbaglaw35_Built.j1
   repeat' first
   | (with_reducible exact ih0 _ _ _ _)
   | (with_reducible exact ih1 _ _ _ _ _ _ _ _ _ _ _ _ _ _ _)
   | (with_reducible exact LeO.refl _)
   | (with_reducible exact LeO.none _)
   | (with_reducible refine LeO.ite ?_ ?_)
   | (with_reducible refine LeO.bind ?_ (fun _ => ?_))
   | exact ih0 _ _ _ _
   | exact ih1 _ _ _ _ _ _ _ _ _ _ _ _ _ _ _
   | exact LeO.none _
   | refine LeO.ite ?_ ?_
   | refine LeO.bind ?_ (fun _ => ?_)
theorem letterbaglaw35_Built.mono : ∀ a0 k, LeO (letterbaglaw35_Built.f k a0) (letterbaglaw35_Built.f (k + 1) a0) := by
 intro a0 k
 obtain ⟨ih0, ih1⟩ := letterbaglaw35_Built.mono_l k
 unfold letterbaglaw35_Built.f
 repeat' first
   | (with_reducible exact ih0 _ _ _ _)
   | (with_reducible exact ih1 _ _ _ _ _ _ _ _ _ _ _ _ _ _ _)
   | (with_reducible exact LeO.refl _)
   | (with_reducible exact LeO.none _)
   | (with_reducible refine LeO.ite ?_ ?_)
   | (with_reducible refine LeO.bind ?_ (fun _ => ?_))
   | exact ih0 _ _ _ _
   | exact ih1 _ _ _ _ _ _ _ _ _ _ _ _ _ _ _
   | exact LeO.none _
   | refine LeO.ite ?_ ?_
   | refine LeO.bind ?_ (fun _ => ?_)
set_option maxHeartbeats 8000000 in
set_option maxRecDepth 100000 in
theorem letterbaglaw35_Built.calls (k : Nat) (A0 : Option Addr) (c0 : Nat) (l0 : List (S72)) (r : List (S41)) (w : World) (hr0 : Kd.C k72 w A0 l0.length l0) (hc0 : l0.length ≤ c0) (h : letterbaglaw35_Built.f k l0 = some r) :
  Calls Try.prog 19 #[.slice A0 l0.length c0] w fun e w' => ∃ v0_ : Value, e = .returned (v0_) ∧ Kd.R k41 41 w' w.heap.size (fun _ => True) v0_ r ∧ Below w.heap.size w w' := by
 have hu72 := Try.underlying72
 have hu41 := Try.underlying41
 have HR0 := Aside0.mk hr0
 have HC0 := Aside0.mk hc0
 clear hr0 hc0
 have HB := Aside0.mk (Below.refl w.heap.size w)
 have H : (if 0 ≤ (mn (l0.length : Int) 20) then (if (mn (l0.length : Int) 20) ≤ (l0.length : Int) then ((some (l0.take ((mn (l0.length : Int) 20) : Int).toNat : List (S72))).bind fun y299 => (letterbaglaw35_Built.l0 k ([] : List (S41)) y299 (y299.length : Int) 0)) else (none)) else (none)) = some r := h
 clear h
 obtain ⟨ji2, hji2⟩ : ∃ j_ : Int, (mn (l0.length : Int) 20) = j_ := ⟨_, rfl⟩
 replace H : (if 0 ≤ (ji2) then (if (ji2) ≤ (l0.length : Int) then ((some (l0.take ((ji2) : Int).toNat : List (S72))).bind fun y299 => (letterbaglaw35_Built.l0 k ([] : List (S41)) y299 (y299.length : Int) 0)) else (none)) else (none)) = some r := by first | (rw [hji2] at H; exact H) | (simp only [hji2] at H ⊢; exact H)
 (try (have hji2h : ji2 ≤ 20 := by (rw [← hji2]; unfold mn; (repeat' split) <;> omega)))
 (try (have hji2g : ji2 ≤ 64 := by omega))
 (try (have hji2l : 0 ≤ ji2 := by (rw [← hji2]; unfold mn; (repeat' split) <;> omega)))
 (try (have hji2m : 0 ≤ ji2 := by omega))
 have hji2_ : (if 20 < (l0.length : Int) then 20 else (l0.length : Int)) = ji2 := hji2
 by_cases c3 : 0 ≤ (ji2)
 ·rw [if_pos c3] at H
  have c3b0 := eq_true c3
  have c3b1 : decide (0 ≤ (ji2)) = true := decide_eq_true c3
  clear c3
  by_cases c4 : (ji2) ≤ (l0.length : Int)
  ·rw [if_pos c4] at H
   have c4b0 := eq_true c4
   have c4b1 : decide ((ji2) ≤ (l0.length : Int)) = true := decide_eq_true c4
   clear c4
   obtain ⟨y299, hy299⟩ : ∃ y_ : List (S72), y_ = (l0.take ((ji2) : Int).toNat) := ⟨_, rfl⟩
   replace H : (letterbaglaw35_Built.l0 k ([] : List (S41)) y299 (y299.length : Int) 0) = some r := by first | (rw [hy299]; with_reducible exact H) | (have H2_ := (Option.bind_some _ _).symm.trans H; rw [hy299]; with_reducible exact H2_) | (have H2_ := (Option.bind_some _ _).symm.trans H; with_reducible exact H2_) | with_reducible exact H | (rw [hy299]; exact H) | exact H
   have Ny299 := Aside0.mk hy299
   clear hy299
   have H' := Aside0.mk H
   clear H
   have q5 : ((ji2) : Int) ≤ ((l0.length : Int) : Int) := of_decide_eq_true (by first | (with_reducible assumption) | assumption)
   obtain ⟨i05, hi05, _, hsz5, _⟩ := info_parts info72
   have hroom5 : l0.length ≤ c0 := HC0.out
   have hC5 : Kd.C k72 _ A0 l0.length l0 := HR0.out
   have hcut5 := cut_to (P := Try.prog) 22 72 .i64 Try.underlying22 hi05 A0 l0.length c0 (ji2) (of_decide_eq_true (by first | (with_reducible assumption) | assumption)) q5 hroom5
   have hr5 := Kd.C_take (m := ((ji2) : Int).toNat) hC5 (by omega)
   have hy5 : y299.length = ((ji2) : Int).toNat := (by rw [Ny299.out, List.length_take]; omega)
   rw [← Ny299.out] at hr5
   rw [← hy5] at hcut5
   have HR302 := Aside0.mk hr5
   have HC302 := Aside0.mk (show y299.length ≤ c0 from by omega)
   clear hr5 hC5 hroom5 hi05 hsz5
   have KY5 := Aside0.mk hy5
   clear hy5
   replace q5 := eq_true q5
   go_enter Try.func19, Try.ntmps19
   go_wp2
   go_loopg [3, 13] k (fun kq v3 v13 w' => ∃ (x3_1 : List (S41)) (x13_1 : Int), v13 = .int .i64 x13_1 ∧ Aside0 (letterbaglaw35_Built.l0 kq x3_1 y299 (y299.length : Int) x13_1 = some r) ∧ Aside0 (kq ≤ k) ∧ Aside0 (Kd.R k41 41 w' w.heap.size (fun _ => True) v3 x3_1) ∧ Aside0 (Below w.heap.size w w'))
   case atStart => exact ⟨(([] : List (S41))), (0), (by first | rfl | (simp; done) | (simp [*]; done)), H', ⟨Nat.le_refl _⟩, ⟨by first | exact Kd.R_nil _ _ _ _ _ | exact Kd.N_nil _ _ _ _ _ | exact Kd.V_nil _ _ _ _ _ | exact Kd.Q_nil _ _ _ _ _ | exact Kd.S_nil _ _ _ _ _⟩, ⟨by repeat (first | (with_reducible first | exact HB.out | apply below_alloc | apply pw_below_drewN | apply below_drew1) | exact HB.out)⟩⟩
   case round =>
    clear H'
    try clear c1
    try clear p2
    try clear c3
    try clear c3b0
    try clear c3b1
    try clear c4
    try clear c4b0
    try clear c4b1
    try clear q5
    try clear q5
    obtain ⟨x3_1, x13_1, rfl, HA, HK1, HO_3, HB⟩ := hrel
    cases gk with
    | zero => exact absurd HA.out (by simp [letterbaglaw35_Built.l0])
    | succ k1 =>
     have H := HA.out
     clear HA
     simp only [letterbaglaw35_Built.l0] at H
     by_cases c6 : x13_1 < (y299.length : Int)
     ·rw [if_pos c6] at H
      have c6b0 : decide (x13_1 < (y299.length : Int)) = true := decide_eq_true c6
      clear c6
      by_cases c7 : 0 ≤ x13_1
      ·rw [if_pos c7] at H
       have c7b0 : decide (0 ≤ x13_1) = true := decide_eq_true c7
       clear c7
       by_cases c8 : x13_1 < (y299.length : Int)
       ·rw [if_pos c8] at H
        have c8b0 : decide (x13_1 < (y299.length : Int)) = true := decide_eq_true c8
        clear c8
        have HC9 := Aside0.mk H
        clear H
        have p303 : 0 ≤ (x13_1 : Int) := of_decide_eq_true (by first | (with_reducible assumption) | assumption)
        have q303 : x13_1 < (y299.length : Int) := of_decide_eq_true (by first | (with_reducible assumption) | assumption)
        obtain ⟨ad303, e303, hx303_0, hx303_1, hx303_2, hx303_3, hx303_4⟩ := at_T72 HR302.out x13_1 p303 q303
        cases e303
        replace hx303_0 := (HB.out.cell (World.block_lt_of_cell? w _ hx303_0)).trans hx303_0
        replace hx303_1 := (HB.out.cell (World.block_lt_of_cell? w _ hx303_1)).trans hx303_1
        replace hx303_2 := (HB.out.cell (World.block_lt_of_cell? w _ hx303_2)).trans hx303_2
        replace hx303_3 := (HB.out.cell (World.block_lt_of_cell? w _ hx303_3)).trans hx303_3
        replace hx303_4 := (HB.out.cell (World.block_lt_of_cell? w _ hx303_4)).trans hx303_4
        replace p303 := eq_true p303
        replace q303 := eq_true q303
        go_upto_if 46 with (first | ((with_reducible refine gate_dst (N := 5) rfl ?_); refine box_event ?hg (N := 5) ?hd (cs := #[.int .u8 0, .int .u8 0, .int .u8 0, .int .u8 0, .int .u8 0]) (t := 72) ?hr ?_; (case hd => rfl); (case hg => rfl); (case hr => first | (go_simp; done) | (go_simp; rfl)); intro gb304 hg w10 hbox hb; have n0_ := Aside0.mk (Kd.R_below (by (with_reducible repeat (first | apply Kd.R_alloc | apply Kd.R_drewN | apply Kd.R_drew)); exact HO_3.out) hb); have n1_ := Aside0.mk (below_step (by repeat (first | (with_reducible first | exact HB.out | apply below_alloc | apply pw_below_drewN | apply below_drew1) | exact HB.out)) hb); have n2_ := Aside0.mk (hbox); have n3_ := Aside0.mk ((by rw [hg]; exact (below_size (by repeat (first | (with_reducible first | exact HB.out | apply below_alloc | apply pw_below_drewN | apply below_drew1) | exact HB.out))) : w.heap.size ≤ gb304)); have n4_ := Aside0.mk ((by rw [hg]; exact (below_size (by repeat (first | (with_reducible first | exact HB.out | apply below_alloc | apply pw_below_drewN | apply below_drew1) | exact HB.out))) : w.heap.size ≤ gb304)); clear HO_3; clear HB; have HO_3 := n0_; have HB := n1_; have BK304 := n2_; have GW304 := n3_; have GE304 := n4_; clear n0_ n1_ n2_ n3_ n4_; clear hb hbox hg; have hcz11_0 : w10.cell? ⟨gb304, 0, none⟩ = some (.int .u8 0) := (blk_cell BK304.out 0).trans rfl; have hcz11_1 : w10.cell? ⟨gb304, 1, none⟩ = some (.int .u8 0) := (blk_cell BK304.out 1).trans rfl; have hcz11_2 : w10.cell? ⟨gb304, 2, none⟩ = some (.int .u8 0) := (blk_cell BK304.out 2).trans rfl; have hcz11_3 : w10.cell? ⟨gb304, 3, none⟩ = some (.int .u8 0) := (blk_cell BK304.out 3).trans rfl; have hcz11_4 : w10.cell? ⟨gb304, 4, none⟩ = some (.int .u8 0) := (blk_cell BK304.out 4).trans rfl; have hfz11_0 := blk_frozen BK304.out 0; have hfz11_1 := blk_frozen BK304.out 1; have hfz11_2 := blk_frozen BK304.out 2; have hfz11_3 := blk_frozen BK304.out 3; have hfz11_4 := blk_frozen BK304.out 4) | ((with_reducible refine gate_dst (N := 6) rfl ?_); refine box_event ?hg (N := 6) ?hd (cs := #[.int .i64 0, .int .i64 0, .int .i64 0, .int .i64 0, .int .i64 0, .int .u8 0]) (t := 41) ?hr ?_; (case hd => rfl); (case hg => rfl); (case hr => first | (go_simp; done) | (go_simp; rfl)); intro gb305 hg w12 hbox hb; have n0_ := Aside0.mk (Kd.R_below (Kd.R_elderB (by (with_reducible repeat (first | apply Kd.R_alloc | apply Kd.R_drewN | apply Kd.R_drew)); exact (Kd.R_mono (Kd.R_far (p := ⟨gb304, 4, none⟩) (Kd.R_far (p := ⟨gb304, 3, none⟩) (Kd.R_far (p := ⟨gb304, 2, none⟩) (Kd.R_far (p := ⟨gb304, 1, none⟩) (Kd.R_far (p := ⟨gb304, 0, none⟩) (Kd.R_types HO_3.out BK304.out (by decide)) (fun _ hk => hk.2) (.int .u8 ((rd_T72 y299 x13_1).f0))) (fun _ hk => hk.2) (.int .u8 ((rd_T72 y299 x13_1).f1))) (fun _ hk => hk.2) (.int .u8 ((rd_T72 y299 x13_1).f2))) (fun _ hk => hk.2) (.int .u8 ((rd_T72 y299 x13_1).f3))) (fun _ hk => hk.2) (.int .u8 ((rd_T72 y299 x13_1).f4))) (fun _ h_ => h_.1))) gb305 (Nat.le_of_eq hg.symm)) hb); have n1_ := Aside0.mk (blk_below (g := gb304) (o := .cells #[.int .u8 ((rd_T72 y299 x13_1).f0), .int .u8 ((rd_T72 y299 x13_1).f1), .int .u8 ((rd_T72 y299 x13_1).f2), .int .u8 ((rd_T72 y299 x13_1).f3), .int .u8 ((rd_T72 y299 x13_1).f4)] 72 (0, 0)) (by (with_reducible repeat (first | refine blk_drewN ?_ _ | refine blk_drew ?_ | refine blk_alloc ?_ _)); refine blk_put (cs := #[.int .u8 ((rd_T72 y299 x13_1).f0), .int .u8 ((rd_T72 y299 x13_1).f1), .int .u8 ((rd_T72 y299 x13_1).f2), .int .u8 ((rd_T72 y299 x13_1).f3), .int .u8 0]) ?_ 4 _ rfl; (with_reducible repeat (first | refine blk_drewN ?_ _ | refine blk_drew ?_ | refine blk_alloc ?_ _)); refine blk_put (cs := #[.int .u8 ((rd_T72 y299 x13_1).f0), .int .u8 ((rd_T72 y299 x13_1).f1), .int .u8 ((rd_T72 y299 x13_1).f2), .int .u8 0, .int .u8 0]) ?_ 3 _ rfl; (with_reducible repeat (first | refine blk_drewN ?_ _ | refine blk_drew ?_ | refine blk_alloc ?_ _)); refine blk_put (cs := #[.int .u8 ((rd_T72 y299 x13_1).f0), .int .u8 ((rd_T72 y299 x13_1).f1), .int .u8 0, .int .u8 0, .int .u8 0]) ?_ 2 _ rfl; (with_reducible repeat (first | refine blk_drewN ?_ _ | refine blk_drew ?_ | refine blk_alloc ?_ _)); refine blk_put (cs := #[.int .u8 ((rd_T72 y299 x13_1).f0), .int .u8 0, .int .u8 0, .int .u8 0, .int .u8 0]) ?_ 1 _ rfl; (with_reducible repeat (first | refine blk_drewN ?_ _ | refine blk_drew ?_ | refine blk_alloc ?_ _)); refine blk_put (cs := #[.int .u8 0, .int .u8 0, .int .u8 0, .int .u8 0, .int .u8 0]) ?_ 0 _ rfl; (with_reducible repeat (first | refine blk_drewN ?_ _ | refine blk_drew ?_ | refine blk_alloc ?_ _)); exact BK304.out) hb); have n2_ := Aside0.mk (below_step (by repeat (first | (with_reducible first | exact HB.out | apply below_alloc | apply pw_below_drewN | apply below_drew1 | refine below_set ?_ GE304.out) | exact HB.out)) hb); have n3_ := Aside0.mk (hbox); have n4_ := Aside0.mk ((by rw [hg]; exact (below_size (by repeat (first | (with_reducible first | exact HB.out | apply below_alloc | apply pw_below_drewN | apply below_drew1 | refine below_set ?_ GE304.out) | exact HB.out))) : w.heap.size ≤ gb305)); have n5_ := Aside0.mk ((by rw [hg]; exact (below_size (by repeat (first | (with_reducible first | exact HB.out | apply below_alloc | apply pw_below_drewN | apply below_drew1 | refine below_set ?_ GE304.out) | exact HB.out))) : w.heap.size ≤ gb305)); have n6_ := Aside0.mk ((by rw [hg]; exact Nat.ne_of_lt (blk_lt (g := gb304) (o := .cells #[.int .u8 ((rd_T72 y299 x13_1).f0), .int .u8 ((rd_T72 y299 x13_1).f1), .int .u8 ((rd_T72 y299 x13_1).f2), .int .u8 ((rd_T72 y299 x13_1).f3), .int .u8 ((rd_T72 y299 x13_1).f4)] 72 (0, 0)) (by (with_reducible repeat (first | refine blk_drewN ?_ _ | refine blk_drew ?_ | refine blk_alloc ?_ _)); refine blk_put (cs := #[.int .u8 ((rd_T72 y299 x13_1).f0), .int .u8 ((rd_T72 y299 x13_1).f1), .int .u8 ((rd_T72 y299 x13_1).f2), .int .u8 ((rd_T72 y299 x13_1).f3), .int .u8 0]) ?_ 4 _ rfl; (with_reducible repeat (first | refine blk_drewN ?_ _ | refine blk_drew ?_ | refine blk_alloc ?_ _)); refine blk_put (cs := #[.int .u8 ((rd_T72 y299 x13_1).f0), .int .u8 ((rd_T72 y299 x13_1).f1), .int .u8 ((rd_T72 y299 x13_1).f2), .int .u8 0, .int .u8 0]) ?_ 3 _ rfl; (with_reducible repeat (first | refine blk_drewN ?_ _ | refine blk_drew ?_ | refine blk_alloc ?_ _)); refine blk_put (cs := #[.int .u8 ((rd_T72 y299 x13_1).f0), .int .u8 ((rd_T72 y299 x13_1).f1), .int .u8 0, .int .u8 0, .int .u8 0]) ?_ 2 _ rfl; (with_reducible repeat (first | refine blk_drewN ?_ _ | refine blk_drew ?_ | refine blk_alloc ?_ _)); refine blk_put (cs := #[.int .u8 ((rd_T72 y299 x13_1).f0), .int .u8 0, .int .u8 0, .int .u8 0, .int .u8 0]) ?_ 1 _ rfl; (with_reducible repeat (first | refine blk_drewN ?_ _ | refine blk_drew ?_ | refine blk_alloc ?_ _)); refine blk_put (cs := #[.int .u8 0, .int .u8 0, .int .u8 0, .int .u8 0, .int .u8 0]) ?_ 0 _ rfl; (with_reducible repeat (first | refine blk_drewN ?_ _ | refine blk_drew ?_ | refine blk_alloc ?_ _)); exact BK304.out)) : gb304 ≠ gb305)); have n7_ := Aside0.mk ((by rw [hg]; exact Nat.ne_of_gt (blk_lt (g := gb304) (o := .cells #[.int .u8 ((rd_T72 y299 x13_1).f0), .int .u8 ((rd_T72 y299 x13_1).f1), .int .u8 ((rd_T72 y299 x13_1).f2), .int .u8 ((rd_T72 y299 x13_1).f3), .int .u8 ((rd_T72 y299 x13_1).f4)] 72 (0, 0)) (by (with_reducible repeat (first | refine blk_drewN ?_ _ | refine blk_drew ?_ | refine blk_alloc ?_ _)); refine blk_put (cs := #[.int .u8 ((rd_T72 y299 x13_1).f0), .int .u8 ((rd_T72 y299 x13_1).f1), .int .u8 ((rd_T72 y299 x13_1).f2), .int .u8 ((rd_T72 y299 x13_1).f3), .int .u8 0]) ?_ 4 _ rfl; (with_reducible repeat (first | refine blk_drewN ?_ _ | refine blk_drew ?_ | refine blk_alloc ?_ _)); refine blk_put (cs := #[.int .u8 ((rd_T72 y299 x13_1).f0), .int .u8 ((rd_T72 y299 x13_1).f1), .int .u8 ((rd_T72 y299 x13_1).f2), .int .u8 0, .int .u8 0]) ?_ 3 _ rfl; (with_reducible repeat (first | refine blk_drewN ?_ _ | refine blk_drew ?_ | refine blk_alloc ?_ _)); refine blk_put (cs := #[.int .u8 ((rd_T72 y299 x13_1).f0), .int .u8 ((rd_T72 y299 x13_1).f1), .int .u8 0, .int .u8 0, .int .u8 0]) ?_ 2 _ rfl; (with_reducible repeat (first | refine blk_drewN ?_ _ | refine blk_drew ?_ | refine blk_alloc ?_ _)); refine blk_put (cs := #[.int .u8 ((rd_T72 y299 x13_1).f0), .int .u8 0, .int .u8 0, .int .u8 0, .int .u8 0]) ?_ 1 _ rfl; (with_reducible repeat (first | refine blk_drewN ?_ _ | refine blk_drew ?_ | refine blk_alloc ?_ _)); refine blk_put (cs := #[.int .u8 0, .int .u8 0, .int .u8 0, .int .u8 0, .int .u8 0]) ?_ 0 _ rfl; (with_reducible repeat (first | refine blk_drewN ?_ _ | refine blk_drew ?_ | refine blk_alloc ?_ _)); exact BK304.out)) : gb305 ≠ gb304)); clear HO_3; clear BK304; clear HB; have HO_3 := n0_; have BK304 := n1_; have HB := n2_; have BK305 := n3_; have GW305 := n4_; have GE305 := n5_; have NB304_305 := n6_; have NB305_304 := n7_; clear n0_ n1_ n2_ n3_ n4_ n5_ n6_ n7_; clear hb hbox hg; have hnb13 := NB305_304.out; have hnc13 := NB304_305.out; have hcz14_0 : w12.cell? ⟨gb305, 0, none⟩ = some (.int .i64 0) := (blk_cell BK305.out 0).trans rfl; have hcz14_1 : w12.cell? ⟨gb305, 1, none⟩ = some (.int .i64 0) := (blk_cell BK305.out 1).trans rfl; have hcz14_2 : w12.cell? ⟨gb305, 2, none⟩ = some (.int .i64 0) := (blk_cell BK305.out 2).trans rfl; have hcz14_3 : w12.cell? ⟨gb305, 3, none⟩ = some (.int .i64 0) := (blk_cell BK305.out 3).trans rfl; have hcz14_4 : w12.cell? ⟨gb305, 4, none⟩ = some (.int .i64 0) := (blk_cell BK305.out 4).trans rfl; have hcz14_5 : w12.cell? ⟨gb305, 5, none⟩ = some (.int .u8 0) := (blk_cell BK305.out 5).trans rfl; have hfz14_0 := blk_frozen BK305.out 0; have hfz14_1 := blk_frozen BK305.out 1; have hfz14_2 := blk_frozen BK305.out 2; have hfz14_3 := blk_frozen BK305.out 3; have hfz14_4 := blk_frozen BK305.out 4; have hfz14_5 := blk_frozen BK305.out 5))
        (try simp only [Act.put, List.setIfInBounds_toArray, List.set_cons_zero, List.set_cons_succ])
        go_cut [] (fun wc => ∃ (kq : Nat) (x306002_8 : Int), Aside0 (letterbaglaw35_Built.j1 kq x3_1 y299 (y299.length : Int) x13_1 ((rd_T72 y299 x13_1).f0) ((rd_T72 y299 x13_1).f1) ((rd_T72 y299 x13_1).f2) ((rd_T72 y299 x13_1).f3) ((rd_T72 y299 x13_1).f4) (wrap64 (1 + (Int.tmod (wrap64 ((wrap64 (7 * x13_1)) + 3)) 20))) (wrap64 (1 + (Int.tmod (wrap64 ((rd_T72 y299 x13_1).f1)) 5))) x306002_8 (Int.tmod (wrap64 ((rd_T72 y299 x13_1).f3)) 80) 0 ((1 + (Int.tmod ((rd_T72 y299 x13_1).f0) 3)) % 256) = some r) ∧ Aside0 (kq ≤ k1) ∧ Aside0 (Kd.R k41 41 wc w.heap.size (fun k_ => k_ ≠ gb305) u3 x3_1) ∧ Aside0 (wc.heap[gb304]? = some (.cells #[.int .u8 ((rd_T72 y299 x13_1).f0), .int .u8 ((rd_T72 y299 x13_1).f1), .int .u8 ((rd_T72 y299 x13_1).f2), .int .u8 ((rd_T72 y299 x13_1).f3), .int .u8 ((rd_T72 y299 x13_1).f4)] 72 (0, 0))) ∧ Aside0 (wc.heap[gb305]? = some (.cells #[.int .i64 (wrap64 (1 + (Int.tmod (wrap64 ((wrap64 (7 * x13_1)) + 3)) 20))), .int .i64 (wrap64 (1 + (Int.tmod (wrap64 ((rd_T72 y299 x13_1).f1)) 5))), .int .i64 x306002_8, .int .i64 (Int.tmod (wrap64 ((rd_T72 y299 x13_1).f3)) 80), .int .i64 0, .int .u8 ((1 + (Int.tmod ((rd_T72 y299 x13_1).f0) 3)) % 256)] 41 (0, 0))) ∧ Aside0 (Below w.heap.size w wc))
        case first =>
         have H := HC9.out
         clear HC9
         by_cases c15 : (wrap64 (1 + (Int.tmod (wrap64 ((rd_T72 y299 x13_1).f2)) 5))) = (wrap64 (1 + (Int.tmod (wrap64 ((rd_T72 y299 x13_1).f1)) 5)))
         ·rw [if_pos c15] at H
          have c15b0 : ((wrap64 (1 + (Int.tmod (wrap64 ((rd_T72 y299 x13_1).f2)) 5))) == (wrap64 (1 + (Int.tmod (wrap64 ((rd_T72 y299 x13_1).f1)) 5)))) = true := beq_iff_eq.mpr c15
          have c15b1 : ((wrap64 (1 + (Int.tmod (wrap64 ((rd_T72 y299 x13_1).f2)) 5))) != (wrap64 (1 + (Int.tmod (wrap64 ((rd_T72 y299 x13_1).f1)) 5)))) = false := bne_eq_false_iff_eq.mpr c15
          clear c15
          (first | rw [c15b0] | (simp only [i64_w, i32_w]; rw [c15b0]) | skip)
          have H' := Aside0.mk H
          clear H
          have hnb16 := NB305_304.out
          have hnc16 := NB304_305.out
          have hcz17_0 : w12.cell? ⟨gb305, 0, none⟩ = some (.int .i64 0) := (blk_cell BK305.out 0).trans rfl
          have hcz17_1 : w12.cell? ⟨gb305, 1, none⟩ = some (.int .i64 0) := (blk_cell BK305.out 1).trans rfl
          have hcz17_2 : w12.cell? ⟨gb305, 2, none⟩ = some (.int .i64 0) := (blk_cell BK305.out 2).trans rfl
          have hcz17_3 : w12.cell? ⟨gb305, 3, none⟩ = some (.int .i64 0) := (blk_cell BK305.out 3).trans rfl
          have hcz17_4 : w12.cell? ⟨gb305, 4, none⟩ = some (.int .i64 0) := (blk_cell BK305.out 4).trans rfl
          have hcz17_5 : w12.cell? ⟨gb305, 5, none⟩ = some (.int .u8 0) := (blk_cell BK305.out 5).trans rfl
          have hfz17_0 := blk_frozen BK305.out 0
          have hfz17_1 := blk_frozen BK305.out 1
          have hfz17_2 := blk_frozen BK305.out 2
          have hfz17_3 := blk_frozen BK305.out 3
          have hfz17_4 := blk_frozen BK305.out 4
          have hfz17_5 := blk_frozen BK305.out 5
          go_wp2
          go_meet
          case rel => exact ⟨_, (6), H', ⟨by have := HK1.out; first | omega | exact Nat.le_refl _⟩, ⟨by (with_reducible repeat (first | apply Kd.R_alloc | apply Kd.R_drewN | apply Kd.R_drew)); exact Kd.R_mono (Kd.R_far (p := ⟨gb305, 2, none⟩) (Kd.R_far (p := ⟨gb305, 5, none⟩) (Kd.R_far (p := ⟨gb305, 4, none⟩) (Kd.R_far (p := ⟨gb305, 3, none⟩) (Kd.R_far (p := ⟨gb305, 2, none⟩) (Kd.R_far (p := ⟨gb305, 1, none⟩) (Kd.R_far (p := ⟨gb305, 0, none⟩) (Kd.R_mono HO_3.out (fun k_ hk => (⟨hk, hk.2⟩ : _ ∧ k_ ≠ gb305))) (fun _ hk => hk.2) (.int .i64 (wrap64 (1 + (Int.tmod (wrap64 ((wrap64 (7 * x13_1)) + 3)) 20))))) (fun _ hk => hk.2) (.int .i64 (wrap64 (1 + (Int.tmod (wrap64 ((rd_T72 y299 x13_1).f1)) 5))))) (fun _ hk => hk.2) (.int .i64 (wrap64 (1 + (Int.tmod (wrap64 ((rd_T72 y299 x13_1).f2)) 5))))) (fun _ hk => hk.2) (.int .i64 (Int.tmod (wrap64 ((rd_T72 y299 x13_1).f3)) 80))) (fun _ hk => hk.2) (.int .i64 0)) (fun _ hk => hk.2) (.int .u8 ((1 + (Int.tmod ((rd_T72 y299 x13_1).f0) 3)) % 256))) (fun _ hk => hk.2) (.int .i64 6)) (fun _ hk => hk.1.2)⟩, ⟨by (with_reducible repeat (first | refine blk_drewN ?_ _ | refine blk_drew ?_ | refine blk_alloc ?_ _)); refine blk_far ?_ NB304_305.out _; (with_reducible repeat (first | refine blk_drewN ?_ _ | refine blk_drew ?_ | refine blk_alloc ?_ _)); refine blk_far ?_ NB304_305.out _; (with_reducible repeat (first | refine blk_drewN ?_ _ | refine blk_drew ?_ | refine blk_alloc ?_ _)); refine blk_far ?_ NB304_305.out _; (with_reducible repeat (first | refine blk_drewN ?_ _ | refine blk_drew ?_ | refine blk_alloc ?_ _)); refine blk_far ?_ NB304_305.out _; (with_reducible repeat (first | refine blk_drewN ?_ _ | refine blk_drew ?_ | refine blk_alloc ?_ _)); refine blk_far ?_ NB304_305.out _; (with_reducible repeat (first | refine blk_drewN ?_ _ | refine blk_drew ?_ | refine blk_alloc ?_ _)); refine blk_far ?_ NB304_305.out _; (with_reducible repeat (first | refine blk_drewN ?_ _ | refine blk_drew ?_ | refine blk_alloc ?_ _)); refine blk_far ?_ NB304_305.out _; (with_reducible repeat (first | refine blk_drewN ?_ _ | refine blk_drew ?_ | refine blk_alloc ?_ _)); exact BK304.out⟩, ⟨by (with_reducible repeat (first | refine blk_drewN ?_ _ | refine blk_drew ?_ | refine blk_alloc ?_ _)); refine blk_put (cs := #[.int .i64 (wrap64 (1 + (Int.tmod (wrap64 ((wrap64 (7 * x13_1)) + 3)) 20))), .int .i64 (wrap64 (1 + (Int.tmod (wrap64 ((rd_T72 y299 x13_1).f1)) 5))), .int .i64 (wrap64 (1 + (Int.tmod (wrap64 ((rd_T72 y299 x13_1).f2)) 5))), .int .i64 (Int.tmod (wrap64 ((rd_T72 y299 x13_1).f3)) 80), .int .i64 0, .int .u8 ((1 + (Int.tmod ((rd_T72 y299 x13_1).f0) 3)) % 256)]) ?_ 2 _ rfl; (with_reducible repeat (first | refine blk_drewN ?_ _ | refine blk_drew ?_ | refine blk_alloc ?_ _)); refine blk_put (cs := #[.int .i64 (wrap64 (1 + (Int.tmod (wrap64 ((wrap64 (7 * x13_1)) + 3)) 20))), .int .i64 (wrap64 (1 + (Int.tmod (wrap64 ((rd_T72 y299 x13_1).f1)) 5))), .int .i64 (wrap64 (1 + (Int.tmod (wrap64 ((rd_T72 y299 x13_1).f2)) 5))), .int .i64 (Int.tmod (wrap64 ((rd_T72 y299 x13_1).f3)) 80), .int .i64 0, .int .u8 0]) ?_ 5 _ rfl; (with_reducible repeat (first | refine blk_drewN ?_ _ | refine blk_drew ?_ | refine blk_alloc ?_ _)); refine blk_put (cs := #[.int .i64 (wrap64 (1 + (Int.tmod (wrap64 ((wrap64 (7 * x13_1)) + 3)) 20))), .int .i64 (wrap64 (1 + (Int.tmod (wrap64 ((rd_T72 y299 x13_1).f1)) 5))), .int .i64 (wrap64 (1 + (Int.tmod (wrap64 ((rd_T72 y299 x13_1).f2)) 5))), .int .i64 (Int.tmod (wrap64 ((rd_T72 y299 x13_1).f3)) 80), .int .i64 0, .int .u8 0]) ?_ 4 _ rfl; (with_reducible repeat (first | refine blk_drewN ?_ _ | refine blk_drew ?_ | refine blk_alloc ?_ _)); refine blk_put (cs := #[.int .i64 (wrap64 (1 + (Int.tmod (wrap64 ((wrap64 (7 * x13_1)) + 3)) 20))), .int .i64 (wrap64 (1 + (Int.tmod (wrap64 ((rd_T72 y299 x13_1).f1)) 5))), .int .i64 (wrap64 (1 + (Int.tmod (wrap64 ((rd_T72 y299 x13_1).f2)) 5))), .int .i64 0, .int .i64 0, .int .u8 0]) ?_ 3 _ rfl; (with_reducible repeat (first | refine blk_drewN ?_ _ | refine blk_drew ?_ | refine blk_alloc ?_ _)); refine blk_put (cs := #[.int .i64 (wrap64 (1 + (Int.tmod (wrap64 ((wrap64 (7 * x13_1)) + 3)) 20))), .int .i64 (wrap64 (1 + (Int.tmod (wrap64 ((rd_T72 y299 x13_1).f1)) 5))), .int .i64 0, .int .i64 0, .int .i64 0, .int .u8 0]) ?_ 2 _ rfl; (with_reducible repeat (first | refine blk_drewN ?_ _ | refine blk_drew ?_ | refine blk_alloc ?_ _)); refine blk_put (cs := #[.int .i64 (wrap64 (1 + (Int.tmod (wrap64 ((wrap64 (7 * x13_1)) + 3)) 20))), .int .i64 0, .int .i64 0, .int .i64 0, .int .i64 0, .int .u8 0]) ?_ 1 _ rfl; (with_reducible repeat (first | refine blk_drewN ?_ _ | refine blk_drew ?_ | refine blk_alloc ?_ _)); refine blk_put (cs := #[.int .i64 0, .int .i64 0, .int .i64 0, .int .i64 0, .int .i64 0, .int .u8 0]) ?_ 0 _ rfl; (with_reducible repeat (first | refine blk_drewN ?_ _ | refine blk_drew ?_ | refine blk_alloc ?_ _)); exact BK305.out⟩, ⟨by repeat (first | (with_reducible first | exact HB.out | apply below_alloc | apply pw_below_drewN | apply below_drew1 | refine below_set ?_ GE304.out | refine below_set ?_ GE305.out) | exact HB.out)⟩⟩
         ·rw [if_neg c15] at H
          have c15b0 : ((wrap64 (1 + (Int.tmod (wrap64 ((rd_T72 y299 x13_1).f2)) 5))) == (wrap64 (1 + (Int.tmod (wrap64 ((rd_T72 y299 x13_1).f1)) 5)))) = false := beq_eq_false_iff_ne.mpr c15
          have c15b1 : ((wrap64 (1 + (Int.tmod (wrap64 ((rd_T72 y299 x13_1).f2)) 5))) != (wrap64 (1 + (Int.tmod (wrap64 ((rd_T72 y299 x13_1).f1)) 5)))) = true := bne_iff_ne.mpr c15
          (first | rw [c15b0] | (simp only [i64_w, i32_w]; rw [c15b0]) | skip)
          have H' := Aside0.mk H
          clear H
          go_wp2
          go_meet
          case rel => exact ⟨_, (wrap64 (1 + (Int.tmod (wrap64 ((rd_T72 y299 x13_1).f2)) 5))), H', ⟨by have := HK1.out; first | omega | exact Nat.le_refl _⟩, ⟨by (with_reducible repeat (first | apply Kd.R_alloc | apply Kd.R_drewN | apply Kd.R_drew)); exact Kd.R_mono (Kd.R_far (p := ⟨gb305, 5, none⟩) (Kd.R_far (p := ⟨gb305, 4, none⟩) (Kd.R_far (p := ⟨gb305, 3, none⟩) (Kd.R_far (p := ⟨gb305, 2, none⟩) (Kd.R_far (p := ⟨gb305, 1, none⟩) (Kd.R_far (p := ⟨gb305, 0, none⟩) (Kd.R_mono HO_3.out (fun k_ hk => (⟨hk, hk.2⟩ : _ ∧ k_ ≠ gb305))) (fun _ hk => hk.2) (.int .i64 (wrap64 (1 + (Int.tmod (wrap64 ((wrap64 (7 * x13_1)) + 3)) 20))))) (fun _ hk => hk.2) (.int .i64 (wrap64 (1 + (Int.tmod (wrap64 ((rd_T72 y299 x13_1).f1)) 5))))) (fun _ hk => hk.2) (.int .i64 (wrap64 (1 + (Int.tmod (wrap64 ((rd_T72 y299 x13_1).f2)) 5))))) (fun _ hk => hk.2) (.int .i64 (Int.tmod (wrap64 ((rd_T72 y299 x13_1).f3)) 80))) (fun _ hk => hk.2) (.int .i64 0)) (fun _ hk => hk.2) (.int .u8 ((1 + (Int.tmod ((rd_T72 y299 x13_1).f0) 3)) % 256))) (fun _ hk => hk.1.2)⟩, ⟨by (with_reducible repeat (first | refine blk_drewN ?_ _ | refine blk_drew ?_ | refine blk_alloc ?_ _)); refine blk_far ?_ NB304_305.out _; (with_reducible repeat (first | refine blk_drewN ?_ _ | refine blk_drew ?_ | refine blk_alloc ?_ _)); refine blk_far ?_ NB304_305.out _; (with_reducible repeat (first | refine blk_drewN ?_ _ | refine blk_drew ?_ | refine blk_alloc ?_ _)); refine blk_far ?_ NB304_305.out _; (with_reducible repeat (first | refine blk_drewN ?_ _ | refine blk_drew ?_ | refine blk_alloc ?_ _)); refine blk_far ?_ NB304_305.out _; (with_reducible repeat (first | refine blk_drewN ?_ _ | refine blk_drew ?_ | refine blk_alloc ?_ _)); refine blk_far ?_ NB304_305.out _; (with_reducible repeat (first | refine blk_drewN ?_ _ | refine blk_drew ?_ | refine blk_alloc ?_ _)); refine blk_far ?_ NB304_305.out _; (with_reducible repeat (first | refine blk_drewN ?_ _ | refine blk_drew ?_ | refine blk_alloc ?_ _)); exact BK304.out⟩, ⟨by (with_reducible repeat (first | refine blk_drewN ?_ _ | refine blk_drew ?_ | refine blk_alloc ?_ _)); refine blk_put (cs := #[.int .i64 (wrap64 (1 + (Int.tmod (wrap64 ((wrap64 (7 * x13_1)) + 3)) 20))), .int .i64 (wrap64 (1 + (Int.tmod (wrap64 ((rd_T72 y299 x13_1).f1)) 5))), .int .i64 (wrap64 (1 + (Int.tmod (wrap64 ((rd_T72 y299 x13_1).f2)) 5))), .int .i64 (Int.tmod (wrap64 ((rd_T72 y299 x13_1).f3)) 80), .int .i64 0, .int .u8 0]) ?_ 5 _ rfl; (with_reducible repeat (first | refine blk_drewN ?_ _ | refine blk_drew ?_ | refine blk_alloc ?_ _)); refine blk_put (cs := #[.int .i64 (wrap64 (1 + (Int.tmod (wrap64 ((wrap64 (7 * x13_1)) + 3)) 20))), .int .i64 (wrap64 (1 + (Int.tmod (wrap64 ((rd_T72 y299 x13_1).f1)) 5))), .int .i64 (wrap64 (1 + (Int.tmod (wrap64 ((rd_T72 y299 x13_1).f2)) 5))), .int .i64 (Int.tmod (wrap64 ((rd_T72 y299 x13_1).f3)) 80), .int .i64 0, .int .u8 0]) ?_ 4 _ rfl; (with_reducible repeat (first | refine blk_drewN ?_ _ | refine blk_drew ?_ | refine blk_alloc ?_ _)); refine blk_put (cs := #[.int .i64 (wrap64 (1 + (Int.tmod (wrap64 ((wrap64 (7 * x13_1)) + 3)) 20))), .int .i64 (wrap64 (1 + (Int.tmod (wrap64 ((rd_T72 y299 x13_1).f1)) 5))), .int .i64 (wrap64 (1 + (Int.tmod (wrap64 ((rd_T72 y299 x13_1).f2)) 5))), .int .i64 0, .int .i64 0, .int .u8 0]) ?_ 3 _ rfl; (with_reducible repeat (first | refine blk_drewN ?_ _ | refine blk_drew ?_ | refine blk_alloc ?_ _)); refine blk_put (cs := #[.int .i64 (wrap64 (1 + (Int.tmod (wrap64 ((wrap64 (7 * x13_1)) + 3)) 20))), .int .i64 (wrap64 (1 + (Int.tmod (wrap64 ((rd_T72 y299 x13_1).f1)) 5))), .int .i64 0, .int .i64 0, .int .i64 0, .int .u8 0]) ?_ 2 _ rfl; (with_reducible repeat (first | refine blk_drewN ?_ _ | refine blk_drew ?_ | refine blk_alloc ?_ _)); refine blk_put (cs := #[.int .i64 (wrap64 (1 + (Int.tmod (wrap64 ((wrap64 (7 * x13_1)) + 3)) 20))), .int .i64 0, .int .i64 0, .int .i64 0, .int .i64 0, .int .u8 0]) ?_ 1 _ rfl; (with_reducible repeat (first | refine blk_drewN ?_ _ | refine blk_drew ?_ | refine blk_alloc ?_ _)); refine blk_put (cs := #[.int .i64 0, .int .i64 0, .int .i64 0, .int .i64 0, .int .i64 0, .int .u8 0]) ?_ 0 _ rfl; (with_reducible repeat (first | refine blk_drewN ?_ _ | refine blk_drew ?_ | refine blk_alloc ?_ _)); exact BK305.out⟩, ⟨by repeat (first | (with_reducible first | exact HB.out | apply below_alloc | apply pw_below_drewN | apply below_drew1 | refine below_set ?_ GE304.out | refine below_set ?_ GE305.out) | exact HB.out)⟩⟩
        case rest =>
         clear HC9
         try clear c1
         try clear p2
         try clear c3
         try clear c3b0
         try clear c3b1
         try clear p3
         try clear q3
         try clear hx3
         try clear c4
         try clear c4b0
         try clear c4b1
         try clear q5
         try clear c6
         try clear c6b0
         try clear p6
         try clear c7
         try clear c7b0
         try clear c8
         try clear c8b0
         try clear c13
         try clear c15
         try clear c15b0
         try clear c15b1
         try clear c16
         try clear hcz11_0
         try clear hcz11_1
         try clear hcz11_2
         try clear hcz11_3
         try clear hcz11_4
         try clear hcz14_0
         try clear hcz14_1
         try clear hcz14_2
         try clear hcz14_3
         try clear hcz14_4
         try clear hcz14_5
         try clear hcz17_0
         try clear hcz17_1
         try clear hcz17_2
         try clear hcz17_3
         try clear hcz17_4
         try clear hcz17_5
         try clear hfz11_0
         try clear hfz11_1
         try clear hfz11_2
         try clear hfz11_3
         try clear hfz11_4
         try clear hfz14_0
         try clear hfz14_1
         try clear hfz14_2
         try clear hfz14_3
         try clear hfz14_4
         try clear hfz14_5
         try clear hfz17_0
         try clear hfz17_1
         try clear hfz17_2
         try clear hfz17_3
         try clear hfz17_4
         try clear hfz17_5
         try clear hx303_0
         try clear hx303_1
         try clear hx303_2
         try clear hx303_3
         try clear hx303_4
         try clear p2
         try clear p303
         try clear q303
         try clear q5
         obtain ⟨kq, x306002_8, HA, HJ8, HO_3, BK304, BK305, HB⟩ := hcut
         cases kq with
         | zero => exact absurd HA.out (by simp [letterbaglaw35_Built.j1])
         | succ kj8 =>
          have H := HA.out
          clear HA
          simp only [letterbaglaw35_Built.j1] at H
          by_cases c18 : ((1 + (Int.tmod ((rd_T72 y299 x13_1).f0) 3)) % 256) = 1
          ·rw [if_pos c18] at H
           have c18b0 : (((1 + (Int.tmod ((rd_T72 y299 x13_1).f0) 3)) % 256) == 1) = true := beq_iff_eq.mpr c18
           have c18b1 : (((1 + (Int.tmod ((rd_T72 y299 x13_1).f0) 3)) % 256) != 1) = false := bne_eq_false_iff_eq.mpr c18
           clear c18
           by_cases c19 : ((1 + (Int.tmod ((rd_T72 y299 x13_1).f0) 3)) % 256) = 3
           ·rw [if_pos c19] at H
            have c19b0 : (((1 + (Int.tmod ((rd_T72 y299 x13_1).f0) 3)) % 256) == 3) = true := beq_iff_eq.mpr c19
            have c19b1 : (((1 + (Int.tmod ((rd_T72 y299 x13_1).f0) 3)) % 256) != 3) = false := bne_eq_false_iff_eq.mpr c19
            clear c19
            by_cases c20 : x3_1.length < 2932031007402
            ·rw [if_pos c20] at H
             have LMc20 := Aside0.mk c20
             clear c20
             obtain ⟨y306, hy306⟩ : ∃ y_ : List (S41), y_ = (x3_1 ++ [(⟨(wrap64 (1 + (Int.tmod (wrap64 ((wrap64 (7 * x13_1)) + 3)) 20))), (wrap64 (1 + (Int.tmod (wrap64 ((rd_T72 y299 x13_1).f1)) 5))), 0, (Int.tmod (wrap64 ((rd_T72 y299 x13_1).f3)) 80), 0, ((1 + (Int.tmod ((rd_T72 y299 x13_1).f0) 3)) % 256)⟩ : S41)]) := ⟨_, rfl⟩
             replace H : (letterbaglaw35_Built.l0 kj8 y306 y299 (y299.length : Int) (wrap64 (x13_1 + 1))) = some r := by first | (rw [hy306]; with_reducible exact H) | (have H2_ := (Option.bind_some _ _).symm.trans H; rw [hy306]; with_reducible exact H2_) | (have H2_ := (Option.bind_some _ _).symm.trans H; with_reducible exact H2_) | with_reducible exact H | (rw [hy306]; exact H) | exact H
             have Ny306 := Aside0.mk hy306
             clear hy306
             have H' := Aside0.mk H
             clear H
             have hnb21 := NB305_304.out
             have hnc21 := NB304_305.out
             have hcz22_0 : wc.cell? ⟨gb305, 0, none⟩ = some (.int .i64 (wrap64 (1 + (Int.tmod (wrap64 ((wrap64 (7 * x13_1)) + 3)) 20)))) := (blk_cell BK305.out 0).trans rfl
             have hcz22_1 : wc.cell? ⟨gb305, 1, none⟩ = some (.int .i64 (wrap64 (1 + (Int.tmod (wrap64 ((rd_T72 y299 x13_1).f1)) 5)))) := (blk_cell BK305.out 1).trans rfl
             have hcz22_2 : wc.cell? ⟨gb305, 2, none⟩ = some (.int .i64 x306002_8) := (blk_cell BK305.out 2).trans rfl
             have hcz22_3 : wc.cell? ⟨gb305, 3, none⟩ = some (.int .i64 (Int.tmod (wrap64 ((rd_T72 y299 x13_1).f3)) 80)) := (blk_cell BK305.out 3).trans rfl
             have hcz22_4 : wc.cell? ⟨gb305, 4, none⟩ = some (.int .i64 0) := (blk_cell BK305.out 4).trans rfl
             have hcz22_5 : wc.cell? ⟨gb305, 5, none⟩ = some (.int .u8 ((1 + (Int.tmod ((rd_T72 y299 x13_1).f0) 3)) % 256)) := (blk_cell BK305.out 5).trans rfl
             have hfz22_0 := blk_frozen BK305.out 0
             have hfz22_1 := blk_frozen BK305.out 1
             have hfz22_2 := blk_frozen BK305.out 2
             have hfz22_3 := blk_frozen BK305.out 3
             have hfz22_4 := blk_frozen BK305.out 4
             have hfz22_5 := blk_frozen BK305.out 5
             go_wp2_with (first | ((with_reducible refine gate_builtin (b := .append) (xs := #[.tmp 63, .tmp 65]) rfl ?_); at_builtin; refine Kd.R_append k41 (w0 := w) w.heap.size rfl (.tmp 63) (.tmp 65) 24 41 (.agg #[(.int .i64 0), (.int .i64 0), (.int .i64 0), (.int .i64 0), (.int .i64 0), (.int .u8 0)]) 48 rfl Try.underlying24 info41 rfl (by decide) (by omega) u3 x3_1 (⟨(wrap64 (1 + (Int.tmod (wrap64 ((wrap64 (7 * x13_1)) + 3)) 20))), (wrap64 (1 + (Int.tmod (wrap64 ((rd_T72 y299 x13_1).f1)) 5))), 0, (Int.tmod (wrap64 ((rd_T72 y299 x13_1).f3)) 80), 0, ((1 + (Int.tmod ((rd_T72 y299 x13_1).f0) 3)) % 256)⟩ : S41) [.int .i64 (wrap64 (1 + (Int.tmod (wrap64 ((wrap64 (7 * x13_1)) + 3)) 20))), .int .i64 (wrap64 (1 + (Int.tmod (wrap64 ((rd_T72 y299 x13_1).f1)) 5))), .int .i64 0, .int .i64 (Int.tmod (wrap64 ((rd_T72 y299 x13_1).f3)) 80), .int .i64 0, .int .u8 ((1 + (Int.tmod ((rd_T72 y299 x13_1).f0) 3)) % 256)] (fun k_ => k_ ≠ gb305) (fun _ => False) rfl (by first | (go_simp; done) | (go_simp; rfl)) ?aP (fun _ hk => hk.elim) ?aF ?aO ?aB ?aS ?aL ?_; (case aP => exact k41_mkM _ _ _ (⟨(wrap64 (1 + (Int.tmod (wrap64 ((wrap64 (7 * x13_1)) + 3)) 20))), (wrap64 (1 + (Int.tmod (wrap64 ((rd_T72 y299 x13_1).f1)) 5))), 0, (Int.tmod (wrap64 ((rd_T72 y299 x13_1).f3)) 80), 0, ((1 + (Int.tmod ((rd_T72 y299 x13_1).f0) 3)) % 256)⟩ : S41)); (case aB => exact (by repeat (first | (with_reducible first | exact HB.out | apply below_alloc | apply pw_below_drewN | apply below_drew1 | refine below_set ?_ GE304.out | refine below_set ?_ GE305.out) | exact HB.out))); (case aF => exact (fun k_ hk => Kd.freshB (g := gb305) (o := .cells #[.int .i64 (wrap64 (1 + (Int.tmod (wrap64 ((wrap64 (7 * x13_1)) + 3)) 20))), .int .i64 (wrap64 (1 + (Int.tmod (wrap64 ((rd_T72 y299 x13_1).f1)) 5))), .int .i64 0, .int .i64 (Int.tmod (wrap64 ((rd_T72 y299 x13_1).f3)) 80), .int .i64 0, .int .u8 ((1 + (Int.tmod ((rd_T72 y299 x13_1).f0) 3)) % 256)] 41 (0, 0)) (by (with_reducible repeat (first | refine blk_drewN ?_ _ | refine blk_drew ?_ | refine blk_alloc ?_ _)); refine blk_put (cs := #[.int .i64 (wrap64 (1 + (Int.tmod (wrap64 ((wrap64 (7 * x13_1)) + 3)) 20))), .int .i64 (wrap64 (1 + (Int.tmod (wrap64 ((rd_T72 y299 x13_1).f1)) 5))), .int .i64 x306002_8, .int .i64 (Int.tmod (wrap64 ((rd_T72 y299 x13_1).f3)) 80), .int .i64 0, .int .u8 ((1 + (Int.tmod ((rd_T72 y299 x13_1).f0) 3)) % 256)]) ?_ 2 _ rfl; (with_reducible repeat (first | refine blk_drewN ?_ _ | refine blk_drew ?_ | refine blk_alloc ?_ _)); exact BK305.out) k_ hk)); (case aO => exact (by (with_reducible repeat (first | apply Kd.R_alloc | apply Kd.R_drewN | apply Kd.R_drew)); exact Kd.R_mono (Kd.R_far (p := ⟨gb305, 2, none⟩) (Kd.R_mono HO_3.out (fun k_ hk => (⟨hk, hk⟩ : _ ∧ k_ ≠ gb305))) (fun _ hk => hk.2) (.int .i64 0)) (fun _ hk => hk.1))); (case aS => exact (below_size (by repeat (first | (with_reducible first | exact HB.out | apply below_alloc | apply pw_below_drewN | apply below_drew1 | refine below_set ?_ GE304.out | refine below_set ?_ GE305.out) | exact HB.out)))); (case aL => have := LMc20.out; omega); intro v307 w23 ho hb hg hat; rw [← Ny306.out] at ho; have n0_ := Aside0.mk (blk_grown (g := gb304) (o := .cells #[.int .u8 ((rd_T72 y299 x13_1).f0), .int .u8 ((rd_T72 y299 x13_1).f1), .int .u8 ((rd_T72 y299 x13_1).f2), .int .u8 ((rd_T72 y299 x13_1).f3), .int .u8 ((rd_T72 y299 x13_1).f4)] 72 (0, 0)) (by (with_reducible repeat (first | refine blk_drewN ?_ _ | refine blk_drew ?_ | refine blk_alloc ?_ _)); refine blk_far ?_ NB304_305.out _; (with_reducible repeat (first | refine blk_drewN ?_ _ | refine blk_drew ?_ | refine blk_alloc ?_ _)); exact BK304.out) hg (Kd.R_ne HO_3.out BK304.out (by decide))); have n1_ := Aside0.mk (blk_grown (g := gb305) (o := .cells #[.int .i64 (wrap64 (1 + (Int.tmod (wrap64 ((wrap64 (7 * x13_1)) + 3)) 20))), .int .i64 (wrap64 (1 + (Int.tmod (wrap64 ((rd_T72 y299 x13_1).f1)) 5))), .int .i64 0, .int .i64 (Int.tmod (wrap64 ((rd_T72 y299 x13_1).f3)) 80), .int .i64 0, .int .u8 ((1 + (Int.tmod ((rd_T72 y299 x13_1).f0) 3)) % 256)] 41 (0, 0)) (by (with_reducible repeat (first | refine blk_drewN ?_ _ | refine blk_drew ?_ | refine blk_alloc ?_ _)); refine blk_put (cs := #[.int .i64 (wrap64 (1 + (Int.tmod (wrap64 ((wrap64 (7 * x13_1)) + 3)) 20))), .int .i64 (wrap64 (1 + (Int.tmod (wrap64 ((rd_T72 y299 x13_1).f1)) 5))), .int .i64 x306002_8, .int .i64 (Int.tmod (wrap64 ((rd_T72 y299 x13_1).f3)) 80), .int .i64 0, .int .u8 ((1 + (Int.tmod ((rd_T72 y299 x13_1).f0) 3)) % 256)]) ?_ 2 _ rfl; (with_reducible repeat (first | refine blk_drewN ?_ _ | refine blk_drew ?_ | refine blk_alloc ?_ _)); exact BK305.out) hg (Kd.R_away HO_3.out (fun _ hk => hk))); have n2_ := Aside0.mk (hb); have n3_ := Aside0.mk (ho); clear BK304; clear BK305; clear HB; clear HO_3; have BK304 := n0_; have BK305 := n1_; have HB := n2_; have HO308 := n3_; clear n0_ n1_ n2_ n3_; clear ho hb hg hat))
             go_roundg kj8
             case measure => have := HK1.out; have := HJ8.out; omega
             case rel => exact ⟨(y306), (wrap64 (x13_1 + 1)), (by first | rfl | (simp; done) | (simp [*]; done)), H', ⟨by have := HK1.out; have := HJ8.out; omega⟩, ⟨by (with_reducible repeat (first | apply Kd.R_alloc | apply Kd.R_drewN | apply Kd.R_drew)); exact Kd.R_mono HO308.out (fun _ hk => trivial)⟩, ⟨by repeat (first | (with_reducible first | exact HB.out | apply below_alloc | apply pw_below_drewN | apply below_drew1 | refine below_set ?_ GE304.out | refine below_set ?_ GE305.out) | exact HB.out)⟩⟩
            ·rw [if_neg c20] at H
             exact absurd H (by simp)
           ·rw [if_neg c19] at H
            have c19b0 : (((1 + (Int.tmod ((rd_T72 y299 x13_1).f0) 3)) % 256) == 3) = false := beq_eq_false_iff_ne.mpr c19
            have c19b1 : (((1 + (Int.tmod ((rd_T72 y299 x13_1).f0) 3)) % 256) != 3) = true := bne_iff_ne.mpr c19
            by_cases c24 : x3_1.length < 2932031007402
            ·rw [if_pos c24] at H
             have LMc24 := Aside0.mk c24
             clear c24
             obtain ⟨y309, hy309⟩ : ∃ y_ : List (S41), y_ = (x3_1 ++ [(⟨(wrap64 (1 + (Int.tmod (wrap64 ((wrap64 (7 * x13_1)) + 3)) 20))), (wrap64 (1 + (Int.tmod (wrap64 ((rd_T72 y299 x13_1).f1)) 5))), x306002_8, (Int.tmod (wrap64 ((rd_T72 y299 x13_1).f3)) 80), 0, ((1 + (Int.tmod ((rd_T72 y299 x13_1).f0) 3)) % 256)⟩ : S41)]) := ⟨_, rfl⟩
             replace H : (letterbaglaw35_Built.l0 kj8 y309 y299 (y299.length : Int) (wrap64 (x13_1 + 1))) = some r := by first | (rw [hy309]; with_reducible exact H) | (have H2_ := (Option.bind_some _ _).symm.trans H; rw [hy309]; with_reducible exact H2_) | (have H2_ := (Option.bind_some _ _).symm.trans H; with_reducible exact H2_) | with_reducible exact H | (rw [hy309]; exact H) | exact H
             have Ny309 := Aside0.mk hy309
             clear hy309
             have H' := Aside0.mk H
             clear H
             have hnb25 := NB305_304.out
             have hnc25 := NB304_305.out
             have hcz26_0 : wc.cell? ⟨gb305, 0, none⟩ = some (.int .i64 (wrap64 (1 + (Int.tmod (wrap64 ((wrap64 (7 * x13_1)) + 3)) 20)))) := (blk_cell BK305.out 0).trans rfl
             have hcz26_1 : wc.cell? ⟨gb305, 1, none⟩ = some (.int .i64 (wrap64 (1 + (Int.tmod (wrap64 ((rd_T72 y299 x13_1).f1)) 5)))) := (blk_cell BK305.out 1).trans rfl
             have hcz26_2 : wc.cell? ⟨gb305, 2, none⟩ = some (.int .i64 x306002_8) := (blk_cell BK305.out 2).trans rfl
             have hcz26_3 : wc.cell? ⟨gb305, 3, none⟩ = some (.int .i64 (Int.tmod (wrap64 ((rd_T72 y299 x13_1).f3)) 80)) := (blk_cell BK305.out 3).trans rfl
             have hcz26_4 : wc.cell? ⟨gb305, 4, none⟩ = some (.int .i64 0) := (blk_cell BK305.out 4).trans rfl
             have hcz26_5 : wc.cell? ⟨gb305, 5, none⟩ = some (.int .u8 ((1 + (Int.tmod ((rd_T72 y299 x13_1).f0) 3)) % 256)) := (blk_cell BK305.out 5).trans rfl
             have hfz26_0 := blk_frozen BK305.out 0
             have hfz26_1 := blk_frozen BK305.out 1
             have hfz26_2 := blk_frozen BK305.out 2
             have hfz26_3 := blk_frozen BK305.out 3
             have hfz26_4 := blk_frozen BK305.out 4
             have hfz26_5 := blk_frozen BK305.out 5
             go_wp2_with (first | ((with_reducible refine gate_builtin (b := .append) (xs := #[.tmp 63, .tmp 65]) rfl ?_); at_builtin; refine Kd.R_append k41 (w0 := w) w.heap.size rfl (.tmp 63) (.tmp 65) 24 41 (.agg #[(.int .i64 0), (.int .i64 0), (.int .i64 0), (.int .i64 0), (.int .i64 0), (.int .u8 0)]) 48 rfl Try.underlying24 info41 rfl (by decide) (by omega) u3 x3_1 (⟨(wrap64 (1 + (Int.tmod (wrap64 ((wrap64 (7 * x13_1)) + 3)) 20))), (wrap64 (1 + (Int.tmod (wrap64 ((rd_T72 y299 x13_1).f1)) 5))), x306002_8, (Int.tmod (wrap64 ((rd_T72 y299 x13_1).f3)) 80), 0, ((1 + (Int.tmod ((rd_T72 y299 x13_1).f0) 3)) % 256)⟩ : S41) [.int .i64 (wrap64 (1 + (Int.tmod (wrap64 ((wrap64 (7 * x13_1)) + 3)) 20))), .int .i64 (wrap64 (1 + (Int.tmod (wrap64 ((rd_T72 y299 x13_1).f1)) 5))), .int .i64 x306002_8, .int .i64 (Int.tmod (wrap64 ((rd_T72 y299 x13_1).f3)) 80), .int .i64 0, .int .u8 ((1 + (Int.tmod ((rd_T72 y299 x13_1).f0) 3)) % 256)] (fun k_ => k_ ≠ gb305) (fun _ => False) rfl rfl ?aP (fun _ hk => hk.elim) ?aF ?aO ?aB ?aS ?aL ?_; (case aP => exact k41_mkM _ _ _ (⟨(wrap64 (1 + (Int.tmod (wrap64 ((wrap64 (7 * x13_1)) + 3)) 20))), (wrap64 (1 + (Int.tmod (wrap64 ((rd_T72 y299 x13_1).f1)) 5))), x306002_8, (Int.tmod (wrap64 ((rd_T72 y299 x13_1).f3)) 80), 0, ((1 + (Int.tmod ((rd_T72 y299 x13_1).f0) 3)) % 256)⟩ : S41)); (case aB => exact (by repeat (first | (with_reducible first | exact HB.out | apply below_alloc | apply pw_below_drewN | apply below_drew1 | refine below_set ?_ GE304.out | refine below_set ?_ GE305.out) | exact HB.out))); (case aF => exact (fun k_ hk => Kd.freshB (g := gb305) (o := .cells #[.int .i64 (wrap64 (1 + (Int.tmod (wrap64 ((wrap64 (7 * x13_1)) + 3)) 20))), .int .i64 (wrap64 (1 + (Int.tmod (wrap64 ((rd_T72 y299 x13_1).f1)) 5))), .int .i64 x306002_8, .int .i64 (Int.tmod (wrap64 ((rd_T72 y299 x13_1).f3)) 80), .int .i64 0, .int .u8 ((1 + (Int.tmod ((rd_T72 y299 x13_1).f0) 3)) % 256)] 41 (0, 0)) (by (with_reducible repeat (first | refine blk_drewN ?_ _ | refine blk_drew ?_ | refine blk_alloc ?_ _)); exact BK305.out) k_ hk)); (case aO => exact (by (with_reducible repeat (first | apply Kd.R_alloc | apply Kd.R_drewN | apply Kd.R_drew)); exact HO_3.out)); (case aS => exact (below_size (by repeat (first | (with_reducible first | exact HB.out | apply below_alloc | apply pw_below_drewN | apply below_drew1 | refine below_set ?_ GE304.out | refine below_set ?_ GE305.out) | exact HB.out)))); (case aL => have := LMc24.out; omega); intro v310 w27 ho hb hg hat; rw [← Ny309.out] at ho; have n0_ := Aside0.mk (blk_grown (g := gb304) (o := .cells #[.int .u8 ((rd_T72 y299 x13_1).f0), .int .u8 ((rd_T72 y299 x13_1).f1), .int .u8 ((rd_T72 y299 x13_1).f2), .int .u8 ((rd_T72 y299 x13_1).f3), .int .u8 ((rd_T72 y299 x13_1).f4)] 72 (0, 0)) (by (with_reducible repeat (first | refine blk_drewN ?_ _ | refine blk_drew ?_ | refine blk_alloc ?_ _)); exact BK304.out) hg (Kd.R_ne HO_3.out BK304.out (by decide))); have n1_ := Aside0.mk (blk_grown (g := gb305) (o := .cells #[.int .i64 (wrap64 (1 + (Int.tmod (wrap64 ((wrap64 (7 * x13_1)) + 3)) 20))), .int .i64 (wrap64 (1 + (Int.tmod (wrap64 ((rd_T72 y299 x13_1).f1)) 5))), .int .i64 x306002_8, .int .i64 (Int.tmod (wrap64 ((rd_T72 y299 x13_1).f3)) 80), .int .i64 0, .int .u8 ((1 + (Int.tmod ((rd_T72 y299 x13_1).f0) 3)) % 256)] 41 (0, 0)) (by (with_reducible repeat (first | refine blk_drewN ?_ _ | refine blk_drew ?_ | refine blk_alloc ?_ _)); exact BK305.out) hg (Kd.R_away HO_3.out (fun _ hk => hk))); have n2_ := Aside0.mk (hb); have n3_ := Aside0.mk (ho); clear BK304; clear BK305; clear HB; clear HO_3; have BK304 := n0_; have BK305 := n1_; have HB := n2_; have HO311 := n3_; clear n0_ n1_ n2_ n3_; clear ho hb hg hat))
             go_roundg kj8
             case measure => have := HK1.out; have := HJ8.out; omega
             case rel => exact ⟨(y309), (wrap64 (x13_1 + 1)), (by first | rfl | (simp; done) | (simp [*]; done)), H', ⟨by have := HK1.out; have := HJ8.out; omega⟩, ⟨by (with_reducible repeat (first | apply Kd.R_alloc | apply Kd.R_drewN | apply Kd.R_drew)); exact Kd.R_mono HO311.out (fun _ hk => trivial)⟩, ⟨by repeat (first | (with_reducible first | exact HB.out | apply below_alloc | apply pw_below_drewN | apply below_drew1 | refine below_set ?_ GE304.out | refine below_set ?_ GE305.out) | exact HB.out)⟩⟩
            ·rw [if_neg c24] at H
             exact absurd H (by simp)
          ·rw [if_neg c18] at H
           have c18b0 : (((1 + (Int.tmod ((rd_T72 y299 x13_1).f0) 3)) % 256) == 1) = false := beq_eq_false_iff_ne.mpr c18
           have c18b1 : (((1 + (Int.tmod ((rd_T72 y299 x13_1).f0) 3)) % 256) != 1) = true := bne_iff_ne.mpr c18
           by_cases c28 : ((1 + (Int.tmod ((rd_T72 y299 x13_1).f0) 3)) % 256) = 3
           ·rw [if_pos c28] at H
            have c28b0 : (((1 + (Int.tmod ((rd_T72 y299 x13_1).f0) 3)) % 256) == 3) = true := beq_iff_eq.mpr c28
            have c28b1 : (((1 + (Int.tmod ((rd_T72 y299 x13_1).f0) 3)) % 256) != 3) = false := bne_eq_false_iff_eq.mpr c28
            clear c28
            by_cases c29 : x3_1.length < 2932031007402
            ·rw [if_pos c29] at H
             have LMc29 := Aside0.mk c29
             clear c29
             obtain ⟨y312, hy312⟩ : ∃ y_ : List (S41), y_ = (x3_1 ++ [(⟨(wrap64 (1 + (Int.tmod (wrap64 ((wrap64 (7 * x13_1)) + 3)) 20))), (wrap64 (1 + (Int.tmod (wrap64 ((rd_T72 y299 x13_1).f1)) 5))), 0, (Int.tmod (wrap64 ((rd_T72 y299 x13_1).f3)) 80), wrap64 ((Int.tmod (wrap64 ((rd_T72 y299 x13_1).f3)) 80) + (Int.tmod (wrap64 (((rd_T72 y299 x13_1).f4))) 20)), ((1 + (Int.tmod ((rd_T72 y299 x13_1).f0) 3)) % 256)⟩ : S41)]) := ⟨_, rfl⟩
             replace H : (letterbaglaw35_Built.l0 kj8 y312 y299 (y299.length : Int) (wrap64 (x13_1 + 1))) = some r := by first | (rw [hy312]; with_reducible exact H) | (have H2_ := (Option.bind_some _ _).symm.trans H; rw [hy312]; with_reducible exact H2_) | (have H2_ := (Option.bind_some _ _).symm.trans H; with_reducible exact H2_) | with_reducible exact H | (rw [hy312]; exact H) | exact H
             have Ny312 := Aside0.mk hy312
             clear hy312
             have H' := Aside0.mk H
             clear H
             have hnb30 := NB305_304.out
             have hnc30 := NB304_305.out
             have hcz31_0 : wc.cell? ⟨gb305, 0, none⟩ = some (.int .i64 (wrap64 (1 + (Int.tmod (wrap64 ((wrap64 (7 * x13_1)) + 3)) 20)))) := (blk_cell BK305.out 0).trans rfl
             have hcz31_1 : wc.cell? ⟨gb305, 1, none⟩ = some (.int .i64 (wrap64 (1 + (Int.tmod (wrap64 ((rd_T72 y299 x13_1).f1)) 5)))) := (blk_cell BK305.out 1).trans rfl
             have hcz31_2 : wc.cell? ⟨gb305, 2, none⟩ = some (.int .i64 x306002_8) := (blk_cell BK305.out 2).trans rfl
             have hcz31_3 : wc.cell? ⟨gb305, 3, none⟩ = some (.int .i64 (Int.tmod (wrap64 ((rd_T72 y299 x13_1).f3)) 80)) := (blk_cell BK305.out 3).trans rfl
             have hcz31_4 : wc.cell? ⟨gb305, 4, none⟩ = some (.int .i64 0) := (blk_cell BK305.out 4).trans rfl
             have hcz31_5 : wc.cell? ⟨gb305, 5, none⟩ = some (.int .u8 ((1 + (Int.tmod ((rd_T72 y299 x13_1).f0) 3)) % 256)) := (blk_cell BK305.out 5).trans rfl
             have hfz31_0 := blk_frozen BK305.out 0
             have hfz31_1 := blk_frozen BK305.out 1
             have hfz31_2 := blk_frozen BK305.out 2
             have hfz31_3 := blk_frozen BK305.out 3
             have hfz31_4 := blk_frozen BK305.out 4
             have hfz31_5 := blk_frozen BK305.out 5
             have hcz32_0 : wc.cell? ⟨gb304, 0, none⟩ = some (.int .u8 ((rd_T72 y299 x13_1).f0)) := (blk_cell BK304.out 0).trans rfl
             have hcz32_1 : wc.cell? ⟨gb304, 1, none⟩ = some (.int .u8 ((rd_T72 y299 x13_1).f1)) := (blk_cell BK304.out 1).trans rfl
             have hcz32_2 : wc.cell? ⟨gb304, 2, none⟩ = some (.int .u8 ((rd_T72 y299 x13_1).f2)) := (blk_cell BK304.out 2).trans rfl
             have hcz32_3 : wc.cell? ⟨gb304, 3, none⟩ = some (.int .u8 ((rd_T72 y299 x13_1).f3)) := (blk_cell BK304.out 3).trans rfl
             have hcz32_4 : wc.cell? ⟨gb304, 4, none⟩ = some (.int .u8 ((rd_T72 y299 x13_1).f4)) := (blk_cell BK304.out 4).trans rfl
             have hfz32_0 := blk_frozen BK304.out 0
             have hfz32_1 := blk_frozen BK304.out 1
             have hfz32_2 := blk_frozen BK304.out 2
             have hfz32_3 := blk_frozen BK304.out 3
             have hfz32_4 := blk_frozen BK304.out 4
             go_wp2_with (first | ((with_reducible refine gate_builtin (b := .append) (xs := #[.tmp 63, .tmp 65]) rfl ?_); at_builtin; refine Kd.R_append k41 (w0 := w) w.heap.size rfl (.tmp 63) (.tmp 65) 24 41 (.agg #[(.int .i64 0), (.int .i64 0), (.int .i64 0), (.int .i64 0), (.int .i64 0), (.int .u8 0)]) 48 rfl Try.underlying24 info41 rfl (by decide) (by omega) u3 x3_1 (⟨(wrap64 (1 + (Int.tmod (wrap64 ((wrap64 (7 * x13_1)) + 3)) 20))), (wrap64 (1 + (Int.tmod (wrap64 ((rd_T72 y299 x13_1).f1)) 5))), 0, (Int.tmod (wrap64 ((rd_T72 y299 x13_1).f3)) 80), wrap64 ((Int.tmod (wrap64 ((rd_T72 y299 x13_1).f3)) 80) + (Int.tmod (wrap64 (((rd_T72 y299 x13_1).f4))) 20)), ((1 + (Int.tmod ((rd_T72 y299 x13_1).f0) 3)) % 256)⟩ : S41) [.int .i64 (wrap64 (1 + (Int.tmod (wrap64 ((wrap64 (7 * x13_1)) + 3)) 20))), .int .i64 (wrap64 (1 + (Int.tmod (wrap64 ((rd_T72 y299 x13_1).f1)) 5))), .int .i64 0, .int .i64 (Int.tmod (wrap64 ((rd_T72 y299 x13_1).f3)) 80), .int .i64 (wrap64 ((Int.tmod (wrap64 ((rd_T72 y299 x13_1).f3)) 80) + (Int.tmod (wrap64 (((rd_T72 y299 x13_1).f4))) 20))), .int .u8 ((1 + (Int.tmod ((rd_T72 y299 x13_1).f0) 3)) % 256)] (fun k_ => k_ ≠ gb305) (fun _ => False) rfl (by first | (go_simp; done) | (go_simp; rfl)) ?aP (fun _ hk => hk.elim) ?aF ?aO ?aB ?aS ?aL ?_; (case aP => exact k41_mkM _ _ _ (⟨(wrap64 (1 + (Int.tmod (wrap64 ((wrap64 (7 * x13_1)) + 3)) 20))), (wrap64 (1 + (Int.tmod (wrap64 ((rd_T72 y299 x13_1).f1)) 5))), 0, (Int.tmod (wrap64 ((rd_T72 y299 x13_1).f3)) 80), wrap64 ((Int.tmod (wrap64 ((rd_T72 y299 x13_1).f3)) 80) + (Int.tmod (wrap64 (((rd_T72 y299 x13_1).f4))) 20)), ((1 + (Int.tmod ((rd_T72 y299 x13_1).f0) 3)) % 256)⟩ : S41)); (case aB => exact (by repeat (first | (with_reducible first | exact HB.out | apply below_alloc | apply pw_below_drewN | apply below_drew1 | refine below_set ?_ GE304.out | refine below_set ?_ GE305.out) | exact HB.out))); (case aF => exact (fun k_ hk => Kd.freshB (g := gb305) (o := .cells #[.int .i64 (wrap64 (1 + (Int.tmod (wrap64 ((wrap64 (7 * x13_1)) + 3)) 20))), .int .i64 (wrap64 (1 + (Int.tmod (wrap64 ((rd_T72 y299 x13_1).f1)) 5))), .int .i64 0, .int .i64 (Int.tmod (wrap64 ((rd_T72 y299 x13_1).f3)) 80), .int .i64 (wrap64 ((Int.tmod (wrap64 ((rd_T72 y299 x13_1).f3)) 80) + (Int.tmod (wrap64 (((rd_T72 y299 x13_1).f4))) 20))), .int .u8 ((1 + (Int.tmod ((rd_T72 y299 x13_1).f0) 3)) % 256)] 41 (0, 0)) (by (with_reducible repeat (first | refine blk_drewN ?_ _ | refine blk_drew ?_ | refine blk_alloc ?_ _)); refine blk_put (cs := #[.int .i64 (wrap64 (1 + (Int.tmod (wrap64 ((wrap64 (7 * x13_1)) + 3)) 20))), .int .i64 (wrap64 (1 + (Int.tmod (wrap64 ((rd_T72 y299 x13_1).f1)) 5))), .int .i64 x306002_8, .int .i64 (Int.tmod (wrap64 ((rd_T72 y299 x13_1).f3)) 80), .int .i64 (wrap64 ((Int.tmod (wrap64 ((rd_T72 y299 x13_1).f3)) 80) + (Int.tmod (wrap64 (((rd_T72 y299 x13_1).f4))) 20))), .int .u8 ((1 + (Int.tmod ((rd_T72 y299 x13_1).f0) 3)) % 256)]) ?_ 2 _ rfl; (with_reducible repeat (first | refine blk_drewN ?_ _ | refine blk_drew ?_ | refine blk_alloc ?_ _)); refine blk_put (cs := #[.int .i64 (wrap64 (1 + (Int.tmod (wrap64 ((wrap64 (7 * x13_1)) + 3)) 20))), .int .i64 (wrap64 (1 + (Int.tmod (wrap64 ((rd_T72 y299 x13_1).f1)) 5))), .int .i64 x306002_8, .int .i64 (Int.tmod (wrap64 ((rd_T72 y299 x13_1).f3)) 80), .int .i64 0, .int .u8 ((1 + (Int.tmod ((rd_T72 y299 x13_1).f0) 3)) % 256)]) ?_ 4 _ rfl; (with_reducible repeat (first | refine blk_drewN ?_ _ | refine blk_drew ?_ | refine blk_alloc ?_ _)); exact BK305.out) k_ hk)); (case aO => exact (by (with_reducible repeat (first | apply Kd.R_alloc | apply Kd.R_drewN | apply Kd.R_drew)); exact Kd.R_mono (Kd.R_far (p := ⟨gb305, 2, none⟩) (Kd.R_far (p := ⟨gb305, 4, none⟩) (Kd.R_mono HO_3.out (fun k_ hk => (⟨hk, hk⟩ : _ ∧ k_ ≠ gb305))) (fun _ hk => hk.2) (.int .i64 (wrap64 ((Int.tmod (wrap64 ((rd_T72 y299 x13_1).f3)) 80) + (Int.tmod (wrap64 (((rd_T72 y299 x13_1).f4))) 20))))) (fun _ hk => hk.2) (.int .i64 0)) (fun _ hk => hk.1))); (case aS => exact (below_size (by repeat (first | (with_reducible first | exact HB.out | apply below_alloc | apply pw_below_drewN | apply below_drew1 | refine below_set ?_ GE304.out | refine below_set ?_ GE305.out) | exact HB.out)))); (case aL => have := LMc29.out; omega); intro v313 w33 ho hb hg hat; rw [← Ny312.out] at ho; have n0_ := Aside0.mk (blk_grown (g := gb304) (o := .cells #[.int .u8 ((rd_T72 y299 x13_1).f0), .int .u8 ((rd_T72 y299 x13_1).f1), .int .u8 ((rd_T72 y299 x13_1).f2), .int .u8 ((rd_T72 y299 x13_1).f3), .int .u8 ((rd_T72 y299 x13_1).f4)] 72 (0, 0)) (by (with_reducible repeat (first | refine blk_drewN ?_ _ | refine blk_drew ?_ | refine blk_alloc ?_ _)); refine blk_far ?_ NB304_305.out _; (with_reducible repeat (first | refine blk_drewN ?_ _ | refine blk_drew ?_ | refine blk_alloc ?_ _)); refine blk_far ?_ NB304_305.out _; (with_reducible repeat (first | refine blk_drewN ?_ _ | refine blk_drew ?_ | refine blk_alloc ?_ _)); exact BK304.out) hg (Kd.R_ne HO_3.out BK304.out (by decide))); have n1_ := Aside0.mk (blk_grown (g := gb305) (o := .cells #[.int .i64 (wrap64 (1 + (Int.tmod (wrap64 ((wrap64 (7 * x13_1)) + 3)) 20))), .int .i64 (wrap64 (1 + (Int.tmod (wrap64 ((rd_T72 y299 x13_1).f1)) 5))), .int .i64 0, .int .i64 (Int.tmod (wrap64 ((rd_T72 y299 x13_1).f3)) 80), .int .i64 (wrap64 ((Int.tmod (wrap64 ((rd_T72 y299 x13_1).f3)) 80) + (Int.tmod (wrap64 (((rd_T72 y299 x13_1).f4))) 20))), .int .u8 ((1 + (Int.tmod ((rd_T72 y299 x13_1).f0) 3)) % 256)] 41 (0, 0)) (by (with_reducible repeat (first | refine blk_drewN ?_ _ | refine blk_drew ?_ | refine blk_alloc ?_ _)); refine blk_put (cs := #[.int .i64 (wrap64 (1 + (Int.tmod (wrap64 ((wrap64 (7 * x13_1)) + 3)) 20))), .int .i64 (wrap64 (1 + (Int.tmod (wrap64 ((rd_T72 y299 x13_1).f1)) 5))), .int .i64 x306002_8, .int .i64 (Int.tmod (wrap64 ((rd_T72 y299 x13_1).f3)) 80), .int .i64 (wrap64 ((Int.tmod (wrap64 ((rd_T72 y299 x13_1).f3)) 80) + (Int.tmod (wrap64 (((rd_T72 y299 x13_1).f4))) 20))), .int .u8 ((1 + (Int.tmod ((rd_T72 y299 x13_1).f0) 3)) % 256)]) ?_ 2 _ rfl; (with_reducible repeat (first | refine blk_drewN ?_ _ | refine blk_drew ?_ | refine blk_alloc ?_ _)); refine blk_put (cs := #[.int .i64 (wrap64 (1 + (Int.tmod (wrap64 ((wrap64 (7 * x13_1)) + 3)) 20))), .int .i64 (wrap64 (1 + (Int.tmod (wrap64 ((rd_T72 y299 x13_1).f1)) 5))), .int .i64 x306002_8, .int .i64 (Int.tmod (wrap64 ((rd_T72 y299 x13_1).f3)) 80), .int .i64 0, .int .u8 ((1 + (Int.tmod ((rd_T72 y299 x13_1).f0) 3)) % 256)]) ?_ 4 _ rfl; (with_reducible repeat (first | refine blk_drewN ?_ _ | refine blk_drew ?_ | refine blk_alloc ?_ _)); exact BK305.out) hg (Kd.R_away HO_3.out (fun _ hk => hk))); have n2_ := Aside0.mk (hb); have n3_ := Aside0.mk (ho); clear BK304; clear BK305; clear HB; clear HO_3; have BK304 := n0_; have BK305 := n1_; have HB := n2_; have HO314 := n3_; clear n0_ n1_ n2_ n3_; clear ho hb hg hat))
             go_roundg kj8
             case measure => have := HK1.out; have := HJ8.out; omega
             case rel => exact ⟨(y312), (wrap64 (x13_1 + 1)), (by first | rfl | (simp; done) | (simp [*]; done)), H', ⟨by have := HK1.out; have := HJ8.out; omega⟩, ⟨by (with_reducible repeat (first | apply Kd.R_alloc | apply Kd.R_drewN | apply Kd.R_drew)); exact Kd.R_mono HO314.out (fun _ hk => trivial)⟩, ⟨by repeat (first | (with_reducible first | exact HB.out | apply below_alloc | apply pw_below_drewN | apply below_drew1 | refine below_set ?_ GE304.out | refine below_set ?_ GE305.out) | exact HB.out)⟩⟩
            ·rw [if_neg c29] at H
             exact absurd H (by simp)
           ·rw [if_neg c28] at H
            have c28b0 : (((1 + (Int.tmod ((rd_T72 y299 x13_1).f0) 3)) % 256) == 3) = false := beq_eq_false_iff_ne.mpr c28
            have c28b1 : (((1 + (Int.tmod ((rd_T72 y299 x13_1).f0) 3)) % 256) != 3) = true := bne_iff_ne.mpr c28
            by_cases c34 : x3_1.length < 2932031007402
            ·rw [if_pos c34] at H
             have LMc34 := Aside0.mk c34
             clear c34
             obtain ⟨y315, hy315⟩ : ∃ y_ : List (S41), y_ = (x3_1 ++ [(⟨(wrap64 (1 + (Int.tmod (wrap64 ((wrap64 (7 * x13_1)) + 3)) 20))), (wrap64 (1 + (Int.tmod (wrap64 ((rd_T72 y299 x13_1).f1)) 5))), x306002_8, (Int.tmod (wrap64 ((rd_T72 y299 x13_1).f3)) 80), wrap64 ((Int.tmod (wrap64 ((rd_T72 y299 x13_1).f3)) 80) + (Int.tmod (wrap64 (((rd_T72 y299 x13_1).f4))) 20)), ((1 + (Int.tmod ((rd_T72 y299 x13_1).f0) 3)) % 256)⟩ : S41)]) := ⟨_, rfl⟩
             replace H : (letterbaglaw35_Built.l0 kj8 y315 y299 (y299.length : Int) (wrap64 (x13_1 + 1))) = some r := by first | (rw [hy315]; with_reducible exact H) | (have H2_ := (Option.bind_some _ _).symm.trans H; rw [hy315]; with_reducible exact H2_) | (have H2_ := (Option.bind_some _ _).symm.trans H; with_reducible exact H2_) | with_reducible exact H | (rw [hy315]; exact H) | exact H
             have Ny315 := Aside0.mk hy315
             clear hy315
             have H' := Aside0.mk H
             clear H
             have hnb35 := NB305_304.out
             have hnc35 := NB304_305.out
             have hcz36_0 : wc.cell? ⟨gb305, 0, none⟩ = some (.int .i64 (wrap64 (1 + (Int.tmod (wrap64 ((wrap64 (7 * x13_1)) + 3)) 20)))) := (blk_cell BK305.out 0).trans rfl
             have hcz36_1 : wc.cell? ⟨gb305, 1, none⟩ = some (.int .i64 (wrap64 (1 + (Int.tmod (wrap64 ((rd_T72 y299 x13_1).f1)) 5)))) := (blk_cell BK305.out 1).trans rfl
             have hcz36_2 : wc.cell? ⟨gb305, 2, none⟩ = some (.int .i64 x306002_8) := (blk_cell BK305.out 2).trans rfl
             have hcz36_3 : wc.cell? ⟨gb305, 3, none⟩ = some (.int .i64 (Int.tmod (wrap64 ((rd_T72 y299 x13_1).f3)) 80)) := (blk_cell BK305.out 3).trans rfl
             have hcz36_4 : wc.cell? ⟨gb305, 4, none⟩ = some (.int .i64 0) := (blk_cell BK305.out 4).trans rfl
             have hcz36_5 : wc.cell? ⟨gb305, 5, none⟩ = some (.int .u8 ((1 + (Int.tmod ((rd_T72 y299 x13_1).f0) 3)) % 256)) := (blk_cell BK305.out 5).trans rfl
             have hfz36_0 := blk_frozen BK305.out 0
             have hfz36_1 := blk_frozen BK305.out 1
             have hfz36_2 := blk_frozen BK305.out 2
             have hfz36_3 := blk_frozen BK305.out 3
             have hfz36_4 := blk_frozen BK305.out 4
             have hfz36_5 := blk_frozen BK305.out 5
             have hcz37_0 : wc.cell? ⟨gb304, 0, none⟩ = some (.int .u8 ((rd_T72 y299 x13_1).f0)) := (blk_cell BK304.out 0).trans rfl
             have hcz37_1 : wc.cell? ⟨gb304, 1, none⟩ = some (.int .u8 ((rd_T72 y299 x13_1).f1)) := (blk_cell BK304.out 1).trans rfl
             have hcz37_2 : wc.cell? ⟨gb304, 2, none⟩ = some (.int .u8 ((rd_T72 y299 x13_1).f2)) := (blk_cell BK304.out 2).trans rfl
             have hcz37_3 : wc.cell? ⟨gb304, 3, none⟩ = some (.int .u8 ((rd_T72 y299 x13_1).f3)) := (blk_cell BK304.out 3).trans rfl
             have hcz37_4 : wc.cell? ⟨gb304, 4, none⟩ = some (.int .u8 ((rd_T72 y299 x13_1).f4)) := (blk_cell BK304.out 4).trans rfl
             have hfz37_0 := blk_frozen BK304.out 0
             have hfz37_1 := blk_frozen BK304.out 1
             have hfz37_2 := blk_frozen BK304.out 2
             have hfz37_3 := blk_frozen BK304.out 3
             have hfz37_4 := blk_frozen BK304.out 4
             go_wp2_with (first | ((with_reducible refine gate_builtin (b := .append) (xs := #[.tmp 63, .tmp 65]) rfl ?_); at_builtin; refine Kd.R_append k41 (w0 := w) w.heap.size rfl (.tmp 63) (.tmp 65) 24 41 (.agg #[(.int .i64 0), (.int .i64 0), (.int .i64 0), (.int .i64 0), (.int .i64 0), (.int .u8 0)]) 48 rfl Try.underlying24 info41 rfl (by decide) (by omega) u3 x3_1 (⟨(wrap64 (1 + (Int.tmod (wrap64 ((wrap64 (7 * x13_1)) + 3)) 20))), (wrap64 (1 + (Int.tmod (wrap64 ((rd_T72 y299 x13_1).f1)) 5))), x306002_8, (Int.tmod (wrap64 ((rd_T72 y299 x13_1).f3)) 80), wrap64 ((Int.tmod (wrap64 ((rd_T72 y299 x13_1).f3)) 80) + (Int.tmod (wrap64 (((rd_T72 y299 x13_1).f4))) 20)), ((1 + (Int.tmod ((rd_T72 y299 x13_1).f0) 3)) % 256)⟩ : S41) [.int .i64 (wrap64 (1 + (Int.tmod (wrap64 ((wrap64 (7 * x13_1)) + 3)) 20))), .int .i64 (wrap64 (1 + (Int.tmod (wrap64 ((rd_T72 y299 x13_1).f1)) 5))), .int .i64 x306002_8, .int .i64 (Int.tmod (wrap64 ((rd_T72 y299 x13_1).f3)) 80), .int .i64 (wrap64 ((Int.tmod (wrap64 ((rd_T72 y299 x13_1).f3)) 80) + (Int.tmod (wrap64 (((rd_T72 y299 x13_1).f4))) 20))), .int .u8 ((1 + (Int.tmod ((rd_T72 y299 x13_1).f0) 3)) % 256)] (fun k_ => k_ ≠ gb305) (fun _ => False) rfl (by first | (go_simp; done) | (go_simp; rfl)) ?aP (fun _ hk => hk.elim) ?aF ?aO ?aB ?aS ?aL ?_; (case aP => exact k41_mkM _ _ _ (⟨(wrap64 (1 + (Int.tmod (wrap64 ((wrap64 (7 * x13_1)) + 3)) 20))), (wrap64 (1 + (Int.tmod (wrap64 ((rd_T72 y299 x13_1).f1)) 5))), x306002_8, (Int.tmod (wrap64 ((rd_T72 y299 x13_1).f3)) 80), wrap64 ((Int.tmod (wrap64 ((rd_T72 y299 x13_1).f3)) 80) + (Int.tmod (wrap64 (((rd_T72 y299 x13_1).f4))) 20)), ((1 + (Int.tmod ((rd_T72 y299 x13_1).f0) 3)) % 256)⟩ : S41)); (case aB => exact (by repeat (first | (with_reducible first | exact HB.out | apply below_alloc | apply pw_below_drewN | apply below_drew1 | refine below_set ?_ GE304.out | refine below_set ?_ GE305.out) | exact HB.out))); (case aF => exact (fun k_ hk => Kd.freshB (g := gb305) (o := .cells #[.int .i64 (wrap64 (1 + (Int.tmod (wrap64 ((wrap64 (7 * x13_1)) + 3)) 20))), .int .i64 (wrap64 (1 + (Int.tmod (wrap64 ((rd_T72 y299 x13_1).f1)) 5))), .int .i64 x306002_8, .int .i64 (Int.tmod (wrap64 ((rd_T72 y299 x13_1).f3)) 80), .int .i64 (wrap64 ((Int.tmod (wrap64 ((rd_T72 y299 x13_1).f3)) 80) + (Int.tmod (wrap64 (((rd_T72 y299 x13_1).f4))) 20))), .int .u8 ((1 + (Int.tmod ((rd_T72 y299 x13_1).f0) 3)) % 256)] 41 (0, 0)) (by (with_reducible repeat (first | refine blk_drewN ?_ _ | refine blk_drew ?_ | refine blk_alloc ?_ _)); refine blk_put (cs := #[.int .i64 (wrap64 (1 + (Int.tmod (wrap64 ((wrap64 (7 * x13_1)) + 3)) 20))), .int .i64 (wrap64 (1 + (Int.tmod (wrap64 ((rd_T72 y299 x13_1).f1)) 5))), .int .i64 x306002_8, .int .i64 (Int.tmod (wrap64 ((rd_T72 y299 x13_1).f3)) 80), .int .i64 0, .int .u8 ((1 + (Int.tmod ((rd_T72 y299 x13_1).f0) 3)) % 256)]) ?_ 4 _ rfl; (with_reducible repeat (first | refine blk_drewN ?_ _ | refine blk_drew ?_ | refine blk_alloc ?_ _)); exact BK305.out) k_ hk)); (case aO => exact (by (with_reducible repeat (first | apply Kd.R_alloc | apply Kd.R_drewN | apply Kd.R_drew)); exact Kd.R_mono (Kd.R_far (p := ⟨gb305, 4, none⟩) (Kd.R_mono HO_3.out (fun k_ hk => (⟨hk, hk⟩ : _ ∧ k_ ≠ gb305))) (fun _ hk => hk.2) (.int .i64 (wrap64 ((Int.tmod (wrap64 ((rd_T72 y299 x13_1).f3)) 80) + (Int.tmod (wrap64 (((rd_T72 y299 x13_1).f4))) 20))))) (fun _ hk => hk.1))); (case aS => exact (below_size (by repeat (first | (with_reducible first | exact HB.out | apply below_alloc | apply pw_below_drewN | apply below_drew1 | refine below_set ?_ GE304.out | refine below_set ?_ GE305.out) | exact HB.out)))); (case aL => have := LMc34.out; omega); intro v316 w38 ho hb hg hat; rw [← Ny315.out] at ho; have n0_ := Aside0.mk (blk_grown (g := gb304) (o := .cells #[.int .u8 ((rd_T72 y299 x13_1).f0), .int .u8 ((rd_T72 y299 x13_1).f1), .int .u8 ((rd_T72 y299 x13_1).f2), .int .u8 ((rd_T72 y299 x13_1).f3), .int .u8 ((rd_T72 y299 x13_1).f4)] 72 (0, 0)) (by (with_reducible repeat (first | refine blk_drewN ?_ _ | refine blk_drew ?_ | refine blk_alloc ?_ _)); refine blk_far ?_ NB304_305.out _; (with_reducible repeat (first | refine blk_drewN ?_ _ | refine blk_drew ?_ | refine blk_alloc ?_ _)); exact BK304.out) hg (Kd.R_ne HO_3.out BK304.out (by decide))); have n1_ := Aside0.mk (blk_grown (g := gb305) (o := .cells #[.int .i64 (wrap64 (1 + (Int.tmod (wrap64 ((wrap64 (7 * x13_1)) + 3)) 20))), .int .i64 (wrap64 (1 + (Int.tmod (wrap64 ((rd_T72 y299 x13_1).f1)) 5))), .int .i64 x306002_8, .int .i64 (Int.tmod (wrap64 ((rd_T72 y299 x13_1).f3)) 80), .int .i64 (wrap64 ((Int.tmod (wrap64 ((rd_T72 y299 x13_1).f3)) 80) + (Int.tmod (wrap64 (((rd_T72 y299 x13_1).f4))) 20))), .int .u8 ((1 + (Int.tmod ((rd_T72 y299 x13_1).f0) 3)) % 256)] 41 (0, 0)) (by (with_reducible repeat (first | refine blk_drewN ?_ _ | refine blk_drew ?_ | refine blk_alloc ?_ _)); refine blk_put (cs := #[.int .i64 (wrap64 (1 + (Int.tmod (wrap64 ((wrap64 (7 * x13_1)) + 3)) 20))), .int .i64 (wrap64 (1 + (Int.tmod (wrap64 ((rd_T72 y299 x13_1).f1)) 5))), .int .i64 x306002_8, .int .i64 (Int.tmod (wrap64 ((rd_T72 y299 x13_1).f3)) 80), .int .i64 0, .int .u8 ((1 + (Int.tmod ((rd_T72 y299 x13_1).f0) 3)) % 256)]) ?_ 4 _ rfl; (with_reducible repeat (first | refine blk_drewN ?_ _ | refine blk_drew ?_ | refine blk_alloc ?_ _)); exact BK305.out) hg (Kd.R_away HO_3.out (fun _ hk => hk))); have n2_ := Aside0.mk (hb); have n3_ := Aside0.mk (ho); clear BK304; clear BK305; clear HB; clear HO_3; have BK304 := n0_; have BK305 := n1_; have HB := n2_; have HO317 := n3_; clear n0_ n1_ n2_ n3_; clear ho hb hg hat))
             go_roundg kj8
             case measure => have := HK1.out; have := HJ8.out; omega
             case rel => exact ⟨(y315), (wrap64 (x13_1 + 1)), (by first | rfl | (simp; done) | (simp [*]; done)), H', ⟨by have := HK1.out; have := HJ8.out; omega⟩, ⟨by (with_reducible repeat (first | apply Kd.R_alloc | apply Kd.R_drewN | apply Kd.R_drew)); exact Kd.R_mono HO317.out (fun _ hk => trivial)⟩, ⟨by repeat (first | (with_reducible first | exact HB.out | apply below_alloc | apply pw_below_drewN | apply below_drew1 | refine below_set ?_ GE304.out | refine below_set ?_ GE305.out) | exact HB.out)⟩⟩
            ·rw [if_neg c34] at H
             exact absurd H (by simp)
       ·rw [if_neg c8] at H
        exact absurd H (by simp)
      ·rw [if_neg c7] at H
       exact absurd H (by simp)
     ·rw [if_neg c6] at H
      have c6b0 : decide (x13_1 < (y299.length : Int)) = false := decide_eq_false c6
      clear c6
      obtain rfl := Option.some.inj H
      go_wp2
      go_ret
      exact ⟨_, by first | rfl | (simp [errW_none, errW_some] <;> rfl) | (simp only [← hji2]; first | rfl | (simp [errW_none, errW_some] <;> rfl)) | (simp [*, errW_none, errW_some] <;> rfl), by (with_reducible repeat (first | apply Kd.R_alloc | apply Kd.R_drewN | apply Kd.R_drew)); exact HO_3.out, by repeat (first | (with_reducible first | exact HB.out | apply below_alloc | apply pw_below_drewN | apply below_drew1) | exact HB.out)⟩
  ·rw [if_neg c4] at H
   exact absurd H (by simp)
 ·rw [if_neg c3] at H
  exact absurd H (by simp)
end Go.Proofs.Ytgffddbhnggllaa.QF
namespace Go.Proofs.Ytgffddbhnggllaa.QF
open Go.RowKit Go.Proofs.YtgffddbhnggllaaW.PrintWords Go.Proofs.YtgffddbhnggllaaW.PrintLast Go.Proofs.YtgffddbhnggllaaW.PrintMore
attribute [local go_sem] max2_int min2_int max_two min_two max_three min_three max_four min_four
set_option linter.unusedVariables false
set_option linter.unusedSimpArgs false
def order_within.f (a0 : Int) (a1 : Int) (a2 : Int) : Option (Bool) := if a0 ≥ a1 then (some (decide (a0 ≤ a2))) else (some false)
set_option maxHeartbeats 8000000 in
set_option maxRecDepth 100000 in
theorem order_within.calls (a0 : Int) (a1 : Int) (a2 : Int) (r : Bool) (w : World) (h : order_within.f a0 a1 a2 = some r) :
  Calls Try.prog 61 #[.int .i64 a0, .int .i64 a1, .int .i64 a2] w fun e w' => e = .returned (.bool r) ∧ Drawn0 w w' := by
 have H : (if a0 ≥ a1 then (some (decide (a0 ≤ a2))) else (some false)) = some r := h
 clear h
 by_cases c4 : a0 ≥ a1
 ·rw [if_pos c4] at H
  have c4b0 : decide (a1 ≤ a0) = true := decide_eq_true c4
  clear c4
  obtain rfl := Option.some.inj H
  go_enter Try.func61, Try.ntmps61
  go_wp2
  go_ret
  exact ⟨by first | rfl | (simp; done) | (simp [*]; done), by repeat (first | exact Drawn0.refl _ | apply Drawn0.step)⟩
 ·rw [if_neg c4] at H
  have c4b0 : decide (a1 ≤ a0) = false := decide_eq_false c4
  clear c4
  obtain rfl := Option.some.inj H
  go_enter Try.func61, Try.ntmps61
  go_wp2
  go_ret
  exact ⟨by first | rfl | (simp; done) | (simp [*]; done), by repeat (first | exact Drawn0.refl _ | apply Drawn0.step)⟩
end Go.Proofs.Ytgffddbhnggllaa.QF
namespace Go.Proofs.Ytgffddbhnggllaa.QF
open Go.RowKit Go.Proofs.YtgffddbhnggllaaW.PrintWords Go.Proofs.YtgffddbhnggllaaW.PrintLast Go.Proofs.YtgffddbhnggllaaW.PrintMore
attribute [local go_sem] max2_int min2_int max_two min_two max_three min_three max_four min_four
set_option linter.unusedVariables false
set_option linter.unusedSimpArgs false
mutual
def order_right.j0 : Nat → Bool → Int → Int → Int → Int → Int → Int → Option (Bool)
 | 0, _, _, _, _, _, _, _ => none
 | k + 1, x20, x102000, x102001, x102002, x102003, x102004, x102005 => if x20 = true then (some false) else ((order_within.f x102002 1 999999).bind fun t105 => (if t105 = true then (order_right.j1 k (x102002 != x102001) x102000 x102001 x102002 x102003 x102004 x102005) else (order_right.j1 k false x102000 x102001 x102002 x102003 x102004 x102005)))
def order_right.j1 : Nat → Bool → Int → Int → Int → Int → Int → Int → Option (Bool)
 | 0, _, _, _, _, _, _, _ => none
 | k + 1, x3, x102000, x102001, x102002, x102003, x102004, x102005 => (order_within.f x102004 x102003 730484).bind fun t106 => (if x102005 = 1 then (if x3 = true then (some (x102004 == 0)) else (some false)) else (if x102005 = 2 then (if x3 = true then (some t106) else (some false)) else (if x102005 = 3 then (if x102002 = 0 then (some t106) else (some false)) else (some false))))
end
def order_right.f (k : Nat) (a0_0 : Int) (a0_1 : Int) (a0_2 : Int) (a0_3 : Int) (a0_4 : Int) (a0_5 : Int) : Option (Bool) := (order_within.f a0_0 1 999999).bind fun t102 => (if t102 = true then ((order_within.f a0_1 1 999999).bind fun t103 => (if t103 = true then ((order_within.f a0_3 0 730484).bind fun t104 => (order_right.j0 k (!t104) a0_0 a0_1 a0_2 a0_3 a0_4 a0_5)) else (order_right.j0 k true a0_0 a0_1 a0_2 a0_3 a0_4 a0_5))) else (order_right.j0 k true a0_0 a0_1 a0_2 a0_3 a0_4 a0_5))
theorem order_right.mono_l : ∀ k, (∀ y0 y1 y2 y3 y4 y5 y6, LeO (order_right.j0 k y0 y1 y2 y3 y4 y5 y6) (order_right.j0 (k + 1) y0 y1 y2 y3 y4 y5 y6)) ∧ (∀ y0 y1 y2 y3 y4 y5 y6, LeO (order_right.j1 k y0 y1 y2 y3 y4 y5 y6) (order_right.j1 (k + 1) y0 y1 y2 y3 y4 y5 y6))
 | 0 => ⟨fun _ _ _ _ _ _ _ r h => by simp [order_right.j0] at h, fun _ _ _ _ _ _ _ r h => by simp [order_right.j1] at h⟩
 | k + 1 => by
  obtain ⟨ih0, ih1⟩ := order_right.mono_l k
  refine ⟨?_, ?_⟩
  ·intro y0 y1 y2 y3 y4 y5 y6
   unfold order_right.j0
   repeat' first
   | (with_reducible exact ih0 _ _ _ _ _ _ _)
   | (with_reducible exact ih1 _ _ _ _ _ _ _)
   | (with_reducible exact LeO.refl _)
   | (with_reducible exact LeO.none _)
   | (with_reducible refine LeO.ite ?_ ?_)
   | (with_reducible refine LeO.bind ?_ (fun _ => ?_))
   | exact ih0 _ _ _ _ _ _ _
   | exact ih1 _ _ _ _ _ _ _
   | exact LeO.none _
   | refine LeO.ite ?_ ?_
   | refine LeO.bind ?_ (fun _ => ?_)
  ·intro y0 y1 y2 y3 y4 y5 y6
   unfold order_right.j1
   repeat' first
   | (with_reducible exact ih0 _ _ _ _ _ _ _)
   | (with_reducible exact ih1 _ _ _ _ _ _ _)
   | (with_reducible exact LeO.refl _)
   | (with_reducible exact LeO.none _)
   | (with_reducible refine LeO.ite ?_ ?_)
   | (with_reducible refine LeO.bind ?_ (fun _ => ?_))
   | exact ih0 _ _ _ _ _ _ _
   | exact ih1 _ _ _ _ _ _ _
   | exact LeO.none _
   | refine LeO.ite ?_ ?_
   | refine LeO.bind ?_ (fun _ => ?_)
theorem order_right.mono : ∀ a0 a1 a2 a3 a4 a5 k, LeO (order_right.f k a0 a1 a2 a3 a4 a5) (order_right.f (k + 1) a0 a1 a2 a3 a4 a5) := by
 intro a0 a1 a2 a3 a4 a5 k
 obtain ⟨ih0, ih1⟩ := order_right.mono_l k
 unfold order_right.f
 repeat' first
   | (with_reducible exact ih0 _ _ _ _ _ _ _)
   | (with_reducible exact ih1 _ _ _ _ _ _ _)
   | (with_reducible exact LeO.refl _)
   | (with_reducible exact LeO.none _)
   | (with_reducible refine LeO.ite ?_ ?_)
   | (with_reducible refine LeO.bind ?_ (fun _ => ?_))
   | exact ih0 _ _ _ _ _ _ _
   | exact ih1 _ _ _ _ _ _ _
   | exact LeO.none _
   | refine LeO.ite ?_ ?_
   | refine LeO.bind ?_ (fun _ => ?_)
set_option maxHeartbeats 8000000 in
set_option maxRecDepth 100000 in
theorem order_right.calls (k : Nat) (a0_0 : Int) (a0_1 : Int) (a0_2 : Int) (a0_3 : Int) (a0_4 : Int) (a0_5 : Int) (r : Bool) (w : World) (h : order_right.f k a0_0 a0_1 a0_2 a0_3 a0_4 a0_5 = some r) :
  Calls Try.prog 65 #[.agg #[.int .i64 a0_0, .int .i64 a0_1, .int .i64 a0_2, .int .i64 a0_3, .int .i64 a0_4, .int .u8 a0_5]] w fun e w' => e = .returned (.bool r) ∧ Below w.heap.size w w' := by
 have hu41 := Try.underlying41
 have HB := Aside0.mk (Below.refl w.heap.size w)
 have H : ((order_within.f a0_0 1 999999).bind fun t102 => (if t102 = true then ((order_within.f a0_1 1 999999).bind fun t103 => (if t103 = true then ((order_within.f a0_3 0 730484).bind fun t104 => (order_right.j0 k (!t104) a0_0 a0_1 a0_2 a0_3 a0_4 a0_5)) else (order_right.j0 k true a0_0 a0_1 a0_2 a0_3 a0_4 a0_5))) else (order_right.j0 k true a0_0 a0_1 a0_2 a0_3 a0_4 a0_5))) = some r := h
 clear h
 have HC2 := Aside0.mk H
 clear H
 go_enter Try.func65, Try.ntmps65
 go_upto_region 1 with (first | ((with_reducible refine gate_dst (N := 1) rfl ?_); refine box_event ?hg (N := 1) ?hd (cs := #[.int .i64 a0_0, .int .i64 a0_1, .int .i64 a0_2, .int .i64 a0_3, .int .i64 a0_4, .int .u8 a0_5]) (t := 41) ?hr ?_; (case hd => rfl); (case hg => rfl); (case hr => first | (go_simp; done) | (go_simp; rfl)); intro gb101 hg w3 hbox hb; have n0_ := Aside0.mk (below_step (by repeat (first | (with_reducible first | exact HB.out | apply below_alloc | apply pw_below_drewN | apply below_drew1) | exact HB.out)) hb); have n1_ := Aside0.mk (hbox); have n2_ := Aside0.mk ((by rw [hg]; exact (below_size (by repeat (first | (with_reducible first | exact HB.out | apply below_alloc | apply pw_below_drewN | apply below_drew1) | exact HB.out))) : w.heap.size ≤ gb101)); have n3_ := Aside0.mk ((by rw [hg]; exact (below_size (by repeat (first | (with_reducible first | exact HB.out | apply below_alloc | apply pw_below_drewN | apply below_drew1) | exact HB.out))) : w.heap.size ≤ gb101)); clear HB; have HB := n0_; have BK101 := n1_; have GW101 := n2_; have GE101 := n3_; clear n0_ n1_ n2_ n3_; clear hb hbox hg))
 (try simp only [Act.put, List.setIfInBounds_toArray, List.set_cons_zero, List.set_cons_succ])
 go_cut [20] (fun v20 wc => ∃ (kq : Nat) (x20_1 : Bool), v20 = .bool x20_1 ∧ Aside0 (order_right.j0 kq x20_1 a0_0 a0_1 a0_2 a0_3 a0_4 a0_5 = some r) ∧ Aside0 (kq ≤ k) ∧ Aside0 (wc.heap[gb101]? = some (.cells #[.int .i64 a0_0, .int .i64 a0_1, .int .i64 a0_2, .int .i64 a0_3, .int .i64 a0_4, .int .u8 a0_5] 41 (0, 0))) ∧ Aside0 (Below w.heap.size w wc))
 case first =>
  have H := HC2.out
  clear HC2
  replace H := Option.bind_eq_some_iff.mp H
  obtain ⟨t102, A40, H⟩ := H
  replace H : (if t102 = true then ((order_within.f a0_1 1 999999).bind fun t103 => (if t103 = true then ((order_within.f a0_3 0 730484).bind fun t104 => (order_right.j0 k (!t104) a0_0 a0_1 a0_2 a0_3 a0_4 a0_5)) else (order_right.j0 k true a0_0 a0_1 a0_2 a0_3 a0_4 a0_5))) else (order_right.j0 k true a0_0 a0_1 a0_2 a0_3 a0_4 a0_5)) = some r := H
  have A4 := Aside0.mk A40
  clear A40
  by_cases c5 : t102 = true
  ·subst c5
   have H1 : ((order_within.f a0_1 1 999999).bind fun t103 => (if t103 = true then ((order_within.f a0_3 0 730484).bind fun t104 => (order_right.j0 k (!t104) a0_0 a0_1 a0_2 a0_3 a0_4 a0_5)) else (order_right.j0 k true a0_0 a0_1 a0_2 a0_3 a0_4 a0_5))) = some r := by rw [if_pos rfl] at H; exact H
   clear H
   have H := H1
   clear H1
   replace H := Option.bind_eq_some_iff.mp H
   obtain ⟨t103, A60, H⟩ := H
   replace H : (if t103 = true then ((order_within.f a0_3 0 730484).bind fun t104 => (order_right.j0 k (!t104) a0_0 a0_1 a0_2 a0_3 a0_4 a0_5)) else (order_right.j0 k true a0_0 a0_1 a0_2 a0_3 a0_4 a0_5)) = some r := H
   have A6 := Aside0.mk A60
   clear A60
   by_cases c7 : t103 = true
   ·subst c7
    have H1 : ((order_within.f a0_3 0 730484).bind fun t104 => (order_right.j0 k (!t104) a0_0 a0_1 a0_2 a0_3 a0_4 a0_5)) = some r := by rw [if_pos rfl] at H; exact H
    clear H
    have H := H1
    clear H1
    replace H := Option.bind_eq_some_iff.mp H
    obtain ⟨t104, A80, H⟩ := H
    replace H : (order_right.j0 k (!t104) a0_0 a0_1 a0_2 a0_3 a0_4 a0_5) = some r := H
    have A8 := Aside0.mk A80
    clear A80
    have H' := Aside0.mk H
    clear H
    have hcz9_0 : w3.cell? ⟨gb101, 0, none⟩ = some (.int .i64 a0_0) := (blk_cell BK101.out 0).trans rfl
    have hcz9_1 : w3.cell? ⟨gb101, 1, none⟩ = some (.int .i64 a0_1) := (blk_cell BK101.out 1).trans rfl
    have hcz9_2 : w3.cell? ⟨gb101, 2, none⟩ = some (.int .i64 a0_2) := (blk_cell BK101.out 2).trans rfl
    have hcz9_3 : w3.cell? ⟨gb101, 3, none⟩ = some (.int .i64 a0_3) := (blk_cell BK101.out 3).trans rfl
    have hcz9_4 : w3.cell? ⟨gb101, 4, none⟩ = some (.int .i64 a0_4) := (blk_cell BK101.out 4).trans rfl
    have hcz9_5 : w3.cell? ⟨gb101, 5, none⟩ = some (.int .u8 a0_5) := (blk_cell BK101.out 5).trans rfl
    have hfz9_0 := blk_frozen BK101.out 0
    have hfz9_1 := blk_frozen BK101.out 1
    have hfz9_2 := blk_frozen BK101.out 2
    have hfz9_3 := blk_frozen BK101.out 3
    have hfz9_4 := blk_frozen BK101.out 4
    have hfz9_5 := blk_frozen BK101.out 5
    go_wp2_with (first | ((with_reducible refine gate_callee (f := 61) rfl ?_); refine goesL_ (some 7) rfl rfl Try.func61 (by kernel_rfl) rfl #[.int .i64 a0_0, .int .i64 1, .int .i64 999999] rfl (by (try simp only [List.map_toArray, List.map_cons, List.map_nil]); first | done | rfl | (simp only [List.length_drop, List.length_take]; rfl)) ?_; (with_reducible refine (order_within.calls a0_0 1 999999 true _ A4.out).mono ?_); rintro e w' ⟨rfl, ⟨nd, rfl⟩⟩; refine ⟨_, rfl, ?_⟩) | (go_at_call 61; (with_reducible refine (order_within.calls a0_1 1 999999 true _ A6.out).mono ?_); rintro e w' ⟨rfl, ⟨nd, rfl⟩⟩) | (go_at_call 61; (with_reducible refine (order_within.calls a0_3 0 730484 t104 _ A8.out).mono ?_); rintro e w' ⟨rfl, ⟨nd, rfl⟩⟩))
    go_meet
    case rel => exact ⟨_, (!t104), (by first | rfl | (simp; done) | (simp [*]; done)), H', ⟨by first | omega | exact Nat.le_refl _⟩, ⟨by (with_reducible repeat (first | refine blk_drewN ?_ _ | refine blk_drew ?_ | refine blk_alloc ?_ _)); exact BK101.out⟩, ⟨by repeat (first | (with_reducible first | exact HB.out | apply below_alloc | apply pw_below_drewN | apply below_drew1 | refine below_set ?_ GE101.out) | exact HB.out)⟩⟩
   ·replace c7 := Bool.eq_false_iff.mpr c7
    subst c7
    have H1 : (order_right.j0 k true a0_0 a0_1 a0_2 a0_3 a0_4 a0_5) = some r := by rw [if_neg (show ¬ (false = true) by decide)] at H; exact H
    clear H
    have H := H1
    clear H1
    have H' := Aside0.mk H
    clear H
    have hcz10_0 : w3.cell? ⟨gb101, 0, none⟩ = some (.int .i64 a0_0) := (blk_cell BK101.out 0).trans rfl
    have hcz10_1 : w3.cell? ⟨gb101, 1, none⟩ = some (.int .i64 a0_1) := (blk_cell BK101.out 1).trans rfl
    have hcz10_2 : w3.cell? ⟨gb101, 2, none⟩ = some (.int .i64 a0_2) := (blk_cell BK101.out 2).trans rfl
    have hcz10_3 : w3.cell? ⟨gb101, 3, none⟩ = some (.int .i64 a0_3) := (blk_cell BK101.out 3).trans rfl
    have hcz10_4 : w3.cell? ⟨gb101, 4, none⟩ = some (.int .i64 a0_4) := (blk_cell BK101.out 4).trans rfl
    have hcz10_5 : w3.cell? ⟨gb101, 5, none⟩ = some (.int .u8 a0_5) := (blk_cell BK101.out 5).trans rfl
    have hfz10_0 := blk_frozen BK101.out 0
    have hfz10_1 := blk_frozen BK101.out 1
    have hfz10_2 := blk_frozen BK101.out 2
    have hfz10_3 := blk_frozen BK101.out 3
    have hfz10_4 := blk_frozen BK101.out 4
    have hfz10_5 := blk_frozen BK101.out 5
    go_wp2_with (first | ((with_reducible refine gate_callee (f := 61) rfl ?_); refine goesL_ (some 7) rfl rfl Try.func61 (by kernel_rfl) rfl #[.int .i64 a0_0, .int .i64 1, .int .i64 999999] rfl (by (try simp only [List.map_toArray, List.map_cons, List.map_nil]); first | done | rfl | (simp only [List.length_drop, List.length_take]; rfl)) ?_; (with_reducible refine (order_within.calls a0_0 1 999999 true _ A4.out).mono ?_); rintro e w' ⟨rfl, ⟨nd, rfl⟩⟩; refine ⟨_, rfl, ?_⟩) | (go_at_call 61; (with_reducible refine (order_within.calls a0_1 1 999999 false _ A6.out).mono ?_); rintro e w' ⟨rfl, ⟨nd, rfl⟩⟩))
    go_meet
    case rel => exact ⟨_, (true), (by first | rfl | (simp; done) | (simp [*]; done)), H', ⟨by first | omega | exact Nat.le_refl _⟩, ⟨by (with_reducible repeat (first | refine blk_drewN ?_ _ | refine blk_drew ?_ | refine blk_alloc ?_ _)); exact BK101.out⟩, ⟨by repeat (first | (with_reducible first | exact HB.out | apply below_alloc | apply pw_below_drewN | apply below_drew1 | refine below_set ?_ GE101.out) | exact HB.out)⟩⟩
  ·replace c5 := Bool.eq_false_iff.mpr c5
   subst c5
   have H1 : (order_right.j0 k true a0_0 a0_1 a0_2 a0_3 a0_4 a0_5) = some r := by rw [if_neg (show ¬ (false = true) by decide)] at H; exact H
   clear H
   have H := H1
   clear H1
   have H' := Aside0.mk H
   clear H
   have hcz11_0 : w3.cell? ⟨gb101, 0, none⟩ = some (.int .i64 a0_0) := (blk_cell BK101.out 0).trans rfl
   have hcz11_1 : w3.cell? ⟨gb101, 1, none⟩ = some (.int .i64 a0_1) := (blk_cell BK101.out 1).trans rfl
   have hcz11_2 : w3.cell? ⟨gb101, 2, none⟩ = some (.int .i64 a0_2) := (blk_cell BK101.out 2).trans rfl
   have hcz11_3 : w3.cell? ⟨gb101, 3, none⟩ = some (.int .i64 a0_3) := (blk_cell BK101.out 3).trans rfl
   have hcz11_4 : w3.cell? ⟨gb101, 4, none⟩ = some (.int .i64 a0_4) := (blk_cell BK101.out 4).trans rfl
   have hcz11_5 : w3.cell? ⟨gb101, 5, none⟩ = some (.int .u8 a0_5) := (blk_cell BK101.out 5).trans rfl
   have hfz11_0 := blk_frozen BK101.out 0
   have hfz11_1 := blk_frozen BK101.out 1
   have hfz11_2 := blk_frozen BK101.out 2
   have hfz11_3 := blk_frozen BK101.out 3
   have hfz11_4 := blk_frozen BK101.out 4
   have hfz11_5 := blk_frozen BK101.out 5
   go_wp2_with (first | ((with_reducible refine gate_callee (f := 61) rfl ?_); refine goesL_ (some 7) rfl rfl Try.func61 (by kernel_rfl) rfl #[.int .i64 a0_0, .int .i64 1, .int .i64 999999] rfl (by (try simp only [List.map_toArray, List.map_cons, List.map_nil]); first | done | rfl | (simp only [List.length_drop, List.length_take]; rfl)) ?_; (with_reducible refine (order_within.calls a0_0 1 999999 false _ A4.out).mono ?_); rintro e w' ⟨rfl, ⟨nd, rfl⟩⟩; refine ⟨_, rfl, ?_⟩))
   go_meet
   case rel => exact ⟨_, (true), (by first | rfl | (simp; done) | (simp [*]; done)), H', ⟨by first | omega | exact Nat.le_refl _⟩, ⟨by (with_reducible repeat (first | refine blk_drewN ?_ _ | refine blk_drew ?_ | refine blk_alloc ?_ _)); exact BK101.out⟩, ⟨by repeat (first | (with_reducible first | exact HB.out | apply below_alloc | apply pw_below_drewN | apply below_drew1 | refine below_set ?_ GE101.out) | exact HB.out)⟩⟩
 case rest =>
  clear HC2
  try clear p2
  try clear c5
  try clear c6
  try clear c7
  try clear hcz10_0
  try clear hcz10_1
  try clear hcz10_2
  try clear hcz10_3
  try clear hcz10_4
  try clear hcz10_5
  try clear hcz11_0
  try clear hcz11_1
  try clear hcz11_2
  try clear hcz11_3
  try clear hcz11_4
  try clear hcz11_5
  try clear hcz9_0
  try clear hcz9_1
  try clear hcz9_2
  try clear hcz9_3
  try clear hcz9_4
  try clear hcz9_5
  try clear hfz10_0
  try clear hfz10_1
  try clear hfz10_2
  try clear hfz10_3
  try clear hfz10_4
  try clear hfz10_5
  try clear hfz11_0
  try clear hfz11_1
  try clear hfz11_2
  try clear hfz11_3
  try clear hfz11_4
  try clear hfz11_5
  try clear hfz9_0
  try clear hfz9_1
  try clear hfz9_2
  try clear hfz9_3
  try clear hfz9_4
  try clear hfz9_5
  obtain ⟨kq, x20_1, rfl, HA, HJ1, BK101, HB⟩ := hcut
  cases kq with
  | zero => exact absurd HA.out (by simp [order_right.j0])
  | succ kj1 =>
   have H := HA.out
   clear HA
   simp only [order_right.j0] at H
   by_cases c12 : x20_1 = true
   ·subst c12
    have H1 : (some false) = some r := by rw [if_pos rfl] at H; exact H
    clear H
    have H := H1
    clear H1
    obtain rfl := Option.some.inj H
    go_wp2
    go_ret
    exact ⟨by first | rfl | (simp [errW_none, errW_some] <;> rfl) | (simp [*, errW_none, errW_some] <;> rfl), by repeat (first | (with_reducible first | exact HB.out | apply below_alloc | apply pw_below_drewN | apply below_drew1 | refine below_set ?_ GE101.out) | exact HB.out)⟩
   ·replace c12 := Bool.eq_false_iff.mpr c12
    subst c12
    have H1 : ((order_within.f a0_2 1 999999).bind fun t105 => (if t105 = true then (order_right.j1 kj1 (a0_2 != a0_1) a0_0 a0_1 a0_2 a0_3 a0_4 a0_5) else (order_right.j1 kj1 false a0_0 a0_1 a0_2 a0_3 a0_4 a0_5))) = some r := by rw [if_neg (show ¬ (false = true) by decide)] at H; exact H
    clear H
    have H := H1
    clear H1
    have HC13 := Aside0.mk H
    clear H
    go_upto_region 3 with (fail)
    go_cut [3] (fun v3 wc => ∃ (kq : Nat) (x3_12 : Bool), v3 = .bool x3_12 ∧ Aside0 (order_right.j1 kq x3_12 a0_0 a0_1 a0_2 a0_3 a0_4 a0_5 = some r) ∧ Aside0 (kq ≤ kj1) ∧ Aside0 (wc.heap[gb101]? = some (.cells #[.int .i64 a0_0, .int .i64 a0_1, .int .i64 a0_2, .int .i64 a0_3, .int .i64 a0_4, .int .u8 a0_5] 41 (0, 0))) ∧ Aside0 (Below w.heap.size w wc))
    case first =>
     have H := HC13.out
     clear HC13
     replace H := Option.bind_eq_some_iff.mp H
     obtain ⟨t105, A140, H⟩ := H
     replace H : (if t105 = true then (order_right.j1 kj1 (a0_2 != a0_1) a0_0 a0_1 a0_2 a0_3 a0_4 a0_5) else (order_right.j1 kj1 false a0_0 a0_1 a0_2 a0_3 a0_4 a0_5)) = some r := H
     have A14 := Aside0.mk A140
     clear A140
     by_cases c15 : t105 = true
     ·subst c15
      have H1 : (order_right.j1 kj1 (a0_2 != a0_1) a0_0 a0_1 a0_2 a0_3 a0_4 a0_5) = some r := by rw [if_pos rfl] at H; exact H
      clear H
      have H := H1
      clear H1
      have H' := Aside0.mk H
      clear H
      have hcz16_0 : wc.cell? ⟨gb101, 0, none⟩ = some (.int .i64 a0_0) := (blk_cell BK101.out 0).trans rfl
      have hcz16_1 : wc.cell? ⟨gb101, 1, none⟩ = some (.int .i64 a0_1) := (blk_cell BK101.out 1).trans rfl
      have hcz16_2 : wc.cell? ⟨gb101, 2, none⟩ = some (.int .i64 a0_2) := (blk_cell BK101.out 2).trans rfl
      have hcz16_3 : wc.cell? ⟨gb101, 3, none⟩ = some (.int .i64 a0_3) := (blk_cell BK101.out 3).trans rfl
      have hcz16_4 : wc.cell? ⟨gb101, 4, none⟩ = some (.int .i64 a0_4) := (blk_cell BK101.out 4).trans rfl
      have hcz16_5 : wc.cell? ⟨gb101, 5, none⟩ = some (.int .u8 a0_5) := (blk_cell BK101.out 5).trans rfl
      have hfz16_0 := blk_frozen BK101.out 0
      have hfz16_1 := blk_frozen BK101.out 1
      have hfz16_2 := blk_frozen BK101.out 2
      have hfz16_3 := blk_frozen BK101.out 3
      have hfz16_4 := blk_frozen BK101.out 4
      have hfz16_5 := blk_frozen BK101.out 5
      go_wp2_with (first | ((with_reducible refine gate_callee (f := 61) rfl ?_); refine goesL_ (some 23) rfl rfl Try.func61 (by kernel_rfl) rfl #[.int .i64 a0_2, .int .i64 1, .int .i64 999999] rfl (by (try simp only [List.map_toArray, List.map_cons, List.map_nil]); first | done | rfl | (simp only [List.length_drop, List.length_take]; rfl)) ?_; (with_reducible refine (order_within.calls a0_2 1 999999 true _ A14.out).mono ?_); rintro e w' ⟨rfl, ⟨nd, rfl⟩⟩; refine ⟨_, rfl, ?_⟩))
      go_meet
      case rel => exact ⟨_, ((a0_2 != a0_1)), (by first | rfl | (simp; done) | (simp [*]; done)), H', ⟨by have := HJ1.out; first | omega | exact Nat.le_refl _⟩, ⟨by (with_reducible repeat (first | refine blk_drewN ?_ _ | refine blk_drew ?_ | refine blk_alloc ?_ _)); exact BK101.out⟩, ⟨by repeat (first | (with_reducible first | exact HB.out | apply below_alloc | apply pw_below_drewN | apply below_drew1 | refine below_set ?_ GE101.out) | exact HB.out)⟩⟩
     ·replace c15 := Bool.eq_false_iff.mpr c15
      subst c15
      have H1 : (order_right.j1 kj1 false a0_0 a0_1 a0_2 a0_3 a0_4 a0_5) = some r := by rw [if_neg (show ¬ (false = true) by decide)] at H; exact H
      clear H
      have H := H1
      clear H1
      have H' := Aside0.mk H
      clear H
      have hcz17_0 : wc.cell? ⟨gb101, 0, none⟩ = some (.int .i64 a0_0) := (blk_cell BK101.out 0).trans rfl
      have hcz17_1 : wc.cell? ⟨gb101, 1, none⟩ = some (.int .i64 a0_1) := (blk_cell BK101.out 1).trans rfl
      have hcz17_2 : wc.cell? ⟨gb101, 2, none⟩ = some (.int .i64 a0_2) := (blk_cell BK101.out 2).trans rfl
      have hcz17_3 : wc.cell? ⟨gb101, 3, none⟩ = some (.int .i64 a0_3) := (blk_cell BK101.out 3).trans rfl
      have hcz17_4 : wc.cell? ⟨gb101, 4, none⟩ = some (.int .i64 a0_4) := (blk_cell BK101.out 4).trans rfl
      have hcz17_5 : wc.cell? ⟨gb101, 5, none⟩ = some (.int .u8 a0_5) := (blk_cell BK101.out 5).trans rfl
      have hfz17_0 := blk_frozen BK101.out 0
      have hfz17_1 := blk_frozen BK101.out 1
      have hfz17_2 := blk_frozen BK101.out 2
      have hfz17_3 := blk_frozen BK101.out 3
      have hfz17_4 := blk_frozen BK101.out 4
      have hfz17_5 := blk_frozen BK101.out 5
      go_wp2_with (first | ((with_reducible refine gate_callee (f := 61) rfl ?_); refine goesL_ (some 23) rfl rfl Try.func61 (by kernel_rfl) rfl #[.int .i64 a0_2, .int .i64 1, .int .i64 999999] rfl (by (try simp only [List.map_toArray, List.map_cons, List.map_nil]); first | done | rfl | (simp only [List.length_drop, List.length_take]; rfl)) ?_; (with_reducible refine (order_within.calls a0_2 1 999999 false _ A14.out).mono ?_); rintro e w' ⟨rfl, ⟨nd, rfl⟩⟩; refine ⟨_, rfl, ?_⟩))
      go_meet
      case rel => exact ⟨_, (false), (by first | rfl | (simp; done) | (simp [*]; done)), H', ⟨by have := HJ1.out; first | omega | exact Nat.le_refl _⟩, ⟨by (with_reducible repeat (first | refine blk_drewN ?_ _ | refine blk_drew ?_ | refine blk_alloc ?_ _)); exact BK101.out⟩, ⟨by repeat (first | (with_reducible first | exact HB.out | apply below_alloc | apply pw_below_drewN | apply below_drew1 | refine below_set ?_ GE101.out) | exact HB.out)⟩⟩
    case rest =>
     clear HC13
     try clear c1
     try clear p2
     try clear c5
     try clear c6
     try clear c7
     try clear c12
     try clear c15
     try clear hcz10_0
     try clear hcz10_1
     try clear hcz10_2
     try clear hcz10_3
     try clear hcz10_4
     try clear hcz10_5
     try clear hcz11_0
     try clear hcz11_1
     try clear hcz11_2
     try clear hcz11_3
     try clear hcz11_4
     try clear hcz11_5
     try clear hcz16_0
     try clear hcz16_1
     try clear hcz16_2
     try clear hcz16_3
     try clear hcz16_4
     try clear hcz16_5
     try clear hcz17_0
     try clear hcz17_1
     try clear hcz17_2
     try clear hcz17_3
     try clear hcz17_4
     try clear hcz17_5
     try clear hcz9_0
     try clear hcz9_1
     try clear hcz9_2
     try clear hcz9_3
     try clear hcz9_4
     try clear hcz9_5
     try clear hfz10_0
     try clear hfz10_1
     try clear hfz10_2
     try clear hfz10_3
     try clear hfz10_4
     try clear hfz10_5
     try clear hfz11_0
     try clear hfz11_1
     try clear hfz11_2
     try clear hfz11_3
     try clear hfz11_4
     try clear hfz11_5
     try clear hfz16_0
     try clear hfz16_1
     try clear hfz16_2
     try clear hfz16_3
     try clear hfz16_4
     try clear hfz16_5
     try clear hfz17_0
     try clear hfz17_1
     try clear hfz17_2
     try clear hfz17_3
     try clear hfz17_4
     try clear hfz17_5
     try clear hfz9_0
     try clear hfz9_1
     try clear hfz9_2
     try clear hfz9_3
     try clear hfz9_4
     try clear hfz9_5
     try clear p2
     obtain ⟨kq, x3_12, rfl, HA, HJ12, BK101, HB⟩ := hcut
     cases kq with
     | zero => exact absurd HA.out (by simp [order_right.j1])
     | succ kj12 =>
      have H := HA.out
      clear HA
      simp only [order_right.j1] at H
      replace H := Option.bind_eq_some_iff.mp H
      obtain ⟨t106, A180, H⟩ := H
      replace H : (if a0_5 = 1 then (if x3_12 = true then (some (a0_4 == 0)) else (some false)) else (if a0_5 = 2 then (if x3_12 = true then (some t106) else (some false)) else (if a0_5 = 3 then (if a0_2 = 0 then (some t106) else (some false)) else (some false)))) = some r := H
      have A18 := Aside0.mk A180
      clear A180
      by_cases c19 : a0_5 = 1
      ·rw [if_pos c19] at H
       have c19b0 : (a0_5 == 1) = true := beq_iff_eq.mpr c19
       have c19b1 : (a0_5 != 1) = false := bne_eq_false_iff_eq.mpr c19
       clear c19
       by_cases c20 : x3_12 = true
       ·subst c20
        have H1 : (some (a0_4 == 0)) = some r := by rw [if_pos rfl] at H; exact H
        clear H
        have H := H1
        clear H1
        obtain rfl := Option.some.inj H
        have hcz21_0 : wc.cell? ⟨gb101, 0, none⟩ = some (.int .i64 a0_0) := (blk_cell BK101.out 0).trans rfl
        have hcz21_1 : wc.cell? ⟨gb101, 1, none⟩ = some (.int .i64 a0_1) := (blk_cell BK101.out 1).trans rfl
        have hcz21_2 : wc.cell? ⟨gb101, 2, none⟩ = some (.int .i64 a0_2) := (blk_cell BK101.out 2).trans rfl
        have hcz21_3 : wc.cell? ⟨gb101, 3, none⟩ = some (.int .i64 a0_3) := (blk_cell BK101.out 3).trans rfl
        have hcz21_4 : wc.cell? ⟨gb101, 4, none⟩ = some (.int .i64 a0_4) := (blk_cell BK101.out 4).trans rfl
        have hcz21_5 : wc.cell? ⟨gb101, 5, none⟩ = some (.int .u8 a0_5) := (blk_cell BK101.out 5).trans rfl
        have hfz21_0 := blk_frozen BK101.out 0
        have hfz21_1 := blk_frozen BK101.out 1
        have hfz21_2 := blk_frozen BK101.out 2
        have hfz21_3 := blk_frozen BK101.out 3
        have hfz21_4 := blk_frozen BK101.out 4
        have hfz21_5 := blk_frozen BK101.out 5
        go_wp2_with (first | ((with_reducible refine gate_callee (f := 61) rfl ?_); refine goesL_ (some 35) rfl rfl Try.func61 (by kernel_rfl) rfl #[.int .i64 a0_4, .int .i64 a0_3, .int .i64 730484] rfl (by (try simp only [List.map_toArray, List.map_cons, List.map_nil]); first | done | rfl | (simp only [List.length_drop, List.length_take]; rfl)) ?_; (with_reducible refine (order_within.calls a0_4 a0_3 730484 t106 _ A18.out).mono ?_); rintro e w' ⟨rfl, ⟨nd, rfl⟩⟩; refine ⟨_, rfl, ?_⟩))
        go_ret
        exact ⟨by first | rfl | (simp [errW_none, errW_some] <;> rfl) | (simp [*, errW_none, errW_some] <;> rfl), by repeat (first | (with_reducible first | exact HB.out | apply below_alloc | apply pw_below_drewN | apply below_drew1 | refine below_set ?_ GE101.out) | exact HB.out)⟩
       ·replace c20 := Bool.eq_false_iff.mpr c20
        subst c20
        have H1 : (some false) = some r := by rw [if_neg (show ¬ (false = true) by decide)] at H; exact H
        clear H
        have H := H1
        clear H1
        obtain rfl := Option.some.inj H
        have hcz22_0 : wc.cell? ⟨gb101, 0, none⟩ = some (.int .i64 a0_0) := (blk_cell BK101.out 0).trans rfl
        have hcz22_1 : wc.cell? ⟨gb101, 1, none⟩ = some (.int .i64 a0_1) := (blk_cell BK101.out 1).trans rfl
        have hcz22_2 : wc.cell? ⟨gb101, 2, none⟩ = some (.int .i64 a0_2) := (blk_cell BK101.out 2).trans rfl
        have hcz22_3 : wc.cell? ⟨gb101, 3, none⟩ = some (.int .i64 a0_3) := (blk_cell BK101.out 3).trans rfl
        have hcz22_4 : wc.cell? ⟨gb101, 4, none⟩ = some (.int .i64 a0_4) := (blk_cell BK101.out 4).trans rfl
        have hcz22_5 : wc.cell? ⟨gb101, 5, none⟩ = some (.int .u8 a0_5) := (blk_cell BK101.out 5).trans rfl
        have hfz22_0 := blk_frozen BK101.out 0
        have hfz22_1 := blk_frozen BK101.out 1
        have hfz22_2 := blk_frozen BK101.out 2
        have hfz22_3 := blk_frozen BK101.out 3
        have hfz22_4 := blk_frozen BK101.out 4
        have hfz22_5 := blk_frozen BK101.out 5
        go_wp2_with (first | ((with_reducible refine gate_callee (f := 61) rfl ?_); refine goesL_ (some 35) rfl rfl Try.func61 (by kernel_rfl) rfl #[.int .i64 a0_4, .int .i64 a0_3, .int .i64 730484] rfl (by (try simp only [List.map_toArray, List.map_cons, List.map_nil]); first | done | rfl | (simp only [List.length_drop, List.length_take]; rfl)) ?_; (with_reducible refine (order_within.calls a0_4 a0_3 730484 t106 _ A18.out).mono ?_); rintro e w' ⟨rfl, ⟨nd, rfl⟩⟩; refine ⟨_, rfl, ?_⟩))
        go_ret
        exact ⟨by first | rfl | (simp [errW_none, errW_some] <;> rfl) | (simp [*, errW_none, errW_some] <;> rfl), by repeat (first | (with_reducible first | exact HB.out | apply below_alloc | apply pw_below_drewN | apply below_drew1 | refine below_set ?_ GE101.out) | exact HB.out)⟩
      ·rw [if_neg c19] at H
       have c19b0 : (a0_5 == 1) = false := beq_eq_false_iff_ne.mpr c19
       have c19b1 : (a0_5 != 1) = true := bne_iff_ne.mpr c19
       by_cases c23 : a0_5 = 2
       ·rw [if_pos c23] at H
        have c23b0 : (a0_5 == 2) = true := beq_iff_eq.mpr c23
        have c23b1 : (a0_5 != 2) = false := bne_eq_false_iff_eq.mpr c23
        clear c23
        by_cases c24 : x3_12 = true
        ·subst c24
         have H1 : (some t106) = some r := by rw [if_pos rfl] at H; exact H
         clear H
         have H := H1
         clear H1
         obtain rfl := Option.some.inj H
         have hcz25_0 : wc.cell? ⟨gb101, 0, none⟩ = some (.int .i64 a0_0) := (blk_cell BK101.out 0).trans rfl
         have hcz25_1 : wc.cell? ⟨gb101, 1, none⟩ = some (.int .i64 a0_1) := (blk_cell BK101.out 1).trans rfl
         have hcz25_2 : wc.cell? ⟨gb101, 2, none⟩ = some (.int .i64 a0_2) := (blk_cell BK101.out 2).trans rfl
         have hcz25_3 : wc.cell? ⟨gb101, 3, none⟩ = some (.int .i64 a0_3) := (blk_cell BK101.out 3).trans rfl
         have hcz25_4 : wc.cell? ⟨gb101, 4, none⟩ = some (.int .i64 a0_4) := (blk_cell BK101.out 4).trans rfl
         have hcz25_5 : wc.cell? ⟨gb101, 5, none⟩ = some (.int .u8 a0_5) := (blk_cell BK101.out 5).trans rfl
         have hfz25_0 := blk_frozen BK101.out 0
         have hfz25_1 := blk_frozen BK101.out 1
         have hfz25_2 := blk_frozen BK101.out 2
         have hfz25_3 := blk_frozen BK101.out 3
         have hfz25_4 := blk_frozen BK101.out 4
         have hfz25_5 := blk_frozen BK101.out 5
         go_wp2_with (first | ((with_reducible refine gate_callee (f := 61) rfl ?_); refine goesL_ (some 35) rfl rfl Try.func61 (by kernel_rfl) rfl #[.int .i64 a0_4, .int .i64 a0_3, .int .i64 730484] rfl (by (try simp only [List.map_toArray, List.map_cons, List.map_nil]); first | done | rfl | (simp only [List.length_drop, List.length_take]; rfl)) ?_; (with_reducible refine (order_within.calls a0_4 a0_3 730484 t106 _ A18.out).mono ?_); rintro e w' ⟨rfl, ⟨nd, rfl⟩⟩; refine ⟨_, rfl, ?_⟩))
         go_ret
         exact ⟨by first | rfl | (simp [errW_none, errW_some] <;> rfl) | (simp [*, errW_none, errW_some] <;> rfl), by repeat (first | (with_reducible first | exact HB.out | apply below_alloc | apply pw_below_drewN | apply below_drew1 | refine below_set ?_ GE101.out) | exact HB.out)⟩
        ·replace c24 := Bool.eq_false_iff.mpr c24
         subst c24
         have H1 : (some false) = some r := by rw [if_neg (show ¬ (false = true) by decide)] at H; exact H
         clear H
         have H := H1
         clear H1
         obtain rfl := Option.some.inj H
         have hcz26_0 : wc.cell? ⟨gb101, 0, none⟩ = some (.int .i64 a0_0) := (blk_cell BK101.out 0).trans rfl
         have hcz26_1 : wc.cell? ⟨gb101, 1, none⟩ = some (.int .i64 a0_1) := (blk_cell BK101.out 1).trans rfl
         have hcz26_2 : wc.cell? ⟨gb101, 2, none⟩ = some (.int .i64 a0_2) := (blk_cell BK101.out 2).trans rfl
         have hcz26_3 : wc.cell? ⟨gb101, 3, none⟩ = some (.int .i64 a0_3) := (blk_cell BK101.out 3).trans rfl
         have hcz26_4 : wc.cell? ⟨gb101, 4, none⟩ = some (.int .i64 a0_4) := (blk_cell BK101.out 4).trans rfl
         have hcz26_5 : wc.cell? ⟨gb101, 5, none⟩ = some (.int .u8 a0_5) := (blk_cell BK101.out 5).trans rfl
         have hfz26_0 := blk_frozen BK101.out 0
         have hfz26_1 := blk_frozen BK101.out 1
         have hfz26_2 := blk_frozen BK101.out 2
         have hfz26_3 := blk_frozen BK101.out 3
         have hfz26_4 := blk_frozen BK101.out 4
         have hfz26_5 := blk_frozen BK101.out 5
         go_wp2_with (first | ((with_reducible refine gate_callee (f := 61) rfl ?_); refine goesL_ (some 35) rfl rfl Try.func61 (by kernel_rfl) rfl #[.int .i64 a0_4, .int .i64 a0_3, .int .i64 730484] rfl (by (try simp only [List.map_toArray, List.map_cons, List.map_nil]); first | done | rfl | (simp only [List.length_drop, List.length_take]; rfl)) ?_; (with_reducible refine (order_within.calls a0_4 a0_3 730484 t106 _ A18.out).mono ?_); rintro e w' ⟨rfl, ⟨nd, rfl⟩⟩; refine ⟨_, rfl, ?_⟩))
         go_ret
         exact ⟨by first | rfl | (simp [errW_none, errW_some] <;> rfl) | (simp [*, errW_none, errW_some] <;> rfl), by repeat (first | (with_reducible first | exact HB.out | apply below_alloc | apply pw_below_drewN | apply below_drew1 | refine below_set ?_ GE101.out) | exact HB.out)⟩
       ·rw [if_neg c23] at H
        have c23b0 : (a0_5 == 2) = false := beq_eq_false_iff_ne.mpr c23
        have c23b1 : (a0_5 != 2) = true := bne_iff_ne.mpr c23
        by_cases c27 : a0_5 = 3
        ·rw [if_pos c27] at H
         have c27b0 : (a0_5 == 3) = true := beq_iff_eq.mpr c27
         have c27b1 : (a0_5 != 3) = false := bne_eq_false_iff_eq.mpr c27
         clear c27
         by_cases c28 : a0_2 = 0
         ·rw [if_pos c28] at H
          have c28b0 : (a0_2 == 0) = true := beq_iff_eq.mpr c28
          have c28b1 : (a0_2 != 0) = false := bne_eq_false_iff_eq.mpr c28
          clear c28
          obtain rfl := Option.some.inj H
          have hcz29_0 : wc.cell? ⟨gb101, 0, none⟩ = some (.int .i64 a0_0) := (blk_cell BK101.out 0).trans rfl
          have hcz29_1 : wc.cell? ⟨gb101, 1, none⟩ = some (.int .i64 a0_1) := (blk_cell BK101.out 1).trans rfl
          have hcz29_2 : wc.cell? ⟨gb101, 2, none⟩ = some (.int .i64 a0_2) := (blk_cell BK101.out 2).trans rfl
          have hcz29_3 : wc.cell? ⟨gb101, 3, none⟩ = some (.int .i64 a0_3) := (blk_cell BK101.out 3).trans rfl
          have hcz29_4 : wc.cell? ⟨gb101, 4, none⟩ = some (.int .i64 a0_4) := (blk_cell BK101.out 4).trans rfl
          have hcz29_5 : wc.cell? ⟨gb101, 5, none⟩ = some (.int .u8 a0_5) := (blk_cell BK101.out 5).trans rfl
          have hfz29_0 := blk_frozen BK101.out 0
          have hfz29_1 := blk_frozen BK101.out 1
          have hfz29_2 := blk_frozen BK101.out 2
          have hfz29_3 := blk_frozen BK101.out 3
          have hfz29_4 := blk_frozen BK101.out 4
          have hfz29_5 := blk_frozen BK101.out 5
          go_wp2_with (first | ((with_reducible refine gate_callee (f := 61) rfl ?_); refine goesL_ (some 35) rfl rfl Try.func61 (by kernel_rfl) rfl #[.int .i64 a0_4, .int .i64 a0_3, .int .i64 730484] rfl (by (try simp only [List.map_toArray, List.map_cons, List.map_nil]); first | done | rfl | (simp only [List.length_drop, List.length_take]; rfl)) ?_; (with_reducible refine (order_within.calls a0_4 a0_3 730484 t106 _ A18.out).mono ?_); rintro e w' ⟨rfl, ⟨nd, rfl⟩⟩; refine ⟨_, rfl, ?_⟩))
          go_ret
          exact ⟨by first | rfl | (simp [errW_none, errW_some] <;> rfl) | (simp [*, errW_none, errW_some] <;> rfl), by repeat (first | (with_reducible first | exact HB.out | apply below_alloc | apply pw_below_drewN | apply below_drew1 | refine below_set ?_ GE101.out) | exact HB.out)⟩
         ·rw [if_neg c28] at H
          have c28b0 : (a0_2 == 0) = false := beq_eq_false_iff_ne.mpr c28
          have c28b1 : (a0_2 != 0) = true := bne_iff_ne.mpr c28
          obtain rfl := Option.some.inj H
          have hcz30_0 : wc.cell? ⟨gb101, 0, none⟩ = some (.int .i64 a0_0) := (blk_cell BK101.out 0).trans rfl
          have hcz30_1 : wc.cell? ⟨gb101, 1, none⟩ = some (.int .i64 a0_1) := (blk_cell BK101.out 1).trans rfl
          have hcz30_2 : wc.cell? ⟨gb101, 2, none⟩ = some (.int .i64 a0_2) := (blk_cell BK101.out 2).trans rfl
          have hcz30_3 : wc.cell? ⟨gb101, 3, none⟩ = some (.int .i64 a0_3) := (blk_cell BK101.out 3).trans rfl
          have hcz30_4 : wc.cell? ⟨gb101, 4, none⟩ = some (.int .i64 a0_4) := (blk_cell BK101.out 4).trans rfl
          have hcz30_5 : wc.cell? ⟨gb101, 5, none⟩ = some (.int .u8 a0_5) := (blk_cell BK101.out 5).trans rfl
          have hfz30_0 := blk_frozen BK101.out 0
          have hfz30_1 := blk_frozen BK101.out 1
          have hfz30_2 := blk_frozen BK101.out 2
          have hfz30_3 := blk_frozen BK101.out 3
          have hfz30_4 := blk_frozen BK101.out 4
          have hfz30_5 := blk_frozen BK101.out 5
          go_wp2_with (first | ((with_reducible refine gate_callee (f := 61) rfl ?_); refine goesL_ (some 35) rfl rfl Try.func61 (by kernel_rfl) rfl #[.int .i64 a0_4, .int .i64 a0_3, .int .i64 730484] rfl (by (try simp only [List.map_toArray, List.map_cons, List.map_nil]); first | done | rfl | (simp only [List.length_drop, List.length_take]; rfl)) ?_; (with_reducible refine (order_within.calls a0_4 a0_3 730484 t106 _ A18.out).mono ?_); rintro e w' ⟨rfl, ⟨nd, rfl⟩⟩; refine ⟨_, rfl, ?_⟩))
          go_ret
          exact ⟨by first | rfl | (simp [errW_none, errW_some] <;> rfl) | (simp [*, errW_none, errW_some] <;> rfl), by repeat (first | (with_reducible first | exact HB.out | apply below_alloc | apply pw_below_drewN | apply below_drew1 | refine below_set ?_ GE101.out) | exact HB.out)⟩
        ·rw [if_neg c27] at H
         have c27b0 : (a0_5 == 3) = false := beq_eq_false_iff_ne.mpr c27
         have c27b1 : (a0_5 != 3) = true := bne_iff_ne.mpr c27
         obtain rfl := Option.some.inj H
         have hcz31_0 : wc.cell? ⟨gb101, 0, none⟩ = some (.int .i64 a0_0) := (blk_cell BK101.out 0).trans rfl
         have hcz31_1 : wc.cell? ⟨gb101, 1, none⟩ = some (.int .i64 a0_1) := (blk_cell BK101.out 1).trans rfl
         have hcz31_2 : wc.cell? ⟨gb101, 2, none⟩ = some (.int .i64 a0_2) := (blk_cell BK101.out 2).trans rfl
         have hcz31_3 : wc.cell? ⟨gb101, 3, none⟩ = some (.int .i64 a0_3) := (blk_cell BK101.out 3).trans rfl
         have hcz31_4 : wc.cell? ⟨gb101, 4, none⟩ = some (.int .i64 a0_4) := (blk_cell BK101.out 4).trans rfl
         have hcz31_5 : wc.cell? ⟨gb101, 5, none⟩ = some (.int .u8 a0_5) := (blk_cell BK101.out 5).trans rfl
         have hfz31_0 := blk_frozen BK101.out 0
         have hfz31_1 := blk_frozen BK101.out 1
         have hfz31_2 := blk_frozen BK101.out 2
         have hfz31_3 := blk_frozen BK101.out 3
         have hfz31_4 := blk_frozen BK101.out 4
         have hfz31_5 := blk_frozen BK101.out 5
         go_wp2_with (first | ((with_reducible refine gate_callee (f := 61) rfl ?_); refine goesL_ (some 35) rfl rfl Try.func61 (by kernel_rfl) rfl #[.int .i64 a0_4, .int .i64 a0_3, .int .i64 730484] rfl (by (try simp only [List.map_toArray, List.map_cons, List.map_nil]); first | done | rfl | (simp only [List.length_drop, List.length_take]; rfl)) ?_; (with_reducible refine (order_within.calls a0_4 a0_3 730484 t106 _ A18.out).mono ?_); rintro e w' ⟨rfl, ⟨nd, rfl⟩⟩; refine ⟨_, rfl, ?_⟩))
         go_ret
         exact ⟨by first | rfl | (simp [errW_none, errW_some] <;> rfl) | (simp [*, errW_none, errW_some] <;> rfl), by repeat (first | (with_reducible first | exact HB.out | apply below_alloc | apply pw_below_drewN | apply below_drew1 | refine below_set ?_ GE101.out) | exact HB.out)⟩
end Go.Proofs.Ytgffddbhnggllaa.QF
namespace Go.Proofs.Ytgffddbhnggllaa.Ed
open Go.RowKit Go.Proofs.YtgffddbhnggllaaW.PrintWords QF
def inB (n lo hi : Int) : Bool := decide (lo ≤ n) && decide (n ≤ hi)
def rightO (o : S41) : Bool :=
  inB o.f0 1 999999 && (inB o.f1 1 999999 && (inB o.f3 0 730484 &&
    (if o.f5 = 1 then inB o.f2 1 999999 && (o.f2 != o.f1 && o.f4 == 0)
     else if o.f5 = 2 then inB o.f2 1 999999 && (o.f2 != o.f1 && inB o.f4 o.f3 730484)
     else if o.f5 = 3 then o.f2 == 0 && inB o.f4 o.f3 730484 else false)))
def rightL (l : List S41) : Bool := decide (l.length ≤ 500) && (l.all rightO && decide (l.map (·.f0)).Nodup)
theorem within_f (n lo hi : Int) : order_within.f n lo hi = some (inB n lo hi) := by
  unfold order_within.f inB
  split
  · rename_i h; rw [decide_eq_true (show lo ≤ n from h)]; rfl
  · rename_i h; rw [decide_eq_false (show ¬ lo ≤ n from h)]; rfl
theorem right_f (o : S41) : order_right.f 9 o.f0 o.f1 o.f2 o.f3 o.f4 o.f5 = some (rightO o) := by
  obtain ⟨i, f, t, s, e, k⟩ := o
  have j1 : ∀ n (b : Bool), order_right.j1 (n + 1) b i f t s e k = some (if k = 1 then b && e == 0 else if k = 2 then b && inB e s 730484 else if k = 3 then t == 0 && inB e s 730484 else false) := by
    intro n b
    rw [order_right.j1]
    simp only [within_f, Option.bind_some]
    by_cases h1 : k = 1
    · rw [if_pos h1, if_pos h1]; cases b <;> rfl
    rw [if_neg h1, if_neg h1]
    by_cases h2 : k = 2
    · rw [if_pos h2, if_pos h2]; cases b <;> rfl
    rw [if_neg h2, if_neg h2]
    by_cases h3 : k = 3
    · rw [if_pos h3, if_pos h3]
      by_cases h4 : t = 0
      · rw [if_pos h4, beq_iff_eq.2 h4]; rfl
      · rw [if_neg h4, beq_eq_false_iff_ne.2 h4]; rfl
    · rw [if_neg h3, if_neg h3]
  have j0t : ∀ n, order_right.j0 (n + 1) true i f t s e k = some false := fun n => by rw [order_right.j0, if_pos rfl]
  have j0f : ∀ n, order_right.j0 (n + 1 + 1) false i f t s e k = some (if k = 1 then inB t 1 999999 && (t != f && e == 0) else if k = 2 then inB t 1 999999 && (t != f && inB e s 730484) else if k = 3 then t == 0 && inB e s 730484 else false) := by
    intro n
    rw [order_right.j0, if_neg (by simp), within_f, Option.bind_some]
    cases ht : inB t 1 999999 with
    | true => rw [if_pos rfl, j1]; simp only [Bool.true_and]
    | false => rw [if_neg (by simp), j1]; simp only [Bool.false_and]
  unfold order_right.f rightO
  simp only [within_f, Option.bind_some]
  cases inB i 1 999999 with
  | false => rw [if_neg (by simp), j0t]; simp
  | true =>
    cases inB f 1 999999 with
    | false => rw [if_pos rfl, if_neg (by simp), j0t]; simp
    | true =>
      cases inB s 0 730484 with
      | false => rw [if_pos rfl, if_pos rfl, Bool.not_false, j0t]; simp
      | true => rw [if_pos rfl, if_pos rfl, Bool.not_true, j0f]; simp
theorem right1_calls (o : S41) (w : World) : Calls Try.prog 65 #[.agg #[.int .i64 o.f0, .int .i64 o.f1, .int .i64 o.f2, .int .i64 o.f3, .int .i64 o.f4, .int .u8 o.f5]] w fun e w' => e = .returned (.bool (rightO o)) ∧ Below w.heap.size w w' :=
  order_right.calls 9 o.f0 o.f1 o.f2 o.f3 o.f4 o.f5 (rightO o) w (right_f o)
end Go.Proofs.Ytgffddbhnggllaa.Ed
namespace Go.Proofs.Ytgffddbhnggllaa.Ed
open Go.RowKit Go.Proofs.YtgffddbhnggllaaW.PrintWords QF
def kv (e : MapEntry) : Value × Value := (e.key, e.val)
def enc2 (p : Int × Int) : Value × Value := (.int .i64 p.1, .int .i64 p.2)
def MI (W : World) (mb : Nat) (m : List (Int × Int)) : Prop := ∃ es clk, W.heap[mb]? = some (.map es clk) ∧ es.toList.map kv = m.map enc2
def idxM : List (Int × Int) → Int → Option Nat
  | [], _ => none
  | p :: m, k => if k = p.1 then some 0 else (idxM m k).map (· + 1)
def getM : List (Int × Int) → Int → Int
  | [], _ => 0
  | p :: m, k => if k = p.1 then p.2 else getM m k
def putM : List (Int × Int) → Int → Int → List (Int × Int)
  | [], k, v => [(k, v)]
  | p :: m, k, v => if k = p.1 then (k, v) :: m else p :: putM m k v
theorem find_m (k : Int) : ∀ (l : List MapEntry) (m : List (Int × Int)) (i : Nat), l.map kv = m.map enc2 →
    Instr.findNow (.int .i64) (.int .i64 k) l i = some (match idxM m k with | none => none | some j => some (i + j, .int .i64 (getM m k)))
  | [], [], i, _ => rfl
  | [], p :: m, i, h => by simp at h
  | e :: l, [], i, h => by simp at h
  | e :: l, p :: m, i, h => by
    obtain ⟨key, val, born⟩ := e
    obtain ⟨a, b⟩ := p
    simp only [List.map_cons, List.cons.injEq, kv, enc2, Prod.mk.injEq] at h
    obtain ⟨⟨rfl, rfl⟩, h⟩ := h
    have ih := find_m k l m (i + 1) h
    have hs : Instr.sameNow (.int .i64) (.int .i64 k) (.int .i64 a) = some (k == a) := by simp [Instr.sameNow]
    by_cases e : k = a
    · subst e
      simp [Instr.findNow, Instr.sameNow, idxM, getM]
    · have e' : (k == a) = false := beq_eq_false_iff_ne.2 e
      simp only [Instr.findNow, hs, e', idxM, getM, if_neg e, ih]
      cases idxM m k with
      | none => rfl
      | some j => simp; omega
theorem MI.look {W : World} {mb : Nat} {m : List (Int × Int)} (h : MI W mb m) (k : Int) : (Instr.lookup 82 (.map (some mb)) (.int .i64 k) false).run Try.prog W = .ok (.int .i64 (getM m k)) W := by
  obtain ⟨es, clk, hb, hm⟩ := h
  have hf := find_m k es.toList m 0 hm
  have hz : (zeroValue 3).run Try.prog W = .ok (.int .i64 0) W := Try.zeroValue3 W
  unfold Instr.lookup
  cases hi : idxM m k with
  | none =>
    rw [hi] at hf
    have hg : getM m k = 0 := by
      clear hf hm hb hz
      induction m with
      | nil => rfl
      | cons p m ih =>
        simp only [idxM] at hi
        by_cases e : k = p.1
        · rw [if_pos e] at hi; cases hi
        · rw [if_neg e] at hi
          simp only [getM]; rw [if_neg e]; exact ih (by simpa using hi)
    rw [hg]
    simp only [Sem.run_bind, run_underlying Try.underlying82, Result.andThen, MapKept.run_getObj_map hb, Sem.run_pure, MapKept.run_checkKey Try.underlying3 (k := .int .i64 k) rfl _ 9999, MapKept.run_findKey Try.underlying3 hf, hz]
    simp
  | some j =>
    rw [hi] at hf
    simp only [Sem.run_bind, run_underlying Try.underlying82, Result.andThen, MapKept.run_getObj_map hb, Sem.run_pure, MapKept.run_checkKey Try.underlying3 (k := .int .i64 k) rfl _ 9999, MapKept.run_findKey Try.underlying3 hf]
    simp
theorem MI.upd {W : World} {mb : Nat} {m : List (Int × Int)} (h : MI W mb m) (k v : Int) : ∃ W', (Instr.mapUpdate 82 (.map (some mb)) (.int .i64 k) (.int .i64 v)).run Try.prog W = .ok () W' ∧ MI W' mb (putM m k v) ∧ W.grownBy W' (some mb) := by
  obtain ⟨es, clk, hb, hm⟩ := h
  have hf := find_m k es.toList m 0 hm
  have gr : ∀ o : Obj, W.grownBy { W with heap := W.heap.setIfInBounds mb o } (some mb) := fun o => ⟨rfl, rfl, rfl, by simp, fun i _ hi => by
    have : i ≠ mb := fun e => hi (by rw [e])
    exact (MapKept.heap_set hb (o' := o)).2 i this⟩
  cases hi : idxM m k with
  | none =>
    rw [hi] at hf
    refine ⟨_, ?_, ⟨es.push ⟨.int .i64 k, .int .i64 v, clk⟩, clk + 1, (MapKept.heap_set hb).1, ?_⟩, gr _⟩
    · unfold Instr.mapUpdate
      simp only [Sem.run_bind, run_underlying Try.underlying82, Result.andThen, MapKept.run_getObj_map hb, MapKept.run_checkKey Try.underlying3 (k := .int .i64 k) rfl false 9999, MapKept.run_findKey Try.underlying3 hf, MapKept.run_setObj_map _ hb]
    · have hp : putM m k v = m ++ [(k, v)] := by
        clear hf hm hb gr
        induction m with
        | nil => rfl
        | cons p m ih =>
          simp only [idxM] at hi
          by_cases e : k = p.1
          · rw [if_pos e] at hi; cases hi
          · rw [if_neg e] at hi
            simp only [putM]; rw [if_neg e, ih (by simpa using hi)]; rfl
      rw [hp, Array.toList_push, List.map_append, List.map_append, hm]; rfl
  | some j =>
    rw [hi] at hf
    have hj : ∀ (l : List MapEntry) (m : List (Int × Int)) (j : Nat), idxM m k = some j → l.map kv = m.map enc2 → (∃ e, l[j]? = some e ∧ e.key = .int .i64 k) ∧ (l.modify j fun e => ⟨.int .i64 k, .int .i64 v, e.born⟩).map kv = (putM m k v).map enc2 := by
      intro l
      induction l with
      | nil => intro m j h1 h2; cases m with
        | nil => cases h1
        | cons p m => simp at h2
      | cons e l ih =>
        intro m j h1 h2
        cases m with
        | nil => cases h1
        | cons p m =>
          simp only [List.map_cons, List.cons.injEq] at h2
          simp only [idxM] at h1
          by_cases q : k = p.1
          · rw [if_pos q] at h1
            cases h1
            refine ⟨⟨e, rfl, ?_⟩, ?_⟩
            · have := congrArg Prod.fst h2.1; rw [q]; exact this
            · simp only [putM]; rw [if_pos q, List.modify_zero_cons, List.map_cons, List.map_cons, h2.2]; rfl
          · rw [if_neg q] at h1
            cases hx : idxM m k with
            | none => rw [hx] at h1; cases h1
            | some j' =>
              rw [hx] at h1
              cases h1
              obtain ⟨⟨e', h3, h4⟩, h5⟩ := ih m j' hx h2.2
              refine ⟨⟨e', by simpa using h3, h4⟩, ?_⟩
              simp only [putM]; rw [if_neg q, List.modify_succ_cons, List.map_cons, List.map_cons, h5, h2.1]
    obtain ⟨⟨e, he, hk⟩, hmod⟩ := hj es.toList m j hi hm
    have he' : es[j]? = some e := by simpa using he
    refine ⟨_, ?_, ⟨es.modify j fun e => ⟨.int .i64 k, .int .i64 v, e.born⟩, clk, (MapKept.heap_set hb).1, ?_⟩, gr _⟩
    · unfold Instr.mapUpdate
      simp only [Sem.run_bind, run_underlying Try.underlying82, Result.andThen, MapKept.run_getObj_map hb, MapKept.run_checkKey Try.underlying3 (k := .int .i64 k) rfl false 9999, MapKept.run_findKey Try.underlying3 hf, Nat.zero_add, he', Option.map_some, Option.getD_some, hk,
        MapKept.run_keyThatStays (d := .int .i64) (k := .int .i64 k) rfl, MapKept.run_setObj_map _ hb]
    · rw [Array.toList_modify]; exact hmod
theorem MI.lt {W : World} {mb : Nat} {m : List (Int × Int)} (h : MI W mb m) : mb < W.heap.size := by
  obtain ⟨es, clk, hb, hm⟩ := h; exact blk_lt hb
theorem MI.below {W W' : World} {mb : Nat} {m : List (Int × Int)} (h : MI W mb m) (hb : Below W.heap.size W W') : MI W' mb m := by
  obtain ⟨es, clk, hh, hm⟩ := h; exact ⟨es, clk, blk_below hh hb, hm⟩
theorem MI.alloc {W : World} {mb : Nat} {m : List (Int × Int)} (h : MI W mb m) (o : Obj) : MI (W.alloc o) mb m := by
  obtain ⟨es, clk, hh, hm⟩ := h; exact ⟨es, clk, blk_alloc hh o, hm⟩
theorem MI.set {W : World} {mb : Nat} {m : List (Int × Int)} (h : MI W mb m) {p : Addr} (hp : p.block ≠ mb) (v : Value) : MI (W.setCell p v) mb m := by
  obtain ⟨es, clk, hh, hm⟩ := h
  refine ⟨es, clk, ?_, hm⟩
  have : (W.setCell p v).heap[mb]? = W.heap[mb]? := by simp [World.setCell, Array.getElem?_modify, hp]
  rw [this]; exact hh
def six (o : S41) : Array Value := #[.int .i64 o.f0, .int .i64 o.f1, .int .i64 o.f2, .int .i64 o.f3, .int .i64 o.f4, .int .u8 o.f5]
def put6 (W : World) (g : Nat) (o : S41) : World := (((((W.setCell ⟨g, 0, none⟩ (.int .i64 o.f0)).setCell ⟨g, 1, none⟩ (.int .i64 o.f1)).setCell ⟨g, 2, none⟩ (.int .i64 o.f2)).setCell ⟨g, 3, none⟩ (.int .i64 o.f3)).setCell ⟨g, 4, none⟩ (.int .i64 o.f4)).setCell ⟨g, 5, none⟩ (.int .u8 o.f5)
theorem put6_box {W : World} {g : Nat} {z0 z1 z2 z3 z4 z5 : Value} (h : W.heap[g]? = some (.cells #[z0, z1, z2, z3, z4, z5] 41 (0, 0))) (o : S41) : (put6 W g o).heap[g]? = some (.cells (six o) 41 (0, 0)) :=
  blk_put (blk_put (blk_put (blk_put (blk_put (blk_put h 0 (.int .i64 o.f0) rfl) 1 (.int .i64 o.f1) rfl) 2 (.int .i64 o.f2) rfl) 3 (.int .i64 o.f3) rfl) 4 (.int .i64 o.f4) rfl) 5 (.int .u8 o.f5) rfl
theorem put6_below {w W : World} {g : Nat} (h : Below w.heap.size w W) (hg : w.heap.size ≤ g) (o : S41) : Below w.heap.size w (put6 W g o) :=
  below_set (below_set (below_set (below_set (below_set (below_set h hg) hg) hg) hg) hg) hg
theorem MI.put6 {W : World} {mb g : Nat} {m : List (Int × Int)} (h : MI W mb m) (hne : g ≠ mb) (o : S41) : MI (put6 W g o) mb m :=
  (((((h.set (p := ⟨g, 0, none⟩) hne _).set (p := ⟨g, 1, none⟩) hne _).set (p := ⟨g, 2, none⟩) hne _).set (p := ⟨g, 3, none⟩) hne _).set (p := ⟨g, 4, none⟩) hne _).set (p := ⟨g, 5, none⟩) hne _
theorem six_cell {W : World} {g : Nat} {o : S41} (h : W.heap[g]? = some (.cells (six o) 41 (0, 0))) :
    W.cell? ⟨g, 0, none⟩ = some (.int .i64 o.f0) ∧ W.cell? ⟨g, 1, none⟩ = some (.int .i64 o.f1) ∧ W.cell? ⟨g, 2, none⟩ = some (.int .i64 o.f2) ∧ W.cell? ⟨g, 3, none⟩ = some (.int .i64 o.f3) ∧ W.cell? ⟨g, 4, none⟩ = some (.int .i64 o.f4) ∧ W.cell? ⟨g, 5, none⟩ = some (.int .u8 o.f5) :=
  ⟨(blk_cell h 0).trans rfl, (blk_cell h 1).trans rfl, (blk_cell h 2).trans rfl, (blk_cell h 3).trans rfl, (blk_cell h 4).trans rfl, (blk_cell h 5).trans rfl⟩
theorem getM_put (m : List (Int × Int)) (k v j : Int) : getM (putM m k v) j = if j = k then v else getM m j := by
  induction m with
  | nil => simp only [putM, getM]
  | cons p m ih =>
    simp only [putM]
    by_cases e : k = p.1
    · rw [if_pos e]
      simp only [getM]
      by_cases e2 : j = k
      · rw [if_pos e2, if_pos e2]
      · rw [if_neg e2, if_neg e2, if_neg (by rw [← e]; exact e2)]
    · rw [if_neg e]
      simp only [getM, ih]
      by_cases e2 : j = p.1
      · rw [if_pos e2, if_pos e2, if_neg (by rw [e2]; exact fun h => e h.symm)]
      · rw [if_neg e2, if_neg e2]
end Go.Proofs.Ytgffddbhnggllaa.Ed
namespace Go.Proofs.Ytgffddbhnggllaa.Ed
open Go.RowKit Go.Proofs.YtgffddbhnggllaaW.PrintWords QF
def flat (L : List S41) : List Value := L.flatMap fun o => (six o).toList
theorem flat_nil : flat [] = [] := rfl
theorem flat_cons (o : S41) (L : List S41) : flat (o :: L) = (six o).toList ++ flat L := rfl
theorem flat_append (L M : List S41) : flat (L ++ M) = flat L ++ flat M := List.flatMap_append
theorem six_len (o : S41) : (six o).toList.length = 6 := rfl
theorem flat_len (L : List S41) : (flat L).length = L.length * 6 := by
  induction L with
  | nil => rfl
  | cons o L ih => rw [flat_cons, List.length_append, six_len, ih, List.length_cons]; omega
theorem flat_take (L : List S41) (i : Nat) (h : i ≤ L.length) : (flat L).take (i * 6) = flat (L.take i) := by
  have e : flat L = flat (L.take i) ++ flat (L.drop i) := by rw [← flat_append, List.take_append_drop]
  have hl : (flat (L.take i)).length = i * 6 := by rw [flat_len, List.length_take, Nat.min_eq_left h]
  rw [e, ← hl, List.take_left]
theorem flat_drop (L : List S41) (i : Nat) (h : i ≤ L.length) : (flat L).drop (i * 6) = flat (L.drop i) := by
  have e : flat L = flat (L.take i) ++ flat (L.drop i) := by rw [← flat_append, List.take_append_drop]
  have hl : (flat (L.take i)).length = i * 6 := by rw [flat_len, List.length_take, Nat.min_eq_left h]
  rw [e, ← hl, List.drop_left]
theorem flat_get (L : List S41) (j : Nat) (o : S41) (h : L[j]? = some o) (t : Nat) (v : Value) (hv : (six o).toList[t]? = some v) : (flat L)[j * 6 + t]? = some v := by
  have hj : j < L.length := (List.getElem?_eq_some_iff.1 h).1
  rw [← List.getElem?_drop, flat_drop _ _ (Nat.le_of_lt hj), List.drop_eq_getElem_cons hj, flat_cons]
  have : L[j] = o := (List.getElem?_eq_some_iff.1 h).2
  rw [this, List.getElem?_append_left]
  · exact hv
  · exact (List.getElem?_eq_some_iff.1 hv).1
structure Rw (W : World) (g cap : Nat) (L : List S41) : Prop where
  cells : ∃ rest : List Value, W.heap[g]? = some (.cells (flat L ++ rest).toArray 41 (0, 0)) ∧ (flat L ++ rest).length = cap * 6
  le : L.length ≤ cap
  mx : cap ≤ maxLen
theorem Rw.lt {W : World} {g cap : Nat} {L : List S41} (h : Rw W g cap L) : g < W.heap.size := by
  obtain ⟨rest, h1, _⟩ := h.cells; exact blk_lt h1
theorem Rw.same {W W' : World} {g cap : Nat} {L : List S41} (h : Rw W g cap L) (e : W'.heap[g]? = W.heap[g]?) : Rw W' g cap L := by
  obtain ⟨rest, h1, h2⟩ := h.cells; exact ⟨⟨rest, e.trans h1, h2⟩, h.le, h.mx⟩
theorem Rw.below {W W' : World} {g cap : Nat} {L : List S41} (h : Rw W g cap L) (hb : Below W.heap.size W W') : Rw W' g cap L := h.same (hb.block g h.lt)
theorem Rw.cell {W : World} {g cap : Nat} {L : List S41} (h : Rw W g cap L) {j : Nat} {o : S41} (ho : L[j]? = some o) (t : Nat) (v : Value) (hv : (six o).toList[t]? = some v) : W.cell? ⟨g, j * 6 + t, none⟩ = some v := by
  obtain ⟨rest, h1, h2⟩ := h.cells
  rw [blk_cell h1]
  have := flat_get L j o ho t v hv
  rw [List.getElem?_toArray, List.getElem?_append_left (List.getElem?_eq_some_iff.1 this).1]
  exact this
theorem Rw.frozen {W : World} {g cap : Nat} {L : List S41} (h : Rw W g cap L) (i : Nat) : W.frozen? ⟨g, i, none⟩ = false := by
  obtain ⟨rest, h1, h2⟩ := h.cells
  exact blk_frozen h1 i
theorem Rw.own {W : World} {g cap base : Nat} {L : List S41} (h : Rw W g cap L) (hb : base ≤ g) : W.ownsRow base 41 6 (.slice (some ⟨g, 0, none⟩) L.length cap) L.length (flat L) := by
  obtain ⟨rest, h1, h2⟩ := h.cells
  refine ⟨flat_len L, .inr ⟨g, cap, _, rfl, hb, h1, h.le, h.mx, by simpa using h2, ?_⟩⟩
  rw [← flat_len]; simp
theorem reps_flat (W : World) (base : Nat) (ok : Nat → Prop) (L : List S41) : Reps (k41.M W base ok) 6 L (flat L) := by
  refine ⟨flat_len L, fun j p hj => ?_⟩
  have hl : j < L.length := (List.getElem?_eq_some_iff.1 hj).1
  rw [flat_drop _ _ (Nat.le_of_lt hl), List.drop_eq_getElem_cons hl, flat_cons, (List.getElem?_eq_some_iff.1 hj).2]
  have : ((six p).toList ++ flat (L.drop (j + 1))).take 6 = (six p).toList := by rw [← six_len p, List.take_left]
  rw [this]
  exact k41_mkM _ _ _ _
theorem Rw.R {W : World} {g cap base : Nat} {L : List S41} (h : Rw W g cap L) (hb : base ≤ g) : Kd.R k41 41 W base (fun _ => True) (.slice (some ⟨g, 0, none⟩) L.length cap) L :=
  ⟨fun _ _ => trivial, flat L, h.own hb, reps_flat _ _ _ _⟩
theorem Reps.flat {W : World} {base : Nat} {ok : Nat → Prop} {L : List S41} {cs : List Value} (h : Reps (k41.M W base ok) 6 L cs) : cs = flat L := by
  induction L generalizing cs with
  | nil => exact List.eq_nil_of_length_eq_zero (by have := h.1; simpa using this)
  | cons o L ih =>
    have h0 := k41_openM (h.2 0 o rfl)
    rw [Nat.zero_mul, List.drop_zero] at h0
    have ht : Reps (k41.M W base ok) 6 L (cs.drop 6) := by
      refine ⟨by rw [List.length_drop, h.1, List.length_cons]; omega, fun j p hj => ?_⟩
      have := h.2 (j + 1) p (by simpa using hj)
      rw [List.drop_drop, show 6 + j * 6 = (j + 1) * 6 by omega]
      exact this
    rw [flat_cons, ← ih ht, ← List.take_append_drop 6 cs, h0]
    rfl
theorem Rw.ofOwn {W : World} {base : Nat} {v : Value} {L : List S41} (h : W.ownsRow base 41 6 v L.length (flat L)) : (v = .slice none 0 0 ∧ L = []) ∨ ∃ g cap, v = .slice (some ⟨g, 0, none⟩) L.length cap ∧ base ≤ g ∧ Rw W g cap L := by
  obtain ⟨h1, h2 | ⟨g, cap, cur, rfl, hb, hg, hn, hm, hs, ht⟩⟩ := h
  · exact .inl ⟨h2.1, List.eq_nil_of_length_eq_zero h2.2⟩
  · refine .inr ⟨g, cap, rfl, hb, ⟨⟨cur.toList.drop (L.length * 6), ?_, ?_⟩, hn, hm⟩⟩
    · rw [← ht, List.take_append_drop]; exact hg
    · rw [← ht, List.take_append_drop, Array.length_toList]; exact hs
theorem Rw.ofR {W : World} {base : Nat} {ok : Nat → Prop} {v : Value} {L : List S41} (h : Kd.R k41 41 W base ok v L) : (v = .slice none 0 0 ∧ L = []) ∨ ∃ g cap, v = .slice (some ⟨g, 0, none⟩) L.length cap ∧ base ≤ g ∧ Rw W g cap L := by
  obtain ⟨_, inner, ho, hr⟩ := h
  rw [Reps.flat hr] at ho
  exact Rw.ofOwn ho
theorem Rw.put' {W : World} {g cap : Nat} {L : List S41} (h : Rw W g cap L) {i : Nat} (hi : i < L.length) (o : S41) (vs : List Value) (hv : (six o).toList = vs) : Rw (W.setCells g (i * 6) vs) g cap (L.set i o) := by
  obtain ⟨rest, h1, h2⟩ := h.cells
  have hl := flat_len L
  have h6 : vs.length = 6 := by rw [← hv]; rfl
  obtain ⟨cur', h3, h4, h5⟩ := setCells_row vs (i * 6) W _ h1 (by rw [h6]; simp only [List.size_toArray, List.length_append]; omega)
  have e : cur' = (flat (L.set i o) ++ rest).toArray := by
    apply Array.toList_inj.1
    rw [h5, h6]
    rw [List.take_append_of_le_length (by omega), List.drop_append_of_le_length (by omega), flat_take _ _ (by omega), show i * 6 + 6 = (i + 1) * 6 by omega, flat_drop _ _ (by omega),
      List.set_eq_take_append_cons_drop, if_pos hi, flat_append, flat_cons, hv]
    simp
  refine ⟨⟨rest, h3.trans (by rw [e]), ?_⟩, by rw [List.length_set]; exact h.le, h.mx⟩
  rw [List.length_append, flat_len, List.length_set, ← flat_len, ← List.length_append]; exact h2
theorem Rw.put {W : World} {g cap : Nat} {L : List S41} (h : Rw W g cap L) {i : Nat} (hi : i < L.length) (o : S41) : Rw (W.setCells g (i * 6) (six o).toList) g cap (L.set i o) := h.put' hi o _ rfl
theorem Rw.cut {W : World} {g cap : Nat} {L : List S41} (h : Rw W g cap L) {i : Nat} (hi : i ≤ L.length) (vs : List Value) (hv : vs.length = (L.length - i) * 6) : Rw (W.setCells g (i * 6) vs) g cap (L.take i) := by
  obtain ⟨rest, h1, h2⟩ := h.cells
  have hl := flat_len L
  obtain ⟨cur', h3, h4, h5⟩ := setCells_row vs (i * 6) W _ h1 (by simp only [List.size_toArray, List.length_append]; omega)
  refine ⟨⟨vs ++ rest, ?_, ?_⟩, by rw [List.length_take]; have := h.le; omega, h.mx⟩
  · rw [h3]
    congr 2
    apply Array.toList_inj.1
    rw [h5, List.take_append_of_le_length (by omega), flat_take _ _ hi, show i * 6 + vs.length = (flat L).length by omega, List.drop_left]
    simp
  · rw [List.length_append, flat_len, List.length_take, List.length_append, hv]
    rw [List.length_append] at h2
    omega
end Go.Proofs.Ytgffddbhnggllaa.Ed
namespace Go.Proofs.Ytgffddbhnggllaa.Ed
open Go.RowKit Go.Shelf Go.Proofs.YtgffddbhnggllaaW.PrintWords QF
def RV (W : World) (base : Nat) (v : Value) (L : List S41) : Prop := (v = .slice none 0 0 ∧ L = []) ∨ ∃ g cap, v = .slice (some ⟨g, 0, none⟩) L.length cap ∧ base ≤ g ∧ Rw W g cap L
theorem RV.ofOwn {W : World} {base : Nat} {v : Value} {L : List S41} (h : W.ownsRow base 41 6 v L.length (flat L)) : RV W base v L := Rw.ofOwn h
theorem RV.R {W : World} {base : Nat} {v : Value} {L : List S41} (h : RV W base v L) : Kd.R k41 41 W base (fun _ => True) v L := by
  rcases h with ⟨rfl, rfl⟩ | ⟨g, cap, rfl, hb, h⟩
  · exact Kd.R_nil _ _ _ _ _
  · exact h.R hb
theorem RV.below {W W' : World} {base : Nat} {v : Value} {L : List S41} (h : RV W base v L) (hb : Below W.heap.size W W') : RV W' base v L := by
  rcases h with ⟨rfl, rfl⟩ | ⟨g, cap, rfl, hb', h⟩
  · exact .inl ⟨rfl, rfl⟩
  · exact .inr ⟨g, cap, rfl, hb', h.below hb⟩
theorem C_cells {w : World} {ad : Addr} {L : List S41} (h : Kd.C k41 w (some ad) L.length L) : ∀ j u, (flat L)[j]? = some u → w.cell? (ad.add j) = some u := by
  intro j u hj
  have hl : j < L.length * 6 := by rw [← flat_len]; exact (List.getElem?_eq_some_iff.1 hj).1
  obtain ⟨i, t, rfl, ht⟩ : ∃ i t, j = i * 6 + t ∧ t < 6 := ⟨j / 6, j % 6, by omega, by omega⟩
  have hi : i < L.length := by omega
  obtain ⟨ad', e, hc⟩ := h.2.2 (by omega)
  cases e
  obtain ⟨c, h1, h2, h3⟩ := hc i L[i] (List.getElem?_eq_getElem hi)
  refine h3 t u ?_
  rw [k41_open h2]
  have : (six L[i]).toList[t]? = some u := by
    rw [← hj]
    have e2 : ∃ v, (six L[i]).toList[t]? = some v := ⟨_, List.getElem?_eq_getElem (by rw [six_len]; exact ht)⟩
    obtain ⟨v, hv⟩ := e2
    rw [hv, flat_get L i _ (List.getElem?_eq_getElem hi) t v hv]
  exact this
theorem flat_one (L : List S41) : ∀ u ∈ flat L, u.oneCell' = true := by
  intro u hu
  unfold flat at hu
  obtain ⟨o, ho, hu⟩ := List.mem_flatMap.1 hu
  simp [six] at hu
  rcases hu with rfl | rfl | rfl | rfl | rfl | rfl <;> rfl
def idxP (p : S41 → Bool) : List S41 → Int → Int
  | [], _ => -1
  | o :: L, i => if p o = true then i else idxP p L (i + 1)
theorem idxP_from (p : S41 → Bool) (L : List S41) : ∀ (k : Nat) (i : Int), k < L.length → (∀ j, (h : j < k) → ∀ h', p (L[j]'h') = false) → idxP p L i = idxP p (L.drop k) (i + k) := by
  induction L with
  | nil => intro k i hk; simp at hk
  | cons o L ih =>
    intro k i hk hj
    cases k with
    | zero => simp
    | succ k =>
      have h0 := hj 0 (by omega) (by simp)
      simp only [List.getElem_cons_zero] at h0
      simp only [idxP]
      rw [if_neg (by rw [h0]; simp), ih k (i + 1) (by simpa using hk) (fun j h h' => by have := hj (j + 1) (by omega) (by simpa using h'); simpa using this), List.drop_succ_cons]
      congr 1
      omega
theorem idxP_hit (p : S41 → Bool) (L : List S41) (k : Nat) (hk : k < L.length) (hj : ∀ j, (h : j < k) → ∀ h', p (L[j]'h') = false) (hp : p L[k] = true) : idxP p L 0 = k := by
  rw [idxP_from p L k 0 hk hj, List.drop_eq_getElem_cons hk]
  simp only [idxP]
  rw [if_pos hp]; omega
theorem idxP_none (p : S41 → Bool) (L : List S41) (i : Int) (hj : ∀ o ∈ L, p o = false) : idxP p L i = -1 := by
  induction L generalizing i with
  | nil => rfl
  | cons o L ih =>
    simp only [idxP]
    rw [if_neg (by rw [hj o (by simp)]; simp), ih _ (fun o ho => hj o (by simp [ho]))]
set_option maxRecDepth 1000000 in
set_option maxHeartbeats 4000000 in
theorem clone74_calls (A0 : Option Addr) (c0 : Nat) (L : List S41) (w : World) (hr : Kd.C k41 w A0 L.length L) (hn : L.length ≤ 100000) :
    Calls Try.prog 74 #[.slice A0 L.length c0] w fun e w' => ∃ v, e = .returned v ∧ RV w' w.heap.size v L ∧ Below w.heap.size w w' := by
  have q : ∀ (w : World) (a : Option Addr) (n c n' c' : Nat), (binOp .eql 24 (.slice a n c) (.slice none n' c')).run Try.prog w = .ok (.bool a.isNone) w := fun w a n c n' c' => Lib.run_eql_slice_nil w _ _ a n c n' c' Try.underlying24
  cases A0 with
  | none =>
    have hL : L = [] := by
      cases L with
      | nil => rfl
      | cons o L => obtain ⟨ad, e, _⟩ := hr.2.2 (by simp); cases e
    subst hL
    go_enter Try.func74, Try.ntmps74
    go_wp2
    go_ret
    exact ⟨_, rfl, .inl ⟨rfl, rfl⟩, Below.refl _ _⟩
  | some ad =>
    obtain ⟨i0, hi, hz0, hz1, hz2⟩ := info_parts info41
    have A := Lib.hid (C_cells hr)
    clear hr
    go_enter Try.func74, Try.ntmps74
    go_wp2_with (at_builtin; refine wpList_append_own _ rfl _ _ 24 rfl w.heap.size 41 i0 (.agg #[.int .i64 0, .int .i64 0, .int .i64 0, .int .i64 0, .int .i64 0, .int .u8 0]) 6 48 Try.underlying24 hi hz0 hz1 hz2 rfl (by decide) _ _ _ rfl (World.ownsRow_made w #[] 0 (Nat.le_refl _) (Nat.zero_le _) (by simp)) ad L.length c0 (flat L) rfl ?qc1 ?qc2 ?qc3 ?qc4 ?qc5 ?qc6 ?_)
    case qc1 => exact flat_len L
    case qc2 =>
      intro j u hj
      exact Lib.cell?_alloc_some _ (A.out j u hj)
    case qc3 => exact flat_one L
    case qc4 => rw [Nat.zero_add]; unfold maxLen; omega
    case qc5 => rw [Nat.zero_add]; omega
    case qc6 => simp
    intro v' w1 hown hgrow hnil
    go_wp2
    go_ret
    refine ⟨v', rfl, RV.ofOwn (by simpa using hown), ?_⟩
    exact ((Below.refl _ w).alloc (Nat.le_refl _) _).grown hgrow (by simp) (by intro k hk; simp [Value.ownBlock] at hk; omega)
set_option maxRecDepth 1000000 in
set_option maxHeartbeats 4000000 in
theorem clone85_calls (A0 : Option Addr) (c0 : Nat) (L : List S41) (w : World) (hr : Kd.C k41 w A0 L.length L) (hn : L.length ≤ 100000) :
    Calls Try.prog 85 #[.slice A0 L.length c0] w fun e w' => ∃ v, e = .returned v ∧ RV w' w.heap.size v L ∧ Below w.heap.size w w' := by
  have q : ∀ (w : World) (a : Option Addr) (n c n' c' : Nat), (binOp .eql 98 (.slice a n c) (.slice none n' c')).run Try.prog w = .ok (.bool a.isNone) w := fun w a n c n' c' => Lib.run_eql_slice_nil w _ _ a n c n' c' Try.underlying98
  cases A0 with
  | none =>
    have hL : L = [] := by
      cases L with
      | nil => rfl
      | cons o L => obtain ⟨ad, e, _⟩ := hr.2.2 (by simp); cases e
    subst hL
    go_enter Try.func85, Try.ntmps85
    go_wp2
    go_ret
    exact ⟨_, rfl, .inl ⟨rfl, rfl⟩, Below.refl _ _⟩
  | some ad =>
    obtain ⟨i0, hi, hz0, hz1, hz2⟩ := info_parts info41
    have A := Lib.hid (C_cells hr)
    clear hr
    go_enter Try.func85, Try.ntmps85
    go_wp2_with (at_builtin; refine wpList_append_own _ rfl _ _ 98 rfl w.heap.size 41 i0 (.agg #[.int .i64 0, .int .i64 0, .int .i64 0, .int .i64 0, .int .i64 0, .int .u8 0]) 6 48 Try.underlying98 hi hz0 hz1 hz2 rfl (by decide) _ _ _ rfl (World.ownsRow_made w #[] 0 (Nat.le_refl _) (Nat.zero_le _) (by simp)) ad L.length c0 (flat L) rfl ?qc1 ?qc2 ?qc3 ?qc4 ?qc5 ?qc6 ?_)
    case qc1 => exact flat_len L
    case qc2 =>
      intro j u hj
      exact Lib.cell?_alloc_some _ (A.out j u hj)
    case qc3 => exact flat_one L
    case qc4 => rw [Nat.zero_add]; unfold maxLen; omega
    case qc5 => rw [Nat.zero_add]; omega
    case qc6 => simp
    intro v' w1 hown hgrow hnil
    go_wp2
    go_ret
    refine ⟨v', rfl, RV.ofOwn (by simpa using hown), ?_⟩
    exact ((Below.refl _ w).alloc (Nat.le_refl _) _).grown hgrow (by simp) (by intro k hk; simp [Value.ownBlock] at hk; omega)
set_option maxRecDepth 1000000 in
set_option maxHeartbeats 4000000 in
theorem index95_calls (g : Nat) (lb : Array Value) (eg : ∀ args w, (callFunc g args).run Try.prog w = .ok (.enter g args) w) (p : S41 → Bool) (A0 : Option Addr) (c0 : Nat) (L : List S41) (w : World) (hr : Kd.C k41 w A0 L.length L) (hn : L.length ≤ 100000)
    (hp : ∀ W x, Below w.heap.size w W → Calls Try.prog g (#[.agg (six x)] ++ lb) W fun e W' => e = .returned (.bool (p x)) ∧ Below W.heap.size W W') :
    Calls Try.prog 95 #[.slice A0 L.length c0, .func (.func g) #[] lb] w fun e w' => e = .returned (.int .i64 (idxP p L 0)) ∧ Below w.heap.size w w' := by
  go_enter Try.func95, Try.ntmps95
  go_wp2
  go_loopw [5, 8] (fun _ y W => ∃ k : Nat, y = .int .i64 (k : Int) ∧ k ≤ L.length ∧ Below w.heap.size w W ∧ (∀ j, (h : j < k) → ∀ h', p (L[j]'h') = false)) (fun _ y W => L.length - (intOf y).toNat)
  case atStart => exact ⟨0, rfl, Nat.zero_le _, Below.refl _ _, fun j h => absurd h (Nat.not_lt_zero _)⟩
  case round =>
    obtain ⟨k, rfl, hk, hB, hj⟩ := hrel
    have HB := Lib.hid hB
    have HJ := Lib.hid hj
    clear hB hj
    by_cases hkl : k < L.length
    · obtain ⟨ad, e0, hx0, hx1, hx2, hx3, hx4, hx5⟩ := at_T41 (Kd.C_below hr HB.out) (k : Int) (by omega) (by omega)
      subst e0
      simp only [Int.toNat_natCast] at hx0 hx1 hx2 hx3 hx4 hx5
      have kk : (k : Int) < (L.length : Int) := by omega
      obtain ⟨o, ho⟩ : ∃ o, rd_T41 L (k : Int) = o := ⟨_, rfl⟩
      rw [ho] at hx0 hx1 hx2 hx3 hx4 hx5
      have hgo : L[k] = o := by rw [← ho]; unfold rd_T41; rw [Int.toNat_natCast, List.getD_eq_getElem?_getD, List.getElem?_eq_getElem hkl]; rfl
      have HO := Lib.hid hgo
      have hcall := hp wr o HB.out
      clear hp ho hgo hr
      unfold six at hcall
      cases hq : p o with
      | true =>
        rw [hq] at hcall
        have HI : Hid (idxP p L 0 = k) := idxP_hit p L k hkl HJ.out (by rw [HO.out]; exact hq)
        go_wp2_with (go_at_fn g; (with_reducible refine hcall.mono ?_); rintro e w' ⟨rfl, hb'⟩)
        go_ret
        exact ⟨by rw [HI.out]; rfl, below_step HB.out hb'⟩
      | false =>
        rw [hq] at hcall
        go_wp2_with (go_at_fn g; (with_reducible refine hcall.mono ?_); rintro e w' ⟨rfl, hb'⟩)
        go_roundw
        case rel =>
          refine ⟨k + 1, by go_num, hkl, below_step HB.out hb', fun j h h' => ?_⟩
          by_cases e : j = k
          · subst e; rw [HO.out]; exact hq
          · exact HJ.out j (by omega) h'
        case measure => simp only [intOf]; omega
    · obtain rfl : k = L.length := by omega
      have HI : Hid (idxP p L 0 = -1) := idxP_none p L 0 (fun o ho => by
        obtain ⟨j, hj, rfl⟩ := List.mem_iff_getElem.1 ho
        exact HJ.out j hj hj)
      have hB := HB.out
      clear hp hr
      go_wp2
      go_ret
      exact ⟨by rw [HI.out]; rfl, hB⟩
set_option maxRecDepth 1000000 in
set_option maxHeartbeats 4000000 in
theorem index100_calls (g : Nat) (lb : Array Value) (eg : ∀ args w, (callFunc g args).run Try.prog w = .ok (.enter g args) w) (p : S41 → Bool) (A0 : Option Addr) (c0 : Nat) (L : List S41) (w : World) (hr : Kd.C k41 w A0 L.length L) (hn : L.length ≤ 100000)
    (hp : ∀ W x, Below w.heap.size w W → Calls Try.prog g (#[.agg (six x)] ++ lb) W fun e W' => e = .returned (.bool (p x)) ∧ Below W.heap.size W W') :
    Calls Try.prog 100 #[.slice A0 L.length c0, .func (.func g) #[] lb] w fun e w' => e = .returned (.int .i64 (idxP p L 0)) ∧ Below w.heap.size w w' := by
  go_enter Try.func100, Try.ntmps100
  go_wp2
  go_loopw [5, 8] (fun _ y W => ∃ k : Nat, y = .int .i64 (k : Int) ∧ k ≤ L.length ∧ Below w.heap.size w W ∧ (∀ j, (h : j < k) → ∀ h', p (L[j]'h') = false)) (fun _ y W => L.length - (intOf y).toNat)
  case atStart => exact ⟨0, rfl, Nat.zero_le _, Below.refl _ _, fun j h => absurd h (Nat.not_lt_zero _)⟩
  case round =>
    obtain ⟨k, rfl, hk, hB, hj⟩ := hrel
    have HB := Lib.hid hB
    have HJ := Lib.hid hj
    clear hB hj
    by_cases hkl : k < L.length
    · obtain ⟨ad, e0, hx0, hx1, hx2, hx3, hx4, hx5⟩ := at_T41 (Kd.C_below hr HB.out) (k : Int) (by omega) (by omega)
      subst e0
      simp only [Int.toNat_natCast] at hx0 hx1 hx2 hx3 hx4 hx5
      have kk : (k : Int) < (L.length : Int) := by omega
      obtain ⟨o, ho⟩ : ∃ o, rd_T41 L (k : Int) = o := ⟨_, rfl⟩
      rw [ho] at hx0 hx1 hx2 hx3 hx4 hx5
      have hgo : L[k] = o := by rw [← ho]; unfold rd_T41; rw [Int.toNat_natCast, List.getD_eq_getElem?_getD, List.getElem?_eq_getElem hkl]; rfl
      have HO := Lib.hid hgo
      have hcall := hp wr o HB.out
      clear hp ho hgo hr
      unfold six at hcall
      cases hq : p o with
      | true =>
        rw [hq] at hcall
        have HI : Hid (idxP p L 0 = k) := idxP_hit p L k hkl HJ.out (by rw [HO.out]; exact hq)
        go_wp2_with (go_at_fn g; (with_reducible refine hcall.mono ?_); rintro e w' ⟨rfl, hb'⟩)
        go_ret
        exact ⟨by rw [HI.out]; rfl, below_step HB.out hb'⟩
      | false =>
        rw [hq] at hcall
        go_wp2_with (go_at_fn g; (with_reducible refine hcall.mono ?_); rintro e w' ⟨rfl, hb'⟩)
        go_roundw
        case rel =>
          refine ⟨k + 1, by go_num, hkl, below_step HB.out hb', fun j h h' => ?_⟩
          by_cases e : j = k
          · subst e; rw [HO.out]; exact hq
          · exact HJ.out j (by omega) h'
        case measure => simp only [intOf]; omega
    · obtain rfl : k = L.length := by omega
      have HI : Hid (idxP p L 0 = -1) := idxP_none p L 0 (fun o ho => by
        obtain ⟨j, hj, rfl⟩ := List.mem_iff_getElem.1 ho
        exact HJ.out j hj hj)
      have hB := HB.out
      clear hp hr
      go_wp2
      go_ret
      exact ⟨by rw [HI.out]; rfl, hB⟩
end Go.Proofs.Ytgffddbhnggllaa.Ed
namespace Go.Proofs.Ytgffddbhnggllaa.Ed
open Go.RowKit Go.Shelf Go.Proofs.YtgffddbhnggllaaW.PrintWords QF
theorem below_set' {w W : World} {n g j : Nat} {v : Value} (h : Below n w W) (hg : n ≤ g) : Below n w (W.setCell ⟨g, j, none⟩ v) := h.setCell hg _
theorem put6_far (W : World) (g : Nat) (o : S41) (k : Nat) (hk : k ≠ g) : (put6 W g o).heap[k]? = W.heap[k]? := by
  have e : put6 W g o = W.setCells g 0 (six o).toList := rfl
  rw [e]; exact setCells_far _ _ k hk
theorem below_cells {w : World} {n g : Nat} : ∀ (vs : List Value) (o : Nat) {W : World}, Below n w W → n ≤ g → Below n w (W.setCells g o vs)
  | [], _, _, h, _ => h
  | v :: r, o, W, h, hg => by rw [World.setCells]; exact below_cells r (o + 1) (below_set' h hg) hg
theorem run_clear6 (w : World) (t : TypeId) (ht : Try.prog.underlying t = some (.slice 41)) (b o n c : Nat) (hn : 0 < n)
    (hc : ∀ j, j < n * 6 → (w.cell? ⟨b, o + j, none⟩).isSome = true) (hf : ∀ j, j < n * 6 → w.frozen? ⟨b, o + j, none⟩ = false) :
    ∃ vs : List Value, vs.length = n * 6 ∧ ∀ ty, (Builtin.clear_ #[t] ty #[.slice (some ⟨b, o, none⟩) n c]).run Try.prog w = .ok (.tuple #[]) (w.setCells b o vs) := by
  have hz := Try.zeroValue41
  have hl : (Builtin.zeroCells (six z41) n).toList.length = n * 6 := by simp [Builtin.zeroCells, six]
  have h1 : ∀ v ∈ (Builtin.zeroCells (six z41) n).toList, v.oneCell' = true := by
    intro v hv
    simp [Builtin.zeroCells, six, z41] at hv
    obtain ⟨a, ha, rfl⟩ := hv
    have : a % 6 < 6 := Nat.mod_lt _ (by omega)
    generalize a % 6 = q at *
    match q, this with
    | 0, _ => rfl
    | 1, _ => rfl
    | 2, _ => rfl
    | 3, _ => rfl
    | 4, _ => rfl
    | 5, _ => rfl
  refine ⟨_, hl, fun ty => ?_⟩
  have hst := run_storeCells_cells (P := Try.prog) b o (Builtin.zeroCells (six z41) n).toList 0 w (by rw [hl]; simpa using hc) (by rw [hl]; simpa using hf) h1
  simp only [Nat.add_zero] at hst
  obtain ⟨m, rfl⟩ : ∃ m, n = m + 1 := ⟨n - 1, by omega⟩
  have hzz : (zeroValue 41).run Try.prog w = .ok (.agg (six z41)) w := hz w
  simp [Builtin.clear_, run_underlying ht, hzz, Value.cells, hst]
theorem idxP_split (p : S41 → Bool) (L : List S41) : (idxP p L 0 = -1 ∧ L.filter (fun x => !p x) = L) ∨ ∃ (k : Nat) (h : k < L.length), idxP p L 0 = k ∧ p L[k] = true ∧ L.take k = (L.take (k + 1)).filter (fun x => !p x) := by
  by_cases h : ∀ o ∈ L, p o = false
  · exact .inl ⟨idxP_none p L 0 h, List.filter_eq_self.2 (fun o ho => by rw [h o ho]; rfl)⟩
  · right
    have : ∃ k, ∃ h : k < L.length, p L[k] = true ∧ ∀ j, (h : j < k) → ∀ h', p (L[j]'h') = false := by
      induction L with
      | nil => exact absurd (fun o ho => by cases ho) h
      | cons o L ih =>
        cases ho : p o with
        | true => exact ⟨0, by simp, by simpa using ho, fun j hj => absurd hj (Nat.not_lt_zero _)⟩
        | false =>
          have h2 : ¬ ∀ o ∈ L, p o = false := fun q => h (fun x hx => by
            rcases List.mem_cons.1 hx with rfl | hx
            · exact ho
            · exact q x hx)
          obtain ⟨k, hk, h3, h4⟩ := ih h2
          refine ⟨k + 1, by simpa using hk, by simpa using h3, fun j hj h' => ?_⟩
          cases j with
          | zero => simpa using ho
          | succ j => simpa using h4 j (by omega) (by simpa using h')
    obtain ⟨k, hk, h3, h4⟩ := this
    refine ⟨k, hk, idxP_hit p L k hk h4 h3, h3, ?_⟩
    have hall : (L.take k).filter (fun x => !p x) = L.take k := List.filter_eq_self.2 (fun o ho => by
      obtain ⟨j, hj, rfl⟩ := List.mem_iff_getElem.1 ho
      rw [List.getElem_take]
      rw [h4 j (by simp at hj; omega) (by simp at hj; omega)]; rfl)
    rw [List.take_add_one, List.getElem?_eq_getElem hk, Option.toList_some, List.filter_append, hall]
    simp [h3]
set_option maxRecDepth 1000000 in
set_option maxHeartbeats 4000000 in
theorem delete82_calls (gf : Nat) (lb : Array Value) (eg : ∀ args w, (callFunc gf args).run Try.prog w = .ok (.enter gf args) w) (p : S41 → Bool) (B : Nat) (ob : Obj) (base : Nat) (v : Value) (L : List S41) (w : World) (hv : RV w base v L) (hn : L.length ≤ 100000)
    (hB : w.heap[B]? = some ob) (hBb : B < base) (hbw : base ≤ w.heap.size)
    (hp : ∀ W x, W.heap[B]? = some ob → Calls Try.prog gf (#[.agg (six x)] ++ lb) W fun e W' => e = .returned (.bool (p x)) ∧ Below W.heap.size W W') :
    Calls Try.prog 82 #[v, .func (.func gf) #[] lb] w fun e w' => ∃ v', e = .returned v' ∧ RV w' base v' (L.filter fun x => !p x) ∧ Below base w w' := by
  obtain ⟨A, c, rfl, hc, hC⟩ := Kd.R_reads hv.R
  have hI := index95_calls gf lb eg p A c L w hC hn (fun W x hb => hp W x (blk_below hB hb))
  rcases idxP_split p L with ⟨e1, e2⟩ | ⟨k0, hk0, e1, e2, e3⟩
  · rw [e1] at hI
    rw [e2]
    have HV := Lib.hid hv
    clear hv hC hp hB
    go_enter Try.func82, Try.ntmps82
    go_wp2_with (go_at_call 95; (with_reducible refine hI.mono ?_); rintro e w1 ⟨rfl, hb⟩)
    go_ret
    exact ⟨_, rfl, HV.out.below hb, hb.mono hbw⟩
  · rw [e1] at hI
    rcases hv with ⟨_, rfl⟩ | ⟨g, cap, hve, hg, hR⟩
    · simp at hk0
    injection hve with ha _ hcc
    subst ha; subst hcc
    have HR := Lib.hid hR
    have HB := Lib.hid hB
    have HP := Lib.hid hp
    clear hR hC hp hB
    have hne1 : ((k0 : Int) == -1) = false := beq_eq_false_iff_ne.2 (by omega)
    go_enter Try.func82, Try.ntmps82
    go_wp2_with (go_at_call 95; (with_reducible refine hI.mono ?_); rintro e w1 ⟨rfl, hb⟩)
    have hR1 := HR.out.below hb
    have hB1 := blk_below HB.out hb
    have hW1 := hb.mono hbw
    clear hb hI
    go_loopw [5, 6, 7] (fun x y _ W => ∃ (i j : Nat) (L' : List S41), x = .int .i64 (i : Int) ∧ y = .int .i64 (j : Int) ∧ i < j ∧ j ≤ L.length ∧ Rw W g c L' ∧ L'.length = L.length ∧ L'.take i = (L.take j).filter (fun x => !p x) ∧ L'.drop j = L.drop j ∧ W.heap[B]? = some ob ∧ Below base w W) (fun _ y _ W => L.length - (intOf y).toNat)
    case atStart => exact ⟨k0, k0 + 1, L, rfl, by go_num, by omega, by omega, hR1, rfl, e3, rfl, hB1, hW1⟩
    case round =>
      obtain ⟨i, j, L', rfl, rfl, hij, hj, hRw, hlen, htk, hdr, hBW, hBel⟩ := hrel
      have H := Lib.hid hRw
      have HT := Lib.hid htk
      have HD := Lib.hid hdr
      have HBW := Lib.hid hBW
      have HBel := Lib.hid hBel
      clear hR1 hB1 hW1 hRw htk hdr hBW hBel e1 e2 e3 hne1
      by_cases hlt : j < L.length
      · have hjz : (j : Int) < (L.length : Int) := by omega
        obtain ⟨o, ho⟩ : ∃ o, L[j] = o := ⟨_, rfl⟩
        have hLj : L'[j]? = some o := by
          have : (L'.drop j)[0]? = (L.drop j)[0]? := by rw [HD.out]
          rw [List.getElem?_drop, List.getElem?_drop, Nat.add_zero] at this
          rw [this, List.getElem?_eq_getElem hlt, ho]
        have hx0 : wr.cell? ⟨g, j * 6, none⟩ = some (.int .i64 o.f0) := H.out.cell hLj 0 _ rfl
        have hx1 : wr.cell? ⟨g, j * 6 + 1, none⟩ = some (.int .i64 o.f1) := H.out.cell hLj 1 _ rfl
        have hx2 : wr.cell? ⟨g, j * 6 + 2, none⟩ = some (.int .i64 o.f2) := H.out.cell hLj 2 _ rfl
        have hx3 : wr.cell? ⟨g, j * 6 + 3, none⟩ = some (.int .i64 o.f3) := H.out.cell hLj 3 _ rfl
        have hx4 : wr.cell? ⟨g, j * 6 + 4, none⟩ = some (.int .i64 o.f4) := H.out.cell hLj 4 _ rfl
        have hx5 : wr.cell? ⟨g, j * 6 + 5, none⟩ = some (.int .u8 o.f5) := H.out.cell hLj 5 _ rfl
        have HO := Lib.hid ho
        have HLj := Lib.hid hLj
        clear ho hLj
        go_upto_region 8 with ((with_reducible refine gate_dst (N := 7) rfl ?_); refine box_event ?hg (N := 7) ?hd (cs := #[.int .i64 0, .int .i64 0, .int .i64 0, .int .i64 0, .int .i64 0, .int .u8 0]) (t := 41) ?hr ?_; (case hd => rfl); (case hg => rfl); (case hr => first | (go_simp; done) | (go_simp; rfl)); intro gb hg w1 hbox hb; have HM1 := Lib.hid hb; have HG := Lib.hid hg; clear hg hb hx0 hx1 hx2 hx3 hx4 hx5; have y0 : w1.cell? ⟨gb, 0, none⟩ = some (.int .i64 0) := (blk_cell hbox 0).trans rfl; have y1 : w1.cell? ⟨gb, 1, none⟩ = some (.int .i64 0) := (blk_cell hbox 1).trans rfl; have y2 : w1.cell? ⟨gb, 2, none⟩ = some (.int .i64 0) := (blk_cell hbox 2).trans rfl; have y3 : w1.cell? ⟨gb, 3, none⟩ = some (.int .i64 0) := (blk_cell hbox 3).trans rfl; have y4 : w1.cell? ⟨gb, 4, none⟩ = some (.int .i64 0) := (blk_cell hbox 4).trans rfl; have y5 : w1.cell? ⟨gb, 5, none⟩ = some (.int .u8 0) := (blk_cell hbox 5).trans rfl; have f0 := blk_frozen hbox 0; have f1 := blk_frozen hbox 1; have f2 := blk_frozen hbox 2; have f3 := blk_frozen hbox 3; have f4 := blk_frozen hbox 4; have f5 := blk_frozen hbox 5)
        have hb6 := put6_box hbox o
        have hgb : wr.heap.size ≤ gb := by rw [HG.out]; exact Nat.le_refl _
        have hgg : g < gb := Nat.lt_of_lt_of_le H.out.lt hgb
        have hBB : B < gb := Nat.lt_of_lt_of_le (blk_lt HBW.out) hgb
        have hbs := HBel.out.size
        have hB6 : Below base w (put6 w1 gb o) := below_set' (below_set' (below_set' (below_set' (below_set' (below_set' ((HBel.out).trans (HM1.out.mono (by omega))) (by omega)) (by omega)) (by omega)) (by omega)) (by omega)) (by omega)
        have hK6 : ∀ k, k < gb → (put6 w1 gb o).heap[k]? = w1.heap[k]? := fun k hk => put6_far _ _ _ k (by omega)
        have hK : ∀ k, k < wr.heap.size → (put6 w1 gb o).heap[k]? = wr.heap[k]? := fun k hk => (hK6 k (by omega)).trans (HM1.out.block k hk)
        have hR6 : Rw (put6 w1 gb o) g c L' := H.out.same (hK g H.out.lt)
        have hBW6 : (put6 w1 gb o).heap[B]? = some ob := (hK B (blk_lt HBW.out)).trans HBW.out
        show Code.wp _ _ _ _ (put6 w1 gb o)
        generalize put6 w1 gb o = W6 at hb6 hB6 hR6 hBW6 ⊢
        clear y0 y1 y2 y3 y4 y5 f0 f1 f2 f3 f4 f5 hbox HM1 hK hK6 HG
        obtain ⟨z0, z1, z2, z3, z4, z5⟩ := six_cell hb6
        have hcall := HP.out W6 o hBW6
        unfold six at hcall
        have H6 := Lib.hid hR6
        have HB6 := Lib.hid hB6
        have HBW6 := Lib.hid hBW6
        have HX6 := Lib.hid hb6
        clear hR6 hB6 hBW6 hb6
        cases hq : p o with
        | true =>
          rw [hq] at hcall
          go_wp2_with (go_at_fn gf; (with_reducible refine hcall.mono ?_); rintro e w8 ⟨rfl, hb8⟩)
          go_roundw
          case rel =>
            refine ⟨i, j + 1, L', rfl, by go_num, by omega, hlt, H6.out.below hb8, hlen, ?_, ?_, blk_below HBW6.out hb8, HB6.out.trans (hb8.mono (by have := HB6.out.size; omega))⟩
            · rw [HT.out, List.take_add_one, List.getElem?_eq_getElem hlt, HO.out, Option.toList_some, List.filter_append]; simp [hq]
            · rw [← List.drop_drop, HD.out, List.drop_drop]
          case measure => simp only [intOf]; omega
        | false =>
          rw [hq] at hcall
          obtain ⟨q, hLi⟩ : ∃ q, L'[i]? = some q := ⟨_, List.getElem?_eq_getElem (by omega)⟩
          have HLi := Lib.hid hLi
          clear hLi
          go_wp2_with (go_at_fn gf; (with_reducible refine hcall.mono ?_); rintro e w8 ⟨rfl, hb8⟩; obtain ⟨z0, z1, z2, z3, z4, z5⟩ := six_cell (blk_below HX6.out hb8); have H8 := Lib.hid (H6.out.below hb8); have HB8 := Lib.hid (blk_below HBW6.out hb8); have HBel8 := Lib.hid (HB6.out.trans (hb8.mono (by have := HB6.out.size; omega))); clear hb8; have s0 : w8.cell? ⟨g, i * 6, none⟩ = some (.int .i64 q.f0) := H8.out.cell HLi.out 0 _ rfl; have s1 : w8.cell? ⟨g, i * 6 + 1, none⟩ = some (.int .i64 q.f1) := H8.out.cell HLi.out 1 _ rfl; have s2 : w8.cell? ⟨g, i * 6 + 2, none⟩ = some (.int .i64 q.f2) := H8.out.cell HLi.out 2 _ rfl; have s3 : w8.cell? ⟨g, i * 6 + 3, none⟩ = some (.int .i64 q.f3) := H8.out.cell HLi.out 3 _ rfl; have s4 : w8.cell? ⟨g, i * 6 + 4, none⟩ = some (.int .i64 q.f4) := H8.out.cell HLi.out 4 _ rfl; have s5 : w8.cell? ⟨g, i * 6 + 5, none⟩ = some (.int .u8 q.f5) := H8.out.cell HLi.out 5 _ rfl; have r0 := H8.out.frozen (i * 6); have r1 := H8.out.frozen (i * 6 + 1); have r2 := H8.out.frozen (i * 6 + 2); have r3 := H8.out.frozen (i * 6 + 3); have r4 := H8.out.frozen (i * 6 + 4); have r5 := H8.out.frozen (i * 6 + 5); have iz : (i : Int) < (L.length : Int) := by omega)
          go_roundw
          case rel =>
            have hne : B ≠ g := by omega
            refine ⟨i + 1, j + 1, L'.set i o, by go_num, by go_num, by omega, hlt, H8.out.put (by omega) o, by rw [List.length_set, hlen], ?_, ?_, (setCells_far (six o).toList (i * 6) B hne).trans HB8.out, below_set' (below_set' (below_set' (below_set' (below_set' (below_set' HBel8.out hg) hg) hg) hg) hg) hg⟩
            · rw [List.take_set, List.take_add_one, List.getElem?_eq_getElem (by omega), Option.toList_some, List.set_append_right _ _ (by rw [List.length_take]; omega), HT.out, List.take_add_one, List.getElem?_eq_getElem hlt, HO.out, Option.toList_some, List.filter_append]
              have : ((L.take j).filter (fun x => !p x)).length = i := by rw [← HT.out, List.length_take]; omega
              rw [this]; simp [hq]
            · rw [List.drop_set_of_lt (by omega), ← List.drop_drop, HD.out, List.drop_drop]
          case measure => simp only [intOf]; omega
      · obtain rfl : j = L.length := by omega
        have hjz : ¬ (L.length : Int) < (L.length : Int) := by omega
        have hR := H.out
        have hcs : ∀ t, t < (L.length - i) * 6 → (wr.cell? ⟨g, i * 6 + t, none⟩).isSome = true := fun t ht => by
          obtain ⟨rest, h1, h2⟩ := hR.cells
          rw [blk_cell h1, List.getElem?_toArray, List.getElem?_eq_getElem (by rw [List.length_append, flat_len, hlen]; omega)]; rfl
        obtain ⟨vs, hvl, hcl⟩ := run_clear6 wr 24 Try.underlying24 g (i * 6) (L.length - i) (c - i) (by omega) hcs (fun t _ => hR.frozen _)
        have hfin : RV (wr.setCells g (i * 6) vs) base (.slice (some ⟨g, 0, none⟩) i c) (L.filter fun x => !p x) := by
          have e : L'.take i = L.filter fun x => !p x := by rw [HT.out, List.take_length]
          have hl : i = (L.filter fun x => !p x).length := by rw [← e, List.length_take]; omega
          refine .inr ⟨g, c, by rw [← hl], hg, ?_⟩
          rw [← e]
          exact hR.cut (by omega) vs (by rw [hvl, hlen])
        have hBf : Below base w (wr.setCells g (i * 6) vs) := below_cells vs _ HBel.out hg
        have HF := Lib.hid hfin
        have HBf := Lib.hid hBf
        have ic : (i : Int) ≤ (L.length : Int) := by omega
        have ic2 : (i : Int) ≤ (c : Int) := by omega
        clear hcs hR hfin hBf
        go_wp2
        go_ret
        exact ⟨_, rfl, HF.out, HBf.out⟩
set_option maxRecDepth 1000000 in
set_option maxHeartbeats 4000000 in
theorem delete84_calls (gf : Nat) (lb : Array Value) (eg : ∀ args w, (callFunc gf args).run Try.prog w = .ok (.enter gf args) w) (p : S41 → Bool) (B : Nat) (ob : Obj) (base : Nat) (v : Value) (L : List S41) (w : World) (hv : RV w base v L) (hn : L.length ≤ 100000)
    (hB : w.heap[B]? = some ob) (hBb : B < base) (hbw : base ≤ w.heap.size)
    (hp : ∀ W x, W.heap[B]? = some ob → Calls Try.prog gf (#[.agg (six x)] ++ lb) W fun e W' => e = .returned (.bool (p x)) ∧ Below W.heap.size W W') :
    Calls Try.prog 84 #[v, .func (.func gf) #[] lb] w fun e w' => ∃ v', e = .returned v' ∧ RV w' base v' (L.filter fun x => !p x) ∧ Below base w w' := by
  obtain ⟨A, c, rfl, hc, hC⟩ := Kd.R_reads hv.R
  have hI := index100_calls gf lb eg p A c L w hC hn (fun W x hb => hp W x (blk_below hB hb))
  rcases idxP_split p L with ⟨e1, e2⟩ | ⟨k0, hk0, e1, e2, e3⟩
  · rw [e1] at hI
    rw [e2]
    have HV := Lib.hid hv
    clear hv hC hp hB
    go_enter Try.func84, Try.ntmps84
    go_wp2_with (go_at_call 100; (with_reducible refine hI.mono ?_); rintro e w1 ⟨rfl, hb⟩)
    go_ret
    exact ⟨_, rfl, HV.out.below hb, hb.mono hbw⟩
  · rw [e1] at hI
    rcases hv with ⟨_, rfl⟩ | ⟨g, cap, hve, hg, hR⟩
    · simp at hk0
    injection hve with ha _ hcc
    subst ha; subst hcc
    have HR := Lib.hid hR
    have HB := Lib.hid hB
    have HP := Lib.hid hp
    clear hR hC hp hB
    have hne1 : ((k0 : Int) == -1) = false := beq_eq_false_iff_ne.2 (by omega)
    go_enter Try.func84, Try.ntmps84
    go_wp2_with (go_at_call 100; (with_reducible refine hI.mono ?_); rintro e w1 ⟨rfl, hb⟩)
    have hR1 := HR.out.below hb
    have hB1 := blk_below HB.out hb
    have hW1 := hb.mono hbw
    clear hb hI
    go_loopw [5, 6, 7] (fun x y _ W => ∃ (i j : Nat) (L' : List S41), x = .int .i64 (i : Int) ∧ y = .int .i64 (j : Int) ∧ i < j ∧ j ≤ L.length ∧ Rw W g c L' ∧ L'.length = L.length ∧ L'.take i = (L.take j).filter (fun x => !p x) ∧ L'.drop j = L.drop j ∧ W.heap[B]? = some ob ∧ Below base w W) (fun _ y _ W => L.length - (intOf y).toNat)
    case atStart => exact ⟨k0, k0 + 1, L, rfl, by go_num, by omega, by omega, hR1, rfl, e3, rfl, hB1, hW1⟩
    case round =>
      obtain ⟨i, j, L', rfl, rfl, hij, hj, hRw, hlen, htk, hdr, hBW, hBel⟩ := hrel
      have H := Lib.hid hRw
      have HT := Lib.hid htk
      have HD := Lib.hid hdr
      have HBW := Lib.hid hBW
      have HBel := Lib.hid hBel
      clear hR1 hB1 hW1 hRw htk hdr hBW hBel e1 e2 e3 hne1
      by_cases hlt : j < L.length
      · have hjz : (j : Int) < (L.length : Int) := by omega
        obtain ⟨o, ho⟩ : ∃ o, L[j] = o := ⟨_, rfl⟩
        have hLj : L'[j]? = some o := by
          have : (L'.drop j)[0]? = (L.drop j)[0]? := by rw [HD.out]
          rw [List.getElem?_drop, List.getElem?_drop, Nat.add_zero] at this
          rw [this, List.getElem?_eq_getElem hlt, ho]
        have hx0 : wr.cell? ⟨g, j * 6, none⟩ = some (.int .i64 o.f0) := H.out.cell hLj 0 _ rfl
        have hx1 : wr.cell? ⟨g, j * 6 + 1, none⟩ = some (.int .i64 o.f1) := H.out.cell hLj 1 _ rfl
        have hx2 : wr.cell? ⟨g, j * 6 + 2, none⟩ = some (.int .i64 o.f2) := H.out.cell hLj 2 _ rfl
        have hx3 : wr.cell? ⟨g, j * 6 + 3, none⟩ = some (.int .i64 o.f3) := H.out.cell hLj 3 _ rfl
        have hx4 : wr.cell? ⟨g, j * 6 + 4, none⟩ = some (.int .i64 o.f4) := H.out.cell hLj 4 _ rfl
        have hx5 : wr.cell? ⟨g, j * 6 + 5, none⟩ = some (.int .u8 o.f5) := H.out.cell hLj 5 _ rfl
        have HO := Lib.hid ho
        have HLj := Lib.hid hLj
        clear ho hLj
        go_upto_region 8 with ((with_reducible refine gate_dst (N := 7) rfl ?_); refine box_event ?hg (N := 7) ?hd (cs := #[.int .i64 0, .int .i64 0, .int .i64 0, .int .i64 0, .int .i64 0, .int .u8 0]) (t := 41) ?hr ?_; (case hd => rfl); (case hg => rfl); (case hr => first | (go_simp; done) | (go_simp; rfl)); intro gb hg w1 hbox hb; have HM1 := Lib.hid hb; have HG := Lib.hid hg; clear hg hb hx0 hx1 hx2 hx3 hx4 hx5; have y0 : w1.cell? ⟨gb, 0, none⟩ = some (.int .i64 0) := (blk_cell hbox 0).trans rfl; have y1 : w1.cell? ⟨gb, 1, none⟩ = some (.int .i64 0) := (blk_cell hbox 1).trans rfl; have y2 : w1.cell? ⟨gb, 2, none⟩ = some (.int .i64 0) := (blk_cell hbox 2).trans rfl; have y3 : w1.cell? ⟨gb, 3, none⟩ = some (.int .i64 0) := (blk_cell hbox 3).trans rfl; have y4 : w1.cell? ⟨gb, 4, none⟩ = some (.int .i64 0) := (blk_cell hbox 4).trans rfl; have y5 : w1.cell? ⟨gb, 5, none⟩ = some (.int .u8 0) := (blk_cell hbox 5).trans rfl; have f0 := blk_frozen hbox 0; have f1 := blk_frozen hbox 1; have f2 := blk_frozen hbox 2; have f3 := blk_frozen hbox 3; have f4 := blk_frozen hbox 4; have f5 := blk_frozen hbox 5)
        have hb6 := put6_box hbox o
        have hgb : wr.heap.size ≤ gb := by rw [HG.out]; exact Nat.le_refl _
        have hgg : g < gb := Nat.lt_of_lt_of_le H.out.lt hgb
        have hBB : B < gb := Nat.lt_of_lt_of_le (blk_lt HBW.out) hgb
        have hbs := HBel.out.size
        have hB6 : Below base w (put6 w1 gb o) := below_set' (below_set' (below_set' (below_set' (below_set' (below_set' ((HBel.out).trans (HM1.out.mono (by omega))) (by omega)) (by omega)) (by omega)) (by omega)) (by omega)) (by omega)
        have hK6 : ∀ k, k < gb → (put6 w1 gb o).heap[k]? = w1.heap[k]? := fun k hk => put6_far _ _ _ k (by omega)
        have hK : ∀ k, k < wr.heap.size → (put6 w1 gb o).heap[k]? = wr.heap[k]? := fun k hk => (hK6 k (by omega)).trans (HM1.out.block k hk)
        have hR6 : Rw (put6 w1 gb o) g c L' := H.out.same (hK g H.out.lt)
        have hBW6 : (put6 w1 gb o).heap[B]? = some ob := (hK B (blk_lt HBW.out)).trans HBW.out
        show Code.wp _ _ _ _ (put6 w1 gb o)
        generalize put6 w1 gb o = W6 at hb6 hB6 hR6 hBW6 ⊢
        clear y0 y1 y2 y3 y4 y5 f0 f1 f2 f3 f4 f5 hbox HM1 hK hK6 HG
        obtain ⟨z0, z1, z2, z3, z4, z5⟩ := six_cell hb6
        have hcall := HP.out W6 o hBW6
        unfold six at hcall
        have H6 := Lib.hid hR6
        have HB6 := Lib.hid hB6
        have HBW6 := Lib.hid hBW6
        have HX6 := Lib.hid hb6
        clear hR6 hB6 hBW6 hb6
        cases hq : p o with
        | true =>
          rw [hq] at hcall
          go_wp2_with (go_at_fn gf; (with_reducible refine hcall.mono ?_); rintro e w8 ⟨rfl, hb8⟩)
          go_roundw
          case rel =>
            refine ⟨i, j + 1, L', rfl, by go_num, by omega, hlt, H6.out.below hb8, hlen, ?_, ?_, blk_below HBW6.out hb8, HB6.out.trans (hb8.mono (by have := HB6.out.size; omega))⟩
            · rw [HT.out, List.take_add_one, List.getElem?_eq_getElem hlt, HO.out, Option.toList_some, List.filter_append]; simp [hq]
            · rw [← List.drop_drop, HD.out, List.drop_drop]
          case measure => simp only [intOf]; omega
        | false =>
          rw [hq] at hcall
          obtain ⟨q, hLi⟩ : ∃ q, L'[i]? = some q := ⟨_, List.getElem?_eq_getElem (by omega)⟩
          have HLi := Lib.hid hLi
          clear hLi
          go_wp2_with (go_at_fn gf; (with_reducible refine hcall.mono ?_); rintro e w8 ⟨rfl, hb8⟩; obtain ⟨z0, z1, z2, z3, z4, z5⟩ := six_cell (blk_below HX6.out hb8); have H8 := Lib.hid (H6.out.below hb8); have HB8 := Lib.hid (blk_below HBW6.out hb8); have HBel8 := Lib.hid (HB6.out.trans (hb8.mono (by have := HB6.out.size; omega))); clear hb8; have s0 : w8.cell? ⟨g, i * 6, none⟩ = some (.int .i64 q.f0) := H8.out.cell HLi.out 0 _ rfl; have s1 : w8.cell? ⟨g, i * 6 + 1, none⟩ = some (.int .i64 q.f1) := H8.out.cell HLi.out 1 _ rfl; have s2 : w8.cell? ⟨g, i * 6 + 2, none⟩ = some (.int .i64 q.f2) := H8.out.cell HLi.out 2 _ rfl; have s3 : w8.cell? ⟨g, i * 6 + 3, none⟩ = some (.int .i64 q.f3) := H8.out.cell HLi.out 3 _ rfl; have s4 : w8.cell? ⟨g, i * 6 + 4, none⟩ = some (.int .i64 q.f4) := H8.out.cell HLi.out 4 _ rfl; have s5 : w8.cell? ⟨g, i * 6 + 5, none⟩ = some (.int .u8 q.f5) := H8.out.cell HLi.out 5 _ rfl; have r0 := H8.out.frozen (i * 6); have r1 := H8.out.frozen (i * 6 + 1); have r2 := H8.out.frozen (i * 6 + 2); have r3 := H8.out.frozen (i * 6 + 3); have r4 := H8.out.frozen (i * 6 + 4); have r5 := H8.out.frozen (i * 6 + 5); have iz : (i : Int) < (L.length : Int) := by omega)
          go_roundw
          case rel =>
            have hne : B ≠ g := by omega
            refine ⟨i + 1, j + 1, L'.set i o, by go_num, by go_num, by omega, hlt, H8.out.put (by omega) o, by rw [List.length_set, hlen], ?_, ?_, (setCells_far (six o).toList (i * 6) B hne).trans HB8.out, below_set' (below_set' (below_set' (below_set' (below_set' (below_set' HBel8.out hg) hg) hg) hg) hg) hg⟩
            · rw [List.take_set, List.take_add_one, List.getElem?_eq_getElem (by omega), Option.toList_some, List.set_append_right _ _ (by rw [List.length_take]; omega), HT.out, List.take_add_one, List.getElem?_eq_getElem hlt, HO.out, Option.toList_some, List.filter_append]
              have : ((L.take j).filter (fun x => !p x)).length = i := by rw [← HT.out, List.length_take]; omega
              rw [this]; simp [hq]
            · rw [List.drop_set_of_lt (by omega), ← List.drop_drop, HD.out, List.drop_drop]
          case measure => simp only [intOf]; omega
      · obtain rfl : j = L.length := by omega
        have hjz : ¬ (L.length : Int) < (L.length : Int) := by omega
        have hR := H.out
        have hcs : ∀ t, t < (L.length - i) * 6 → (wr.cell? ⟨g, i * 6 + t, none⟩).isSome = true := fun t ht => by
          obtain ⟨rest, h1, h2⟩ := hR.cells
          rw [blk_cell h1, List.getElem?_toArray, List.getElem?_eq_getElem (by rw [List.length_append, flat_len, hlen]; omega)]; rfl
        obtain ⟨vs, hvl, hcl⟩ := run_clear6 wr 98 Try.underlying98 g (i * 6) (L.length - i) (c - i) (by omega) hcs (fun t _ => hR.frozen _)
        have hfin : RV (wr.setCells g (i * 6) vs) base (.slice (some ⟨g, 0, none⟩) i c) (L.filter fun x => !p x) := by
          have e : L'.take i = L.filter fun x => !p x := by rw [HT.out, List.take_length]
          have hl : i = (L.filter fun x => !p x).length := by rw [← e, List.length_take]; omega
          refine .inr ⟨g, c, by rw [← hl], hg, ?_⟩
          rw [← e]
          exact hR.cut (by omega) vs (by rw [hvl, hlen])
        have hBf : Below base w (wr.setCells g (i * 6) vs) := below_cells vs _ HBel.out hg
        have HF := Lib.hid hfin
        have HBf := Lib.hid hBf
        have ic : (i : Int) ≤ (L.length : Int) := by omega
        have ic2 : (i : Int) ≤ (c : Int) := by omega
        clear hcs hR hfin hBf
        go_wp2
        go_ret
        exact ⟨_, rfl, HF.out, HBf.out⟩
end Go.Proofs.Ytgffddbhnggllaa.Ed
namespace Go.Proofs.Ytgffddbhnggllaa.Ed
open Go.RowKit Go.Shelf Go.Proofs.YtgffddbhnggllaaW.PrintWords QF
instance : Inhabited S41 := ⟨z41⟩
structure SB (w0 W : World) (g cap : Nat) (d : Array S41) : Prop where
  row : Rw W g cap d.toList
  gr : w0.grownBy W (some g)
theorem get_bang (d : Array S41) (i : Nat) (h : i < d.size) : d.toList[i]? = some d[i]! := by
  rw [List.getElem?_eq_getElem (by simpa using h), getElem!_pos d i h]; simp
theorem SB.cells {w0 W : World} {g cap : Nat} {d : Array S41} (h : SB w0 W g cap d) (i : Nat) (hi : i < d.size) :
    W.cell? ⟨g, i * 6, none⟩ = some (.int .i64 d[i]!.f0) ∧ W.cell? ⟨g, i * 6 + 1, none⟩ = some (.int .i64 d[i]!.f1) ∧ W.cell? ⟨g, i * 6 + 2, none⟩ = some (.int .i64 d[i]!.f2) ∧ W.cell? ⟨g, i * 6 + 3, none⟩ = some (.int .i64 d[i]!.f3) ∧ W.cell? ⟨g, i * 6 + 4, none⟩ = some (.int .i64 d[i]!.f4) ∧ W.cell? ⟨g, i * 6 + 5, none⟩ = some (.int .u8 d[i]!.f5) :=
  have e := get_bang d i hi
  ⟨h.row.cell e 0 _ rfl, h.row.cell e 1 _ rfl, h.row.cell e 2 _ rfl, h.row.cell e 3 _ rfl, h.row.cell e 4 _ rfl, h.row.cell e 5 _ rfl⟩
theorem grown_below {w0 W W' : World} {g : Nat} (h : w0.grownBy W (some g)) (hb : Below W.heap.size W W') : w0.grownBy W' (some g) :=
  ⟨hb.os.trans h.os, hb.tape.trans h.tape, hb.output.trans h.output, Nat.le_trans h.size hb.size, fun k hk hn => (hb.block k (Nat.lt_of_lt_of_le hk h.size)).trans (h.block k hk hn)⟩
theorem SB.below {w0 W W' : World} {g cap : Nat} {d : Array S41} (h : SB w0 W g cap d) (hb : Below W.heap.size W W') : SB w0 W' g cap d := ⟨h.row.below hb, grown_below h.gr hb⟩
theorem SB.drew {w0 W : World} {g cap : Nat} {d : Array S41} (h : SB w0 W g cap d) : SB w0 W.drew g cap d := ⟨h.row.same rfl, ⟨h.gr.os, h.gr.tape, h.gr.output, h.gr.size, h.gr.block⟩⟩
theorem SB.regrown {w0 W : World} {g cap : Nat} {d : Array S41} (h : SB w0 W g cap d) (dr : Nat) (os : Array Obj) : SB w0 (Sort.grow (redrawn W dr) os) g cap d := h.below (below_regrown W dr os)
theorem SB.start {w0 : World} {g cap : Nat} {d : Array S41} (h : Rw w0 g cap d.toList) : SB w0 w0 g cap d := ⟨h, ⟨rfl, rfl, rfl, Nat.le_refl _, fun _ _ _ => rfl⟩⟩
theorem SB.trans {w0 W W' : World} {g cap : Nat} {d d' : Array S41} (h : SB w0 W g cap d) (h' : SB W W' g cap d') : SB w0 W' g cap d' :=
  ⟨h'.row, ⟨h'.gr.os.trans h.gr.os, h'.gr.tape.trans h.gr.tape, h'.gr.output.trans h.gr.output, Nat.le_trans h.gr.size h'.gr.size, fun k hk hn => (h'.gr.block k (Nat.lt_of_lt_of_le hk h.gr.size) hn).trans (h.gr.block k hk hn)⟩⟩
theorem SB.put {w0 W : World} {g cap : Nat} {d : Array S41} (h : SB w0 W g cap d) (i : Nat) (hi : i < d.size) (o : S41) : SB w0 (W.setCells g (i * 6) (six o).toList) g cap (d.setIfInBounds i o) := by
  refine ⟨?_, ⟨?_, ?_, ?_, ?_, ?_⟩⟩
  · have := h.row.put (i := i) (by simpa using hi) o
    rw [← Array.toList_setIfInBounds] at this; exact this
  · exact (setCells_same g _ _ W).1.trans h.gr.os
  · exact (setCells_same g _ _ W).2.1.trans h.gr.tape
  · exact (setCells_same g _ _ W).2.2.1.trans h.gr.output
  · rw [(setCells_same g _ _ W).2.2.2]; exact h.gr.size
  · intro k hk hn
    exact (setCells_far _ _ k (fun e => hn (by rw [e]))).trans (h.gr.block k hk hn)
def swapW (W : World) (g i j : Nat) (x y : S41) : World := ((W.setCells g (i * 6) (six y).toList).setCells g (j * 6) (six x).toList).drew
theorem SB.swap {w0 W : World} {g cap : Nat} {d : Array S41} (h : SB w0 W g cap d) (i j : Nat) (hi : i < d.size) (hj : j < d.size) : SB w0 (swapW W g i j d[i]! d[j]!) g cap (Sort.swp d i j) :=
  ((h.put i hi d[j]!).put j (by simpa using hj) d[i]!).drew
def cmpV (rv : Value) : Value := .func (.func 89) #[rv] #[]
set_option maxRecDepth 1000000 in
set_option maxHeartbeats 4000000 in
theorem reverse_calls (rv : Value) (g cap a b : Nat) (d : Array S41) (w0 w : World) (S : SB w0 w g cap d) (hab : a ≤ b) (hb : b ≤ d.size) (hsz : d.size ≤ 100000) :
    Calls Try.prog 113 #[.slice (some ⟨g, 0, none⟩) d.size cap, .int .i64 a, .int .i64 b, .func (.func 89) #[rv] #[]] w fun e w' => e = .returned (.tuple #[]) ∧ SB w0 w' g cap (Sort.reverseRange d a b) := by
  have mixed : Try.prog.follows .mixedOrders = true := by kernel_rfl
  have S0 := Lib.hid S
  clear S
  go_enter Try.func113, Try.ntmps113
  go_wp2
  go_loopg [8, 9] (b - a) (fun kx s8 s9 wr => ∃ (i jn : Nat) (jz : Int) (dk : Array S41), s8 = .int .i64 i ∧ s9 = .int .i64 jz ∧ ((i : Int) < jz → jz = jn ∧ jn < d.size) ∧ (¬ (i : Int) < jz → ¬ i < jn) ∧ jn - i ≤ kx ∧ (i : Int) ≤ 100000 ∧ -1 ≤ jz ∧ jz ≤ 100000 ∧
    dk.size = d.size ∧ Hid (SB w0 wr g cap dk) ∧ Sort.reverseLoop i jn dk = Sort.reverseLoop a (b - 1) d)
  case atStart => exact ⟨a, b - 1, (b : Int) - 1, d, rfl, by go_num, fun h => ⟨by omega, by omega⟩, fun h => by omega, by omega, by omega, by omega, by omega, rfl, S0, rfl⟩
  case round =>
    clear S0
    obtain ⟨i, jn, jz, dk, rfl, rfl, h1, h2, hkx, hi1, hj1, hj2, hds, S1, heq⟩ := hrel
    by_cases hlt : (i : Int) < jz
    · obtain ⟨rfl, hjn⟩ := h1 hlt
      have hij : i < jn := by omega
      clear h1 h2
      have S2 := Lib.hid (S1.out.swap i jn (by omega) (by omega))
      obtain ⟨p0, p1, p2, p3, p4, p5⟩ := S1.out.cells i (by omega)
      obtain ⟨q0, q1, q2, q3, q4, q5⟩ := S1.out.cells jn (by omega)
      have fi0 := S1.out.row.frozen (i * 6)
      have fi1 := S1.out.row.frozen (i * 6 + 1)
      have fi2 := S1.out.row.frozen (i * 6 + 2)
      have fi3 := S1.out.row.frozen (i * 6 + 3)
      have fi4 := S1.out.row.frozen (i * 6 + 4)
      have fi5 := S1.out.row.frozen (i * 6 + 5)
      have fj0 := S1.out.row.frozen (jn * 6)
      have fj1 := S1.out.row.frozen (jn * 6 + 1)
      have fj2 := S1.out.row.frozen (jn * 6 + 2)
      have fj3 := S1.out.row.frozen (jn * 6 + 3)
      have fj4 := S1.out.row.frozen (jn * 6 + 4)
      have fj5 := S1.out.row.frozen (jn * 6 + 5)
      have b1 : (i : Int) < (d.size : Int) := by omega
      have b2 : (jn : Int) < (d.size : Int) := by omega
      generalize dk[i]! = x at *
      generalize dk[jn]! = y at *
      clear S1
      go_wp2_with fail
      go_big_region_o
      show Exit.then _ _ _ _ (swapW wr g i jn x y)
      generalize swapW wr g i jn x y = W2 at S2 ⊢
      clear p0 p1 p2 p3 p4 p5 q0 q1 q2 q3 q4 q5 fi0 fi1 fi2 fi3 fi4 fi5 fj0 fj1 fj2 fj3 fj4 fj5
      go_wp2
      go_roundg (jn - 1 - (i + 1))
      case measure => omega
      case rel =>
        rw [Sort.reverseLoop, if_pos hij] at heq
        exact ⟨i + 1, jn - 1, (jn : Int) - 1, Sort.swp dk i jn, by go_num, by go_num, fun h => ⟨by omega, by omega⟩, fun h => by omega, Nat.le_refl _, by omega, by omega, by omega, by rw [Sort.size_swp]; exact hds, S2, heq⟩
    · have hnot := h2 hlt
      go_wp2
      go_end0
      refine ⟨rfl, ?_⟩
      rw [Sort.reverseLoop, if_neg hnot] at heq
      rw [Sort.reverseRange, ← heq]
      exact S1.out
end Go.Proofs.Ytgffddbhnggllaa.Ed
namespace Go.Proofs.Ytgffddbhnggllaa.QG
open Go.RowKit Go.Proofs.YtgffddbhnggllaaW.PrintWords Go.Proofs.YtgffddbhnggllaaW.PrintLast Go.Proofs.YtgffddbhnggllaaW.PrintMore
attribute [local go_sem] max2_int min2_int max_two min_two max_three min_three max_four min_four
set_option linter.unusedVariables false
set_option linter.unusedSimpArgs false
def errW : Option Int → Value
 | none => .nilIface
 | some c => .iface 0 (.int .i64 c)
theorem errW_none : errW none = .nilIface := rfl
theorem errW_some (c : Int) : errW (some c) = .iface 0 (.int .i64 c) := rfl
theorem info3 : (Try.prog.info? 3).map (fun i => (i.zero, i.size, i.bytes)) = some (some (.int .i64 0), 1, 8) := by kernel_rfl
structure S41 where
 f0 : Int
 f1 : Int
 f2 : Int
 f3 : Int
 f4 : Int
 f5 : Int
def z41 : S41 := ⟨(0 : Int), (0 : Int), (0 : Int), (0 : Int), (0 : Int), (0 : Int)⟩
def k41 : Kd S41 := Kd.iso (Kd.pair (Kd.int .i64) (Kd.pair (Kd.int .i64) (Kd.pair (Kd.int .i64) (Kd.pair (Kd.int .i64) (Kd.pair (Kd.int .i64) (Kd.int .u8)))))) (fun x : S41 => (x.f0, x.f1, x.f2, x.f3, x.f4, x.f5))
theorem k41_open {w : World} {x : S41} {cs : List Value} (h : k41.K w x cs) : cs = [.int .i64 x.f0, .int .i64 x.f1, .int .i64 x.f2, .int .i64 x.f3, .int .i64 x.f4, .int .u8 x.f5] := by
 obtain ⟨_, _, rfl, rfl, ⟨_, _, rfl, rfl, ⟨_, _, rfl, rfl, ⟨_, _, rfl, rfl, ⟨_, _, rfl, rfl, rfl⟩⟩⟩⟩⟩ := h
 exact rfl
theorem k41_openM {w : World} {base : Nat} {ok : Nat → Prop} {x : S41} {cs : List Value} (h : k41.M w base ok x cs) : cs = [.int .i64 x.f0, .int .i64 x.f1, .int .i64 x.f2, .int .i64 x.f3, .int .i64 x.f4, .int .u8 x.f5] := by
 obtain ⟨_, _, rfl, rfl, ⟨_, _, rfl, rfl, ⟨_, _, rfl, rfl, ⟨_, _, rfl, rfl, ⟨_, _, rfl, rfl, rfl⟩⟩⟩⟩⟩ := h
 exact rfl
theorem k41_mk (w : World) (x : S41)  : k41.K w x [.int .i64 x.f0, .int .i64 x.f1, .int .i64 x.f2, .int .i64 x.f3, .int .i64 x.f4, .int .u8 x.f5] := ⟨[.int .i64 x.f0], [.int .i64 x.f1, .int .i64 x.f2, .int .i64 x.f3, .int .i64 x.f4, .int .u8 x.f5], rfl, rfl, ⟨[.int .i64 x.f1], [.int .i64 x.f2, .int .i64 x.f3, .int .i64 x.f4, .int .u8 x.f5], rfl, rfl, ⟨[.int .i64 x.f2], [.int .i64 x.f3, .int .i64 x.f4, .int .u8 x.f5], rfl, rfl, ⟨[.int .i64 x.f3], [.int .i64 x.f4, .int .u8 x.f5], rfl, rfl, ⟨[.int .i64 x.f4], [.int .u8 x.f5], rfl, rfl, rfl⟩⟩⟩⟩⟩
theorem k41_mkM (w : World) (base : Nat) (ok : Nat → Prop) (x : S41)  : k41.M w base ok x [.int .i64 x.f0, .int .i64 x.f1, .int .i64 x.f2, .int .i64 x.f3, .int .i64 x.f4, .int .u8 x.f5] := ⟨[.int .i64 x.f0], [.int .i64 x.f1, .int .i64 x.f2, .int .i64 x.f3, .int .i64 x.f4, .int .u8 x.f5], rfl, rfl, ⟨[.int .i64 x.f1], [.int .i64 x.f2, .int .i64 x.f3, .int .i64 x.f4, .int .u8 x.f5], rfl, rfl, ⟨[.int .i64 x.f2], [.int .i64 x.f3, .int .i64 x.f4, .int .u8 x.f5], rfl, rfl, ⟨[.int .i64 x.f3], [.int .i64 x.f4, .int .u8 x.f5], rfl, rfl, ⟨[.int .i64 x.f4], [.int .u8 x.f5], rfl, rfl, rfl⟩⟩⟩⟩⟩
def rd_T41 (xs : List S41) (i : Int) : S41 := xs.getD i.toNat z41
theorem at_T41 {w : World} {A : Option Addr} {n : Nat} {xs : List S41} (h : Kd.C k41 w A n xs) (i : Int) (h0 : 0 ≤ i) (h1 : i < n) : ∃ ad , A = some ad ∧ w.cell? (ad.add (i.toNat * 6)) = some (.int .i64 (rd_T41 xs i).f0) ∧ w.cell? ⟨(ad.add (i.toNat * 6)).block, (ad.add (i.toNat * 6)).off + 1, none⟩ = some (.int .i64 (rd_T41 xs i).f1) ∧ w.cell? ⟨(ad.add (i.toNat * 6)).block, (ad.add (i.toNat * 6)).off + 2, none⟩ = some (.int .i64 (rd_T41 xs i).f2) ∧ w.cell? ⟨(ad.add (i.toNat * 6)).block, (ad.add (i.toNat * 6)).off + 3, none⟩ = some (.int .i64 (rd_T41 xs i).f3) ∧ w.cell? ⟨(ad.add (i.toNat * 6)).block, (ad.add (i.toNat * 6)).off + 4, none⟩ = some (.int .i64 (rd_T41 xs i).f4) ∧ w.cell? ⟨(ad.add (i.toNat * 6)).block, (ad.add (i.toNat * 6)).off + 5, none⟩ = some (.int .u8 (rd_T41 xs i).f5) := by
 obtain ⟨ad, c, e, _, hK, hc0⟩ := Kd.C_get h z41 i h0 h1
 have hc : ∀ j u, c[j]? = some u → w.cell? (ad.add (i.toNat * 6 + j)) = some u := hc0
 obtain rfl := k41_open hK
 exact ⟨ad, e, hc 0 _ rfl, by rw [← add_field _ _ 1 (by omega)]; exact hc 1 _ rfl, by rw [← add_field _ _ 2 (by omega)]; exact hc 2 _ rfl, by rw [← add_field _ _ 3 (by omega)]; exact hc 3 _ rfl, by rw [← add_field _ _ 4 (by omega)]; exact hc 4 _ rfl, by rw [← add_field _ _ 5 (by omega)]; exact hc 5 _ rfl⟩
end Go.Proofs.Ytgffddbhnggllaa.QG
namespace Go.Proofs.Ytgffddbhnggllaa.Ed
open Go.RowKit Go.Proofs.YtgffddbhnggllaaW.PrintWords Go.Proofs.YtgffddbhnggllaaW.PrintLast Go.Proofs.YtgffddbhnggllaaW.PrintMore
theorem goesV_ {P : Program} {ops : Array Oper} {Q : Exit → Act → World → Prop} {oi : Oper} {N : Option Tmp} {a : Act} {w : World} {K : Act → World → Prop} {f : FuncId} {fn : Func} {c : Operand} {os : Array Operand} {ts : Array TypeId} (hf : P.funcs[f]? = some fn) (hname : (fn.name == "runtime.NumGoroutine") = false) (hb : fn.body.isSome = true) (first args : Array Value)
    (hw : Region.wanted oi (yielded ops a.tmps) = true) (hN : oi.dst = N) (hop : oi.op = .call { callee := .value c, args := os, argTypes := ts }) (hc : a.eval c = .func (.func f) first #[]) (hargs : first ++ os.map a.eval = args)
    (h : Calls P f args w fun e w' => ∃ v, e = .returned v ∧ K (a.put N v) w') : if Region.wanted oi (yielded ops a.tmps) = true then Oper.wp P oi a w K Q else K (a.put N undef) w := by
  refine call_ f args hw hN ?_ h
  have he := enters_ hf hname hb args w
  unfold execOp
  simp [hop, resolve, Deferred.ofValue, invoke, hc, hargs, he]
end Go.Proofs.Ytgffddbhnggllaa.Ed
namespace Go.Proofs.Ytgffddbhnggllaa.QG
open Go.RowKit Go.Proofs.YtgffddbhnggllaaW.PrintWords Go.Proofs.YtgffddbhnggllaaW.PrintLast Go.Proofs.YtgffddbhnggllaaW.PrintMore
attribute [local go_sem] max2_int min2_int max_two min_two max_three min_three max_four min_four
set_option linter.unusedVariables false
set_option linter.unusedSimpArgs false
def order_customer_before_1.f (a0_0 : Int) (a0_1 : Int) (a0_2 : Int) (a0_3 : Int) (a0_4 : Int) (a0_5 : Int) : Option (Int) := if a0_5 = 3 then (some 0) else (some 1)
set_option maxHeartbeats 8000000 in
set_option maxRecDepth 100000 in
theorem order_customer_before_1.calls (a0_0 : Int) (a0_1 : Int) (a0_2 : Int) (a0_3 : Int) (a0_4 : Int) (a0_5 : Int) (r : Int) (w : World) (h : order_customer_before_1.f a0_0 a0_1 a0_2 a0_3 a0_4 a0_5 = some r) :
  Calls Try.prog 103 #[.agg #[.int .i64 a0_0, .int .i64 a0_1, .int .i64 a0_2, .int .i64 a0_3, .int .i64 a0_4, .int .u8 a0_5]] w fun e w' => e = .returned (.int .i64 r) ∧ Below w.heap.size w w' := by
 have hu41 := Try.underlying41
 have HB := Aside0.mk (Below.refl w.heap.size w)
 have H : (if a0_5 = 3 then (some 0) else (some 1)) = some r := h
 clear h
 by_cases c2 : a0_5 = 3
 ·rw [if_pos c2] at H
  have c2b0 : (a0_5 == 3) = true := beq_iff_eq.mpr c2
  have c2b1 : (a0_5 != 3) = false := bne_eq_false_iff_eq.mpr c2
  clear c2
  obtain rfl := Option.some.inj H
  go_enter Try.func103, Try.ntmps103
  go_wp2_with (first | ((with_reducible refine gate_dst (N := 1) rfl ?_); refine box_event ?hg (N := 1) ?hd (cs := #[.int .i64 a0_0, .int .i64 a0_1, .int .i64 a0_2, .int .i64 a0_3, .int .i64 a0_4, .int .u8 a0_5]) (t := 41) ?hr ?_; (case hd => rfl); (case hg => rfl); (case hr => first | (go_simp; done) | (go_simp; rfl)); intro gb101 hg w3 hbox hb; have n0_ := Aside0.mk (below_step (by repeat (first | (with_reducible first | exact HB.out | apply below_alloc | apply pw_below_drewN | apply below_drew1) | exact HB.out)) hb); have n1_ := Aside0.mk (hbox); have n2_ := Aside0.mk ((by rw [hg]; exact (below_size (by repeat (first | (with_reducible first | exact HB.out | apply below_alloc | apply pw_below_drewN | apply below_drew1) | exact HB.out))) : w.heap.size ≤ gb101)); have n3_ := Aside0.mk ((by rw [hg]; exact (below_size (by repeat (first | (with_reducible first | exact HB.out | apply below_alloc | apply pw_below_drewN | apply below_drew1) | exact HB.out))) : w.heap.size ≤ gb101)); clear HB; have HB := n0_; have BK101 := n1_; have GW101 := n2_; have GE101 := n3_; clear n0_ n1_ n2_ n3_; clear hb hbox hg; have hcz4_0 : w3.cell? ⟨gb101, 0, none⟩ = some (.int .i64 a0_0) := (blk_cell BK101.out 0).trans rfl; have hcz4_1 : w3.cell? ⟨gb101, 1, none⟩ = some (.int .i64 a0_1) := (blk_cell BK101.out 1).trans rfl; have hcz4_2 : w3.cell? ⟨gb101, 2, none⟩ = some (.int .i64 a0_2) := (blk_cell BK101.out 2).trans rfl; have hcz4_3 : w3.cell? ⟨gb101, 3, none⟩ = some (.int .i64 a0_3) := (blk_cell BK101.out 3).trans rfl; have hcz4_4 : w3.cell? ⟨gb101, 4, none⟩ = some (.int .i64 a0_4) := (blk_cell BK101.out 4).trans rfl; have hcz4_5 : w3.cell? ⟨gb101, 5, none⟩ = some (.int .u8 a0_5) := (blk_cell BK101.out 5).trans rfl; have hfz4_0 := blk_frozen BK101.out 0; have hfz4_1 := blk_frozen BK101.out 1; have hfz4_2 := blk_frozen BK101.out 2; have hfz4_3 := blk_frozen BK101.out 3; have hfz4_4 := blk_frozen BK101.out 4; have hfz4_5 := blk_frozen BK101.out 5))
  go_ret
  exact ⟨by first | rfl | (simp [errW_none, errW_some] <;> rfl) | (simp [*, errW_none, errW_some] <;> rfl), by repeat (first | (with_reducible first | exact HB.out | apply below_alloc | apply pw_below_drewN | apply below_drew1 | refine below_set ?_ GE101.out) | exact HB.out)⟩
 ·rw [if_neg c2] at H
  have c2b0 : (a0_5 == 3) = false := beq_eq_false_iff_ne.mpr c2
  have c2b1 : (a0_5 != 3) = true := bne_iff_ne.mpr c2
  obtain rfl := Option.some.inj H
  go_enter Try.func103, Try.ntmps103
  go_wp2_with (first | ((with_reducible refine gate_dst (N := 1) rfl ?_); refine box_event ?hg (N := 1) ?hd (cs := #[.int .i64 a0_0, .int .i64 a0_1, .int .i64 a0_2, .int .i64 a0_3, .int .i64 a0_4, .int .u8 a0_5]) (t := 41) ?hr ?_; (case hd => rfl); (case hg => rfl); (case hr => first | (go_simp; done) | (go_simp; rfl)); intro gb101 hg w5 hbox hb; have n0_ := Aside0.mk (below_step (by repeat (first | (with_reducible first | exact HB.out | apply below_alloc | apply pw_below_drewN | apply below_drew1) | exact HB.out)) hb); have n1_ := Aside0.mk (hbox); have n2_ := Aside0.mk ((by rw [hg]; exact (below_size (by repeat (first | (with_reducible first | exact HB.out | apply below_alloc | apply pw_below_drewN | apply below_drew1) | exact HB.out))) : w.heap.size ≤ gb101)); have n3_ := Aside0.mk ((by rw [hg]; exact (below_size (by repeat (first | (with_reducible first | exact HB.out | apply below_alloc | apply pw_below_drewN | apply below_drew1) | exact HB.out))) : w.heap.size ≤ gb101)); clear HB; have HB := n0_; have BK101 := n1_; have GW101 := n2_; have GE101 := n3_; clear n0_ n1_ n2_ n3_; clear hb hbox hg; have hcz6_0 : w5.cell? ⟨gb101, 0, none⟩ = some (.int .i64 a0_0) := (blk_cell BK101.out 0).trans rfl; have hcz6_1 : w5.cell? ⟨gb101, 1, none⟩ = some (.int .i64 a0_1) := (blk_cell BK101.out 1).trans rfl; have hcz6_2 : w5.cell? ⟨gb101, 2, none⟩ = some (.int .i64 a0_2) := (blk_cell BK101.out 2).trans rfl; have hcz6_3 : w5.cell? ⟨gb101, 3, none⟩ = some (.int .i64 a0_3) := (blk_cell BK101.out 3).trans rfl; have hcz6_4 : w5.cell? ⟨gb101, 4, none⟩ = some (.int .i64 a0_4) := (blk_cell BK101.out 4).trans rfl; have hcz6_5 : w5.cell? ⟨gb101, 5, none⟩ = some (.int .u8 a0_5) := (blk_cell BK101.out 5).trans rfl; have hfz6_0 := blk_frozen BK101.out 0; have hfz6_1 := blk_frozen BK101.out 1; have hfz6_2 := blk_frozen BK101.out 2; have hfz6_3 := blk_frozen BK101.out 3; have hfz6_4 := blk_frozen BK101.out 4; have hfz6_5 := blk_frozen BK101.out 5))
  go_ret
  exact ⟨by first | rfl | (simp [errW_none, errW_some] <;> rfl) | (simp [*, errW_none, errW_some] <;> rfl), by repeat (first | (with_reducible first | exact HB.out | apply below_alloc | apply pw_below_drewN | apply below_drew1 | refine below_set ?_ GE101.out) | exact HB.out)⟩
end Go.Proofs.Ytgffddbhnggllaa.QG
namespace Go.Proofs.Ytgffddbhnggllaa.QG
open Go.RowKit Go.Proofs.YtgffddbhnggllaaW.PrintWords Go.Proofs.YtgffddbhnggllaaW.PrintLast Go.Proofs.YtgffddbhnggllaaW.PrintMore
attribute [local go_sem] max2_int min2_int max_two min_two max_three min_three max_four min_four
set_option linter.unusedVariables false
set_option linter.unusedSimpArgs false
def cmp_Or_int.l0 : Nat → Int → List Int → Int → Int → Option (Int)
 | 0, _, _, _, _ => none
 | k + 1, x3, x6, x7, x8 => if x8 < x7 then (if 0 ≤ x8 then (if x8 < (x6.length : Int) then (if (rd x6 x8) = x3 then (cmp_Or_int.l0 k x3 x6 x7 (wrap64 (x8 + 1))) else (some (rd x6 x8))) else (none)) else (none)) else (some x3)
def cmp_Or_int.f (k : Nat) (l0 : List Int) : Option (Int) := cmp_Or_int.l0 k 0 l0 (l0.length : Int) 0
theorem cmp_Or_int.mono_l : ∀ k, (∀ y0 y1 y2 y3, LeO (cmp_Or_int.l0 k y0 y1 y2 y3) (cmp_Or_int.l0 (k + 1) y0 y1 y2 y3))
 | 0 => fun _ _ _ _ r h => by simp [cmp_Or_int.l0] at h
 | k + 1 => by
  have ih0 := cmp_Or_int.mono_l k
  ·intro y0 y1 y2 y3
   unfold cmp_Or_int.l0
   repeat' first
   | (with_reducible exact ih0 _ _ _ _)
   | (with_reducible exact LeO.refl _)
   | (with_reducible exact LeO.none _)
   | (with_reducible refine LeO.ite ?_ ?_)
   | (with_reducible refine LeO.bind ?_ (fun _ => ?_))
   | exact ih0 _ _ _ _
   | exact LeO.none _
   | refine LeO.ite ?_ ?_
   | refine LeO.bind ?_ (fun _ => ?_)
theorem cmp_Or_int.mono : ∀ a0 k, LeO (cmp_Or_int.f k a0) (cmp_Or_int.f (k + 1) a0) := by
 intro a0 k
 have ih0 := cmp_Or_int.mono_l k
 unfold cmp_Or_int.f
 repeat' first
   | (with_reducible exact ih0 _ _ _ _)
   | (with_reducible exact LeO.refl _)
   | (with_reducible exact LeO.none _)
   | (with_reducible refine LeO.ite ?_ ?_)
   | (with_reducible refine LeO.bind ?_ (fun _ => ?_))
   | exact ih0 _ _ _ _
   | exact LeO.none _
   | refine LeO.ite ?_ ?_
   | refine LeO.bind ?_ (fun _ => ?_)
set_option maxHeartbeats 8000000 in
set_option maxRecDepth 100000 in
theorem cmp_Or_int.calls (k : Nat) (A0 : Option Addr) (c0 : Nat) (l0 : List Int) (r : Int) (w : World) (hr0 : Kd.C (Kd.int .i64) w A0 l0.length l0) (hc0 : l0.length ≤ c0) (h : cmp_Or_int.f k l0 = some r) :
  Calls Try.prog 104 #[.slice A0 l0.length c0] w fun e w' => e = .returned (.int .i64 r) ∧ Drawn0 w w' := by
 have HR0 := Aside0.mk hr0
 have HC0 := Aside0.mk hc0
 clear hr0 hc0
 have H : (cmp_Or_int.l0 k 0 l0 (l0.length : Int) 0) = some r := h
 clear h
 have H' := Aside0.mk H
 clear H
 go_enter Try.func104, Try.ntmps104
 go_wp2
 go_loopg [8] k (fun kq v8 w' => ∃ (x8_1 : Int), v8 = .int .i64 x8_1 ∧ Aside0 (cmp_Or_int.l0 kq 0 l0 (l0.length : Int) x8_1 = some r) ∧ Aside0 (kq ≤ k) ∧ Drawn0 w w')
 case atStart => exact ⟨(0), (by first | rfl | (simp; done) | (simp [*]; done)), H', ⟨Nat.le_refl _⟩, by repeat (first | exact Drawn0.refl _ | apply Drawn0.step)⟩
 case round =>
  clear H'
  try clear c1
  obtain ⟨x8_1, rfl, HA, HK1, ⟨m1, rfl⟩⟩ := hrel
  cases gk with
  | zero => exact absurd HA.out (by simp [cmp_Or_int.l0])
  | succ k1 =>
   have H := HA.out
   clear HA
   simp only [cmp_Or_int.l0] at H
   by_cases c2 : x8_1 < (l0.length : Int)
   ·rw [if_pos c2] at H
    have c2b0 : decide (x8_1 < (l0.length : Int)) = true := decide_eq_true c2
    clear c2
    by_cases c3 : 0 ≤ x8_1
    ·rw [if_pos c3] at H
     have c3b0 : decide (0 ≤ x8_1) = true := decide_eq_true c3
     clear c3
     by_cases c4 : x8_1 < (l0.length : Int)
     ·rw [if_pos c4] at H
      have c4b0 : decide (x8_1 < (l0.length : Int)) = true := decide_eq_true c4
      clear c4
      by_cases c5 : (rd l0 x8_1) = 0
      ·rw [if_pos c5] at H
       have c5b0 : ((rd l0 x8_1) == 0) = true := beq_iff_eq.mpr c5
       have c5b1 : ((rd l0 x8_1) != 0) = false := bne_eq_false_iff_eq.mpr c5
       clear c5
       have H' := Aside0.mk H
       clear H
       have p102 : 0 ≤ (x8_1 : Int) := of_decide_eq_true (by first | (with_reducible assumption) | assumption)
       have q102 : x8_1 < (l0.length : Int) := of_decide_eq_true (by first | (with_reducible assumption) | assumption)
       obtain ⟨ad102, e102, hx102_0⟩ := Kd.at_int HR0.out x8_1 p102 q102
       cases e102
       replace p102 := eq_true p102
       replace q102 := eq_true q102
       go_wp2
       go_roundg k1
       case measure => have := HK1.out; omega
       case rel => exact ⟨(wrap64 (x8_1 + 1)), (by first | rfl | (simp; done) | (simp [*]; done)), H', ⟨by have := HK1.out; omega⟩, by repeat (first | exact Drawn0.refl _ | apply Drawn0.step)⟩
      ·rw [if_neg c5] at H
       have c5b0 : ((rd l0 x8_1) == 0) = false := beq_eq_false_iff_ne.mpr c5
       have c5b1 : ((rd l0 x8_1) != 0) = true := bne_iff_ne.mpr c5
       obtain rfl := Option.some.inj H
       have p102 : 0 ≤ (x8_1 : Int) := of_decide_eq_true (by first | (with_reducible assumption) | assumption)
       have q102 : x8_1 < (l0.length : Int) := of_decide_eq_true (by first | (with_reducible assumption) | assumption)
       obtain ⟨ad102, e102, hx102_0⟩ := Kd.at_int HR0.out x8_1 p102 q102
       cases e102
       replace p102 := eq_true p102
       replace q102 := eq_true q102
       go_wp2
       go_ret
       exact ⟨by first | rfl | (simp; done) | (simp [*]; done), by repeat (first | exact Drawn0.refl _ | apply Drawn0.step)⟩
     ·rw [if_neg c4] at H
      exact absurd H (by simp)
    ·rw [if_neg c3] at H
     exact absurd H (by simp)
   ·rw [if_neg c2] at H
    have c2b0 : decide (x8_1 < (l0.length : Int)) = false := decide_eq_false c2
    clear c2
    obtain rfl := Option.some.inj H
    go_wp2
    go_ret
    exact ⟨by first | rfl | (simp; done) | (simp [*]; done), by repeat (first | exact Drawn0.refl _ | apply Drawn0.step)⟩
end Go.Proofs.Ytgffddbhnggllaa.QG
namespace Go.Proofs.Ytgffddbhnggllaa.QG
open Go.RowKit Go.Proofs.YtgffddbhnggllaaW.PrintWords Go.Proofs.YtgffddbhnggllaaW.PrintLast Go.Proofs.YtgffddbhnggllaaW.PrintMore
attribute [local go_sem] max2_int min2_int max_two min_two max_three min_three max_four min_four
set_option linter.unusedVariables false
set_option linter.unusedSimpArgs false
def cmp_isNaN_int.f (a0 : Int) : Option (Bool) := some (a0 != a0)
set_option maxHeartbeats 8000000 in
set_option maxRecDepth 100000 in
theorem cmp_isNaN_int.calls (a0 : Int) (r : Bool) (w : World) (h : cmp_isNaN_int.f a0 = some r) :
  Calls Try.prog 119 #[.int .i64 a0] w fun e w' => e = .returned (.bool r) ∧ Drawn0 w w' := by
 have H : (some (a0 != a0)) = some r := h
 clear h
 obtain rfl := Option.some.inj H
 go_enter Try.func119, Try.ntmps119
 go_wp2
 go_ret
 exact ⟨by first | rfl | (simp; done) | (simp [*]; done), by repeat (first | exact Drawn0.refl _ | apply Drawn0.step)⟩
end Go.Proofs.Ytgffddbhnggllaa.QG
namespace Go.Proofs.Ytgffddbhnggllaa.QG
open Go.RowKit Go.Proofs.YtgffddbhnggllaaW.PrintWords Go.Proofs.YtgffddbhnggllaaW.PrintLast Go.Proofs.YtgffddbhnggllaaW.PrintMore
attribute [local go_sem] max2_int min2_int max_two min_two max_three min_three max_four min_four
set_option linter.unusedVariables false
set_option linter.unusedSimpArgs false
def cmp_Compare_int.f (a0 : Int) (a1 : Int) : Option (Int) := (cmp_isNaN_int.f a0).bind fun t103 => ((cmp_isNaN_int.f a1).bind fun t104 => (if t103 = true then (if t104 = true then (some 0) else (some (-1))) else (if t104 = true then (some 1) else (if a0 < a1 then (some (-1)) else (if a0 > a1 then (some 1) else (some 0))))))
set_option maxHeartbeats 8000000 in
set_option maxRecDepth 100000 in
theorem cmp_Compare_int.calls (a0 : Int) (a1 : Int) (r : Int) (w : World) (h : cmp_Compare_int.f a0 a1 = some r) :
  Calls Try.prog 105 #[.int .i64 a0, .int .i64 a1] w fun e w' => e = .returned (.int .i64 r) ∧ Drawn0 w w' := by
 have H : ((cmp_isNaN_int.f a0).bind fun t103 => ((cmp_isNaN_int.f a1).bind fun t104 => (if t103 = true then (if t104 = true then (some 0) else (some (-1))) else (if t104 = true then (some 1) else (if a0 < a1 then (some (-1)) else (if a0 > a1 then (some 1) else (some 0))))))) = some r := h
 clear h
 replace H := Option.bind_eq_some_iff.mp H
 obtain ⟨t103, A30, H⟩ := H
 replace H : ((cmp_isNaN_int.f a1).bind fun t104 => (if t103 = true then (if t104 = true then (some 0) else (some (-1))) else (if t104 = true then (some 1) else (if a0 < a1 then (some (-1)) else (if a0 > a1 then (some 1) else (some 0)))))) = some r := H
 have A3 := Aside0.mk A30
 clear A30
 replace H := Option.bind_eq_some_iff.mp H
 obtain ⟨t104, A40, H⟩ := H
 replace H : (if t103 = true then (if t104 = true then (some 0) else (some (-1))) else (if t104 = true then (some 1) else (if a0 < a1 then (some (-1)) else (if a0 > a1 then (some 1) else (some 0))))) = some r := H
 have A4 := Aside0.mk A40
 clear A40
 by_cases c5 : t103 = true
 ·subst c5
  have H1 : (if t104 = true then (some 0) else (some (-1))) = some r := by rw [if_pos rfl] at H; exact H
  clear H
  have H := H1
  clear H1
  by_cases c6 : t104 = true
  ·subst c6
   have H1 : (some 0) = some r := by rw [if_pos rfl] at H; exact H
   clear H
   have H := H1
   clear H1
   obtain rfl := Option.some.inj H
   go_enter Try.func105, Try.ntmps105
   go_wp2_with (first | ((with_reducible refine gate_callee (f := 119) rfl ?_); refine goesL_ (some 8) rfl rfl Try.func119 (by kernel_rfl) rfl #[.int .i64 a0] rfl (by (try simp only [List.map_toArray, List.map_cons, List.map_nil]); first | done | rfl | (simp only [List.length_drop, List.length_take]; rfl)) ?_; (with_reducible refine (cmp_isNaN_int.calls a0 true _ A3.out).mono ?_); rintro e w' ⟨rfl, ⟨nd, rfl⟩⟩; refine ⟨_, rfl, ?_⟩) | ((with_reducible refine gate_callee (f := 119) rfl ?_); refine goesL_ (some 10) rfl rfl Try.func119 (by kernel_rfl) rfl #[.int .i64 a1] rfl (by (try simp only [List.map_toArray, List.map_cons, List.map_nil]); first | done | rfl | (simp only [List.length_drop, List.length_take]; rfl)) ?_; (with_reducible refine (cmp_isNaN_int.calls a1 true _ A4.out).mono ?_); rintro e w' ⟨rfl, ⟨nd, rfl⟩⟩; refine ⟨_, rfl, ?_⟩))
   go_ret
   exact ⟨by first | rfl | (simp; done) | (simp [*]; done), by repeat (first | exact Drawn0.refl _ | apply Drawn0.step)⟩
  ·replace c6 := Bool.eq_false_iff.mpr c6
   subst c6
   have H1 : (some (-1)) = some r := by rw [if_neg (show ¬ (false = true) by decide)] at H; exact H
   clear H
   have H := H1
   clear H1
   obtain rfl := Option.some.inj H
   go_enter Try.func105, Try.ntmps105
   go_wp2_with (first | ((with_reducible refine gate_callee (f := 119) rfl ?_); refine goesL_ (some 8) rfl rfl Try.func119 (by kernel_rfl) rfl #[.int .i64 a0] rfl (by (try simp only [List.map_toArray, List.map_cons, List.map_nil]); first | done | rfl | (simp only [List.length_drop, List.length_take]; rfl)) ?_; (with_reducible refine (cmp_isNaN_int.calls a0 true _ A3.out).mono ?_); rintro e w' ⟨rfl, ⟨nd, rfl⟩⟩; refine ⟨_, rfl, ?_⟩) | ((with_reducible refine gate_callee (f := 119) rfl ?_); refine goesL_ (some 10) rfl rfl Try.func119 (by kernel_rfl) rfl #[.int .i64 a1] rfl (by (try simp only [List.map_toArray, List.map_cons, List.map_nil]); first | done | rfl | (simp only [List.length_drop, List.length_take]; rfl)) ?_; (with_reducible refine (cmp_isNaN_int.calls a1 false _ A4.out).mono ?_); rintro e w' ⟨rfl, ⟨nd, rfl⟩⟩; refine ⟨_, rfl, ?_⟩))
   go_ret
   exact ⟨by first | rfl | (simp; done) | (simp [*]; done), by repeat (first | exact Drawn0.refl _ | apply Drawn0.step)⟩
 ·replace c5 := Bool.eq_false_iff.mpr c5
  subst c5
  have H1 : (if t104 = true then (some 1) else (if a0 < a1 then (some (-1)) else (if a0 > a1 then (some 1) else (some 0)))) = some r := by rw [if_neg (show ¬ (false = true) by decide)] at H; exact H
  clear H
  have H := H1
  clear H1
  by_cases c7 : t104 = true
  ·subst c7
   have H1 : (some 1) = some r := by rw [if_pos rfl] at H; exact H
   clear H
   have H := H1
   clear H1
   obtain rfl := Option.some.inj H
   go_enter Try.func105, Try.ntmps105
   go_wp2_with (first | ((with_reducible refine gate_callee (f := 119) rfl ?_); refine goesL_ (some 8) rfl rfl Try.func119 (by kernel_rfl) rfl #[.int .i64 a0] rfl (by (try simp only [List.map_toArray, List.map_cons, List.map_nil]); first | done | rfl | (simp only [List.length_drop, List.length_take]; rfl)) ?_; (with_reducible refine (cmp_isNaN_int.calls a0 false _ A3.out).mono ?_); rintro e w' ⟨rfl, ⟨nd, rfl⟩⟩; refine ⟨_, rfl, ?_⟩) | ((with_reducible refine gate_callee (f := 119) rfl ?_); refine goesL_ (some 10) rfl rfl Try.func119 (by kernel_rfl) rfl #[.int .i64 a1] rfl (by (try simp only [List.map_toArray, List.map_cons, List.map_nil]); first | done | rfl | (simp only [List.length_drop, List.length_take]; rfl)) ?_; (with_reducible refine (cmp_isNaN_int.calls a1 true _ A4.out).mono ?_); rintro e w' ⟨rfl, ⟨nd, rfl⟩⟩; refine ⟨_, rfl, ?_⟩))
   go_ret
   exact ⟨by first | rfl | (simp; done) | (simp [*]; done), by repeat (first | exact Drawn0.refl _ | apply Drawn0.step)⟩
  ·replace c7 := Bool.eq_false_iff.mpr c7
   subst c7
   have H1 : (if a0 < a1 then (some (-1)) else (if a0 > a1 then (some 1) else (some 0))) = some r := by rw [if_neg (show ¬ (false = true) by decide)] at H; exact H
   clear H
   have H := H1
   clear H1
   by_cases c8 : a0 < a1
   ·rw [if_pos c8] at H
    have c8b0 : decide (a0 < a1) = true := decide_eq_true c8
    clear c8
    obtain rfl := Option.some.inj H
    go_enter Try.func105, Try.ntmps105
    go_wp2_with (first | ((with_reducible refine gate_callee (f := 119) rfl ?_); refine goesL_ (some 8) rfl rfl Try.func119 (by kernel_rfl) rfl #[.int .i64 a0] rfl (by (try simp only [List.map_toArray, List.map_cons, List.map_nil]); first | done | rfl | (simp only [List.length_drop, List.length_take]; rfl)) ?_; (with_reducible refine (cmp_isNaN_int.calls a0 false _ A3.out).mono ?_); rintro e w' ⟨rfl, ⟨nd, rfl⟩⟩; refine ⟨_, rfl, ?_⟩) | ((with_reducible refine gate_callee (f := 119) rfl ?_); refine goesL_ (some 10) rfl rfl Try.func119 (by kernel_rfl) rfl #[.int .i64 a1] rfl (by (try simp only [List.map_toArray, List.map_cons, List.map_nil]); first | done | rfl | (simp only [List.length_drop, List.length_take]; rfl)) ?_; (with_reducible refine (cmp_isNaN_int.calls a1 false _ A4.out).mono ?_); rintro e w' ⟨rfl, ⟨nd, rfl⟩⟩; refine ⟨_, rfl, ?_⟩))
    go_ret
    exact ⟨by first | rfl | (simp; done) | (simp [*]; done), by repeat (first | exact Drawn0.refl _ | apply Drawn0.step)⟩
   ·rw [if_neg c8] at H
    have c8b0 : decide (a0 < a1) = false := decide_eq_false c8
    clear c8
    by_cases c9 : a0 > a1
    ·rw [if_pos c9] at H
     have c9b0 : decide (a1 < a0) = true := decide_eq_true c9
     clear c9
     obtain rfl := Option.some.inj H
     go_enter Try.func105, Try.ntmps105
     go_wp2_with (first | ((with_reducible refine gate_callee (f := 119) rfl ?_); refine goesL_ (some 8) rfl rfl Try.func119 (by kernel_rfl) rfl #[.int .i64 a0] rfl (by (try simp only [List.map_toArray, List.map_cons, List.map_nil]); first | done | rfl | (simp only [List.length_drop, List.length_take]; rfl)) ?_; (with_reducible refine (cmp_isNaN_int.calls a0 false _ A3.out).mono ?_); rintro e w' ⟨rfl, ⟨nd, rfl⟩⟩; refine ⟨_, rfl, ?_⟩) | ((with_reducible refine gate_callee (f := 119) rfl ?_); refine goesL_ (some 10) rfl rfl Try.func119 (by kernel_rfl) rfl #[.int .i64 a1] rfl (by (try simp only [List.map_toArray, List.map_cons, List.map_nil]); first | done | rfl | (simp only [List.length_drop, List.length_take]; rfl)) ?_; (with_reducible refine (cmp_isNaN_int.calls a1 false _ A4.out).mono ?_); rintro e w' ⟨rfl, ⟨nd, rfl⟩⟩; refine ⟨_, rfl, ?_⟩))
     go_ret
     exact ⟨by first | rfl | (simp; done) | (simp [*]; done), by repeat (first | exact Drawn0.refl _ | apply Drawn0.step)⟩
    ·rw [if_neg c9] at H
     have c9b0 : decide (a1 < a0) = false := decide_eq_false c9
     clear c9
     obtain rfl := Option.some.inj H
     go_enter Try.func105, Try.ntmps105
     go_wp2_with (first | ((with_reducible refine gate_callee (f := 119) rfl ?_); refine goesL_ (some 8) rfl rfl Try.func119 (by kernel_rfl) rfl #[.int .i64 a0] rfl (by (try simp only [List.map_toArray, List.map_cons, List.map_nil]); first | done | rfl | (simp only [List.length_drop, List.length_take]; rfl)) ?_; (with_reducible refine (cmp_isNaN_int.calls a0 false _ A3.out).mono ?_); rintro e w' ⟨rfl, ⟨nd, rfl⟩⟩; refine ⟨_, rfl, ?_⟩) | ((with_reducible refine gate_callee (f := 119) rfl ?_); refine goesL_ (some 10) rfl rfl Try.func119 (by kernel_rfl) rfl #[.int .i64 a1] rfl (by (try simp only [List.map_toArray, List.map_cons, List.map_nil]); first | done | rfl | (simp only [List.length_drop, List.length_take]; rfl)) ?_; (with_reducible refine (cmp_isNaN_int.calls a1 false _ A4.out).mono ?_); rintro e w' ⟨rfl, ⟨nd, rfl⟩⟩; refine ⟨_, rfl, ?_⟩))
     go_ret
     exact ⟨by first | rfl | (simp; done) | (simp [*]; done), by repeat (first | exact Drawn0.refl _ | apply Drawn0.step)⟩
end Go.Proofs.Ytgffddbhnggllaa.QG
