/- A part of the texts of one claim: the walk of the code by hand-proved contracts, and the plain law. -/
import Derived.JoinedOf
import Derived.Test.YtgffddbhnggllaaRows
import Derived.Deep.RegionLaw
import Derived.Lib.SmallJoins
import Derived.WalkKit
import Derived.ProofKit
import Derived.OpenShut
import Derived.ShutString
import Derived.ChangeOld
import Derived.Below
import Derived.SizedLaws
import Derived.Deep.Slices
import Derived.Deep.Fields
import Derived.ChangeSame
import Derived.Test.YtgffddbhnggllaaKAe1
set_option linter.unusedVariables false
set_option linter.unusedSimpArgs false
namespace Go.Proofs.Ytgffddbhnggllaa.Ed
theorem both_t {a b : Bool} (h : a = true) (k : b = true) : (a && b) = true := by rw [h, k]; rfl
theorem cl1 : (laidOutB Try.pinned.checked.prog) = true := by kernel_rfl
theorem cl2 : (mapsRowed Try.pinned.checked.prog) = true := by kernel_rfl
theorem cl6 : ((Try.pinned.checked.prog.stops == [])) = true := by kernel_rfl
theorem cl8 : ((Try.pinned.checked.prog.stopKnobs == [])) = true := by kernel_rfl
theorem cl24 : (Try.pinned.checked.prog.stopsHeard) = true := by kernel_rfl
theorem cl25 : (Try.pinned.checked.prog.mayEnter) = true := by kernel_rfl
end Go.Proofs.Ytgffddbhnggllaa.Ed
namespace Go.Proofs.Ytgffddbhnggllaa.Ed
open Go.RowKit Go.Shelf Go.Proofs.YtgffddbhnggllaaW.PrintWords QF
def findF (l : List S41) (id : Int) : Int := idxP (fun o => o.f0 == id) l 0
def cancelF (l : List S41) (id : Int) : List S41 × Int :=
  if rightL l = true then (if findF l id < 0 then ([], 6) else (l.take (findF l id).toNat ++ l.drop ((findF l id).toNat + 1), 0)) else ([], 2)
set_option maxRecDepth 1000000 in
set_option maxHeartbeats 4000000 in
theorem lit96_calls (id : Int) (B : Nat) (W : World) (o : S41) (hB : W.heap[B]? = some (.cells #[.int .i64 id] 3 (0, 0))) :
    Calls Try.prog 96 (#[.agg (six o)] ++ #[.pointer (some ⟨B, 0, none⟩)]) W fun e W' => e = .returned (.bool (o.f0 == id)) ∧ Below W.heap.size W W' := by
  have c1 : W.cell? ⟨B, 0, none⟩ = some (.int .i64 id) := (blk_cell hB 0).trans rfl
  have hlt := blk_lt hB
  clear hB
  show Calls Try.prog 96 #[.agg #[.int .i64 o.f0, .int .i64 o.f1, .int .i64 o.f2, .int .i64 o.f3, .int .i64 o.f4, .int .u8 o.f5], .pointer (some ⟨B, 0, none⟩)] W _
  go_enter Try.func96, Try.ntmps96
  go_wp2
  go_ret
  exact ⟨rfl, below_alloc (Below.refl _ _) _⟩
set_option maxRecDepth 1000000 in
set_option maxHeartbeats 4000000 in
theorem find_calls (A0 : Option Addr) (c : Nat) (L : List S41) (id : Int) (w : World) (hr : Kd.C k41 w A0 L.length L) (hn : L.length ≤ 100000) :
    Calls Try.prog 72 #[.slice A0 L.length c, .int .i64 id] w fun e w' => e = .returned (.int .i64 (findF L id)) ∧ Below w.heap.size w w' := by
  have hb0 : Below w.heap.size w (w.alloc (.cells #[.int .i64 id] 3)) := below_alloc (Below.refl _ _) _
  have c1 := index95_calls 96 #[.pointer (some ⟨w.heap.size, 0, none⟩)] (enters_of Try.func96 (by kernel_rfl) rfl) (fun o => o.f0 == id) A0 c L (w.alloc (.cells #[.int .i64 id] 3)) (Kd.C_below hr hb0) hn (fun W x hb => lit96_calls id w.heap.size W x ((hb.block _ (by simp)).trans (blk_new _ _)))
  have HB0 := Lib.hid hb0
  clear hr hb0
  go_enter Try.func72, Try.ntmps72
  go_wp2_with (go_at_call 95; (with_reducible refine c1.mono ?_); rintro e w2 ⟨rfl, hb2⟩)
  go_ret
  exact ⟨rfl, HB0.out.trans (hb2.mono (by simp))⟩
set_option maxRecDepth 1000000 in
set_option maxHeartbeats 8000000 in
theorem delete73_calls (g cap i base : Nat) (L : List S41) (w : World) (hR : Rw w g cap L) (hg : base ≤ g) (hi : i < L.length) (hn : L.length ≤ 100000) (hbw : base ≤ w.heap.size) :
    Calls Try.prog 73 #[.slice (some ⟨g, 0, none⟩) L.length cap, .int .i64 i, .int .i64 ((i : Int) + 1)] w fun e w' => ∃ v', e = .returned v' ∧ RV w' base v' (L.take i ++ L.drop (i + 1)) ∧ Below base w w' := by
  have mixed : Try.prog.follows .mixedOrders = true := by kernel_rfl
  obtain ⟨i0, hi0, hz0, hz1, hz2⟩ := info_parts info41
  have hcap := hR.le
  have hmx := hR.mx
  unfold maxLen at hmx
  obtain ⟨M, hM⟩ : ∃ M, flat (L.drop (i + 1)) = M := ⟨_, rfl⟩
  have hMl : M.length = (L.length - (i + 1)) * 6 := by rw [← hM, flat_len, List.length_drop]
  have hcell : ∀ j u, M[j]? = some u → w.cell? ⟨g, (i + 1) * 6 + j, none⟩ = some u := by
    intro j u hu
    rw [← hM, ← flat_drop _ _ (by omega), List.getElem?_drop] at hu
    obtain ⟨rest, h1, h2⟩ := hR.cells
    rw [blk_cell h1, List.getElem?_toArray, List.getElem?_append_left (List.getElem?_eq_some_iff.1 hu).1]
    exact hu
  obtain ⟨A, hA, hnews⟩ : ∃ A : Addr, (if cap = i + 1 then some (⟨g, 0, none⟩ : Addr) else some ⟨g, (i + 1) * 6, none⟩) = some A ∧ Hid (∀ j u, M[j]? = some u → w.drew.cell? (A.add j) = some u) := by
    by_cases h : cap = i + 1
    · refine ⟨⟨g, 0, none⟩, by simp [h], fun j u hu => ?_⟩
      have h0 : M.length = 0 := by rw [hMl]; omega
      rw [List.length_eq_zero_iff.1 h0] at hu
      simp at hu
    · refine ⟨⟨g, (i + 1) * 6, none⟩, by simp [h], fun j u hu => ?_⟩
      rw [Addr.add_lit]
      exact hcell j u hu
  have s1 := Lib.hid hMl
  have s2 : Hid (∀ u ∈ M, u.oneCell' = true) := by rw [← hM]; exact flat_one _
  have s3 : Hid (∀ j, j < M.length → (w.drew.cell? ⟨g, 0 + i * 6 + j, none⟩).isSome = true ∧ w.drew.frozen? ⟨g, 0 + i * 6 + j, none⟩ = false) := by
    intro j hj
    refine ⟨?_, hR.frozen _⟩
    obtain ⟨rest, h1, h2⟩ := hR.cells
    show (w.cell? _).isSome = true
    rw [blk_cell h1, List.getElem?_toArray, List.getElem?_eq_getElem (by rw [List.length_append, flat_len]; omega)]; rfl
  have hic : i ≤ cap := by omega
  have e1 : (i : Int) ≤ (cap : Int) := by omega
  have e2 : (i : Int) + 1 ≤ (L.length : Int) := by omega
  have e3 : ((i : Int) == (i : Int) + 1) = false := beq_eq_false_iff_ne.2 (by omega)
  have e4 : (L.length : Int) ≤ (cap : Int) := by omega
  have hp0 : (0 : Int) ≤ (i : Int) + 1 := by omega
  have hp2 : ((i : Int) + 1).toNat = i + 1 := by omega
  have e5 : ¬ (i : Int) = (i : Int) + 1 := by omega
  have HR := Lib.hid hR
  have HM := Lib.hid hM
  clear hR hM hcell hMl
  obtain ⟨n1, hn1⟩ : ∃ n1, L.length = n1 + 1 := ⟨L.length - 1, by omega⟩
  have hR5 : Rw (w.drew.setCells g (0 + i * 6) M) g cap (L.take i ++ L.drop (i + 1) ++ L.drop n1) := by
    obtain ⟨rest, h1, h2⟩ := HR.out.cells
    obtain ⟨cur', h3, h4, h5⟩ := setCells_row M (0 + i * 6) w.drew (flat L ++ rest).toArray h1 (by simp only [List.size_toArray, List.length_append, flat_len]; have := s1.out; omega)
    refine ⟨⟨rest, ?_, ?_⟩, by rw [List.length_append, List.length_append, List.length_take, List.length_drop, List.length_drop]; omega, HR.out.mx⟩
    · rw [h3]
      congr 2
      apply Array.toList_inj.1
      rw [h5, s1.out, Nat.zero_add, List.take_append_of_le_length (by rw [flat_len]; omega), flat_take _ _ (by omega), show i * 6 + (L.length - (i + 1)) * 6 = n1 * 6 by omega, List.drop_append_of_le_length (by rw [flat_len]; omega), flat_drop _ _ (by omega), ← HM.out, flat_append, flat_append]
      simp
    · rw [List.length_append, flat_len, List.length_append, List.length_append, List.length_take, List.length_drop, List.length_drop]
      rw [List.length_append, flat_len] at h2
      omega
  have hB5 : Below base w (w.drew.setCells g (0 + i * 6) M) := below_cells M _ (Below.refl base w).drew hg
  have hlen5 : (L.take i ++ L.drop (i + 1) ++ L.drop n1).length = n1 + 1 := by rw [List.length_append, List.length_append, List.length_take, List.length_drop, List.length_drop]; omega
  have htk : (L.take i ++ L.drop (i + 1) ++ L.drop n1).take n1 = L.take i ++ L.drop (i + 1) := by
    have : n1 = (L.take i ++ L.drop (i + 1)).length := by rw [List.length_append, List.length_take, List.length_drop]; omega
    conv => lhs; rw [this]
    exact List.take_left
  have hcl0 : ∀ t, t < (L.length - n1) * 6 → ((w.drew.setCells g (0 + i * 6) M).cell? ⟨g, n1 * 6 + t, none⟩).isSome = true := fun t ht => by
    obtain ⟨rest, h1, h2⟩ := hR5.cells
    rw [blk_cell h1, List.getElem?_toArray, List.getElem?_eq_getElem (by rw [List.length_append, flat_len, hlen5]; omega)]; rfl
  have HR5 := Lib.hid hR5
  have HB5 := Lib.hid hB5
  have HTK := Lib.hid htk
  have HL5 := Lib.hid hlen5
  have HN1 := Lib.hid hn1
  have HC0 := Lib.hid hcl0
  have g1 : n1 < L.length := by omega
  have g2 : L.length ≤ n1 + 1 := by omega
  have g3 : i + (L.length - (i + 1)) = n1 := by omega
  have HG3 := Lib.hid g3
  have g4 : L.length - (i + 1) + i ≤ cap := by omega
  clear hR5 hB5 hlen5 htk hcl0 g3
  have hn1le : n1 ≤ 100000 := by omega
  have hn1c : (n1 : Int) ≤ (L.length : Int) := by omega
  clear hn1
  go_enter Try.func73, Try.ntmps73
  go_wp2
  go_region_law (refine step_append_room rfl (.tmp 22) (.tmp 25) 24 rfl 41 i0 6 Try.underlying24 hi0 hz1 g 0 i cap (by simp [Act.eval, Act.put]) A (L.length - (i + 1)) (cap - (i + 1)) M (by simp [Act.eval, Act.put]) s1.out hnews.out s2.out (by omega) s3.out ?_)
  rw [HG3.out]
  simp only [Nat.zero_add] at HR5 HB5 HC0
  try simp only [Nat.zero_add]
  obtain ⟨W5, hW5⟩ : ∃ W5, w.drew.setCells g (i * 6) M = W5 := ⟨_, rfl⟩
  rw [hW5] at HR5 HB5 HC0 ⊢
  clear hW5 s3 hnews hA
  obtain ⟨vs, hvl, hcl⟩ := run_clear6 W5 24 Try.underlying24 g (n1 * 6) (L.length - n1) (cap - n1) (by omega) HC0.out (fun t _ => HR5.out.frozen _)
  have hic2 : (n1 : Int) ≤ (cap : Int) := by omega
  go_wp2
  go_ret
  have hcut := HR5.out.cut (i := n1) (by rw [HL5.out]; omega) vs (by rw [hvl, HL5.out]; have := HN1.out; omega)
  rw [HTK.out] at hcut
  have hl : (L.take i ++ L.drop (i + 1)).length = n1 := by rw [List.length_append, List.length_take, List.length_drop]; have := HN1.out; omega
  exact ⟨.slice (some ⟨g, 0, none⟩) n1 cap, rfl, .inr ⟨g, cap, by rw [hl], hg, hcut⟩, below_cells vs _ HB5.out hg⟩
theorem idxP_ge (p : S41 → Bool) (L : List S41) (i : Int) (h : 0 ≤ i) : idxP p L i = -1 ∨ i ≤ idxP p L i ∧ idxP p L i < i + L.length := by
  induction L generalizing i with
  | nil => exact .inl rfl
  | cons o L ih =>
    simp only [idxP]
    split
    · exact .inr ⟨by omega, by simp; omega⟩
    · rcases ih (i + 1) (by omega) with e | e
      · exact .inl e
      · exact .inr (by simp; omega)
set_option maxRecDepth 1000000 in
set_option maxHeartbeats 4000000 in
theorem cancel_calls (A0 : Option Addr) (c0 : Nat) (l0 : List S41) (id : Int) (w : World) (hr0 : Kd.C k41 w A0 l0.length l0) (hc0 : l0.length ≤ c0) :
    Calls Try.prog 39 #[.slice A0 l0.length c0, .int .i64 id] w fun e w' => ∃ v0_ : Value, e = .returned (.tuple #[v0_, .int .i64 (cancelF l0 id).2]) ∧ Kd.R k41 41 w' w.heap.size (fun _ => True) v0_ (cancelF l0 id).1 ∧ Below w.heap.size w w' := by
  have hR := right_calls A0 c0 l0 w hr0 hc0
  cases hr : rightL l0 with
  | false =>
    have E : cancelF l0 id = ([], 2) := by unfold cancelF; rw [if_neg (by rw [hr]; simp)]
    rw [E]
    rw [hr] at hR
    clear E hr
    go_enter Try.func39, Try.ntmps39
    go_wp2_with (go_at_call 29; (with_reducible refine hR.mono ?_); rintro e w1 ⟨rfl, hb⟩)
    go_ret2
    exact ⟨_, rfl, Kd.R_nil _ _ _ _ _, hb⟩
  | true =>
    rw [hr] at hR
    have hlen := right_len hr
    have HR := Lib.hid hr0
    have hge := idxP_ge (fun o => o.f0 == id) l0 0 (by omega)
    have hfd : findF l0 id = idxP (fun o => o.f0 == id) l0 0 := rfl
    rw [← hfd] at hge
    clear hfd
    rcases hge with e1 | ⟨e1, e2⟩
    · have E : cancelF l0 id = ([], 6) := by unfold cancelF; rw [if_pos hr, e1, if_pos (by omega)]
      have hF := fun w h => find_calls A0 c0 l0 id w h (by omega)
      rw [E]
      rw [e1] at hF
      have HF := Lib.hid hF
      clear E hr hr0 e1 hF
      go_enter Try.func39, Try.ntmps39
      go_wp2_with (go_at_call 29; (with_reducible refine hR.mono ?_); rintro e w1 ⟨rfl, hb⟩)
      have c2 := HF.out w1 (Kd.C_below HR.out hb)
      have HB := Lib.hid hb
      clear hb
      go_wp2_with (go_at_call 72; (with_reducible refine c2.mono ?_); rintro e w2 ⟨rfl, hb2⟩)
      go_ret2
      exact ⟨_, rfl, Kd.R_nil _ _ _ _ _, below_step HB.out hb2⟩
    · obtain ⟨i, hi⟩ : ∃ i : Nat, findF l0 id = i := ⟨(findF l0 id).toNat, by omega⟩
      have E : cancelF l0 id = (l0.take i ++ l0.drop (i + 1), 0) := by unfold cancelF; rw [if_pos hr, if_neg (by omega), hi, Int.toNat_natCast]
      have hF := fun w h => find_calls A0 c0 l0 id w h (by omega)
      rw [E]
      rw [hi] at hF e1 e2
      have HF := Lib.hid hF
      have hil : i < l0.length := by omega
      have hi2 : i ≤ 500 := by omega
      clear E hr hr0 hF hi e1 e2
      go_enter Try.func39, Try.ntmps39
      go_wp2_with (go_at_call 29; (with_reducible refine hR.mono ?_); rintro e w1 ⟨rfl, hb⟩)
      have c2 := HF.out w1 (Kd.C_below HR.out hb)
      have HB := Lib.hid hb
      clear hb HF
      go_wp2_with (go_at_call 72; (with_reducible refine c2.mono ?_); rintro e w2 ⟨rfl, hb2⟩)
      have HB2 := Lib.hid (below_step HB.out hb2)
      clear hb2 c2 HB
      have c3 := clone74_calls A0 c0 l0 w2 (Kd.C_below HR.out HB2.out) (by omega)
      go_wp2_with (go_at_call 74; (with_reducible refine c3.mono ?_); rintro e w3 ⟨v3, rfl, hR3, hb3⟩)
      have HB3 := Lib.hid (below_step HB2.out hb3)
      have hz3 := hb3.size
      clear hb3 c3
      rcases hR3 with ⟨_, h⟩ | ⟨g, cap, rfl, hg, hRw⟩
      · rw [h] at hil; exact absurd hil (Nat.not_lt_zero _)
      have c4 := delete73_calls g cap i w2.heap.size l0 w3 hRw hg hil (by omega) hz3
      clear hRw
      go_wp2_with (go_at_call 73; (with_reducible refine c4.mono ?_); rintro e w4 ⟨v4, rfl, hR4, hb4⟩)
      go_ret2
      exact ⟨v4, rfl, (hR4.mono HB2.out.size).R, HB3.out.trans (hb4.mono HB2.out.size)⟩
end Go.Proofs.Ytgffddbhnggllaa.Ed
namespace Go.Proofs.Ytgffddbhnggllaa.QF
open Go.RowKit Go.Proofs.YtgffddbhnggllaaW.PrintWords Go.Proofs.YtgffddbhnggllaaW.PrintLast Go.Proofs.YtgffddbhnggllaaW.PrintMore
attribute [local go_sem] max2_int min2_int max_two min_two max_three min_three max_four min_four
set_option linter.unusedVariables false
set_option linter.unusedSimpArgs false
def order_Cancel.f (l0 : List S41) (a1 : Int) : Option (List S41 × Int) := some (Ed.cancelF l0 a1)
theorem order_Cancel.calls (A0 : Option Addr) (c0 : Nat) (l0 : List (S41)) (a1 : Int) (r1 : List (S41)) (r2 : Int) (w : World) (hr0 : Kd.C k41 w A0 l0.length l0) (hc0 : l0.length ≤ c0) (h : order_Cancel.f l0 a1 = some (r1, r2)) :
  Calls Try.prog 39 #[.slice A0 l0.length c0, .int .i64 a1] w fun e w' => ∃ v0_ : Value, e = .returned (.tuple #[v0_, .int .i64 r2]) ∧ Kd.R k41 41 w' w.heap.size (fun _ => True) v0_ r1 ∧ Below w.heap.size w w' := by
 have h' := Option.some.inj h
 have e := Ed.cancel_calls A0 c0 l0 a1 w hr0 hc0
 rw [h'] at e
 exact e
end Go.Proofs.Ytgffddbhnggllaa.QF
namespace Go.Proofs.Ytgffddbhnggllaa.orderChanges
theorem cl0 : (Rows.orderChangesRow.wf (OpenSpec.ofChange Rows.orderChangesSpec)) = true := by kernel_rfl
theorem cl3 : (Try.f11.params.all (Try.pinned.checked.prog.readableRec ·)) = true := by kernel_rfl
theorem cl4 : (namedTie Try.pinned.checked.prog Rows.orderChangesRow.named Rows.orderChangesSpec.vars) = true := by kernel_rfl
theorem cl5 : ((Rows.orderChangesRow.stops == [])) = true := by kernel_rfl
theorem cl7 : ((Rows.orderChangesRow.knobs == [])) = true := by kernel_rfl
theorem cl9 : ((Rows.orderChangesRow.inPlace == Try.pinned.checked.prog.inPlace 11)) = true := by kernel_rfl
theorem cl10 : ((Rows.orderChangesRow.unfollowed == Try.pinned.checked.prog.unfollowed 11)) = true := by kernel_rfl
theorem cl11 : ((Rows.orderChangesRow.recurses == Try.pinned.checked.prog.recurses 11)) = true := by kernel_rfl
theorem cl12 : ((Rows.orderChangesRow.named == Try.pinned.checked.prog.varsNamed 11)) = true := by kernel_rfl
theorem cl13 : ((Rows.orderChangesRow.maps == (Try.f11.params.toList ++ Rows.orderChangesSpec.plain.varTypes Try.pinned.checked.prog).any (Try.pinned.checked.prog.mapsRec ·))) = true := by kernel_rfl
theorem cl14 : ((Rows.orderChangesRow.ifaces == (Try.f11.params.toList ++ Rows.orderChangesSpec.plain.varTypes Try.pinned.checked.prog).any (Try.pinned.checked.prog.ifacesRec ·))) = true := by kernel_rfl
theorem cl15 : ((Rows.orderChangesRow.mapsOut == Try.pinned.checked.prog.mapsAmong Try.f11.resultTypes.toList)) = true := by kernel_rfl
theorem cl16 : ((Rows.orderChangesRow.loops == (Try.f11.params.toList ++ Rows.orderChangesSpec.plain.varTypes Try.pinned.checked.prog).any (Try.pinned.checked.prog.loopsFrom ·))) = true := by kernel_rfl
theorem cl17 : ((Rows.orderChangesRow.wideKeys == (Try.f11.params.toList ++ Rows.orderChangesSpec.plain.varTypes Try.pinned.checked.prog ++ Try.f11.resultTypes.toList).any (Try.pinned.checked.prog.wideKeysFrom ·))) = true := by kernel_rfl
theorem cl18 : (Rows.orderChangesSpec.vars.all (Try.pinned.checked.prog.varReadable ·)) = true := by kernel_rfl
theorem cl19 : (Try.f11.resultTypes.all (fun t => Try.pinned.checked.prog.readableRec t && decide (t < Try.pinned.checked.prog.types.size))) = true := by kernel_rfl
theorem cl20 : ((Rows.orderChangesRow.ifacesOut == Try.f11.resultTypes.toList.any (Try.pinned.checked.prog.ifacesRec ·))) = true := by kernel_rfl
theorem cl21 : ((Rows.orderChangesRow.loopsOut == Try.f11.resultTypes.toList.any (Try.pinned.checked.prog.loopsFrom ·))) = true := by kernel_rfl
theorem cl22 : ((Rows.orderChangesRow.plainKeys == Try.pinned.checked.prog.plainKeys)) = true := by kernel_rfl
theorem cl23 : (Rows.orderChangesRow.shortTexts.isNone) = true := by kernel_rfl
theorem cl26 : ((Rows.orderChangesRow.lifted == Try.pinned.checked.prog.liftsFinal)) = true := by kernel_rfl
theorem cl27 : ((Try.pinned.checked.prog.make == some Rows.orderChangesRow.make)) = true := by kernel_rfl
theorem cl28 : ((Rows.orderChangesRow.kinds == (if Rows.orderChangesRow.domain.isEmpty then [] else Try.f11.params.toList.map fun t => match Try.pinned.checked.prog.underlying t with | some (.int k) => some k | _ => none))) = true := by kernel_rfl
theorem cl29 : ((Rows.orderChangesRow.pinned == Rows.orderChangesRow.pinnedBy)) = true := by kernel_rfl
theorem cl30 : ((Rows.orderChangesRow.veiled == (Try.f11.params.toList ++ Rows.orderChangesSpec.plain.varTypes Try.pinned.checked.prog ++ Try.f11.resultTypes.toList).any (Try.pinned.checked.prog.veiledRec ·))) = true := by kernel_rfl
theorem cl31 : (Rows.orderChangesRow.veiledFits Try.pinned.checked.prog Try.f11.params.toList (Try.f11.params.toList ++ Rows.orderChangesSpec.plain.varTypes Try.pinned.checked.prog ++ Try.f11.resultTypes.toList)) = true := by kernel_rfl
set_option maxRecDepth 100000 in
theorem closed : joinedFacts Try.pinned.checked.prog 11 Try.f11 Rows.orderChangesSpec Rows.orderChangesRow = true := by
  unfold joinedFacts
  refine Ed.both_t ?_ cl31
  refine Ed.both_t ?_ cl30
  refine Ed.both_t ?_ cl29
  refine Ed.both_t ?_ cl28
  refine Ed.both_t ?_ cl27
  refine Ed.both_t ?_ cl26
  refine Ed.both_t ?_ Ed.cl25
  refine Ed.both_t ?_ Ed.cl24
  refine Ed.both_t ?_ cl23
  refine Ed.both_t ?_ cl22
  refine Ed.both_t ?_ cl21
  refine Ed.both_t ?_ cl20
  refine Ed.both_t ?_ cl19
  refine Ed.both_t ?_ cl18
  refine Ed.both_t ?_ cl17
  refine Ed.both_t ?_ cl16
  refine Ed.both_t ?_ cl15
  refine Ed.both_t ?_ cl14
  refine Ed.both_t ?_ cl13
  refine Ed.both_t ?_ cl12
  refine Ed.both_t ?_ cl11
  refine Ed.both_t ?_ cl10
  refine Ed.both_t ?_ cl9
  refine Ed.both_t ?_ Ed.cl8
  refine Ed.both_t ?_ cl7
  refine Ed.both_t ?_ Ed.cl6
  refine Ed.both_t ?_ cl5
  refine Ed.both_t ?_ cl4
  refine Ed.both_t ?_ cl3
  refine Ed.both_t ?_ Ed.cl2
  refine Ed.both_t ?_ Ed.cl1
  exact cl0
end Go.Proofs.Ytgffddbhnggllaa.orderChanges
namespace Go.Proofs.Ytgffddbhnggllaa.QF
open Go.RowKit Go.Proofs.YtgffddbhnggllaaW.PrintWords Go.Proofs.YtgffddbhnggllaaW.PrintLast Go.Proofs.YtgffddbhnggllaaW.PrintMore
attribute [local go_sem] max2_int min2_int max_two min_two max_three min_three max_four min_four
set_option linter.unusedVariables false
set_option linter.unusedSimpArgs false
attribute [local go_sem high] eqA41
def letterbagkit_SameOrders.l0 : Nat → List (S41) → List (S41) → Int → Option (Bool)
 | 0, _, _, _ => none
 | k + 1, x0, x1, x5 => if x5 < (x0.length : Int) then (if 0 ≤ x5 then (if x5 < (x1.length : Int) then (if (!(((rd_T41 x0 x5).f0) == ((rd_T41 x1 x5).f0)) || (!(((rd_T41 x0 x5).f1) == ((rd_T41 x1 x5).f1)) || (!(((rd_T41 x0 x5).f2) == ((rd_T41 x1 x5).f2)) || (!(((rd_T41 x0 x5).f3) == ((rd_T41 x1 x5).f3)) || (!(((rd_T41 x0 x5).f4) == ((rd_T41 x1 x5).f4)) || (!(((rd_T41 x0 x5).f5) == ((rd_T41 x1 x5).f5)))))))) = true then (some false) else (letterbagkit_SameOrders.l0 k x0 x1 (wrap64 (x5 + 1)))) else (none)) else (none)) else (some true)
def letterbagkit_SameOrders.f (k : Nat) (l0 : List (S41)) (l1 : List (S41)) : Option (Bool) := if (l0.length : Int) = (l1.length : Int) then (letterbagkit_SameOrders.l0 k l0 l1 0) else (some false)
theorem letterbagkit_SameOrders.mono_l : ∀ k, (∀ y0 y1 y2, LeO (letterbagkit_SameOrders.l0 k y0 y1 y2) (letterbagkit_SameOrders.l0 (k + 1) y0 y1 y2))
 | 0 => fun _ _ _ r h => by simp [letterbagkit_SameOrders.l0] at h
 | k + 1 => by
  have ih0 := letterbagkit_SameOrders.mono_l k
  ·intro y0 y1 y2
   unfold letterbagkit_SameOrders.l0
   repeat' first
   | (with_reducible exact ih0 _ _ _)
   | (with_reducible exact LeO.refl _)
   | (with_reducible exact LeO.none _)
   | (with_reducible refine LeO.ite ?_ ?_)
   | (with_reducible refine LeO.bind ?_ (fun _ => ?_))
   | exact ih0 _ _ _
   | exact LeO.none _
   | refine LeO.ite ?_ ?_
   | refine LeO.bind ?_ (fun _ => ?_)
theorem letterbagkit_SameOrders.mono : ∀ a0 a1 k, LeO (letterbagkit_SameOrders.f k a0 a1) (letterbagkit_SameOrders.f (k + 1) a0 a1) := by
 intro a0 a1 k
 have ih0 := letterbagkit_SameOrders.mono_l k
 unfold letterbagkit_SameOrders.f
 repeat' first
   | (with_reducible exact ih0 _ _ _)
   | (with_reducible exact LeO.refl _)
   | (with_reducible exact LeO.none _)
   | (with_reducible refine LeO.ite ?_ ?_)
   | (with_reducible refine LeO.bind ?_ (fun _ => ?_))
   | exact ih0 _ _ _
   | exact LeO.none _
   | refine LeO.ite ?_ ?_
   | refine LeO.bind ?_ (fun _ => ?_)
set_option maxHeartbeats 8000000 in
set_option maxRecDepth 100000 in
theorem letterbagkit_SameOrders.calls (k : Nat) (A0 : Option Addr) (c0 : Nat) (l0 : List (S41)) (A1 : Option Addr) (c1 : Nat) (l1 : List (S41)) (r : Bool) (w : World) (hr0 : Kd.C k41 w A0 l0.length l0) (hc0 : l0.length ≤ c0) (hr1 : Kd.C k41 w A1 l1.length l1) (hc1 : l1.length ≤ c1) (h : letterbagkit_SameOrders.f k l0 l1 = some r) :
  Calls Try.prog 33 #[.slice A0 l0.length c0, .slice A1 l1.length c1] w fun e w' => e = .returned (.bool r) ∧ Drawn0 w w' := by
 have hu41 := Try.underlying41
 have HR0 := Aside0.mk hr0
 have HC0 := Aside0.mk hc0
 clear hr0 hc0
 have HR1 := Aside0.mk hr1
 have HC1 := Aside0.mk hc1
 clear hr1 hc1
 have H : (if (l0.length : Int) = (l1.length : Int) then (letterbagkit_SameOrders.l0 k l0 l1 0) else (some false)) = some r := h
 clear h
 by_cases c3 : (l0.length : Int) = (l1.length : Int)
 ·rw [if_pos c3] at H
  have c3b0 : ((l0.length : Int) == (l1.length : Int)) = true := beq_iff_eq.mpr c3
  have c3b1 : ((l0.length : Int) != (l1.length : Int)) = false := bne_eq_false_iff_eq.mpr c3
  have c3b2 : (l0.length == l1.length) = true := by first | simpa using c3 | (simp at c3 ⊢; omega)
  clear c3
  have H' := Aside0.mk H
  clear H
  go_enter Try.func33, Try.ntmps33
  go_wp2
  repeat (go_quiet (fail); try go_wp2)
  go_loopg [5] k (fun kq v5 w' => ∃ (x5_1 : Int), v5 = .int .i64 x5_1 ∧ Aside0 (letterbagkit_SameOrders.l0 kq l0 l1 x5_1 = some r) ∧ Aside0 (kq ≤ k) ∧ Drawn0 w w')
  case atStart => exact ⟨(0), (by first | rfl | (simp; done) | (simp [*]; done)), H', ⟨Nat.le_refl _⟩, by repeat (first | exact Drawn0.refl _ | apply Drawn0.step)⟩
  case round =>
   clear H'
   try clear c1
   try clear p2
   try clear c3
   try clear c3b0
   try clear c3b1
   try clear c3b2
   obtain ⟨x5_1, rfl, HA, HK1, ⟨m1, rfl⟩⟩ := hrel
   cases gk with
   | zero => exact absurd HA.out (by simp [letterbagkit_SameOrders.l0])
   | succ k1 =>
    have H := HA.out
    clear HA
    simp only [letterbagkit_SameOrders.l0] at H
    by_cases c4 : x5_1 < (l0.length : Int)
    ·rw [if_pos c4] at H
     have c4b0 : decide (x5_1 < (l0.length : Int)) = true := decide_eq_true c4
     clear c4
     by_cases c5 : 0 ≤ x5_1
     ·rw [if_pos c5] at H
      have c5b0 : decide (0 ≤ x5_1) = true := decide_eq_true c5
      clear c5
      by_cases c6 : x5_1 < (l1.length : Int)
      ·rw [if_pos c6] at H
       have c6b0 : decide (x5_1 < (l1.length : Int)) = true := decide_eq_true c6
       clear c6
       by_cases c7 : (!(((rd_T41 l0 x5_1).f0) == ((rd_T41 l1 x5_1).f0)) || (!(((rd_T41 l0 x5_1).f1) == ((rd_T41 l1 x5_1).f1)) || (!(((rd_T41 l0 x5_1).f2) == ((rd_T41 l1 x5_1).f2)) || (!(((rd_T41 l0 x5_1).f3) == ((rd_T41 l1 x5_1).f3)) || (!(((rd_T41 l0 x5_1).f4) == ((rd_T41 l1 x5_1).f4)) || (!(((rd_T41 l0 x5_1).f5) == ((rd_T41 l1 x5_1).f5)))))))) = true
       ·rw [if_pos c7] at H
        have c7b0 : (!(((rd_T41 l0 x5_1).f0) == ((rd_T41 l1 x5_1).f0)) || (!(((rd_T41 l0 x5_1).f1) == ((rd_T41 l1 x5_1).f1)) || (!(((rd_T41 l0 x5_1).f2) == ((rd_T41 l1 x5_1).f2)) || (!(((rd_T41 l0 x5_1).f3) == ((rd_T41 l1 x5_1).f3)) || (!(((rd_T41 l0 x5_1).f4) == ((rd_T41 l1 x5_1).f4)) || (!(((rd_T41 l0 x5_1).f5) == ((rd_T41 l1 x5_1).f5)))))))) = true := c7
        clear c7
        obtain rfl := Option.some.inj H
        have p276 : 0 ≤ (x5_1 : Int) := of_decide_eq_true (by first | (with_reducible assumption) | assumption)
        have q276 : x5_1 < (l0.length : Int) := of_decide_eq_true (by first | (with_reducible assumption) | assumption)
        obtain ⟨ad276, e276, hx276_0, hx276_1, hx276_2, hx276_3, hx276_4, hx276_5⟩ := at_T41 HR0.out x5_1 p276 q276
        cases e276
        replace p276 := eq_true p276
        replace q276 := eq_true q276
        have p277 : 0 ≤ (x5_1 : Int) := of_decide_eq_true (by first | (with_reducible assumption) | assumption)
        have q277 : x5_1 < (l1.length : Int) := of_decide_eq_true (by first | (with_reducible assumption) | assumption)
        obtain ⟨ad277, e277, hx277_0, hx277_1, hx277_2, hx277_3, hx277_4, hx277_5⟩ := at_T41 HR1.out x5_1 p277 q277
        cases e277
        replace p277 := eq_true p277
        replace q277 := eq_true q277
        go_wp2
        repeat (go_quiet (fail); try go_wp2)
        go_ret
        exact ⟨by first | rfl | (simp; done) | (simp [*]; done), by repeat (first | exact Drawn0.refl _ | apply Drawn0.step)⟩
       ·rw [if_neg c7] at H
        have c7b0 : (!(((rd_T41 l0 x5_1).f0) == ((rd_T41 l1 x5_1).f0)) || (!(((rd_T41 l0 x5_1).f1) == ((rd_T41 l1 x5_1).f1)) || (!(((rd_T41 l0 x5_1).f2) == ((rd_T41 l1 x5_1).f2)) || (!(((rd_T41 l0 x5_1).f3) == ((rd_T41 l1 x5_1).f3)) || (!(((rd_T41 l0 x5_1).f4) == ((rd_T41 l1 x5_1).f4)) || (!(((rd_T41 l0 x5_1).f5) == ((rd_T41 l1 x5_1).f5)))))))) = false := by simpa using c7
        clear c7
        have H' := Aside0.mk H
        clear H
        have p276 : 0 ≤ (x5_1 : Int) := of_decide_eq_true (by first | (with_reducible assumption) | assumption)
        have q276 : x5_1 < (l0.length : Int) := of_decide_eq_true (by first | (with_reducible assumption) | assumption)
        obtain ⟨ad276, e276, hx276_0, hx276_1, hx276_2, hx276_3, hx276_4, hx276_5⟩ := at_T41 HR0.out x5_1 p276 q276
        cases e276
        replace p276 := eq_true p276
        replace q276 := eq_true q276
        have p277 : 0 ≤ (x5_1 : Int) := of_decide_eq_true (by first | (with_reducible assumption) | assumption)
        have q277 : x5_1 < (l1.length : Int) := of_decide_eq_true (by first | (with_reducible assumption) | assumption)
        obtain ⟨ad277, e277, hx277_0, hx277_1, hx277_2, hx277_3, hx277_4, hx277_5⟩ := at_T41 HR1.out x5_1 p277 q277
        cases e277
        replace p277 := eq_true p277
        replace q277 := eq_true q277
        go_wp2
        repeat (go_quiet (fail); try go_wp2)
        go_roundg k1
        case measure => have := HK1.out; omega
        case rel => exact ⟨(wrap64 (x5_1 + 1)), (by first | rfl | (simp; done) | (simp [*]; done)), H', ⟨by have := HK1.out; omega⟩, by repeat (first | exact Drawn0.refl _ | apply Drawn0.step)⟩
      ·rw [if_neg c6] at H
       exact absurd H (by simp)
     ·rw [if_neg c5] at H
      exact absurd H (by simp)
    ·rw [if_neg c4] at H
     have c4b0 : decide (x5_1 < (l0.length : Int)) = false := decide_eq_false c4
     clear c4
     obtain rfl := Option.some.inj H
     go_wp2
     repeat (go_quiet (fail); try go_wp2)
     go_ret
     exact ⟨by first | rfl | (simp; done) | (simp [*]; done), by repeat (first | exact Drawn0.refl _ | apply Drawn0.step)⟩
 ·rw [if_neg c3] at H
  have c3b0 : ((l0.length : Int) == (l1.length : Int)) = false := beq_eq_false_iff_ne.mpr c3
  have c3b1 : ((l0.length : Int) != (l1.length : Int)) = true := bne_iff_ne.mpr c3
  have c3b2 : (l0.length == l1.length) = false := by first | simpa using c3 | (simp at c3 ⊢; omega)
  obtain rfl := Option.some.inj H
  go_enter Try.func33, Try.ntmps33
  go_wp2
  repeat (go_quiet (fail); try go_wp2)
  go_ret
  exact ⟨by first | rfl | (simp; done) | (simp [*]; done), by repeat (first | exact Drawn0.refl _ | apply Drawn0.step)⟩
end Go.Proofs.Ytgffddbhnggllaa.QF
namespace Go.Proofs.Ytgffddbhnggllaa.QF
open Go.RowKit Go.Proofs.YtgffddbhnggllaaW.PrintWords Go.Proofs.YtgffddbhnggllaaW.PrintLast Go.Proofs.YtgffddbhnggllaaW.PrintMore
attribute [local go_sem] max2_int min2_int max_two min_two max_three min_three max_four min_four
set_option linter.unusedVariables false
set_option linter.unusedSimpArgs false
def api_Order_74.f (l0 : List S41) : Option (List S41) := if l0.length ≤ 100000 then some l0 else none
theorem api_Order_74.calls (A0 : Option Addr) (c0 : Nat) (l0 : List (S41)) (r : List (S41)) (w : World) (hr0 : Kd.C k41 w A0 l0.length l0) (hc0 : l0.length ≤ c0) (h : api_Order_74.f l0 = some r) :
  Calls Try.prog 74 #[.slice A0 l0.length c0] w fun e w' => ∃ v0_ : Value, e = .returned (v0_) ∧ Kd.R k41 41 w' w.heap.size (fun _ => True) v0_ r ∧ Below w.heap.size w w' := by
 unfold api_Order_74.f at h
 by_cases hl : l0.length ≤ 100000
 ·rw [if_pos hl] at h
  obtain rfl := Option.some.inj h
  exact (Ed.clone74_calls A0 c0 l0 w hr0 hl).mono fun _ _ ⟨v, h1, h2, h3⟩ => ⟨v, h1, h2.R, h3⟩
 ·rw [if_neg hl] at h; cases h
end Go.Proofs.Ytgffddbhnggllaa.QF
namespace Go.Proofs.Ytgffddbhnggllaa.QF
open Go.RowKit Go.Proofs.YtgffddbhnggllaaW.PrintWords Go.Proofs.YtgffddbhnggllaaW.PrintLast Go.Proofs.YtgffddbhnggllaaW.PrintMore
attribute [local go_sem] max2_int min2_int max_two min_two max_three min_three max_four min_four
set_option linter.unusedVariables false
set_option linter.unusedSimpArgs false
def order_find.f (l0 : List S41) (a1 : Int) : Option Int := if l0.length ≤ 100000 then some (Ed.findF l0 a1) else none
theorem order_find.calls (A0 : Option Addr) (c0 : Nat) (l0 : List (S41)) (a1 : Int) (r : Int) (w : World) (hr0 : Kd.C k41 w A0 l0.length l0) (hc0 : l0.length ≤ c0) (h : order_find.f l0 a1 = some r) :
  Calls Try.prog 72 #[.slice A0 l0.length c0, .int .i64 a1] w fun e w' => e = .returned (.int .i64 r) ∧ Below w.heap.size w w' := by
 unfold order_find.f at h
 by_cases hl : l0.length ≤ 100000
 ·rw [if_pos hl] at h
  obtain rfl := Option.some.inj h
  exact Ed.find_calls A0 c0 l0 a1 w hr0 hl
 ·rw [if_neg hl] at h; cases h
end Go.Proofs.Ytgffddbhnggllaa.QF
namespace Go.Proofs.Ytgffddbhnggllaa.QF
open Go.RowKit Go.Proofs.YtgffddbhnggllaaW.PrintWords Go.Proofs.YtgffddbhnggllaaW.PrintLast Go.Proofs.YtgffddbhnggllaaW.PrintMore
attribute [local go_sem] max2_int min2_int max_two min_two max_three min_three max_four min_four
set_option linter.unusedVariables false
set_option linter.unusedSimpArgs false
def order_Add.j0 : Nat → List (S41) → Bool → Int → Int → Int → Int → Int → Int → Option ((List (S41)) × Int)
 | 0, _, _, _, _, _, _, _, _ => none
 | k + 1, x0, x6, x418000, x418001, x418002, x418003, x418004, x418005 => if x6 = true then (some (([] : List (S41)), 2)) else ((order_find.f x0 x418000).bind fun t420 => (if t420 ≥ 0 then (some (([] : List (S41)), 350)) else (if (x0.length : Int) = 500 then (some (([] : List (S41)), 4)) else ((api_Order_74.f x0).bind fun t421 => ((some (([(⟨x418000, x418001, x418002, x418003, x418004, x418005⟩ : S41)] : List (S41)) : List (S41))).bind fun y424 => (if t421.length + y424.length < 2932031007402 then (some ((t421 ++ y424), 0)) else (none)))))))
def order_Add.f (k : Nat) (l0 : List (S41)) (a1_0 : Int) (a1_1 : Int) (a1_2 : Int) (a1_3 : Int) (a1_4 : Int) (a1_5 : Int) : Option ((List (S41)) × Int) := (order_Right.f l0).bind fun t418 => (if t418 = true then ((order_right.f k a1_0 a1_1 a1_2 a1_3 a1_4 a1_5).bind fun t419 => (order_Add.j0 k l0 (!t419) a1_0 a1_1 a1_2 a1_3 a1_4 a1_5)) else (order_Add.j0 k l0 true a1_0 a1_1 a1_2 a1_3 a1_4 a1_5))
theorem order_Add.mono_l : ∀ k, (∀ y0 y1 y2 y3 y4 y5 y6 y7, LeO (order_Add.j0 k y0 y1 y2 y3 y4 y5 y6 y7) (order_Add.j0 (k + 1) y0 y1 y2 y3 y4 y5 y6 y7))
 | 0 => fun _ _ _ _ _ _ _ _ r h => by simp [order_Add.j0] at h
 | k + 1 => by
  have ih0 := order_Add.mono_l k
  ·intro y0 y1 y2 y3 y4 y5 y6 y7
   unfold order_Add.j0
   repeat' first
   | (with_reducible exact ih0 _ _ _ _ _ _ _ _)
   | (with_reducible exact order_right.mono _ _ _ _ _ _ _)
   | (with_reducible exact LeO.refl _)
   | (with_reducible exact LeO.none _)
   | (with_reducible refine LeO.ite ?_ ?_)
   | (with_reducible refine LeO.bind ?_ (fun _ => ?_))
   | exact ih0 _ _ _ _ _ _ _ _
   | exact order_right.mono _ _ _ _ _ _ _
   | exact LeO.none _
   | refine LeO.ite ?_ ?_
   | refine LeO.bind ?_ (fun _ => ?_)
theorem order_Add.mono : ∀ a0 a1 a2 a3 a4 a5 a6 k, LeO (order_Add.f k a0 a1 a2 a3 a4 a5 a6) (order_Add.f (k + 1) a0 a1 a2 a3 a4 a5 a6) := by
 intro a0 a1 a2 a3 a4 a5 a6 k
 have ih0 := order_Add.mono_l k
 unfold order_Add.f
 repeat' first
   | (with_reducible exact ih0 _ _ _ _ _ _ _ _)
   | (with_reducible exact order_right.mono _ _ _ _ _ _ _)
   | (with_reducible exact LeO.refl _)
   | (with_reducible exact LeO.none _)
   | (with_reducible refine LeO.ite ?_ ?_)
   | (with_reducible refine LeO.bind ?_ (fun _ => ?_))
   | exact ih0 _ _ _ _ _ _ _ _
   | exact order_right.mono _ _ _ _ _ _ _
   | exact LeO.none _
   | refine LeO.ite ?_ ?_
   | refine LeO.bind ?_ (fun _ => ?_)
set_option maxHeartbeats 8000000 in
set_option maxRecDepth 100000 in
theorem order_Add.calls (k : Nat) (A0 : Option Addr) (c0 : Nat) (l0 : List (S41)) (a1_0 : Int) (a1_1 : Int) (a1_2 : Int) (a1_3 : Int) (a1_4 : Int) (a1_5 : Int) (r1 : List (S41)) (r2 : Int) (w : World) (hr0 : Kd.C k41 w A0 l0.length l0) (hc0 : l0.length ≤ c0) (h : order_Add.f k l0 a1_0 a1_1 a1_2 a1_3 a1_4 a1_5 = some (r1, r2)) :
  Calls Try.prog 40 #[.slice A0 l0.length c0, .agg #[.int .i64 a1_0, .int .i64 a1_1, .int .i64 a1_2, .int .i64 a1_3, .int .i64 a1_4, .int .u8 a1_5]] w fun e w' => ∃ v0_ : Value, e = .returned (.tuple #[v0_, .int .i64 r2]) ∧ Kd.R k41 41 w' w.heap.size (fun _ => True) v0_ r1 ∧ Below w.heap.size w w' := by
 have hu41 := Try.underlying41
 have HR0 := Aside0.mk hr0
 have HC0 := Aside0.mk hc0
 clear hr0 hc0
 have HB := Aside0.mk (Below.refl w.heap.size w)
 have H : ((order_Right.f l0).bind fun t418 => (if t418 = true then ((order_right.f k a1_0 a1_1 a1_2 a1_3 a1_4 a1_5).bind fun t419 => (order_Add.j0 k l0 (!t419) a1_0 a1_1 a1_2 a1_3 a1_4 a1_5)) else (order_Add.j0 k l0 true a1_0 a1_1 a1_2 a1_3 a1_4 a1_5))) = some (r1, r2) := h
 clear h
 have HC3 := Aside0.mk H
 clear H
 go_enter Try.func40, Try.ntmps40
 go_upto_region 1 with (first | ((with_reducible refine gate_dst (N := 3) rfl ?_); refine box_event ?hg (N := 3) ?hd (cs := #[.int .i64 a1_0, .int .i64 a1_1, .int .i64 a1_2, .int .i64 a1_3, .int .i64 a1_4, .int .u8 a1_5]) (t := 41) ?hr ?_; (case hd => rfl); (case hg => rfl); (case hr => first | (go_simp; done) | (go_simp; rfl)); intro gb417 hg w4 hbox hb; have n0_ := Aside0.mk (below_step (by repeat (first | (with_reducible first | exact HB.out | apply below_alloc | apply pw_below_drewN | apply below_drew1) | exact HB.out)) hb); have n1_ := Aside0.mk (hbox); have n2_ := Aside0.mk ((by rw [hg]; exact (below_size (by repeat (first | (with_reducible first | exact HB.out | apply below_alloc | apply pw_below_drewN | apply below_drew1) | exact HB.out))) : w.heap.size ≤ gb417)); have n3_ := Aside0.mk ((by rw [hg]; exact (below_size (by repeat (first | (with_reducible first | exact HB.out | apply below_alloc | apply pw_below_drewN | apply below_drew1) | exact HB.out))) : w.heap.size ≤ gb417)); clear HB; have HB := n0_; have BK417 := n1_; have GW417 := n2_; have GE417 := n3_; clear n0_ n1_ n2_ n3_; clear hb hbox hg))
 (try simp only [Act.put, List.setIfInBounds_toArray, List.set_cons_zero, List.set_cons_succ])
 go_cut [6] (fun v6 wc => ∃ (kq : Nat) (x6_2 : Bool), v6 = .bool x6_2 ∧ Aside0 (order_Add.j0 kq l0 x6_2 a1_0 a1_1 a1_2 a1_3 a1_4 a1_5 = some (r1, r2)) ∧ Aside0 (kq ≤ k) ∧ Aside0 (wc.heap[gb417]? = some (.cells #[.int .i64 a1_0, .int .i64 a1_1, .int .i64 a1_2, .int .i64 a1_3, .int .i64 a1_4, .int .u8 a1_5] 41 (0, 0))) ∧ Aside0 (Below w.heap.size w wc))
 case first =>
  have H := HC3.out
  clear HC3
  replace H := Option.bind_eq_some_iff.mp H
  obtain ⟨t418, A50, H⟩ := H
  replace H : (if t418 = true then ((order_right.f k a1_0 a1_1 a1_2 a1_3 a1_4 a1_5).bind fun t419 => (order_Add.j0 k l0 (!t419) a1_0 a1_1 a1_2 a1_3 a1_4 a1_5)) else (order_Add.j0 k l0 true a1_0 a1_1 a1_2 a1_3 a1_4 a1_5)) = some (r1, r2) := H
  have A5 := Aside0.mk A50
  clear A50
  by_cases c6 : t418 = true
  ·subst c6
   have H1 : ((order_right.f k a1_0 a1_1 a1_2 a1_3 a1_4 a1_5).bind fun t419 => (order_Add.j0 k l0 (!t419) a1_0 a1_1 a1_2 a1_3 a1_4 a1_5)) = some (r1, r2) := by rw [if_pos rfl] at H; exact H
   clear H
   have H := H1
   clear H1
   replace H := Option.bind_eq_some_iff.mp H
   obtain ⟨t419, A70, H⟩ := H
   replace H : (order_Add.j0 k l0 (!t419) a1_0 a1_1 a1_2 a1_3 a1_4 a1_5) = some (r1, r2) := H
   have A7 := Aside0.mk A70
   clear A70
   have H' := Aside0.mk H
   clear H
   go_wp2_with (first | ((with_reducible refine gate_callee (f := 29) rfl ?_); refine goesL_ (some 8) rfl rfl Try.func29 (by kernel_rfl) rfl #[.slice A0 l0.length c0] rfl (by (try simp only [List.map_toArray, List.map_cons, List.map_nil]); first | done | rfl | (simp only [List.length_drop, List.length_take]; rfl)) ?_; (with_reducible refine (order_Right.calls _ _ l0 true _ ?side1 ?side2 A5.out).mono ?_); (case side1 => repeat (first | exact (Kd.C_below HR0.out HB.out) | (with_reducible refine Kd.C_alloc ?_ _) | (with_reducible refine Kd.C_drewN ?_ _) | (with_reducible refine Kd.C_drew ?_))); (case side2 => exact HC0.out); rintro e w8 ⟨rfl, hb⟩; refine ⟨_, rfl, ?_⟩; have n0_ := Aside0.mk (blk_below (g := gb417) (o := .cells #[.int .i64 a1_0, .int .i64 a1_1, .int .i64 a1_2, .int .i64 a1_3, .int .i64 a1_4, .int .u8 a1_5] 41 (0, 0)) (by (with_reducible repeat (first | refine blk_drewN ?_ _ | refine blk_drew ?_ | refine blk_alloc ?_ _)); exact BK417.out) hb); have n1_ := Aside0.mk (below_step (by repeat (first | (with_reducible first | exact HB.out | apply below_alloc | apply pw_below_drewN | apply below_drew1 | refine below_set ?_ GE417.out) | exact HB.out)) hb); clear BK417; clear HB; have BK417 := n0_; have HB := n1_; clear n0_ n1_; (try clear hb); (try clear hb2); (try clear hk); (try clear hi); have hcz9_0 : w8.cell? ⟨gb417, 0, none⟩ = some (.int .i64 a1_0) := (blk_cell BK417.out 0).trans rfl; have hcz9_1 : w8.cell? ⟨gb417, 1, none⟩ = some (.int .i64 a1_1) := (blk_cell BK417.out 1).trans rfl; have hcz9_2 : w8.cell? ⟨gb417, 2, none⟩ = some (.int .i64 a1_2) := (blk_cell BK417.out 2).trans rfl; have hcz9_3 : w8.cell? ⟨gb417, 3, none⟩ = some (.int .i64 a1_3) := (blk_cell BK417.out 3).trans rfl; have hcz9_4 : w8.cell? ⟨gb417, 4, none⟩ = some (.int .i64 a1_4) := (blk_cell BK417.out 4).trans rfl; have hcz9_5 : w8.cell? ⟨gb417, 5, none⟩ = some (.int .u8 a1_5) := (blk_cell BK417.out 5).trans rfl; have hfz9_0 := blk_frozen BK417.out 0; have hfz9_1 := blk_frozen BK417.out 1; have hfz9_2 := blk_frozen BK417.out 2; have hfz9_3 := blk_frozen BK417.out 3; have hfz9_4 := blk_frozen BK417.out 4; have hfz9_5 := blk_frozen BK417.out 5) | (go_at_call 65; (with_reducible refine (order_right.calls k a1_0 a1_1 a1_2 a1_3 a1_4 a1_5 t419 _ A7.out).mono ?_); rintro e w10 ⟨rfl, hb⟩; have n0_ := Aside0.mk (blk_below (g := gb417) (o := .cells #[.int .i64 a1_0, .int .i64 a1_1, .int .i64 a1_2, .int .i64 a1_3, .int .i64 a1_4, .int .u8 a1_5] 41 (0, 0)) (by (with_reducible repeat (first | refine blk_drewN ?_ _ | refine blk_drew ?_ | refine blk_alloc ?_ _)); exact BK417.out) hb); have n1_ := Aside0.mk (below_step (by repeat (first | (with_reducible first | exact HB.out | apply below_alloc | apply pw_below_drewN | apply below_drew1 | refine below_set ?_ GE417.out) | exact HB.out)) hb); clear BK417; clear HB; have BK417 := n0_; have HB := n1_; clear n0_ n1_; (try clear hb); (try clear hb2); (try clear hk); (try clear hi)))
   go_meet
   case rel => exact ⟨_, (!t419), (by first | rfl | (simp; done) | (simp [*]; done)), H', ⟨by first | omega | exact Nat.le_refl _⟩, ⟨by (with_reducible repeat (first | refine blk_drewN ?_ _ | refine blk_drew ?_ | refine blk_alloc ?_ _)); exact BK417.out⟩, ⟨by repeat (first | (with_reducible first | exact HB.out | apply below_alloc | apply pw_below_drewN | apply below_drew1 | refine below_set ?_ GE417.out) | exact HB.out)⟩⟩
  ·replace c6 := Bool.eq_false_iff.mpr c6
   subst c6
   have H1 : (order_Add.j0 k l0 true a1_0 a1_1 a1_2 a1_3 a1_4 a1_5) = some (r1, r2) := by rw [if_neg (show ¬ (false = true) by decide)] at H; exact H
   clear H
   have H := H1
   clear H1
   have H' := Aside0.mk H
   clear H
   go_wp2_with (first | ((with_reducible refine gate_callee (f := 29) rfl ?_); refine goesL_ (some 8) rfl rfl Try.func29 (by kernel_rfl) rfl #[.slice A0 l0.length c0] rfl (by (try simp only [List.map_toArray, List.map_cons, List.map_nil]); first | done | rfl | (simp only [List.length_drop, List.length_take]; rfl)) ?_; (with_reducible refine (order_Right.calls _ _ l0 false _ ?side1 ?side2 A5.out).mono ?_); (case side1 => repeat (first | exact (Kd.C_below HR0.out HB.out) | (with_reducible refine Kd.C_alloc ?_ _) | (with_reducible refine Kd.C_drewN ?_ _) | (with_reducible refine Kd.C_drew ?_))); (case side2 => exact HC0.out); rintro e w11 ⟨rfl, hb⟩; refine ⟨_, rfl, ?_⟩; have n0_ := Aside0.mk (blk_below (g := gb417) (o := .cells #[.int .i64 a1_0, .int .i64 a1_1, .int .i64 a1_2, .int .i64 a1_3, .int .i64 a1_4, .int .u8 a1_5] 41 (0, 0)) (by (with_reducible repeat (first | refine blk_drewN ?_ _ | refine blk_drew ?_ | refine blk_alloc ?_ _)); exact BK417.out) hb); have n1_ := Aside0.mk (below_step (by repeat (first | (with_reducible first | exact HB.out | apply below_alloc | apply pw_below_drewN | apply below_drew1 | refine below_set ?_ GE417.out) | exact HB.out)) hb); clear BK417; clear HB; have BK417 := n0_; have HB := n1_; clear n0_ n1_; (try clear hb); (try clear hb2); (try clear hk); (try clear hi)))
   go_meet
   case rel => exact ⟨_, (true), (by first | rfl | (simp; done) | (simp [*]; done)), H', ⟨by first | omega | exact Nat.le_refl _⟩, ⟨by (with_reducible repeat (first | refine blk_drewN ?_ _ | refine blk_drew ?_ | refine blk_alloc ?_ _)); exact BK417.out⟩, ⟨by repeat (first | (with_reducible first | exact HB.out | apply below_alloc | apply pw_below_drewN | apply below_drew1 | refine below_set ?_ GE417.out) | exact HB.out)⟩⟩
 case rest =>
  clear HC3
  try clear c2
  try clear p2
  try clear c4
  try clear c6
  try clear hcz9_0
  try clear hcz9_1
  try clear hcz9_2
  try clear hcz9_3
  try clear hcz9_4
  try clear hcz9_5
  try clear hfz9_0
  try clear hfz9_1
  try clear hfz9_2
  try clear hfz9_3
  try clear hfz9_4
  try clear hfz9_5
  obtain ⟨kq, x6_2, rfl, HA, HJ2, BK417, HB⟩ := hcut
  cases kq with
  | zero => exact absurd HA.out (by simp [order_Add.j0])
  | succ kj2 =>
   have H := HA.out
   clear HA
   simp only [order_Add.j0] at H
   by_cases c12 : x6_2 = true
   ·subst c12
    have H1 : (some (([] : List (S41)), 2)) = some (r1, r2) := by rw [if_pos rfl] at H; exact H
    clear H
    have H := H1
    clear H1
    simp only [Option.some.injEq, Prod.mk.injEq] at H
    obtain ⟨rfl, rfl⟩ := H
    go_wp2
    go_ret2
    exact ⟨_, by first | rfl | (simp [errW_none, errW_some] <;> rfl) | (simp [*, errW_none, errW_some] <;> rfl), by first | exact Kd.R_nil _ _ _ _ _ | exact Kd.N_nil _ _ _ _ _ | exact Kd.V_nil _ _ _ _ _ | exact Kd.Q_nil _ _ _ _ _ | exact Kd.S_nil _ _ _ _ _, by repeat (first | (with_reducible first | exact HB.out | apply below_alloc | apply pw_below_drewN | apply below_drew1 | refine below_set ?_ GE417.out) | exact HB.out)⟩
   ·replace c12 := Bool.eq_false_iff.mpr c12
    subst c12
    have H1 : ((order_find.f l0 a1_0).bind fun t420 => (if t420 ≥ 0 then (some (([] : List (S41)), 350)) else (if (l0.length : Int) = 500 then (some (([] : List (S41)), 4)) else ((api_Order_74.f l0).bind fun t421 => ((some (([(⟨a1_0, a1_1, a1_2, a1_3, a1_4, a1_5⟩ : S41)] : List (S41)) : List (S41))).bind fun y424 => (if t421.length + y424.length < 2932031007402 then (some ((t421 ++ y424), 0)) else (none))))))) = some (r1, r2) := by rw [if_neg (show ¬ (false = true) by decide)] at H; exact H
    clear H
    have H := H1
    clear H1
    replace H := Option.bind_eq_some_iff.mp H
    obtain ⟨t420, A130, H⟩ := H
    replace H : (if t420 ≥ 0 then (some (([] : List (S41)), 350)) else (if (l0.length : Int) = 500 then (some (([] : List (S41)), 4)) else ((api_Order_74.f l0).bind fun t421 => ((some (([(⟨a1_0, a1_1, a1_2, a1_3, a1_4, a1_5⟩ : S41)] : List (S41)) : List (S41))).bind fun y424 => (if t421.length + y424.length < 2932031007402 then (some ((t421 ++ y424), 0)) else (none)))))) = some (r1, r2) := H
    have A13 := Aside0.mk A130
    clear A130
    by_cases c14 : t420 ≥ 0
    ·rw [if_pos c14] at H
     have c14b0 : decide (0 ≤ t420) = true := decide_eq_true c14
     clear c14
     simp only [Option.some.injEq, Prod.mk.injEq] at H
     obtain ⟨rfl, rfl⟩ := H
     have hcz15_0 : wc.cell? ⟨gb417, 0, none⟩ = some (.int .i64 a1_0) := (blk_cell BK417.out 0).trans rfl
     have hcz15_1 : wc.cell? ⟨gb417, 1, none⟩ = some (.int .i64 a1_1) := (blk_cell BK417.out 1).trans rfl
     have hcz15_2 : wc.cell? ⟨gb417, 2, none⟩ = some (.int .i64 a1_2) := (blk_cell BK417.out 2).trans rfl
     have hcz15_3 : wc.cell? ⟨gb417, 3, none⟩ = some (.int .i64 a1_3) := (blk_cell BK417.out 3).trans rfl
     have hcz15_4 : wc.cell? ⟨gb417, 4, none⟩ = some (.int .i64 a1_4) := (blk_cell BK417.out 4).trans rfl
     have hcz15_5 : wc.cell? ⟨gb417, 5, none⟩ = some (.int .u8 a1_5) := (blk_cell BK417.out 5).trans rfl
     have hfz15_0 := blk_frozen BK417.out 0
     have hfz15_1 := blk_frozen BK417.out 1
     have hfz15_2 := blk_frozen BK417.out 2
     have hfz15_3 := blk_frozen BK417.out 3
     have hfz15_4 := blk_frozen BK417.out 4
     have hfz15_5 := blk_frozen BK417.out 5
     go_wp2_with (first | ((with_reducible refine gate_callee (f := 72) rfl ?_); refine goesL_ (some 19) rfl rfl Try.func72 (by kernel_rfl) rfl #[.slice A0 l0.length c0, .int .i64 a1_0] rfl (by (try simp only [List.map_toArray, List.map_cons, List.map_nil]); first | done | rfl | (simp only [List.length_drop, List.length_take]; rfl)) ?_; (with_reducible refine (order_find.calls _ _ l0 a1_0 t420 _ ?side1 ?side2 A13.out).mono ?_); (case side1 => repeat (first | exact (Kd.C_below HR0.out HB.out) | (with_reducible refine Kd.C_alloc ?_ _) | (with_reducible refine Kd.C_drewN ?_ _) | (with_reducible refine Kd.C_drew ?_))); (case side2 => exact HC0.out); rintro e w16 ⟨rfl, hb⟩; refine ⟨_, rfl, ?_⟩; have n0_ := Aside0.mk (blk_below (g := gb417) (o := .cells #[.int .i64 a1_0, .int .i64 a1_1, .int .i64 a1_2, .int .i64 a1_3, .int .i64 a1_4, .int .u8 a1_5] 41 (0, 0)) (by (with_reducible repeat (first | refine blk_drewN ?_ _ | refine blk_drew ?_ | refine blk_alloc ?_ _)); exact BK417.out) hb); have n1_ := Aside0.mk (below_step (by repeat (first | (with_reducible first | exact HB.out | apply below_alloc | apply pw_below_drewN | apply below_drew1 | refine below_set ?_ GE417.out) | exact HB.out)) hb); clear BK417; clear HB; have BK417 := n0_; have HB := n1_; clear n0_ n1_; (try clear hb); (try clear hb2); (try clear hk); (try clear hi)))
     go_ret2
     exact ⟨_, by first | rfl | (simp [errW_none, errW_some] <;> rfl) | (simp [*, errW_none, errW_some] <;> rfl), by first | exact Kd.R_nil _ _ _ _ _ | exact Kd.N_nil _ _ _ _ _ | exact Kd.V_nil _ _ _ _ _ | exact Kd.Q_nil _ _ _ _ _ | exact Kd.S_nil _ _ _ _ _, by repeat (first | (with_reducible first | exact HB.out | apply below_alloc | apply pw_below_drewN | apply below_drew1 | refine below_set ?_ GE417.out) | exact HB.out)⟩
    ·rw [if_neg c14] at H
     have c14b0 : decide (0 ≤ t420) = false := decide_eq_false c14
     clear c14
     by_cases c17 : (l0.length : Int) = 500
     ·rw [if_pos c17] at H
      have c17b0 : ((l0.length : Int) == 500) = true := beq_iff_eq.mpr c17
      have c17b1 : ((l0.length : Int) != 500) = false := bne_eq_false_iff_eq.mpr c17
      clear c17
      simp only [Option.some.injEq, Prod.mk.injEq] at H
      obtain ⟨rfl, rfl⟩ := H
      have hcz18_0 : wc.cell? ⟨gb417, 0, none⟩ = some (.int .i64 a1_0) := (blk_cell BK417.out 0).trans rfl
      have hcz18_1 : wc.cell? ⟨gb417, 1, none⟩ = some (.int .i64 a1_1) := (blk_cell BK417.out 1).trans rfl
      have hcz18_2 : wc.cell? ⟨gb417, 2, none⟩ = some (.int .i64 a1_2) := (blk_cell BK417.out 2).trans rfl
      have hcz18_3 : wc.cell? ⟨gb417, 3, none⟩ = some (.int .i64 a1_3) := (blk_cell BK417.out 3).trans rfl
      have hcz18_4 : wc.cell? ⟨gb417, 4, none⟩ = some (.int .i64 a1_4) := (blk_cell BK417.out 4).trans rfl
      have hcz18_5 : wc.cell? ⟨gb417, 5, none⟩ = some (.int .u8 a1_5) := (blk_cell BK417.out 5).trans rfl
      have hfz18_0 := blk_frozen BK417.out 0
      have hfz18_1 := blk_frozen BK417.out 1
      have hfz18_2 := blk_frozen BK417.out 2
      have hfz18_3 := blk_frozen BK417.out 3
      have hfz18_4 := blk_frozen BK417.out 4
      have hfz18_5 := blk_frozen BK417.out 5
      go_wp2_with (first | ((with_reducible refine gate_callee (f := 72) rfl ?_); refine goesL_ (some 19) rfl rfl Try.func72 (by kernel_rfl) rfl #[.slice A0 l0.length c0, .int .i64 a1_0] rfl (by (try simp only [List.map_toArray, List.map_cons, List.map_nil]); first | done | rfl | (simp only [List.length_drop, List.length_take]; rfl)) ?_; (with_reducible refine (order_find.calls _ _ l0 a1_0 t420 _ ?side1 ?side2 A13.out).mono ?_); (case side1 => repeat (first | exact (Kd.C_below HR0.out HB.out) | (with_reducible refine Kd.C_alloc ?_ _) | (with_reducible refine Kd.C_drewN ?_ _) | (with_reducible refine Kd.C_drew ?_))); (case side2 => exact HC0.out); rintro e w19 ⟨rfl, hb⟩; refine ⟨_, rfl, ?_⟩; have n0_ := Aside0.mk (blk_below (g := gb417) (o := .cells #[.int .i64 a1_0, .int .i64 a1_1, .int .i64 a1_2, .int .i64 a1_3, .int .i64 a1_4, .int .u8 a1_5] 41 (0, 0)) (by (with_reducible repeat (first | refine blk_drewN ?_ _ | refine blk_drew ?_ | refine blk_alloc ?_ _)); exact BK417.out) hb); have n1_ := Aside0.mk (below_step (by repeat (first | (with_reducible first | exact HB.out | apply below_alloc | apply pw_below_drewN | apply below_drew1 | refine below_set ?_ GE417.out) | exact HB.out)) hb); clear BK417; clear HB; have BK417 := n0_; have HB := n1_; clear n0_ n1_; (try clear hb); (try clear hb2); (try clear hk); (try clear hi)))
      go_ret2
      exact ⟨_, by first | rfl | (simp [errW_none, errW_some] <;> rfl) | (simp [*, errW_none, errW_some] <;> rfl), by first | exact Kd.R_nil _ _ _ _ _ | exact Kd.N_nil _ _ _ _ _ | exact Kd.V_nil _ _ _ _ _ | exact Kd.Q_nil _ _ _ _ _ | exact Kd.S_nil _ _ _ _ _, by repeat (first | (with_reducible first | exact HB.out | apply below_alloc | apply pw_below_drewN | apply below_drew1 | refine below_set ?_ GE417.out) | exact HB.out)⟩
     ·rw [if_neg c17] at H
      have c17b0 : ((l0.length : Int) == 500) = false := beq_eq_false_iff_ne.mpr c17
      have c17b1 : ((l0.length : Int) != 500) = true := bne_iff_ne.mpr c17
      replace H := Option.bind_eq_some_iff.mp H
      obtain ⟨t421, A200, H⟩ := H
      replace H : ((some (([(⟨a1_0, a1_1, a1_2, a1_3, a1_4, a1_5⟩ : S41)] : List (S41)) : List (S41))).bind fun y424 => (if t421.length + y424.length < 2932031007402 then (some ((t421 ++ y424), 0)) else (none))) = some (r1, r2) := H
      have A20 := Aside0.mk A200
      clear A200
      obtain ⟨y424, hy424⟩ : ∃ y_ : List (S41), y_ = (([(⟨a1_0, a1_1, a1_2, a1_3, a1_4, a1_5⟩ : S41)] : List (S41))) := ⟨_, rfl⟩
      replace H : (if t421.length + y424.length < 2932031007402 then (some ((t421 ++ y424), 0)) else (none)) = some (r1, r2) := by first | (rw [hy424]; with_reducible exact H) | (have H2_ := (Option.bind_some _ _).symm.trans H; rw [hy424]; with_reducible exact H2_) | (have H2_ := (Option.bind_some _ _).symm.trans H; with_reducible exact H2_) | with_reducible exact H | (rw [hy424]; exact H) | exact H
      have Ny424 := Aside0.mk hy424
      clear hy424
      by_cases c21 : t421.length + y424.length < 2932031007402
      ·rw [if_pos c21] at H
       have LMc21 := Aside0.mk c21
       clear c21
       obtain ⟨y427, hy427⟩ : ∃ y_ : List (S41), y_ = (t421 ++ y424) := ⟨_, rfl⟩
       replace H : (some (y427, 0)) = some (r1, r2) := by first | (rw [hy427]; with_reducible exact H) | (have H2_ := (Option.bind_some _ _).symm.trans H; rw [hy427]; with_reducible exact H2_) | (have H2_ := (Option.bind_some _ _).symm.trans H; with_reducible exact H2_) | with_reducible exact H | (rw [hy427]; exact H) | exact H
       have Ny427 := Aside0.mk hy427
       clear hy427
       simp only [Option.some.injEq, Prod.mk.injEq] at H
       obtain ⟨rfl, rfl⟩ := H
       have hcz22_0 : wc.cell? ⟨gb417, 0, none⟩ = some (.int .i64 a1_0) := (blk_cell BK417.out 0).trans rfl
       have hcz22_1 : wc.cell? ⟨gb417, 1, none⟩ = some (.int .i64 a1_1) := (blk_cell BK417.out 1).trans rfl
       have hcz22_2 : wc.cell? ⟨gb417, 2, none⟩ = some (.int .i64 a1_2) := (blk_cell BK417.out 2).trans rfl
       have hcz22_3 : wc.cell? ⟨gb417, 3, none⟩ = some (.int .i64 a1_3) := (blk_cell BK417.out 3).trans rfl
       have hcz22_4 : wc.cell? ⟨gb417, 4, none⟩ = some (.int .i64 a1_4) := (blk_cell BK417.out 4).trans rfl
       have hcz22_5 : wc.cell? ⟨gb417, 5, none⟩ = some (.int .u8 a1_5) := (blk_cell BK417.out 5).trans rfl
       have hfz22_0 := blk_frozen BK417.out 0
       have hfz22_1 := blk_frozen BK417.out 1
       have hfz22_2 := blk_frozen BK417.out 2
       have hfz22_3 := blk_frozen BK417.out 3
       have hfz22_4 := blk_frozen BK417.out 4
       have hfz22_5 := blk_frozen BK417.out 5
       try go_wp2_with (first | ((with_reducible refine gate_callee (f := 72) rfl ?_); refine goesL_ (some 19) rfl rfl Try.func72 (by kernel_rfl) rfl #[.slice A0 l0.length c0, .int .i64 a1_0] rfl (by (try simp only [List.map_toArray, List.map_cons, List.map_nil]); first | done | rfl | (simp only [List.length_drop, List.length_take]; rfl)) ?_; (with_reducible refine (order_find.calls _ _ l0 a1_0 t420 _ ?side1 ?side2 A13.out).mono ?_); (case side1 => repeat (first | exact (Kd.C_below HR0.out HB.out) | (with_reducible refine Kd.C_alloc ?_ _) | (with_reducible refine Kd.C_drewN ?_ _) | (with_reducible refine Kd.C_drew ?_))); (case side2 => exact HC0.out); rintro e w23 ⟨rfl, hb⟩; refine ⟨_, rfl, ?_⟩; have n0_ := Aside0.mk (blk_below (g := gb417) (o := .cells #[.int .i64 a1_0, .int .i64 a1_1, .int .i64 a1_2, .int .i64 a1_3, .int .i64 a1_4, .int .u8 a1_5] 41 (0, 0)) (by (with_reducible repeat (first | refine blk_drewN ?_ _ | refine blk_drew ?_ | refine blk_alloc ?_ _)); exact BK417.out) hb); have n1_ := Aside0.mk (below_step (by repeat (first | (with_reducible first | exact HB.out | apply below_alloc | apply pw_below_drewN | apply below_drew1 | refine below_set ?_ GE417.out) | exact HB.out)) hb); clear BK417; clear HB; have BK417 := n0_; have HB := n1_; clear n0_ n1_; (try clear hb); (try clear hb2); (try clear hk); (try clear hi)))
       have n0_ := Aside0.mk (blk_drew BK417.out)
       have n1_ := Aside0.mk (below_drew1 HB.out)
       clear BK417
       clear HB
       have BK417 := n0_
       have HB := n1_
       clear n0_ n1_
       refine start_ (n := 7) (S := fun w' => w'.cell? ⟨gb417, 0, none⟩ = some (.int .i64 a1_0) ∧ w'.cell? ⟨gb417, 1, none⟩ = some (.int .i64 a1_1) ∧ w'.cell? ⟨gb417, 2, none⟩ = some (.int .i64 a1_2) ∧ w'.cell? ⟨gb417, 3, none⟩ = some (.int .i64 a1_3) ∧ w'.cell? ⟨gb417, 4, none⟩ = some (.int .i64 a1_4) ∧ w'.cell? ⟨gb417, 5, none⟩ = some (.int .u8 a1_5)) (ds := []) #[false, false, false, false, false, false, false] (by kernel_rfl) rfl rfl ⟨(blk_cell BK417.out 0).trans rfl, (blk_cell BK417.out 1).trans rfl, (blk_cell BK417.out 2).trans rfl, (blk_cell BK417.out 3).trans rfl, (blk_cell BK417.out 4).trans rfl, (blk_cell BK417.out 5).trans rfl⟩ (fun hHeld => ?_)
       generalize w23.drew = w24 at BK417 HB hHeld ⊢
       refine pure_ (i := 0) (N := some 25) (v := ?_) (a' := ?_) #[true, false, false, false, false, false, false] rfl rfl (by kernel_rfl) (fun _ _ _ h => h) (Or.inl ⟨by rfl, ?_⟩) ?_ ?_
       rotate_left
       ·intro w'
        go_simp
        with_reducible rfl
       rotate_left
       ·simp only [Act.put, List.setIfInBounds_toArray, List.set_cons_zero, List.set_cons_succ, i64_w, i32_w]
        rfl
       refine take_ (i := 2) (N := some 27) (v := ?_) (a' := ?_) #[true, false, true, false, false, false, false] rfl rfl (by kernel_rfl) (fun _ _ _ h => h) (Or.inl ⟨by rfl, ?_⟩) hHeld ?_ ?_
       rotate_left
       ·rintro w' ⟨s0, s1, s2, s3, s4, s5⟩
        go_simp
        with_reducible rfl
       rotate_left
       ·simp only [Act.put, List.setIfInBounds_toArray, List.set_cons_zero, List.set_cons_succ, i64_w, i32_w]
        rfl
       refine join_ (σ := Value × Value) 3 #[true, true, true, true, false, false, false] (fun s_ => [(26, s_.1), (28, s_.2)]) (fun s_ w' => (w'.cell? ⟨gb417, 0, none⟩ = some (.int .i64 a1_0) ∧ w'.cell? ⟨gb417, 1, none⟩ = some (.int .i64 a1_1) ∧ w'.cell? ⟨gb417, 2, none⟩ = some (.int .i64 a1_2) ∧ w'.cell? ⟨gb417, 3, none⟩ = some (.int .i64 a1_3) ∧ w'.cell? ⟨gb417, 4, none⟩ = some (.int .i64 a1_4) ∧ w'.cell? ⟨gb417, 5, none⟩ = some (.int .u8 a1_5)) ∧ (Kd.R k41 41 w' w.heap.size (fun k_ => some k_ ≠ (s_.2 : Value).ownBlock ∧ k_ ≠ gb417) s_.1 t421) ∧ (Kd.R k41 41 w' w.heap.size (fun k_ => some k_ ≠ (s_.1 : Value).ownBlock ∧ k_ ≠ gb417) s_.2 y424) ∧ (w'.heap[gb417]? = some (.cells #[.int .i64 a1_0, .int .i64 a1_1, .int .i64 a1_2, .int .i64 a1_3, .int .i64 a1_4, .int .u8 a1_5] 41 (0, 0))) ∧ (Below w.heap.size w w')) ?_ ?_
       rotate_left
       ·intro hCont
        refine two_ (i := 1) (j := 3) (Ni := some 26) (Nj := some 28) #[true, true, true, false, false, false, false] #[true, false, true, true, false, false, false] rfl rfl rfl rfl (by kernel_rfl) (by decide) (by decide) (fun K hK => ?_) (fun K hK => ?_)
        ·skip
         refine goes_ Try.func74 (by kernel_rfl) rfl #[.slice A0 l0.length c0] (by rfl) rfl rfl (by (try simp only [List.map_toArray, List.map_cons, List.map_nil]); first | done | rfl | (simp only [List.length_drop, List.length_take]; rfl)) ?_
         with_reducible refine (api_Order_74.calls _ _ l0 t421 _ ?side1 ?side2 A20.out).mono ?_
         (case side1 => repeat (first | exact (Kd.C_below HR0.out HB.out) | (with_reducible refine Kd.C_alloc ?_ _) | (with_reducible refine Kd.C_drewN ?_ _) | (with_reducible refine Kd.C_drew ?_)))
         (case side2 => exact HC0.out)
         rintro e w25 ⟨v422, rfl, ho0, hb⟩
         refine ⟨_, rfl, ?_⟩
         have n0_ := Aside0.mk (Kd.R_lower (Kd.R_newB ho0 (g := gb417) (o := .cells #[.int .i64 a1_0, .int .i64 a1_1, .int .i64 a1_2, .int .i64 a1_3, .int .i64 a1_4, .int .u8 a1_5] 41 (0, 0)) (by (with_reducible repeat (first | refine blk_drewN ?_ _ | refine blk_drew ?_ | refine blk_alloc ?_ _)); exact BK417.out)) (below_size (by repeat (first | (with_reducible first | exact HB.out | apply below_alloc | apply pw_below_drewN | apply below_drew1 | refine below_set ?_ GE417.out) | exact HB.out))))
         have n1_ := Aside0.mk (blk_below (g := gb417) (o := .cells #[.int .i64 a1_0, .int .i64 a1_1, .int .i64 a1_2, .int .i64 a1_3, .int .i64 a1_4, .int .u8 a1_5] 41 (0, 0)) (by (with_reducible repeat (first | refine blk_drewN ?_ _ | refine blk_drew ?_ | refine blk_alloc ?_ _)); exact BK417.out) hb)
         have n2_ := Aside0.mk (below_step (by repeat (first | (with_reducible first | exact HB.out | apply below_alloc | apply pw_below_drewN | apply below_drew1 | refine below_set ?_ GE417.out) | exact HB.out)) hb)
         clear BK417
         clear HB
         have HO423 := n0_
         have BK417 := n1_
         have HB := n2_
         clear n0_ n1_ n2_
         (try clear hb)
         (try clear hb2)
         (try clear hk)
         (try clear hi)
         (try clear ho0)
         refine hK.out _ _ ⟨(blk_cell BK417.out 0).trans rfl, (blk_cell BK417.out 1).trans rfl, (blk_cell BK417.out 2).trans rfl, (blk_cell BK417.out 3).trans rfl, (blk_cell BK417.out 4).trans rfl, (blk_cell BK417.out 5).trans rfl⟩ (fun hHeld => ?_)
         clear hK K
         refine norm_ (a' := ?_) ?_ ?_
         rotate_left
         ·show Act.put _ (some 26) _ = _
          simp only [Act.put, List.setIfInBounds_toArray, List.set_cons_zero, List.set_cons_succ, i64_w, i32_w]
          rfl
         refine one_ (i := 3) (N := some 28) #[true, true, true, true, false, false, false] rfl rfl (by kernel_rfl) (by decide) (fun K hK => ?_)
         refine Kd.R_lit_step k41 _ 41 ?hg (N := 28) ?hd (xs := ([(⟨a1_0, a1_1, a1_2, a1_3, a1_4, a1_5⟩ : S41)] : List (S41))) (inner := [.int .i64 a1_0, .int .i64 a1_1, .int .i64 a1_2, .int .i64 a1_3, .int .i64 a1_4, .int .u8 a1_5]) (ok := fun _ => True) (okp := fun _ => True) ?hr ?hp (fun _ hk => hk) trivial (Below.refl _ _) (Nat.le_refl _) (by simp) ?_; (case hd => rfl); (case hg => rfl); (case hr => first | (go_simp; done) | (go_simp; rfl)); (case hp => exact (Reps.c6 (show Kd.M k41 _ _ _ (⟨a1_0, a1_1, a1_2, a1_3, a1_4, a1_5⟩ : S41) [.int .i64 a1_0, .int .i64 a1_1, .int .i64 a1_2, .int .i64 a1_3, .int .i64 a1_4, .int .u8 a1_5] from (k41_mkM _ _ _ (⟨a1_0, a1_1, a1_2, a1_3, a1_4, a1_5⟩ : S41) )) (Reps.none _ _)))
         intro v425 w26 ho27 hb hg_ hnew_
         clear hg_ hnew_
         (first | rw [← Ny424.out] at ho27 | (simp only [Int.reduceToNat] at ho27; rw [← Ny424.out] at ho27))
         have n0_ := Aside0.mk (Kd.R_elder' (by (with_reducible repeat (first | apply Kd.R_alloc | apply Kd.R_drewN | apply Kd.R_drew)); exact HO423.out) (Kd.R_base ho27) hb)
         have n1_ := Aside0.mk (Kd.R_lower (Kd.R_newB (Kd.R_new' ho27 (Kd.R_lt (by (with_reducible repeat (first | apply Kd.R_alloc | apply Kd.R_drewN | apply Kd.R_drew)); exact HO423.out))) (g := gb417) (o := .cells #[.int .i64 a1_0, .int .i64 a1_1, .int .i64 a1_2, .int .i64 a1_3, .int .i64 a1_4, .int .u8 a1_5] 41 (0, 0)) (by (with_reducible repeat (first | refine blk_drewN ?_ _ | refine blk_drew ?_ | refine blk_alloc ?_ _)); exact BK417.out)) (below_size (by repeat (first | (with_reducible first | exact HB.out | apply below_alloc | apply pw_below_drewN | apply below_drew1 | refine below_set ?_ GE417.out) | exact HB.out))))
         have n2_ := Aside0.mk (blk_below (g := gb417) (o := .cells #[.int .i64 a1_0, .int .i64 a1_1, .int .i64 a1_2, .int .i64 a1_3, .int .i64 a1_4, .int .u8 a1_5] 41 (0, 0)) (by (with_reducible repeat (first | refine blk_drewN ?_ _ | refine blk_drew ?_ | refine blk_alloc ?_ _)); exact BK417.out) hb)
         have n3_ := Aside0.mk (below_step (by repeat (first | (with_reducible first | exact HB.out | apply below_alloc | apply pw_below_drewN | apply below_drew1 | refine below_set ?_ GE417.out) | exact HB.out)) hb)
         clear HO423
         clear BK417
         clear HB
         have HO423 := n0_
         have HO426 := n1_
         have BK417 := n2_
         have HB := n3_
         clear n0_ n1_ n2_ n3_
         clear hb ho27
         refine hK.out _ _ ⟨(blk_cell BK417.out 0).trans rfl, (blk_cell BK417.out 1).trans rfl, (blk_cell BK417.out 2).trans rfl, (blk_cell BK417.out 3).trans rfl, (blk_cell BK417.out 4).trans rfl, (blk_cell BK417.out 5).trans rfl⟩ (fun hHeld => ?_)
         clear hK K
         refine norm_ (a' := ?_) ?_ ?_
         rotate_left
         ·show Act.put _ (some 28) _ = _
          simp only [Act.put, List.setIfInBounds_toArray, List.set_cons_zero, List.set_cons_succ, i64_w, i32_w]
          rfl
         exact norm_ (by simp only [putAll, Act.put, List.setIfInBounds_toArray, List.set_cons_zero, List.set_cons_succ]) (hCont (v422, v425) _ ⟨hHeld, (by (with_reducible repeat (first | apply Kd.R_alloc | apply Kd.R_drewN | apply Kd.R_drew)); exact Kd.R_mono HO423.out (fun _ hk => ⟨hk.2, hk.1.2⟩)), (by (with_reducible repeat (first | apply Kd.R_alloc | apply Kd.R_drewN | apply Kd.R_drew)); exact Kd.R_mono HO426.out (fun _ hk => ⟨hk.1.2, hk.2⟩)), (by (with_reducible repeat (first | refine blk_drewN ?_ _ | refine blk_drew ?_ | refine blk_alloc ?_ _)); exact BK417.out), (by repeat (first | (with_reducible first | exact HB.out | apply below_alloc | apply pw_below_drewN | apply below_drew1 | refine below_set ?_ GE417.out) | exact HB.out))⟩)
        ·skip
         refine Kd.R_lit_step k41 _ 41 ?hg (N := 28) ?hd (xs := ([(⟨a1_0, a1_1, a1_2, a1_3, a1_4, a1_5⟩ : S41)] : List (S41))) (inner := [.int .i64 a1_0, .int .i64 a1_1, .int .i64 a1_2, .int .i64 a1_3, .int .i64 a1_4, .int .u8 a1_5]) (ok := fun _ => True) (okp := fun _ => True) ?hr ?hp (fun _ hk => hk) trivial (Below.refl _ _) (Nat.le_refl _) (by simp) ?_; (case hd => rfl); (case hg => rfl); (case hr => first | (go_simp; done) | (go_simp; rfl)); (case hp => exact (Reps.c6 (show Kd.M k41 _ _ _ (⟨a1_0, a1_1, a1_2, a1_3, a1_4, a1_5⟩ : S41) [.int .i64 a1_0, .int .i64 a1_1, .int .i64 a1_2, .int .i64 a1_3, .int .i64 a1_4, .int .u8 a1_5] from (k41_mkM _ _ _ (⟨a1_0, a1_1, a1_2, a1_3, a1_4, a1_5⟩ : S41) )) (Reps.none _ _)))
         intro v425 w25 ho26 hb hg_ hnew_
         clear hg_ hnew_
         (first | rw [← Ny424.out] at ho26 | (simp only [Int.reduceToNat] at ho26; rw [← Ny424.out] at ho26))
         have n0_ := Aside0.mk (Kd.R_lower (Kd.R_newB ho26 (g := gb417) (o := .cells #[.int .i64 a1_0, .int .i64 a1_1, .int .i64 a1_2, .int .i64 a1_3, .int .i64 a1_4, .int .u8 a1_5] 41 (0, 0)) (by (with_reducible repeat (first | refine blk_drewN ?_ _ | refine blk_drew ?_ | refine blk_alloc ?_ _)); exact BK417.out)) (below_size (by repeat (first | (with_reducible first | exact HB.out | apply below_alloc | apply pw_below_drewN | apply below_drew1 | refine below_set ?_ GE417.out) | exact HB.out))))
         have n1_ := Aside0.mk (blk_below (g := gb417) (o := .cells #[.int .i64 a1_0, .int .i64 a1_1, .int .i64 a1_2, .int .i64 a1_3, .int .i64 a1_4, .int .u8 a1_5] 41 (0, 0)) (by (with_reducible repeat (first | refine blk_drewN ?_ _ | refine blk_drew ?_ | refine blk_alloc ?_ _)); exact BK417.out) hb)
         have n2_ := Aside0.mk (below_step (by repeat (first | (with_reducible first | exact HB.out | apply below_alloc | apply pw_below_drewN | apply below_drew1 | refine below_set ?_ GE417.out) | exact HB.out)) hb)
         clear BK417
         clear HB
         have HO426 := n0_
         have BK417 := n1_
         have HB := n2_
         clear n0_ n1_ n2_
         clear hb ho26
         refine hK.out _ _ ⟨(blk_cell BK417.out 0).trans rfl, (blk_cell BK417.out 1).trans rfl, (blk_cell BK417.out 2).trans rfl, (blk_cell BK417.out 3).trans rfl, (blk_cell BK417.out 4).trans rfl, (blk_cell BK417.out 5).trans rfl⟩ (fun hHeld => ?_)
         clear hK K
         refine norm_ (a' := ?_) ?_ ?_
         rotate_left
         ·show Act.put _ (some 28) _ = _
          simp only [Act.put, List.setIfInBounds_toArray, List.set_cons_zero, List.set_cons_succ, i64_w, i32_w]
          rfl
         refine one_ (i := 1) (N := some 26) #[true, true, true, true, false, false, false] rfl rfl (by kernel_rfl) (by decide) (fun K hK => ?_)
         refine goes_ Try.func74 (by kernel_rfl) rfl #[.slice A0 l0.length c0] (by rfl) rfl rfl (by (try simp only [List.map_toArray, List.map_cons, List.map_nil]); first | done | rfl | (simp only [List.length_drop, List.length_take]; rfl)) ?_
         with_reducible refine (api_Order_74.calls _ _ l0 t421 _ ?side1 ?side2 A20.out).mono ?_
         (case side1 => repeat (first | exact (Kd.C_below HR0.out HB.out) | (with_reducible refine Kd.C_alloc ?_ _) | (with_reducible refine Kd.C_drewN ?_ _) | (with_reducible refine Kd.C_drew ?_)))
         (case side2 => exact HC0.out)
         rintro e w27 ⟨v422, rfl, ho0, hb⟩
         refine ⟨_, rfl, ?_⟩
         have n0_ := Aside0.mk (Kd.R_elder' (by (with_reducible repeat (first | apply Kd.R_alloc | apply Kd.R_drewN | apply Kd.R_drew)); exact HO426.out) (Kd.R_base ho0) hb)
         have n1_ := Aside0.mk (Kd.R_lower (Kd.R_newB (Kd.R_new' ho0 (Kd.R_lt (by (with_reducible repeat (first | apply Kd.R_alloc | apply Kd.R_drewN | apply Kd.R_drew)); exact HO426.out))) (g := gb417) (o := .cells #[.int .i64 a1_0, .int .i64 a1_1, .int .i64 a1_2, .int .i64 a1_3, .int .i64 a1_4, .int .u8 a1_5] 41 (0, 0)) (by (with_reducible repeat (first | refine blk_drewN ?_ _ | refine blk_drew ?_ | refine blk_alloc ?_ _)); exact BK417.out)) (below_size (by repeat (first | (with_reducible first | exact HB.out | apply below_alloc | apply pw_below_drewN | apply below_drew1 | refine below_set ?_ GE417.out) | exact HB.out))))
         have n2_ := Aside0.mk (blk_below (g := gb417) (o := .cells #[.int .i64 a1_0, .int .i64 a1_1, .int .i64 a1_2, .int .i64 a1_3, .int .i64 a1_4, .int .u8 a1_5] 41 (0, 0)) (by (with_reducible repeat (first | refine blk_drewN ?_ _ | refine blk_drew ?_ | refine blk_alloc ?_ _)); exact BK417.out) hb)
         have n3_ := Aside0.mk (below_step (by repeat (first | (with_reducible first | exact HB.out | apply below_alloc | apply pw_below_drewN | apply below_drew1 | refine below_set ?_ GE417.out) | exact HB.out)) hb)
         clear HO426
         clear BK417
         clear HB
         have HO426 := n0_
         have HO423 := n1_
         have BK417 := n2_
         have HB := n3_
         clear n0_ n1_ n2_ n3_
         (try clear hb)
         (try clear hb2)
         (try clear hk)
         (try clear hi)
         (try clear ho0)
         refine hK.out _ _ ⟨(blk_cell BK417.out 0).trans rfl, (blk_cell BK417.out 1).trans rfl, (blk_cell BK417.out 2).trans rfl, (blk_cell BK417.out 3).trans rfl, (blk_cell BK417.out 4).trans rfl, (blk_cell BK417.out 5).trans rfl⟩ (fun hHeld => ?_)
         clear hK K
         refine norm_ (a' := ?_) ?_ ?_
         rotate_left
         ·show Act.put _ (some 26) _ = _
          simp only [Act.put, List.setIfInBounds_toArray, List.set_cons_zero, List.set_cons_succ, i64_w, i32_w]
          rfl
         exact norm_ (by simp only [putAll, Act.put, List.setIfInBounds_toArray, List.set_cons_zero, List.set_cons_succ]) (hCont (v422, v425) _ ⟨hHeld, (by (with_reducible repeat (first | apply Kd.R_alloc | apply Kd.R_drewN | apply Kd.R_drew)); exact Kd.R_mono HO423.out (fun _ hk => ⟨hk.1.2, hk.2⟩)), (by (with_reducible repeat (first | apply Kd.R_alloc | apply Kd.R_drewN | apply Kd.R_drew)); exact Kd.R_mono HO426.out (fun _ hk => ⟨hk.2, hk.1.2⟩)), (by (with_reducible repeat (first | refine blk_drewN ?_ _ | refine blk_drew ?_ | refine blk_alloc ?_ _)); exact BK417.out), (by repeat (first | (with_reducible first | exact HB.out | apply below_alloc | apply pw_below_drewN | apply below_drew1 | refine below_set ?_ GE417.out) | exact HB.out))⟩)
       rintro ⟨v422, v425⟩ w28 ⟨hS_, h0_, h1_, h2_, h3_⟩
       have n0_ : Aside0 (Kd.R k41 41 w28 w.heap.size (fun k_ => some k_ ≠ (v425 : Value).ownBlock ∧ k_ ≠ gb417) v422 t421) := ⟨h0_⟩
       have n1_ : Aside0 (Kd.R k41 41 w28 w.heap.size (fun k_ => some k_ ≠ (v422 : Value).ownBlock ∧ k_ ≠ gb417) v425 y424) := ⟨h1_⟩
       have n2_ : Aside0 (w28.heap[gb417]? = some (.cells #[.int .i64 a1_0, .int .i64 a1_1, .int .i64 a1_2, .int .i64 a1_3, .int .i64 a1_4, .int .u8 a1_5] 41 (0, 0))) := ⟨h2_⟩
       have n3_ : Aside0 (Below w.heap.size w w28) := ⟨h3_⟩
       clear BK417
       clear HB
       clear h0_ h1_ h2_ h3_
       have HO423 := n0_
       have HO426 := n1_
       have BK417 := n2_
       have HB := n3_
       clear n0_ n1_ n2_ n3_
       have hHeld : w28.cell? ⟨gb417, 0, none⟩ = some (.int .i64 a1_0) ∧ w28.cell? ⟨gb417, 1, none⟩ = some (.int .i64 a1_1) ∧ w28.cell? ⟨gb417, 2, none⟩ = some (.int .i64 a1_2) ∧ w28.cell? ⟨gb417, 3, none⟩ = some (.int .i64 a1_3) ∧ w28.cell? ⟨gb417, 4, none⟩ = some (.int .i64 a1_4) ∧ w28.cell? ⟨gb417, 5, none⟩ = some (.int .u8 a1_5) := hS_
       obtain ⟨Ao30, co30, eo30⟩ := Kd.R_slice HO426.out
       (first | subst eo30 | (injection eo30 with f1_ f2_ f3_; have f4_ := f1_.symm; have f5_ := f3_.symm; clear f1_ f2_ f3_; subst f4_; subst f5_))
       refine norm_ (a' := ?_) ?_ ?_
       rotate_left
       ·simp only [putAll, Act.put, List.setIfInBounds_toArray, List.set_cons_zero, List.set_cons_succ]
        rfl
       refine one_ (i := 4) (N := some 29) #[true, true, true, true, true, false, false] rfl rfl (by kernel_rfl) (by decide) (fun K hK => ?_)
       refine Kd.R_append_rows_step k41 (w0 := w) w.heap.size (by rfl) (.tmp 26) (.tmp 28) 24 41 (.agg #[(.int .i64 0), (.int .i64 0), (.int .i64 0), (.int .i64 0), (.int .i64 0), (.int .u8 0)]) 48 rfl Try.underlying24 info41 rfl (by decide) (by omega) v422 t421 y424 _ _ _ (fun k_ => some k_ ≠ (.slice Ao30 y424.length co30 : Value).ownBlock ∧ k_ ≠ gb417) (fun _ => False) rfl rfl ?aO ?aR (fun _ _ h => h) (fun _ h => h.elim) ?aF ?aB ?aS ?aL ?_
       (case aR => repeat (first | exact (Kd.R_reads' HO426.out).2.2 | (with_reducible refine Kd.C_alloc ?_ _) | (with_reducible refine Kd.C_drewN ?_ _) | (with_reducible refine Kd.C_drew ?_)))
       (case aB => exact (by repeat (first | (with_reducible first | exact HB.out | apply below_alloc | apply pw_below_drewN | apply below_drew1 | refine below_set ?_ GE417.out) | exact HB.out)))
       (case aF => exact (fun k_ hk => ⟨Kd.fresh' (Kd.R_lt (by (with_reducible repeat (first | apply Kd.R_alloc | apply Kd.R_drewN | apply Kd.R_drew)); exact HO426.out)) k_ hk, Kd.freshB (g := gb417) (o := .cells #[.int .i64 a1_0, .int .i64 a1_1, .int .i64 a1_2, .int .i64 a1_3, .int .i64 a1_4, .int .u8 a1_5] 41 (0, 0)) (by (with_reducible repeat (first | refine blk_drewN ?_ _ | refine blk_drew ?_ | refine blk_alloc ?_ _)); exact BK417.out) k_ hk⟩))
       (case aO => exact (by (with_reducible repeat (first | apply Kd.R_alloc | apply Kd.R_drewN | apply Kd.R_drew)); exact HO423.out))
       (case aS => exact (below_size (by repeat (first | (with_reducible first | exact HB.out | apply below_alloc | apply pw_below_drewN | apply below_drew1 | refine below_set ?_ GE417.out) | exact HB.out))))
       (case aL => have := LMc21.out; omega)
       intro v428 w29 ho hb hg hat
       rw [← Ny427.out] at ho
       have n0_ := Aside0.mk (blk_grown (g := gb417) (o := .cells #[.int .i64 a1_0, .int .i64 a1_1, .int .i64 a1_2, .int .i64 a1_3, .int .i64 a1_4, .int .u8 a1_5] 41 (0, 0)) (by (with_reducible repeat (first | refine blk_drewN ?_ _ | refine blk_drew ?_ | refine blk_alloc ?_ _)); exact BK417.out) hg (Kd.R_away HO423.out (fun _ hk => hk.2)))
       have n1_ := Aside0.mk (Kd.R_after (ok := (fun k_ => k_ ≠ gb417)) (by (with_reducible repeat (first | apply Kd.R_alloc | apply Kd.R_drewN | apply Kd.R_drew)); exact Kd.R_mono HO426.out (fun _ hk => ⟨hk.2, hk.1⟩)) hg hat)
       have n2_ := Aside0.mk (hb)
       have n3_ := Aside0.mk (ho)
       clear BK417
       clear HO426
       clear HB
       clear HO423
       have BK417 := n0_
       have HO426 := n1_
       have HB := n2_
       have HO429 := n3_
       clear n0_ n1_ n2_ n3_
       clear ho hb hg hat
       refine hK.out _ _ ⟨(blk_cell BK417.out 0).trans rfl, (blk_cell BK417.out 1).trans rfl, (blk_cell BK417.out 2).trans rfl, (blk_cell BK417.out 3).trans rfl, (blk_cell BK417.out 4).trans rfl, (blk_cell BK417.out 5).trans rfl⟩ (fun hHeld => ?_)
       clear hK K
       refine norm_ (a' := ?_) ?_ ?_
       rotate_left
       ·show Act.put _ (some 29) _ = _
        simp only [Act.put, List.setIfInBounds_toArray, List.set_cons_zero, List.set_cons_succ, i64_w, i32_w]
        rfl
       refine pure_ (i := 5) (N := some 4) (v := ?_) (a' := ?_) #[true, true, true, true, true, true, false] rfl rfl (by kernel_rfl) (fun _ _ _ h => h) (Or.inl ⟨by rfl, ?_⟩) ?_ ?_
       rotate_left
       ·intro w'
        go_simp
        with_reducible rfl
       rotate_left
       ·simp only [Act.put, List.setIfInBounds_toArray, List.set_cons_zero, List.set_cons_succ, i64_w, i32_w]
        rfl
       refine pure_ (i := 6) (N := some 5) (v := ?_) (a' := ?_) #[true, true, true, true, true, true, true] rfl rfl (by kernel_rfl) (fun _ _ _ h => h) (Or.inl ⟨by rfl, ?_⟩) ?_ ?_
       rotate_left
       ·intro w'
        go_simp
        with_reducible rfl
       rotate_left
       ·simp only [Act.put, List.setIfInBounds_toArray, List.set_cons_zero, List.set_cons_succ, i64_w, i32_w]
        rfl
       refine done_ (by kernel_rfl) ?_
       try go_wp2
       go_ret2
       exact ⟨_, by first | rfl | (simp [errW_none, errW_some] <;> rfl) | (simp [*, errW_none, errW_some] <;> rfl), by (with_reducible repeat (first | apply Kd.R_alloc | apply Kd.R_drewN | apply Kd.R_drew)); exact Kd.R_mono HO429.out (fun _ hk => trivial), by repeat (first | (with_reducible first | exact HB.out | apply below_alloc | apply pw_below_drewN | apply below_drew1 | refine below_set ?_ GE417.out) | exact HB.out)⟩
      ·rw [if_neg c21] at H
       exact absurd H (by simp)
end Go.Proofs.Ytgffddbhnggllaa.QF
namespace Go.Proofs.Ytgffddbhnggllaa.QF
open Go.RowKit Go.Proofs.YtgffddbhnggllaaW.PrintWords Go.Proofs.YtgffddbhnggllaaW.PrintLast Go.Proofs.YtgffddbhnggllaaW.PrintMore
attribute [local go_sem] max2_int min2_int max_two min_two max_three min_three max_four min_four
set_option linter.unusedVariables false
set_option linter.unusedSimpArgs false
mutual
def letterbaglaw35_OrderChanges.j0 : Nat → Int → Int → List (S41) → Int → Int → Int → Int → Int → Int → Option (Bool)
 | 0, _, _, _, _, _, _, _, _, _ => none
 | k + 1, x2, x3, x9, x444000, x444001, x444002, x444003, x444004, x444005 => (order_Add.f k x9 x444000 x444001 x444002 x444003 x444004 x444005).bind fun bt444 => ((letterbaglaw35_in.f x9 (wrap64 (1 + (Int.tmod (wrap64 (x2)) 6))) (Int.tmod (wrap64 (x3)) 110)).bind fun bt448 => ((letterbaglaw35_in.f bt444.1 (wrap64 (1 + (Int.tmod (wrap64 (x2)) 6))) (Int.tmod (wrap64 (x3)) 110)).bind fun bt450 => (if bt444.2 = 0 then (if bt448.2 = true then (letterbaglaw35_OrderChanges.j1 k x9 (wrap64 (1 + (Int.tmod (wrap64 (x2)) 6))) (Int.tmod (wrap64 (x3)) 110) bt444.1 bt448.1 bt450.1 (!bt450.2) x444000 x444001 x444002 x444003 x444004 x444005) else (letterbaglaw35_OrderChanges.j1 k x9 (wrap64 (1 + (Int.tmod (wrap64 (x2)) 6))) (Int.tmod (wrap64 (x3)) 110) bt444.1 bt448.1 bt450.1 true x444000 x444001 x444002 x444003 x444004 x444005)) else (letterbaglaw35_OrderChanges.j1 k x9 (wrap64 (1 + (Int.tmod (wrap64 (x2)) 6))) (Int.tmod (wrap64 (x3)) 110) bt444.1 bt448.1 bt450.1 true x444000 x444001 x444002 x444003 x444004 x444005))))
def letterbaglaw35_OrderChanges.j1 : Nat → List (S41) → Int → Int → List (S41) → Int → Int → Bool → Int → Int → Int → Int → Int → Int → Option (Bool)
 | 0, _, _, _, _, _, _, _, _, _, _, _, _, _ => none
 | k + 1, x9, x11, x12, x13, x15, x17, x75, x444000, x444001, x444002, x444003, x444004, x444005 => if x75 = true then (some false) else (if x444001 = x11 then (if x444003 ≤ x12 then (if x444005 = 1 then (letterbaglaw35_OrderChanges.j2 k x9 x13 x15 x17 true x444000 x444001 x444002 x444003 x444004 x444005) else (letterbaglaw35_OrderChanges.j2 k x9 x13 x15 x17 (decide (x12 ≤ x444004)) x444000 x444001 x444002 x444003 x444004 x444005)) else (letterbaglaw35_OrderChanges.j2 k x9 x13 x15 x17 false x444000 x444001 x444002 x444003 x444004 x444005)) else (letterbaglaw35_OrderChanges.j2 k x9 x13 x15 x17 false x444000 x444001 x444002 x444003 x444004 x444005))
def letterbaglaw35_OrderChanges.j2 : Nat → List (S41) → List (S41) → Int → Int → Bool → Int → Int → Int → Int → Int → Int → Option (Bool)
 | 0, _, _, _, _, _, _, _, _, _, _, _ => none
 | k + 1, x9, x13, x15, x17, x19, x444000, x444001, x444002, x444003, x444004, x444005 => if x17 = x15 then (letterbaglaw35_OrderChanges.j3 k x9 x13 x15 x17 x19 false x444000 x444001 x444002 x444003 x444004 x444005) else (if x19 = true then (letterbaglaw35_OrderChanges.j3 k x9 x13 x15 x17 x19 (!(x17 == x444000)) x444000 x444001 x444002 x444003 x444004 x444005) else (letterbaglaw35_OrderChanges.j3 k x9 x13 x15 x17 x19 (!false) x444000 x444001 x444002 x444003 x444004 x444005))
def letterbaglaw35_OrderChanges.j3 : Nat → List (S41) → List (S41) → Int → Int → Bool → Bool → Int → Int → Int → Int → Int → Int → Option (Bool)
 | 0, _, _, _, _, _, _, _, _, _, _, _, _ => none
 | k + 1, x9, x13, x15, x17, x19, x109, x444000, x444001, x444002, x444003, x444004, x444005 => if x109 = true then (some false) else (if x19 = true then (if x15 = 0 then (letterbaglaw35_OrderChanges.j4 k x9 x13 (x17 != x444000) x444000 x444001 x444002 x444003 x444004 x444005) else (letterbaglaw35_OrderChanges.j4 k x9 x13 false x444000 x444001 x444002 x444003 x444004 x444005)) else (letterbaglaw35_OrderChanges.j4 k x9 x13 false x444000 x444001 x444002 x444003 x444004 x444005))
def letterbaglaw35_OrderChanges.j4 : Nat → List (S41) → List (S41) → Bool → Int → Int → Int → Int → Int → Int → Option (Bool)
 | 0, _, _, _, _, _, _, _, _, _ => none
 | k + 1, x9, x13, x120, x444000, x444001, x444002, x444003, x444004, x444005 => if x120 = true then (some false) else ((order_Cancel.f x13 x444000).bind fun bt452 => (if bt452.2 = 0 then ((letterbagkit_SameOrders.f k bt452.1 x9).bind fun t456 => (if t456 = true then ((letterbaglaw35_awake.f).bind fun t457 => (some t457)) else (some false))) else (some false)))
end
def letterbaglaw35_OrderChanges.f (k : Nat) (l0 : List (S72)) (a1_0 : Int) (a1_1 : Int) (a1_2 : Int) (a1_3 : Int) (a1_4 : Int) (a2 : Int) (a3 : Int) : Option (Bool) := (letterbaglaw35_Built.f k l0).bind fun t433 => ((letterbaglaw35_Built.f k (([(⟨a1_0, a1_1, a1_2, a1_3, a1_4⟩ : S72)] : List (S72)))).bind fun t439 => (if 0 < (t439.length : Int) then (if (Int.tmod a1_4 2) = 0 then (letterbaglaw35_OrderChanges.j0 k a2 a3 t433 (wrap64 (999 - (wrap64 (a1_4)))) ((rd_T41 t439 0).f1) ((rd_T41 t439 0).f2) ((rd_T41 t439 0).f3) ((rd_T41 t439 0).f4) ((rd_T41 t439 0).f5)) else (letterbaglaw35_OrderChanges.j0 k a2 a3 t433 1000 ((rd_T41 t439 0).f1) ((rd_T41 t439 0).f2) ((rd_T41 t439 0).f3) ((rd_T41 t439 0).f4) ((rd_T41 t439 0).f5))) else (none)))
theorem letterbaglaw35_OrderChanges.mono_l : ∀ k, (∀ y0 y1 y2 y3 y4 y5 y6 y7 y8, LeO (letterbaglaw35_OrderChanges.j0 k y0 y1 y2 y3 y4 y5 y6 y7 y8) (letterbaglaw35_OrderChanges.j0 (k + 1) y0 y1 y2 y3 y4 y5 y6 y7 y8)) ∧ (∀ y0 y1 y2 y3 y4 y5 y6 y7 y8 y9 y10 y11 y12, LeO (letterbaglaw35_OrderChanges.j1 k y0 y1 y2 y3 y4 y5 y6 y7 y8 y9 y10 y11 y12) (letterbaglaw35_OrderChanges.j1 (k + 1) y0 y1 y2 y3 y4 y5 y6 y7 y8 y9 y10 y11 y12)) ∧ (∀ y0 y1 y2 y3 y4 y5 y6 y7 y8 y9 y10, LeO (letterbaglaw35_OrderChanges.j2 k y0 y1 y2 y3 y4 y5 y6 y7 y8 y9 y10) (letterbaglaw35_OrderChanges.j2 (k + 1) y0 y1 y2 y3 y4 y5 y6 y7 y8 y9 y10)) ∧ (∀ y0 y1 y2 y3 y4 y5 y6 y7 y8 y9 y10 y11, LeO (letterbaglaw35_OrderChanges.j3 k y0 y1 y2 y3 y4 y5 y6 y7 y8 y9 y10 y11) (letterbaglaw35_OrderChanges.j3 (k + 1) y0 y1 y2 y3 y4 y5 y6 y7 y8 y9 y10 y11)) ∧ (∀ y0 y1 y2 y3 y4 y5 y6 y7 y8, LeO (letterbaglaw35_OrderChanges.j4 k y0 y1 y2 y3 y4 y5 y6 y7 y8) (letterbaglaw35_OrderChanges.j4 (k + 1) y0 y1 y2 y3 y4 y5 y6 y7 y8))
 | 0 => ⟨fun _ _ _ _ _ _ _ _ _ r h => by simp [letterbaglaw35_OrderChanges.j0] at h, fun _ _ _ _ _ _ _ _ _ _ _ _ _ r h => by simp [letterbaglaw35_OrderChanges.j1] at h, fun _ _ _ _ _ _ _ _ _ _ _ r h => by simp [letterbaglaw35_OrderChanges.j2] at h, fun _ _ _ _ _ _ _ _ _ _ _ _ r h => by simp [letterbaglaw35_OrderChanges.j3] at h, fun _ _ _ _ _ _ _ _ _ r h => by simp [letterbaglaw35_OrderChanges.j4] at h⟩
 | k + 1 => by
  obtain ⟨ih0, ih1, ih2, ih3, ih4⟩ := letterbaglaw35_OrderChanges.mono_l k
  refine ⟨?_, ?_, ?_, ?_, ?_⟩
  ·intro y0 y1 y2 y3 y4 y5 y6 y7 y8
   unfold letterbaglaw35_OrderChanges.j0
   repeat' first
   | (with_reducible exact ih0 _ _ _ _ _ _ _ _ _)
   | (with_reducible exact ih1 _ _ _ _ _ _ _ _ _ _ _ _ _)
   | (with_reducible exact ih2 _ _ _ _ _ _ _ _ _ _ _)
   | (with_reducible exact ih3 _ _ _ _ _ _ _ _ _ _ _ _)
   | (with_reducible exact ih4 _ _ _ _ _ _ _ _ _)
   | (with_reducible exact letterbagkit_SameOrders.mono _ _ _)
   | (with_reducible exact letterbaglaw35_Built.mono _ _)
   | (with_reducible exact order_Add.mono _ _ _ _ _ _ _ _)
   | (with_reducible exact LeO.refl _)
   | (with_reducible exact LeO.none _)
   | (with_reducible refine LeO.ite ?_ ?_)
   | (with_reducible refine LeO.bind ?_ (fun _ => ?_))
   | exact ih0 _ _ _ _ _ _ _ _ _
   | exact ih1 _ _ _ _ _ _ _ _ _ _ _ _ _
   | exact ih2 _ _ _ _ _ _ _ _ _ _ _
   | exact ih3 _ _ _ _ _ _ _ _ _ _ _ _
   | exact ih4 _ _ _ _ _ _ _ _ _
   | exact letterbagkit_SameOrders.mono _ _ _
   | exact letterbaglaw35_Built.mono _ _
   | exact order_Add.mono _ _ _ _ _ _ _ _
   | exact LeO.none _
   | refine LeO.ite ?_ ?_
   | refine LeO.bind ?_ (fun _ => ?_)
  ·intro y0 y1 y2 y3 y4 y5 y6 y7 y8 y9 y10 y11 y12
   unfold letterbaglaw35_OrderChanges.j1
   repeat' first
   | (with_reducible exact ih0 _ _ _ _ _ _ _ _ _)
   | (with_reducible exact ih1 _ _ _ _ _ _ _ _ _ _ _ _ _)
   | (with_reducible exact ih2 _ _ _ _ _ _ _ _ _ _ _)
   | (with_reducible exact ih3 _ _ _ _ _ _ _ _ _ _ _ _)
   | (with_reducible exact ih4 _ _ _ _ _ _ _ _ _)
   | (with_reducible exact letterbagkit_SameOrders.mono _ _ _)
   | (with_reducible exact letterbaglaw35_Built.mono _ _)
   | (with_reducible exact order_Add.mono _ _ _ _ _ _ _ _)
   | (with_reducible exact LeO.refl _)
   | (with_reducible exact LeO.none _)
   | (with_reducible refine LeO.ite ?_ ?_)
   | (with_reducible refine LeO.bind ?_ (fun _ => ?_))
   | exact ih0 _ _ _ _ _ _ _ _ _
   | exact ih1 _ _ _ _ _ _ _ _ _ _ _ _ _
   | exact ih2 _ _ _ _ _ _ _ _ _ _ _
   | exact ih3 _ _ _ _ _ _ _ _ _ _ _ _
   | exact ih4 _ _ _ _ _ _ _ _ _
   | exact letterbagkit_SameOrders.mono _ _ _
   | exact letterbaglaw35_Built.mono _ _
   | exact order_Add.mono _ _ _ _ _ _ _ _
   | exact LeO.none _
   | refine LeO.ite ?_ ?_
   | refine LeO.bind ?_ (fun _ => ?_)
  ·intro y0 y1 y2 y3 y4 y5 y6 y7 y8 y9 y10
   unfold letterbaglaw35_OrderChanges.j2
   repeat' first
   | (with_reducible exact ih0 _ _ _ _ _ _ _ _ _)
   | (with_reducible exact ih1 _ _ _ _ _ _ _ _ _ _ _ _ _)
   | (with_reducible exact ih2 _ _ _ _ _ _ _ _ _ _ _)
   | (with_reducible exact ih3 _ _ _ _ _ _ _ _ _ _ _ _)
   | (with_reducible exact ih4 _ _ _ _ _ _ _ _ _)
   | (with_reducible exact letterbagkit_SameOrders.mono _ _ _)
   | (with_reducible exact letterbaglaw35_Built.mono _ _)
   | (with_reducible exact order_Add.mono _ _ _ _ _ _ _ _)
   | (with_reducible exact LeO.refl _)
   | (with_reducible exact LeO.none _)
   | (with_reducible refine LeO.ite ?_ ?_)
   | (with_reducible refine LeO.bind ?_ (fun _ => ?_))
   | exact ih0 _ _ _ _ _ _ _ _ _
   | exact ih1 _ _ _ _ _ _ _ _ _ _ _ _ _
   | exact ih2 _ _ _ _ _ _ _ _ _ _ _
   | exact ih3 _ _ _ _ _ _ _ _ _ _ _ _
   | exact ih4 _ _ _ _ _ _ _ _ _
   | exact letterbagkit_SameOrders.mono _ _ _
   | exact letterbaglaw35_Built.mono _ _
   | exact order_Add.mono _ _ _ _ _ _ _ _
   | exact LeO.none _
   | refine LeO.ite ?_ ?_
   | refine LeO.bind ?_ (fun _ => ?_)
  ·intro y0 y1 y2 y3 y4 y5 y6 y7 y8 y9 y10 y11
   unfold letterbaglaw35_OrderChanges.j3
   repeat' first
   | (with_reducible exact ih0 _ _ _ _ _ _ _ _ _)
   | (with_reducible exact ih1 _ _ _ _ _ _ _ _ _ _ _ _ _)
   | (with_reducible exact ih2 _ _ _ _ _ _ _ _ _ _ _)
   | (with_reducible exact ih3 _ _ _ _ _ _ _ _ _ _ _ _)
   | (with_reducible exact ih4 _ _ _ _ _ _ _ _ _)
   | (with_reducible exact letterbagkit_SameOrders.mono _ _ _)
   | (with_reducible exact letterbaglaw35_Built.mono _ _)
   | (with_reducible exact order_Add.mono _ _ _ _ _ _ _ _)
   | (with_reducible exact LeO.refl _)
   | (with_reducible exact LeO.none _)
   | (with_reducible refine LeO.ite ?_ ?_)
   | (with_reducible refine LeO.bind ?_ (fun _ => ?_))
   | exact ih0 _ _ _ _ _ _ _ _ _
   | exact ih1 _ _ _ _ _ _ _ _ _ _ _ _ _
   | exact ih2 _ _ _ _ _ _ _ _ _ _ _
   | exact ih3 _ _ _ _ _ _ _ _ _ _ _ _
   | exact ih4 _ _ _ _ _ _ _ _ _
   | exact letterbagkit_SameOrders.mono _ _ _
   | exact letterbaglaw35_Built.mono _ _
   | exact order_Add.mono _ _ _ _ _ _ _ _
   | exact LeO.none _
   | refine LeO.ite ?_ ?_
   | refine LeO.bind ?_ (fun _ => ?_)
  ·intro y0 y1 y2 y3 y4 y5 y6 y7 y8
   unfold letterbaglaw35_OrderChanges.j4
   repeat' first
   | (with_reducible exact ih0 _ _ _ _ _ _ _ _ _)
   | (with_reducible exact ih1 _ _ _ _ _ _ _ _ _ _ _ _ _)
   | (with_reducible exact ih2 _ _ _ _ _ _ _ _ _ _ _)
   | (with_reducible exact ih3 _ _ _ _ _ _ _ _ _ _ _ _)
   | (with_reducible exact ih4 _ _ _ _ _ _ _ _ _)
   | (with_reducible exact letterbagkit_SameOrders.mono _ _ _)
   | (with_reducible exact letterbaglaw35_Built.mono _ _)
   | (with_reducible exact order_Add.mono _ _ _ _ _ _ _ _)
   | (with_reducible exact LeO.refl _)
   | (with_reducible exact LeO.none _)
   | (with_reducible refine LeO.ite ?_ ?_)
   | (with_reducible refine LeO.bind ?_ (fun _ => ?_))
   | exact ih0 _ _ _ _ _ _ _ _ _
   | exact ih1 _ _ _ _ _ _ _ _ _ _ _ _ _
   | exact ih2 _ _ _ _ _ _ _ _ _ _ _
   | exact ih3 _ _ _ _ _ _ _ _ _ _ _ _
   | exact ih4 _ _ _ _ _ _ _ _ _
   | exact letterbagkit_SameOrders.mono _ _ _
   | exact letterbaglaw35_Built.mono _ _
   | exact order_Add.mono _ _ _ _ _ _ _ _
   | exact LeO.none _
   | refine LeO.ite ?_ ?_
   | refine LeO.bind ?_ (fun _ => ?_)
theorem letterbaglaw35_OrderChanges.mono : ∀ a0 a1 a2 a3 a4 a5 a6 a7 k, LeO (letterbaglaw35_OrderChanges.f k a0 a1 a2 a3 a4 a5 a6 a7) (letterbaglaw35_OrderChanges.f (k + 1) a0 a1 a2 a3 a4 a5 a6 a7) := by
 intro a0 a1 a2 a3 a4 a5 a6 a7 k
 obtain ⟨ih0, ih1, ih2, ih3, ih4⟩ := letterbaglaw35_OrderChanges.mono_l k
 unfold letterbaglaw35_OrderChanges.f
 repeat' first
   | (with_reducible exact ih0 _ _ _ _ _ _ _ _ _)
   | (with_reducible exact ih1 _ _ _ _ _ _ _ _ _ _ _ _ _)
   | (with_reducible exact ih2 _ _ _ _ _ _ _ _ _ _ _)
   | (with_reducible exact ih3 _ _ _ _ _ _ _ _ _ _ _ _)
   | (with_reducible exact ih4 _ _ _ _ _ _ _ _ _)
   | (with_reducible exact letterbagkit_SameOrders.mono _ _ _)
   | (with_reducible exact letterbaglaw35_Built.mono _ _)
   | (with_reducible exact order_Add.mono _ _ _ _ _ _ _ _)
   | (with_reducible exact LeO.refl _)
   | (with_reducible exact LeO.none _)
   | (with_reducible refine LeO.ite ?_ ?_)
   | (with_reducible refine LeO.bind ?_ (fun _ => ?_))
   | exact ih0 _ _ _ _ _ _ _ _ _
   | exact ih1 _ _ _ _ _ _ _ _ _ _ _ _ _
   | exact ih2 _ _ _ _ _ _ _ _ _ _ _
   | exact ih3 _ _ _ _ _ _ _ _ _ _ _ _
   | exact ih4 _ _ _ _ _ _ _ _ _
   | exact letterbagkit_SameOrders.mono _ _ _
   | exact letterbaglaw35_Built.mono _ _
   | exact order_Add.mono _ _ _ _ _ _ _ _
   | exact LeO.none _
   | refine LeO.ite ?_ ?_
   | refine LeO.bind ?_ (fun _ => ?_)
set_option maxHeartbeats 8000000 in
set_option maxRecDepth 100000 in
theorem letterbaglaw35_OrderChanges.calls (k : Nat) (A0 : Option Addr) (c0 : Nat) (l0 : List (S72)) (a1_0 : Int) (a1_1 : Int) (a1_2 : Int) (a1_3 : Int) (a1_4 : Int) (a2 : Int) (a3 : Int) (r : Bool) (w : World) (hr0 : Kd.C k72 w A0 l0.length l0) (hc0 : l0.length ≤ c0) (h : letterbaglaw35_OrderChanges.f k l0 a1_0 a1_1 a1_2 a1_3 a1_4 a2 a3 = some r) :
  Calls Try.prog 11 #[.slice A0 l0.length c0, .agg #[.int .u8 a1_0, .int .u8 a1_1, .int .u8 a1_2, .int .u8 a1_3, .int .u8 a1_4], .int .u8 a2, .int .u8 a3] w fun e w' => e = .returned (.bool r) ∧ Below w.heap.size w w' := by
 have hu72 := Try.underlying72
 have hu41 := Try.underlying41
 have HR0 := Aside0.mk hr0
 have HC0 := Aside0.mk hc0
 clear hr0 hc0
 have HB := Aside0.mk (Below.refl w.heap.size w)
 have H : ((letterbaglaw35_Built.f k l0).bind fun t433 => ((letterbaglaw35_Built.f k (([(⟨a1_0, a1_1, a1_2, a1_3, a1_4⟩ : S72)] : List (S72)))).bind fun t439 => (if 0 < (t439.length : Int) then (if (Int.tmod a1_4 2) = 0 then (letterbaglaw35_OrderChanges.j0 k a2 a3 t433 (wrap64 (999 - (wrap64 (a1_4)))) ((rd_T41 t439 0).f1) ((rd_T41 t439 0).f2) ((rd_T41 t439 0).f3) ((rd_T41 t439 0).f4) ((rd_T41 t439 0).f5)) else (letterbaglaw35_OrderChanges.j0 k a2 a3 t433 1000 ((rd_T41 t439 0).f1) ((rd_T41 t439 0).f2) ((rd_T41 t439 0).f3) ((rd_T41 t439 0).f4) ((rd_T41 t439 0).f5))) else (none)))) = some r := h
 clear h
 replace H := Option.bind_eq_some_iff.mp H
 obtain ⟨t433, A50, H⟩ := H
 replace H : ((letterbaglaw35_Built.f k (([(⟨a1_0, a1_1, a1_2, a1_3, a1_4⟩ : S72)] : List (S72)))).bind fun t439 => (if 0 < (t439.length : Int) then (if (Int.tmod a1_4 2) = 0 then (letterbaglaw35_OrderChanges.j0 k a2 a3 t433 (wrap64 (999 - (wrap64 (a1_4)))) ((rd_T41 t439 0).f1) ((rd_T41 t439 0).f2) ((rd_T41 t439 0).f3) ((rd_T41 t439 0).f4) ((rd_T41 t439 0).f5)) else (letterbaglaw35_OrderChanges.j0 k a2 a3 t433 1000 ((rd_T41 t439 0).f1) ((rd_T41 t439 0).f2) ((rd_T41 t439 0).f3) ((rd_T41 t439 0).f4) ((rd_T41 t439 0).f5))) else (none))) = some r := H
 have A5 := Aside0.mk A50
 clear A50
 obtain ⟨y436, hy436⟩ : ∃ y_ : List (S72), y_ = (([(⟨a1_0, a1_1, a1_2, a1_3, a1_4⟩ : S72)] : List (S72))) := ⟨_, rfl⟩
 replace H : ((letterbaglaw35_Built.f k y436).bind fun t439 => (if 0 < (t439.length : Int) then (if (Int.tmod a1_4 2) = 0 then (letterbaglaw35_OrderChanges.j0 k a2 a3 t433 (wrap64 (999 - (wrap64 (a1_4)))) ((rd_T41 t439 0).f1) ((rd_T41 t439 0).f2) ((rd_T41 t439 0).f3) ((rd_T41 t439 0).f4) ((rd_T41 t439 0).f5)) else (letterbaglaw35_OrderChanges.j0 k a2 a3 t433 1000 ((rd_T41 t439 0).f1) ((rd_T41 t439 0).f2) ((rd_T41 t439 0).f3) ((rd_T41 t439 0).f4) ((rd_T41 t439 0).f5))) else (none))) = some r := by first | (rw [hy436]; with_reducible exact H) | (have H2_ := (Option.bind_some _ _).symm.trans H; rw [hy436]; with_reducible exact H2_) | (have H2_ := (Option.bind_some _ _).symm.trans H; with_reducible exact H2_) | with_reducible exact H | (rw [hy436]; exact H) | exact H
 have Ny436 := Aside0.mk hy436
 clear hy436
 replace H := Option.bind_eq_some_iff.mp H
 obtain ⟨t439, A60, H⟩ := H
 replace H : (if 0 < (t439.length : Int) then (if (Int.tmod a1_4 2) = 0 then (letterbaglaw35_OrderChanges.j0 k a2 a3 t433 (wrap64 (999 - (wrap64 (a1_4)))) ((rd_T41 t439 0).f1) ((rd_T41 t439 0).f2) ((rd_T41 t439 0).f3) ((rd_T41 t439 0).f4) ((rd_T41 t439 0).f5)) else (letterbaglaw35_OrderChanges.j0 k a2 a3 t433 1000 ((rd_T41 t439 0).f1) ((rd_T41 t439 0).f2) ((rd_T41 t439 0).f3) ((rd_T41 t439 0).f4) ((rd_T41 t439 0).f5))) else (none)) = some r := H
 have A6 := Aside0.mk A60
 clear A60
 by_cases c7 : 0 < (t439.length : Int)
 ·rw [if_pos c7] at H
  have c7b0 : decide (0 < (t439.length : Int)) = true := decide_eq_true c7
  have c7b1 : decide (0 < t439.length) = true := decide_eq_true (by omega)
  clear c7
  have HC8 := Aside0.mk H
  clear H
  go_enter Try.func11, Try.ntmps11
  go_upto_if 33 with (first | ((with_reducible refine gate_dst (N := 5) rfl ?_); refine box_event ?hg (N := 5) ?hd (cs := #[.int .u8 a1_0, .int .u8 a1_1, .int .u8 a1_2, .int .u8 a1_3, .int .u8 a1_4]) (t := 72) ?hr ?_; (case hd => rfl); (case hg => rfl); (case hr => first | (go_simp; done) | (go_simp; rfl)); intro gb432 hg w9 hbox hb; have n0_ := Aside0.mk (below_step (by repeat (first | (with_reducible first | exact HB.out | apply below_alloc | apply pw_below_drewN | apply below_drew1) | exact HB.out)) hb); have n1_ := Aside0.mk (hbox); have n2_ := Aside0.mk ((by rw [hg]; exact (below_size (by repeat (first | (with_reducible first | exact HB.out | apply below_alloc | apply pw_below_drewN | apply below_drew1) | exact HB.out))) : w.heap.size ≤ gb432)); have n3_ := Aside0.mk ((by rw [hg]; exact (below_size (by repeat (first | (with_reducible first | exact HB.out | apply below_alloc | apply pw_below_drewN | apply below_drew1) | exact HB.out))) : w.heap.size ≤ gb432)); clear HB; have HB := n0_; have BK432 := n1_; have GW432 := n2_; have GE432 := n3_; clear n0_ n1_ n2_ n3_; clear hb hbox hg) | ((with_reducible refine gate_callee (f := 19) rfl ?_); refine goesL_ (some 23) rfl rfl Try.func19 (by kernel_rfl) rfl #[.slice A0 l0.length c0] rfl (by (try simp only [List.map_toArray, List.map_cons, List.map_nil]); first | done | rfl | (simp only [List.length_drop, List.length_take]; rfl)) ?_; (with_reducible refine (letterbaglaw35_Built.calls k _ _ l0 t433 _ ?side1 ?side2 A5.out).mono ?_); (case side1 => repeat (first | exact (Kd.C_below HR0.out HB.out) | (with_reducible refine Kd.C_alloc ?_ _) | (with_reducible refine Kd.C_drewN ?_ _) | (with_reducible refine Kd.C_drew ?_))); (case side2 => exact HC0.out); rintro e w10 ⟨v434, rfl, ho0, hb⟩; refine ⟨_, rfl, ?_⟩; have n0_ := Aside0.mk (Kd.R_lower ho0 (below_size (by repeat (first | (with_reducible first | exact HB.out | apply below_alloc | apply pw_below_drewN | apply below_drew1 | refine below_set ?_ GE432.out) | exact HB.out)))); have n1_ := Aside0.mk (blk_below (g := gb432) (o := .cells #[.int .u8 a1_0, .int .u8 a1_1, .int .u8 a1_2, .int .u8 a1_3, .int .u8 a1_4] 72 (0, 0)) (by (with_reducible repeat (first | refine blk_drewN ?_ _ | refine blk_drew ?_ | refine blk_alloc ?_ _)); exact BK432.out) hb); have n2_ := Aside0.mk (below_step (by repeat (first | (with_reducible first | exact HB.out | apply below_alloc | apply pw_below_drewN | apply below_drew1 | refine below_set ?_ GE432.out) | exact HB.out)) hb); clear BK432; clear HB; have HO435 := n0_; have BK432 := n1_; have HB := n2_; clear n0_ n1_ n2_; (try clear hb); (try clear hb2); (try clear hk); (try clear hi); (try clear ho0); have hcz11_0 : w10.cell? ⟨gb432, 0, none⟩ = some (.int .u8 a1_0) := (blk_cell BK432.out 0).trans rfl; have hcz11_1 : w10.cell? ⟨gb432, 1, none⟩ = some (.int .u8 a1_1) := (blk_cell BK432.out 1).trans rfl; have hcz11_2 : w10.cell? ⟨gb432, 2, none⟩ = some (.int .u8 a1_2) := (blk_cell BK432.out 2).trans rfl; have hcz11_3 : w10.cell? ⟨gb432, 3, none⟩ = some (.int .u8 a1_3) := (blk_cell BK432.out 3).trans rfl; have hcz11_4 : w10.cell? ⟨gb432, 4, none⟩ = some (.int .u8 a1_4) := (blk_cell BK432.out 4).trans rfl; have hfz11_0 := blk_frozen BK432.out 0; have hfz11_1 := blk_frozen BK432.out 1; have hfz11_2 := blk_frozen BK432.out 2; have hfz11_3 := blk_frozen BK432.out 3; have hfz11_4 := blk_frozen BK432.out 4) | ((with_reducible refine gate_dst (N := 25) rfl ?_); refine Kd.R_lit k72 _ 72 ?hg (N := 25) ?hd (xs := ([(⟨a1_0, a1_1, a1_2, a1_3, a1_4⟩ : S72)] : List (S72))) (inner := [.int .u8 a1_0, .int .u8 a1_1, .int .u8 a1_2, .int .u8 a1_3, .int .u8 a1_4]) (ok := fun _ => True) (okp := fun _ => True) ?hr ?hp (fun _ hk => hk) trivial (Below.refl _ _) (Nat.le_refl _) (by simp) ?_; (case hd => rfl); (case hg => rfl); (case hr => first | (go_simp; done) | (go_simp; rfl)); (case hp => exact (Reps.c5 (show Kd.M k72 _ _ _ (⟨a1_0, a1_1, a1_2, a1_3, a1_4⟩ : S72) [.int .u8 a1_0, .int .u8 a1_1, .int .u8 a1_2, .int .u8 a1_3, .int .u8 a1_4] from (k72_mkM _ _ _ (⟨a1_0, a1_1, a1_2, a1_3, a1_4⟩ : S72) )) (Reps.none _ _))); intro v437 w12 ho13 hb hg_ hnew_; clear hg_ hnew_; (first | rw [← Ny436.out] at ho13 | (simp only [Int.reduceToNat] at ho13; rw [← Ny436.out] at ho13)); have n0_ := Aside0.mk (Kd.R_below (by (with_reducible repeat (first | apply Kd.R_alloc | apply Kd.R_drewN | apply Kd.R_drew)); exact HO435.out) hb); have n1_ := Aside0.mk (Kd.R_lower (Kd.R_newB ho13 (g := gb432) (o := .cells #[.int .u8 a1_0, .int .u8 a1_1, .int .u8 a1_2, .int .u8 a1_3, .int .u8 a1_4] 72 (0, 0)) (by (with_reducible repeat (first | refine blk_drewN ?_ _ | refine blk_drew ?_ | refine blk_alloc ?_ _)); exact BK432.out)) (below_size (by repeat (first | (with_reducible first | exact HB.out | apply below_alloc | apply pw_below_drewN | apply below_drew1 | refine below_set ?_ GE432.out) | exact HB.out)))); have n2_ := Aside0.mk (blk_below (g := gb432) (o := .cells #[.int .u8 a1_0, .int .u8 a1_1, .int .u8 a1_2, .int .u8 a1_3, .int .u8 a1_4] 72 (0, 0)) (by (with_reducible repeat (first | refine blk_drewN ?_ _ | refine blk_drew ?_ | refine blk_alloc ?_ _)); exact BK432.out) hb); have n3_ := Aside0.mk (below_step (by repeat (first | (with_reducible first | exact HB.out | apply below_alloc | apply pw_below_drewN | apply below_drew1 | refine below_set ?_ GE432.out) | exact HB.out)) hb); clear HO435; clear BK432; clear HB; have HO435 := n0_; have HO438 := n1_; have BK432 := n2_; have HB := n3_; clear n0_ n1_ n2_ n3_; clear hb ho13; obtain ⟨Ao14, co14, eo14⟩ := Kd.R_slice HO438.out; subst eo14) | ((with_reducible refine gate_callee (f := 19) rfl ?_); refine goesL_ (some 26) rfl rfl Try.func19 (by kernel_rfl) rfl #[.slice Ao14 y436.length co14] rfl (by (try simp only [List.map_toArray, List.map_cons, List.map_nil]); first | done | rfl | (simp only [List.length_drop, List.length_take]; rfl)) ?_; (with_reducible refine (letterbaglaw35_Built.calls k _ _ y436 t439 _ ?side1 ?side2 A6.out).mono ?_); (case side1 => repeat (first | exact (Kd.R_reads' HO438.out).2.2 | (with_reducible refine Kd.C_alloc ?_ _) | (with_reducible refine Kd.C_drewN ?_ _) | (with_reducible refine Kd.C_drew ?_))); (case side2 => exact (Kd.R_reads' HO438.out).2.1); rintro e w15 ⟨v440, rfl, ho0, hb⟩; refine ⟨_, rfl, ?_⟩; have n0_ := Aside0.mk (Kd.R_elder' (by (with_reducible repeat (first | apply Kd.R_alloc | apply Kd.R_drewN | apply Kd.R_drew)); exact HO435.out) (Kd.R_base ho0) hb); have n1_ := Aside0.mk (Kd.R_below (by (with_reducible repeat (first | apply Kd.R_alloc | apply Kd.R_drewN | apply Kd.R_drew)); exact HO438.out) hb); have n2_ := Aside0.mk (Kd.R_lower (Kd.R_new' ho0 (Kd.R_lt (by (with_reducible repeat (first | apply Kd.R_alloc | apply Kd.R_drewN | apply Kd.R_drew)); exact HO435.out))) (below_size (by repeat (first | (with_reducible first | exact HB.out | apply below_alloc | apply pw_below_drewN | apply below_drew1 | refine below_set ?_ GE432.out) | exact HB.out)))); have n3_ := Aside0.mk (blk_below (g := gb432) (o := .cells #[.int .u8 a1_0, .int .u8 a1_1, .int .u8 a1_2, .int .u8 a1_3, .int .u8 a1_4] 72 (0, 0)) (by (with_reducible repeat (first | refine blk_drewN ?_ _ | refine blk_drew ?_ | refine blk_alloc ?_ _)); exact BK432.out) hb); have n4_ := Aside0.mk (below_step (by repeat (first | (with_reducible first | exact HB.out | apply below_alloc | apply pw_below_drewN | apply below_drew1 | refine below_set ?_ GE432.out) | exact HB.out)) hb); clear HO435; clear HO438; clear BK432; clear HB; have HO435 := n0_; have HO438 := n1_; have HO441 := n2_; have BK432 := n3_; have HB := n4_; clear n0_ n1_ n2_ n3_ n4_; (try clear hb); (try clear hb2); (try clear hk); (try clear hi); (try clear ho0); obtain ⟨Ao16, co16, eo16⟩ := Kd.R_slice HO441.out; subst eo16; have p442 : 0 ≤ (0 : Int) := (by omega); have q442 : 0 < (t439.length : Int) := of_decide_eq_true (by first | (with_reducible assumption) | assumption); obtain ⟨ad442, e442, hx442_0, hx442_1, hx442_2, hx442_3, hx442_4, hx442_5⟩ := at_T41 (Kd.R_reads' HO441.out).2.2 0 p442 q442; cases e442; have qi442 : (0 < t439.length) = True := eq_true (by omega); (try rw [show ((0 : Int)).toNat = 0 from rfl] at hx442_0); (try rw [show 0 * 6 = 0 from rfl] at hx442_0); (try rw [Addr.add_zero'] at hx442_0); (try rw [show ((0 : Int)).toNat = 0 from rfl] at hx442_1); (try rw [show 0 * 6 = 0 from rfl] at hx442_1); (try rw [Addr.add_zero'] at hx442_1); (try rw [show ((0 : Int)).toNat = 0 from rfl] at hx442_2); (try rw [show 0 * 6 = 0 from rfl] at hx442_2); (try rw [Addr.add_zero'] at hx442_2); (try rw [show ((0 : Int)).toNat = 0 from rfl] at hx442_3); (try rw [show 0 * 6 = 0 from rfl] at hx442_3); (try rw [Addr.add_zero'] at hx442_3); (try rw [show ((0 : Int)).toNat = 0 from rfl] at hx442_4); (try rw [show 0 * 6 = 0 from rfl] at hx442_4); (try rw [Addr.add_zero'] at hx442_4); (try rw [show ((0 : Int)).toNat = 0 from rfl] at hx442_5); (try rw [show 0 * 6 = 0 from rfl] at hx442_5); (try rw [Addr.add_zero'] at hx442_5); replace p442 := eq_true p442; replace q442 := eq_true q442) | ((with_reducible refine gate_dst (N := 10) rfl ?_); refine box_event ?hg (N := 10) ?hd (cs := #[.int .i64 0, .int .i64 0, .int .i64 0, .int .i64 0, .int .i64 0, .int .u8 0]) (t := 41) ?hr ?_; (case hd => rfl); (case hg => rfl); (case hr => first | (go_simp; done) | (go_simp; rfl)); intro gb443 hg w17 hbox hb; have n0_ := Aside0.mk (Kd.R_below (Kd.R_elderB (by (with_reducible repeat (first | apply Kd.R_alloc | apply Kd.R_drewN | apply Kd.R_drew)); exact HO435.out) gb443 (Nat.le_of_eq hg.symm)) hb); have n1_ := Aside0.mk (Kd.R_below (by (with_reducible repeat (first | apply Kd.R_alloc | apply Kd.R_drewN | apply Kd.R_drew)); exact HO438.out) hb); have n2_ := Aside0.mk (Kd.R_below (Kd.R_elderB (by (with_reducible repeat (first | apply Kd.R_alloc | apply Kd.R_drewN | apply Kd.R_drew)); exact HO441.out) gb443 (Nat.le_of_eq hg.symm)) hb); have n3_ := Aside0.mk (blk_below (g := gb432) (o := .cells #[.int .u8 a1_0, .int .u8 a1_1, .int .u8 a1_2, .int .u8 a1_3, .int .u8 a1_4] 72 (0, 0)) (by (with_reducible repeat (first | refine blk_drewN ?_ _ | refine blk_drew ?_ | refine blk_alloc ?_ _)); exact BK432.out) hb); have n4_ := Aside0.mk (below_step (by repeat (first | (with_reducible first | exact HB.out | apply below_alloc | apply pw_below_drewN | apply below_drew1 | refine below_set ?_ GE432.out) | exact HB.out)) hb); have n5_ := Aside0.mk (hbox); have n6_ := Aside0.mk ((by rw [hg]; exact (below_size (by repeat (first | (with_reducible first | exact HB.out | apply below_alloc | apply pw_below_drewN | apply below_drew1 | refine below_set ?_ GE432.out) | exact HB.out))) : w.heap.size ≤ gb443)); have n7_ := Aside0.mk ((by rw [hg]; exact (below_size (by repeat (first | (with_reducible first | exact HB.out | apply below_alloc | apply pw_below_drewN | apply below_drew1 | refine below_set ?_ GE432.out) | exact HB.out))) : w.heap.size ≤ gb443)); have n8_ := Aside0.mk ((by rw [hg]; exact Nat.ne_of_lt (blk_lt (g := gb432) (o := .cells #[.int .u8 a1_0, .int .u8 a1_1, .int .u8 a1_2, .int .u8 a1_3, .int .u8 a1_4] 72 (0, 0)) (by (with_reducible repeat (first | refine blk_drewN ?_ _ | refine blk_drew ?_ | refine blk_alloc ?_ _)); exact BK432.out)) : gb432 ≠ gb443)); have n9_ := Aside0.mk ((by rw [hg]; exact Nat.ne_of_gt (blk_lt (g := gb432) (o := .cells #[.int .u8 a1_0, .int .u8 a1_1, .int .u8 a1_2, .int .u8 a1_3, .int .u8 a1_4] 72 (0, 0)) (by (with_reducible repeat (first | refine blk_drewN ?_ _ | refine blk_drew ?_ | refine blk_alloc ?_ _)); exact BK432.out)) : gb443 ≠ gb432)); clear HO435; clear HO438; clear HO441; clear BK432; clear HB; have HO435 := n0_; have HO438 := n1_; have HO441 := n2_; have BK432 := n3_; have HB := n4_; have BK443 := n5_; have GW443 := n6_; have GE443 := n7_; have NB432_443 := n8_; have NB443_432 := n9_; clear n0_ n1_ n2_ n3_ n4_ n5_ n6_ n7_ n8_ n9_; clear hb hbox hg; have hnb18 := NB443_432.out; have hnc18 := NB432_443.out; have hcz19_0 : w17.cell? ⟨gb443, 0, none⟩ = some (.int .i64 0) := (blk_cell BK443.out 0).trans rfl; have hcz19_1 : w17.cell? ⟨gb443, 1, none⟩ = some (.int .i64 0) := (blk_cell BK443.out 1).trans rfl; have hcz19_2 : w17.cell? ⟨gb443, 2, none⟩ = some (.int .i64 0) := (blk_cell BK443.out 2).trans rfl; have hcz19_3 : w17.cell? ⟨gb443, 3, none⟩ = some (.int .i64 0) := (blk_cell BK443.out 3).trans rfl; have hcz19_4 : w17.cell? ⟨gb443, 4, none⟩ = some (.int .i64 0) := (blk_cell BK443.out 4).trans rfl; have hcz19_5 : w17.cell? ⟨gb443, 5, none⟩ = some (.int .u8 0) := (blk_cell BK443.out 5).trans rfl; have hfz19_0 := blk_frozen BK443.out 0; have hfz19_1 := blk_frozen BK443.out 1; have hfz19_2 := blk_frozen BK443.out 2; have hfz19_3 := blk_frozen BK443.out 3; have hfz19_4 := blk_frozen BK443.out 4; have hfz19_5 := blk_frozen BK443.out 5; have hcz20_0 : w17.cell? ⟨gb432, 0, none⟩ = some (.int .u8 a1_0) := (blk_cell BK432.out 0).trans rfl; have hcz20_1 : w17.cell? ⟨gb432, 1, none⟩ = some (.int .u8 a1_1) := (blk_cell BK432.out 1).trans rfl; have hcz20_2 : w17.cell? ⟨gb432, 2, none⟩ = some (.int .u8 a1_2) := (blk_cell BK432.out 2).trans rfl; have hcz20_3 : w17.cell? ⟨gb432, 3, none⟩ = some (.int .u8 a1_3) := (blk_cell BK432.out 3).trans rfl; have hcz20_4 : w17.cell? ⟨gb432, 4, none⟩ = some (.int .u8 a1_4) := (blk_cell BK432.out 4).trans rfl; have hfz20_0 := blk_frozen BK432.out 0; have hfz20_1 := blk_frozen BK432.out 1; have hfz20_2 := blk_frozen BK432.out 2; have hfz20_3 := blk_frozen BK432.out 3; have hfz20_4 := blk_frozen BK432.out 4))
  (try simp only [Act.put, List.setIfInBounds_toArray, List.set_cons_zero, List.set_cons_succ])
  go_cut [] (fun wc => ∃ (kq : Nat) (x444000_7 : Int), Aside0 (letterbaglaw35_OrderChanges.j0 kq a2 a3 t433 x444000_7 ((rd_T41 t439 0).f1) ((rd_T41 t439 0).f2) ((rd_T41 t439 0).f3) ((rd_T41 t439 0).f4) ((rd_T41 t439 0).f5) = some r) ∧ Aside0 (kq ≤ k) ∧ Aside0 (Kd.R k41 41 wc w.heap.size (fun k_ => k_ ≠ gb443) v434 t433) ∧ Aside0 (wc.heap[gb432]? = some (.cells #[.int .u8 a1_0, .int .u8 a1_1, .int .u8 a1_2, .int .u8 a1_3, .int .u8 a1_4] 72 (0, 0))) ∧ Aside0 (wc.heap[gb443]? = some (.cells #[.int .i64 x444000_7, .int .i64 ((rd_T41 t439 0).f1), .int .i64 ((rd_T41 t439 0).f2), .int .i64 ((rd_T41 t439 0).f3), .int .i64 ((rd_T41 t439 0).f4), .int .u8 ((rd_T41 t439 0).f5)] 41 (0, 0))) ∧ Aside0 (Below w.heap.size w wc))
  case first =>
   have H := HC8.out
   clear HC8
   by_cases c21 : (Int.tmod a1_4 2) = 0
   ·rw [if_pos c21] at H
    have c21b0 : ((Int.tmod a1_4 2) == 0) = true := beq_iff_eq.mpr c21
    have c21b1 : ((Int.tmod a1_4 2) != 0) = false := bne_eq_false_iff_eq.mpr c21
    clear c21
    (first | rw [c21b0] | (simp only [i64_w, i32_w]; rw [c21b0]) | skip)
    have H' := Aside0.mk H
    clear H
    have hnb22 := NB432_443.out
    have hnc22 := NB443_432.out
    have hcz23_0 : w17.cell? ⟨gb432, 0, none⟩ = some (.int .u8 a1_0) := (blk_cell BK432.out 0).trans rfl
    have hcz23_1 : w17.cell? ⟨gb432, 1, none⟩ = some (.int .u8 a1_1) := (blk_cell BK432.out 1).trans rfl
    have hcz23_2 : w17.cell? ⟨gb432, 2, none⟩ = some (.int .u8 a1_2) := (blk_cell BK432.out 2).trans rfl
    have hcz23_3 : w17.cell? ⟨gb432, 3, none⟩ = some (.int .u8 a1_3) := (blk_cell BK432.out 3).trans rfl
    have hcz23_4 : w17.cell? ⟨gb432, 4, none⟩ = some (.int .u8 a1_4) := (blk_cell BK432.out 4).trans rfl
    have hfz23_0 := blk_frozen BK432.out 0
    have hfz23_1 := blk_frozen BK432.out 1
    have hfz23_2 := blk_frozen BK432.out 2
    have hfz23_3 := blk_frozen BK432.out 3
    have hfz23_4 := blk_frozen BK432.out 4
    have hcz24_0 : w17.cell? ⟨gb443, 0, none⟩ = some (.int .i64 0) := (blk_cell BK443.out 0).trans rfl
    have hcz24_1 : w17.cell? ⟨gb443, 1, none⟩ = some (.int .i64 0) := (blk_cell BK443.out 1).trans rfl
    have hcz24_2 : w17.cell? ⟨gb443, 2, none⟩ = some (.int .i64 0) := (blk_cell BK443.out 2).trans rfl
    have hcz24_3 : w17.cell? ⟨gb443, 3, none⟩ = some (.int .i64 0) := (blk_cell BK443.out 3).trans rfl
    have hcz24_4 : w17.cell? ⟨gb443, 4, none⟩ = some (.int .i64 0) := (blk_cell BK443.out 4).trans rfl
    have hcz24_5 : w17.cell? ⟨gb443, 5, none⟩ = some (.int .u8 0) := (blk_cell BK443.out 5).trans rfl
    have hfz24_0 := blk_frozen BK443.out 0
    have hfz24_1 := blk_frozen BK443.out 1
    have hfz24_2 := blk_frozen BK443.out 2
    have hfz24_3 := blk_frozen BK443.out 3
    have hfz24_4 := blk_frozen BK443.out 4
    have hfz24_5 := blk_frozen BK443.out 5
    go_wp2
    go_meet
    case rel => exact ⟨_, (wrap64 (999 - (wrap64 (a1_4)))), H', ⟨by first | omega | exact Nat.le_refl _⟩, ⟨by (with_reducible repeat (first | apply Kd.R_alloc | apply Kd.R_drewN | apply Kd.R_drew)); exact Kd.R_mono (Kd.R_far (p := ⟨gb443, 0, none⟩) (Kd.R_far (p := ⟨gb443, 0, none⟩) (Kd.R_far (p := ⟨gb443, 5, none⟩) (Kd.R_far (p := ⟨gb443, 4, none⟩) (Kd.R_far (p := ⟨gb443, 3, none⟩) (Kd.R_far (p := ⟨gb443, 2, none⟩) (Kd.R_far (p := ⟨gb443, 1, none⟩) (Kd.R_far (p := ⟨gb443, 0, none⟩) (Kd.R_mono HO435.out (fun k_ hk => (⟨hk, hk.2⟩ : _ ∧ k_ ≠ gb443))) (fun _ hk => hk.2) (.int .i64 ((rd_T41 t439 0).f0))) (fun _ hk => hk.2) (.int .i64 ((rd_T41 t439 0).f1))) (fun _ hk => hk.2) (.int .i64 ((rd_T41 t439 0).f2))) (fun _ hk => hk.2) (.int .i64 ((rd_T41 t439 0).f3))) (fun _ hk => hk.2) (.int .i64 ((rd_T41 t439 0).f4))) (fun _ hk => hk.2) (.int .u8 ((rd_T41 t439 0).f5))) (fun _ hk => hk.2) (.int .i64 1000)) (fun _ hk => hk.2) (.int .i64 (wrap64 (999 - (wrap64 (a1_4)))))) (fun _ hk => hk.1.2)⟩, ⟨by (with_reducible repeat (first | refine blk_drewN ?_ _ | refine blk_drew ?_ | refine blk_alloc ?_ _)); refine blk_far ?_ NB432_443.out _; (with_reducible repeat (first | refine blk_drewN ?_ _ | refine blk_drew ?_ | refine blk_alloc ?_ _)); refine blk_far ?_ NB432_443.out _; (with_reducible repeat (first | refine blk_drewN ?_ _ | refine blk_drew ?_ | refine blk_alloc ?_ _)); refine blk_far ?_ NB432_443.out _; (with_reducible repeat (first | refine blk_drewN ?_ _ | refine blk_drew ?_ | refine blk_alloc ?_ _)); refine blk_far ?_ NB432_443.out _; (with_reducible repeat (first | refine blk_drewN ?_ _ | refine blk_drew ?_ | refine blk_alloc ?_ _)); refine blk_far ?_ NB432_443.out _; (with_reducible repeat (first | refine blk_drewN ?_ _ | refine blk_drew ?_ | refine blk_alloc ?_ _)); refine blk_far ?_ NB432_443.out _; (with_reducible repeat (first | refine blk_drewN ?_ _ | refine blk_drew ?_ | refine blk_alloc ?_ _)); refine blk_far ?_ NB432_443.out _; (with_reducible repeat (first | refine blk_drewN ?_ _ | refine blk_drew ?_ | refine blk_alloc ?_ _)); refine blk_far ?_ NB432_443.out _; (with_reducible repeat (first | refine blk_drewN ?_ _ | refine blk_drew ?_ | refine blk_alloc ?_ _)); exact BK432.out⟩, ⟨by (with_reducible repeat (first | refine blk_drewN ?_ _ | refine blk_drew ?_ | refine blk_alloc ?_ _)); refine blk_put (cs := #[.int .i64 1000, .int .i64 ((rd_T41 t439 0).f1), .int .i64 ((rd_T41 t439 0).f2), .int .i64 ((rd_T41 t439 0).f3), .int .i64 ((rd_T41 t439 0).f4), .int .u8 ((rd_T41 t439 0).f5)]) ?_ 0 _ rfl; (with_reducible repeat (first | refine blk_drewN ?_ _ | refine blk_drew ?_ | refine blk_alloc ?_ _)); refine blk_put (cs := #[.int .i64 ((rd_T41 t439 0).f0), .int .i64 ((rd_T41 t439 0).f1), .int .i64 ((rd_T41 t439 0).f2), .int .i64 ((rd_T41 t439 0).f3), .int .i64 ((rd_T41 t439 0).f4), .int .u8 ((rd_T41 t439 0).f5)]) ?_ 0 _ rfl; (with_reducible repeat (first | refine blk_drewN ?_ _ | refine blk_drew ?_ | refine blk_alloc ?_ _)); refine blk_put (cs := #[.int .i64 ((rd_T41 t439 0).f0), .int .i64 ((rd_T41 t439 0).f1), .int .i64 ((rd_T41 t439 0).f2), .int .i64 ((rd_T41 t439 0).f3), .int .i64 ((rd_T41 t439 0).f4), .int .u8 0]) ?_ 5 _ rfl; (with_reducible repeat (first | refine blk_drewN ?_ _ | refine blk_drew ?_ | refine blk_alloc ?_ _)); refine blk_put (cs := #[.int .i64 ((rd_T41 t439 0).f0), .int .i64 ((rd_T41 t439 0).f1), .int .i64 ((rd_T41 t439 0).f2), .int .i64 ((rd_T41 t439 0).f3), .int .i64 0, .int .u8 0]) ?_ 4 _ rfl; (with_reducible repeat (first | refine blk_drewN ?_ _ | refine blk_drew ?_ | refine blk_alloc ?_ _)); refine blk_put (cs := #[.int .i64 ((rd_T41 t439 0).f0), .int .i64 ((rd_T41 t439 0).f1), .int .i64 ((rd_T41 t439 0).f2), .int .i64 0, .int .i64 0, .int .u8 0]) ?_ 3 _ rfl; (with_reducible repeat (first | refine blk_drewN ?_ _ | refine blk_drew ?_ | refine blk_alloc ?_ _)); refine blk_put (cs := #[.int .i64 ((rd_T41 t439 0).f0), .int .i64 ((rd_T41 t439 0).f1), .int .i64 0, .int .i64 0, .int .i64 0, .int .u8 0]) ?_ 2 _ rfl; (with_reducible repeat (first | refine blk_drewN ?_ _ | refine blk_drew ?_ | refine blk_alloc ?_ _)); refine blk_put (cs := #[.int .i64 ((rd_T41 t439 0).f0), .int .i64 0, .int .i64 0, .int .i64 0, .int .i64 0, .int .u8 0]) ?_ 1 _ rfl; (with_reducible repeat (first | refine blk_drewN ?_ _ | refine blk_drew ?_ | refine blk_alloc ?_ _)); refine blk_put (cs := #[.int .i64 0, .int .i64 0, .int .i64 0, .int .i64 0, .int .i64 0, .int .u8 0]) ?_ 0 _ rfl; (with_reducible repeat (first | refine blk_drewN ?_ _ | refine blk_drew ?_ | refine blk_alloc ?_ _)); exact BK443.out⟩, ⟨by repeat (first | (with_reducible first | exact HB.out | apply below_alloc | apply pw_below_drewN | apply below_drew1 | refine below_set ?_ GE432.out | refine below_set ?_ GE443.out) | exact HB.out)⟩⟩
   ·rw [if_neg c21] at H
    have c21b0 : ((Int.tmod a1_4 2) == 0) = false := beq_eq_false_iff_ne.mpr c21
    have c21b1 : ((Int.tmod a1_4 2) != 0) = true := bne_iff_ne.mpr c21
    (first | rw [c21b0] | (simp only [i64_w, i32_w]; rw [c21b0]) | skip)
    have H' := Aside0.mk H
    clear H
    go_wp2
    go_meet
    case rel => exact ⟨_, (1000), H', ⟨by first | omega | exact Nat.le_refl _⟩, ⟨by (with_reducible repeat (first | apply Kd.R_alloc | apply Kd.R_drewN | apply Kd.R_drew)); exact Kd.R_mono (Kd.R_far (p := ⟨gb443, 0, none⟩) (Kd.R_far (p := ⟨gb443, 5, none⟩) (Kd.R_far (p := ⟨gb443, 4, none⟩) (Kd.R_far (p := ⟨gb443, 3, none⟩) (Kd.R_far (p := ⟨gb443, 2, none⟩) (Kd.R_far (p := ⟨gb443, 1, none⟩) (Kd.R_far (p := ⟨gb443, 0, none⟩) (Kd.R_mono HO435.out (fun k_ hk => (⟨hk, hk.2⟩ : _ ∧ k_ ≠ gb443))) (fun _ hk => hk.2) (.int .i64 ((rd_T41 t439 0).f0))) (fun _ hk => hk.2) (.int .i64 ((rd_T41 t439 0).f1))) (fun _ hk => hk.2) (.int .i64 ((rd_T41 t439 0).f2))) (fun _ hk => hk.2) (.int .i64 ((rd_T41 t439 0).f3))) (fun _ hk => hk.2) (.int .i64 ((rd_T41 t439 0).f4))) (fun _ hk => hk.2) (.int .u8 ((rd_T41 t439 0).f5))) (fun _ hk => hk.2) (.int .i64 1000)) (fun _ hk => hk.1.2)⟩, ⟨by (with_reducible repeat (first | refine blk_drewN ?_ _ | refine blk_drew ?_ | refine blk_alloc ?_ _)); refine blk_far ?_ NB432_443.out _; (with_reducible repeat (first | refine blk_drewN ?_ _ | refine blk_drew ?_ | refine blk_alloc ?_ _)); refine blk_far ?_ NB432_443.out _; (with_reducible repeat (first | refine blk_drewN ?_ _ | refine blk_drew ?_ | refine blk_alloc ?_ _)); refine blk_far ?_ NB432_443.out _; (with_reducible repeat (first | refine blk_drewN ?_ _ | refine blk_drew ?_ | refine blk_alloc ?_ _)); refine blk_far ?_ NB432_443.out _; (with_reducible repeat (first | refine blk_drewN ?_ _ | refine blk_drew ?_ | refine blk_alloc ?_ _)); refine blk_far ?_ NB432_443.out _; (with_reducible repeat (first | refine blk_drewN ?_ _ | refine blk_drew ?_ | refine blk_alloc ?_ _)); refine blk_far ?_ NB432_443.out _; (with_reducible repeat (first | refine blk_drewN ?_ _ | refine blk_drew ?_ | refine blk_alloc ?_ _)); refine blk_far ?_ NB432_443.out _; (with_reducible repeat (first | refine blk_drewN ?_ _ | refine blk_drew ?_ | refine blk_alloc ?_ _)); exact BK432.out⟩, ⟨by (with_reducible repeat (first | refine blk_drewN ?_ _ | refine blk_drew ?_ | refine blk_alloc ?_ _)); refine blk_put (cs := #[.int .i64 ((rd_T41 t439 0).f0), .int .i64 ((rd_T41 t439 0).f1), .int .i64 ((rd_T41 t439 0).f2), .int .i64 ((rd_T41 t439 0).f3), .int .i64 ((rd_T41 t439 0).f4), .int .u8 ((rd_T41 t439 0).f5)]) ?_ 0 _ rfl; (with_reducible repeat (first | refine blk_drewN ?_ _ | refine blk_drew ?_ | refine blk_alloc ?_ _)); refine blk_put (cs := #[.int .i64 ((rd_T41 t439 0).f0), .int .i64 ((rd_T41 t439 0).f1), .int .i64 ((rd_T41 t439 0).f2), .int .i64 ((rd_T41 t439 0).f3), .int .i64 ((rd_T41 t439 0).f4), .int .u8 0]) ?_ 5 _ rfl; (with_reducible repeat (first | refine blk_drewN ?_ _ | refine blk_drew ?_ | refine blk_alloc ?_ _)); refine blk_put (cs := #[.int .i64 ((rd_T41 t439 0).f0), .int .i64 ((rd_T41 t439 0).f1), .int .i64 ((rd_T41 t439 0).f2), .int .i64 ((rd_T41 t439 0).f3), .int .i64 0, .int .u8 0]) ?_ 4 _ rfl; (with_reducible repeat (first | refine blk_drewN ?_ _ | refine blk_drew ?_ | refine blk_alloc ?_ _)); refine blk_put (cs := #[.int .i64 ((rd_T41 t439 0).f0), .int .i64 ((rd_T41 t439 0).f1), .int .i64 ((rd_T41 t439 0).f2), .int .i64 0, .int .i64 0, .int .u8 0]) ?_ 3 _ rfl; (with_reducible repeat (first | refine blk_drewN ?_ _ | refine blk_drew ?_ | refine blk_alloc ?_ _)); refine blk_put (cs := #[.int .i64 ((rd_T41 t439 0).f0), .int .i64 ((rd_T41 t439 0).f1), .int .i64 0, .int .i64 0, .int .i64 0, .int .u8 0]) ?_ 2 _ rfl; (with_reducible repeat (first | refine blk_drewN ?_ _ | refine blk_drew ?_ | refine blk_alloc ?_ _)); refine blk_put (cs := #[.int .i64 ((rd_T41 t439 0).f0), .int .i64 0, .int .i64 0, .int .i64 0, .int .i64 0, .int .u8 0]) ?_ 1 _ rfl; (with_reducible repeat (first | refine blk_drewN ?_ _ | refine blk_drew ?_ | refine blk_alloc ?_ _)); refine blk_put (cs := #[.int .i64 0, .int .i64 0, .int .i64 0, .int .i64 0, .int .i64 0, .int .u8 0]) ?_ 0 _ rfl; (with_reducible repeat (first | refine blk_drewN ?_ _ | refine blk_drew ?_ | refine blk_alloc ?_ _)); exact BK443.out⟩, ⟨by repeat (first | (with_reducible first | exact HB.out | apply below_alloc | apply pw_below_drewN | apply below_drew1 | refine below_set ?_ GE432.out | refine below_set ?_ GE443.out) | exact HB.out)⟩⟩
  case rest =>
   clear HC8
   try clear c1
   try clear c2
   try clear p2
   try clear p4
   try clear q4
   try clear hx4
   try clear qi4
   try clear c5
   try clear p6
   try clear c7
   try clear c7b0
   try clear c7b1
   try clear c11
   try clear c18
   try clear c19
   try clear c21
   try clear c21b0
   try clear c21b1
   try clear c22
   try clear hcz11_0
   try clear hcz11_1
   try clear hcz11_2
   try clear hcz11_3
   try clear hcz11_4
   try clear hcz19_0
   try clear hcz19_1
   try clear hcz19_2
   try clear hcz19_3
   try clear hcz19_4
   try clear hcz19_5
   try clear hcz20_0
   try clear hcz20_1
   try clear hcz20_2
   try clear hcz20_3
   try clear hcz20_4
   try clear hcz23_0
   try clear hcz23_1
   try clear hcz23_2
   try clear hcz23_3
   try clear hcz23_4
   try clear hcz24_0
   try clear hcz24_1
   try clear hcz24_2
   try clear hcz24_3
   try clear hcz24_4
   try clear hcz24_5
   try clear hfz11_0
   try clear hfz11_1
   try clear hfz11_2
   try clear hfz11_3
   try clear hfz11_4
   try clear hfz19_0
   try clear hfz19_1
   try clear hfz19_2
   try clear hfz19_3
   try clear hfz19_4
   try clear hfz19_5
   try clear hfz20_0
   try clear hfz20_1
   try clear hfz20_2
   try clear hfz20_3
   try clear hfz20_4
   try clear hfz23_0
   try clear hfz23_1
   try clear hfz23_2
   try clear hfz23_3
   try clear hfz23_4
   try clear hfz24_0
   try clear hfz24_1
   try clear hfz24_2
   try clear hfz24_3
   try clear hfz24_4
   try clear hfz24_5
   try clear hx442_0
   try clear hx442_1
   try clear hx442_2
   try clear hx442_3
   try clear hx442_4
   try clear hx442_5
   try clear p442
   try clear q442
   obtain ⟨kq, x444000_7, HA, HJ7, HO_9, BK432, BK443, HB⟩ := hcut
   cases kq with
   | zero => exact absurd HA.out (by simp [letterbaglaw35_OrderChanges.j0])
   | succ kj7 =>
    have H := HA.out
    clear HA
    simp only [letterbaglaw35_OrderChanges.j0] at H
    replace H := Option.bind_eq_some_iff.mp H
    obtain ⟨⟨t444, t447⟩, A250, H⟩ := H
    replace H : ((letterbaglaw35_in.f t433 (wrap64 (1 + (Int.tmod (wrap64 (a2)) 6))) (Int.tmod (wrap64 (a3)) 110)).bind fun bt448 => ((letterbaglaw35_in.f t444 (wrap64 (1 + (Int.tmod (wrap64 (a2)) 6))) (Int.tmod (wrap64 (a3)) 110)).bind fun bt450 => (if t447 = 0 then (if bt448.2 = true then (letterbaglaw35_OrderChanges.j1 kj7 t433 (wrap64 (1 + (Int.tmod (wrap64 (a2)) 6))) (Int.tmod (wrap64 (a3)) 110) t444 bt448.1 bt450.1 (!bt450.2) x444000_7 ((rd_T41 t439 0).f1) ((rd_T41 t439 0).f2) ((rd_T41 t439 0).f3) ((rd_T41 t439 0).f4) ((rd_T41 t439 0).f5)) else (letterbaglaw35_OrderChanges.j1 kj7 t433 (wrap64 (1 + (Int.tmod (wrap64 (a2)) 6))) (Int.tmod (wrap64 (a3)) 110) t444 bt448.1 bt450.1 true x444000_7 ((rd_T41 t439 0).f1) ((rd_T41 t439 0).f2) ((rd_T41 t439 0).f3) ((rd_T41 t439 0).f4) ((rd_T41 t439 0).f5))) else (letterbaglaw35_OrderChanges.j1 kj7 t433 (wrap64 (1 + (Int.tmod (wrap64 (a2)) 6))) (Int.tmod (wrap64 (a3)) 110) t444 bt448.1 bt450.1 true x444000_7 ((rd_T41 t439 0).f1) ((rd_T41 t439 0).f2) ((rd_T41 t439 0).f3) ((rd_T41 t439 0).f4) ((rd_T41 t439 0).f5))))) = some r := H
    have A25 := Aside0.mk A250
    clear A250
    replace H := Option.bind_eq_some_iff.mp H
    obtain ⟨⟨t448, t449⟩, A260, H⟩ := H
    replace H : ((letterbaglaw35_in.f t444 (wrap64 (1 + (Int.tmod (wrap64 (a2)) 6))) (Int.tmod (wrap64 (a3)) 110)).bind fun bt450 => (if t447 = 0 then (if t449 = true then (letterbaglaw35_OrderChanges.j1 kj7 t433 (wrap64 (1 + (Int.tmod (wrap64 (a2)) 6))) (Int.tmod (wrap64 (a3)) 110) t444 t448 bt450.1 (!bt450.2) x444000_7 ((rd_T41 t439 0).f1) ((rd_T41 t439 0).f2) ((rd_T41 t439 0).f3) ((rd_T41 t439 0).f4) ((rd_T41 t439 0).f5)) else (letterbaglaw35_OrderChanges.j1 kj7 t433 (wrap64 (1 + (Int.tmod (wrap64 (a2)) 6))) (Int.tmod (wrap64 (a3)) 110) t444 t448 bt450.1 true x444000_7 ((rd_T41 t439 0).f1) ((rd_T41 t439 0).f2) ((rd_T41 t439 0).f3) ((rd_T41 t439 0).f4) ((rd_T41 t439 0).f5))) else (letterbaglaw35_OrderChanges.j1 kj7 t433 (wrap64 (1 + (Int.tmod (wrap64 (a2)) 6))) (Int.tmod (wrap64 (a3)) 110) t444 t448 bt450.1 true x444000_7 ((rd_T41 t439 0).f1) ((rd_T41 t439 0).f2) ((rd_T41 t439 0).f3) ((rd_T41 t439 0).f4) ((rd_T41 t439 0).f5)))) = some r := H
    have A26 := Aside0.mk A260
    clear A260
    replace H := Option.bind_eq_some_iff.mp H
    obtain ⟨⟨t450, t451⟩, A270, H⟩ := H
    replace H : (if t447 = 0 then (if t449 = true then (letterbaglaw35_OrderChanges.j1 kj7 t433 (wrap64 (1 + (Int.tmod (wrap64 (a2)) 6))) (Int.tmod (wrap64 (a3)) 110) t444 t448 t450 (!t451) x444000_7 ((rd_T41 t439 0).f1) ((rd_T41 t439 0).f2) ((rd_T41 t439 0).f3) ((rd_T41 t439 0).f4) ((rd_T41 t439 0).f5)) else (letterbaglaw35_OrderChanges.j1 kj7 t433 (wrap64 (1 + (Int.tmod (wrap64 (a2)) 6))) (Int.tmod (wrap64 (a3)) 110) t444 t448 t450 true x444000_7 ((rd_T41 t439 0).f1) ((rd_T41 t439 0).f2) ((rd_T41 t439 0).f3) ((rd_T41 t439 0).f4) ((rd_T41 t439 0).f5))) else (letterbaglaw35_OrderChanges.j1 kj7 t433 (wrap64 (1 + (Int.tmod (wrap64 (a2)) 6))) (Int.tmod (wrap64 (a3)) 110) t444 t448 t450 true x444000_7 ((rd_T41 t439 0).f1) ((rd_T41 t439 0).f2) ((rd_T41 t439 0).f3) ((rd_T41 t439 0).f4) ((rd_T41 t439 0).f5))) = some r := H
    have A27 := Aside0.mk A270
    clear A270
    have HC28 := Aside0.mk H
    clear H
    have hnb29 := NB443_432.out
    have hnc29 := NB432_443.out
    have hcz30_0 : wc.cell? ⟨gb443, 0, none⟩ = some (.int .i64 x444000_7) := (blk_cell BK443.out 0).trans rfl
    have hcz30_1 : wc.cell? ⟨gb443, 1, none⟩ = some (.int .i64 ((rd_T41 t439 0).f1)) := (blk_cell BK443.out 1).trans rfl
    have hcz30_2 : wc.cell? ⟨gb443, 2, none⟩ = some (.int .i64 ((rd_T41 t439 0).f2)) := (blk_cell BK443.out 2).trans rfl
    have hcz30_3 : wc.cell? ⟨gb443, 3, none⟩ = some (.int .i64 ((rd_T41 t439 0).f3)) := (blk_cell BK443.out 3).trans rfl
    have hcz30_4 : wc.cell? ⟨gb443, 4, none⟩ = some (.int .i64 ((rd_T41 t439 0).f4)) := (blk_cell BK443.out 4).trans rfl
    have hcz30_5 : wc.cell? ⟨gb443, 5, none⟩ = some (.int .u8 ((rd_T41 t439 0).f5)) := (blk_cell BK443.out 5).trans rfl
    have hfz30_0 := blk_frozen BK443.out 0
    have hfz30_1 := blk_frozen BK443.out 1
    have hfz30_2 := blk_frozen BK443.out 2
    have hfz30_3 := blk_frozen BK443.out 3
    have hfz30_4 := blk_frozen BK443.out 4
    have hfz30_5 := blk_frozen BK443.out 5
    obtain ⟨Ao31, co31, eo31⟩ := Kd.R_slice HO_9.out
    subst eo31
    go_upto_region 10 with (first | ((with_reducible refine gate_callee (f := 40) rfl ?_); refine goesL_ (some 49) rfl rfl Try.func40 (by kernel_rfl) rfl #[.slice Ao31 t433.length co31, .agg #[.int .i64 x444000_7, .int .i64 ((rd_T41 t439 0).f1), .int .i64 ((rd_T41 t439 0).f2), .int .i64 ((rd_T41 t439 0).f3), .int .i64 ((rd_T41 t439 0).f4), .int .u8 ((rd_T41 t439 0).f5)]] rfl (by (try simp only [List.map_toArray, List.map_cons, List.map_nil]); first | done | rfl | (simp only [List.length_drop, List.length_take]; rfl)) ?_; (with_reducible refine (order_Add.calls kj7 _ _ t433 x444000_7 ((rd_T41 t439 0).f1) ((rd_T41 t439 0).f2) ((rd_T41 t439 0).f3) ((rd_T41 t439 0).f4) ((rd_T41 t439 0).f5) t444 t447 _ ?side1 ?side2 A25.out).mono ?_); (case side1 => repeat (first | exact (Kd.R_reads' HO_9.out).2.2 | (with_reducible refine Kd.C_alloc ?_ _) | (with_reducible refine Kd.C_drewN ?_ _) | (with_reducible refine Kd.C_drew ?_))); (case side2 => exact (Kd.R_reads' HO_9.out).2.1); rintro e w32 ⟨v445, rfl, ho0, hb⟩; refine ⟨_, rfl, ?_⟩; have n0_ := Aside0.mk (Kd.R_elder' (by (with_reducible repeat (first | apply Kd.R_alloc | apply Kd.R_drewN | apply Kd.R_drew)); exact HO_9.out) (Kd.R_base ho0) hb); have n1_ := Aside0.mk (Kd.R_lower (Kd.R_newB (Kd.R_new' ho0 (Kd.R_lt (by (with_reducible repeat (first | apply Kd.R_alloc | apply Kd.R_drewN | apply Kd.R_drew)); exact HO_9.out))) (g := gb443) (o := .cells #[.int .i64 x444000_7, .int .i64 ((rd_T41 t439 0).f1), .int .i64 ((rd_T41 t439 0).f2), .int .i64 ((rd_T41 t439 0).f3), .int .i64 ((rd_T41 t439 0).f4), .int .u8 ((rd_T41 t439 0).f5)] 41 (0, 0)) (by (with_reducible repeat (first | refine blk_drewN ?_ _ | refine blk_drew ?_ | refine blk_alloc ?_ _)); exact BK443.out)) (below_size (by repeat (first | (with_reducible first | exact HB.out | apply below_alloc | apply pw_below_drewN | apply below_drew1 | refine below_set ?_ GE432.out | refine below_set ?_ GE443.out) | exact HB.out)))); have n2_ := Aside0.mk (blk_below (g := gb432) (o := .cells #[.int .u8 a1_0, .int .u8 a1_1, .int .u8 a1_2, .int .u8 a1_3, .int .u8 a1_4] 72 (0, 0)) (by (with_reducible repeat (first | refine blk_drewN ?_ _ | refine blk_drew ?_ | refine blk_alloc ?_ _)); exact BK432.out) hb); have n3_ := Aside0.mk (blk_below (g := gb443) (o := .cells #[.int .i64 x444000_7, .int .i64 ((rd_T41 t439 0).f1), .int .i64 ((rd_T41 t439 0).f2), .int .i64 ((rd_T41 t439 0).f3), .int .i64 ((rd_T41 t439 0).f4), .int .u8 ((rd_T41 t439 0).f5)] 41 (0, 0)) (by (with_reducible repeat (first | refine blk_drewN ?_ _ | refine blk_drew ?_ | refine blk_alloc ?_ _)); exact BK443.out) hb); have n4_ := Aside0.mk (below_step (by repeat (first | (with_reducible first | exact HB.out | apply below_alloc | apply pw_below_drewN | apply below_drew1 | refine below_set ?_ GE432.out | refine below_set ?_ GE443.out) | exact HB.out)) hb); clear HO_9; clear BK432; clear BK443; clear HB; have HO_9 := n0_; have HO446 := n1_; have BK432 := n2_; have BK443 := n3_; have HB := n4_; clear n0_ n1_ n2_ n3_ n4_; (try clear hb); (try clear hb2); (try clear hk); (try clear hi); (try clear ho0)) | ((with_reducible refine gate_callee (f := 35) rfl ?_); refine goesL_ (some 56) rfl rfl Try.func35 (by kernel_rfl) rfl #[.slice Ao31 t433.length co31, .int .i64 (wrap64 (1 + (Int.tmod (wrap64 (a2)) 6))), .int .i64 (Int.tmod (wrap64 (a3)) 110)] rfl (by (try simp only [List.map_toArray, List.map_cons, List.map_nil]); first | done | rfl | (simp only [List.length_drop, List.length_take]; rfl)) ?_; (with_reducible refine (letterbaglaw35_in.calls _ _ t433 (wrap64 (1 + (Int.tmod (wrap64 (a2)) 6))) (Int.tmod (wrap64 (a3)) 110) t448 t449 _ ?side1 ?side2 A26.out).mono ?_); (case side1 => repeat (first | exact (Kd.R_reads' HO_9.out).2.2 | (with_reducible refine Kd.C_alloc ?_ _) | (with_reducible refine Kd.C_drewN ?_ _) | (with_reducible refine Kd.C_drew ?_))); (case side2 => exact (Kd.R_reads' HO_9.out).2.1); rintro e w33 ⟨rfl, hb⟩; refine ⟨_, rfl, ?_⟩; have n0_ := Aside0.mk (Kd.R_below (by (with_reducible repeat (first | apply Kd.R_alloc | apply Kd.R_drewN | apply Kd.R_drew)); exact HO_9.out) hb); have n1_ := Aside0.mk (Kd.R_below (by (with_reducible repeat (first | apply Kd.R_alloc | apply Kd.R_drewN | apply Kd.R_drew)); exact HO446.out) hb); have n2_ := Aside0.mk (blk_below (g := gb432) (o := .cells #[.int .u8 a1_0, .int .u8 a1_1, .int .u8 a1_2, .int .u8 a1_3, .int .u8 a1_4] 72 (0, 0)) (by (with_reducible repeat (first | refine blk_drewN ?_ _ | refine blk_drew ?_ | refine blk_alloc ?_ _)); exact BK432.out) hb); have n3_ := Aside0.mk (blk_below (g := gb443) (o := .cells #[.int .i64 x444000_7, .int .i64 ((rd_T41 t439 0).f1), .int .i64 ((rd_T41 t439 0).f2), .int .i64 ((rd_T41 t439 0).f3), .int .i64 ((rd_T41 t439 0).f4), .int .u8 ((rd_T41 t439 0).f5)] 41 (0, 0)) (by (with_reducible repeat (first | refine blk_drewN ?_ _ | refine blk_drew ?_ | refine blk_alloc ?_ _)); exact BK443.out) hb); have n4_ := Aside0.mk (below_step (by repeat (first | (with_reducible first | exact HB.out | apply below_alloc | apply pw_below_drewN | apply below_drew1 | refine below_set ?_ GE432.out | refine below_set ?_ GE443.out) | exact HB.out)) hb); clear HO_9; clear HO446; clear BK432; clear BK443; clear HB; have HO_9 := n0_; have HO446 := n1_; have BK432 := n2_; have BK443 := n3_; have HB := n4_; clear n0_ n1_ n2_ n3_ n4_; (try clear hb); (try clear hb2); (try clear hk); (try clear hi); obtain ⟨Ao34, co34, eo34⟩ := Kd.R_slice HO446.out; subst eo34) | ((with_reducible refine gate_callee (f := 35) rfl ?_); refine goesL_ (some 63) rfl rfl Try.func35 (by kernel_rfl) rfl #[.slice Ao34 t444.length co34, .int .i64 (wrap64 (1 + (Int.tmod (wrap64 (a2)) 6))), .int .i64 (Int.tmod (wrap64 (a3)) 110)] rfl (by (try simp only [List.map_toArray, List.map_cons, List.map_nil]); first | done | rfl | (simp only [List.length_drop, List.length_take]; rfl)) ?_; (with_reducible refine (letterbaglaw35_in.calls _ _ t444 (wrap64 (1 + (Int.tmod (wrap64 (a2)) 6))) (Int.tmod (wrap64 (a3)) 110) t450 t451 _ ?side1 ?side2 A27.out).mono ?_); (case side1 => repeat (first | exact (Kd.R_reads' HO446.out).2.2 | (with_reducible refine Kd.C_alloc ?_ _) | (with_reducible refine Kd.C_drewN ?_ _) | (with_reducible refine Kd.C_drew ?_))); (case side2 => exact (Kd.R_reads' HO446.out).2.1); rintro e w35 ⟨rfl, hb⟩; refine ⟨_, rfl, ?_⟩; have n0_ := Aside0.mk (Kd.R_below (by (with_reducible repeat (first | apply Kd.R_alloc | apply Kd.R_drewN | apply Kd.R_drew)); exact HO_9.out) hb); have n1_ := Aside0.mk (Kd.R_below (by (with_reducible repeat (first | apply Kd.R_alloc | apply Kd.R_drewN | apply Kd.R_drew)); exact HO446.out) hb); have n2_ := Aside0.mk (blk_below (g := gb432) (o := .cells #[.int .u8 a1_0, .int .u8 a1_1, .int .u8 a1_2, .int .u8 a1_3, .int .u8 a1_4] 72 (0, 0)) (by (with_reducible repeat (first | refine blk_drewN ?_ _ | refine blk_drew ?_ | refine blk_alloc ?_ _)); exact BK432.out) hb); have n3_ := Aside0.mk (blk_below (g := gb443) (o := .cells #[.int .i64 x444000_7, .int .i64 ((rd_T41 t439 0).f1), .int .i64 ((rd_T41 t439 0).f2), .int .i64 ((rd_T41 t439 0).f3), .int .i64 ((rd_T41 t439 0).f4), .int .u8 ((rd_T41 t439 0).f5)] 41 (0, 0)) (by (with_reducible repeat (first | refine blk_drewN ?_ _ | refine blk_drew ?_ | refine blk_alloc ?_ _)); exact BK443.out) hb); have n4_ := Aside0.mk (below_step (by repeat (first | (with_reducible first | exact HB.out | apply below_alloc | apply pw_below_drewN | apply below_drew1 | refine below_set ?_ GE432.out | refine below_set ?_ GE443.out) | exact HB.out)) hb); clear HO_9; clear HO446; clear BK432; clear BK443; clear HB; have HO_9 := n0_; have HO446 := n1_; have BK432 := n2_; have BK443 := n3_; have HB := n4_; clear n0_ n1_ n2_ n3_ n4_; (try clear hb); (try clear hb2); (try clear hk); (try clear hi)))
    (try simp only [Act.put, List.setIfInBounds_toArray, List.set_cons_zero, List.set_cons_succ])
    go_cut [75] (fun v75 wc => ∃ (kq : Nat) (x75_27 : Bool), v75 = .bool x75_27 ∧ Aside0 (letterbaglaw35_OrderChanges.j1 kq t433 (wrap64 (1 + (Int.tmod (wrap64 (a2)) 6))) (Int.tmod (wrap64 (a3)) 110) t444 t448 t450 x75_27 x444000_7 ((rd_T41 t439 0).f1) ((rd_T41 t439 0).f2) ((rd_T41 t439 0).f3) ((rd_T41 t439 0).f4) ((rd_T41 t439 0).f5) = some r) ∧ Aside0 (kq ≤ kj7) ∧ Aside0 (Kd.R k41 41 wc w.heap.size (fun k_ => some k_ ≠ ((.slice Ao34 t444.length co34) : Value).ownBlock ∧ k_ ≠ gb443) (.slice Ao31 t433.length co31) t433) ∧ Aside0 (Kd.R k41 41 wc w.heap.size (fun k_ => some k_ ≠ ((.slice Ao31 t433.length co31) : Value).ownBlock ∧ k_ ≠ gb443) (.slice Ao34 t444.length co34) t444) ∧ Aside0 (wc.heap[gb432]? = some (.cells #[.int .u8 a1_0, .int .u8 a1_1, .int .u8 a1_2, .int .u8 a1_3, .int .u8 a1_4] 72 (0, 0))) ∧ Aside0 (wc.heap[gb443]? = some (.cells #[.int .i64 x444000_7, .int .i64 ((rd_T41 t439 0).f1), .int .i64 ((rd_T41 t439 0).f2), .int .i64 ((rd_T41 t439 0).f3), .int .i64 ((rd_T41 t439 0).f4), .int .u8 ((rd_T41 t439 0).f5)] 41 (0, 0))) ∧ Aside0 (Below w.heap.size w wc))
    case first =>
     have H := HC28.out
     clear HC28
     by_cases c36 : t447 = 0
     ·rw [if_pos c36] at H
      have c36b0 : (t447 == 0) = true := beq_iff_eq.mpr c36
      have c36b1 : (t447 != 0) = false := bne_eq_false_iff_eq.mpr c36
      clear c36
      (first | rw [c36b0] | (simp only [i64_w, i32_w]; rw [c36b0]) | skip)
      by_cases c37 : t449 = true
      ·subst c37
       have H1 : (letterbaglaw35_OrderChanges.j1 kj7 t433 (wrap64 (1 + (Int.tmod (wrap64 (a2)) 6))) (Int.tmod (wrap64 (a3)) 110) t444 t448 t450 (!t451) x444000_7 ((rd_T41 t439 0).f1) ((rd_T41 t439 0).f2) ((rd_T41 t439 0).f3) ((rd_T41 t439 0).f4) ((rd_T41 t439 0).f5)) = some r := by rw [if_pos rfl] at H; exact H
       clear H
       have H := H1
       clear H1
       have H' := Aside0.mk H
       clear H
       go_wp2
       go_meet
       case rel => exact ⟨_, (!t451), (by first | rfl | (simp; done) | (simp [*]; done)), H', ⟨by have := HJ7.out; first | omega | exact Nat.le_refl _⟩, ⟨by (with_reducible repeat (first | apply Kd.R_alloc | apply Kd.R_drewN | apply Kd.R_drew)); exact Kd.R_mono HO_9.out (fun _ hk => ⟨hk.2, hk.1⟩)⟩, ⟨by (with_reducible repeat (first | apply Kd.R_alloc | apply Kd.R_drewN | apply Kd.R_drew)); exact Kd.R_mono HO446.out (fun _ hk => ⟨hk.1.2, hk.2⟩)⟩, ⟨by (with_reducible repeat (first | refine blk_drewN ?_ _ | refine blk_drew ?_ | refine blk_alloc ?_ _)); exact BK432.out⟩, ⟨by (with_reducible repeat (first | refine blk_drewN ?_ _ | refine blk_drew ?_ | refine blk_alloc ?_ _)); exact BK443.out⟩, ⟨by repeat (first | (with_reducible first | exact HB.out | apply below_alloc | apply pw_below_drewN | apply below_drew1 | refine below_set ?_ GE432.out | refine below_set ?_ GE443.out) | exact HB.out)⟩⟩
      ·replace c37 := Bool.eq_false_iff.mpr c37
       subst c37
       have H1 : (letterbaglaw35_OrderChanges.j1 kj7 t433 (wrap64 (1 + (Int.tmod (wrap64 (a2)) 6))) (Int.tmod (wrap64 (a3)) 110) t444 t448 t450 true x444000_7 ((rd_T41 t439 0).f1) ((rd_T41 t439 0).f2) ((rd_T41 t439 0).f3) ((rd_T41 t439 0).f4) ((rd_T41 t439 0).f5)) = some r := by rw [if_neg (show ¬ (false = true) by decide)] at H; exact H
       clear H
       have H := H1
       clear H1
       have H' := Aside0.mk H
       clear H
       go_wp2
       go_meet
       case rel => exact ⟨_, (true), (by first | rfl | (simp; done) | (simp [*]; done)), H', ⟨by have := HJ7.out; first | omega | exact Nat.le_refl _⟩, ⟨by (with_reducible repeat (first | apply Kd.R_alloc | apply Kd.R_drewN | apply Kd.R_drew)); exact Kd.R_mono HO_9.out (fun _ hk => ⟨hk.2, hk.1⟩)⟩, ⟨by (with_reducible repeat (first | apply Kd.R_alloc | apply Kd.R_drewN | apply Kd.R_drew)); exact Kd.R_mono HO446.out (fun _ hk => ⟨hk.1.2, hk.2⟩)⟩, ⟨by (with_reducible repeat (first | refine blk_drewN ?_ _ | refine blk_drew ?_ | refine blk_alloc ?_ _)); exact BK432.out⟩, ⟨by (with_reducible repeat (first | refine blk_drewN ?_ _ | refine blk_drew ?_ | refine blk_alloc ?_ _)); exact BK443.out⟩, ⟨by repeat (first | (with_reducible first | exact HB.out | apply below_alloc | apply pw_below_drewN | apply below_drew1 | refine below_set ?_ GE432.out | refine below_set ?_ GE443.out) | exact HB.out)⟩⟩
     ·rw [if_neg c36] at H
      have c36b0 : (t447 == 0) = false := beq_eq_false_iff_ne.mpr c36
      have c36b1 : (t447 != 0) = true := bne_iff_ne.mpr c36
      (first | rw [c36b0] | (simp only [i64_w, i32_w]; rw [c36b0]) | skip)
      have H' := Aside0.mk H
      clear H
      go_wp2
      go_meet
      case rel => exact ⟨_, (true), (by first | rfl | (simp; done) | (simp [*]; done)), H', ⟨by have := HJ7.out; first | omega | exact Nat.le_refl _⟩, ⟨by (with_reducible repeat (first | apply Kd.R_alloc | apply Kd.R_drewN | apply Kd.R_drew)); exact Kd.R_mono HO_9.out (fun _ hk => ⟨hk.2, hk.1⟩)⟩, ⟨by (with_reducible repeat (first | apply Kd.R_alloc | apply Kd.R_drewN | apply Kd.R_drew)); exact Kd.R_mono HO446.out (fun _ hk => ⟨hk.1.2, hk.2⟩)⟩, ⟨by (with_reducible repeat (first | refine blk_drewN ?_ _ | refine blk_drew ?_ | refine blk_alloc ?_ _)); exact BK432.out⟩, ⟨by (with_reducible repeat (first | refine blk_drewN ?_ _ | refine blk_drew ?_ | refine blk_alloc ?_ _)); exact BK443.out⟩, ⟨by repeat (first | (with_reducible first | exact HB.out | apply below_alloc | apply pw_below_drewN | apply below_drew1 | refine below_set ?_ GE432.out | refine below_set ?_ GE443.out) | exact HB.out)⟩⟩
    case rest =>
     clear HC28
     try clear c1
     try clear c2
     try clear p2
     try clear c3
     try clear c4
     try clear p4
     try clear q4
     try clear hx4
     try clear qi4
     try clear c5
     try clear p6
     try clear c7
     try clear c7b0
     try clear c7b1
     try clear c11
     try clear c18
     try clear c19
     try clear c21
     try clear c21b0
     try clear c21b1
     try clear c22
     try clear c29
     try clear c35
     try clear c36
     try clear c36b0
     try clear c36b1
     try clear c37
     try clear hcz11_0
     try clear hcz11_1
     try clear hcz11_2
     try clear hcz11_3
     try clear hcz11_4
     try clear hcz19_0
     try clear hcz19_1
     try clear hcz19_2
     try clear hcz19_3
     try clear hcz19_4
     try clear hcz19_5
     try clear hcz20_0
     try clear hcz20_1
     try clear hcz20_2
     try clear hcz20_3
     try clear hcz20_4
     try clear hcz23_0
     try clear hcz23_1
     try clear hcz23_2
     try clear hcz23_3
     try clear hcz23_4
     try clear hcz24_0
     try clear hcz24_1
     try clear hcz24_2
     try clear hcz24_3
     try clear hcz24_4
     try clear hcz24_5
     try clear hcz30_0
     try clear hcz30_1
     try clear hcz30_2
     try clear hcz30_3
     try clear hcz30_4
     try clear hcz30_5
     try clear hfz11_0
     try clear hfz11_1
     try clear hfz11_2
     try clear hfz11_3
     try clear hfz11_4
     try clear hfz19_0
     try clear hfz19_1
     try clear hfz19_2
     try clear hfz19_3
     try clear hfz19_4
     try clear hfz19_5
     try clear hfz20_0
     try clear hfz20_1
     try clear hfz20_2
     try clear hfz20_3
     try clear hfz20_4
     try clear hfz23_0
     try clear hfz23_1
     try clear hfz23_2
     try clear hfz23_3
     try clear hfz23_4
     try clear hfz24_0
     try clear hfz24_1
     try clear hfz24_2
     try clear hfz24_3
     try clear hfz24_4
     try clear hfz24_5
     try clear hfz30_0
     try clear hfz30_1
     try clear hfz30_2
     try clear hfz30_3
     try clear hfz30_4
     try clear hfz30_5
     try clear hx442_0
     try clear hx442_1
     try clear hx442_2
     try clear hx442_3
     try clear hx442_4
     try clear hx442_5
     try clear p2
     try clear p4
     try clear p442
     try clear p6
     try clear q4
     try clear q442
     obtain ⟨kq, x75_27, rfl, HA, HJ27, HO_9, HO_13, BK432, BK443, HB⟩ := hcut
     cases kq with
     | zero => exact absurd HA.out (by simp [letterbaglaw35_OrderChanges.j1])
     | succ kj27 =>
      have H := HA.out
      clear HA
      simp only [letterbaglaw35_OrderChanges.j1] at H
      by_cases c38 : x75_27 = true
      ·subst c38
       have H1 : (some false) = some r := by rw [if_pos rfl] at H; exact H
       clear H
       have H := H1
       clear H1
       obtain rfl := Option.some.inj H
       go_wp2
       go_ret
       exact ⟨by first | rfl | (simp [errW_none, errW_some] <;> rfl) | (simp [*, errW_none, errW_some] <;> rfl), by repeat (first | (with_reducible first | exact HB.out | apply below_alloc | apply pw_below_drewN | apply below_drew1 | refine below_set ?_ GE432.out | refine below_set ?_ GE443.out) | exact HB.out)⟩
      ·replace c38 := Bool.eq_false_iff.mpr c38
       subst c38
       have H1 : (if ((rd_T41 t439 0).f1) = (wrap64 (1 + (Int.tmod (wrap64 (a2)) 6))) then (if ((rd_T41 t439 0).f3) ≤ (Int.tmod (wrap64 (a3)) 110) then (if ((rd_T41 t439 0).f5) = 1 then (letterbaglaw35_OrderChanges.j2 kj27 t433 t444 t448 t450 true x444000_7 ((rd_T41 t439 0).f1) ((rd_T41 t439 0).f2) ((rd_T41 t439 0).f3) ((rd_T41 t439 0).f4) ((rd_T41 t439 0).f5)) else (letterbaglaw35_OrderChanges.j2 kj27 t433 t444 t448 t450 (decide ((Int.tmod (wrap64 (a3)) 110) ≤ ((rd_T41 t439 0).f4))) x444000_7 ((rd_T41 t439 0).f1) ((rd_T41 t439 0).f2) ((rd_T41 t439 0).f3) ((rd_T41 t439 0).f4) ((rd_T41 t439 0).f5))) else (letterbaglaw35_OrderChanges.j2 kj27 t433 t444 t448 t450 false x444000_7 ((rd_T41 t439 0).f1) ((rd_T41 t439 0).f2) ((rd_T41 t439 0).f3) ((rd_T41 t439 0).f4) ((rd_T41 t439 0).f5))) else (letterbaglaw35_OrderChanges.j2 kj27 t433 t444 t448 t450 false x444000_7 ((rd_T41 t439 0).f1) ((rd_T41 t439 0).f2) ((rd_T41 t439 0).f3) ((rd_T41 t439 0).f4) ((rd_T41 t439 0).f5))) = some r := by rw [if_neg (show ¬ (false = true) by decide)] at H; exact H
       clear H
       have H := H1
       clear H1
       have HC39 := Aside0.mk H
       clear H
       go_upto_region 12 with (fail)
       go_cut [19] (fun v19 wc => ∃ (kq : Nat) (x19_38 : Bool), v19 = .bool x19_38 ∧ Aside0 (letterbaglaw35_OrderChanges.j2 kq t433 t444 t448 t450 x19_38 x444000_7 ((rd_T41 t439 0).f1) ((rd_T41 t439 0).f2) ((rd_T41 t439 0).f3) ((rd_T41 t439 0).f4) ((rd_T41 t439 0).f5) = some r) ∧ Aside0 (kq ≤ kj27) ∧ Aside0 (Kd.R k41 41 wc w.heap.size (fun k_ => some k_ ≠ ((.slice Ao34 t444.length co34) : Value).ownBlock ∧ k_ ≠ gb443) (.slice Ao31 t433.length co31) t433) ∧ Aside0 (Kd.R k41 41 wc w.heap.size (fun k_ => some k_ ≠ ((.slice Ao31 t433.length co31) : Value).ownBlock ∧ k_ ≠ gb443) (.slice Ao34 t444.length co34) t444) ∧ Aside0 (wc.heap[gb432]? = some (.cells #[.int .u8 a1_0, .int .u8 a1_1, .int .u8 a1_2, .int .u8 a1_3, .int .u8 a1_4] 72 (0, 0))) ∧ Aside0 (wc.heap[gb443]? = some (.cells #[.int .i64 x444000_7, .int .i64 ((rd_T41 t439 0).f1), .int .i64 ((rd_T41 t439 0).f2), .int .i64 ((rd_T41 t439 0).f3), .int .i64 ((rd_T41 t439 0).f4), .int .u8 ((rd_T41 t439 0).f5)] 41 (0, 0))) ∧ Aside0 (Below w.heap.size w wc))
       case first =>
        have H := HC39.out
        clear HC39
        by_cases c40 : ((rd_T41 t439 0).f1) = (wrap64 (1 + (Int.tmod (wrap64 (a2)) 6)))
        ·rw [if_pos c40] at H
         have c40b0 : (((rd_T41 t439 0).f1) == (wrap64 (1 + (Int.tmod (wrap64 (a2)) 6)))) = true := beq_iff_eq.mpr c40
         have c40b1 : (((rd_T41 t439 0).f1) != (wrap64 (1 + (Int.tmod (wrap64 (a2)) 6)))) = false := bne_eq_false_iff_eq.mpr c40
         clear c40
         (first | rw [c40b0] | (simp only [i64_w, i32_w]; rw [c40b0]) | skip)
         by_cases c41 : ((rd_T41 t439 0).f3) ≤ (Int.tmod (wrap64 (a3)) 110)
         ·rw [if_pos c41] at H
          have c41b0 : decide (((rd_T41 t439 0).f3) ≤ (Int.tmod (wrap64 (a3)) 110)) = true := decide_eq_true c41
          clear c41
          by_cases c42 : ((rd_T41 t439 0).f5) = 1
          ·rw [if_pos c42] at H
           have c42b0 : (((rd_T41 t439 0).f5) == 1) = true := beq_iff_eq.mpr c42
           have c42b1 : (((rd_T41 t439 0).f5) != 1) = false := bne_eq_false_iff_eq.mpr c42
           clear c42
           have H' := Aside0.mk H
           clear H
           have hnb43 := NB443_432.out
           have hnc43 := NB432_443.out
           have hcz44_0 : wc.cell? ⟨gb443, 0, none⟩ = some (.int .i64 x444000_7) := (blk_cell BK443.out 0).trans rfl
           have hcz44_1 : wc.cell? ⟨gb443, 1, none⟩ = some (.int .i64 ((rd_T41 t439 0).f1)) := (blk_cell BK443.out 1).trans rfl
           have hcz44_2 : wc.cell? ⟨gb443, 2, none⟩ = some (.int .i64 ((rd_T41 t439 0).f2)) := (blk_cell BK443.out 2).trans rfl
           have hcz44_3 : wc.cell? ⟨gb443, 3, none⟩ = some (.int .i64 ((rd_T41 t439 0).f3)) := (blk_cell BK443.out 3).trans rfl
           have hcz44_4 : wc.cell? ⟨gb443, 4, none⟩ = some (.int .i64 ((rd_T41 t439 0).f4)) := (blk_cell BK443.out 4).trans rfl
           have hcz44_5 : wc.cell? ⟨gb443, 5, none⟩ = some (.int .u8 ((rd_T41 t439 0).f5)) := (blk_cell BK443.out 5).trans rfl
           have hfz44_0 := blk_frozen BK443.out 0
           have hfz44_1 := blk_frozen BK443.out 1
           have hfz44_2 := blk_frozen BK443.out 2
           have hfz44_3 := blk_frozen BK443.out 3
           have hfz44_4 := blk_frozen BK443.out 4
           have hfz44_5 := blk_frozen BK443.out 5
           go_wp2
           go_meet
           case rel => exact ⟨_, (true), (by first | rfl | (simp; done) | (simp [*]; done)), H', ⟨by have := HJ7.out; have := HJ27.out; first | omega | exact Nat.le_refl _⟩, ⟨by (with_reducible repeat (first | apply Kd.R_alloc | apply Kd.R_drewN | apply Kd.R_drew)); exact HO_9.out⟩, ⟨by (with_reducible repeat (first | apply Kd.R_alloc | apply Kd.R_drewN | apply Kd.R_drew)); exact HO_13.out⟩, ⟨by (with_reducible repeat (first | refine blk_drewN ?_ _ | refine blk_drew ?_ | refine blk_alloc ?_ _)); exact BK432.out⟩, ⟨by (with_reducible repeat (first | refine blk_drewN ?_ _ | refine blk_drew ?_ | refine blk_alloc ?_ _)); exact BK443.out⟩, ⟨by repeat (first | (with_reducible first | exact HB.out | apply below_alloc | apply pw_below_drewN | apply below_drew1 | refine below_set ?_ GE432.out | refine below_set ?_ GE443.out) | exact HB.out)⟩⟩
          ·rw [if_neg c42] at H
           have c42b0 : (((rd_T41 t439 0).f5) == 1) = false := beq_eq_false_iff_ne.mpr c42
           have c42b1 : (((rd_T41 t439 0).f5) != 1) = true := bne_iff_ne.mpr c42
           have H' := Aside0.mk H
           clear H
           have hnb45 := NB443_432.out
           have hnc45 := NB432_443.out
           have hcz46_0 : wc.cell? ⟨gb443, 0, none⟩ = some (.int .i64 x444000_7) := (blk_cell BK443.out 0).trans rfl
           have hcz46_1 : wc.cell? ⟨gb443, 1, none⟩ = some (.int .i64 ((rd_T41 t439 0).f1)) := (blk_cell BK443.out 1).trans rfl
           have hcz46_2 : wc.cell? ⟨gb443, 2, none⟩ = some (.int .i64 ((rd_T41 t439 0).f2)) := (blk_cell BK443.out 2).trans rfl
           have hcz46_3 : wc.cell? ⟨gb443, 3, none⟩ = some (.int .i64 ((rd_T41 t439 0).f3)) := (blk_cell BK443.out 3).trans rfl
           have hcz46_4 : wc.cell? ⟨gb443, 4, none⟩ = some (.int .i64 ((rd_T41 t439 0).f4)) := (blk_cell BK443.out 4).trans rfl
           have hcz46_5 : wc.cell? ⟨gb443, 5, none⟩ = some (.int .u8 ((rd_T41 t439 0).f5)) := (blk_cell BK443.out 5).trans rfl
           have hfz46_0 := blk_frozen BK443.out 0
           have hfz46_1 := blk_frozen BK443.out 1
           have hfz46_2 := blk_frozen BK443.out 2
           have hfz46_3 := blk_frozen BK443.out 3
           have hfz46_4 := blk_frozen BK443.out 4
           have hfz46_5 := blk_frozen BK443.out 5
           go_wp2
           go_meet
           case rel => exact ⟨_, (decide ((Int.tmod (wrap64 (a3)) 110) ≤ ((rd_T41 t439 0).f4))), (by first | rfl | (simp; done) | (simp [*]; done)), H', ⟨by have := HJ7.out; have := HJ27.out; first | omega | exact Nat.le_refl _⟩, ⟨by (with_reducible repeat (first | apply Kd.R_alloc | apply Kd.R_drewN | apply Kd.R_drew)); exact HO_9.out⟩, ⟨by (with_reducible repeat (first | apply Kd.R_alloc | apply Kd.R_drewN | apply Kd.R_drew)); exact HO_13.out⟩, ⟨by (with_reducible repeat (first | refine blk_drewN ?_ _ | refine blk_drew ?_ | refine blk_alloc ?_ _)); exact BK432.out⟩, ⟨by (with_reducible repeat (first | refine blk_drewN ?_ _ | refine blk_drew ?_ | refine blk_alloc ?_ _)); exact BK443.out⟩, ⟨by repeat (first | (with_reducible first | exact HB.out | apply below_alloc | apply pw_below_drewN | apply below_drew1 | refine below_set ?_ GE432.out | refine below_set ?_ GE443.out) | exact HB.out)⟩⟩
         ·rw [if_neg c41] at H
          have c41b0 : decide (((rd_T41 t439 0).f3) ≤ (Int.tmod (wrap64 (a3)) 110)) = false := decide_eq_false c41
          clear c41
          have H' := Aside0.mk H
          clear H
          have hnb47 := NB443_432.out
          have hnc47 := NB432_443.out
          have hcz48_0 : wc.cell? ⟨gb443, 0, none⟩ = some (.int .i64 x444000_7) := (blk_cell BK443.out 0).trans rfl
          have hcz48_1 : wc.cell? ⟨gb443, 1, none⟩ = some (.int .i64 ((rd_T41 t439 0).f1)) := (blk_cell BK443.out 1).trans rfl
          have hcz48_2 : wc.cell? ⟨gb443, 2, none⟩ = some (.int .i64 ((rd_T41 t439 0).f2)) := (blk_cell BK443.out 2).trans rfl
          have hcz48_3 : wc.cell? ⟨gb443, 3, none⟩ = some (.int .i64 ((rd_T41 t439 0).f3)) := (blk_cell BK443.out 3).trans rfl
          have hcz48_4 : wc.cell? ⟨gb443, 4, none⟩ = some (.int .i64 ((rd_T41 t439 0).f4)) := (blk_cell BK443.out 4).trans rfl
          have hcz48_5 : wc.cell? ⟨gb443, 5, none⟩ = some (.int .u8 ((rd_T41 t439 0).f5)) := (blk_cell BK443.out 5).trans rfl
          have hfz48_0 := blk_frozen BK443.out 0
          have hfz48_1 := blk_frozen BK443.out 1
          have hfz48_2 := blk_frozen BK443.out 2
          have hfz48_3 := blk_frozen BK443.out 3
          have hfz48_4 := blk_frozen BK443.out 4
          have hfz48_5 := blk_frozen BK443.out 5
          go_wp2
          go_meet
          case rel => exact ⟨_, (false), (by first | rfl | (simp; done) | (simp [*]; done)), H', ⟨by have := HJ7.out; have := HJ27.out; first | omega | exact Nat.le_refl _⟩, ⟨by (with_reducible repeat (first | apply Kd.R_alloc | apply Kd.R_drewN | apply Kd.R_drew)); exact HO_9.out⟩, ⟨by (with_reducible repeat (first | apply Kd.R_alloc | apply Kd.R_drewN | apply Kd.R_drew)); exact HO_13.out⟩, ⟨by (with_reducible repeat (first | refine blk_drewN ?_ _ | refine blk_drew ?_ | refine blk_alloc ?_ _)); exact BK432.out⟩, ⟨by (with_reducible repeat (first | refine blk_drewN ?_ _ | refine blk_drew ?_ | refine blk_alloc ?_ _)); exact BK443.out⟩, ⟨by repeat (first | (with_reducible first | exact HB.out | apply below_alloc | apply pw_below_drewN | apply below_drew1 | refine below_set ?_ GE432.out | refine below_set ?_ GE443.out) | exact HB.out)⟩⟩
        ·rw [if_neg c40] at H
         have c40b0 : (((rd_T41 t439 0).f1) == (wrap64 (1 + (Int.tmod (wrap64 (a2)) 6)))) = false := beq_eq_false_iff_ne.mpr c40
         have c40b1 : (((rd_T41 t439 0).f1) != (wrap64 (1 + (Int.tmod (wrap64 (a2)) 6)))) = true := bne_iff_ne.mpr c40
         (first | rw [c40b0] | (simp only [i64_w, i32_w]; rw [c40b0]) | skip)
         have H' := Aside0.mk H
         clear H
         have hnb49 := NB443_432.out
         have hnc49 := NB432_443.out
         have hcz50_0 : wc.cell? ⟨gb443, 0, none⟩ = some (.int .i64 x444000_7) := (blk_cell BK443.out 0).trans rfl
         have hcz50_1 : wc.cell? ⟨gb443, 1, none⟩ = some (.int .i64 ((rd_T41 t439 0).f1)) := (blk_cell BK443.out 1).trans rfl
         have hcz50_2 : wc.cell? ⟨gb443, 2, none⟩ = some (.int .i64 ((rd_T41 t439 0).f2)) := (blk_cell BK443.out 2).trans rfl
         have hcz50_3 : wc.cell? ⟨gb443, 3, none⟩ = some (.int .i64 ((rd_T41 t439 0).f3)) := (blk_cell BK443.out 3).trans rfl
         have hcz50_4 : wc.cell? ⟨gb443, 4, none⟩ = some (.int .i64 ((rd_T41 t439 0).f4)) := (blk_cell BK443.out 4).trans rfl
         have hcz50_5 : wc.cell? ⟨gb443, 5, none⟩ = some (.int .u8 ((rd_T41 t439 0).f5)) := (blk_cell BK443.out 5).trans rfl
         have hfz50_0 := blk_frozen BK443.out 0
         have hfz50_1 := blk_frozen BK443.out 1
         have hfz50_2 := blk_frozen BK443.out 2
         have hfz50_3 := blk_frozen BK443.out 3
         have hfz50_4 := blk_frozen BK443.out 4
         have hfz50_5 := blk_frozen BK443.out 5
         go_wp2
         go_meet
         case rel => exact ⟨_, (false), (by first | rfl | (simp; done) | (simp [*]; done)), H', ⟨by have := HJ7.out; have := HJ27.out; first | omega | exact Nat.le_refl _⟩, ⟨by (with_reducible repeat (first | apply Kd.R_alloc | apply Kd.R_drewN | apply Kd.R_drew)); exact HO_9.out⟩, ⟨by (with_reducible repeat (first | apply Kd.R_alloc | apply Kd.R_drewN | apply Kd.R_drew)); exact HO_13.out⟩, ⟨by (with_reducible repeat (first | refine blk_drewN ?_ _ | refine blk_drew ?_ | refine blk_alloc ?_ _)); exact BK432.out⟩, ⟨by (with_reducible repeat (first | refine blk_drewN ?_ _ | refine blk_drew ?_ | refine blk_alloc ?_ _)); exact BK443.out⟩, ⟨by repeat (first | (with_reducible first | exact HB.out | apply below_alloc | apply pw_below_drewN | apply below_drew1 | refine below_set ?_ GE432.out | refine below_set ?_ GE443.out) | exact HB.out)⟩⟩
       case rest =>
        clear HC39
        try clear c1
        try clear c2
        try clear p2
        try clear c3
        try clear c4
        try clear p4
        try clear q4
        try clear hx4
        try clear qi4
        try clear c5
        try clear p6
        try clear c7
        try clear c7b0
        try clear c7b1
        try clear c11
        try clear c18
        try clear c19
        try clear c21
        try clear c21b0
        try clear c21b1
        try clear c22
        try clear c29
        try clear c35
        try clear c36
        try clear c36b0
        try clear c36b1
        try clear c37
        try clear c38
        try clear c40
        try clear c40b0
        try clear c40b1
        try clear c41
        try clear c41b0
        try clear c42
        try clear c42b0
        try clear c42b1
        try clear c43
        try clear p44
        try clear q44
        try clear hx44
        try clear qi44
        try clear c45
        try clear c47
        try clear c49
        try clear hcz11_0
        try clear hcz11_1
        try clear hcz11_2
        try clear hcz11_3
        try clear hcz11_4
        try clear hcz19_0
        try clear hcz19_1
        try clear hcz19_2
        try clear hcz19_3
        try clear hcz19_4
        try clear hcz19_5
        try clear hcz20_0
        try clear hcz20_1
        try clear hcz20_2
        try clear hcz20_3
        try clear hcz20_4
        try clear hcz23_0
        try clear hcz23_1
        try clear hcz23_2
        try clear hcz23_3
        try clear hcz23_4
        try clear hcz24_0
        try clear hcz24_1
        try clear hcz24_2
        try clear hcz24_3
        try clear hcz24_4
        try clear hcz24_5
        try clear hcz30_0
        try clear hcz30_1
        try clear hcz30_2
        try clear hcz30_3
        try clear hcz30_4
        try clear hcz30_5
        try clear hcz44_0
        try clear hcz44_1
        try clear hcz44_2
        try clear hcz44_3
        try clear hcz44_4
        try clear hcz44_5
        try clear hcz46_0
        try clear hcz46_1
        try clear hcz46_2
        try clear hcz46_3
        try clear hcz46_4
        try clear hcz46_5
        try clear hcz48_0
        try clear hcz48_1
        try clear hcz48_2
        try clear hcz48_3
        try clear hcz48_4
        try clear hcz48_5
        try clear hcz50_0
        try clear hcz50_1
        try clear hcz50_2
        try clear hcz50_3
        try clear hcz50_4
        try clear hcz50_5
        try clear hfz11_0
        try clear hfz11_1
        try clear hfz11_2
        try clear hfz11_3
        try clear hfz11_4
        try clear hfz19_0
        try clear hfz19_1
        try clear hfz19_2
        try clear hfz19_3
        try clear hfz19_4
        try clear hfz19_5
        try clear hfz20_0
        try clear hfz20_1
        try clear hfz20_2
        try clear hfz20_3
        try clear hfz20_4
        try clear hfz23_0
        try clear hfz23_1
        try clear hfz23_2
        try clear hfz23_3
        try clear hfz23_4
        try clear hfz24_0
        try clear hfz24_1
        try clear hfz24_2
        try clear hfz24_3
        try clear hfz24_4
        try clear hfz24_5
        try clear hfz30_0
        try clear hfz30_1
        try clear hfz30_2
        try clear hfz30_3
        try clear hfz30_4
        try clear hfz30_5
        try clear hfz44_0
        try clear hfz44_1
        try clear hfz44_2
        try clear hfz44_3
        try clear hfz44_4
        try clear hfz44_5
        try clear hfz46_0
        try clear hfz46_1
        try clear hfz46_2
        try clear hfz46_3
        try clear hfz46_4
        try clear hfz46_5
        try clear hfz48_0
        try clear hfz48_1
        try clear hfz48_2
        try clear hfz48_3
        try clear hfz48_4
        try clear hfz48_5
        try clear hfz50_0
        try clear hfz50_1
        try clear hfz50_2
        try clear hfz50_3
        try clear hfz50_4
        try clear hfz50_5
        try clear hx442_0
        try clear hx442_1
        try clear hx442_2
        try clear hx442_3
        try clear hx442_4
        try clear hx442_5
        try clear p2
        try clear p4
        try clear p442
        try clear p6
        try clear q4
        try clear q442
        obtain ⟨kq, x19_38, rfl, HA, HJ38, HO_9, HO_13, BK432, BK443, HB⟩ := hcut
        cases kq with
        | zero => exact absurd HA.out (by simp [letterbaglaw35_OrderChanges.j2])
        | succ kj38 =>
         have H := HA.out
         clear HA
         simp only [letterbaglaw35_OrderChanges.j2] at H
         have HC51 := Aside0.mk H
         clear H
         go_upto_region 13 with (fail)
         go_cut [109] (fun v109 wc => ∃ (kq : Nat) (x109_50 : Bool), v109 = .bool x109_50 ∧ Aside0 (letterbaglaw35_OrderChanges.j3 kq t433 t444 t448 t450 x19_38 x109_50 x444000_7 ((rd_T41 t439 0).f1) ((rd_T41 t439 0).f2) ((rd_T41 t439 0).f3) ((rd_T41 t439 0).f4) ((rd_T41 t439 0).f5) = some r) ∧ Aside0 (kq ≤ kj38) ∧ Aside0 (Kd.R k41 41 wc w.heap.size (fun k_ => some k_ ≠ ((.slice Ao34 t444.length co34) : Value).ownBlock ∧ k_ ≠ gb443) (.slice Ao31 t433.length co31) t433) ∧ Aside0 (Kd.R k41 41 wc w.heap.size (fun k_ => some k_ ≠ ((.slice Ao31 t433.length co31) : Value).ownBlock ∧ k_ ≠ gb443) (.slice Ao34 t444.length co34) t444) ∧ Aside0 (wc.heap[gb432]? = some (.cells #[.int .u8 a1_0, .int .u8 a1_1, .int .u8 a1_2, .int .u8 a1_3, .int .u8 a1_4] 72 (0, 0))) ∧ Aside0 (wc.heap[gb443]? = some (.cells #[.int .i64 x444000_7, .int .i64 ((rd_T41 t439 0).f1), .int .i64 ((rd_T41 t439 0).f2), .int .i64 ((rd_T41 t439 0).f3), .int .i64 ((rd_T41 t439 0).f4), .int .u8 ((rd_T41 t439 0).f5)] 41 (0, 0))) ∧ Aside0 (Below w.heap.size w wc))
         case first =>
          have H := HC51.out
          clear HC51
          by_cases c52 : t450 = t448
          ·rw [if_pos c52] at H
           have c52b0 : (t450 == t448) = true := beq_iff_eq.mpr c52
           have c52b1 : (t450 != t448) = false := bne_eq_false_iff_eq.mpr c52
           clear c52
           (first | rw [c52b0] | (simp only [i64_w, i32_w]; rw [c52b0]) | skip)
           have H' := Aside0.mk H
           clear H
           go_wp2
           go_meet
           case rel => exact ⟨_, (false), (by first | rfl | (simp; done) | (simp [*]; done)), H', ⟨by have := HJ7.out; have := HJ27.out; have := HJ38.out; first | omega | exact Nat.le_refl _⟩, ⟨by (with_reducible repeat (first | apply Kd.R_alloc | apply Kd.R_drewN | apply Kd.R_drew)); exact HO_9.out⟩, ⟨by (with_reducible repeat (first | apply Kd.R_alloc | apply Kd.R_drewN | apply Kd.R_drew)); exact HO_13.out⟩, ⟨by (with_reducible repeat (first | refine blk_drewN ?_ _ | refine blk_drew ?_ | refine blk_alloc ?_ _)); exact BK432.out⟩, ⟨by (with_reducible repeat (first | refine blk_drewN ?_ _ | refine blk_drew ?_ | refine blk_alloc ?_ _)); exact BK443.out⟩, ⟨by repeat (first | (with_reducible first | exact HB.out | apply below_alloc | apply pw_below_drewN | apply below_drew1 | refine below_set ?_ GE432.out | refine below_set ?_ GE443.out) | exact HB.out)⟩⟩
          ·rw [if_neg c52] at H
           have c52b0 : (t450 == t448) = false := beq_eq_false_iff_ne.mpr c52
           have c52b1 : (t450 != t448) = true := bne_iff_ne.mpr c52
           (first | rw [c52b0] | (simp only [i64_w, i32_w]; rw [c52b0]) | skip)
           by_cases c53 : x19_38 = true
           ·subst c53
            have H1 : (letterbaglaw35_OrderChanges.j3 kj38 t433 t444 t448 t450 true (!(t450 == x444000_7)) x444000_7 ((rd_T41 t439 0).f1) ((rd_T41 t439 0).f2) ((rd_T41 t439 0).f3) ((rd_T41 t439 0).f4) ((rd_T41 t439 0).f5)) = some r := by rw [if_pos rfl] at H; exact H
            clear H
            have H := H1
            clear H1
            have H' := Aside0.mk H
            clear H
            have hnb54 := NB443_432.out
            have hnc54 := NB432_443.out
            have hcz55_0 : wc.cell? ⟨gb443, 0, none⟩ = some (.int .i64 x444000_7) := (blk_cell BK443.out 0).trans rfl
            have hcz55_1 : wc.cell? ⟨gb443, 1, none⟩ = some (.int .i64 ((rd_T41 t439 0).f1)) := (blk_cell BK443.out 1).trans rfl
            have hcz55_2 : wc.cell? ⟨gb443, 2, none⟩ = some (.int .i64 ((rd_T41 t439 0).f2)) := (blk_cell BK443.out 2).trans rfl
            have hcz55_3 : wc.cell? ⟨gb443, 3, none⟩ = some (.int .i64 ((rd_T41 t439 0).f3)) := (blk_cell BK443.out 3).trans rfl
            have hcz55_4 : wc.cell? ⟨gb443, 4, none⟩ = some (.int .i64 ((rd_T41 t439 0).f4)) := (blk_cell BK443.out 4).trans rfl
            have hcz55_5 : wc.cell? ⟨gb443, 5, none⟩ = some (.int .u8 ((rd_T41 t439 0).f5)) := (blk_cell BK443.out 5).trans rfl
            have hfz55_0 := blk_frozen BK443.out 0
            have hfz55_1 := blk_frozen BK443.out 1
            have hfz55_2 := blk_frozen BK443.out 2
            have hfz55_3 := blk_frozen BK443.out 3
            have hfz55_4 := blk_frozen BK443.out 4
            have hfz55_5 := blk_frozen BK443.out 5
            go_wp2
            go_meet
            case rel => exact ⟨_, (!(t450 == x444000_7)), (by first | rfl | (simp; done) | (simp [*]; done)), H', ⟨by have := HJ7.out; have := HJ27.out; have := HJ38.out; first | omega | exact Nat.le_refl _⟩, ⟨by (with_reducible repeat (first | apply Kd.R_alloc | apply Kd.R_drewN | apply Kd.R_drew)); exact HO_9.out⟩, ⟨by (with_reducible repeat (first | apply Kd.R_alloc | apply Kd.R_drewN | apply Kd.R_drew)); exact HO_13.out⟩, ⟨by (with_reducible repeat (first | refine blk_drewN ?_ _ | refine blk_drew ?_ | refine blk_alloc ?_ _)); exact BK432.out⟩, ⟨by (with_reducible repeat (first | refine blk_drewN ?_ _ | refine blk_drew ?_ | refine blk_alloc ?_ _)); exact BK443.out⟩, ⟨by repeat (first | (with_reducible first | exact HB.out | apply below_alloc | apply pw_below_drewN | apply below_drew1 | refine below_set ?_ GE432.out | refine below_set ?_ GE443.out) | exact HB.out)⟩⟩
           ·replace c53 := Bool.eq_false_iff.mpr c53
            subst c53
            have H1 : (letterbaglaw35_OrderChanges.j3 kj38 t433 t444 t448 t450 false (!false) x444000_7 ((rd_T41 t439 0).f1) ((rd_T41 t439 0).f2) ((rd_T41 t439 0).f3) ((rd_T41 t439 0).f4) ((rd_T41 t439 0).f5)) = some r := by rw [if_neg (show ¬ (false = true) by decide)] at H; exact H
            clear H
            have H := H1
            clear H1
            have H' := Aside0.mk H
            clear H
            go_wp2
            go_meet
            case rel => exact ⟨_, (!false), (by first | rfl | (simp; done) | (simp [*]; done)), H', ⟨by have := HJ7.out; have := HJ27.out; have := HJ38.out; first | omega | exact Nat.le_refl _⟩, ⟨by (with_reducible repeat (first | apply Kd.R_alloc | apply Kd.R_drewN | apply Kd.R_drew)); exact HO_9.out⟩, ⟨by (with_reducible repeat (first | apply Kd.R_alloc | apply Kd.R_drewN | apply Kd.R_drew)); exact HO_13.out⟩, ⟨by (with_reducible repeat (first | refine blk_drewN ?_ _ | refine blk_drew ?_ | refine blk_alloc ?_ _)); exact BK432.out⟩, ⟨by (with_reducible repeat (first | refine blk_drewN ?_ _ | refine blk_drew ?_ | refine blk_alloc ?_ _)); exact BK443.out⟩, ⟨by repeat (first | (with_reducible first | exact HB.out | apply below_alloc | apply pw_below_drewN | apply below_drew1 | refine below_set ?_ GE432.out | refine below_set ?_ GE443.out) | exact HB.out)⟩⟩
         case rest =>
          clear HC51
          try clear c1
          try clear c2
          try clear p2
          try clear c3
          try clear c4
          try clear p4
          try clear q4
          try clear hx4
          try clear qi4
          try clear c5
          try clear p6
          try clear c7
          try clear c7b0
          try clear c7b1
          try clear c11
          try clear c18
          try clear c19
          try clear c21
          try clear c21b0
          try clear c21b1
          try clear c22
          try clear c29
          try clear c35
          try clear c36
          try clear c36b0
          try clear c36b1
          try clear c37
          try clear c38
          try clear c40
          try clear c40b0
          try clear c40b1
          try clear c41
          try clear c41b0
          try clear c42
          try clear c42b0
          try clear c42b1
          try clear c43
          try clear p44
          try clear q44
          try clear hx44
          try clear qi44
          try clear c45
          try clear c47
          try clear c49
          try clear c52
          try clear c52b0
          try clear c52b1
          try clear c53
          try clear c54
          try clear hcz11_0
          try clear hcz11_1
          try clear hcz11_2
          try clear hcz11_3
          try clear hcz11_4
          try clear hcz19_0
          try clear hcz19_1
          try clear hcz19_2
          try clear hcz19_3
          try clear hcz19_4
          try clear hcz19_5
          try clear hcz20_0
          try clear hcz20_1
          try clear hcz20_2
          try clear hcz20_3
          try clear hcz20_4
          try clear hcz23_0
          try clear hcz23_1
          try clear hcz23_2
          try clear hcz23_3
          try clear hcz23_4
          try clear hcz24_0
          try clear hcz24_1
          try clear hcz24_2
          try clear hcz24_3
          try clear hcz24_4
          try clear hcz24_5
          try clear hcz30_0
          try clear hcz30_1
          try clear hcz30_2
          try clear hcz30_3
          try clear hcz30_4
          try clear hcz30_5
          try clear hcz44_0
          try clear hcz44_1
          try clear hcz44_2
          try clear hcz44_3
          try clear hcz44_4
          try clear hcz44_5
          try clear hcz46_0
          try clear hcz46_1
          try clear hcz46_2
          try clear hcz46_3
          try clear hcz46_4
          try clear hcz46_5
          try clear hcz48_0
          try clear hcz48_1
          try clear hcz48_2
          try clear hcz48_3
          try clear hcz48_4
          try clear hcz48_5
          try clear hcz50_0
          try clear hcz50_1
          try clear hcz50_2
          try clear hcz50_3
          try clear hcz50_4
          try clear hcz50_5
          try clear hcz55_0
          try clear hcz55_1
          try clear hcz55_2
          try clear hcz55_3
          try clear hcz55_4
          try clear hcz55_5
          try clear hfz11_0
          try clear hfz11_1
          try clear hfz11_2
          try clear hfz11_3
          try clear hfz11_4
          try clear hfz19_0
          try clear hfz19_1
          try clear hfz19_2
          try clear hfz19_3
          try clear hfz19_4
          try clear hfz19_5
          try clear hfz20_0
          try clear hfz20_1
          try clear hfz20_2
          try clear hfz20_3
          try clear hfz20_4
          try clear hfz23_0
          try clear hfz23_1
          try clear hfz23_2
          try clear hfz23_3
          try clear hfz23_4
          try clear hfz24_0
          try clear hfz24_1
          try clear hfz24_2
          try clear hfz24_3
          try clear hfz24_4
          try clear hfz24_5
          try clear hfz30_0
          try clear hfz30_1
          try clear hfz30_2
          try clear hfz30_3
          try clear hfz30_4
          try clear hfz30_5
          try clear hfz44_0
          try clear hfz44_1
          try clear hfz44_2
          try clear hfz44_3
          try clear hfz44_4
          try clear hfz44_5
          try clear hfz46_0
          try clear hfz46_1
          try clear hfz46_2
          try clear hfz46_3
          try clear hfz46_4
          try clear hfz46_5
          try clear hfz48_0
          try clear hfz48_1
          try clear hfz48_2
          try clear hfz48_3
          try clear hfz48_4
          try clear hfz48_5
          try clear hfz50_0
          try clear hfz50_1
          try clear hfz50_2
          try clear hfz50_3
          try clear hfz50_4
          try clear hfz50_5
          try clear hfz55_0
          try clear hfz55_1
          try clear hfz55_2
          try clear hfz55_3
          try clear hfz55_4
          try clear hfz55_5
          try clear hx442_0
          try clear hx442_1
          try clear hx442_2
          try clear hx442_3
          try clear hx442_4
          try clear hx442_5
          try clear p2
          try clear p4
          try clear p44
          try clear p442
          try clear p6
          try clear q4
          try clear q44
          try clear q442
          obtain ⟨kq, x109_50, rfl, HA, HJ50, HO_9, HO_13, BK432, BK443, HB⟩ := hcut
          cases kq with
          | zero => exact absurd HA.out (by simp [letterbaglaw35_OrderChanges.j3])
          | succ kj50 =>
           have H := HA.out
           clear HA
           simp only [letterbaglaw35_OrderChanges.j3] at H
           by_cases c56 : x109_50 = true
           ·subst c56
            have H1 : (some false) = some r := by rw [if_pos rfl] at H; exact H
            clear H
            have H := H1
            clear H1
            obtain rfl := Option.some.inj H
            go_wp2
            go_ret
            exact ⟨by first | rfl | (simp [errW_none, errW_some] <;> rfl) | (simp [*, errW_none, errW_some] <;> rfl), by repeat (first | (with_reducible first | exact HB.out | apply below_alloc | apply pw_below_drewN | apply below_drew1 | refine below_set ?_ GE432.out | refine below_set ?_ GE443.out) | exact HB.out)⟩
           ·replace c56 := Bool.eq_false_iff.mpr c56
            subst c56
            have H1 : (if x19_38 = true then (if t448 = 0 then (letterbaglaw35_OrderChanges.j4 kj50 t433 t444 (t450 != x444000_7) x444000_7 ((rd_T41 t439 0).f1) ((rd_T41 t439 0).f2) ((rd_T41 t439 0).f3) ((rd_T41 t439 0).f4) ((rd_T41 t439 0).f5)) else (letterbaglaw35_OrderChanges.j4 kj50 t433 t444 false x444000_7 ((rd_T41 t439 0).f1) ((rd_T41 t439 0).f2) ((rd_T41 t439 0).f3) ((rd_T41 t439 0).f4) ((rd_T41 t439 0).f5))) else (letterbaglaw35_OrderChanges.j4 kj50 t433 t444 false x444000_7 ((rd_T41 t439 0).f1) ((rd_T41 t439 0).f2) ((rd_T41 t439 0).f3) ((rd_T41 t439 0).f4) ((rd_T41 t439 0).f5))) = some r := by rw [if_neg (show ¬ (false = true) by decide)] at H; exact H
            clear H
            have H := H1
            clear H1
            have HC57 := Aside0.mk H
            clear H
            go_upto_region 15 with (fail)
            go_cut [120] (fun v120 wc => ∃ (kq : Nat) (x120_56 : Bool), v120 = .bool x120_56 ∧ Aside0 (letterbaglaw35_OrderChanges.j4 kq t433 t444 x120_56 x444000_7 ((rd_T41 t439 0).f1) ((rd_T41 t439 0).f2) ((rd_T41 t439 0).f3) ((rd_T41 t439 0).f4) ((rd_T41 t439 0).f5) = some r) ∧ Aside0 (kq ≤ kj50) ∧ Aside0 (Kd.R k41 41 wc w.heap.size (fun k_ => some k_ ≠ ((.slice Ao34 t444.length co34) : Value).ownBlock ∧ k_ ≠ gb443) (.slice Ao31 t433.length co31) t433) ∧ Aside0 (Kd.R k41 41 wc w.heap.size (fun k_ => some k_ ≠ ((.slice Ao31 t433.length co31) : Value).ownBlock ∧ k_ ≠ gb443) (.slice Ao34 t444.length co34) t444) ∧ Aside0 (wc.heap[gb432]? = some (.cells #[.int .u8 a1_0, .int .u8 a1_1, .int .u8 a1_2, .int .u8 a1_3, .int .u8 a1_4] 72 (0, 0))) ∧ Aside0 (wc.heap[gb443]? = some (.cells #[.int .i64 x444000_7, .int .i64 ((rd_T41 t439 0).f1), .int .i64 ((rd_T41 t439 0).f2), .int .i64 ((rd_T41 t439 0).f3), .int .i64 ((rd_T41 t439 0).f4), .int .u8 ((rd_T41 t439 0).f5)] 41 (0, 0))) ∧ Aside0 (Below w.heap.size w wc))
            case first =>
             have H := HC57.out
             clear HC57
             by_cases c58 : x19_38 = true
             ·subst c58
              have H1 : (if t448 = 0 then (letterbaglaw35_OrderChanges.j4 kj50 t433 t444 (t450 != x444000_7) x444000_7 ((rd_T41 t439 0).f1) ((rd_T41 t439 0).f2) ((rd_T41 t439 0).f3) ((rd_T41 t439 0).f4) ((rd_T41 t439 0).f5)) else (letterbaglaw35_OrderChanges.j4 kj50 t433 t444 false x444000_7 ((rd_T41 t439 0).f1) ((rd_T41 t439 0).f2) ((rd_T41 t439 0).f3) ((rd_T41 t439 0).f4) ((rd_T41 t439 0).f5))) = some r := by rw [if_pos rfl] at H; exact H
              clear H
              have H := H1
              clear H1
              by_cases c59 : t448 = 0
              ·rw [if_pos c59] at H
               have c59b0 : (t448 == 0) = true := beq_iff_eq.mpr c59
               have c59b1 : (t448 != 0) = false := bne_eq_false_iff_eq.mpr c59
               clear c59
               (first | rw [c59b0] | (simp only [i64_w, i32_w]; rw [c59b0]) | skip)
               have H' := Aside0.mk H
               clear H
               have hnb60 := NB443_432.out
               have hnc60 := NB432_443.out
               have hcz61_0 : wc.cell? ⟨gb443, 0, none⟩ = some (.int .i64 x444000_7) := (blk_cell BK443.out 0).trans rfl
               have hcz61_1 : wc.cell? ⟨gb443, 1, none⟩ = some (.int .i64 ((rd_T41 t439 0).f1)) := (blk_cell BK443.out 1).trans rfl
               have hcz61_2 : wc.cell? ⟨gb443, 2, none⟩ = some (.int .i64 ((rd_T41 t439 0).f2)) := (blk_cell BK443.out 2).trans rfl
               have hcz61_3 : wc.cell? ⟨gb443, 3, none⟩ = some (.int .i64 ((rd_T41 t439 0).f3)) := (blk_cell BK443.out 3).trans rfl
               have hcz61_4 : wc.cell? ⟨gb443, 4, none⟩ = some (.int .i64 ((rd_T41 t439 0).f4)) := (blk_cell BK443.out 4).trans rfl
               have hcz61_5 : wc.cell? ⟨gb443, 5, none⟩ = some (.int .u8 ((rd_T41 t439 0).f5)) := (blk_cell BK443.out 5).trans rfl
               have hfz61_0 := blk_frozen BK443.out 0
               have hfz61_1 := blk_frozen BK443.out 1
               have hfz61_2 := blk_frozen BK443.out 2
               have hfz61_3 := blk_frozen BK443.out 3
               have hfz61_4 := blk_frozen BK443.out 4
               have hfz61_5 := blk_frozen BK443.out 5
               go_wp2
               go_meet
               case rel => exact ⟨_, ((t450 != x444000_7)), (by first | rfl | (simp; done) | (simp [*]; done)), H', ⟨by have := HJ7.out; have := HJ27.out; have := HJ38.out; have := HJ50.out; first | omega | exact Nat.le_refl _⟩, ⟨by (with_reducible repeat (first | apply Kd.R_alloc | apply Kd.R_drewN | apply Kd.R_drew)); exact HO_9.out⟩, ⟨by (with_reducible repeat (first | apply Kd.R_alloc | apply Kd.R_drewN | apply Kd.R_drew)); exact HO_13.out⟩, ⟨by (with_reducible repeat (first | refine blk_drewN ?_ _ | refine blk_drew ?_ | refine blk_alloc ?_ _)); exact BK432.out⟩, ⟨by (with_reducible repeat (first | refine blk_drewN ?_ _ | refine blk_drew ?_ | refine blk_alloc ?_ _)); exact BK443.out⟩, ⟨by repeat (first | (with_reducible first | exact HB.out | apply below_alloc | apply pw_below_drewN | apply below_drew1 | refine below_set ?_ GE432.out | refine below_set ?_ GE443.out) | exact HB.out)⟩⟩
              ·rw [if_neg c59] at H
               have c59b0 : (t448 == 0) = false := beq_eq_false_iff_ne.mpr c59
               have c59b1 : (t448 != 0) = true := bne_iff_ne.mpr c59
               (first | rw [c59b0] | (simp only [i64_w, i32_w]; rw [c59b0]) | skip)
               have H' := Aside0.mk H
               clear H
               go_wp2
               go_meet
               case rel => exact ⟨_, (false), (by first | rfl | (simp; done) | (simp [*]; done)), H', ⟨by have := HJ7.out; have := HJ27.out; have := HJ38.out; have := HJ50.out; first | omega | exact Nat.le_refl _⟩, ⟨by (with_reducible repeat (first | apply Kd.R_alloc | apply Kd.R_drewN | apply Kd.R_drew)); exact HO_9.out⟩, ⟨by (with_reducible repeat (first | apply Kd.R_alloc | apply Kd.R_drewN | apply Kd.R_drew)); exact HO_13.out⟩, ⟨by (with_reducible repeat (first | refine blk_drewN ?_ _ | refine blk_drew ?_ | refine blk_alloc ?_ _)); exact BK432.out⟩, ⟨by (with_reducible repeat (first | refine blk_drewN ?_ _ | refine blk_drew ?_ | refine blk_alloc ?_ _)); exact BK443.out⟩, ⟨by repeat (first | (with_reducible first | exact HB.out | apply below_alloc | apply pw_below_drewN | apply below_drew1 | refine below_set ?_ GE432.out | refine below_set ?_ GE443.out) | exact HB.out)⟩⟩
             ·replace c58 := Bool.eq_false_iff.mpr c58
              subst c58
              have H1 : (letterbaglaw35_OrderChanges.j4 kj50 t433 t444 false x444000_7 ((rd_T41 t439 0).f1) ((rd_T41 t439 0).f2) ((rd_T41 t439 0).f3) ((rd_T41 t439 0).f4) ((rd_T41 t439 0).f5)) = some r := by rw [if_neg (show ¬ (false = true) by decide)] at H; exact H
              clear H
              have H := H1
              clear H1
              have H' := Aside0.mk H
              clear H
              go_wp2
              go_meet
              case rel => exact ⟨_, (false), (by first | rfl | (simp; done) | (simp [*]; done)), H', ⟨by have := HJ7.out; have := HJ27.out; have := HJ38.out; have := HJ50.out; first | omega | exact Nat.le_refl _⟩, ⟨by (with_reducible repeat (first | apply Kd.R_alloc | apply Kd.R_drewN | apply Kd.R_drew)); exact HO_9.out⟩, ⟨by (with_reducible repeat (first | apply Kd.R_alloc | apply Kd.R_drewN | apply Kd.R_drew)); exact HO_13.out⟩, ⟨by (with_reducible repeat (first | refine blk_drewN ?_ _ | refine blk_drew ?_ | refine blk_alloc ?_ _)); exact BK432.out⟩, ⟨by (with_reducible repeat (first | refine blk_drewN ?_ _ | refine blk_drew ?_ | refine blk_alloc ?_ _)); exact BK443.out⟩, ⟨by repeat (first | (with_reducible first | exact HB.out | apply below_alloc | apply pw_below_drewN | apply below_drew1 | refine below_set ?_ GE432.out | refine below_set ?_ GE443.out) | exact HB.out)⟩⟩
            case rest =>
             clear HC57
             try clear c1
             try clear c2
             try clear p2
             try clear c3
             try clear c4
             try clear p4
             try clear q4
             try clear hx4
             try clear qi4
             try clear c5
             try clear c6
             try clear p6
             try clear c7
             try clear c7b0
             try clear c7b1
             try clear c11
             try clear c18
             try clear c19
             try clear c21
             try clear c21b0
             try clear c21b1
             try clear c22
             try clear c29
             try clear c35
             try clear c36
             try clear c36b0
             try clear c36b1
             try clear c37
             try clear c38
             try clear c40
             try clear c40b0
             try clear c40b1
             try clear c41
             try clear c41b0
             try clear c42
             try clear c42b0
             try clear c42b1
             try clear c43
             try clear p44
             try clear q44
             try clear hx44
             try clear qi44
             try clear c45
             try clear c47
             try clear c49
             try clear c52
             try clear c52b0
             try clear c52b1
             try clear c53
             try clear c54
             try clear c56
             try clear c58
             try clear c59
             try clear c59b0
             try clear c59b1
             try clear c60
             try clear hcz11_0
             try clear hcz11_1
             try clear hcz11_2
             try clear hcz11_3
             try clear hcz11_4
             try clear hcz19_0
             try clear hcz19_1
             try clear hcz19_2
             try clear hcz19_3
             try clear hcz19_4
             try clear hcz19_5
             try clear hcz20_0
             try clear hcz20_1
             try clear hcz20_2
             try clear hcz20_3
             try clear hcz20_4
             try clear hcz23_0
             try clear hcz23_1
             try clear hcz23_2
             try clear hcz23_3
             try clear hcz23_4
             try clear hcz24_0
             try clear hcz24_1
             try clear hcz24_2
             try clear hcz24_3
             try clear hcz24_4
             try clear hcz24_5
             try clear hcz30_0
             try clear hcz30_1
             try clear hcz30_2
             try clear hcz30_3
             try clear hcz30_4
             try clear hcz30_5
             try clear hcz44_0
             try clear hcz44_1
             try clear hcz44_2
             try clear hcz44_3
             try clear hcz44_4
             try clear hcz44_5
             try clear hcz46_0
             try clear hcz46_1
             try clear hcz46_2
             try clear hcz46_3
             try clear hcz46_4
             try clear hcz46_5
             try clear hcz48_0
             try clear hcz48_1
             try clear hcz48_2
             try clear hcz48_3
             try clear hcz48_4
             try clear hcz48_5
             try clear hcz50_0
             try clear hcz50_1
             try clear hcz50_2
             try clear hcz50_3
             try clear hcz50_4
             try clear hcz50_5
             try clear hcz55_0
             try clear hcz55_1
             try clear hcz55_2
             try clear hcz55_3
             try clear hcz55_4
             try clear hcz55_5
             try clear hcz61_0
             try clear hcz61_1
             try clear hcz61_2
             try clear hcz61_3
             try clear hcz61_4
             try clear hcz61_5
             try clear hfz11_0
             try clear hfz11_1
             try clear hfz11_2
             try clear hfz11_3
             try clear hfz11_4
             try clear hfz19_0
             try clear hfz19_1
             try clear hfz19_2
             try clear hfz19_3
             try clear hfz19_4
             try clear hfz19_5
             try clear hfz20_0
             try clear hfz20_1
             try clear hfz20_2
             try clear hfz20_3
             try clear hfz20_4
             try clear hfz23_0
             try clear hfz23_1
             try clear hfz23_2
             try clear hfz23_3
             try clear hfz23_4
             try clear hfz24_0
             try clear hfz24_1
             try clear hfz24_2
             try clear hfz24_3
             try clear hfz24_4
             try clear hfz24_5
             try clear hfz30_0
             try clear hfz30_1
             try clear hfz30_2
             try clear hfz30_3
             try clear hfz30_4
             try clear hfz30_5
             try clear hfz44_0
             try clear hfz44_1
             try clear hfz44_2
             try clear hfz44_3
             try clear hfz44_4
             try clear hfz44_5
             try clear hfz46_0
             try clear hfz46_1
             try clear hfz46_2
             try clear hfz46_3
             try clear hfz46_4
             try clear hfz46_5
             try clear hfz48_0
             try clear hfz48_1
             try clear hfz48_2
             try clear hfz48_3
             try clear hfz48_4
             try clear hfz48_5
             try clear hfz50_0
             try clear hfz50_1
             try clear hfz50_2
             try clear hfz50_3
             try clear hfz50_4
             try clear hfz50_5
             try clear hfz55_0
             try clear hfz55_1
             try clear hfz55_2
             try clear hfz55_3
             try clear hfz55_4
             try clear hfz55_5
             try clear hfz61_0
             try clear hfz61_1
             try clear hfz61_2
             try clear hfz61_3
             try clear hfz61_4
             try clear hfz61_5
             try clear hx442_0
             try clear hx442_1
             try clear hx442_2
             try clear hx442_3
             try clear hx442_4
             try clear hx442_5
             try clear p2
             try clear p4
             try clear p44
             try clear p442
             try clear p6
             try clear q4
             try clear q44
             try clear q442
             obtain ⟨kq, x120_56, rfl, HA, HJ56, HO_9, HO_13, BK432, BK443, HB⟩ := hcut
             cases kq with
             | zero => exact absurd HA.out (by simp [letterbaglaw35_OrderChanges.j4])
             | succ kj56 =>
              have H := HA.out
              clear HA
              simp only [letterbaglaw35_OrderChanges.j4] at H
              by_cases c62 : x120_56 = true
              ·subst c62
               have H1 : (some false) = some r := by rw [if_pos rfl] at H; exact H
               clear H
               have H := H1
               clear H1
               obtain rfl := Option.some.inj H
               go_wp2
               go_ret
               exact ⟨by first | rfl | (simp [errW_none, errW_some] <;> rfl) | (simp [*, errW_none, errW_some] <;> rfl), by repeat (first | (with_reducible first | exact HB.out | apply below_alloc | apply pw_below_drewN | apply below_drew1 | refine below_set ?_ GE432.out | refine below_set ?_ GE443.out) | exact HB.out)⟩
              ·replace c62 := Bool.eq_false_iff.mpr c62
               subst c62
               have H1 : ((order_Cancel.f t444 x444000_7).bind fun bt452 => (if bt452.2 = 0 then ((letterbagkit_SameOrders.f kj56 bt452.1 t433).bind fun t456 => (if t456 = true then ((letterbaglaw35_awake.f).bind fun t457 => (some t457)) else (some false))) else (some false))) = some r := by rw [if_neg (show ¬ (false = true) by decide)] at H; exact H
               clear H
               have H := H1
               clear H1
               replace H := Option.bind_eq_some_iff.mp H
               obtain ⟨⟨t452, t453⟩, A630, H⟩ := H
               replace H : (if t453 = 0 then ((letterbagkit_SameOrders.f kj56 t452 t433).bind fun t456 => (if t456 = true then ((letterbaglaw35_awake.f).bind fun t457 => (some t457)) else (some false))) else (some false)) = some r := H
               have A63 := Aside0.mk A630
               clear A630
               by_cases c64 : t453 = 0
               ·rw [if_pos c64] at H
                have c64b0 : (t453 == 0) = true := beq_iff_eq.mpr c64
                have c64b1 : (t453 != 0) = false := bne_eq_false_iff_eq.mpr c64
                clear c64
                replace H := Option.bind_eq_some_iff.mp H
                obtain ⟨t456, A650, H⟩ := H
                replace H : (if t456 = true then ((letterbaglaw35_awake.f).bind fun t457 => (some t457)) else (some false)) = some r := H
                have A65 := Aside0.mk A650
                clear A650
                by_cases c66 : t456 = true
                ·subst c66
                 have H1 : ((letterbaglaw35_awake.f).bind fun t457 => (some t457)) = some r := by rw [if_pos rfl] at H; exact H
                 clear H
                 have H := H1
                 clear H1
                 replace H := Option.bind_eq_some_iff.mp H
                 obtain ⟨t457, A670, H⟩ := H
                 replace H : (some t457) = some r := H
                 have A67 := Aside0.mk A670
                 clear A670
                 obtain rfl := Option.some.inj H
                 have hnb68 := NB443_432.out
                 have hnc68 := NB432_443.out
                 have hcz69_0 : wc.cell? ⟨gb443, 0, none⟩ = some (.int .i64 x444000_7) := (blk_cell BK443.out 0).trans rfl
                 have hcz69_1 : wc.cell? ⟨gb443, 1, none⟩ = some (.int .i64 ((rd_T41 t439 0).f1)) := (blk_cell BK443.out 1).trans rfl
                 have hcz69_2 : wc.cell? ⟨gb443, 2, none⟩ = some (.int .i64 ((rd_T41 t439 0).f2)) := (blk_cell BK443.out 2).trans rfl
                 have hcz69_3 : wc.cell? ⟨gb443, 3, none⟩ = some (.int .i64 ((rd_T41 t439 0).f3)) := (blk_cell BK443.out 3).trans rfl
                 have hcz69_4 : wc.cell? ⟨gb443, 4, none⟩ = some (.int .i64 ((rd_T41 t439 0).f4)) := (blk_cell BK443.out 4).trans rfl
                 have hcz69_5 : wc.cell? ⟨gb443, 5, none⟩ = some (.int .u8 ((rd_T41 t439 0).f5)) := (blk_cell BK443.out 5).trans rfl
                 have hfz69_0 := blk_frozen BK443.out 0
                 have hfz69_1 := blk_frozen BK443.out 1
                 have hfz69_2 := blk_frozen BK443.out 2
                 have hfz69_3 := blk_frozen BK443.out 3
                 have hfz69_4 := blk_frozen BK443.out 4
                 have hfz69_5 := blk_frozen BK443.out 5
                 go_wp2_with (first | ((with_reducible refine gate_callee (f := 39) rfl ?_); refine goesL_ (some 125) rfl rfl Try.func39 (by kernel_rfl) rfl #[.slice Ao34 t444.length co34, .int .i64 x444000_7] rfl (by (try simp only [List.map_toArray, List.map_cons, List.map_nil]); first | done | rfl | (simp only [List.length_drop, List.length_take]; rfl)) ?_; (with_reducible refine (order_Cancel.calls _ _ t444 x444000_7 t452 t453 _ ?side1 ?side2 A63.out).mono ?_); (case side1 => repeat (first | exact (Kd.R_reads' HO_13.out).2.2 | (with_reducible refine Kd.C_alloc ?_ _) | (with_reducible refine Kd.C_drewN ?_ _) | (with_reducible refine Kd.C_drew ?_))); (case side2 => exact (Kd.R_reads' HO_13.out).2.1); rintro e w70 ⟨v454, rfl, ho0, hb⟩; refine ⟨_, rfl, ?_⟩; have n0_ := Aside0.mk (Kd.R_elder' (by (with_reducible repeat (first | apply Kd.R_alloc | apply Kd.R_drewN | apply Kd.R_drew)); exact HO_9.out) (Kd.R_base ho0) hb); have n1_ := Aside0.mk (Kd.R_elder' (by (with_reducible repeat (first | apply Kd.R_alloc | apply Kd.R_drewN | apply Kd.R_drew)); exact HO_13.out) (Kd.R_base ho0) hb); have n2_ := Aside0.mk (Kd.R_lower (Kd.R_newB (Kd.R_new' (Kd.R_new' ho0 (Kd.R_lt (by (with_reducible repeat (first | apply Kd.R_alloc | apply Kd.R_drewN | apply Kd.R_drew)); exact HO_9.out))) (Kd.R_lt (by (with_reducible repeat (first | apply Kd.R_alloc | apply Kd.R_drewN | apply Kd.R_drew)); exact HO_13.out))) (g := gb443) (o := .cells #[.int .i64 x444000_7, .int .i64 ((rd_T41 t439 0).f1), .int .i64 ((rd_T41 t439 0).f2), .int .i64 ((rd_T41 t439 0).f3), .int .i64 ((rd_T41 t439 0).f4), .int .u8 ((rd_T41 t439 0).f5)] 41 (0, 0)) (by (with_reducible repeat (first | refine blk_drewN ?_ _ | refine blk_drew ?_ | refine blk_alloc ?_ _)); exact BK443.out)) (below_size (by repeat (first | (with_reducible first | exact HB.out | apply below_alloc | apply pw_below_drewN | apply below_drew1 | refine below_set ?_ GE432.out | refine below_set ?_ GE443.out) | exact HB.out)))); have n3_ := Aside0.mk (blk_below (g := gb432) (o := .cells #[.int .u8 a1_0, .int .u8 a1_1, .int .u8 a1_2, .int .u8 a1_3, .int .u8 a1_4] 72 (0, 0)) (by (with_reducible repeat (first | refine blk_drewN ?_ _ | refine blk_drew ?_ | refine blk_alloc ?_ _)); exact BK432.out) hb); have n4_ := Aside0.mk (blk_below (g := gb443) (o := .cells #[.int .i64 x444000_7, .int .i64 ((rd_T41 t439 0).f1), .int .i64 ((rd_T41 t439 0).f2), .int .i64 ((rd_T41 t439 0).f3), .int .i64 ((rd_T41 t439 0).f4), .int .u8 ((rd_T41 t439 0).f5)] 41 (0, 0)) (by (with_reducible repeat (first | refine blk_drewN ?_ _ | refine blk_drew ?_ | refine blk_alloc ?_ _)); exact BK443.out) hb); have n5_ := Aside0.mk (below_step (by repeat (first | (with_reducible first | exact HB.out | apply below_alloc | apply pw_below_drewN | apply below_drew1 | refine below_set ?_ GE432.out | refine below_set ?_ GE443.out) | exact HB.out)) hb); clear HO_9; clear HO_13; clear BK432; clear BK443; clear HB; have HO_9 := n0_; have HO_13 := n1_; have HO455 := n2_; have BK432 := n3_; have BK443 := n4_; have HB := n5_; clear n0_ n1_ n2_ n3_ n4_ n5_; (try clear hb); (try clear hb2); (try clear hk); (try clear hi); (try clear ho0); obtain ⟨Ao71, co71, eo71⟩ := Kd.R_slice HO455.out; subst eo71) | (go_at_call 33; (with_reducible refine (letterbagkit_SameOrders.calls kj56 _ _ t452 _ _ t433 true _ ?side1 ?side2 ?side3 ?side4 A65.out).mono ?_); (case side1 => repeat (first | exact (Kd.R_reads' HO455.out).2.2 | (with_reducible refine Kd.C_alloc ?_ _) | (with_reducible refine Kd.C_drewN ?_ _) | (with_reducible refine Kd.C_drew ?_))); (case side2 => exact (Kd.R_reads' HO455.out).2.1); (case side3 => repeat (first | exact (Kd.R_reads' HO_9.out).2.2 | (with_reducible refine Kd.C_alloc ?_ _) | (with_reducible refine Kd.C_drewN ?_ _) | (with_reducible refine Kd.C_drew ?_))); (case side4 => exact (Kd.R_reads' HO_9.out).2.1); rintro e w' ⟨rfl, ⟨nd, rfl⟩⟩) | (go_at_call 23; (with_reducible refine (letterbaglaw35_awake.calls  t457 _ A67.out).mono ?_); rintro e w72 ⟨rfl, hb⟩; have n0_ := Aside0.mk (Kd.R_below (by (with_reducible repeat (first | apply Kd.R_alloc | apply Kd.R_drewN | apply Kd.R_drew)); exact HO_9.out) hb); have n1_ := Aside0.mk (Kd.R_below (by (with_reducible repeat (first | apply Kd.R_alloc | apply Kd.R_drewN | apply Kd.R_drew)); exact HO_13.out) hb); have n2_ := Aside0.mk (Kd.R_below (by (with_reducible repeat (first | apply Kd.R_alloc | apply Kd.R_drewN | apply Kd.R_drew)); exact HO455.out) hb); have n3_ := Aside0.mk (blk_below (g := gb432) (o := .cells #[.int .u8 a1_0, .int .u8 a1_1, .int .u8 a1_2, .int .u8 a1_3, .int .u8 a1_4] 72 (0, 0)) (by (with_reducible repeat (first | refine blk_drewN ?_ _ | refine blk_drew ?_ | refine blk_alloc ?_ _)); exact BK432.out) hb); have n4_ := Aside0.mk (blk_below (g := gb443) (o := .cells #[.int .i64 x444000_7, .int .i64 ((rd_T41 t439 0).f1), .int .i64 ((rd_T41 t439 0).f2), .int .i64 ((rd_T41 t439 0).f3), .int .i64 ((rd_T41 t439 0).f4), .int .u8 ((rd_T41 t439 0).f5)] 41 (0, 0)) (by (with_reducible repeat (first | refine blk_drewN ?_ _ | refine blk_drew ?_ | refine blk_alloc ?_ _)); exact BK443.out) hb); have n5_ := Aside0.mk (below_step (by repeat (first | (with_reducible first | exact HB.out | apply below_alloc | apply pw_below_drewN | apply below_drew1 | refine below_set ?_ GE432.out | refine below_set ?_ GE443.out) | exact HB.out)) hb); clear HO_9; clear HO_13; clear HO455; clear BK432; clear BK443; clear HB; have HO_9 := n0_; have HO_13 := n1_; have HO455 := n2_; have BK432 := n3_; have BK443 := n4_; have HB := n5_; clear n0_ n1_ n2_ n3_ n4_ n5_; (try clear hb); (try clear hb2); (try clear hk); (try clear hi)))
                 go_ret
                 exact ⟨by first | rfl | (simp [errW_none, errW_some] <;> rfl) | (simp [*, errW_none, errW_some] <;> rfl), by repeat (first | (with_reducible first | exact HB.out | apply below_alloc | apply pw_below_drewN | apply below_drew1 | refine below_set ?_ GE432.out | refine below_set ?_ GE443.out) | exact HB.out)⟩
                ·replace c66 := Bool.eq_false_iff.mpr c66
                 subst c66
                 have H1 : (some false) = some r := by rw [if_neg (show ¬ (false = true) by decide)] at H; exact H
                 clear H
                 have H := H1
                 clear H1
                 obtain rfl := Option.some.inj H
                 have hnb73 := NB443_432.out
                 have hnc73 := NB432_443.out
                 have hcz74_0 : wc.cell? ⟨gb443, 0, none⟩ = some (.int .i64 x444000_7) := (blk_cell BK443.out 0).trans rfl
                 have hcz74_1 : wc.cell? ⟨gb443, 1, none⟩ = some (.int .i64 ((rd_T41 t439 0).f1)) := (blk_cell BK443.out 1).trans rfl
                 have hcz74_2 : wc.cell? ⟨gb443, 2, none⟩ = some (.int .i64 ((rd_T41 t439 0).f2)) := (blk_cell BK443.out 2).trans rfl
                 have hcz74_3 : wc.cell? ⟨gb443, 3, none⟩ = some (.int .i64 ((rd_T41 t439 0).f3)) := (blk_cell BK443.out 3).trans rfl
                 have hcz74_4 : wc.cell? ⟨gb443, 4, none⟩ = some (.int .i64 ((rd_T41 t439 0).f4)) := (blk_cell BK443.out 4).trans rfl
                 have hcz74_5 : wc.cell? ⟨gb443, 5, none⟩ = some (.int .u8 ((rd_T41 t439 0).f5)) := (blk_cell BK443.out 5).trans rfl
                 have hfz74_0 := blk_frozen BK443.out 0
                 have hfz74_1 := blk_frozen BK443.out 1
                 have hfz74_2 := blk_frozen BK443.out 2
                 have hfz74_3 := blk_frozen BK443.out 3
                 have hfz74_4 := blk_frozen BK443.out 4
                 have hfz74_5 := blk_frozen BK443.out 5
                 go_wp2_with (first | ((with_reducible refine gate_callee (f := 39) rfl ?_); refine goesL_ (some 125) rfl rfl Try.func39 (by kernel_rfl) rfl #[.slice Ao34 t444.length co34, .int .i64 x444000_7] rfl (by (try simp only [List.map_toArray, List.map_cons, List.map_nil]); first | done | rfl | (simp only [List.length_drop, List.length_take]; rfl)) ?_; (with_reducible refine (order_Cancel.calls _ _ t444 x444000_7 t452 t453 _ ?side1 ?side2 A63.out).mono ?_); (case side1 => repeat (first | exact (Kd.R_reads' HO_13.out).2.2 | (with_reducible refine Kd.C_alloc ?_ _) | (with_reducible refine Kd.C_drewN ?_ _) | (with_reducible refine Kd.C_drew ?_))); (case side2 => exact (Kd.R_reads' HO_13.out).2.1); rintro e w75 ⟨v454, rfl, ho0, hb⟩; refine ⟨_, rfl, ?_⟩; have n0_ := Aside0.mk (Kd.R_elder' (by (with_reducible repeat (first | apply Kd.R_alloc | apply Kd.R_drewN | apply Kd.R_drew)); exact HO_9.out) (Kd.R_base ho0) hb); have n1_ := Aside0.mk (Kd.R_elder' (by (with_reducible repeat (first | apply Kd.R_alloc | apply Kd.R_drewN | apply Kd.R_drew)); exact HO_13.out) (Kd.R_base ho0) hb); have n2_ := Aside0.mk (Kd.R_lower (Kd.R_newB (Kd.R_new' (Kd.R_new' ho0 (Kd.R_lt (by (with_reducible repeat (first | apply Kd.R_alloc | apply Kd.R_drewN | apply Kd.R_drew)); exact HO_9.out))) (Kd.R_lt (by (with_reducible repeat (first | apply Kd.R_alloc | apply Kd.R_drewN | apply Kd.R_drew)); exact HO_13.out))) (g := gb443) (o := .cells #[.int .i64 x444000_7, .int .i64 ((rd_T41 t439 0).f1), .int .i64 ((rd_T41 t439 0).f2), .int .i64 ((rd_T41 t439 0).f3), .int .i64 ((rd_T41 t439 0).f4), .int .u8 ((rd_T41 t439 0).f5)] 41 (0, 0)) (by (with_reducible repeat (first | refine blk_drewN ?_ _ | refine blk_drew ?_ | refine blk_alloc ?_ _)); exact BK443.out)) (below_size (by repeat (first | (with_reducible first | exact HB.out | apply below_alloc | apply pw_below_drewN | apply below_drew1 | refine below_set ?_ GE432.out | refine below_set ?_ GE443.out) | exact HB.out)))); have n3_ := Aside0.mk (blk_below (g := gb432) (o := .cells #[.int .u8 a1_0, .int .u8 a1_1, .int .u8 a1_2, .int .u8 a1_3, .int .u8 a1_4] 72 (0, 0)) (by (with_reducible repeat (first | refine blk_drewN ?_ _ | refine blk_drew ?_ | refine blk_alloc ?_ _)); exact BK432.out) hb); have n4_ := Aside0.mk (blk_below (g := gb443) (o := .cells #[.int .i64 x444000_7, .int .i64 ((rd_T41 t439 0).f1), .int .i64 ((rd_T41 t439 0).f2), .int .i64 ((rd_T41 t439 0).f3), .int .i64 ((rd_T41 t439 0).f4), .int .u8 ((rd_T41 t439 0).f5)] 41 (0, 0)) (by (with_reducible repeat (first | refine blk_drewN ?_ _ | refine blk_drew ?_ | refine blk_alloc ?_ _)); exact BK443.out) hb); have n5_ := Aside0.mk (below_step (by repeat (first | (with_reducible first | exact HB.out | apply below_alloc | apply pw_below_drewN | apply below_drew1 | refine below_set ?_ GE432.out | refine below_set ?_ GE443.out) | exact HB.out)) hb); clear HO_9; clear HO_13; clear BK432; clear BK443; clear HB; have HO_9 := n0_; have HO_13 := n1_; have HO455 := n2_; have BK432 := n3_; have BK443 := n4_; have HB := n5_; clear n0_ n1_ n2_ n3_ n4_ n5_; (try clear hb); (try clear hb2); (try clear hk); (try clear hi); (try clear ho0); obtain ⟨Ao76, co76, eo76⟩ := Kd.R_slice HO455.out; subst eo76) | (go_at_call 33; (with_reducible refine (letterbagkit_SameOrders.calls kj56 _ _ t452 _ _ t433 false _ ?side1 ?side2 ?side3 ?side4 A65.out).mono ?_); (case side1 => repeat (first | exact (Kd.R_reads' HO455.out).2.2 | (with_reducible refine Kd.C_alloc ?_ _) | (with_reducible refine Kd.C_drewN ?_ _) | (with_reducible refine Kd.C_drew ?_))); (case side2 => exact (Kd.R_reads' HO455.out).2.1); (case side3 => repeat (first | exact (Kd.R_reads' HO_9.out).2.2 | (with_reducible refine Kd.C_alloc ?_ _) | (with_reducible refine Kd.C_drewN ?_ _) | (with_reducible refine Kd.C_drew ?_))); (case side4 => exact (Kd.R_reads' HO_9.out).2.1); rintro e w' ⟨rfl, ⟨nd, rfl⟩⟩))
                 go_ret
                 exact ⟨by first | rfl | (simp [errW_none, errW_some] <;> rfl) | (simp [*, errW_none, errW_some] <;> rfl), by repeat (first | (with_reducible first | exact HB.out | apply below_alloc | apply pw_below_drewN | apply below_drew1 | refine below_set ?_ GE432.out | refine below_set ?_ GE443.out) | exact HB.out)⟩
               ·rw [if_neg c64] at H
                have c64b0 : (t453 == 0) = false := beq_eq_false_iff_ne.mpr c64
                have c64b1 : (t453 != 0) = true := bne_iff_ne.mpr c64
                obtain rfl := Option.some.inj H
                have hnb77 := NB443_432.out
                have hnc77 := NB432_443.out
                have hcz78_0 : wc.cell? ⟨gb443, 0, none⟩ = some (.int .i64 x444000_7) := (blk_cell BK443.out 0).trans rfl
                have hcz78_1 : wc.cell? ⟨gb443, 1, none⟩ = some (.int .i64 ((rd_T41 t439 0).f1)) := (blk_cell BK443.out 1).trans rfl
                have hcz78_2 : wc.cell? ⟨gb443, 2, none⟩ = some (.int .i64 ((rd_T41 t439 0).f2)) := (blk_cell BK443.out 2).trans rfl
                have hcz78_3 : wc.cell? ⟨gb443, 3, none⟩ = some (.int .i64 ((rd_T41 t439 0).f3)) := (blk_cell BK443.out 3).trans rfl
                have hcz78_4 : wc.cell? ⟨gb443, 4, none⟩ = some (.int .i64 ((rd_T41 t439 0).f4)) := (blk_cell BK443.out 4).trans rfl
                have hcz78_5 : wc.cell? ⟨gb443, 5, none⟩ = some (.int .u8 ((rd_T41 t439 0).f5)) := (blk_cell BK443.out 5).trans rfl
                have hfz78_0 := blk_frozen BK443.out 0
                have hfz78_1 := blk_frozen BK443.out 1
                have hfz78_2 := blk_frozen BK443.out 2
                have hfz78_3 := blk_frozen BK443.out 3
                have hfz78_4 := blk_frozen BK443.out 4
                have hfz78_5 := blk_frozen BK443.out 5
                go_wp2_with (first | ((with_reducible refine gate_callee (f := 39) rfl ?_); refine goesL_ (some 125) rfl rfl Try.func39 (by kernel_rfl) rfl #[.slice Ao34 t444.length co34, .int .i64 x444000_7] rfl (by (try simp only [List.map_toArray, List.map_cons, List.map_nil]); first | done | rfl | (simp only [List.length_drop, List.length_take]; rfl)) ?_; (with_reducible refine (order_Cancel.calls _ _ t444 x444000_7 t452 t453 _ ?side1 ?side2 A63.out).mono ?_); (case side1 => repeat (first | exact (Kd.R_reads' HO_13.out).2.2 | (with_reducible refine Kd.C_alloc ?_ _) | (with_reducible refine Kd.C_drewN ?_ _) | (with_reducible refine Kd.C_drew ?_))); (case side2 => exact (Kd.R_reads' HO_13.out).2.1); rintro e w79 ⟨v454, rfl, ho0, hb⟩; refine ⟨_, rfl, ?_⟩; have n0_ := Aside0.mk (Kd.R_elder' (by (with_reducible repeat (first | apply Kd.R_alloc | apply Kd.R_drewN | apply Kd.R_drew)); exact HO_9.out) (Kd.R_base ho0) hb); have n1_ := Aside0.mk (Kd.R_elder' (by (with_reducible repeat (first | apply Kd.R_alloc | apply Kd.R_drewN | apply Kd.R_drew)); exact HO_13.out) (Kd.R_base ho0) hb); have n2_ := Aside0.mk (Kd.R_lower (Kd.R_newB (Kd.R_new' (Kd.R_new' ho0 (Kd.R_lt (by (with_reducible repeat (first | apply Kd.R_alloc | apply Kd.R_drewN | apply Kd.R_drew)); exact HO_9.out))) (Kd.R_lt (by (with_reducible repeat (first | apply Kd.R_alloc | apply Kd.R_drewN | apply Kd.R_drew)); exact HO_13.out))) (g := gb443) (o := .cells #[.int .i64 x444000_7, .int .i64 ((rd_T41 t439 0).f1), .int .i64 ((rd_T41 t439 0).f2), .int .i64 ((rd_T41 t439 0).f3), .int .i64 ((rd_T41 t439 0).f4), .int .u8 ((rd_T41 t439 0).f5)] 41 (0, 0)) (by (with_reducible repeat (first | refine blk_drewN ?_ _ | refine blk_drew ?_ | refine blk_alloc ?_ _)); exact BK443.out)) (below_size (by repeat (first | (with_reducible first | exact HB.out | apply below_alloc | apply pw_below_drewN | apply below_drew1 | refine below_set ?_ GE432.out | refine below_set ?_ GE443.out) | exact HB.out)))); have n3_ := Aside0.mk (blk_below (g := gb432) (o := .cells #[.int .u8 a1_0, .int .u8 a1_1, .int .u8 a1_2, .int .u8 a1_3, .int .u8 a1_4] 72 (0, 0)) (by (with_reducible repeat (first | refine blk_drewN ?_ _ | refine blk_drew ?_ | refine blk_alloc ?_ _)); exact BK432.out) hb); have n4_ := Aside0.mk (blk_below (g := gb443) (o := .cells #[.int .i64 x444000_7, .int .i64 ((rd_T41 t439 0).f1), .int .i64 ((rd_T41 t439 0).f2), .int .i64 ((rd_T41 t439 0).f3), .int .i64 ((rd_T41 t439 0).f4), .int .u8 ((rd_T41 t439 0).f5)] 41 (0, 0)) (by (with_reducible repeat (first | refine blk_drewN ?_ _ | refine blk_drew ?_ | refine blk_alloc ?_ _)); exact BK443.out) hb); have n5_ := Aside0.mk (below_step (by repeat (first | (with_reducible first | exact HB.out | apply below_alloc | apply pw_below_drewN | apply below_drew1 | refine below_set ?_ GE432.out | refine below_set ?_ GE443.out) | exact HB.out)) hb); clear HO_9; clear HO_13; clear BK432; clear BK443; clear HB; have HO_9 := n0_; have HO_13 := n1_; have HO455 := n2_; have BK432 := n3_; have BK443 := n4_; have HB := n5_; clear n0_ n1_ n2_ n3_ n4_ n5_; (try clear hb); (try clear hb2); (try clear hk); (try clear hi); (try clear ho0)))
                go_ret
                exact ⟨by first | rfl | (simp [errW_none, errW_some] <;> rfl) | (simp [*, errW_none, errW_some] <;> rfl), by repeat (first | (with_reducible first | exact HB.out | apply below_alloc | apply pw_below_drewN | apply below_drew1 | refine below_set ?_ GE432.out | refine below_set ?_ GE443.out) | exact HB.out)⟩
 ·rw [if_neg c7] at H
  exact absurd H (by simp)
end Go.Proofs.Ytgffddbhnggllaa.QF
namespace Go.Proofs.Ytgffddbhnggllaa.Ed
open Go.RowKit Go.Proofs.YtgffddbhnggllaaW.PrintWords QF
theorem sameO_self (L : List S41) (hL : L.length ≤ 100000) : Ev (fun k => letterbagkit_SameOrders.f k L L) true := by
  have key : ∀ (m i : Nat), L.length - i = m → i ≤ L.length → Ev (fun k => letterbagkit_SameOrders.l0 k L L (i : Int)) true := by
    intro m
    induction m with
    | zero =>
      intro i hm hi
      obtain rfl : i = L.length := by omega
      refine Ev.step (f := fun _ => some true) (fun k => ?_) (Ev.now _)
      rw [letterbagkit_SameOrders.l0, if_neg (by omega)]
    | succ m ih =>
      intro i hm hi
      have next := ih (i + 1) (by omega) (by omega)
      rw [← wsucc i (by omega)] at next
      refine Ev.step (fun k => ?_) next
      rw [letterbagkit_SameOrders.l0, if_pos (by omega), if_pos (by omega), if_pos (by omega), if_neg (by simp)]
  refine Ev.congr (f := fun k => letterbagkit_SameOrders.l0 k L L ((0 : Nat) : Int)) (fun k => ?_) (key _ 0 rfl (by omega))
  unfold letterbagkit_SameOrders.f
  rw [if_pos rfl]; rfl
theorem right_ev (o : S41) (k : Nat) (hk : 9 ≤ k) : order_right.f k o.f0 o.f1 o.f2 o.f3 o.f4 o.f5 = some (rightO o) :=
  at_rounds (fun k => order_right.mono o.f0 o.f1 o.f2 o.f3 o.f4 o.f5 k) hk (right_f o)
theorem find_none {L : List S41} {id : Int} (h : ∀ o ∈ L, o.f0 ≠ id) : findF L id = -1 := by
  unfold findF; exact idxP_none _ L 0 (fun o ho => beq_eq_false_iff_ne.2 (h o ho))
theorem add_good {L : List S41} (h : rightL L = true) (hl : L.length < 500) (x : S41) (hx : rightO x = true) (hno : ∀ o ∈ L, o.f0 ≠ x.f0) (k : Nat) (hk : 9 ≤ k) : order_Add.f k L x.f0 x.f1 x.f2 x.f3 x.f4 x.f5 = some (L ++ [x], 0) := by
  obtain ⟨m, rfl⟩ : ∃ m, k = m + 1 := ⟨k - 1, by omega⟩
  unfold order_Add.f order_Right.f
  rw [Option.bind_some, h, if_pos rfl, right_ev x _ hk, Option.bind_some, hx]
  rw [order_Add.j0, if_neg (by simp)]
  unfold order_find.f api_Order_74.f
  rw [if_pos (by omega), Option.bind_some, find_none hno, if_neg (by omega), if_neg (by omega), if_pos (by omega), Option.bind_some, Option.bind_some, if_pos (by simp; omega)]
theorem cancel_new {L : List S41} (x : S41) (h : rightL (L ++ [x]) = true) (hno : ∀ o ∈ L, o.f0 ≠ x.f0) : cancelF (L ++ [x]) x.f0 = (L, 0) := by
  unfold cancelF
  have hf : findF (L ++ [x]) x.f0 = L.length := by
    unfold findF
    refine idxP_hit _ _ L.length (by simp) (fun j hj hj' => ?_) (by simp)
    rw [List.getElem_append_left hj]
    exact beq_eq_false_iff_ne.2 (hno _ (List.getElem_mem hj))
  rw [if_pos h, hf, if_neg (by omega), Int.toNat_natCast]
  simp
theorem sort_snoc {M : List S41} {x : S41} (hn : ((M ++ [x]).map (·.f0)).Nodup) : sortO (M ++ [x]) = insO x (sortO M) := by
  refine sorted_one hn (sortO_perm _) ?_ (sortO_sorted _) (insO_sorted _ _ (sortO_sorted _))
  refine (insO_perm _ _).trans ?_
  refine ((sortO_perm M).cons x).trans ?_
  exact (List.perm_append_singleton x M).symm
theorem head_ins (x : S41) (l : List S41) : (idF (insO x l) = x.f0 ∨ idF (insO x l) = idF l) ∧ (l = [] → idF (insO x l) = x.f0) := by
  cases l with
  | nil => exact ⟨.inl rfl, fun _ => rfl⟩
  | cons y l =>
    unfold insO
    split
    · exact ⟨.inl rfl, fun h => by cases h⟩
    · exact ⟨.inr rfl, fun h => by cases h⟩
theorem on_add {L : List S41} {x : S41} (hn : ((L ++ [x]).map (·.f0)).Nodup) (p d : Int) : onF (ofF (L ++ [x]) p) d = if hitO p d x = true then insO x (onF (ofF L p) d) else onF (ofF L p) d := by
  have e : (ofF (L ++ [x]) p).filter (fun o => coversO o d) = (ofF L p).filter (fun o => coversO o d) ++ (if hitO p d x = true then [x] else []) := by
    unfold ofF
    rw [List.filter_append, List.filter_append]
    congr 1
    unfold hitO
    by_cases h : x.f1 = p <;> by_cases h2 : coversO x d = true <;> simp [List.filter_cons, h, h2]
  unfold onF
  rw [e]
  split
  · refine sort_snoc ?_
    rw [← if_pos (c := hitO p d x = true) (t := [x]) (e := []) (by assumption), ← e]
    exact nd_filter (nd_filter hn _) _
  · rw [List.append_nil]
theorem idF_zero {L : List S41} (h : ∀ o ∈ L, 1 ≤ o.f0) (e : idF L = 0) : L = [] := by
  cases L with
  | nil => rfl
  | cons o r => have := h o (by simp); unfold idF at e; simp only at e; omega
theorem changes_end (L : List S41) (hL : L.length ≤ 20) (hr : rightL L = true) (hids : ∀ o ∈ L, 1 ≤ o.f0) (x : S41) (hx : rightO x = true) (hno : ∀ o ∈ L, o.f0 ≠ x.f0) (a2 a3 : Int) (h3 : 0 ≤ a2) (h4 : a2 ≤ 255) (h5 : 0 ≤ a3) (h6 : a3 ≤ 255) :
    Ev (fun k => letterbaglaw35_OrderChanges.j0 k a2 a3 L x.f0 x.f1 x.f2 x.f3 x.f4 x.f5) true := by
  have p0 : 1 ≤ 1 + a2 % 6 := by omega
  have p1 : 1 + a2 % 6 ≤ 999999 := by omega
  have d0 : 0 ≤ a3 % 110 := by omega
  have d1 : a3 % 110 ≤ 730484 := by omega
  have hn : ((L ++ [x]).map (·.f0)).Nodup := by
    rw [List.map_append, List.nodup_append]
    refine ⟨right_nd hr, by simp, fun a ha b hb => ?_⟩
    obtain ⟨o, ho, rfl⟩ := List.mem_map.1 ha
    simp at hb
    subst hb
    exact hno o ho
  have hr2 : rightL (L ++ [x]) = true := rightL_mk (by simp; omega) (fun o ho => by
    rcases List.mem_append.1 ho with h | h
    · exact right_all hr o h
    · simp at h; subst h; exact hx) hn
  have i1 := in_f hr p0 p1 d0 d1
  have i2 := in_f hr2 p0 p1 d0 d1
  rw [on_add hn] at i2
  have hA : ∀ o ∈ onF (ofF L (1 + a2 % 6)) (a3 % 110), 1 ≤ o.f0 := fun o ho => hids o (mem_ofF.1 (mem_onF.1 ho).1).1
  have hpt := pt_eq a2 h3 h4
  have hday := day_eq a3 h5 h6
  generalize 1 + a2 % 6 = p at *
  generalize a3 % 110 = d at *
  generalize onF (ofF L p) d = A at *
  have ha : Ev (fun k => order_Add.f k L x.f0 x.f1 x.f2 x.f3 x.f4 x.f5) (L ++ [x], 0) := ⟨9, fun k hk => add_good hr (by omega) x hx hno k hk⟩
  have hj4 : Ev (fun k => letterbaglaw35_OrderChanges.j4 k L (L ++ [x]) false x.f0 x.f1 x.f2 x.f3 x.f4 x.f5) true := by
    refine Ev.step (f := fun k => (letterbagkit_SameOrders.f k L L).bind fun t456 => (if t456 = true then ((letterbaglaw35_awake.f).bind fun t457 => (some t457)) else (some false))) (fun k => ?_) ?_
    · rw [letterbaglaw35_OrderChanges.j4, if_neg (by simp)]
      unfold order_Cancel.f
      rw [cancel_new x hr2 hno, Option.bind_some, if_pos rfl]
    · refine Ev.bind (sameO_self L (by omega)) ?_
      exact ⟨0, fun k _ => rfl⟩
  have hj1 : Ev (fun k => letterbaglaw35_OrderChanges.j1 k L p d (L ++ [x]) (idF A) (idF (if hitO p d x = true then insO x A else A)) false x.f0 x.f1 x.f2 x.f3 x.f4 x.f5) true := by
    have yes : hitO p d x = true → Ev (fun k => letterbaglaw35_OrderChanges.j2 k L (L ++ [x]) (idF A) (idF (if hitO p d x = true then insO x A else A)) true x.f0 x.f1 x.f2 x.f3 x.f4 x.f5) true := by
      intro h
      rw [if_pos h]
      have hh := head_ins x A
      have hj3 : Ev (fun k => letterbaglaw35_OrderChanges.j3 k L (L ++ [x]) (idF A) (idF (insO x A)) true false x.f0 x.f1 x.f2 x.f3 x.f4 x.f5) true := by
        refine Ev.step (fun k => ?_) hj4
        rw [letterbaglaw35_OrderChanges.j3, if_neg (by simp), if_pos rfl]
        by_cases e : idF A = 0
        · rw [if_pos e, bne_eq_false_iff_eq.2 (hh.2 (idF_zero hA e))]
        · rw [if_neg e]
      refine Ev.step (fun k => ?_) hj3
      rw [letterbaglaw35_OrderChanges.j2]
      by_cases e : idF (insO x A) = idF A
      · rw [if_pos e]
      · rw [if_neg e, if_pos rfl]
        rcases hh.1 with q | q
        · rw [beq_iff_eq.2 q]; rfl
        · exact absurd q e
    have no : hitO p d x = false → Ev (fun k => letterbaglaw35_OrderChanges.j2 k L (L ++ [x]) (idF A) (idF (if hitO p d x = true then insO x A else A)) false x.f0 x.f1 x.f2 x.f3 x.f4 x.f5) true := by
      intro h
      rw [h, if_neg (by simp)]
      refine Ev.step (f := fun k => letterbaglaw35_OrderChanges.j3 k L (L ++ [x]) (idF A) (idF A) false false x.f0 x.f1 x.f2 x.f3 x.f4 x.f5) (fun k => ?_) (Ev.step (fun k => ?_) hj4)
      · rw [letterbaglaw35_OrderChanges.j2, if_pos rfl]
      · rw [letterbaglaw35_OrderChanges.j3, if_neg (by simp), if_neg (by simp)]
    generalize idF (if hitO p d x = true then insO x A else A) = aft at yes no ⊢
    have hcov : hitO p d x = (x.f1 == p && coversO x d) := rfl
    by_cases h1 : x.f1 = p
    · rw [beq_iff_eq.2 h1, Bool.true_and] at hcov
      by_cases h2 : x.f3 ≤ d
      · by_cases h3 : x.f5 = 1
        · refine Ev.step (fun k => ?_) (yes (by rw [hcov]; exact covers_iff.2 ⟨h2, .inl h3⟩))
          rw [letterbaglaw35_OrderChanges.j1, if_neg (by simp), if_pos h1, if_pos h2, if_pos h3]
        · by_cases h4 : d ≤ x.f4
          · refine Ev.step (fun k => ?_) (yes (by rw [hcov]; exact covers_iff.2 ⟨h2, .inr h4⟩))
            rw [letterbaglaw35_OrderChanges.j1, if_neg (by simp), if_pos h1, if_pos h2, if_neg h3, decide_eq_true h4]
          · refine Ev.step (fun k => ?_) (no (by
              rw [hcov]
              cases hc : coversO x d with
              | false => rfl
              | true => have := covers_iff.1 hc; omega))
            rw [letterbaglaw35_OrderChanges.j1, if_neg (by simp), if_pos h1, if_pos h2, if_neg h3, decide_eq_false h4]
      · refine Ev.step (fun k => ?_) (no (by
          rw [hcov]
          cases hc : coversO x d with
          | false => rfl
          | true => have := covers_iff.1 hc; omega))
        rw [letterbaglaw35_OrderChanges.j1, if_neg (by simp), if_pos h1, if_neg h2]
    · refine Ev.step (fun k => ?_) (no (by rw [hcov, beq_eq_false_iff_ne.2 h1]; rfl))
      rw [letterbaglaw35_OrderChanges.j1, if_neg (by simp), if_neg h1]
  refine Ev.step (f := fun k => (order_Add.f k L x.f0 x.f1 x.f2 x.f3 x.f4 x.f5).bind fun bt444 => ((letterbaglaw35_in.f L p d).bind fun bt448 => ((letterbaglaw35_in.f bt444.1 p d).bind fun bt450 => (if bt444.2 = 0 then (if bt448.2 = true then (letterbaglaw35_OrderChanges.j1 k L p d bt444.1 bt448.1 bt450.1 (!bt450.2) x.f0 x.f1 x.f2 x.f3 x.f4 x.f5) else (letterbaglaw35_OrderChanges.j1 k L p d bt444.1 bt448.1 bt450.1 true x.f0 x.f1 x.f2 x.f3 x.f4 x.f5)) else (letterbaglaw35_OrderChanges.j1 k L p d bt444.1 bt448.1 bt450.1 true x.f0 x.f1 x.f2 x.f3 x.f4 x.f5))))) (fun k => ?_) ?_
  · rw [letterbaglaw35_OrderChanges.j0, hpt, hday]
  · refine Ev.bind ha ?_
    refine Ev.congr (fun k => ?_) hj1
    rw [i1, Option.bind_some, i2, Option.bind_some, if_pos rfl, if_pos rfl]; rfl
theorem changes_true (l : List S72) (ok : ∀ f ∈ l, okS f) (f : S72) (okf : okS f) (a2 a3 : Int) (h3 : 0 ≤ a2) (h4 : a2 ≤ 255) (h5 : 0 ≤ a3) (h6 : a3 ≤ 255) : ∃ k, letterbaglaw35_OrderChanges.f k l f.f0 f.f1 f.f2 f.f3 f.f4 a2 a3 = some true := by
  have hr := built_right l ok
  have hlen := built_len l
  have hall := built_all l ok
  have hb := built_one 0 f okf
  have hbf : ∀ k, 41 ≤ k → letterbaglaw35_Built.f k [(⟨f.f0, f.f1, f.f2, f.f3, f.f4⟩ : S72)] = some [builtO 0 f] := fun k hk => built_f [f] (fun g hg => by rw [List.mem_singleton] at hg; subst hg; exact okf) k hk
  generalize builtO 0 f = y at hb hbf
  have hx : ∀ id : Int, 100 ≤ id → id ≤ 1000 → rightO ⟨id, y.f1, y.f2, y.f3, y.f4, y.f5⟩ = true := by
    intro id i1 i2
    have := hb.right
    unfold rightO at this ⊢
    simp only [Bool.and_eq_true] at this ⊢
    exact ⟨inB_true (by omega) (by omega), this.2⟩
  have hev : ∀ id : Int, 100 ≤ id → id ≤ 1000 → Ev (fun k => letterbaglaw35_OrderChanges.j0 k a2 a3 (builtL l) id y.f1 y.f2 y.f3 y.f4 y.f5) true := fun id i1 i2 =>
    changes_end (builtL l) hlen hr (fun o ho => (hall o ho).id.1) ⟨id, y.f1, y.f2, y.f3, y.f4, y.f5⟩ (hx id i1 i2) (fun o ho => by have := (hall o ho).id; show o.f0 ≠ id; omega) a2 a3 h3 h4 h5 h6
  obtain ⟨⟨a0, b0⟩, ⟨a1, b1⟩, ⟨a2', b2⟩, ⟨a3', b3⟩, ⟨a4, b4⟩⟩ := okf
  have e4 : wrap64 (999 - wrap64 f.f4) = 999 - f.f4 := by rw [w64n f.f4 (by omega) (by omega), w64n _ (by omega) (by omega)]
  by_cases h : Int.tmod f.f4 2 = 0
  · obtain ⟨K, hK⟩ := hev (999 - f.f4) (by omega) (by omega)
    refine ⟨max K 41, ?_⟩
    unfold letterbaglaw35_OrderChanges.f
    rw [built_f l ok _ (by omega), Option.bind_some, hbf _ (by omega), Option.bind_some, if_pos (by simp), if_pos h, e4]
    exact hK _ (by omega)
  · obtain ⟨K, hK⟩ := hev 1000 (by omega) (by omega)
    refine ⟨max K 41, ?_⟩
    unfold letterbaglaw35_OrderChanges.f
    rw [built_f l ok _ (by omega), Option.bind_some, hbf _ (by omega), Option.bind_some, if_pos (by simp), if_neg h]
    exact hK _ (by omega)
theorem changes_walk (A : Option Addr) (len cap : Nat) (l : List S72) (b0 b1 b2 b3 b4 a2 a3 : Int) (w : World) (h1 : l.length = len) (h2 : len ≤ cap) (h3 : Kd.C k72 w A len l) (h4 : ∀ o ∈ l, okS o) (g0 : (Lit.int .u8 b0).wf = true) (g1 : (Lit.int .u8 b1).wf = true) (g2 : (Lit.int .u8 b2).wf = true) (g3 : (Lit.int .u8 b3).wf = true) (g4 : (Lit.int .u8 b4).wf = true) (h6 : (Lit.int .u8 a2).wf = true) (h7 : (Lit.int .u8 a3).wf = true) :
    Calls Try.prog 11 #[.slice A len cap, .agg #[.int .u8 b0, .int .u8 b1, .int .u8 b2, .int .u8 b3, .int .u8 b4], .int .u8 a2, .int .u8 a3] w fun e w' => e = .returned (.bool true) ∧ Below w.heap.size w w' := by
  subst h1
  obtain ⟨k, h⟩ := changes_true l h4 ⟨b0, b1, b2, b3, b4⟩ ⟨u8_in g0, u8_in g1, u8_in g2, u8_in g3, u8_in g4⟩ a2 a3 (u8_in h6).1 (u8_in h6).2 (u8_in h7).1 (u8_in h7).2
  exact letterbaglaw35_OrderChanges.calls k A cap l b0 b1 b2 b3 b4 a2 a3 true w h3 h2 h
end Go.Proofs.Ytgffddbhnggllaa.Ed
namespace Go.Proofs.Ytgffddbhnggllaa.Ed
open Go.RowKit Go.Proofs.YtgffddbhnggllaaW.PrintWords QF Go.ChangeShapes Go.WideShapes Go.Deep Go.Joins
theorem array5 {α : Type} {cs : Array α} (h : cs.size = 5) : ∃ c0 c1 c2 c3 c4, cs = #[c0, c1, c2, c3, c4] := by
  obtain ⟨l⟩ := cs
  match l, h with
  | [c0, c1, c2, c3, c4], _ => exact ⟨c0, c1, c2, c3, c4, rfl⟩
section
variable {H : Type} {enc : TypeId × Value → H} {P : Program} {w : World} {base : Nat} {spare : Nat → Bool} {held : Bool}
theorem open_agg5 {r : Reach} {b0 : Nat} {t : TypeId} {f0 f1 f2 f3 f4 : Field} {v : Value} {d : DataW H} {p : List MemPlace} (hs : P.underlying t = some (.struct #[f0, f1, f2, f3, f4])) (hone : oneCellFields P #[f0, f1, f2, f3, f4] = true) (hC : P.cellsOf t = 5)
    (hv : Value.okWide P w r b0 t v) (h : DataW.Trod enc P w base spare held t v d p) :
    ∃ (v0 v1 v2 v3 v4 : Value) (y0 y1 y2 y3 y4 : DataW H × List MemPlace) (n : Nat), v = .agg #[v0, v1, v2, v3, v4] ∧ d = .agg [y0.1, y1.1, y2.1, y3.1, y4.1] ∧ p = y0.2 ++ (y1.2 ++ (y2.2 ++ (y3.2 ++ y4.2))) ∧
      DataW.trod enc P w base spare held n f0.type [v0] = some y0 ∧ DataW.trod enc P w base spare held n f1.type [v1] = some y1 ∧ DataW.trod enc P w base spare held n f2.type [v2] = some y2 ∧ DataW.trod enc P w base spare held n f3.type [v3] = some y3 ∧ DataW.trod enc P w base spare held n f4.type [v4] = some y4 := by
  obtain ⟨cs, rfl, hsz⟩ := okWide_struct hs hv
  obtain ⟨c0, c1, c2, c3, c4, rfl⟩ := array5 (hsz.trans hC)
  obtain ⟨fuel, hf⟩ := h
  obtain ⟨xs, n, _, hx, hl, hlen, hf⟩ := DataW.trod_struct hs hf
  match xs, hlen, hx, hf with
  | [y0, y1, y2, y3, y4], _, hx, hf =>
    have h0 := hf 0 f0 rfl
    have h1 := hf 1 f1 rfl
    have h2 := hf 2 f2 rfl
    have h3 := hf 3 f3 rfl
    have h4 := hf 4 f4 rfl
    obtain ⟨o0, k0⟩ := hone_of hone 0 f0 rfl
    obtain ⟨o1, k1⟩ := hone_of hone 1 f1 rfl
    obtain ⟨o2, k2⟩ := hone_of hone 2 f2 rfl
    obtain ⟨o3, k3⟩ := hone_of hone 3 f3 rfl
    obtain ⟨o4, k4⟩ := hone_of hone 4 f4 rfl
    simp only [Prod.mk.injEq] at hx
    exact ⟨c0, c1, c2, c3, c4, y0, y1, y2, y3, y4, n, rfl, by rw [hx.1]; rfl, by rw [hx.2]; simp, by simpa [Value.cells, o0, k0] using h0, by simpa [Value.cells, o1, k1] using h1, by simpa [Value.cells, o2, k2] using h2, by simpa [Value.cells, o3, k3] using h3, by simpa [Value.cells, o4, k4] using h4⟩
theorem shut_agg5 {t : TypeId} {f0 f1 f2 f3 f4 : Field} {v0 v1 v2 v3 v4 : Value} {y0 y1 y2 y3 y4 : DataW H × List MemPlace} (hs : P.underlying t = some (.struct #[f0, f1, f2, f3, f4])) (hone : oneCellFields P #[f0, f1, f2, f3, f4] = true) (hC : P.cellsOf t = 5)
    (t0 : ∃ n, DataW.trod enc P w base spare held n f0.type [v0] = some y0) (t1 : ∃ n, DataW.trod enc P w base spare held n f1.type [v1] = some y1) (t2 : ∃ n, DataW.trod enc P w base spare held n f2.type [v2] = some y2) (t3 : ∃ n, DataW.trod enc P w base spare held n f3.type [v3] = some y3) (t4 : ∃ n, DataW.trod enc P w base spare held n f4.type [v4] = some y4) :
    DataW.Trod enc P w base spare held t (.agg #[v0, v1, v2, v3, v4]) (.agg [y0.1, y1.1, y2.1, y3.1, y4.1]) (y0.2 ++ (y1.2 ++ (y2.2 ++ (y3.2 ++ y4.2)))) := by
  obtain ⟨n0, t0⟩ := t0
  obtain ⟨o0, k0⟩ := hone_of hone 0 f0 rfl
  obtain ⟨n1, t1⟩ := t1
  obtain ⟨o1, k1⟩ := hone_of hone 1 f1 rfl
  obtain ⟨n2, t2⟩ := t2
  obtain ⟨o2, k2⟩ := hone_of hone 2 f2 rfl
  obtain ⟨n3, t3⟩ := t3
  obtain ⟨o3, k3⟩ := hone_of hone 3 f3 rfl
  obtain ⟨n4, t4⟩ := t4
  obtain ⟨o4, k4⟩ := hone_of hone 4 f4 rfl
  have ts := trod_struct_mk (enc := enc) (w := w) (base := base) (spare := spare) (held := held) (n := n0 + n1 + n2 + n3 + n4) (cs := [v0, v1, v2, v3, v4]) (xs := [y0, y1, y2, y3, y4]) hs (by simp [hC])
    (by simp [o0, k0, o1, k1, o2, k2, o3, k3, o4, k4, DataW.trod_le (show n0 ≤ n0 + n1 + n2 + n3 + n4 by omega) t0, DataW.trod_le (show n1 ≤ n0 + n1 + n2 + n3 + n4 by omega) t1, DataW.trod_le (show n2 ≤ n0 + n1 + n2 + n3 + n4 by omega) t2, DataW.trod_le (show n3 ≤ n0 + n1 + n2 + n3 + n4 by omega) t3, DataW.trod_le (show n4 ≤ n0 + n1 + n2 + n3 + n4 by omega) t4])
  exact ⟨_, by simpa [Value.cells] using ts⟩
end
end Go.Proofs.Ytgffddbhnggllaa.Ed
namespace Go.Proofs.Ytgffddbhnggllaa.orderChanges
open Go.ChangeShapes Go.WideShapes Go.ChangeAt Go.RowKit Go.Joins
open Go.ChangeMaps (open_string shut_string)
set_option linter.unusedVariables false
theorem own : ownKnob Try.prog.godebug = none := by kernel_rfl
theorem laidOut : laidOutB Try.prog = true := by kernel_rfl
set_option maxRecDepth 100000 in
theorem lifted (os : Os) (started : os.Started) (H : Type) (enc : TypeId × Value → H) :
    ReturnsInHanded {} Try.checked os 11 .any (Rows.orderChangesSpec.pre6 enc Try.prog Try.f11 Rows.orderChangesRow.domain false) (Rows.orderChangesSpec.post enc Try.prog Try.f11 false true false false) := by
  refine returnsInHanded_of_change_sized (C := Try.checked) own started (by kernel_rfl) Try.func11
    (ChangeSpec.witness6 (enc := enc) (C := Try.checked) false ⟨#[], #[.slice none 0 0, .agg #[.int .u8 0, .int .u8 0, .int .u8 0, .int .u8 0, .int .u8 0], .int .u8 0, .int .u8 0], []⟩ 8 (by kernel_rfl) (by kernel_rfl) (by kernel_rfl) (by kernel_rfl)) ?_
  intro W base args ds gs before hval0 hW hcnd hsz0 _
  have hsz : (DataW.weightsEach Try.prog (Try.f11.params.toList ++ Rows.orderChangesSpec.plain.varTypes Try.prog) (ds ++ gs)).all (· ≤ reachBytes) = true := hsz0
  have hval : ∀ (j : Nat) t v, Try.f11.params[j]? = some t → args[j]? = some v → Value.okWide Try.prog W .any base t v := hval0
  have hW' := hW
  obtain ⟨p, q, hA0, hV, rfl, hfz, hnd⟩ := hW
  have hA : DataW.TrodAll enc Try.prog W 0 (fun _ => true) true Try.f11.params.toList args.toList ds p := hA0
  rw [Try.params11] at hA hval hsz
  obtain ⟨v0, vs0, d0, ds0, p0, q0, hargs, rfl, rfl, h0, r0⟩ := trodAll_cons hA
  obtain ⟨v1, vs1, d1, ds1, p1, q1, rfl, rfl, rfl, h1, r1⟩ := trodAll_cons r0
  obtain ⟨v2, vs2, d2, ds2, p2, q2, rfl, rfl, rfl, h2, r2⟩ := trodAll_cons r1
  obtain ⟨v3, vs3, d3, ds3, p3, q3, rfl, rfl, rfl, h3, r3⟩ := trodAll_cons r2
  obtain ⟨rfl, rfl, rfl⟩ := trodAll_nil r3
  obtain rfl : args = #[v0, v1, v2, v3] := by cases args; simp_all
  obtain ⟨rfl, rfl⟩ := trodVars_none hV
  obtain ⟨a0, len0, cap0, rfl⟩ := okWide_slice Try.underlying22 (hval 0 22 v0 rfl rfl)
  have k0 := h0
  have lt0 : ∀ x ∈ p0, x.block < W.heap.size := by obtain ⟨m, hm⟩ := k0; exact DataW.trod_lt m _ _ _ hm
  obtain ⟨z0, n0, l0, w0, b0⟩ := Ed.open_forms h0 rfl
  obtain ⟨c10, c11, c12, c13, c14, z10, z11, z12, z13, z14, m1, rfl, rfl, rfl, g10, g11, g12, g13, g14⟩ := Ed.open_agg5 Try.underlying72 (by kernel_rfl) (by kernel_rfl) (hval 1 72 v1 rfl rfl) h1
  obtain ⟨a10, e10, rfl, w10⟩ := DataW.trod_int Try.underlying5 g10
  obtain ⟨a11, e11, rfl, w11⟩ := DataW.trod_int Try.underlying5 g11
  obtain ⟨a12, e12, rfl, w12⟩ := DataW.trod_int Try.underlying5 g12
  obtain ⟨a13, e13, rfl, w13⟩ := DataW.trod_int Try.underlying5 g13
  obtain ⟨a14, e14, rfl, w14⟩ := DataW.trod_int Try.underlying5 g14
  simp only [List.cons.injEq, and_true] at e10 e11 e12 e13 e14
  subst e10 e11 e12 e13 e14
  obtain ⟨a2, rfl, rfl, rfl, w2⟩ := open_int Try.underlying5 (hval 2 5 v2 rfl rfl) h2
  obtain ⟨a3, rfl, rfl, rfl, w3⟩ := open_int Try.underlying5 (hval 3 5 v3 rfl rfl) h3
  clear hA0 hval0 hsz0 hsz
  refine (Ed.changes_walk a0 len0 cap0 z0 a10 a11 a12 a13 a14 a2 a3 W n0 l0 w0 b0 w10 w11 w12 w13 w14 w2 w3).mono fun e W' ⟨he, bel⟩ => ?_
  subst he
  exact ⟨_, rfl, _, _, _, [], _, [], hW', trodAll_mk1 (shut_bool Try.underlying4 _), (trodAll_cons_mk (Below.trod laidOut (by kernel_rfl) (of_decide_eq_true (by kernel_rfl)) k0 bel lt0) (trodAll_cons_mk (Ed.shut_agg5 (y0 := (.lit (.int .u8 a10), [])) (y1 := (.lit (.int .u8 a11), [])) (y2 := (.lit (.int .u8 a12), [])) (y3 := (.lit (.int .u8 a13), [])) (y4 := (.lit (.int .u8 a14), [])) Try.underlying72 (by kernel_rfl) (by kernel_rfl) (field_of_Trod (shut_int Try.underlying5 w10) rfl) (field_of_Trod (shut_int Try.underlying5 w11) rfl) (field_of_Trod (shut_int Try.underlying5 w12) rfl) (field_of_Trod (shut_int Try.underlying5 w13) rfl) (field_of_Trod (shut_int Try.underlying5 w14) rfl)) (trodAll_cons_mk (shut_int Try.underlying5 w2) (trodAll_cons_mk (shut_int Try.underlying5 w3) trodAll_mk0)))), rfl, bel.frame _, fun h => by cases h⟩
theorem over : Rows.orderChangesRow.holds Try.pinned (OpenSpec.ofChange Rows.orderChangesSpec) :=
  OpenClaim.holds_of_wide 11 Try.f11 rfl rfl rfl rfl rfl rfl rfl ⟨rfl, rfl, rfl, rfl, rfl⟩ rfl rfl rfl rfl rfl (by kernel_rfl) Try.func11 closed
    (of_decide_eq_true (by kernel_rfl)) (by unfold Func.isWrapper; first | (rw [if_pos (by decide +kernel)]; kernel_rfl) | (rw [if_neg (by decide +kernel)]; exact ⟨rfl, rfl⟩))
    (fun os started H enc _ => lifted os started H enc)
theorem proved : Rows.OrderChangesSaid := over
#print axioms proved
end Go.Proofs.Ytgffddbhnggllaa.orderChanges
namespace Go.Proofs.Ytgffddbhnggllaa
theorem orderChanges_holds : Rows.OrderChangesSaid := orderChanges.proved
end Go.Proofs.Ytgffddbhnggllaa
