/- A part of the texts of one claim: the walk of the code by hand-proved contracts, and the plain law. -/
import Derived.JoinedOf
import Derived.Test.YtgffddbhnggllaaRows
import Derived.Deep.RegionLaw
import Derived.WalkKit
import Derived.ProofKit
import Derived.OpenShut
import Derived.ShutString
import Derived.ChangeOld
import Derived.Below
import Derived.SizedLaws
import Derived.Lib.SmallJoins
import Derived.Deep.Slices
import Derived.Deep.Fields
import Derived.ChangeSame
import Derived.Test.YtgffddbhnggllaaKAe1
set_option linter.unusedVariables false
set_option linter.unusedSimpArgs false
namespace Go.Proofs.Ytgffddbhnggllaa.Ed
theorem both_t {a b : Bool} (h : a = true) (k : b = true) : (a && b) = true := by rw [h, k]; rfl
theorem cl1 : (laidOutB Try.pinned.checked.prog) = true := by kernel_rfl
theorem cl2 : (mapsRowed Try.pinned.checked.prog) = true := by kernel_rfl
theorem cl6 : ((Try.pinned.checked.prog.stops == [])) = true := by kernel_rfl
theorem cl8 : ((Try.pinned.checked.prog.stopKnobs == [])) = true := by kernel_rfl
theorem cl24 : (Try.pinned.checked.prog.stopsHeard) = true := by kernel_rfl
theorem cl25 : (Try.pinned.checked.prog.mayEnter) = true := by kernel_rfl
end Go.Proofs.Ytgffddbhnggllaa.Ed
namespace Go.Proofs.Ytgffddbhnggllaa.orderCancels
theorem cl0 : (Rows.orderCancelsRow.wf (OpenSpec.ofChange Rows.orderCancelsSpec)) = true := by kernel_rfl
theorem cl3 : (Try.f9.params.all (Try.pinned.checked.prog.readableRec ·)) = true := by kernel_rfl
theorem cl4 : (namedTie Try.pinned.checked.prog Rows.orderCancelsRow.named Rows.orderCancelsSpec.vars) = true := by kernel_rfl
theorem cl5 : ((Rows.orderCancelsRow.stops == [])) = true := by kernel_rfl
theorem cl7 : ((Rows.orderCancelsRow.knobs == [])) = true := by kernel_rfl
theorem cl9 : ((Rows.orderCancelsRow.inPlace == Try.pinned.checked.prog.inPlace 9)) = true := by kernel_rfl
theorem cl10 : ((Rows.orderCancelsRow.unfollowed == Try.pinned.checked.prog.unfollowed 9)) = true := by kernel_rfl
theorem cl11 : ((Rows.orderCancelsRow.recurses == Try.pinned.checked.prog.recurses 9)) = true := by kernel_rfl
theorem cl12 : ((Rows.orderCancelsRow.named == Try.pinned.checked.prog.varsNamed 9)) = true := by kernel_rfl
theorem cl13 : ((Rows.orderCancelsRow.maps == (Try.f9.params.toList ++ Rows.orderCancelsSpec.plain.varTypes Try.pinned.checked.prog).any (Try.pinned.checked.prog.mapsRec ·))) = true := by kernel_rfl
theorem cl14 : ((Rows.orderCancelsRow.ifaces == (Try.f9.params.toList ++ Rows.orderCancelsSpec.plain.varTypes Try.pinned.checked.prog).any (Try.pinned.checked.prog.ifacesRec ·))) = true := by kernel_rfl
theorem cl15 : ((Rows.orderCancelsRow.mapsOut == Try.pinned.checked.prog.mapsAmong Try.f9.resultTypes.toList)) = true := by kernel_rfl
theorem cl16 : ((Rows.orderCancelsRow.loops == (Try.f9.params.toList ++ Rows.orderCancelsSpec.plain.varTypes Try.pinned.checked.prog).any (Try.pinned.checked.prog.loopsFrom ·))) = true := by kernel_rfl
theorem cl17 : ((Rows.orderCancelsRow.wideKeys == (Try.f9.params.toList ++ Rows.orderCancelsSpec.plain.varTypes Try.pinned.checked.prog ++ Try.f9.resultTypes.toList).any (Try.pinned.checked.prog.wideKeysFrom ·))) = true := by kernel_rfl
theorem cl18 : (Rows.orderCancelsSpec.vars.all (Try.pinned.checked.prog.varReadable ·)) = true := by kernel_rfl
theorem cl19 : (Try.f9.resultTypes.all (fun t => Try.pinned.checked.prog.readableRec t && decide (t < Try.pinned.checked.prog.types.size))) = true := by kernel_rfl
theorem cl20 : ((Rows.orderCancelsRow.ifacesOut == Try.f9.resultTypes.toList.any (Try.pinned.checked.prog.ifacesRec ·))) = true := by kernel_rfl
theorem cl21 : ((Rows.orderCancelsRow.loopsOut == Try.f9.resultTypes.toList.any (Try.pinned.checked.prog.loopsFrom ·))) = true := by kernel_rfl
theorem cl22 : ((Rows.orderCancelsRow.plainKeys == Try.pinned.checked.prog.plainKeys)) = true := by kernel_rfl
theorem cl23 : (Rows.orderCancelsRow.shortTexts.isNone) = true := by kernel_rfl
theorem cl26 : ((Rows.orderCancelsRow.lifted == Try.pinned.checked.prog.liftsFinal)) = true := by kernel_rfl
theorem cl27 : ((Try.pinned.checked.prog.make == some Rows.orderCancelsRow.make)) = true := by kernel_rfl
theorem cl28 : ((Rows.orderCancelsRow.kinds == (if Rows.orderCancelsRow.domain.isEmpty then [] else Try.f9.params.toList.map fun t => match Try.pinned.checked.prog.underlying t with | some (.int k) => some k | _ => none))) = true := by kernel_rfl
theorem cl29 : ((Rows.orderCancelsRow.pinned == Rows.orderCancelsRow.pinnedBy)) = true := by kernel_rfl
theorem cl30 : ((Rows.orderCancelsRow.veiled == (Try.f9.params.toList ++ Rows.orderCancelsSpec.plain.varTypes Try.pinned.checked.prog ++ Try.f9.resultTypes.toList).any (Try.pinned.checked.prog.veiledRec ·))) = true := by kernel_rfl
theorem cl31 : (Rows.orderCancelsRow.veiledFits Try.pinned.checked.prog Try.f9.params.toList (Try.f9.params.toList ++ Rows.orderCancelsSpec.plain.varTypes Try.pinned.checked.prog ++ Try.f9.resultTypes.toList)) = true := by kernel_rfl
set_option maxRecDepth 100000 in
theorem closed : joinedFacts Try.pinned.checked.prog 9 Try.f9 Rows.orderCancelsSpec Rows.orderCancelsRow = true := by
  unfold joinedFacts
  refine Ed.both_t ?_ cl31
  refine Ed.both_t ?_ cl30
  refine Ed.both_t ?_ cl29
  refine Ed.both_t ?_ cl28
  refine Ed.both_t ?_ cl27
  refine Ed.both_t ?_ cl26
  refine Ed.both_t ?_ Ed.cl25
  refine Ed.both_t ?_ Ed.cl24
  refine Ed.both_t ?_ cl23
  refine Ed.both_t ?_ cl22
  refine Ed.both_t ?_ cl21
  refine Ed.both_t ?_ cl20
  refine Ed.both_t ?_ cl19
  refine Ed.both_t ?_ cl18
  refine Ed.both_t ?_ cl17
  refine Ed.both_t ?_ cl16
  refine Ed.both_t ?_ cl15
  refine Ed.both_t ?_ cl14
  refine Ed.both_t ?_ cl13
  refine Ed.both_t ?_ cl12
  refine Ed.both_t ?_ cl11
  refine Ed.both_t ?_ cl10
  refine Ed.both_t ?_ cl9
  refine Ed.both_t ?_ Ed.cl8
  refine Ed.both_t ?_ cl7
  refine Ed.both_t ?_ Ed.cl6
  refine Ed.both_t ?_ cl5
  refine Ed.both_t ?_ cl4
  refine Ed.both_t ?_ cl3
  refine Ed.both_t ?_ Ed.cl2
  refine Ed.both_t ?_ Ed.cl1
  exact cl0
end Go.Proofs.Ytgffddbhnggllaa.orderCancels
namespace Go.Proofs.Ytgffddbhnggllaa.Ed
open Go.RowKit Go.Shelf Go.Proofs.YtgffddbhnggllaaW.PrintWords QF
def findF (l : List S41) (id : Int) : Int := idxP (fun o => o.f0 == id) l 0
def cancelF (l : List S41) (id : Int) : List S41 × Int :=
  if rightL l = true then (if findF l id < 0 then ([], 6) else (l.take (findF l id).toNat ++ l.drop ((findF l id).toNat + 1), 0)) else ([], 2)
set_option maxRecDepth 1000000 in
set_option maxHeartbeats 4000000 in
theorem lit96_calls (id : Int) (B : Nat) (W : World) (o : S41) (hB : W.heap[B]? = some (.cells #[.int .i64 id] 3 (0, 0))) :
    Calls Try.prog 96 (#[.agg (six o)] ++ #[.pointer (some ⟨B, 0, none⟩)]) W fun e W' => e = .returned (.bool (o.f0 == id)) ∧ Below W.heap.size W W' := by
  have c1 : W.cell? ⟨B, 0, none⟩ = some (.int .i64 id) := (blk_cell hB 0).trans rfl
  have hlt := blk_lt hB
  clear hB
  show Calls Try.prog 96 #[.agg #[.int .i64 o.f0, .int .i64 o.f1, .int .i64 o.f2, .int .i64 o.f3, .int .i64 o.f4, .int .u8 o.f5], .pointer (some ⟨B, 0, none⟩)] W _
  go_enter Try.func96, Try.ntmps96
  go_wp2
  go_ret
  exact ⟨rfl, below_alloc (Below.refl _ _) _⟩
set_option maxRecDepth 1000000 in
set_option maxHeartbeats 4000000 in
theorem find_calls (A0 : Option Addr) (c : Nat) (L : List S41) (id : Int) (w : World) (hr : Kd.C k41 w A0 L.length L) (hn : L.length ≤ 100000) :
    Calls Try.prog 72 #[.slice A0 L.length c, .int .i64 id] w fun e w' => e = .returned (.int .i64 (findF L id)) ∧ Below w.heap.size w w' := by
  have hb0 : Below w.heap.size w (w.alloc (.cells #[.int .i64 id] 3)) := below_alloc (Below.refl _ _) _
  have c1 := index95_calls 96 #[.pointer (some ⟨w.heap.size, 0, none⟩)] (enters_of Try.func96 (by kernel_rfl) rfl) (fun o => o.f0 == id) A0 c L (w.alloc (.cells #[.int .i64 id] 3)) (Kd.C_below hr hb0) hn (fun W x hb => lit96_calls id w.heap.size W x ((hb.block _ (by simp)).trans (blk_new _ _)))
  have HB0 := Lib.hid hb0
  clear hr hb0
  go_enter Try.func72, Try.ntmps72
  go_wp2_with (go_at_call 95; (with_reducible refine c1.mono ?_); rintro e w2 ⟨rfl, hb2⟩)
  go_ret
  exact ⟨rfl, HB0.out.trans (hb2.mono (by simp))⟩
set_option maxRecDepth 1000000 in
set_option maxHeartbeats 8000000 in
theorem delete73_calls (g cap i base : Nat) (L : List S41) (w : World) (hR : Rw w g cap L) (hg : base ≤ g) (hi : i < L.length) (hn : L.length ≤ 100000) (hbw : base ≤ w.heap.size) :
    Calls Try.prog 73 #[.slice (some ⟨g, 0, none⟩) L.length cap, .int .i64 i, .int .i64 ((i : Int) + 1)] w fun e w' => ∃ v', e = .returned v' ∧ RV w' base v' (L.take i ++ L.drop (i + 1)) ∧ Below base w w' := by
  have mixed : Try.prog.follows .mixedOrders = true := by kernel_rfl
  obtain ⟨i0, hi0, hz0, hz1, hz2⟩ := info_parts info41
  have hcap := hR.le
  have hmx := hR.mx
  unfold maxLen at hmx
  obtain ⟨M, hM⟩ : ∃ M, flat (L.drop (i + 1)) = M := ⟨_, rfl⟩
  have hMl : M.length = (L.length - (i + 1)) * 6 := by rw [← hM, flat_len, List.length_drop]
  have hcell : ∀ j u, M[j]? = some u → w.cell? ⟨g, (i + 1) * 6 + j, none⟩ = some u := by
    intro j u hu
    rw [← hM, ← flat_drop _ _ (by omega), List.getElem?_drop] at hu
    obtain ⟨rest, h1, h2⟩ := hR.cells
    rw [blk_cell h1, List.getElem?_toArray, List.getElem?_append_left (List.getElem?_eq_some_iff.1 hu).1]
    exact hu
  obtain ⟨A, hA, hnews⟩ : ∃ A : Addr, (if cap = i + 1 then some (⟨g, 0, none⟩ : Addr) else some ⟨g, (i + 1) * 6, none⟩) = some A ∧ Hid (∀ j u, M[j]? = some u → w.drew.cell? (A.add j) = some u) := by
    by_cases h : cap = i + 1
    · refine ⟨⟨g, 0, none⟩, by simp [h], fun j u hu => ?_⟩
      have h0 : M.length = 0 := by rw [hMl]; omega
      rw [List.length_eq_zero_iff.1 h0] at hu
      simp at hu
    · refine ⟨⟨g, (i + 1) * 6, none⟩, by simp [h], fun j u hu => ?_⟩
      rw [Addr.add_lit]
      exact hcell j u hu
  have s1 := Lib.hid hMl
  have s2 : Hid (∀ u ∈ M, u.oneCell' = true) := by rw [← hM]; exact flat_one _
  have s3 : Hid (∀ j, j < M.length → (w.drew.cell? ⟨g, 0 + i * 6 + j, none⟩).isSome = true ∧ w.drew.frozen? ⟨g, 0 + i * 6 + j, none⟩ = false) := by
    intro j hj
    refine ⟨?_, hR.frozen _⟩
    obtain ⟨rest, h1, h2⟩ := hR.cells
    show (w.cell? _).isSome = true
    rw [blk_cell h1, List.getElem?_toArray, List.getElem?_eq_getElem (by rw [List.length_append, flat_len]; omega)]; rfl
  have hic : i ≤ cap := by omega
  have e1 : (i : Int) ≤ (cap : Int) := by omega
  have e2 : (i : Int) + 1 ≤ (L.length : Int) := by omega
  have e3 : ((i : Int) == (i : Int) + 1) = false := beq_eq_false_iff_ne.2 (by omega)
  have e4 : (L.length : Int) ≤ (cap : Int) := by omega
  have hp0 : (0 : Int) ≤ (i : Int) + 1 := by omega
  have hp2 : ((i : Int) + 1).toNat = i + 1 := by omega
  have e5 : ¬ (i : Int) = (i : Int) + 1 := by omega
  have HR := Lib.hid hR
  have HM := Lib.hid hM
  clear hR hM hcell hMl
  obtain ⟨n1, hn1⟩ : ∃ n1, L.length = n1 + 1 := ⟨L.length - 1, by omega⟩
  have hR5 : Rw (w.drew.setCells g (0 + i * 6) M) g cap (L.take i ++ L.drop (i + 1) ++ L.drop n1) := by
    obtain ⟨rest, h1, h2⟩ := HR.out.cells
    obtain ⟨cur', h3, h4, h5⟩ := setCells_row M (0 + i * 6) w.drew (flat L ++ rest).toArray h1 (by simp only [List.size_toArray, List.length_append, flat_len]; have := s1.out; omega)
    refine ⟨⟨rest, ?_, ?_⟩, by rw [List.length_append, List.length_append, List.length_take, List.length_drop, List.length_drop]; omega, HR.out.mx⟩
    · rw [h3]
      congr 2
      apply Array.toList_inj.1
      rw [h5, s1.out, Nat.zero_add, List.take_append_of_le_length (by rw [flat_len]; omega), flat_take _ _ (by omega), show i * 6 + (L.length - (i + 1)) * 6 = n1 * 6 by omega, List.drop_append_of_le_length (by rw [flat_len]; omega), flat_drop _ _ (by omega), ← HM.out, flat_append, flat_append]
      simp
    · rw [List.length_append, flat_len, List.length_append, List.length_append, List.length_take, List.length_drop, List.length_drop]
      rw [List.length_append, flat_len] at h2
      omega
  have hB5 : Below base w (w.drew.setCells g (0 + i * 6) M) := below_cells M _ (Below.refl base w).drew hg
  have hlen5 : (L.take i ++ L.drop (i + 1) ++ L.drop n1).length = n1 + 1 := by rw [List.length_append, List.length_append, List.length_take, List.length_drop, List.length_drop]; omega
  have htk : (L.take i ++ L.drop (i + 1) ++ L.drop n1).take n1 = L.take i ++ L.drop (i + 1) := by
    have : n1 = (L.take i ++ L.drop (i + 1)).length := by rw [List.length_append, List.length_take, List.length_drop]; omega
    conv => lhs; rw [this]
    exact List.take_left
  have hcl0 : ∀ t, t < (L.length - n1) * 6 → ((w.drew.setCells g (0 + i * 6) M).cell? ⟨g, n1 * 6 + t, none⟩).isSome = true := fun t ht => by
    obtain ⟨rest, h1, h2⟩ := hR5.cells
    rw [blk_cell h1, List.getElem?_toArray, List.getElem?_eq_getElem (by rw [List.length_append, flat_len, hlen5]; omega)]; rfl
  have HR5 := Lib.hid hR5
  have HB5 := Lib.hid hB5
  have HTK := Lib.hid htk
  have HL5 := Lib.hid hlen5
  have HN1 := Lib.hid hn1
  have HC0 := Lib.hid hcl0
  have g1 : n1 < L.length := by omega
  have g2 : L.length ≤ n1 + 1 := by omega
  have g3 : i + (L.length - (i + 1)) = n1 := by omega
  have HG3 := Lib.hid g3
  have g4 : L.length - (i + 1) + i ≤ cap := by omega
  clear hR5 hB5 hlen5 htk hcl0 g3
  have hn1le : n1 ≤ 100000 := by omega
  have hn1c : (n1 : Int) ≤ (L.length : Int) := by omega
  clear hn1
  go_enter Try.func73, Try.ntmps73
  go_wp2
  go_region_law (refine step_append_room rfl (.tmp 22) (.tmp 25) 24 rfl 41 i0 6 Try.underlying24 hi0 hz1 g 0 i cap (by simp [Act.eval, Act.put]) A (L.length - (i + 1)) (cap - (i + 1)) M (by simp [Act.eval, Act.put]) s1.out hnews.out s2.out (by omega) s3.out ?_)
  rw [HG3.out]
  simp only [Nat.zero_add] at HR5 HB5 HC0
  try simp only [Nat.zero_add]
  obtain ⟨W5, hW5⟩ : ∃ W5, w.drew.setCells g (i * 6) M = W5 := ⟨_, rfl⟩
  rw [hW5] at HR5 HB5 HC0 ⊢
  clear hW5 s3 hnews hA
  obtain ⟨vs, hvl, hcl⟩ := run_clear6 W5 24 Try.underlying24 g (n1 * 6) (L.length - n1) (cap - n1) (by omega) HC0.out (fun t _ => HR5.out.frozen _)
  have hic2 : (n1 : Int) ≤ (cap : Int) := by omega
  go_wp2
  go_ret
  have hcut := HR5.out.cut (i := n1) (by rw [HL5.out]; omega) vs (by rw [hvl, HL5.out]; have := HN1.out; omega)
  rw [HTK.out] at hcut
  have hl : (L.take i ++ L.drop (i + 1)).length = n1 := by rw [List.length_append, List.length_take, List.length_drop]; have := HN1.out; omega
  exact ⟨.slice (some ⟨g, 0, none⟩) n1 cap, rfl, .inr ⟨g, cap, by rw [hl], hg, hcut⟩, below_cells vs _ HB5.out hg⟩
theorem idxP_ge (p : S41 → Bool) (L : List S41) (i : Int) (h : 0 ≤ i) : idxP p L i = -1 ∨ i ≤ idxP p L i ∧ idxP p L i < i + L.length := by
  induction L generalizing i with
  | nil => exact .inl rfl
  | cons o L ih =>
    simp only [idxP]
    split
    · exact .inr ⟨by omega, by simp; omega⟩
    · rcases ih (i + 1) (by omega) with e | e
      · exact .inl e
      · exact .inr (by simp; omega)
set_option maxRecDepth 1000000 in
set_option maxHeartbeats 4000000 in
theorem cancel_calls (A0 : Option Addr) (c0 : Nat) (l0 : List S41) (id : Int) (w : World) (hr0 : Kd.C k41 w A0 l0.length l0) (hc0 : l0.length ≤ c0) :
    Calls Try.prog 39 #[.slice A0 l0.length c0, .int .i64 id] w fun e w' => ∃ v0_ : Value, e = .returned (.tuple #[v0_, .int .i64 (cancelF l0 id).2]) ∧ Kd.R k41 41 w' w.heap.size (fun _ => True) v0_ (cancelF l0 id).1 ∧ Below w.heap.size w w' := by
  have hR := right_calls A0 c0 l0 w hr0 hc0
  cases hr : rightL l0 with
  | false =>
    have E : cancelF l0 id = ([], 2) := by unfold cancelF; rw [if_neg (by rw [hr]; simp)]
    rw [E]
    rw [hr] at hR
    clear E hr
    go_enter Try.func39, Try.ntmps39
    go_wp2_with (go_at_call 29; (with_reducible refine hR.mono ?_); rintro e w1 ⟨rfl, hb⟩)
    go_ret2
    exact ⟨_, rfl, Kd.R_nil _ _ _ _ _, hb⟩
  | true =>
    rw [hr] at hR
    have hlen := right_len hr
    have HR := Lib.hid hr0
    have hge := idxP_ge (fun o => o.f0 == id) l0 0 (by omega)
    have hfd : findF l0 id = idxP (fun o => o.f0 == id) l0 0 := rfl
    rw [← hfd] at hge
    clear hfd
    rcases hge with e1 | ⟨e1, e2⟩
    · have E : cancelF l0 id = ([], 6) := by unfold cancelF; rw [if_pos hr, e1, if_pos (by omega)]
      have hF := fun w h => find_calls A0 c0 l0 id w h (by omega)
      rw [E]
      rw [e1] at hF
      have HF := Lib.hid hF
      clear E hr hr0 e1 hF
      go_enter Try.func39, Try.ntmps39
      go_wp2_with (go_at_call 29; (with_reducible refine hR.mono ?_); rintro e w1 ⟨rfl, hb⟩)
      have c2 := HF.out w1 (Kd.C_below HR.out hb)
      have HB := Lib.hid hb
      clear hb
      go_wp2_with (go_at_call 72; (with_reducible refine c2.mono ?_); rintro e w2 ⟨rfl, hb2⟩)
      go_ret2
      exact ⟨_, rfl, Kd.R_nil _ _ _ _ _, below_step HB.out hb2⟩
    · obtain ⟨i, hi⟩ : ∃ i : Nat, findF l0 id = i := ⟨(findF l0 id).toNat, by omega⟩
      have E : cancelF l0 id = (l0.take i ++ l0.drop (i + 1), 0) := by unfold cancelF; rw [if_pos hr, if_neg (by omega), hi, Int.toNat_natCast]
      have hF := fun w h => find_calls A0 c0 l0 id w h (by omega)
      rw [E]
      rw [hi] at hF e1 e2
      have HF := Lib.hid hF
      have hil : i < l0.length := by omega
      have hi2 : i ≤ 500 := by omega
      clear E hr hr0 hF hi e1 e2
      go_enter Try.func39, Try.ntmps39
      go_wp2_with (go_at_call 29; (with_reducible refine hR.mono ?_); rintro e w1 ⟨rfl, hb⟩)
      have c2 := HF.out w1 (Kd.C_below HR.out hb)
      have HB := Lib.hid hb
      clear hb HF
      go_wp2_with (go_at_call 72; (with_reducible refine c2.mono ?_); rintro e w2 ⟨rfl, hb2⟩)
      have HB2 := Lib.hid (below_step HB.out hb2)
      clear hb2 c2 HB
      have c3 := clone74_calls A0 c0 l0 w2 (Kd.C_below HR.out HB2.out) (by omega)
      go_wp2_with (go_at_call 74; (with_reducible refine c3.mono ?_); rintro e w3 ⟨v3, rfl, hR3, hb3⟩)
      have HB3 := Lib.hid (below_step HB2.out hb3)
      have hz3 := hb3.size
      clear hb3 c3
      rcases hR3 with ⟨_, h⟩ | ⟨g, cap, rfl, hg, hRw⟩
      · rw [h] at hil; exact absurd hil (Nat.not_lt_zero _)
      have c4 := delete73_calls g cap i w2.heap.size l0 w3 hRw hg hil (by omega) hz3
      clear hRw
      go_wp2_with (go_at_call 73; (with_reducible refine c4.mono ?_); rintro e w4 ⟨v4, rfl, hR4, hb4⟩)
      go_ret2
      exact ⟨v4, rfl, (hR4.mono HB2.out.size).R, HB3.out.trans (hb4.mono HB2.out.size)⟩
end Go.Proofs.Ytgffddbhnggllaa.Ed
namespace Go.Proofs.Ytgffddbhnggllaa.QF
open Go.RowKit Go.Proofs.YtgffddbhnggllaaW.PrintWords Go.Proofs.YtgffddbhnggllaaW.PrintLast Go.Proofs.YtgffddbhnggllaaW.PrintMore
attribute [local go_sem] max2_int min2_int max_two min_two max_three min_three max_four min_four
set_option linter.unusedVariables false
set_option linter.unusedSimpArgs false
def order_Cancel.f (l0 : List S41) (a1 : Int) : Option (List S41 × Int) := some (Ed.cancelF l0 a1)
theorem order_Cancel.calls (A0 : Option Addr) (c0 : Nat) (l0 : List (S41)) (a1 : Int) (r1 : List (S41)) (r2 : Int) (w : World) (hr0 : Kd.C k41 w A0 l0.length l0) (hc0 : l0.length ≤ c0) (h : order_Cancel.f l0 a1 = some (r1, r2)) :
  Calls Try.prog 39 #[.slice A0 l0.length c0, .int .i64 a1] w fun e w' => ∃ v0_ : Value, e = .returned (.tuple #[v0_, .int .i64 r2]) ∧ Kd.R k41 41 w' w.heap.size (fun _ => True) v0_ r1 ∧ Below w.heap.size w w' := by
 have h' := Option.some.inj h
 have e := Ed.cancel_calls A0 c0 l0 a1 w hr0 hc0
 rw [h'] at e
 exact e
end Go.Proofs.Ytgffddbhnggllaa.QF
namespace Go.Proofs.Ytgffddbhnggllaa.QF
open Go.RowKit Go.Proofs.YtgffddbhnggllaaW.PrintWords Go.Proofs.YtgffddbhnggllaaW.PrintLast Go.Proofs.YtgffddbhnggllaaW.PrintMore
attribute [local go_sem] max2_int min2_int max_two min_two max_three min_three max_four min_four
set_option linter.unusedVariables false
set_option linter.unusedSimpArgs false
mutual
def letterbaglaw35_OrderCancels.j0 : Nat → List (S41) → Int → Bool → Int → Int → Int → Int → Int → Int → Option (Bool)
 | 0, _, _, _, _, _, _, _, _, _ => none
 | k + 1, x17, x19, x93, x403000, x403001, x403002, x403003, x403004, x403005 => if x93 = true then (some false) else (letterbaglaw35_OrderCancels.l0 k x19 0 x17 (x17.length : Int) 0 x403000 x403001 x403002 x403003 x403004 x403005)
def letterbaglaw35_OrderCancels.l0 : Nat → Int → Int → List (S41) → Int → Int → Int → Int → Int → Int → Int → Int → Option (Bool)
 | 0, _, _, _, _, _, _, _, _, _, _, _ => none
 | k + 1, x19, x21, x94, x95, x96, x403000, x403001, x403002, x403003, x403004, x403005 => if x96 < x95 then (if 0 ≤ x96 then (if x96 < (x94.length : Int) then (if ((rd_T41 x94 x96).f0) = x403000 then (letterbaglaw35_OrderCancels.l0 k x19 x21 x94 x95 (wrap64 (x96 + 1)) x403000 x403001 x403002 x403003 x403004 x403005) else (if x19 = ((rd_T41 x94 x96).f0) then ((letterbaglaw35_awake.f).bind fun t415 => (some t415)) else (some false))) else (none)) else (none)) else (if x19 = x21 then ((letterbaglaw35_awake.f).bind fun t416 => (some t416)) else (some false))
end
def letterbaglaw35_OrderCancels.f (k : Nat) (l0 : List (S72)) (a1 : Int) (a2 : Int) (a3 : Int) : Option (Bool) := (letterbaglaw35_Built.f k l0).bind fun t393 => (if (t393.length : Int) = 0 then ((order_Cancel.f ([] : List (S41)) (wrap64 (a1))).bind fun bt396 => (if bt396.2 = 6 then ((letterbaglaw35_awake.f).bind fun t400 => (some t400)) else (some false))) else (if 0 ≤ (Int.tmod (wrap64 (a1)) (t393.length : Int)) then (if (Int.tmod (wrap64 (a1)) (t393.length : Int)) < (t393.length : Int) then ((order_Cancel.f t393 ((rd_T41 t393 (Int.tmod (wrap64 (a1)) (t393.length : Int))).f0)).bind fun bt403 => ((order_All.f t393 (wrap64 (1 + (Int.tmod (wrap64 (a2)) 6))) (Int.tmod (wrap64 (a3)) 110)).bind fun bt407 => ((letterbaglaw35_in.f bt403.1 (wrap64 (1 + (Int.tmod (wrap64 (a2)) 6))) (Int.tmod (wrap64 (a3)) 110)).bind fun bt411 => (if bt403.2 = 0 then (if bt407.2 = 0 then (if bt411.2 = true then (letterbaglaw35_OrderCancels.j0 k bt407.1 bt411.1 ((bt403.1.length : Int) != (wrap64 ((t393.length : Int) - 1))) ((rd_T41 t393 (Int.tmod (wrap64 (a1)) (t393.length : Int))).f0) ((rd_T41 t393 (Int.tmod (wrap64 (a1)) (t393.length : Int))).f1) ((rd_T41 t393 (Int.tmod (wrap64 (a1)) (t393.length : Int))).f2) ((rd_T41 t393 (Int.tmod (wrap64 (a1)) (t393.length : Int))).f3) ((rd_T41 t393 (Int.tmod (wrap64 (a1)) (t393.length : Int))).f4) ((rd_T41 t393 (Int.tmod (wrap64 (a1)) (t393.length : Int))).f5)) else (letterbaglaw35_OrderCancels.j0 k bt407.1 bt411.1 true ((rd_T41 t393 (Int.tmod (wrap64 (a1)) (t393.length : Int))).f0) ((rd_T41 t393 (Int.tmod (wrap64 (a1)) (t393.length : Int))).f1) ((rd_T41 t393 (Int.tmod (wrap64 (a1)) (t393.length : Int))).f2) ((rd_T41 t393 (Int.tmod (wrap64 (a1)) (t393.length : Int))).f3) ((rd_T41 t393 (Int.tmod (wrap64 (a1)) (t393.length : Int))).f4) ((rd_T41 t393 (Int.tmod (wrap64 (a1)) (t393.length : Int))).f5))) else (letterbaglaw35_OrderCancels.j0 k bt407.1 bt411.1 true ((rd_T41 t393 (Int.tmod (wrap64 (a1)) (t393.length : Int))).f0) ((rd_T41 t393 (Int.tmod (wrap64 (a1)) (t393.length : Int))).f1) ((rd_T41 t393 (Int.tmod (wrap64 (a1)) (t393.length : Int))).f2) ((rd_T41 t393 (Int.tmod (wrap64 (a1)) (t393.length : Int))).f3) ((rd_T41 t393 (Int.tmod (wrap64 (a1)) (t393.length : Int))).f4) ((rd_T41 t393 (Int.tmod (wrap64 (a1)) (t393.length : Int))).f5))) else (letterbaglaw35_OrderCancels.j0 k bt407.1 bt411.1 true ((rd_T41 t393 (Int.tmod (wrap64 (a1)) (t393.length : Int))).f0) ((rd_T41 t393 (Int.tmod (wrap64 (a1)) (t393.length : Int))).f1) ((rd_T41 t393 (Int.tmod (wrap64 (a1)) (t393.length : Int))).f2) ((rd_T41 t393 (Int.tmod (wrap64 (a1)) (t393.length : Int))).f3) ((rd_T41 t393 (Int.tmod (wrap64 (a1)) (t393.length : Int))).f4) ((rd_T41 t393 (Int.tmod (wrap64 (a1)) (t393.length : Int))).f5)))))) else (none)) else (none)))
theorem letterbaglaw35_OrderCancels.mono_l : ∀ k, (∀ y0 y1 y2 y3 y4 y5 y6 y7 y8, LeO (letterbaglaw35_OrderCancels.j0 k y0 y1 y2 y3 y4 y5 y6 y7 y8) (letterbaglaw35_OrderCancels.j0 (k + 1) y0 y1 y2 y3 y4 y5 y6 y7 y8)) ∧ (∀ y0 y1 y2 y3 y4 y5 y6 y7 y8 y9 y10, LeO (letterbaglaw35_OrderCancels.l0 k y0 y1 y2 y3 y4 y5 y6 y7 y8 y9 y10) (letterbaglaw35_OrderCancels.l0 (k + 1) y0 y1 y2 y3 y4 y5 y6 y7 y8 y9 y10))
 | 0 => ⟨fun _ _ _ _ _ _ _ _ _ r h => by simp [letterbaglaw35_OrderCancels.j0] at h, fun _ _ _ _ _ _ _ _ _ _ _ r h => by simp [letterbaglaw35_OrderCancels.l0] at h⟩
 | k + 1 => by
  obtain ⟨ih0, ih1⟩ := letterbaglaw35_OrderCancels.mono_l k
  refine ⟨?_, ?_⟩
  ·intro y0 y1 y2 y3 y4 y5 y6 y7 y8
   unfold letterbaglaw35_OrderCancels.j0
   repeat' first
   | (with_reducible exact ih0 _ _ _ _ _ _ _ _ _)
   | (with_reducible exact ih1 _ _ _ _ _ _ _ _ _ _ _)
   | (with_reducible exact letterbaglaw35_Built.mono _ _)
   | (with_reducible exact LeO.refl _)
   | (with_reducible exact LeO.none _)
   | (with_reducible refine LeO.ite ?_ ?_)
   | (with_reducible refine LeO.bind ?_ (fun _ => ?_))
   | exact ih0 _ _ _ _ _ _ _ _ _
   | exact ih1 _ _ _ _ _ _ _ _ _ _ _
   | exact letterbaglaw35_Built.mono _ _
   | exact LeO.none _
   | refine LeO.ite ?_ ?_
   | refine LeO.bind ?_ (fun _ => ?_)
  ·intro y0 y1 y2 y3 y4 y5 y6 y7 y8 y9 y10
   unfold letterbaglaw35_OrderCancels.l0
   repeat' first
   | (with_reducible exact ih0 _ _ _ _ _ _ _ _ _)
   | (with_reducible exact ih1 _ _ _ _ _ _ _ _ _ _ _)
   | (with_reducible exact letterbaglaw35_Built.mono _ _)
   | (with_reducible exact LeO.refl _)
   | (with_reducible exact LeO.none _)
   | (with_reducible refine LeO.ite ?_ ?_)
   | (with_reducible refine LeO.bind ?_ (fun _ => ?_))
   | exact ih0 _ _ _ _ _ _ _ _ _
   | exact ih1 _ _ _ _ _ _ _ _ _ _ _
   | exact letterbaglaw35_Built.mono _ _
   | exact LeO.none _
   | refine LeO.ite ?_ ?_
   | refine LeO.bind ?_ (fun _ => ?_)
theorem letterbaglaw35_OrderCancels.mono : ∀ a0 a1 a2 a3 k, LeO (letterbaglaw35_OrderCancels.f k a0 a1 a2 a3) (letterbaglaw35_OrderCancels.f (k + 1) a0 a1 a2 a3) := by
 intro a0 a1 a2 a3 k
 obtain ⟨ih0, ih1⟩ := letterbaglaw35_OrderCancels.mono_l k
 unfold letterbaglaw35_OrderCancels.f
 repeat' first
   | (with_reducible exact ih0 _ _ _ _ _ _ _ _ _)
   | (with_reducible exact ih1 _ _ _ _ _ _ _ _ _ _ _)
   | (with_reducible exact letterbaglaw35_Built.mono _ _)
   | (with_reducible exact LeO.refl _)
   | (with_reducible exact LeO.none _)
   | (with_reducible refine LeO.ite ?_ ?_)
   | (with_reducible refine LeO.bind ?_ (fun _ => ?_))
   | exact ih0 _ _ _ _ _ _ _ _ _
   | exact ih1 _ _ _ _ _ _ _ _ _ _ _
   | exact letterbaglaw35_Built.mono _ _
   | exact LeO.none _
   | refine LeO.ite ?_ ?_
   | refine LeO.bind ?_ (fun _ => ?_)
set_option maxHeartbeats 8000000 in
set_option maxRecDepth 100000 in
theorem letterbaglaw35_OrderCancels.calls (k : Nat) (A0 : Option Addr) (c0 : Nat) (l0 : List (S72)) (a1 : Int) (a2 : Int) (a3 : Int) (r : Bool) (w : World) (hr0 : Kd.C k72 w A0 l0.length l0) (hc0 : l0.length ≤ c0) (h : letterbaglaw35_OrderCancels.f k l0 a1 a2 a3 = some r) :
  Calls Try.prog 9 #[.slice A0 l0.length c0, .int .u8 a1, .int .u8 a2, .int .u8 a3] w fun e w' => e = .returned (.bool r) ∧ Below w.heap.size w w' := by
 have hu41 := Try.underlying41
 have HR0 := Aside0.mk hr0
 have HC0 := Aside0.mk hc0
 clear hr0 hc0
 have HB := Aside0.mk (Below.refl w.heap.size w)
 have H : ((letterbaglaw35_Built.f k l0).bind fun t393 => (if (t393.length : Int) = 0 then ((order_Cancel.f ([] : List (S41)) (wrap64 (a1))).bind fun bt396 => (if bt396.2 = 6 then ((letterbaglaw35_awake.f).bind fun t400 => (some t400)) else (some false))) else (if 0 ≤ (Int.tmod (wrap64 (a1)) (t393.length : Int)) then (if (Int.tmod (wrap64 (a1)) (t393.length : Int)) < (t393.length : Int) then ((order_Cancel.f t393 ((rd_T41 t393 (Int.tmod (wrap64 (a1)) (t393.length : Int))).f0)).bind fun bt403 => ((order_All.f t393 (wrap64 (1 + (Int.tmod (wrap64 (a2)) 6))) (Int.tmod (wrap64 (a3)) 110)).bind fun bt407 => ((letterbaglaw35_in.f bt403.1 (wrap64 (1 + (Int.tmod (wrap64 (a2)) 6))) (Int.tmod (wrap64 (a3)) 110)).bind fun bt411 => (if bt403.2 = 0 then (if bt407.2 = 0 then (if bt411.2 = true then (letterbaglaw35_OrderCancels.j0 k bt407.1 bt411.1 ((bt403.1.length : Int) != (wrap64 ((t393.length : Int) - 1))) ((rd_T41 t393 (Int.tmod (wrap64 (a1)) (t393.length : Int))).f0) ((rd_T41 t393 (Int.tmod (wrap64 (a1)) (t393.length : Int))).f1) ((rd_T41 t393 (Int.tmod (wrap64 (a1)) (t393.length : Int))).f2) ((rd_T41 t393 (Int.tmod (wrap64 (a1)) (t393.length : Int))).f3) ((rd_T41 t393 (Int.tmod (wrap64 (a1)) (t393.length : Int))).f4) ((rd_T41 t393 (Int.tmod (wrap64 (a1)) (t393.length : Int))).f5)) else (letterbaglaw35_OrderCancels.j0 k bt407.1 bt411.1 true ((rd_T41 t393 (Int.tmod (wrap64 (a1)) (t393.length : Int))).f0) ((rd_T41 t393 (Int.tmod (wrap64 (a1)) (t393.length : Int))).f1) ((rd_T41 t393 (Int.tmod (wrap64 (a1)) (t393.length : Int))).f2) ((rd_T41 t393 (Int.tmod (wrap64 (a1)) (t393.length : Int))).f3) ((rd_T41 t393 (Int.tmod (wrap64 (a1)) (t393.length : Int))).f4) ((rd_T41 t393 (Int.tmod (wrap64 (a1)) (t393.length : Int))).f5))) else (letterbaglaw35_OrderCancels.j0 k bt407.1 bt411.1 true ((rd_T41 t393 (Int.tmod (wrap64 (a1)) (t393.length : Int))).f0) ((rd_T41 t393 (Int.tmod (wrap64 (a1)) (t393.length : Int))).f1) ((rd_T41 t393 (Int.tmod (wrap64 (a1)) (t393.length : Int))).f2) ((rd_T41 t393 (Int.tmod (wrap64 (a1)) (t393.length : Int))).f3) ((rd_T41 t393 (Int.tmod (wrap64 (a1)) (t393.length : Int))).f4) ((rd_T41 t393 (Int.tmod (wrap64 (a1)) (t393.length : Int))).f5))) else (letterbaglaw35_OrderCancels.j0 k bt407.1 bt411.1 true ((rd_T41 t393 (Int.tmod (wrap64 (a1)) (t393.length : Int))).f0) ((rd_T41 t393 (Int.tmod (wrap64 (a1)) (t393.length : Int))).f1) ((rd_T41 t393 (Int.tmod (wrap64 (a1)) (t393.length : Int))).f2) ((rd_T41 t393 (Int.tmod (wrap64 (a1)) (t393.length : Int))).f3) ((rd_T41 t393 (Int.tmod (wrap64 (a1)) (t393.length : Int))).f4) ((rd_T41 t393 (Int.tmod (wrap64 (a1)) (t393.length : Int))).f5)))))) else (none)) else (none)))) = some r := h
 clear h
 replace H := Option.bind_eq_some_iff.mp H
 obtain ⟨t393, A50, H⟩ := H
 replace H : (if (t393.length : Int) = 0 then ((order_Cancel.f ([] : List (S41)) (wrap64 (a1))).bind fun bt396 => (if bt396.2 = 6 then ((letterbaglaw35_awake.f).bind fun t400 => (some t400)) else (some false))) else (if 0 ≤ (Int.tmod (wrap64 (a1)) (t393.length : Int)) then (if (Int.tmod (wrap64 (a1)) (t393.length : Int)) < (t393.length : Int) then ((order_Cancel.f t393 ((rd_T41 t393 (Int.tmod (wrap64 (a1)) (t393.length : Int))).f0)).bind fun bt403 => ((order_All.f t393 (wrap64 (1 + (Int.tmod (wrap64 (a2)) 6))) (Int.tmod (wrap64 (a3)) 110)).bind fun bt407 => ((letterbaglaw35_in.f bt403.1 (wrap64 (1 + (Int.tmod (wrap64 (a2)) 6))) (Int.tmod (wrap64 (a3)) 110)).bind fun bt411 => (if bt403.2 = 0 then (if bt407.2 = 0 then (if bt411.2 = true then (letterbaglaw35_OrderCancels.j0 k bt407.1 bt411.1 ((bt403.1.length : Int) != (wrap64 ((t393.length : Int) - 1))) ((rd_T41 t393 (Int.tmod (wrap64 (a1)) (t393.length : Int))).f0) ((rd_T41 t393 (Int.tmod (wrap64 (a1)) (t393.length : Int))).f1) ((rd_T41 t393 (Int.tmod (wrap64 (a1)) (t393.length : Int))).f2) ((rd_T41 t393 (Int.tmod (wrap64 (a1)) (t393.length : Int))).f3) ((rd_T41 t393 (Int.tmod (wrap64 (a1)) (t393.length : Int))).f4) ((rd_T41 t393 (Int.tmod (wrap64 (a1)) (t393.length : Int))).f5)) else (letterbaglaw35_OrderCancels.j0 k bt407.1 bt411.1 true ((rd_T41 t393 (Int.tmod (wrap64 (a1)) (t393.length : Int))).f0) ((rd_T41 t393 (Int.tmod (wrap64 (a1)) (t393.length : Int))).f1) ((rd_T41 t393 (Int.tmod (wrap64 (a1)) (t393.length : Int))).f2) ((rd_T41 t393 (Int.tmod (wrap64 (a1)) (t393.length : Int))).f3) ((rd_T41 t393 (Int.tmod (wrap64 (a1)) (t393.length : Int))).f4) ((rd_T41 t393 (Int.tmod (wrap64 (a1)) (t393.length : Int))).f5))) else (letterbaglaw35_OrderCancels.j0 k bt407.1 bt411.1 true ((rd_T41 t393 (Int.tmod (wrap64 (a1)) (t393.length : Int))).f0) ((rd_T41 t393 (Int.tmod (wrap64 (a1)) (t393.length : Int))).f1) ((rd_T41 t393 (Int.tmod (wrap64 (a1)) (t393.length : Int))).f2) ((rd_T41 t393 (Int.tmod (wrap64 (a1)) (t393.length : Int))).f3) ((rd_T41 t393 (Int.tmod (wrap64 (a1)) (t393.length : Int))).f4) ((rd_T41 t393 (Int.tmod (wrap64 (a1)) (t393.length : Int))).f5))) else (letterbaglaw35_OrderCancels.j0 k bt407.1 bt411.1 true ((rd_T41 t393 (Int.tmod (wrap64 (a1)) (t393.length : Int))).f0) ((rd_T41 t393 (Int.tmod (wrap64 (a1)) (t393.length : Int))).f1) ((rd_T41 t393 (Int.tmod (wrap64 (a1)) (t393.length : Int))).f2) ((rd_T41 t393 (Int.tmod (wrap64 (a1)) (t393.length : Int))).f3) ((rd_T41 t393 (Int.tmod (wrap64 (a1)) (t393.length : Int))).f4) ((rd_T41 t393 (Int.tmod (wrap64 (a1)) (t393.length : Int))).f5)))))) else (none)) else (none))) = some r := H
 have A5 := Aside0.mk A50
 clear A50
 by_cases c6 : (t393.length : Int) = 0
 ·rw [if_pos c6] at H
  have c6b0 : ((t393.length : Int) == 0) = true := beq_iff_eq.mpr c6
  have c6b1 : ((t393.length : Int) != 0) = false := bne_eq_false_iff_eq.mpr c6
  clear c6
  replace H := Option.bind_eq_some_iff.mp H
  obtain ⟨⟨t396, t397⟩, A70, H⟩ := H
  replace H : (if t397 = 6 then ((letterbaglaw35_awake.f).bind fun t400 => (some t400)) else (some false)) = some r := H
  have A7 := Aside0.mk A70
  clear A70
  by_cases c8 : t397 = 6
  ·rw [if_pos c8] at H
   have c8b0 : (t397 == 6) = true := beq_iff_eq.mpr c8
   have c8b1 : (t397 != 6) = false := bne_eq_false_iff_eq.mpr c8
   clear c8
   replace H := Option.bind_eq_some_iff.mp H
   obtain ⟨t400, A90, H⟩ := H
   replace H : (some t400) = some r := H
   have A9 := Aside0.mk A90
   clear A90
   obtain rfl := Option.some.inj H
   go_enter Try.func9, Try.ntmps9
   go_wp2_with (first | ((with_reducible refine gate_callee (f := 19) rfl ?_); refine goesL_ (some 25) rfl rfl Try.func19 (by kernel_rfl) rfl #[.slice A0 l0.length c0] rfl (by (try simp only [List.map_toArray, List.map_cons, List.map_nil]); first | done | rfl | (simp only [List.length_drop, List.length_take]; rfl)) ?_; (with_reducible refine (letterbaglaw35_Built.calls k _ _ l0 t393 _ ?side1 ?side2 A5.out).mono ?_); (case side1 => repeat (first | exact HR0.out | (with_reducible refine Kd.C_alloc ?_ _) | (with_reducible refine Kd.C_drewN ?_ _) | (with_reducible refine Kd.C_drew ?_))); (case side2 => exact HC0.out); rintro e w10 ⟨v394, rfl, ho0, hb⟩; refine ⟨_, rfl, ?_⟩; have n0_ := Aside0.mk (Kd.R_lower ho0 (below_size (by repeat (first | (with_reducible first | exact HB.out | apply below_alloc | apply pw_below_drewN | apply below_drew1) | exact HB.out)))); have n1_ := Aside0.mk (below_step (by repeat (first | (with_reducible first | exact HB.out | apply below_alloc | apply pw_below_drewN | apply below_drew1) | exact HB.out)) hb); clear HB; have HO395 := n0_; have HB := n1_; clear n0_ n1_; (try clear hb); (try clear hb2); (try clear hk); (try clear hi); (try clear ho0); obtain ⟨Ao11, co11, eo11⟩ := Kd.R_slice HO395.out; subst eo11) | ((with_reducible refine gate_callee (f := 39) rfl ?_); refine goesL_ (some 32) rfl rfl Try.func39 (by kernel_rfl) rfl #[.slice none 0 0, .int .i64 (wrap64 (a1))] rfl (by (try simp only [List.map_toArray, List.map_cons, List.map_nil]); first | done | rfl | (simp only [List.length_drop, List.length_take]; rfl)) ?_; (refine (order_Cancel.calls _ _ ([] : List (S41)) (wrap64 (a1)) t396 t397 _ ?side1 ?side2 A7.out).mono ?_); (case side1 => exact Kd.C_nil _ _); (case side2 => exact Nat.le_refl _); rintro e w12 ⟨v398, rfl, ho0, hb⟩; refine ⟨_, rfl, ?_⟩; have n0_ := Aside0.mk (Kd.R_elder' (by (with_reducible repeat (first | apply Kd.R_alloc | apply Kd.R_drewN | apply Kd.R_drew)); exact HO395.out) (Kd.R_base ho0) hb); have n1_ := Aside0.mk (Kd.R_lower (Kd.R_new' ho0 (Kd.R_lt (by (with_reducible repeat (first | apply Kd.R_alloc | apply Kd.R_drewN | apply Kd.R_drew)); exact HO395.out))) (below_size (by repeat (first | (with_reducible first | exact HB.out | apply below_alloc | apply pw_below_drewN | apply below_drew1) | exact HB.out)))); have n2_ := Aside0.mk (below_step (by repeat (first | (with_reducible first | exact HB.out | apply below_alloc | apply pw_below_drewN | apply below_drew1) | exact HB.out)) hb); clear HO395; clear HB; have HO395 := n0_; have HO399 := n1_; have HB := n2_; clear n0_ n1_ n2_; (try clear hb); (try clear hb2); (try clear hk); (try clear hi); (try clear ho0)) | (go_at_call 23; (with_reducible refine (letterbaglaw35_awake.calls  t400 _ A9.out).mono ?_); rintro e w13 ⟨rfl, hb⟩; have n0_ := Aside0.mk (Kd.R_below (by (with_reducible repeat (first | apply Kd.R_alloc | apply Kd.R_drewN | apply Kd.R_drew)); exact HO395.out) hb); have n1_ := Aside0.mk (Kd.R_below (by (with_reducible repeat (first | apply Kd.R_alloc | apply Kd.R_drewN | apply Kd.R_drew)); exact HO399.out) hb); have n2_ := Aside0.mk (below_step (by repeat (first | (with_reducible first | exact HB.out | apply below_alloc | apply pw_below_drewN | apply below_drew1) | exact HB.out)) hb); clear HO395; clear HO399; clear HB; have HO395 := n0_; have HO399 := n1_; have HB := n2_; clear n0_ n1_ n2_; (try clear hb); (try clear hb2); (try clear hk); (try clear hi)))
   go_ret
   exact ⟨by first | rfl | (simp [errW_none, errW_some] <;> rfl) | (simp [*, errW_none, errW_some] <;> rfl), by repeat (first | (with_reducible first | exact HB.out | apply below_alloc | apply pw_below_drewN | apply below_drew1) | exact HB.out)⟩
  ·rw [if_neg c8] at H
   have c8b0 : (t397 == 6) = false := beq_eq_false_iff_ne.mpr c8
   have c8b1 : (t397 != 6) = true := bne_iff_ne.mpr c8
   obtain rfl := Option.some.inj H
   go_enter Try.func9, Try.ntmps9
   go_wp2_with (first | ((with_reducible refine gate_callee (f := 19) rfl ?_); refine goesL_ (some 25) rfl rfl Try.func19 (by kernel_rfl) rfl #[.slice A0 l0.length c0] rfl (by (try simp only [List.map_toArray, List.map_cons, List.map_nil]); first | done | rfl | (simp only [List.length_drop, List.length_take]; rfl)) ?_; (with_reducible refine (letterbaglaw35_Built.calls k _ _ l0 t393 _ ?side1 ?side2 A5.out).mono ?_); (case side1 => repeat (first | exact HR0.out | (with_reducible refine Kd.C_alloc ?_ _) | (with_reducible refine Kd.C_drewN ?_ _) | (with_reducible refine Kd.C_drew ?_))); (case side2 => exact HC0.out); rintro e w14 ⟨v394, rfl, ho0, hb⟩; refine ⟨_, rfl, ?_⟩; have n0_ := Aside0.mk (Kd.R_lower ho0 (below_size (by repeat (first | (with_reducible first | exact HB.out | apply below_alloc | apply pw_below_drewN | apply below_drew1) | exact HB.out)))); have n1_ := Aside0.mk (below_step (by repeat (first | (with_reducible first | exact HB.out | apply below_alloc | apply pw_below_drewN | apply below_drew1) | exact HB.out)) hb); clear HB; have HO395 := n0_; have HB := n1_; clear n0_ n1_; (try clear hb); (try clear hb2); (try clear hk); (try clear hi); (try clear ho0); obtain ⟨Ao15, co15, eo15⟩ := Kd.R_slice HO395.out; subst eo15) | ((with_reducible refine gate_callee (f := 39) rfl ?_); refine goesL_ (some 32) rfl rfl Try.func39 (by kernel_rfl) rfl #[.slice none 0 0, .int .i64 (wrap64 (a1))] rfl (by (try simp only [List.map_toArray, List.map_cons, List.map_nil]); first | done | rfl | (simp only [List.length_drop, List.length_take]; rfl)) ?_; (refine (order_Cancel.calls _ _ ([] : List (S41)) (wrap64 (a1)) t396 t397 _ ?side1 ?side2 A7.out).mono ?_); (case side1 => exact Kd.C_nil _ _); (case side2 => exact Nat.le_refl _); rintro e w16 ⟨v398, rfl, ho0, hb⟩; refine ⟨_, rfl, ?_⟩; have n0_ := Aside0.mk (Kd.R_elder' (by (with_reducible repeat (first | apply Kd.R_alloc | apply Kd.R_drewN | apply Kd.R_drew)); exact HO395.out) (Kd.R_base ho0) hb); have n1_ := Aside0.mk (Kd.R_lower (Kd.R_new' ho0 (Kd.R_lt (by (with_reducible repeat (first | apply Kd.R_alloc | apply Kd.R_drewN | apply Kd.R_drew)); exact HO395.out))) (below_size (by repeat (first | (with_reducible first | exact HB.out | apply below_alloc | apply pw_below_drewN | apply below_drew1) | exact HB.out)))); have n2_ := Aside0.mk (below_step (by repeat (first | (with_reducible first | exact HB.out | apply below_alloc | apply pw_below_drewN | apply below_drew1) | exact HB.out)) hb); clear HO395; clear HB; have HO395 := n0_; have HO399 := n1_; have HB := n2_; clear n0_ n1_ n2_; (try clear hb); (try clear hb2); (try clear hk); (try clear hi); (try clear ho0)))
   go_ret
   exact ⟨by first | rfl | (simp [errW_none, errW_some] <;> rfl) | (simp [*, errW_none, errW_some] <;> rfl), by repeat (first | (with_reducible first | exact HB.out | apply below_alloc | apply pw_below_drewN | apply below_drew1) | exact HB.out)⟩
 ·rw [if_neg c6] at H
  have c6b0 : ((t393.length : Int) == 0) = false := beq_eq_false_iff_ne.mpr c6
  have c6b1 : ((t393.length : Int) != 0) = true := bne_iff_ne.mpr c6
  have c6b2 : ¬ (t393 = []) := fun h_ => c6 (by rw [h_]; rfl)
  obtain ⟨ji17, hji17⟩ : ∃ j_ : Int, (Int.tmod (wrap64 (a1)) (t393.length : Int)) = j_ := ⟨_, rfl⟩
  replace H : (if 0 ≤ (ji17) then (if (ji17) < (t393.length : Int) then ((order_Cancel.f t393 ((rd_T41 t393 (ji17)).f0)).bind fun bt403 => ((order_All.f t393 (wrap64 (1 + (Int.tmod (wrap64 (a2)) 6))) (Int.tmod (wrap64 (a3)) 110)).bind fun bt407 => ((letterbaglaw35_in.f bt403.1 (wrap64 (1 + (Int.tmod (wrap64 (a2)) 6))) (Int.tmod (wrap64 (a3)) 110)).bind fun bt411 => (if bt403.2 = 0 then (if bt407.2 = 0 then (if bt411.2 = true then (letterbaglaw35_OrderCancels.j0 k bt407.1 bt411.1 ((bt403.1.length : Int) != (wrap64 ((t393.length : Int) - 1))) ((rd_T41 t393 (ji17)).f0) ((rd_T41 t393 (ji17)).f1) ((rd_T41 t393 (ji17)).f2) ((rd_T41 t393 (ji17)).f3) ((rd_T41 t393 (ji17)).f4) ((rd_T41 t393 (ji17)).f5)) else (letterbaglaw35_OrderCancels.j0 k bt407.1 bt411.1 true ((rd_T41 t393 (ji17)).f0) ((rd_T41 t393 (ji17)).f1) ((rd_T41 t393 (ji17)).f2) ((rd_T41 t393 (ji17)).f3) ((rd_T41 t393 (ji17)).f4) ((rd_T41 t393 (ji17)).f5))) else (letterbaglaw35_OrderCancels.j0 k bt407.1 bt411.1 true ((rd_T41 t393 (ji17)).f0) ((rd_T41 t393 (ji17)).f1) ((rd_T41 t393 (ji17)).f2) ((rd_T41 t393 (ji17)).f3) ((rd_T41 t393 (ji17)).f4) ((rd_T41 t393 (ji17)).f5))) else (letterbaglaw35_OrderCancels.j0 k bt407.1 bt411.1 true ((rd_T41 t393 (ji17)).f0) ((rd_T41 t393 (ji17)).f1) ((rd_T41 t393 (ji17)).f2) ((rd_T41 t393 (ji17)).f3) ((rd_T41 t393 (ji17)).f4) ((rd_T41 t393 (ji17)).f5)))))) else (none)) else (none)) = some r := by first | (rw [hji17] at H; exact H) | (simp only [hji17] at H ⊢; exact H)
  (try rw [hji17] at A5)
  by_cases c18 : 0 ≤ (ji17)
  ·rw [if_pos c18] at H
   have c18b0 : decide (0 ≤ (ji17)) = true := decide_eq_true c18
   clear c18
   by_cases c19 : (ji17) < (t393.length : Int)
   ·rw [if_pos c19] at H
    have c19b0 : decide ((ji17) < (t393.length : Int)) = true := decide_eq_true c19
    clear c19
    replace H := Option.bind_eq_some_iff.mp H
    obtain ⟨⟨t403, t404⟩, A200, H⟩ := H
    replace H : ((order_All.f t393 (wrap64 (1 + (Int.tmod (wrap64 (a2)) 6))) (Int.tmod (wrap64 (a3)) 110)).bind fun bt407 => ((letterbaglaw35_in.f t403 (wrap64 (1 + (Int.tmod (wrap64 (a2)) 6))) (Int.tmod (wrap64 (a3)) 110)).bind fun bt411 => (if t404 = 0 then (if bt407.2 = 0 then (if bt411.2 = true then (letterbaglaw35_OrderCancels.j0 k bt407.1 bt411.1 ((t403.length : Int) != (wrap64 ((t393.length : Int) - 1))) ((rd_T41 t393 (ji17)).f0) ((rd_T41 t393 (ji17)).f1) ((rd_T41 t393 (ji17)).f2) ((rd_T41 t393 (ji17)).f3) ((rd_T41 t393 (ji17)).f4) ((rd_T41 t393 (ji17)).f5)) else (letterbaglaw35_OrderCancels.j0 k bt407.1 bt411.1 true ((rd_T41 t393 (ji17)).f0) ((rd_T41 t393 (ji17)).f1) ((rd_T41 t393 (ji17)).f2) ((rd_T41 t393 (ji17)).f3) ((rd_T41 t393 (ji17)).f4) ((rd_T41 t393 (ji17)).f5))) else (letterbaglaw35_OrderCancels.j0 k bt407.1 bt411.1 true ((rd_T41 t393 (ji17)).f0) ((rd_T41 t393 (ji17)).f1) ((rd_T41 t393 (ji17)).f2) ((rd_T41 t393 (ji17)).f3) ((rd_T41 t393 (ji17)).f4) ((rd_T41 t393 (ji17)).f5))) else (letterbaglaw35_OrderCancels.j0 k bt407.1 bt411.1 true ((rd_T41 t393 (ji17)).f0) ((rd_T41 t393 (ji17)).f1) ((rd_T41 t393 (ji17)).f2) ((rd_T41 t393 (ji17)).f3) ((rd_T41 t393 (ji17)).f4) ((rd_T41 t393 (ji17)).f5))))) = some r := H
    have A20 := Aside0.mk A200
    clear A200
    replace H := Option.bind_eq_some_iff.mp H
    obtain ⟨⟨t407, t408⟩, A210, H⟩ := H
    replace H : ((letterbaglaw35_in.f t403 (wrap64 (1 + (Int.tmod (wrap64 (a2)) 6))) (Int.tmod (wrap64 (a3)) 110)).bind fun bt411 => (if t404 = 0 then (if t408 = 0 then (if bt411.2 = true then (letterbaglaw35_OrderCancels.j0 k t407 bt411.1 ((t403.length : Int) != (wrap64 ((t393.length : Int) - 1))) ((rd_T41 t393 (ji17)).f0) ((rd_T41 t393 (ji17)).f1) ((rd_T41 t393 (ji17)).f2) ((rd_T41 t393 (ji17)).f3) ((rd_T41 t393 (ji17)).f4) ((rd_T41 t393 (ji17)).f5)) else (letterbaglaw35_OrderCancels.j0 k t407 bt411.1 true ((rd_T41 t393 (ji17)).f0) ((rd_T41 t393 (ji17)).f1) ((rd_T41 t393 (ji17)).f2) ((rd_T41 t393 (ji17)).f3) ((rd_T41 t393 (ji17)).f4) ((rd_T41 t393 (ji17)).f5))) else (letterbaglaw35_OrderCancels.j0 k t407 bt411.1 true ((rd_T41 t393 (ji17)).f0) ((rd_T41 t393 (ji17)).f1) ((rd_T41 t393 (ji17)).f2) ((rd_T41 t393 (ji17)).f3) ((rd_T41 t393 (ji17)).f4) ((rd_T41 t393 (ji17)).f5))) else (letterbaglaw35_OrderCancels.j0 k t407 bt411.1 true ((rd_T41 t393 (ji17)).f0) ((rd_T41 t393 (ji17)).f1) ((rd_T41 t393 (ji17)).f2) ((rd_T41 t393 (ji17)).f3) ((rd_T41 t393 (ji17)).f4) ((rd_T41 t393 (ji17)).f5)))) = some r := H
    have A21 := Aside0.mk A210
    clear A210
    replace H := Option.bind_eq_some_iff.mp H
    obtain ⟨⟨t411, t412⟩, A220, H⟩ := H
    replace H : (if t404 = 0 then (if t408 = 0 then (if t412 = true then (letterbaglaw35_OrderCancels.j0 k t407 t411 ((t403.length : Int) != (wrap64 ((t393.length : Int) - 1))) ((rd_T41 t393 (ji17)).f0) ((rd_T41 t393 (ji17)).f1) ((rd_T41 t393 (ji17)).f2) ((rd_T41 t393 (ji17)).f3) ((rd_T41 t393 (ji17)).f4) ((rd_T41 t393 (ji17)).f5)) else (letterbaglaw35_OrderCancels.j0 k t407 t411 true ((rd_T41 t393 (ji17)).f0) ((rd_T41 t393 (ji17)).f1) ((rd_T41 t393 (ji17)).f2) ((rd_T41 t393 (ji17)).f3) ((rd_T41 t393 (ji17)).f4) ((rd_T41 t393 (ji17)).f5))) else (letterbaglaw35_OrderCancels.j0 k t407 t411 true ((rd_T41 t393 (ji17)).f0) ((rd_T41 t393 (ji17)).f1) ((rd_T41 t393 (ji17)).f2) ((rd_T41 t393 (ji17)).f3) ((rd_T41 t393 (ji17)).f4) ((rd_T41 t393 (ji17)).f5))) else (letterbaglaw35_OrderCancels.j0 k t407 t411 true ((rd_T41 t393 (ji17)).f0) ((rd_T41 t393 (ji17)).f1) ((rd_T41 t393 (ji17)).f2) ((rd_T41 t393 (ji17)).f3) ((rd_T41 t393 (ji17)).f4) ((rd_T41 t393 (ji17)).f5))) = some r := H
    have A22 := Aside0.mk A220
    clear A220
    have HC23 := Aside0.mk H
    clear H
    go_enter Try.func9, Try.ntmps9
    go_upto_region 10 with (first | ((with_reducible refine gate_callee (f := 19) rfl ?_); refine goesL_ (some 25) rfl rfl Try.func19 (by kernel_rfl) rfl #[.slice A0 l0.length c0] rfl (by (try simp only [List.map_toArray, List.map_cons, List.map_nil]); first | done | rfl | (simp only [List.length_drop, List.length_take]; rfl)) ?_; (with_reducible refine (letterbaglaw35_Built.calls k _ _ l0 t393 _ ?side1 ?side2 A5.out).mono ?_); (case side1 => repeat (first | exact HR0.out | (with_reducible refine Kd.C_alloc ?_ _) | (with_reducible refine Kd.C_drewN ?_ _) | (with_reducible refine Kd.C_drew ?_))); (case side2 => exact HC0.out); rintro e w24 ⟨v394, rfl, ho0, hb⟩; refine ⟨_, rfl, ?_⟩; have n0_ := Aside0.mk (Kd.R_lower ho0 (below_size (by repeat (first | (with_reducible first | exact HB.out | apply below_alloc | apply pw_below_drewN | apply below_drew1) | exact HB.out)))); have n1_ := Aside0.mk (below_step (by repeat (first | (with_reducible first | exact HB.out | apply below_alloc | apply pw_below_drewN | apply below_drew1) | exact HB.out)) hb); clear HB; have HO395 := n0_; have HB := n1_; clear n0_ n1_; (try clear hb); (try clear hb2); (try clear hk); (try clear hi); (try clear ho0); obtain ⟨Ao25, co25, eo25⟩ := Kd.R_slice HO395.out; subst eo25; have p401 : 0 ≤ ((ji17) : Int) := of_decide_eq_true (by first | (with_reducible assumption) | assumption); have q401 : (ji17) < (t393.length : Int) := of_decide_eq_true (by first | (with_reducible assumption) | assumption); obtain ⟨ad401, e401, hx401_0, hx401_1, hx401_2, hx401_3, hx401_4, hx401_5⟩ := at_T41 (Kd.R_reads' HO395.out).2.2 (ji17) p401 q401; cases e401; replace p401 := eq_true p401; replace q401 := eq_true q401) | ((with_reducible refine gate_dst (N := 12) rfl ?_); (try (refine gate_guard (by rfl) ?_; dsimp only)); refine box_event ?hg (N := 12) ?hd (cs := #[.int .i64 0, .int .i64 0, .int .i64 0, .int .i64 0, .int .i64 0, .int .u8 0]) (t := 41) ?hr ?_; (case hd => rfl); (case hg => rfl); (case hr => first | (go_simp; done) | (go_simp; rfl)); intro gb402 hg w26 hbox hb; have n0_ := Aside0.mk (Kd.R_below (Kd.R_elderB (by (with_reducible repeat (first | apply Kd.R_alloc | apply Kd.R_drewN | apply Kd.R_drew)); exact HO395.out) gb402 (Nat.le_of_eq hg.symm)) hb); have n1_ := Aside0.mk (below_step (by repeat (first | (with_reducible first | exact HB.out | apply below_alloc | apply pw_below_drewN | apply below_drew1) | exact HB.out)) hb); have n2_ := Aside0.mk (hbox); have n3_ := Aside0.mk ((by rw [hg]; exact (below_size (by repeat (first | (with_reducible first | exact HB.out | apply below_alloc | apply pw_below_drewN | apply below_drew1) | exact HB.out))) : w.heap.size ≤ gb402)); have n4_ := Aside0.mk ((by rw [hg]; exact (below_size (by repeat (first | (with_reducible first | exact HB.out | apply below_alloc | apply pw_below_drewN | apply below_drew1) | exact HB.out))) : w.heap.size ≤ gb402)); clear HO395; clear HB; have HO395 := n0_; have HB := n1_; have BK402 := n2_; have GW402 := n3_; have GE402 := n4_; clear n0_ n1_ n2_ n3_ n4_; clear hb hbox hg; have hcz27_0 : w26.cell? ⟨gb402, 0, none⟩ = some (.int .i64 0) := (blk_cell BK402.out 0).trans rfl; have hcz27_1 : w26.cell? ⟨gb402, 1, none⟩ = some (.int .i64 0) := (blk_cell BK402.out 1).trans rfl; have hcz27_2 : w26.cell? ⟨gb402, 2, none⟩ = some (.int .i64 0) := (blk_cell BK402.out 2).trans rfl; have hcz27_3 : w26.cell? ⟨gb402, 3, none⟩ = some (.int .i64 0) := (blk_cell BK402.out 3).trans rfl; have hcz27_4 : w26.cell? ⟨gb402, 4, none⟩ = some (.int .i64 0) := (blk_cell BK402.out 4).trans rfl; have hcz27_5 : w26.cell? ⟨gb402, 5, none⟩ = some (.int .u8 0) := (blk_cell BK402.out 5).trans rfl; have hfz27_0 := blk_frozen BK402.out 0; have hfz27_1 := blk_frozen BK402.out 1; have hfz27_2 := blk_frozen BK402.out 2; have hfz27_3 := blk_frozen BK402.out 3; have hfz27_4 := blk_frozen BK402.out 4; have hfz27_5 := blk_frozen BK402.out 5) | ((with_reducible refine gate_callee (f := 39) rfl ?_); refine goesL_ (some 59) rfl rfl Try.func39 (by kernel_rfl) rfl #[.slice (some ad401) t393.length co25, .int .i64 ((rd_T41 t393 (ji17)).f0)] rfl (by (try simp only [List.map_toArray, List.map_cons, List.map_nil]); first | done | (simp only [hji17]; rfl) | rfl | (simp only [List.length_drop, List.length_take]; rfl)) ?_; (with_reducible refine (order_Cancel.calls _ _ t393 ((rd_T41 t393 (ji17)).f0) t403 t404 _ ?side1 ?side2 A20.out).mono ?_); (case side1 => refine (Kd.R_reads' (e := 41) (base := w.heap.size) (ok := fun k_ => (True ∧ k_ ≠ gb402)) (n := t393.length) (c := co25) ?_).2.2; exact (by (with_reducible repeat (first | apply Kd.R_alloc | apply Kd.R_drewN | apply Kd.R_drew)); exact (Kd.R_mono (Kd.R_far (p := ⟨gb402, 5, none⟩) (Kd.R_far (p := ⟨gb402, 4, none⟩) (Kd.R_far (p := ⟨gb402, 3, none⟩) (Kd.R_far (p := ⟨gb402, 2, none⟩) (Kd.R_far (p := ⟨gb402, 1, none⟩) (Kd.R_far (p := ⟨gb402, 0, none⟩) (Kd.R_mono HO395.out (fun k_ hk => (⟨hk, hk.2⟩ : _ ∧ k_ ≠ gb402))) (fun _ hk => hk.2) (.int .i64 ((rd_T41 t393 (ji17)).f0))) (fun _ hk => hk.2) (.int .i64 ((rd_T41 t393 (ji17)).f1))) (fun _ hk => hk.2) (.int .i64 ((rd_T41 t393 (ji17)).f2))) (fun _ hk => hk.2) (.int .i64 ((rd_T41 t393 (ji17)).f3))) (fun _ hk => hk.2) (.int .i64 ((rd_T41 t393 (ji17)).f4))) (fun _ hk => hk.2) (.int .u8 ((rd_T41 t393 (ji17)).f5))) (fun _ h_ => h_.1)))); (case side2 => exact (Kd.R_reads' HO395.out).2.1); rintro e w28 ⟨v405, rfl, ho0, hb⟩; refine ⟨_, rfl, ?_⟩; have n0_ := Aside0.mk (Kd.R_elder' (by (with_reducible repeat (first | apply Kd.R_alloc | apply Kd.R_drewN | apply Kd.R_drew)); exact (Kd.R_mono (Kd.R_far (p := ⟨gb402, 5, none⟩) (Kd.R_far (p := ⟨gb402, 4, none⟩) (Kd.R_far (p := ⟨gb402, 3, none⟩) (Kd.R_far (p := ⟨gb402, 2, none⟩) (Kd.R_far (p := ⟨gb402, 1, none⟩) (Kd.R_far (p := ⟨gb402, 0, none⟩) (Kd.R_mono HO395.out (fun k_ hk => (⟨hk, hk.2⟩ : _ ∧ k_ ≠ gb402))) (fun _ hk => hk.2) (.int .i64 ((rd_T41 t393 (ji17)).f0))) (fun _ hk => hk.2) (.int .i64 ((rd_T41 t393 (ji17)).f1))) (fun _ hk => hk.2) (.int .i64 ((rd_T41 t393 (ji17)).f2))) (fun _ hk => hk.2) (.int .i64 ((rd_T41 t393 (ji17)).f3))) (fun _ hk => hk.2) (.int .i64 ((rd_T41 t393 (ji17)).f4))) (fun _ hk => hk.2) (.int .u8 ((rd_T41 t393 (ji17)).f5))) (fun _ h_ => h_.1))) (Kd.R_base ho0) hb); have n1_ := Aside0.mk (Kd.R_lower (Kd.R_newB (Kd.R_new' ho0 (Kd.R_lt (by (with_reducible repeat (first | apply Kd.R_alloc | apply Kd.R_drewN | apply Kd.R_drew)); exact (Kd.R_mono (Kd.R_far (p := ⟨gb402, 5, none⟩) (Kd.R_far (p := ⟨gb402, 4, none⟩) (Kd.R_far (p := ⟨gb402, 3, none⟩) (Kd.R_far (p := ⟨gb402, 2, none⟩) (Kd.R_far (p := ⟨gb402, 1, none⟩) (Kd.R_far (p := ⟨gb402, 0, none⟩) (Kd.R_mono HO395.out (fun k_ hk => (⟨hk, hk.2⟩ : _ ∧ k_ ≠ gb402))) (fun _ hk => hk.2) (.int .i64 ((rd_T41 t393 (ji17)).f0))) (fun _ hk => hk.2) (.int .i64 ((rd_T41 t393 (ji17)).f1))) (fun _ hk => hk.2) (.int .i64 ((rd_T41 t393 (ji17)).f2))) (fun _ hk => hk.2) (.int .i64 ((rd_T41 t393 (ji17)).f3))) (fun _ hk => hk.2) (.int .i64 ((rd_T41 t393 (ji17)).f4))) (fun _ hk => hk.2) (.int .u8 ((rd_T41 t393 (ji17)).f5))) (fun _ h_ => h_.1))))) (g := gb402) (o := .cells #[.int .i64 ((rd_T41 t393 (ji17)).f0), .int .i64 ((rd_T41 t393 (ji17)).f1), .int .i64 ((rd_T41 t393 (ji17)).f2), .int .i64 ((rd_T41 t393 (ji17)).f3), .int .i64 ((rd_T41 t393 (ji17)).f4), .int .u8 ((rd_T41 t393 (ji17)).f5)] 41 (0, 0)) (by (with_reducible repeat (first | refine blk_drewN ?_ _ | refine blk_drew ?_ | refine blk_alloc ?_ _)); refine blk_put (cs := #[.int .i64 ((rd_T41 t393 (ji17)).f0), .int .i64 ((rd_T41 t393 (ji17)).f1), .int .i64 ((rd_T41 t393 (ji17)).f2), .int .i64 ((rd_T41 t393 (ji17)).f3), .int .i64 ((rd_T41 t393 (ji17)).f4), .int .u8 0]) ?_ 5 _ rfl; (with_reducible repeat (first | refine blk_drewN ?_ _ | refine blk_drew ?_ | refine blk_alloc ?_ _)); refine blk_put (cs := #[.int .i64 ((rd_T41 t393 (ji17)).f0), .int .i64 ((rd_T41 t393 (ji17)).f1), .int .i64 ((rd_T41 t393 (ji17)).f2), .int .i64 ((rd_T41 t393 (ji17)).f3), .int .i64 0, .int .u8 0]) ?_ 4 _ rfl; (with_reducible repeat (first | refine blk_drewN ?_ _ | refine blk_drew ?_ | refine blk_alloc ?_ _)); refine blk_put (cs := #[.int .i64 ((rd_T41 t393 (ji17)).f0), .int .i64 ((rd_T41 t393 (ji17)).f1), .int .i64 ((rd_T41 t393 (ji17)).f2), .int .i64 0, .int .i64 0, .int .u8 0]) ?_ 3 _ rfl; (with_reducible repeat (first | refine blk_drewN ?_ _ | refine blk_drew ?_ | refine blk_alloc ?_ _)); refine blk_put (cs := #[.int .i64 ((rd_T41 t393 (ji17)).f0), .int .i64 ((rd_T41 t393 (ji17)).f1), .int .i64 0, .int .i64 0, .int .i64 0, .int .u8 0]) ?_ 2 _ rfl; (with_reducible repeat (first | refine blk_drewN ?_ _ | refine blk_drew ?_ | refine blk_alloc ?_ _)); refine blk_put (cs := #[.int .i64 ((rd_T41 t393 (ji17)).f0), .int .i64 0, .int .i64 0, .int .i64 0, .int .i64 0, .int .u8 0]) ?_ 1 _ rfl; (with_reducible repeat (first | refine blk_drewN ?_ _ | refine blk_drew ?_ | refine blk_alloc ?_ _)); refine blk_put (cs := #[.int .i64 0, .int .i64 0, .int .i64 0, .int .i64 0, .int .i64 0, .int .u8 0]) ?_ 0 _ rfl; (with_reducible repeat (first | refine blk_drewN ?_ _ | refine blk_drew ?_ | refine blk_alloc ?_ _)); exact BK402.out)) (below_size (by repeat (first | (with_reducible first | exact HB.out | apply below_alloc | apply pw_below_drewN | apply below_drew1 | refine below_set ?_ GE402.out) | exact HB.out)))); have n2_ := Aside0.mk (blk_below (g := gb402) (o := .cells #[.int .i64 ((rd_T41 t393 (ji17)).f0), .int .i64 ((rd_T41 t393 (ji17)).f1), .int .i64 ((rd_T41 t393 (ji17)).f2), .int .i64 ((rd_T41 t393 (ji17)).f3), .int .i64 ((rd_T41 t393 (ji17)).f4), .int .u8 ((rd_T41 t393 (ji17)).f5)] 41 (0, 0)) (by (with_reducible repeat (first | refine blk_drewN ?_ _ | refine blk_drew ?_ | refine blk_alloc ?_ _)); refine blk_put (cs := #[.int .i64 ((rd_T41 t393 (ji17)).f0), .int .i64 ((rd_T41 t393 (ji17)).f1), .int .i64 ((rd_T41 t393 (ji17)).f2), .int .i64 ((rd_T41 t393 (ji17)).f3), .int .i64 ((rd_T41 t393 (ji17)).f4), .int .u8 0]) ?_ 5 _ rfl; (with_reducible repeat (first | refine blk_drewN ?_ _ | refine blk_drew ?_ | refine blk_alloc ?_ _)); refine blk_put (cs := #[.int .i64 ((rd_T41 t393 (ji17)).f0), .int .i64 ((rd_T41 t393 (ji17)).f1), .int .i64 ((rd_T41 t393 (ji17)).f2), .int .i64 ((rd_T41 t393 (ji17)).f3), .int .i64 0, .int .u8 0]) ?_ 4 _ rfl; (with_reducible repeat (first | refine blk_drewN ?_ _ | refine blk_drew ?_ | refine blk_alloc ?_ _)); refine blk_put (cs := #[.int .i64 ((rd_T41 t393 (ji17)).f0), .int .i64 ((rd_T41 t393 (ji17)).f1), .int .i64 ((rd_T41 t393 (ji17)).f2), .int .i64 0, .int .i64 0, .int .u8 0]) ?_ 3 _ rfl; (with_reducible repeat (first | refine blk_drewN ?_ _ | refine blk_drew ?_ | refine blk_alloc ?_ _)); refine blk_put (cs := #[.int .i64 ((rd_T41 t393 (ji17)).f0), .int .i64 ((rd_T41 t393 (ji17)).f1), .int .i64 0, .int .i64 0, .int .i64 0, .int .u8 0]) ?_ 2 _ rfl; (with_reducible repeat (first | refine blk_drewN ?_ _ | refine blk_drew ?_ | refine blk_alloc ?_ _)); refine blk_put (cs := #[.int .i64 ((rd_T41 t393 (ji17)).f0), .int .i64 0, .int .i64 0, .int .i64 0, .int .i64 0, .int .u8 0]) ?_ 1 _ rfl; (with_reducible repeat (first | refine blk_drewN ?_ _ | refine blk_drew ?_ | refine blk_alloc ?_ _)); refine blk_put (cs := #[.int .i64 0, .int .i64 0, .int .i64 0, .int .i64 0, .int .i64 0, .int .u8 0]) ?_ 0 _ rfl; (with_reducible repeat (first | refine blk_drewN ?_ _ | refine blk_drew ?_ | refine blk_alloc ?_ _)); exact BK402.out) hb); have n3_ := Aside0.mk (below_step (by repeat (first | (with_reducible first | exact HB.out | apply below_alloc | apply pw_below_drewN | apply below_drew1 | refine below_set ?_ GE402.out) | exact HB.out)) hb); clear HO395; clear BK402; clear HB; have HO395 := n0_; have HO406 := n1_; have BK402 := n2_; have HB := n3_; clear n0_ n1_ n2_ n3_; (try clear hb); (try clear hb2); (try clear hk); (try clear hi); (try clear ho0)) | ((with_reducible refine gate_callee (f := 26) rfl ?_); refine goesL_ (some 66) rfl rfl Try.func26 (by kernel_rfl) rfl #[.slice (some ad401) t393.length co25, .int .i64 (wrap64 (1 + (Int.tmod (wrap64 (a2)) 6))), .int .i64 (Int.tmod (wrap64 (a3)) 110)] rfl (by (try simp only [List.map_toArray, List.map_cons, List.map_nil]); first | done | rfl | (simp only [List.length_drop, List.length_take]; rfl)) ?_; (with_reducible refine (order_All.calls _ _ t393 (wrap64 (1 + (Int.tmod (wrap64 (a2)) 6))) (Int.tmod (wrap64 (a3)) 110) t407 t408 _ ?side1 ?side2 A21.out).mono ?_); (case side1 => repeat (first | exact (Kd.R_reads' HO395.out).2.2 | (with_reducible refine Kd.C_alloc ?_ _) | (with_reducible refine Kd.C_drewN ?_ _) | (with_reducible refine Kd.C_drew ?_))); (case side2 => exact (Kd.R_reads' HO395.out).2.1); rintro e w29 ⟨v409, rfl, ho0, hb⟩; refine ⟨_, rfl, ?_⟩; have n0_ := Aside0.mk (Kd.R_elder' (by (with_reducible repeat (first | apply Kd.R_alloc | apply Kd.R_drewN | apply Kd.R_drew)); exact HO395.out) (Kd.R_base ho0) hb); have n1_ := Aside0.mk (Kd.R_elder' (by (with_reducible repeat (first | apply Kd.R_alloc | apply Kd.R_drewN | apply Kd.R_drew)); exact HO406.out) (Kd.R_base ho0) hb); have n2_ := Aside0.mk (Kd.R_lower (Kd.R_newB (Kd.R_new' (Kd.R_new' ho0 (Kd.R_lt (by (with_reducible repeat (first | apply Kd.R_alloc | apply Kd.R_drewN | apply Kd.R_drew)); exact HO395.out))) (Kd.R_lt (by (with_reducible repeat (first | apply Kd.R_alloc | apply Kd.R_drewN | apply Kd.R_drew)); exact HO406.out))) (g := gb402) (o := .cells #[.int .i64 ((rd_T41 t393 (ji17)).f0), .int .i64 ((rd_T41 t393 (ji17)).f1), .int .i64 ((rd_T41 t393 (ji17)).f2), .int .i64 ((rd_T41 t393 (ji17)).f3), .int .i64 ((rd_T41 t393 (ji17)).f4), .int .u8 ((rd_T41 t393 (ji17)).f5)] 41 (0, 0)) (by (with_reducible repeat (first | refine blk_drewN ?_ _ | refine blk_drew ?_ | refine blk_alloc ?_ _)); exact BK402.out)) (below_size (by repeat (first | (with_reducible first | exact HB.out | apply below_alloc | apply pw_below_drewN | apply below_drew1 | refine below_set ?_ GE402.out) | exact HB.out)))); have n3_ := Aside0.mk (blk_below (g := gb402) (o := .cells #[.int .i64 ((rd_T41 t393 (ji17)).f0), .int .i64 ((rd_T41 t393 (ji17)).f1), .int .i64 ((rd_T41 t393 (ji17)).f2), .int .i64 ((rd_T41 t393 (ji17)).f3), .int .i64 ((rd_T41 t393 (ji17)).f4), .int .u8 ((rd_T41 t393 (ji17)).f5)] 41 (0, 0)) (by (with_reducible repeat (first | refine blk_drewN ?_ _ | refine blk_drew ?_ | refine blk_alloc ?_ _)); exact BK402.out) hb); have n4_ := Aside0.mk (below_step (by repeat (first | (with_reducible first | exact HB.out | apply below_alloc | apply pw_below_drewN | apply below_drew1 | refine below_set ?_ GE402.out) | exact HB.out)) hb); clear HO395; clear HO406; clear BK402; clear HB; have HO395 := n0_; have HO406 := n1_; have HO410 := n2_; have BK402 := n3_; have HB := n4_; clear n0_ n1_ n2_ n3_ n4_; (try clear hb); (try clear hb2); (try clear hk); (try clear hi); (try clear ho0); obtain ⟨Ao30, co30, eo30⟩ := Kd.R_slice HO406.out; subst eo30) | ((with_reducible refine gate_callee (f := 35) rfl ?_); refine goesL_ (some 73) rfl rfl Try.func35 (by kernel_rfl) rfl #[.slice Ao30 t403.length co30, .int .i64 (wrap64 (1 + (Int.tmod (wrap64 (a2)) 6))), .int .i64 (Int.tmod (wrap64 (a3)) 110)] rfl (by (try simp only [List.map_toArray, List.map_cons, List.map_nil]); first | done | rfl | (simp only [List.length_drop, List.length_take]; rfl)) ?_; (with_reducible refine (letterbaglaw35_in.calls _ _ t403 (wrap64 (1 + (Int.tmod (wrap64 (a2)) 6))) (Int.tmod (wrap64 (a3)) 110) t411 t412 _ ?side1 ?side2 A22.out).mono ?_); (case side1 => repeat (first | exact (Kd.R_reads' HO406.out).2.2 | (with_reducible refine Kd.C_alloc ?_ _) | (with_reducible refine Kd.C_drewN ?_ _) | (with_reducible refine Kd.C_drew ?_))); (case side2 => exact (Kd.R_reads' HO406.out).2.1); rintro e w31 ⟨rfl, hb⟩; refine ⟨_, rfl, ?_⟩; have n0_ := Aside0.mk (Kd.R_below (by (with_reducible repeat (first | apply Kd.R_alloc | apply Kd.R_drewN | apply Kd.R_drew)); exact HO395.out) hb); have n1_ := Aside0.mk (Kd.R_below (by (with_reducible repeat (first | apply Kd.R_alloc | apply Kd.R_drewN | apply Kd.R_drew)); exact HO406.out) hb); have n2_ := Aside0.mk (Kd.R_below (by (with_reducible repeat (first | apply Kd.R_alloc | apply Kd.R_drewN | apply Kd.R_drew)); exact HO410.out) hb); have n3_ := Aside0.mk (blk_below (g := gb402) (o := .cells #[.int .i64 ((rd_T41 t393 (ji17)).f0), .int .i64 ((rd_T41 t393 (ji17)).f1), .int .i64 ((rd_T41 t393 (ji17)).f2), .int .i64 ((rd_T41 t393 (ji17)).f3), .int .i64 ((rd_T41 t393 (ji17)).f4), .int .u8 ((rd_T41 t393 (ji17)).f5)] 41 (0, 0)) (by (with_reducible repeat (first | refine blk_drewN ?_ _ | refine blk_drew ?_ | refine blk_alloc ?_ _)); exact BK402.out) hb); have n4_ := Aside0.mk (below_step (by repeat (first | (with_reducible first | exact HB.out | apply below_alloc | apply pw_below_drewN | apply below_drew1 | refine below_set ?_ GE402.out) | exact HB.out)) hb); clear HO395; clear HO406; clear HO410; clear BK402; clear HB; have HO395 := n0_; have HO406 := n1_; have HO410 := n2_; have BK402 := n3_; have HB := n4_; clear n0_ n1_ n2_ n3_ n4_; (try clear hb); (try clear hb2); (try clear hk); (try clear hi)))
    (try simp only [Act.put, List.setIfInBounds_toArray, List.set_cons_zero, List.set_cons_succ])
    go_cut [93] (fun v93 wc => ∃ (kq : Nat) (x93_22 : Bool), v93 = .bool x93_22 ∧ Aside0 (letterbaglaw35_OrderCancels.j0 kq t407 t411 x93_22 ((rd_T41 t393 (ji17)).f0) ((rd_T41 t393 (ji17)).f1) ((rd_T41 t393 (ji17)).f2) ((rd_T41 t393 (ji17)).f3) ((rd_T41 t393 (ji17)).f4) ((rd_T41 t393 (ji17)).f5) = some r) ∧ Aside0 (kq ≤ k) ∧ Aside0 (Kd.R k41 41 wc w.heap.size (fun k_ => k_ ≠ gb402) v409 t407) ∧ Aside0 (wc.heap[gb402]? = some (.cells #[.int .i64 ((rd_T41 t393 (ji17)).f0), .int .i64 ((rd_T41 t393 (ji17)).f1), .int .i64 ((rd_T41 t393 (ji17)).f2), .int .i64 ((rd_T41 t393 (ji17)).f3), .int .i64 ((rd_T41 t393 (ji17)).f4), .int .u8 ((rd_T41 t393 (ji17)).f5)] 41 (0, 0))) ∧ Aside0 (Below w.heap.size w wc))
    case first =>
     have H := HC23.out
     clear HC23
     by_cases c32 : t404 = 0
     ·rw [if_pos c32] at H
      have c32b0 : (t404 == 0) = true := beq_iff_eq.mpr c32
      have c32b1 : (t404 != 0) = false := bne_eq_false_iff_eq.mpr c32
      clear c32
      (first | rw [c32b0] | (simp only [i64_w, i32_w]; rw [c32b0]) | skip)
      by_cases c33 : t408 = 0
      ·rw [if_pos c33] at H
       have c33b0 : (t408 == 0) = true := beq_iff_eq.mpr c33
       have c33b1 : (t408 != 0) = false := bne_eq_false_iff_eq.mpr c33
       clear c33
       by_cases c34 : t412 = true
       ·subst c34
        have H1 : (letterbaglaw35_OrderCancels.j0 k t407 t411 ((t403.length : Int) != (wrap64 ((t393.length : Int) - 1))) ((rd_T41 t393 (ji17)).f0) ((rd_T41 t393 (ji17)).f1) ((rd_T41 t393 (ji17)).f2) ((rd_T41 t393 (ji17)).f3) ((rd_T41 t393 (ji17)).f4) ((rd_T41 t393 (ji17)).f5)) = some r := by rw [if_pos rfl] at H; exact H
        clear H
        have H := H1
        clear H1
        have H' := Aside0.mk H
        clear H
        go_wp2
        go_meet
        case rel => exact ⟨_, (((t403.length : Int) != (wrap64 ((t393.length : Int) - 1)))), (by first | rfl | (simp; done) | (simp [*]; done)), H', ⟨by first | omega | exact Nat.le_refl _⟩, ⟨by (with_reducible repeat (first | apply Kd.R_alloc | apply Kd.R_drewN | apply Kd.R_drew)); exact Kd.R_mono HO410.out (fun _ hk => hk.2)⟩, ⟨by (with_reducible repeat (first | refine blk_drewN ?_ _ | refine blk_drew ?_ | refine blk_alloc ?_ _)); exact BK402.out⟩, ⟨by repeat (first | (with_reducible first | exact HB.out | apply below_alloc | apply pw_below_drewN | apply below_drew1 | refine below_set ?_ GE402.out) | exact HB.out)⟩⟩
       ·replace c34 := Bool.eq_false_iff.mpr c34
        subst c34
        have H1 : (letterbaglaw35_OrderCancels.j0 k t407 t411 true ((rd_T41 t393 (ji17)).f0) ((rd_T41 t393 (ji17)).f1) ((rd_T41 t393 (ji17)).f2) ((rd_T41 t393 (ji17)).f3) ((rd_T41 t393 (ji17)).f4) ((rd_T41 t393 (ji17)).f5)) = some r := by rw [if_neg (show ¬ (false = true) by decide)] at H; exact H
        clear H
        have H := H1
        clear H1
        have H' := Aside0.mk H
        clear H
        go_wp2
        go_meet
        case rel => exact ⟨_, (true), (by first | rfl | (simp; done) | (simp [*]; done)), H', ⟨by first | omega | exact Nat.le_refl _⟩, ⟨by (with_reducible repeat (first | apply Kd.R_alloc | apply Kd.R_drewN | apply Kd.R_drew)); exact Kd.R_mono HO410.out (fun _ hk => hk.2)⟩, ⟨by (with_reducible repeat (first | refine blk_drewN ?_ _ | refine blk_drew ?_ | refine blk_alloc ?_ _)); exact BK402.out⟩, ⟨by repeat (first | (with_reducible first | exact HB.out | apply below_alloc | apply pw_below_drewN | apply below_drew1 | refine below_set ?_ GE402.out) | exact HB.out)⟩⟩
      ·rw [if_neg c33] at H
       have c33b0 : (t408 == 0) = false := beq_eq_false_iff_ne.mpr c33
       have c33b1 : (t408 != 0) = true := bne_iff_ne.mpr c33
       have H' := Aside0.mk H
       clear H
       go_wp2
       go_meet
       case rel => exact ⟨_, (true), (by first | rfl | (simp; done) | (simp [*]; done)), H', ⟨by first | omega | exact Nat.le_refl _⟩, ⟨by (with_reducible repeat (first | apply Kd.R_alloc | apply Kd.R_drewN | apply Kd.R_drew)); exact Kd.R_mono HO410.out (fun _ hk => hk.2)⟩, ⟨by (with_reducible repeat (first | refine blk_drewN ?_ _ | refine blk_drew ?_ | refine blk_alloc ?_ _)); exact BK402.out⟩, ⟨by repeat (first | (with_reducible first | exact HB.out | apply below_alloc | apply pw_below_drewN | apply below_drew1 | refine below_set ?_ GE402.out) | exact HB.out)⟩⟩
     ·rw [if_neg c32] at H
      have c32b0 : (t404 == 0) = false := beq_eq_false_iff_ne.mpr c32
      have c32b1 : (t404 != 0) = true := bne_iff_ne.mpr c32
      (first | rw [c32b0] | (simp only [i64_w, i32_w]; rw [c32b0]) | skip)
      have H' := Aside0.mk H
      clear H
      go_wp2
      go_meet
      case rel => exact ⟨_, (true), (by first | rfl | (simp; done) | (simp [*]; done)), H', ⟨by first | omega | exact Nat.le_refl _⟩, ⟨by (with_reducible repeat (first | apply Kd.R_alloc | apply Kd.R_drewN | apply Kd.R_drew)); exact Kd.R_mono HO410.out (fun _ hk => hk.2)⟩, ⟨by (with_reducible repeat (first | refine blk_drewN ?_ _ | refine blk_drew ?_ | refine blk_alloc ?_ _)); exact BK402.out⟩, ⟨by repeat (first | (with_reducible first | exact HB.out | apply below_alloc | apply pw_below_drewN | apply below_drew1 | refine below_set ?_ GE402.out) | exact HB.out)⟩⟩
    case rest =>
     clear HC23
     try clear c1
     try clear c2
     try clear p2
     try clear c3
     try clear p4
     try clear q4
     try clear hx4
     try clear c6
     try clear c6b0
     try clear c6b1
     try clear c6b2
     try clear p6
     try clear c8
     try clear c8b0
     try clear c8b1
     try clear c9
     try clear c18
     try clear c18b0
     try clear c19
     try clear c19b0
     try clear c26
     try clear c32
     try clear c32b0
     try clear c32b1
     try clear c33
     try clear c33b0
     try clear c33b1
     try clear c34
     try clear hcz27_0
     try clear hcz27_1
     try clear hcz27_2
     try clear hcz27_3
     try clear hcz27_4
     try clear hcz27_5
     try clear hfz27_0
     try clear hfz27_1
     try clear hfz27_2
     try clear hfz27_3
     try clear hfz27_4
     try clear hfz27_5
     try clear hx401_0
     try clear hx401_1
     try clear hx401_2
     try clear hx401_3
     try clear hx401_4
     try clear hx401_5
     try clear p401
     try clear q401
     obtain ⟨kq, x93_22, rfl, HA, HJ22, HO_17, BK402, HB⟩ := hcut
     cases kq with
     | zero => exact absurd HA.out (by simp [letterbaglaw35_OrderCancels.j0])
     | succ kj22 =>
      have H := HA.out
      clear HA
      simp only [letterbaglaw35_OrderCancels.j0] at H
      by_cases c35 : x93_22 = true
      ·subst c35
       have H1 : (some false) = some r := by rw [if_pos rfl] at H; exact H
       clear H
       have H := H1
       clear H1
       obtain rfl := Option.some.inj H
       go_wp2
       go_ret
       exact ⟨by first | rfl | (simp [errW_none, errW_some] <;> rfl) | (simp only [← hji17]; first | rfl | (simp [errW_none, errW_some] <;> rfl)) | (simp [*, errW_none, errW_some] <;> rfl), by repeat (first | (with_reducible first | exact HB.out | apply below_alloc | apply pw_below_drewN | apply below_drew1 | refine below_set ?_ GE402.out) | exact HB.out)⟩
      ·replace c35 := Bool.eq_false_iff.mpr c35
       subst c35
       have H1 : (letterbaglaw35_OrderCancels.l0 kj22 t411 0 t407 (t407.length : Int) 0 ((rd_T41 t393 (ji17)).f0) ((rd_T41 t393 (ji17)).f1) ((rd_T41 t393 (ji17)).f2) ((rd_T41 t393 (ji17)).f3) ((rd_T41 t393 (ji17)).f4) ((rd_T41 t393 (ji17)).f5)) = some r := by rw [if_neg (show ¬ (false = true) by decide)] at H; exact H
       clear H
       have H := H1
       clear H1
       have H' := Aside0.mk H
       clear H
       obtain ⟨Ao36, co36, eo36⟩ := Kd.R_slice HO_17.out
       subst eo36
       go_wp2
       go_loopg [21, 96] kj22 (fun kq v21 v96 w' => ∃ (x21_2 : Int) (x96_2 : Int), v21 = .int .i64 x21_2 ∧ v96 = .int .i64 x96_2 ∧ Aside0 (letterbaglaw35_OrderCancels.l0 kq t411 x21_2 t407 (t407.length : Int) x96_2 ((rd_T41 t393 (ji17)).f0) ((rd_T41 t393 (ji17)).f1) ((rd_T41 t393 (ji17)).f2) ((rd_T41 t393 (ji17)).f3) ((rd_T41 t393 (ji17)).f4) ((rd_T41 t393 (ji17)).f5) = some r) ∧ Aside0 (kq ≤ kj22) ∧ Aside0 (Kd.R k41 41 w' w.heap.size (fun k_ => k_ ≠ gb402) (.slice Ao36 t407.length co36) t407) ∧ Aside0 (w'.heap[gb402]? = some (.cells #[.int .i64 ((rd_T41 t393 (ji17)).f0), .int .i64 ((rd_T41 t393 (ji17)).f1), .int .i64 ((rd_T41 t393 (ji17)).f2), .int .i64 ((rd_T41 t393 (ji17)).f3), .int .i64 ((rd_T41 t393 (ji17)).f4), .int .u8 ((rd_T41 t393 (ji17)).f5)] 41 (0, 0))) ∧ Aside0 (Below w.heap.size w w'))
       case atStart => exact ⟨(0), (0), (by first | rfl | (simp; done) | (simp [*]; done)), (by first | rfl | (simp; done) | (simp [*]; done)), H', ⟨Nat.le_refl _⟩, ⟨by (with_reducible repeat (first | apply Kd.R_alloc | apply Kd.R_drewN | apply Kd.R_drew)); exact HO_17.out⟩, ⟨by (with_reducible repeat (first | refine blk_drewN ?_ _ | refine blk_drew ?_ | refine blk_alloc ?_ _)); exact BK402.out⟩, ⟨by repeat (first | (with_reducible first | exact HB.out | apply below_alloc | apply pw_below_drewN | apply below_drew1 | refine below_set ?_ GE402.out) | exact HB.out)⟩⟩
       case round =>
        clear H'
        try clear c1
        try clear c2
        try clear p2
        try clear c3
        try clear p4
        try clear q4
        try clear hx4
        try clear c6
        try clear c6b0
        try clear c6b1
        try clear c6b2
        try clear p6
        try clear c8
        try clear c8b0
        try clear c8b1
        try clear c9
        try clear c18
        try clear c18b0
        try clear c19
        try clear c19b0
        try clear c26
        try clear c32
        try clear c32b0
        try clear c32b1
        try clear c33
        try clear c33b0
        try clear c33b1
        try clear c34
        try clear c35
        try clear hcz27_0
        try clear hcz27_1
        try clear hcz27_2
        try clear hcz27_3
        try clear hcz27_4
        try clear hcz27_5
        try clear hfz27_0
        try clear hfz27_1
        try clear hfz27_2
        try clear hfz27_3
        try clear hfz27_4
        try clear hfz27_5
        try clear hx401_0
        try clear hx401_1
        try clear hx401_2
        try clear hx401_3
        try clear hx401_4
        try clear hx401_5
        try clear p2
        try clear p4
        try clear p401
        try clear p6
        try clear q4
        try clear q401
        obtain ⟨x21_2, x96_2, rfl, rfl, HA, HK2, HO_94, BK402, HB⟩ := hrel
        cases gk with
        | zero => exact absurd HA.out (by simp [letterbaglaw35_OrderCancels.l0])
        | succ k2 =>
         have H := HA.out
         clear HA
         simp only [letterbaglaw35_OrderCancels.l0] at H
         by_cases c37 : x96_2 < (t407.length : Int)
         ·rw [if_pos c37] at H
          have c37b0 : decide (x96_2 < (t407.length : Int)) = true := decide_eq_true c37
          clear c37
          by_cases c38 : 0 ≤ x96_2
          ·rw [if_pos c38] at H
           have c38b0 : decide (0 ≤ x96_2) = true := decide_eq_true c38
           clear c38
           by_cases c39 : x96_2 < (t407.length : Int)
           ·rw [if_pos c39] at H
            have c39b0 : decide (x96_2 < (t407.length : Int)) = true := decide_eq_true c39
            clear c39
            by_cases c40 : ((rd_T41 t407 x96_2).f0) = ((rd_T41 t393 (ji17)).f0)
            ·rw [if_pos c40] at H
             have c40b0 : (((rd_T41 t407 x96_2).f0) == ((rd_T41 t393 (ji17)).f0)) = true := beq_iff_eq.mpr c40
             have c40b1 : (((rd_T41 t407 x96_2).f0) != ((rd_T41 t393 (ji17)).f0)) = false := bne_eq_false_iff_eq.mpr c40
             clear c40
             have H' := Aside0.mk H
             clear H
             have p413 : 0 ≤ (x96_2 : Int) := of_decide_eq_true (by first | (with_reducible assumption) | assumption)
             have q413 : x96_2 < (t407.length : Int) := of_decide_eq_true (by first | (with_reducible assumption) | assumption)
             obtain ⟨ad413, e413, hx413_0, hx413_1, hx413_2, hx413_3, hx413_4, hx413_5⟩ := at_T41 (Kd.R_reads' HO_94.out).2.2 x96_2 p413 q413
             cases e413
             replace p413 := eq_true p413
             replace q413 := eq_true q413
             go_wp2_with (first | ((with_reducible refine gate_dst (N := 23) rfl ?_); (try (refine gate_guard (by rfl) ?_; dsimp only)); refine box_event ?hg (N := 23) ?hd (cs := #[.int .i64 0, .int .i64 0, .int .i64 0, .int .i64 0, .int .i64 0, .int .u8 0]) (t := 41) ?hr ?_; (case hd => rfl); (case hg => rfl); (case hr => first | (go_simp; done) | (go_simp; rfl)); intro gb414 hg w41 hbox hb; have n0_ := Aside0.mk (Kd.R_below (Kd.R_elderB (by (with_reducible repeat (first | apply Kd.R_alloc | apply Kd.R_drewN | apply Kd.R_drew)); exact HO_94.out) gb414 (Nat.le_of_eq hg.symm)) hb); have n1_ := Aside0.mk (blk_below (g := gb402) (o := .cells #[.int .i64 ((rd_T41 t393 (ji17)).f0), .int .i64 ((rd_T41 t393 (ji17)).f1), .int .i64 ((rd_T41 t393 (ji17)).f2), .int .i64 ((rd_T41 t393 (ji17)).f3), .int .i64 ((rd_T41 t393 (ji17)).f4), .int .u8 ((rd_T41 t393 (ji17)).f5)] 41 (0, 0)) (by (with_reducible repeat (first | refine blk_drewN ?_ _ | refine blk_drew ?_ | refine blk_alloc ?_ _)); exact BK402.out) hb); have n2_ := Aside0.mk (below_step (by repeat (first | (with_reducible first | exact HB.out | apply below_alloc | apply pw_below_drewN | apply below_drew1 | refine below_set ?_ GE402.out) | exact HB.out)) hb); have n3_ := Aside0.mk (hbox); have n4_ := Aside0.mk ((by rw [hg]; exact (below_size (by repeat (first | (with_reducible first | exact HB.out | apply below_alloc | apply pw_below_drewN | apply below_drew1 | refine below_set ?_ GE402.out) | exact HB.out))) : w.heap.size ≤ gb414)); have n5_ := Aside0.mk ((by rw [hg]; exact (below_size (by repeat (first | (with_reducible first | exact HB.out | apply below_alloc | apply pw_below_drewN | apply below_drew1 | refine below_set ?_ GE402.out) | exact HB.out))) : w.heap.size ≤ gb414)); have n6_ := Aside0.mk ((by rw [hg]; exact Nat.ne_of_lt (blk_lt (g := gb402) (o := .cells #[.int .i64 ((rd_T41 t393 (ji17)).f0), .int .i64 ((rd_T41 t393 (ji17)).f1), .int .i64 ((rd_T41 t393 (ji17)).f2), .int .i64 ((rd_T41 t393 (ji17)).f3), .int .i64 ((rd_T41 t393 (ji17)).f4), .int .u8 ((rd_T41 t393 (ji17)).f5)] 41 (0, 0)) (by (with_reducible repeat (first | refine blk_drewN ?_ _ | refine blk_drew ?_ | refine blk_alloc ?_ _)); exact BK402.out)) : gb402 ≠ gb414)); have n7_ := Aside0.mk ((by rw [hg]; exact Nat.ne_of_gt (blk_lt (g := gb402) (o := .cells #[.int .i64 ((rd_T41 t393 (ji17)).f0), .int .i64 ((rd_T41 t393 (ji17)).f1), .int .i64 ((rd_T41 t393 (ji17)).f2), .int .i64 ((rd_T41 t393 (ji17)).f3), .int .i64 ((rd_T41 t393 (ji17)).f4), .int .u8 ((rd_T41 t393 (ji17)).f5)] 41 (0, 0)) (by (with_reducible repeat (first | refine blk_drewN ?_ _ | refine blk_drew ?_ | refine blk_alloc ?_ _)); exact BK402.out)) : gb414 ≠ gb402)); clear HO_94; clear BK402; clear HB; have HO_94 := n0_; have BK402 := n1_; have HB := n2_; have BK414 := n3_; have GW414 := n4_; have GE414 := n5_; have NB402_414 := n6_; have NB414_402 := n7_; clear n0_ n1_ n2_ n3_ n4_ n5_ n6_ n7_; clear hb hbox hg; have hnb42 := NB414_402.out; have hnc42 := NB402_414.out; have hcz43_0 : w41.cell? ⟨gb414, 0, none⟩ = some (.int .i64 0) := (blk_cell BK414.out 0).trans rfl; have hcz43_1 : w41.cell? ⟨gb414, 1, none⟩ = some (.int .i64 0) := (blk_cell BK414.out 1).trans rfl; have hcz43_2 : w41.cell? ⟨gb414, 2, none⟩ = some (.int .i64 0) := (blk_cell BK414.out 2).trans rfl; have hcz43_3 : w41.cell? ⟨gb414, 3, none⟩ = some (.int .i64 0) := (blk_cell BK414.out 3).trans rfl; have hcz43_4 : w41.cell? ⟨gb414, 4, none⟩ = some (.int .i64 0) := (blk_cell BK414.out 4).trans rfl; have hcz43_5 : w41.cell? ⟨gb414, 5, none⟩ = some (.int .u8 0) := (blk_cell BK414.out 5).trans rfl; have hfz43_0 := blk_frozen BK414.out 0; have hfz43_1 := blk_frozen BK414.out 1; have hfz43_2 := blk_frozen BK414.out 2; have hfz43_3 := blk_frozen BK414.out 3; have hfz43_4 := blk_frozen BK414.out 4; have hfz43_5 := blk_frozen BK414.out 5; have hcz44_0 : w41.cell? ⟨gb402, 0, none⟩ = some (.int .i64 ((rd_T41 t393 (ji17)).f0)) := (blk_cell BK402.out 0).trans rfl; have hcz44_1 : w41.cell? ⟨gb402, 1, none⟩ = some (.int .i64 ((rd_T41 t393 (ji17)).f1)) := (blk_cell BK402.out 1).trans rfl; have hcz44_2 : w41.cell? ⟨gb402, 2, none⟩ = some (.int .i64 ((rd_T41 t393 (ji17)).f2)) := (blk_cell BK402.out 2).trans rfl; have hcz44_3 : w41.cell? ⟨gb402, 3, none⟩ = some (.int .i64 ((rd_T41 t393 (ji17)).f3)) := (blk_cell BK402.out 3).trans rfl; have hcz44_4 : w41.cell? ⟨gb402, 4, none⟩ = some (.int .i64 ((rd_T41 t393 (ji17)).f4)) := (blk_cell BK402.out 4).trans rfl; have hcz44_5 : w41.cell? ⟨gb402, 5, none⟩ = some (.int .u8 ((rd_T41 t393 (ji17)).f5)) := (blk_cell BK402.out 5).trans rfl; have hfz44_0 := blk_frozen BK402.out 0; have hfz44_1 := blk_frozen BK402.out 1; have hfz44_2 := blk_frozen BK402.out 2; have hfz44_3 := blk_frozen BK402.out 3; have hfz44_4 := blk_frozen BK402.out 4; have hfz44_5 := blk_frozen BK402.out 5))
             go_roundg k2
             case measure => have := HJ22.out; have := HK2.out; omega
             case rel => exact ⟨(x21_2), (wrap64 (x96_2 + 1)), (by first | rfl | (simp; done) | (simp [*]; done)), (by first | rfl | (simp; done) | (simp [*]; done)), H', ⟨by have := HJ22.out; have := HK2.out; omega⟩, ⟨by (with_reducible repeat (first | apply Kd.R_alloc | apply Kd.R_drewN | apply Kd.R_drew)); exact Kd.R_mono (Kd.R_far (p := ⟨gb414, 5, none⟩) (Kd.R_far (p := ⟨gb414, 4, none⟩) (Kd.R_far (p := ⟨gb414, 3, none⟩) (Kd.R_far (p := ⟨gb414, 2, none⟩) (Kd.R_far (p := ⟨gb414, 1, none⟩) (Kd.R_far (p := ⟨gb414, 0, none⟩) (Kd.R_mono HO_94.out (fun k_ hk => (⟨hk, hk.2⟩ : _ ∧ k_ ≠ gb414))) (fun _ hk => hk.2) (.int .i64 ((rd_T41 t407 x96_2).f0))) (fun _ hk => hk.2) (.int .i64 ((rd_T41 t407 x96_2).f1))) (fun _ hk => hk.2) (.int .i64 ((rd_T41 t407 x96_2).f2))) (fun _ hk => hk.2) (.int .i64 ((rd_T41 t407 x96_2).f3))) (fun _ hk => hk.2) (.int .i64 ((rd_T41 t407 x96_2).f4))) (fun _ hk => hk.2) (.int .u8 ((rd_T41 t407 x96_2).f5))) (fun _ hk => hk.1.1)⟩, ⟨by (with_reducible repeat (first | refine blk_drewN ?_ _ | refine blk_drew ?_ | refine blk_alloc ?_ _)); refine blk_far ?_ NB402_414.out _; (with_reducible repeat (first | refine blk_drewN ?_ _ | refine blk_drew ?_ | refine blk_alloc ?_ _)); refine blk_far ?_ NB402_414.out _; (with_reducible repeat (first | refine blk_drewN ?_ _ | refine blk_drew ?_ | refine blk_alloc ?_ _)); refine blk_far ?_ NB402_414.out _; (with_reducible repeat (first | refine blk_drewN ?_ _ | refine blk_drew ?_ | refine blk_alloc ?_ _)); refine blk_far ?_ NB402_414.out _; (with_reducible repeat (first | refine blk_drewN ?_ _ | refine blk_drew ?_ | refine blk_alloc ?_ _)); refine blk_far ?_ NB402_414.out _; (with_reducible repeat (first | refine blk_drewN ?_ _ | refine blk_drew ?_ | refine blk_alloc ?_ _)); refine blk_far ?_ NB402_414.out _; (with_reducible repeat (first | refine blk_drewN ?_ _ | refine blk_drew ?_ | refine blk_alloc ?_ _)); exact BK402.out⟩, ⟨by repeat (first | (with_reducible first | exact HB.out | apply below_alloc | apply pw_below_drewN | apply below_drew1 | refine below_set ?_ GE402.out | refine below_set ?_ GE414.out) | exact HB.out)⟩⟩
            ·rw [if_neg c40] at H
             have c40b0 : (((rd_T41 t407 x96_2).f0) == ((rd_T41 t393 (ji17)).f0)) = false := beq_eq_false_iff_ne.mpr c40
             have c40b1 : (((rd_T41 t407 x96_2).f0) != ((rd_T41 t393 (ji17)).f0)) = true := bne_iff_ne.mpr c40
             by_cases c45 : t411 = ((rd_T41 t407 x96_2).f0)
             ·rw [if_pos c45] at H
              have c45b0 : (t411 == ((rd_T41 t407 x96_2).f0)) = true := beq_iff_eq.mpr c45
              have c45b1 : (t411 != ((rd_T41 t407 x96_2).f0)) = false := bne_eq_false_iff_eq.mpr c45
              clear c45
              replace H := Option.bind_eq_some_iff.mp H
              obtain ⟨t415, A460, H⟩ := H
              replace H : (some t415) = some r := H
              have A46 := Aside0.mk A460
              clear A460
              obtain rfl := Option.some.inj H
              have p413 : 0 ≤ (x96_2 : Int) := of_decide_eq_true (by first | (with_reducible assumption) | assumption)
              have q413 : x96_2 < (t407.length : Int) := of_decide_eq_true (by first | (with_reducible assumption) | assumption)
              obtain ⟨ad413, e413, hx413_0, hx413_1, hx413_2, hx413_3, hx413_4, hx413_5⟩ := at_T41 (Kd.R_reads' HO_94.out).2.2 x96_2 p413 q413
              cases e413
              replace p413 := eq_true p413
              replace q413 := eq_true q413
              go_wp2_with (first | ((with_reducible refine gate_dst (N := 23) rfl ?_); (try (refine gate_guard (by rfl) ?_; dsimp only)); refine box_event ?hg (N := 23) ?hd (cs := #[.int .i64 0, .int .i64 0, .int .i64 0, .int .i64 0, .int .i64 0, .int .u8 0]) (t := 41) ?hr ?_; (case hd => rfl); (case hg => rfl); (case hr => first | (go_simp; done) | (go_simp; rfl)); intro gb414 hg w47 hbox hb; have n0_ := Aside0.mk (Kd.R_below (Kd.R_elderB (by (with_reducible repeat (first | apply Kd.R_alloc | apply Kd.R_drewN | apply Kd.R_drew)); exact HO_94.out) gb414 (Nat.le_of_eq hg.symm)) hb); have n1_ := Aside0.mk (blk_below (g := gb402) (o := .cells #[.int .i64 ((rd_T41 t393 (ji17)).f0), .int .i64 ((rd_T41 t393 (ji17)).f1), .int .i64 ((rd_T41 t393 (ji17)).f2), .int .i64 ((rd_T41 t393 (ji17)).f3), .int .i64 ((rd_T41 t393 (ji17)).f4), .int .u8 ((rd_T41 t393 (ji17)).f5)] 41 (0, 0)) (by (with_reducible repeat (first | refine blk_drewN ?_ _ | refine blk_drew ?_ | refine blk_alloc ?_ _)); exact BK402.out) hb); have n2_ := Aside0.mk (below_step (by repeat (first | (with_reducible first | exact HB.out | apply below_alloc | apply pw_below_drewN | apply below_drew1 | refine below_set ?_ GE402.out) | exact HB.out)) hb); have n3_ := Aside0.mk (hbox); have n4_ := Aside0.mk ((by rw [hg]; exact (below_size (by repeat (first | (with_reducible first | exact HB.out | apply below_alloc | apply pw_below_drewN | apply below_drew1 | refine below_set ?_ GE402.out) | exact HB.out))) : w.heap.size ≤ gb414)); have n5_ := Aside0.mk ((by rw [hg]; exact (below_size (by repeat (first | (with_reducible first | exact HB.out | apply below_alloc | apply pw_below_drewN | apply below_drew1 | refine below_set ?_ GE402.out) | exact HB.out))) : w.heap.size ≤ gb414)); have n6_ := Aside0.mk ((by rw [hg]; exact Nat.ne_of_lt (blk_lt (g := gb402) (o := .cells #[.int .i64 ((rd_T41 t393 (ji17)).f0), .int .i64 ((rd_T41 t393 (ji17)).f1), .int .i64 ((rd_T41 t393 (ji17)).f2), .int .i64 ((rd_T41 t393 (ji17)).f3), .int .i64 ((rd_T41 t393 (ji17)).f4), .int .u8 ((rd_T41 t393 (ji17)).f5)] 41 (0, 0)) (by (with_reducible repeat (first | refine blk_drewN ?_ _ | refine blk_drew ?_ | refine blk_alloc ?_ _)); exact BK402.out)) : gb402 ≠ gb414)); have n7_ := Aside0.mk ((by rw [hg]; exact Nat.ne_of_gt (blk_lt (g := gb402) (o := .cells #[.int .i64 ((rd_T41 t393 (ji17)).f0), .int .i64 ((rd_T41 t393 (ji17)).f1), .int .i64 ((rd_T41 t393 (ji17)).f2), .int .i64 ((rd_T41 t393 (ji17)).f3), .int .i64 ((rd_T41 t393 (ji17)).f4), .int .u8 ((rd_T41 t393 (ji17)).f5)] 41 (0, 0)) (by (with_reducible repeat (first | refine blk_drewN ?_ _ | refine blk_drew ?_ | refine blk_alloc ?_ _)); exact BK402.out)) : gb414 ≠ gb402)); clear HO_94; clear BK402; clear HB; have HO_94 := n0_; have BK402 := n1_; have HB := n2_; have BK414 := n3_; have GW414 := n4_; have GE414 := n5_; have NB402_414 := n6_; have NB414_402 := n7_; clear n0_ n1_ n2_ n3_ n4_ n5_ n6_ n7_; clear hb hbox hg; have hnb48 := NB414_402.out; have hnc48 := NB402_414.out; have hcz49_0 : w47.cell? ⟨gb414, 0, none⟩ = some (.int .i64 0) := (blk_cell BK414.out 0).trans rfl; have hcz49_1 : w47.cell? ⟨gb414, 1, none⟩ = some (.int .i64 0) := (blk_cell BK414.out 1).trans rfl; have hcz49_2 : w47.cell? ⟨gb414, 2, none⟩ = some (.int .i64 0) := (blk_cell BK414.out 2).trans rfl; have hcz49_3 : w47.cell? ⟨gb414, 3, none⟩ = some (.int .i64 0) := (blk_cell BK414.out 3).trans rfl; have hcz49_4 : w47.cell? ⟨gb414, 4, none⟩ = some (.int .i64 0) := (blk_cell BK414.out 4).trans rfl; have hcz49_5 : w47.cell? ⟨gb414, 5, none⟩ = some (.int .u8 0) := (blk_cell BK414.out 5).trans rfl; have hfz49_0 := blk_frozen BK414.out 0; have hfz49_1 := blk_frozen BK414.out 1; have hfz49_2 := blk_frozen BK414.out 2; have hfz49_3 := blk_frozen BK414.out 3; have hfz49_4 := blk_frozen BK414.out 4; have hfz49_5 := blk_frozen BK414.out 5; have hcz50_0 : w47.cell? ⟨gb402, 0, none⟩ = some (.int .i64 ((rd_T41 t393 (ji17)).f0)) := (blk_cell BK402.out 0).trans rfl; have hcz50_1 : w47.cell? ⟨gb402, 1, none⟩ = some (.int .i64 ((rd_T41 t393 (ji17)).f1)) := (blk_cell BK402.out 1).trans rfl; have hcz50_2 : w47.cell? ⟨gb402, 2, none⟩ = some (.int .i64 ((rd_T41 t393 (ji17)).f2)) := (blk_cell BK402.out 2).trans rfl; have hcz50_3 : w47.cell? ⟨gb402, 3, none⟩ = some (.int .i64 ((rd_T41 t393 (ji17)).f3)) := (blk_cell BK402.out 3).trans rfl; have hcz50_4 : w47.cell? ⟨gb402, 4, none⟩ = some (.int .i64 ((rd_T41 t393 (ji17)).f4)) := (blk_cell BK402.out 4).trans rfl; have hcz50_5 : w47.cell? ⟨gb402, 5, none⟩ = some (.int .u8 ((rd_T41 t393 (ji17)).f5)) := (blk_cell BK402.out 5).trans rfl; have hfz50_0 := blk_frozen BK402.out 0; have hfz50_1 := blk_frozen BK402.out 1; have hfz50_2 := blk_frozen BK402.out 2; have hfz50_3 := blk_frozen BK402.out 3; have hfz50_4 := blk_frozen BK402.out 4; have hfz50_5 := blk_frozen BK402.out 5) | (go_at_call 23; (with_reducible refine (letterbaglaw35_awake.calls  t415 _ A46.out).mono ?_); rintro e w51 ⟨rfl, hb⟩; have n0_ := Aside0.mk (Kd.R_below (by (with_reducible repeat (first | apply Kd.R_alloc | apply Kd.R_drewN | apply Kd.R_drew)); exact (Kd.R_mono (Kd.R_far (p := ⟨gb414, 5, none⟩) (Kd.R_far (p := ⟨gb414, 4, none⟩) (Kd.R_far (p := ⟨gb414, 3, none⟩) (Kd.R_far (p := ⟨gb414, 2, none⟩) (Kd.R_far (p := ⟨gb414, 1, none⟩) (Kd.R_far (p := ⟨gb414, 0, none⟩) (Kd.R_mono HO_94.out (fun k_ hk => (⟨hk, hk.2⟩ : _ ∧ k_ ≠ gb414))) (fun _ hk => hk.2) (.int .i64 ((rd_T41 t407 x96_2).f0))) (fun _ hk => hk.2) (.int .i64 ((rd_T41 t407 x96_2).f1))) (fun _ hk => hk.2) (.int .i64 ((rd_T41 t407 x96_2).f2))) (fun _ hk => hk.2) (.int .i64 ((rd_T41 t407 x96_2).f3))) (fun _ hk => hk.2) (.int .i64 ((rd_T41 t407 x96_2).f4))) (fun _ hk => hk.2) (.int .u8 ((rd_T41 t407 x96_2).f5))) (fun _ h_ => h_.1))) hb); have n1_ := Aside0.mk (blk_below (g := gb402) (o := .cells #[.int .i64 ((rd_T41 t393 (ji17)).f0), .int .i64 ((rd_T41 t393 (ji17)).f1), .int .i64 ((rd_T41 t393 (ji17)).f2), .int .i64 ((rd_T41 t393 (ji17)).f3), .int .i64 ((rd_T41 t393 (ji17)).f4), .int .u8 ((rd_T41 t393 (ji17)).f5)] 41 (0, 0)) (by (with_reducible repeat (first | refine blk_drewN ?_ _ | refine blk_drew ?_ | refine blk_alloc ?_ _)); refine blk_far ?_ NB402_414.out _; (with_reducible repeat (first | refine blk_drewN ?_ _ | refine blk_drew ?_ | refine blk_alloc ?_ _)); refine blk_far ?_ NB402_414.out _; (with_reducible repeat (first | refine blk_drewN ?_ _ | refine blk_drew ?_ | refine blk_alloc ?_ _)); refine blk_far ?_ NB402_414.out _; (with_reducible repeat (first | refine blk_drewN ?_ _ | refine blk_drew ?_ | refine blk_alloc ?_ _)); refine blk_far ?_ NB402_414.out _; (with_reducible repeat (first | refine blk_drewN ?_ _ | refine blk_drew ?_ | refine blk_alloc ?_ _)); refine blk_far ?_ NB402_414.out _; (with_reducible repeat (first | refine blk_drewN ?_ _ | refine blk_drew ?_ | refine blk_alloc ?_ _)); refine blk_far ?_ NB402_414.out _; (with_reducible repeat (first | refine blk_drewN ?_ _ | refine blk_drew ?_ | refine blk_alloc ?_ _)); exact BK402.out) hb); have n2_ := Aside0.mk (blk_below (g := gb414) (o := .cells #[.int .i64 ((rd_T41 t407 x96_2).f0), .int .i64 ((rd_T41 t407 x96_2).f1), .int .i64 ((rd_T41 t407 x96_2).f2), .int .i64 ((rd_T41 t407 x96_2).f3), .int .i64 ((rd_T41 t407 x96_2).f4), .int .u8 ((rd_T41 t407 x96_2).f5)] 41 (0, 0)) (by (with_reducible repeat (first | refine blk_drewN ?_ _ | refine blk_drew ?_ | refine blk_alloc ?_ _)); refine blk_put (cs := #[.int .i64 ((rd_T41 t407 x96_2).f0), .int .i64 ((rd_T41 t407 x96_2).f1), .int .i64 ((rd_T41 t407 x96_2).f2), .int .i64 ((rd_T41 t407 x96_2).f3), .int .i64 ((rd_T41 t407 x96_2).f4), .int .u8 0]) ?_ 5 _ rfl; (with_reducible repeat (first | refine blk_drewN ?_ _ | refine blk_drew ?_ | refine blk_alloc ?_ _)); refine blk_put (cs := #[.int .i64 ((rd_T41 t407 x96_2).f0), .int .i64 ((rd_T41 t407 x96_2).f1), .int .i64 ((rd_T41 t407 x96_2).f2), .int .i64 ((rd_T41 t407 x96_2).f3), .int .i64 0, .int .u8 0]) ?_ 4 _ rfl; (with_reducible repeat (first | refine blk_drewN ?_ _ | refine blk_drew ?_ | refine blk_alloc ?_ _)); refine blk_put (cs := #[.int .i64 ((rd_T41 t407 x96_2).f0), .int .i64 ((rd_T41 t407 x96_2).f1), .int .i64 ((rd_T41 t407 x96_2).f2), .int .i64 0, .int .i64 0, .int .u8 0]) ?_ 3 _ rfl; (with_reducible repeat (first | refine blk_drewN ?_ _ | refine blk_drew ?_ | refine blk_alloc ?_ _)); refine blk_put (cs := #[.int .i64 ((rd_T41 t407 x96_2).f0), .int .i64 ((rd_T41 t407 x96_2).f1), .int .i64 0, .int .i64 0, .int .i64 0, .int .u8 0]) ?_ 2 _ rfl; (with_reducible repeat (first | refine blk_drewN ?_ _ | refine blk_drew ?_ | refine blk_alloc ?_ _)); refine blk_put (cs := #[.int .i64 ((rd_T41 t407 x96_2).f0), .int .i64 0, .int .i64 0, .int .i64 0, .int .i64 0, .int .u8 0]) ?_ 1 _ rfl; (with_reducible repeat (first | refine blk_drewN ?_ _ | refine blk_drew ?_ | refine blk_alloc ?_ _)); refine blk_put (cs := #[.int .i64 0, .int .i64 0, .int .i64 0, .int .i64 0, .int .i64 0, .int .u8 0]) ?_ 0 _ rfl; (with_reducible repeat (first | refine blk_drewN ?_ _ | refine blk_drew ?_ | refine blk_alloc ?_ _)); exact BK414.out) hb); have n3_ := Aside0.mk (below_step (by repeat (first | (with_reducible first | exact HB.out | apply below_alloc | apply pw_below_drewN | apply below_drew1 | refine below_set ?_ GE402.out | refine below_set ?_ GE414.out) | exact HB.out)) hb); clear HO_94; clear BK402; clear BK414; clear HB; have HO_94 := n0_; have BK402 := n1_; have BK414 := n2_; have HB := n3_; clear n0_ n1_ n2_ n3_; (try clear hb); (try clear hb2); (try clear hk); (try clear hi)))
              go_ret
              exact ⟨by first | rfl | (simp [errW_none, errW_some] <;> rfl) | (simp only [← hji17]; first | rfl | (simp [errW_none, errW_some] <;> rfl)) | (simp [*, errW_none, errW_some] <;> rfl), by repeat (first | (with_reducible first | exact HB.out | apply below_alloc | apply pw_below_drewN | apply below_drew1 | refine below_set ?_ GE402.out | refine below_set ?_ GE414.out) | exact HB.out)⟩
             ·rw [if_neg c45] at H
              have c45b0 : (t411 == ((rd_T41 t407 x96_2).f0)) = false := beq_eq_false_iff_ne.mpr c45
              have c45b1 : (t411 != ((rd_T41 t407 x96_2).f0)) = true := bne_iff_ne.mpr c45
              obtain rfl := Option.some.inj H
              have p413 : 0 ≤ (x96_2 : Int) := of_decide_eq_true (by first | (with_reducible assumption) | assumption)
              have q413 : x96_2 < (t407.length : Int) := of_decide_eq_true (by first | (with_reducible assumption) | assumption)
              obtain ⟨ad413, e413, hx413_0, hx413_1, hx413_2, hx413_3, hx413_4, hx413_5⟩ := at_T41 (Kd.R_reads' HO_94.out).2.2 x96_2 p413 q413
              cases e413
              replace p413 := eq_true p413
              replace q413 := eq_true q413
              go_wp2_with (first | ((with_reducible refine gate_dst (N := 23) rfl ?_); (try (refine gate_guard (by rfl) ?_; dsimp only)); refine box_event ?hg (N := 23) ?hd (cs := #[.int .i64 0, .int .i64 0, .int .i64 0, .int .i64 0, .int .i64 0, .int .u8 0]) (t := 41) ?hr ?_; (case hd => rfl); (case hg => rfl); (case hr => first | (go_simp; done) | (go_simp; rfl)); intro gb414 hg w52 hbox hb; have n0_ := Aside0.mk (Kd.R_below (Kd.R_elderB (by (with_reducible repeat (first | apply Kd.R_alloc | apply Kd.R_drewN | apply Kd.R_drew)); exact HO_94.out) gb414 (Nat.le_of_eq hg.symm)) hb); have n1_ := Aside0.mk (blk_below (g := gb402) (o := .cells #[.int .i64 ((rd_T41 t393 (ji17)).f0), .int .i64 ((rd_T41 t393 (ji17)).f1), .int .i64 ((rd_T41 t393 (ji17)).f2), .int .i64 ((rd_T41 t393 (ji17)).f3), .int .i64 ((rd_T41 t393 (ji17)).f4), .int .u8 ((rd_T41 t393 (ji17)).f5)] 41 (0, 0)) (by (with_reducible repeat (first | refine blk_drewN ?_ _ | refine blk_drew ?_ | refine blk_alloc ?_ _)); exact BK402.out) hb); have n2_ := Aside0.mk (below_step (by repeat (first | (with_reducible first | exact HB.out | apply below_alloc | apply pw_below_drewN | apply below_drew1 | refine below_set ?_ GE402.out) | exact HB.out)) hb); have n3_ := Aside0.mk (hbox); have n4_ := Aside0.mk ((by rw [hg]; exact (below_size (by repeat (first | (with_reducible first | exact HB.out | apply below_alloc | apply pw_below_drewN | apply below_drew1 | refine below_set ?_ GE402.out) | exact HB.out))) : w.heap.size ≤ gb414)); have n5_ := Aside0.mk ((by rw [hg]; exact (below_size (by repeat (first | (with_reducible first | exact HB.out | apply below_alloc | apply pw_below_drewN | apply below_drew1 | refine below_set ?_ GE402.out) | exact HB.out))) : w.heap.size ≤ gb414)); have n6_ := Aside0.mk ((by rw [hg]; exact Nat.ne_of_lt (blk_lt (g := gb402) (o := .cells #[.int .i64 ((rd_T41 t393 (ji17)).f0), .int .i64 ((rd_T41 t393 (ji17)).f1), .int .i64 ((rd_T41 t393 (ji17)).f2), .int .i64 ((rd_T41 t393 (ji17)).f3), .int .i64 ((rd_T41 t393 (ji17)).f4), .int .u8 ((rd_T41 t393 (ji17)).f5)] 41 (0, 0)) (by (with_reducible repeat (first | refine blk_drewN ?_ _ | refine blk_drew ?_ | refine blk_alloc ?_ _)); exact BK402.out)) : gb402 ≠ gb414)); have n7_ := Aside0.mk ((by rw [hg]; exact Nat.ne_of_gt (blk_lt (g := gb402) (o := .cells #[.int .i64 ((rd_T41 t393 (ji17)).f0), .int .i64 ((rd_T41 t393 (ji17)).f1), .int .i64 ((rd_T41 t393 (ji17)).f2), .int .i64 ((rd_T41 t393 (ji17)).f3), .int .i64 ((rd_T41 t393 (ji17)).f4), .int .u8 ((rd_T41 t393 (ji17)).f5)] 41 (0, 0)) (by (with_reducible repeat (first | refine blk_drewN ?_ _ | refine blk_drew ?_ | refine blk_alloc ?_ _)); exact BK402.out)) : gb414 ≠ gb402)); clear HO_94; clear BK402; clear HB; have HO_94 := n0_; have BK402 := n1_; have HB := n2_; have BK414 := n3_; have GW414 := n4_; have GE414 := n5_; have NB402_414 := n6_; have NB414_402 := n7_; clear n0_ n1_ n2_ n3_ n4_ n5_ n6_ n7_; clear hb hbox hg; have hnb53 := NB414_402.out; have hnc53 := NB402_414.out; have hcz54_0 : w52.cell? ⟨gb414, 0, none⟩ = some (.int .i64 0) := (blk_cell BK414.out 0).trans rfl; have hcz54_1 : w52.cell? ⟨gb414, 1, none⟩ = some (.int .i64 0) := (blk_cell BK414.out 1).trans rfl; have hcz54_2 : w52.cell? ⟨gb414, 2, none⟩ = some (.int .i64 0) := (blk_cell BK414.out 2).trans rfl; have hcz54_3 : w52.cell? ⟨gb414, 3, none⟩ = some (.int .i64 0) := (blk_cell BK414.out 3).trans rfl; have hcz54_4 : w52.cell? ⟨gb414, 4, none⟩ = some (.int .i64 0) := (blk_cell BK414.out 4).trans rfl; have hcz54_5 : w52.cell? ⟨gb414, 5, none⟩ = some (.int .u8 0) := (blk_cell BK414.out 5).trans rfl; have hfz54_0 := blk_frozen BK414.out 0; have hfz54_1 := blk_frozen BK414.out 1; have hfz54_2 := blk_frozen BK414.out 2; have hfz54_3 := blk_frozen BK414.out 3; have hfz54_4 := blk_frozen BK414.out 4; have hfz54_5 := blk_frozen BK414.out 5; have hcz55_0 : w52.cell? ⟨gb402, 0, none⟩ = some (.int .i64 ((rd_T41 t393 (ji17)).f0)) := (blk_cell BK402.out 0).trans rfl; have hcz55_1 : w52.cell? ⟨gb402, 1, none⟩ = some (.int .i64 ((rd_T41 t393 (ji17)).f1)) := (blk_cell BK402.out 1).trans rfl; have hcz55_2 : w52.cell? ⟨gb402, 2, none⟩ = some (.int .i64 ((rd_T41 t393 (ji17)).f2)) := (blk_cell BK402.out 2).trans rfl; have hcz55_3 : w52.cell? ⟨gb402, 3, none⟩ = some (.int .i64 ((rd_T41 t393 (ji17)).f3)) := (blk_cell BK402.out 3).trans rfl; have hcz55_4 : w52.cell? ⟨gb402, 4, none⟩ = some (.int .i64 ((rd_T41 t393 (ji17)).f4)) := (blk_cell BK402.out 4).trans rfl; have hcz55_5 : w52.cell? ⟨gb402, 5, none⟩ = some (.int .u8 ((rd_T41 t393 (ji17)).f5)) := (blk_cell BK402.out 5).trans rfl; have hfz55_0 := blk_frozen BK402.out 0; have hfz55_1 := blk_frozen BK402.out 1; have hfz55_2 := blk_frozen BK402.out 2; have hfz55_3 := blk_frozen BK402.out 3; have hfz55_4 := blk_frozen BK402.out 4; have hfz55_5 := blk_frozen BK402.out 5))
              go_ret
              exact ⟨by first | rfl | (simp [errW_none, errW_some] <;> rfl) | (simp only [← hji17]; first | rfl | (simp [errW_none, errW_some] <;> rfl)) | (simp [*, errW_none, errW_some] <;> rfl), by repeat (first | (with_reducible first | exact HB.out | apply below_alloc | apply pw_below_drewN | apply below_drew1 | refine below_set ?_ GE402.out | refine below_set ?_ GE414.out) | exact HB.out)⟩
           ·rw [if_neg c39] at H
            exact absurd H (by simp)
          ·rw [if_neg c38] at H
           exact absurd H (by simp)
         ·rw [if_neg c37] at H
          have c37b0 : decide (x96_2 < (t407.length : Int)) = false := decide_eq_false c37
          clear c37
          by_cases c56 : t411 = x21_2
          ·rw [if_pos c56] at H
           have c56b0 : (t411 == x21_2) = true := beq_iff_eq.mpr c56
           have c56b1 : (t411 != x21_2) = false := bne_eq_false_iff_eq.mpr c56
           clear c56
           replace H := Option.bind_eq_some_iff.mp H
           obtain ⟨t416, A570, H⟩ := H
           replace H : (some t416) = some r := H
           have A57 := Aside0.mk A570
           clear A570
           obtain rfl := Option.some.inj H
           go_wp2_with (first | (go_at_call 23; (with_reducible refine (letterbaglaw35_awake.calls  t416 _ A57.out).mono ?_); rintro e w58 ⟨rfl, hb⟩; have n0_ := Aside0.mk (Kd.R_below (by (with_reducible repeat (first | apply Kd.R_alloc | apply Kd.R_drewN | apply Kd.R_drew)); exact HO_94.out) hb); have n1_ := Aside0.mk (blk_below (g := gb402) (o := .cells #[.int .i64 ((rd_T41 t393 (ji17)).f0), .int .i64 ((rd_T41 t393 (ji17)).f1), .int .i64 ((rd_T41 t393 (ji17)).f2), .int .i64 ((rd_T41 t393 (ji17)).f3), .int .i64 ((rd_T41 t393 (ji17)).f4), .int .u8 ((rd_T41 t393 (ji17)).f5)] 41 (0, 0)) (by (with_reducible repeat (first | refine blk_drewN ?_ _ | refine blk_drew ?_ | refine blk_alloc ?_ _)); exact BK402.out) hb); have n2_ := Aside0.mk (below_step (by repeat (first | (with_reducible first | exact HB.out | apply below_alloc | apply pw_below_drewN | apply below_drew1 | refine below_set ?_ GE402.out) | exact HB.out)) hb); clear HO_94; clear BK402; clear HB; have HO_94 := n0_; have BK402 := n1_; have HB := n2_; clear n0_ n1_ n2_; (try clear hb); (try clear hb2); (try clear hk); (try clear hi)))
           go_ret
           exact ⟨by first | rfl | (simp [errW_none, errW_some] <;> rfl) | (simp only [← hji17]; first | rfl | (simp [errW_none, errW_some] <;> rfl)) | (simp [*, errW_none, errW_some] <;> rfl), by repeat (first | (with_reducible first | exact HB.out | apply below_alloc | apply pw_below_drewN | apply below_drew1 | refine below_set ?_ GE402.out) | exact HB.out)⟩
          ·rw [if_neg c56] at H
           have c56b0 : (t411 == x21_2) = false := beq_eq_false_iff_ne.mpr c56
           have c56b1 : (t411 != x21_2) = true := bne_iff_ne.mpr c56
           obtain rfl := Option.some.inj H
           go_wp2
           go_ret
           exact ⟨by first | rfl | (simp [errW_none, errW_some] <;> rfl) | (simp only [← hji17]; first | rfl | (simp [errW_none, errW_some] <;> rfl)) | (simp [*, errW_none, errW_some] <;> rfl), by repeat (first | (with_reducible first | exact HB.out | apply below_alloc | apply pw_below_drewN | apply below_drew1 | refine below_set ?_ GE402.out) | exact HB.out)⟩
   ·rw [if_neg c19] at H
    exact absurd H (by simp)
  ·rw [if_neg c18] at H
   exact absurd H (by simp)
end Go.Proofs.Ytgffddbhnggllaa.QF
namespace Go.Proofs.Ytgffddbhnggllaa.Ed
open Go.RowKit Go.Proofs.YtgffddbhnggllaaW.PrintWords QF
open letterbaglaw35_OrderCancels
def noId (id : Int) (o : S41) : Bool := o.f0 != id
theorem all_noId {id : Int} {L : List S41} (h : ∀ o ∈ L, o.f0 ≠ id) : L.filter (noId id) = L := List.filter_eq_self.2 (fun o ho => by unfold noId; exact bne_iff_ne.2 (h o ho))
theorem cut_filter : ∀ (L : List S41) (m : Nat) (h : m < L.length), (L.map (·.f0)).Nodup → L.take m ++ L.drop (m + 1) = L.filter (noId L[m].f0) := by
  intro L
  induction L with
  | nil => intro m h; simp at h
  | cons o L ih =>
    intro m h hn
    rw [List.map_cons, List.nodup_cons] at hn
    cases m with
    | zero =>
      rw [List.take_zero, List.nil_append, List.drop_succ_cons, List.drop_zero, List.getElem_cons_zero, List.filter_cons]
      rw [if_neg (by unfold noId; simp)]
      exact (all_noId (fun q hq e => hn.1 (by rw [← e]; exact List.mem_map_of_mem hq))).symm
    | succ m =>
      have hm : m < L.length := by simpa using h
      rw [List.take_succ_cons, List.cons_append, List.drop_succ_cons, ih m hm hn.2, List.getElem_cons_succ, List.filter_cons, if_pos]
      unfold noId
      exact bne_iff_ne.2 (fun e => hn.1 (by rw [e]; exact List.mem_map_of_mem (List.getElem_mem hm)))
theorem find_at (L : List S41) (m : Nat) (h : m < L.length) (hn : (L.map (·.f0)).Nodup) : findF L L[m].f0 = m := by
  unfold findF
  refine idxP_hit _ L m h (fun j hj hj' => ?_) (beq_self_eq_true _)
  have := List.pairwise_iff_getElem.1 hn j m (by rw [List.length_map]; omega) (by rw [List.length_map]; omega) hj
  rw [List.getElem_map, List.getElem_map] at this
  exact beq_eq_false_iff_ne.2 this
theorem right_filter {L : List S41} (h : rightL L = true) (q : S41 → Bool) : rightL (L.filter q) = true :=
  rightL_mk (Nat.le_trans (List.length_filter_le _ _) (right_len h)) (fun o ho => right_all h o (List.mem_filter.1 ho).1) (nd_filter (right_nd h) q)
theorem on_noId {L : List S41} (hn : (L.map (·.f0)).Nodup) (p d id : Int) : onF (ofF (L.filter (noId id)) p) d = (onF (ofF L p) d).filter (noId id) := by
  have e : (ofF (L.filter (noId id)) p).filter (fun o => coversO o d) = ((ofF L p).filter (fun o => coversO o d)).filter (noId id) := by
    unfold ofF
    rw [List.filter_filter, List.filter_filter, List.filter_filter, List.filter_filter]
    apply List.filter_congr
    intro o _
    cases noId id o <;> cases coversO o d <;> simp
  unfold onF
  rw [e]
  refine sorted_one (l := ((ofF L p).filter (fun o => coversO o d)).filter (noId id)) (nd_filter (nd_filter (nd_filter hn _) _) _) (sortO_perm _) ((sortO_perm _).filter _) (sortO_sorted _) ?_
  exact List.Pairwise.filter _ (sortO_sorted _)
theorem cancels_l0 (A : List S41) (x : S41) (hA : A.length ≤ 1000) : ∀ (m i : Nat), A.length - i = m → i ≤ A.length →
    Ev (fun k => letterbaglaw35_OrderCancels.l0 k (idF ((A.drop i).filter (noId x.f0))) 0 A (A.length : Int) (i : Int) x.f0 x.f1 x.f2 x.f3 x.f4 x.f5) true := by
  intro m
  induction m with
  | zero =>
    intro i hm hi
    obtain rfl : i = A.length := by omega
    refine Ev.step (f := fun _ => some true) (fun k => ?_) (Ev.now _)
    rw [List.drop_length, letterbaglaw35_OrderCancels.l0, if_neg (by omega), if_pos (show idF (List.filter (noId x.f0) []) = 0 from rfl)]
    rfl
  | succ m ih =>
    intro i hm hi
    have hil : i < A.length := by omega
    have e := rd_get A i hil
    have next := ih (i + 1) (by omega) (by omega)
    rw [← wsucc i (by omega)] at next
    rw [List.drop_eq_getElem_cons hil, List.filter_cons]
    generalize A[i] = o at e ⊢
    by_cases h : o.f0 = x.f0
    · rw [if_neg (by unfold noId; rw [h]; simp)]
      refine Ev.step (fun k => ?_) next
      rw [letterbaglaw35_OrderCancels.l0, if_pos (by omega), if_pos (by omega), if_pos (by omega), e, if_pos h]
    · rw [if_pos (by unfold noId; exact bne_iff_ne.2 h)]
      refine Ev.step (f := fun _ => some true) (fun k => ?_) (Ev.now _)
      rw [letterbaglaw35_OrderCancels.l0, if_pos (by omega), if_pos (by omega), if_pos (by omega), e, if_neg h, if_pos (show idF (o :: List.filter (noId x.f0) (List.drop (i + 1) A)) = o.f0 from rfl)]
      rfl
theorem cancels_true (l : List S72) (ok : ∀ f ∈ l, okS f) (a1 a2 a3 : Int) (h1 : 0 ≤ a1) (h2 : a1 ≤ 255) (h3 : 0 ≤ a2) (h4 : a2 ≤ 255) (h5 : 0 ≤ a3) (h6 : a3 ≤ 255) : ∃ k, letterbaglaw35_OrderCancels.f k l a1 a2 a3 = some true := by
  have hr := built_right l ok
  have hlen := built_len l
  have hnd := built_nd l
  generalize hL : builtL l = L at hr hlen hnd
  by_cases h0 : L.length = 0
  · refine ⟨41, ?_⟩
    unfold letterbaglaw35_OrderCancels.f
    rw [built_f l ok _ (by omega), Option.bind_some, hL, if_pos (by omega)]
    rfl
  · have p0 : 1 ≤ 1 + a2 % 6 := by omega
    have p1 : 1 + a2 % 6 ≤ 999999 := by omega
    have d0 : 0 ≤ a3 % 110 := by omega
    have d1 : a3 % 110 ≤ 730484 := by omega
    obtain ⟨m, hm, hml⟩ : ∃ m : Nat, Int.tmod (wrap64 a1) (L.length : Int) = m ∧ m < L.length := by
      rw [w64n a1 (by omega) (by omega), tm a1 _ h1]
      have q1 := Int.emod_nonneg a1 (show ((L.length : Nat) : Int) ≠ 0 by omega)
      have q2 := Int.emod_lt_of_pos a1 (show (0 : Int) < ((L.length : Nat) : Int) by omega)
      exact ⟨(a1 % (L.length : Int)).toNat, by omega, by omega⟩
    have e := rd_get L m hml
    have hc : cancelF L L[m].f0 = (L.filter (noId L[m].f0), 0) := by
      unfold cancelF
      rw [if_pos hr, find_at L m hml hnd, if_neg (by omega), Int.toNat_natCast, cut_filter L m hml hnd]
    have hrest := right_filter hr (noId L[m].f0)
    have hl : (L.filter (noId L[m].f0)).length = L.length - 1 := by
      rw [← cut_filter L m hml hnd, List.length_append, List.length_take, List.length_drop]; omega
    have hin := in_f hrest p0 p1 d0 d1
    rw [on_noId hnd] at hin
    have hAn : (onF (ofF L (1 + a2 % 6)) (a3 % 110)).length ≤ 1000 := by rw [onof_len]; exact Nat.le_trans (List.length_filter_le _ _) (by omega)
    have hev := cancels_l0 (onF (ofF L (1 + a2 % 6)) (a3 % 110)) L[m] hAn _ 0 rfl (by omega)
    rw [List.drop_zero] at hev
    obtain ⟨K, hK⟩ := Ev.step (g := fun k => letterbaglaw35_OrderCancels.j0 k (onF (ofF L (1 + a2 % 6)) (a3 % 110)) (idF ((onF (ofF L (1 + a2 % 6)) (a3 % 110)).filter (noId L[m].f0))) false L[m].f0 L[m].f1 L[m].f2 L[m].f3 L[m].f4 L[m].f5) (fun k => by rw [letterbaglaw35_OrderCancels.j0, if_neg (by simp)]; rfl) hev
    refine ⟨max K 41, ?_⟩
    unfold letterbaglaw35_OrderCancels.f
    rw [built_f l ok _ (by omega), Option.bind_some, hL, if_neg (by omega), hm, if_pos (by omega), if_pos (by omega), e, pt_eq a2 h3 h4, day_eq a3 h5 h6]
    unfold order_Cancel.f order_All.f
    rw [hc, Option.bind_some, allF_good hr p0 p1 d0 d1, Option.bind_some, hin, Option.bind_some, if_pos rfl, if_pos rfl, if_pos rfl]
    rw [show (((L.filter (noId L[m].f0)).length : Int) != wrap64 ((L.length : Int) - 1)) = false from by rw [bne_eq_false_iff_eq, hl, w64n _ (by omega) (by omega)]; omega]
    exact hK _ (by omega)
theorem cancels_walk (A : Option Addr) (len cap : Nat) (l : List S72) (a1 a2 a3 : Int) (w : World) (h1 : l.length = len) (h2 : len ≤ cap) (h3 : Kd.C k72 w A len l) (h4 : ∀ o ∈ l, okS o) (h5 : (Lit.int .u8 a1).wf = true) (h6 : (Lit.int .u8 a2).wf = true) (h7 : (Lit.int .u8 a3).wf = true) :
    Calls Try.prog 9 #[.slice A len cap, .int .u8 a1, .int .u8 a2, .int .u8 a3] w fun e w' => e = .returned (.bool true) ∧ Below w.heap.size w w' := by
  subst h1
  obtain ⟨k, h⟩ := cancels_true l h4 a1 a2 a3 (u8_in h5).1 (u8_in h5).2 (u8_in h6).1 (u8_in h6).2 (u8_in h7).1 (u8_in h7).2
  exact letterbaglaw35_OrderCancels.calls k A cap l a1 a2 a3 true w h3 h2 h
end Go.Proofs.Ytgffddbhnggllaa.Ed
namespace Go.Proofs.Ytgffddbhnggllaa.orderCancels
open Go.ChangeShapes Go.WideShapes Go.ChangeAt Go.RowKit Go.Joins
open Go.ChangeMaps (open_string shut_string)
set_option linter.unusedVariables false
theorem own : ownKnob Try.prog.godebug = none := by kernel_rfl
theorem laidOut : laidOutB Try.prog = true := by kernel_rfl
set_option maxRecDepth 100000 in
theorem lifted (os : Os) (started : os.Started) (H : Type) (enc : TypeId × Value → H) :
    ReturnsInHanded {} Try.checked os 9 .any (Rows.orderCancelsSpec.pre6 enc Try.prog Try.f9 Rows.orderCancelsRow.domain false) (Rows.orderCancelsSpec.post enc Try.prog Try.f9 false true false false) := by
  refine returnsInHanded_of_change_sized (C := Try.checked) own started (by kernel_rfl) Try.func9
    (ChangeSpec.witness6 (enc := enc) (C := Try.checked) false ⟨#[], #[.slice none 0 0, .int .u8 0, .int .u8 0, .int .u8 0], []⟩ 8 (by kernel_rfl) (by kernel_rfl) (by kernel_rfl) (by kernel_rfl)) ?_
  intro W base args ds gs before hval0 hW hcnd hsz0 _
  have hsz : (DataW.weightsEach Try.prog (Try.f9.params.toList ++ Rows.orderCancelsSpec.plain.varTypes Try.prog) (ds ++ gs)).all (· ≤ reachBytes) = true := hsz0
  have hval : ∀ (j : Nat) t v, Try.f9.params[j]? = some t → args[j]? = some v → Value.okWide Try.prog W .any base t v := hval0
  have hW' := hW
  obtain ⟨p, q, hA0, hV, rfl, hfz, hnd⟩ := hW
  have hA : DataW.TrodAll enc Try.prog W 0 (fun _ => true) true Try.f9.params.toList args.toList ds p := hA0
  rw [Try.params9] at hA hval hsz
  obtain ⟨v0, vs0, d0, ds0, p0, q0, hargs, rfl, rfl, h0, r0⟩ := trodAll_cons hA
  obtain ⟨v1, vs1, d1, ds1, p1, q1, rfl, rfl, rfl, h1, r1⟩ := trodAll_cons r0
  obtain ⟨v2, vs2, d2, ds2, p2, q2, rfl, rfl, rfl, h2, r2⟩ := trodAll_cons r1
  obtain ⟨v3, vs3, d3, ds3, p3, q3, rfl, rfl, rfl, h3, r3⟩ := trodAll_cons r2
  obtain ⟨rfl, rfl, rfl⟩ := trodAll_nil r3
  obtain rfl : args = #[v0, v1, v2, v3] := by cases args; simp_all
  obtain ⟨rfl, rfl⟩ := trodVars_none hV
  obtain ⟨a0, len0, cap0, rfl⟩ := okWide_slice Try.underlying22 (hval 0 22 v0 rfl rfl)
  have k0 := h0
  have lt0 : ∀ x ∈ p0, x.block < W.heap.size := by obtain ⟨m, hm⟩ := k0; exact DataW.trod_lt m _ _ _ hm
  obtain ⟨z0, n0, l0, w0, b0⟩ := Ed.open_forms h0 rfl
  obtain ⟨a1, rfl, rfl, rfl, w1⟩ := open_int Try.underlying5 (hval 1 5 v1 rfl rfl) h1
  obtain ⟨a2, rfl, rfl, rfl, w2⟩ := open_int Try.underlying5 (hval 2 5 v2 rfl rfl) h2
  obtain ⟨a3, rfl, rfl, rfl, w3⟩ := open_int Try.underlying5 (hval 3 5 v3 rfl rfl) h3
  clear hA0 hval0 hsz0 hsz
  refine (Ed.cancels_walk a0 len0 cap0 z0 a1 a2 a3 W n0 l0 w0 b0 w1 w2 w3).mono fun e W' ⟨he, bel⟩ => ?_
  subst he
  exact ⟨_, rfl, _, _, _, [], _, [], hW', trodAll_mk1 (shut_bool Try.underlying4 _), (trodAll_cons_mk (Below.trod laidOut (by kernel_rfl) (of_decide_eq_true (by kernel_rfl)) k0 bel lt0) (trodAll_cons_mk (shut_int Try.underlying5 w1) (trodAll_cons_mk (shut_int Try.underlying5 w2) (trodAll_cons_mk (shut_int Try.underlying5 w3) trodAll_mk0)))), rfl, bel.frame _, fun h => by cases h⟩
theorem over : Rows.orderCancelsRow.holds Try.pinned (OpenSpec.ofChange Rows.orderCancelsSpec) :=
  OpenClaim.holds_of_wide 9 Try.f9 rfl rfl rfl rfl rfl rfl rfl ⟨rfl, rfl, rfl, rfl, rfl⟩ rfl rfl rfl rfl rfl (by kernel_rfl) Try.func9 closed
    (of_decide_eq_true (by kernel_rfl)) (by unfold Func.isWrapper; first | (rw [if_pos (by decide +kernel)]; kernel_rfl) | (rw [if_neg (by decide +kernel)]; exact ⟨rfl, rfl⟩))
    (fun os started H enc _ => lifted os started H enc)
theorem proved : Rows.OrderCancelsSaid := over
#print axioms proved
end Go.Proofs.Ytgffddbhnggllaa.orderCancels
namespace Go.Proofs.Ytgffddbhnggllaa
theorem orderCancels_holds : Rows.OrderCancelsSaid := orderCancels.proved
end Go.Proofs.Ytgffddbhnggllaa
