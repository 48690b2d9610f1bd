/- A part of the texts of one claim: the walk of the code by hand-proved contracts, and the plain law. -/
import Derived.JoinedOf
import Derived.Test.YtgffddbhnggllaaRows
import Derived.WalkKit
import Derived.ProofKit
import Derived.OpenShut
import Derived.ShutString
import Derived.ChangeOld
import Derived.Below
import Derived.SizedLaws
import Derived.Lib.SmallJoins
import Derived.Deep.Slices
import Derived.Deep.Fields
import Derived.ChangeSame
import Derived.Test.YtgffddbhnggllaaKA6
set_option linter.unusedVariables false
set_option linter.unusedSimpArgs false
namespace Go.Proofs.Ytgffddbhnggllaa.Ed
theorem both_t {a b : Bool} (h : a = true) (k : b = true) : (a && b) = true := by rw [h, k]; rfl
theorem cl1 : (laidOutB Try.pinned.checked.prog) = true := by kernel_rfl
theorem cl2 : (mapsRowed Try.pinned.checked.prog) = true := by kernel_rfl
theorem cl6 : ((Try.pinned.checked.prog.stops == [])) = true := by kernel_rfl
theorem cl8 : ((Try.pinned.checked.prog.stopKnobs == [])) = true := by kernel_rfl
theorem cl24 : (Try.pinned.checked.prog.stopsHeard) = true := by kernel_rfl
theorem cl25 : (Try.pinned.checked.prog.mayEnter) = true := by kernel_rfl
end Go.Proofs.Ytgffddbhnggllaa.Ed
namespace Go.Proofs.Ytgffddbhnggllaa.orderRules
theorem cl0 : (Rows.orderRulesRow.wf (OpenSpec.ofChange Rows.orderRulesSpec)) = true := by kernel_rfl
theorem cl3 : (Try.f5.params.all (Try.pinned.checked.prog.readableRec ·)) = true := by kernel_rfl
theorem cl4 : (namedTie Try.pinned.checked.prog Rows.orderRulesRow.named Rows.orderRulesSpec.vars) = true := by kernel_rfl
theorem cl5 : ((Rows.orderRulesRow.stops == [])) = true := by kernel_rfl
theorem cl7 : ((Rows.orderRulesRow.knobs == [])) = true := by kernel_rfl
theorem cl9 : ((Rows.orderRulesRow.inPlace == Try.pinned.checked.prog.inPlace 5)) = true := by kernel_rfl
theorem cl10 : ((Rows.orderRulesRow.unfollowed == Try.pinned.checked.prog.unfollowed 5)) = true := by kernel_rfl
theorem cl11 : ((Rows.orderRulesRow.recurses == Try.pinned.checked.prog.recurses 5)) = true := by kernel_rfl
theorem cl12 : ((Rows.orderRulesRow.named == Try.pinned.checked.prog.varsNamed 5)) = true := by kernel_rfl
theorem cl13 : ((Rows.orderRulesRow.maps == (Try.f5.params.toList ++ Rows.orderRulesSpec.plain.varTypes Try.pinned.checked.prog).any (Try.pinned.checked.prog.mapsRec ·))) = true := by kernel_rfl
theorem cl14 : ((Rows.orderRulesRow.ifaces == (Try.f5.params.toList ++ Rows.orderRulesSpec.plain.varTypes Try.pinned.checked.prog).any (Try.pinned.checked.prog.ifacesRec ·))) = true := by kernel_rfl
theorem cl15 : ((Rows.orderRulesRow.mapsOut == Try.pinned.checked.prog.mapsAmong Try.f5.resultTypes.toList)) = true := by kernel_rfl
theorem cl16 : ((Rows.orderRulesRow.loops == (Try.f5.params.toList ++ Rows.orderRulesSpec.plain.varTypes Try.pinned.checked.prog).any (Try.pinned.checked.prog.loopsFrom ·))) = true := by kernel_rfl
theorem cl17 : ((Rows.orderRulesRow.wideKeys == (Try.f5.params.toList ++ Rows.orderRulesSpec.plain.varTypes Try.pinned.checked.prog ++ Try.f5.resultTypes.toList).any (Try.pinned.checked.prog.wideKeysFrom ·))) = true := by kernel_rfl
theorem cl18 : (Rows.orderRulesSpec.vars.all (Try.pinned.checked.prog.varReadable ·)) = true := by kernel_rfl
theorem cl19 : (Try.f5.resultTypes.all (fun t => Try.pinned.checked.prog.readableRec t && decide (t < Try.pinned.checked.prog.types.size))) = true := by kernel_rfl
theorem cl20 : ((Rows.orderRulesRow.ifacesOut == Try.f5.resultTypes.toList.any (Try.pinned.checked.prog.ifacesRec ·))) = true := by kernel_rfl
theorem cl21 : ((Rows.orderRulesRow.loopsOut == Try.f5.resultTypes.toList.any (Try.pinned.checked.prog.loopsFrom ·))) = true := by kernel_rfl
theorem cl22 : ((Rows.orderRulesRow.plainKeys == Try.pinned.checked.prog.plainKeys)) = true := by kernel_rfl
theorem cl23 : (Rows.orderRulesRow.shortTexts.isNone) = true := by kernel_rfl
theorem cl26 : ((Rows.orderRulesRow.lifted == Try.pinned.checked.prog.liftsFinal)) = true := by kernel_rfl
theorem cl27 : ((Try.pinned.checked.prog.make == some Rows.orderRulesRow.make)) = true := by kernel_rfl
theorem cl28 : ((Rows.orderRulesRow.kinds == (if Rows.orderRulesRow.domain.isEmpty then [] else Try.f5.params.toList.map fun t => match Try.pinned.checked.prog.underlying t with | some (.int k) => some k | _ => none))) = true := by kernel_rfl
theorem cl29 : ((Rows.orderRulesRow.pinned == Rows.orderRulesRow.pinnedBy)) = true := by kernel_rfl
theorem cl30 : ((Rows.orderRulesRow.veiled == (Try.f5.params.toList ++ Rows.orderRulesSpec.plain.varTypes Try.pinned.checked.prog ++ Try.f5.resultTypes.toList).any (Try.pinned.checked.prog.veiledRec ·))) = true := by kernel_rfl
theorem cl31 : (Rows.orderRulesRow.veiledFits Try.pinned.checked.prog Try.f5.params.toList (Try.f5.params.toList ++ Rows.orderRulesSpec.plain.varTypes Try.pinned.checked.prog ++ Try.f5.resultTypes.toList)) = true := by kernel_rfl
set_option maxRecDepth 100000 in
theorem closed : joinedFacts Try.pinned.checked.prog 5 Try.f5 Rows.orderRulesSpec Rows.orderRulesRow = true := by
  unfold joinedFacts
  refine Ed.both_t ?_ cl31
  refine Ed.both_t ?_ cl30
  refine Ed.both_t ?_ cl29
  refine Ed.both_t ?_ cl28
  refine Ed.both_t ?_ cl27
  refine Ed.both_t ?_ cl26
  refine Ed.both_t ?_ Ed.cl25
  refine Ed.both_t ?_ Ed.cl24
  refine Ed.both_t ?_ cl23
  refine Ed.both_t ?_ cl22
  refine Ed.both_t ?_ cl21
  refine Ed.both_t ?_ cl20
  refine Ed.both_t ?_ cl19
  refine Ed.both_t ?_ cl18
  refine Ed.both_t ?_ cl17
  refine Ed.both_t ?_ cl16
  refine Ed.both_t ?_ cl15
  refine Ed.both_t ?_ cl14
  refine Ed.both_t ?_ cl13
  refine Ed.both_t ?_ cl12
  refine Ed.both_t ?_ cl11
  refine Ed.both_t ?_ cl10
  refine Ed.both_t ?_ cl9
  refine Ed.both_t ?_ Ed.cl8
  refine Ed.both_t ?_ cl7
  refine Ed.both_t ?_ Ed.cl6
  refine Ed.both_t ?_ cl5
  refine Ed.both_t ?_ cl4
  refine Ed.both_t ?_ cl3
  refine Ed.both_t ?_ Ed.cl2
  refine Ed.both_t ?_ Ed.cl1
  exact cl0
end Go.Proofs.Ytgffddbhnggllaa.orderRules
namespace Go.Proofs.Ytgffddbhnggllaa.orderRules
open Go.ChangeShapes Go.WideShapes Go.ChangeAt Go.RowKit Go.Joins
open Go.ChangeMaps (open_string shut_string)
set_option linter.unusedVariables false
theorem own : ownKnob Try.prog.godebug = none := by kernel_rfl
theorem laidOut : laidOutB Try.prog = true := by kernel_rfl
set_option maxRecDepth 100000 in
theorem lifted (os : Os) (started : os.Started) (H : Type) (enc : TypeId × Value → H) :
    ReturnsInHanded {} Try.checked os 5 .any (Rows.orderRulesSpec.pre6 enc Try.prog Try.f5 Rows.orderRulesRow.domain false) (Rows.orderRulesSpec.post enc Try.prog Try.f5 false true false false) := by
  refine returnsInHanded_of_change_sized (C := Try.checked) own started (by kernel_rfl) Try.func5
    (ChangeSpec.witness6 (enc := enc) (C := Try.checked) false ⟨#[], #[.slice none 0 0, .int .u8 0, .int .u8 0], []⟩ 8 (by kernel_rfl) (by kernel_rfl) (by kernel_rfl) (by kernel_rfl)) ?_
  intro W base args ds gs before hval0 hW hcnd hsz0 _
  have hsz : (DataW.weightsEach Try.prog (Try.f5.params.toList ++ Rows.orderRulesSpec.plain.varTypes Try.prog) (ds ++ gs)).all (· ≤ reachBytes) = true := hsz0
  have hval : ∀ (j : Nat) t v, Try.f5.params[j]? = some t → args[j]? = some v → Value.okWide Try.prog W .any base t v := hval0
  have hW' := hW
  obtain ⟨p, q, hA0, hV, rfl, hfz, hnd⟩ := hW
  have hA : DataW.TrodAll enc Try.prog W 0 (fun _ => true) true Try.f5.params.toList args.toList ds p := hA0
  rw [Try.params5] at hA hval hsz
  obtain ⟨v0, vs0, d0, ds0, p0, q0, hargs, rfl, rfl, h0, r0⟩ := trodAll_cons hA
  obtain ⟨v1, vs1, d1, ds1, p1, q1, rfl, rfl, rfl, h1, r1⟩ := trodAll_cons r0
  obtain ⟨v2, vs2, d2, ds2, p2, q2, rfl, rfl, rfl, h2, r2⟩ := trodAll_cons r1
  obtain ⟨rfl, rfl, rfl⟩ := trodAll_nil r2
  obtain rfl : args = #[v0, v1, v2] := by cases args; simp_all
  obtain ⟨rfl, rfl⟩ := trodVars_none hV
  obtain ⟨a0, len0, cap0, rfl⟩ := okWide_slice Try.underlying22 (hval 0 22 v0 rfl rfl)
  have k0 := h0
  have lt0 : ∀ x ∈ p0, x.block < W.heap.size := by obtain ⟨m, hm⟩ := k0; exact DataW.trod_lt m _ _ _ hm
  obtain ⟨z0, n0, l0, w0, b0⟩ := Ed.open_forms h0 rfl
  obtain ⟨a1, rfl, rfl, rfl, w1⟩ := open_int Try.underlying5 (hval 1 5 v1 rfl rfl) h1
  obtain ⟨a2, rfl, rfl, rfl, w2⟩ := open_int Try.underlying5 (hval 2 5 v2 rfl rfl) h2
  clear hA0 hval0 hsz0 hsz
  refine (Ed.rules_walk a0 len0 cap0 z0 a1 a2 W n0 l0 w0 b0 w1 w2).mono fun e W' ⟨he, bel⟩ => ?_
  subst he
  exact ⟨_, rfl, _, _, _, [], _, [], hW', trodAll_mk1 (shut_bool Try.underlying4 _), (trodAll_cons_mk (Below.trod laidOut (by kernel_rfl) (of_decide_eq_true (by kernel_rfl)) k0 bel lt0) (trodAll_cons_mk (shut_int Try.underlying5 w1) (trodAll_cons_mk (shut_int Try.underlying5 w2) trodAll_mk0))), rfl, bel.frame _, fun h => by cases h⟩
theorem over : Rows.orderRulesRow.holds Try.pinned (OpenSpec.ofChange Rows.orderRulesSpec) :=
  OpenClaim.holds_of_wide 5 Try.f5 rfl rfl rfl rfl rfl rfl rfl ⟨rfl, rfl, rfl, rfl, rfl⟩ rfl rfl rfl rfl rfl (by kernel_rfl) Try.func5 closed
    (of_decide_eq_true (by kernel_rfl)) (by unfold Func.isWrapper; first | (rw [if_pos (by decide +kernel)]; kernel_rfl) | (rw [if_neg (by decide +kernel)]; exact ⟨rfl, rfl⟩))
    (fun os started H enc _ => lifted os started H enc)
theorem proved : Rows.OrderRulesSaid := over
#print axioms proved
end Go.Proofs.Ytgffddbhnggllaa.orderRules
namespace Go.Proofs.Ytgffddbhnggllaa
theorem orderRules_holds : Rows.OrderRulesSaid := orderRules.proved
end Go.Proofs.Ytgffddbhnggllaa
