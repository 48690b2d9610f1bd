/- A part of the texts of one claim: the walk of the code by hand-proved contracts, and the plain law. -/
import Derived.Sort.WalkB3
import Derived.Sort.LotD4
import Derived.Shelf.Small.Bits
import Derived.Shelf.Small.Wraps
import Derived.Shelf.Strconv.Itoa0
import Derived.Shelf.Sort.Plain
import Derived.Shelf.Slices.Turned
import Derived.Ground.Names2Prog
import Derived.Shelf.Slices.Clone
import Derived.Shelf.Slices.SearchI
import Derived.Shelf.Slices.In.SortNone
import Derived.Ground.SlgnProg
import Derived.Shelf.SlicesE.Clone
import Derived.Shelf.SlSortCmp.Xorshift
import Derived.Ground.SlsfProg
import Derived.Test.YtgffddbhnggllaaProg
import Derived.Sort.Walk7
import Derived.Sort.WalkC
import Derived.Sort.WalkC4
import Derived.Sort.WalkA6
import Derived.Deep.Cut
import Derived.Sort.Walk13
import Derived.Test.YtgffddbhnggllaaKA2
set_option linter.unusedVariables false
set_option linter.unusedSimpArgs false
namespace Go.Proofs.Ytgffddbhnggllaa.QG
open Go.RowKit Go.Proofs.YtgffddbhnggllaaW.PrintWords Go.Proofs.YtgffddbhnggllaaW.PrintLast Go.Proofs.YtgffddbhnggllaaW.PrintMore
attribute [local go_sem] max2_int min2_int max_two min_two max_three min_three max_four min_four
set_option linter.unusedVariables false
set_option linter.unusedSimpArgs false
def order_customer_before.f (k : Nat) (l0 : List (S41)) (a1_0 : Int) (a1_1 : Int) (a1_2 : Int) (a1_3 : Int) (a1_4 : Int) (a1_5 : Int) (a2_0 : Int) (a2_1 : Int) (a2_2 : Int) (a2_3 : Int) (a2_4 : Int) (a2_5 : Int) : Option (Int) := (order_customer_before_1.f a1_0 a1_1 a1_2 a1_3 a1_4 a1_5).bind fun t107 => ((order_customer_before_1.f a2_0 a2_1 a2_2 a2_3 a2_4 a2_5).bind fun t108 => ((cmp_Compare_int.f t107 t108).bind fun t109 => ((cmp_Compare_int.f a2_3 a1_3).bind fun t110 => ((cmp_Compare_int.f a2_0 a1_0).bind fun t111 => ((cmp_Or_int.f k (([t109, t110, t111] : List Int))).bind fun t115 => (some t115))))))
theorem order_customer_before.mono : ∀ a0 a1 a2 a3 a4 a5 a6 a7 a8 a9 a10 a11 a12 k, LeO (order_customer_before.f k a0 a1 a2 a3 a4 a5 a6 a7 a8 a9 a10 a11 a12) (order_customer_before.f (k + 1) a0 a1 a2 a3 a4 a5 a6 a7 a8 a9 a10 a11 a12) := by
 intro a0 a1 a2 a3 a4 a5 a6 a7 a8 a9 a10 a11 a12 k
 unfold order_customer_before.f
 repeat' first
   | (with_reducible exact cmp_Or_int.mono _ _)
   | (with_reducible exact LeO.refl _)
   | (with_reducible exact LeO.none _)
   | (with_reducible refine LeO.ite ?_ ?_)
   | (with_reducible refine LeO.bind ?_ (fun _ => ?_))
   | exact cmp_Or_int.mono _ _
   | exact LeO.none _
   | refine LeO.ite ?_ ?_
   | refine LeO.bind ?_ (fun _ => ?_)
def order_customer_before.T2 : Bool × List (List Nat × List Nat) := (true, [([], []), ([], []), ([0, 1], [0, 1]), ([], []), ([], []), ([3, 4, 2], [3, 4]), ([2, 5, 5], [2, 5]), ([], []), ([7], [7]), ([], []), ([9], [9]), ([8, 10, 6], [8, 10]), ([], []), ([12], [12]), ([], []), ([14], [14]), ([13, 15, 11], [13, 15]), ([6, 11, 16], [6, 11, 16]), ([17, 16], [17]), ([18, 18, 0, 1, 2, 3, 4, 5, 6, 7, 8, 9, 10, 11, 12, 13, 14, 15, 16, 17, 18], [18])])
def order_customer_before.B2 : List Nat := [0, 0, 3, 0, 0, 31, 63, 0, 128, 0, 512, 2047, 0, 4096, 0, 16384, 65535, 131071, 262143, 524287]
theorem order_customer_before.tab2 : rtab .any (opsOf Try.f89 2) = order_customer_before.T2 := by kernel_rfl
theorem order_customer_before.bits2 : waitsOk order_customer_before.T2.2 order_customer_before.B2 = true := by kernel_rfl
set_option maxHeartbeats 8000000 in
set_option maxRecDepth 100000 in
theorem order_customer_before.calls (k : Nat) (rv : Value) (a1_0 : Int) (a1_1 : Int) (a1_2 : Int) (a1_3 : Int) (a1_4 : Int) (a1_5 : Int) (a2_0 : Int) (a2_1 : Int) (a2_2 : Int) (a2_3 : Int) (a2_4 : Int) (a2_5 : Int) (r : Int) (w : World) (h : order_customer_before.f k [] a1_0 a1_1 a1_2 a1_3 a1_4 a1_5 a2_0 a2_1 a2_2 a2_3 a2_4 a2_5 = some r) :
  Calls Try.prog 89 #[rv, .agg #[.int .i64 a1_0, .int .i64 a1_1, .int .i64 a1_2, .int .i64 a1_3, .int .i64 a1_4, .int .u8 a1_5], .agg #[.int .i64 a2_0, .int .i64 a2_1, .int .i64 a2_2, .int .i64 a2_3, .int .i64 a2_4, .int .u8 a2_5]] w fun e w' => e = .returned (.int .i64 r) ∧ Below w.heap.size w w' := by
 have hu41 := Try.underlying41
 have HB := Aside0.mk (Below.refl w.heap.size w)
 have H : ((order_customer_before_1.f a1_0 a1_1 a1_2 a1_3 a1_4 a1_5).bind fun t107 => ((order_customer_before_1.f a2_0 a2_1 a2_2 a2_3 a2_4 a2_5).bind fun t108 => ((cmp_Compare_int.f t107 t108).bind fun t109 => ((cmp_Compare_int.f a2_3 a1_3).bind fun t110 => ((cmp_Compare_int.f a2_0 a1_0).bind fun t111 => ((cmp_Or_int.f k (([t109, t110, t111] : List Int))).bind fun t115 => (some t115))))))) = some r := h
 clear h
 replace H := Option.bind_eq_some_iff.mp H
 obtain ⟨t107, A40, H⟩ := H
 replace H : ((order_customer_before_1.f a2_0 a2_1 a2_2 a2_3 a2_4 a2_5).bind fun t108 => ((cmp_Compare_int.f t107 t108).bind fun t109 => ((cmp_Compare_int.f a2_3 a1_3).bind fun t110 => ((cmp_Compare_int.f a2_0 a1_0).bind fun t111 => ((cmp_Or_int.f k (([t109, t110, t111] : List Int))).bind fun t115 => (some t115)))))) = some r := H
 have A4 := Aside0.mk A40
 clear A40
 replace H := Option.bind_eq_some_iff.mp H
 obtain ⟨t108, A50, H⟩ := H
 replace H : ((cmp_Compare_int.f t107 t108).bind fun t109 => ((cmp_Compare_int.f a2_3 a1_3).bind fun t110 => ((cmp_Compare_int.f a2_0 a1_0).bind fun t111 => ((cmp_Or_int.f k (([t109, t110, t111] : List Int))).bind fun t115 => (some t115))))) = some r := H
 have A5 := Aside0.mk A50
 clear A50
 replace H := Option.bind_eq_some_iff.mp H
 obtain ⟨t109, A60, H⟩ := H
 replace H : ((cmp_Compare_int.f a2_3 a1_3).bind fun t110 => ((cmp_Compare_int.f a2_0 a1_0).bind fun t111 => ((cmp_Or_int.f k (([t109, t110, t111] : List Int))).bind fun t115 => (some t115)))) = some r := H
 have A6 := Aside0.mk A60
 clear A60
 replace H := Option.bind_eq_some_iff.mp H
 obtain ⟨t110, A70, H⟩ := H
 replace H : ((cmp_Compare_int.f a2_0 a1_0).bind fun t111 => ((cmp_Or_int.f k (([t109, t110, t111] : List Int))).bind fun t115 => (some t115))) = some r := H
 have A7 := Aside0.mk A70
 clear A70
 replace H := Option.bind_eq_some_iff.mp H
 obtain ⟨t111, A80, H⟩ := H
 replace H : ((cmp_Or_int.f k (([t109, t110, t111] : List Int))).bind fun t115 => (some t115)) = some r := H
 have A8 := Aside0.mk A80
 clear A80
 obtain ⟨y112, hy112⟩ : ∃ y_ : List Int, y_ = (([t109, t110, t111] : List Int)) := ⟨_, rfl⟩
 replace H : ((cmp_Or_int.f k y112).bind fun t115 => (some t115)) = some r := by first | (rw [hy112]; with_reducible exact H) | (have H2_ := (Option.bind_some _ _).symm.trans H; rw [hy112]; with_reducible exact H2_) | (have H2_ := (Option.bind_some _ _).symm.trans H; with_reducible exact H2_) | with_reducible exact H | (rw [hy112]; exact H) | exact H
 have Ny112 := Aside0.mk hy112
 clear hy112
 replace H := Option.bind_eq_some_iff.mp H
 obtain ⟨t115, A90, H⟩ := H
 replace H : (some t115) = some r := H
 have A9 := Aside0.mk A90
 clear A90
 obtain rfl := Option.some.inj H
 go_enter Try.func89, Try.ntmps89
 try go_wp2_with (first | ((with_reducible refine gate_dst (N := 4) rfl ?_); refine box_event ?hg (N := 4) ?hd (cs := #[.int .i64 a1_0, .int .i64 a1_1, .int .i64 a1_2, .int .i64 a1_3, .int .i64 a1_4, .int .u8 a1_5]) (t := 41) ?hr ?_; (case hd => rfl); (case hg => rfl); (case hr => first | (go_simp; done) | (go_simp; rfl)); intro gb105 hg w10 hbox hb; have n0_ := Aside0.mk (below_step (by repeat (first | (with_reducible first | exact HB.out | apply below_alloc | apply pw_below_drewN | apply below_drew1) | exact HB.out)) hb); have n1_ := Aside0.mk (hbox); have n2_ := Aside0.mk ((by rw [hg]; exact (below_size (by repeat (first | (with_reducible first | exact HB.out | apply below_alloc | apply pw_below_drewN | apply below_drew1) | exact HB.out))) : w.heap.size ≤ gb105)); have n3_ := Aside0.mk ((by rw [hg]; exact (below_size (by repeat (first | (with_reducible first | exact HB.out | apply below_alloc | apply pw_below_drewN | apply below_drew1) | exact HB.out))) : w.heap.size ≤ gb105)); clear HB; have HB := n0_; have BK105 := n1_; have GW105 := n2_; have GE105 := n3_; clear n0_ n1_ n2_ n3_; clear hb hbox hg) | ((with_reducible refine gate_dst (N := 5) rfl ?_); refine box_event ?hg (N := 5) ?hd (cs := #[.int .i64 a2_0, .int .i64 a2_1, .int .i64 a2_2, .int .i64 a2_3, .int .i64 a2_4, .int .u8 a2_5]) (t := 41) ?hr ?_; (case hd => rfl); (case hg => rfl); (case hr => first | (go_simp; done) | (go_simp; rfl)); intro gb106 hg w11 hbox hb; have n0_ := Aside0.mk (blk_below (g := gb105) (o := .cells #[.int .i64 a1_0, .int .i64 a1_1, .int .i64 a1_2, .int .i64 a1_3, .int .i64 a1_4, .int .u8 a1_5] 41 (0, 0)) (by (with_reducible repeat (first | refine blk_drewN ?_ _ | refine blk_drew ?_ | refine blk_alloc ?_ _)); exact BK105.out) hb); have n1_ := Aside0.mk (below_step (by repeat (first | (with_reducible first | exact HB.out | apply below_alloc | apply pw_below_drewN | apply below_drew1 | refine below_set ?_ GE105.out) | exact HB.out)) hb); have n2_ := Aside0.mk (hbox); have n3_ := Aside0.mk ((by rw [hg]; exact (below_size (by repeat (first | (with_reducible first | exact HB.out | apply below_alloc | apply pw_below_drewN | apply below_drew1 | refine below_set ?_ GE105.out) | exact HB.out))) : w.heap.size ≤ gb106)); have n4_ := Aside0.mk ((by rw [hg]; exact (below_size (by repeat (first | (with_reducible first | exact HB.out | apply below_alloc | apply pw_below_drewN | apply below_drew1 | refine below_set ?_ GE105.out) | exact HB.out))) : w.heap.size ≤ gb106)); have n5_ := Aside0.mk ((by rw [hg]; exact Nat.ne_of_lt (blk_lt (g := gb105) (o := .cells #[.int .i64 a1_0, .int .i64 a1_1, .int .i64 a1_2, .int .i64 a1_3, .int .i64 a1_4, .int .u8 a1_5] 41 (0, 0)) (by (with_reducible repeat (first | refine blk_drewN ?_ _ | refine blk_drew ?_ | refine blk_alloc ?_ _)); exact BK105.out)) : gb105 ≠ gb106)); have n6_ := Aside0.mk ((by rw [hg]; exact Nat.ne_of_gt (blk_lt (g := gb105) (o := .cells #[.int .i64 a1_0, .int .i64 a1_1, .int .i64 a1_2, .int .i64 a1_3, .int .i64 a1_4, .int .u8 a1_5] 41 (0, 0)) (by (with_reducible repeat (first | refine blk_drewN ?_ _ | refine blk_drew ?_ | refine blk_alloc ?_ _)); exact BK105.out)) : gb106 ≠ gb105)); clear BK105; clear HB; have BK105 := n0_; have HB := n1_; have BK106 := n2_; have GW106 := n3_; have GE106 := n4_; have NB105_106 := n5_; have NB106_105 := n6_; clear n0_ n1_ n2_ n3_ n4_ n5_ n6_; clear hb hbox hg))
 have n0_ := Aside0.mk (blk_drew BK105.out)
 have n1_ := Aside0.mk (blk_drew BK106.out)
 have n2_ := Aside0.mk (below_drew1 HB.out)
 clear BK105
 clear BK106
 clear HB
 have BK105 := n0_
 have BK106 := n1_
 have HB := n2_
 clear n0_ n1_ n2_
 refine start_ (n := 20) (S := fun w' => w'.cell? ⟨gb105, 0, none⟩ = some (.int .i64 a1_0) ∧ w'.cell? ⟨gb105, 1, none⟩ = some (.int .i64 a1_1) ∧ w'.cell? ⟨gb105, 2, none⟩ = some (.int .i64 a1_2) ∧ w'.cell? ⟨gb105, 3, none⟩ = some (.int .i64 a1_3) ∧ w'.cell? ⟨gb105, 4, none⟩ = some (.int .i64 a1_4) ∧ w'.cell? ⟨gb105, 5, none⟩ = some (.int .u8 a1_5) ∧ w'.cell? ⟨gb106, 0, none⟩ = some (.int .i64 a2_0) ∧ w'.cell? ⟨gb106, 1, none⟩ = some (.int .i64 a2_1) ∧ w'.cell? ⟨gb106, 2, none⟩ = some (.int .i64 a2_2) ∧ w'.cell? ⟨gb106, 3, none⟩ = some (.int .i64 a2_3) ∧ w'.cell? ⟨gb106, 4, none⟩ = some (.int .i64 a2_4) ∧ w'.cell? ⟨gb106, 5, none⟩ = some (.int .u8 a2_5)) (ds := []) #[false, false, false, false, false, false, false, false, false, false, false, false, false, false, false, false, false, false, false, false] (by kernel_rfl) rfl rfl ⟨(blk_cell BK105.out 0).trans rfl, (blk_cell BK105.out 1).trans rfl, (blk_cell BK105.out 2).trans rfl, (blk_cell BK105.out 3).trans rfl, (blk_cell BK105.out 4).trans rfl, (blk_cell BK105.out 5).trans rfl, (blk_cell BK106.out 0).trans rfl, (blk_cell BK106.out 1).trans rfl, (blk_cell BK106.out 2).trans rfl, (blk_cell BK106.out 3).trans rfl, (blk_cell BK106.out 4).trans rfl, (blk_cell BK106.out 5).trans rfl⟩ (fun hHeld => ?_); refine with_tabW order_customer_before.tab2 order_customer_before.bits2 (fun HT_ HW_ => ?_)
 generalize w11.drew = w12 at BK105 BK106 HB hHeld ⊢
 refine pure_ (i := 0) (N := some 8) (v := ?_) (a' := ?_) #[true, false, false, false, false, false, false, false, false, false, false, false, false, false, false, false, false, false, false, false] rfl rfl (any_of HT_.out (by kernel_rfl)) (fun _ _ _ h => h) (Or.inl ⟨by rfl, ?_⟩) ?_ ?_
 rotate_left
 ·intro w'
  go_simp
  with_reducible rfl
 rotate_left
 ·simp only [Act.put, List.setIfInBounds_toArray, List.set_cons_zero, List.set_cons_succ, i64_w, i32_w]
  rfl
 refine pure_ (i := 3) (N := some 11) (v := ?_) (a' := ?_) #[true, false, false, true, false, false, false, false, false, false, false, false, false, false, false, false, false, false, false, false] rfl rfl (any_of HT_.out (by kernel_rfl)) (fun _ _ _ h => h) (Or.inl ⟨by rfl, ?_⟩) ?_ ?_
 rotate_left
 ·intro w'
  go_simp
  with_reducible rfl
 rotate_left
 ·simp only [Act.put, List.setIfInBounds_toArray, List.set_cons_zero, List.set_cons_succ, i64_w, i32_w]
  rfl
 refine pure_ (i := 7) (N := some 15) (v := ?_) (a' := ?_) #[true, false, false, true, false, false, false, true, false, false, false, false, false, false, false, false, false, false, false, false] rfl rfl (any_of HT_.out (by kernel_rfl)) (fun _ _ _ h => h) (Or.inl ⟨by rfl, ?_⟩) ?_ ?_
 rotate_left
 ·intro w'
  go_simp
  with_reducible rfl
 rotate_left
 ·simp only [Act.put, List.setIfInBounds_toArray, List.set_cons_zero, List.set_cons_succ, i64_w, i32_w]
  rfl
 refine pure_ (i := 9) (N := some 17) (v := ?_) (a' := ?_) #[true, false, false, true, false, false, false, true, false, true, false, false, false, false, false, false, false, false, false, false] rfl rfl (any_of HT_.out (by kernel_rfl)) (fun _ _ _ h => h) (Or.inl ⟨by rfl, ?_⟩) ?_ ?_
 rotate_left
 ·intro w'
  go_simp
  with_reducible rfl
 rotate_left
 ·simp only [Act.put, List.setIfInBounds_toArray, List.set_cons_zero, List.set_cons_succ, i64_w, i32_w]
  rfl
 refine pure_ (i := 12) (N := some 20) (v := ?_) (a' := ?_) #[true, false, false, true, false, false, false, true, false, true, false, false, true, false, false, false, false, false, false, false] rfl rfl (any_of HT_.out (by kernel_rfl)) (fun _ _ _ h => h) (Or.inl ⟨by rfl, ?_⟩) ?_ ?_
 rotate_left
 ·intro w'
  go_simp
  with_reducible rfl
 rotate_left
 ·simp only [Act.put, List.setIfInBounds_toArray, List.set_cons_zero, List.set_cons_succ, i64_w, i32_w]
  rfl
 refine pure_ (i := 14) (N := some 22) (v := ?_) (a' := ?_) #[true, false, false, true, false, false, false, true, false, true, false, false, true, false, true, false, false, false, false, false] rfl rfl (any_of HT_.out (by kernel_rfl)) (fun _ _ _ h => h) (Or.inl ⟨by rfl, ?_⟩) ?_ ?_
 rotate_left
 ·intro w'
  go_simp
  with_reducible rfl
 rotate_left
 ·simp only [Act.put, List.setIfInBounds_toArray, List.set_cons_zero, List.set_cons_succ, i64_w, i32_w]
  rfl
 refine take_ (i := 1) (N := some 9) (v := ?_) (a' := ?_) #[true, true, false, true, false, false, false, true, false, true, false, false, true, false, true, false, false, false, false, false] rfl rfl (take_ofW HT_.out HW_.out (by kernel_rfl)) (fun _ _ _ h => h) (Or.inl ⟨by rfl, ?_⟩) hHeld ?_ ?_
 rotate_left
 ·rintro w' ⟨s0, s1, s2, s3, s4, s5, s6, s7, s8, s9, s10, s11⟩
  go_simp
  with_reducible rfl
 rotate_left
 ·simp only [Act.put, List.setIfInBounds_toArray, List.set_cons_zero, List.set_cons_succ, i64_w, i32_w]
  rfl
 refine take_ (i := 4) (N := some 12) (v := ?_) (a' := ?_) #[true, true, false, true, true, false, false, true, false, true, false, false, true, false, true, false, false, false, false, false] rfl rfl (take_ofW HT_.out HW_.out (by kernel_rfl)) (fun _ _ _ h => h) (Or.inl ⟨by rfl, ?_⟩) hHeld ?_ ?_
 rotate_left
 ·rintro w' ⟨s0, s1, s2, s3, s4, s5, s6, s7, s8, s9, s10, s11⟩
  go_simp
  with_reducible rfl
 rotate_left
 ·simp only [Act.put, List.setIfInBounds_toArray, List.set_cons_zero, List.set_cons_succ, i64_w, i32_w]
  rfl
 refine take_ (i := 8) (N := some 16) (v := ?_) (a' := ?_) #[true, true, false, true, true, false, false, true, true, true, false, false, true, false, true, false, false, false, false, false] rfl rfl (take_ofW HT_.out HW_.out (by kernel_rfl)) (fun _ _ _ h => h) (Or.inl ⟨by rfl, ?_⟩) hHeld ?_ ?_
 rotate_left
 ·rintro w' ⟨s0, s1, s2, s3, s4, s5, s6, s7, s8, s9, s10, s11⟩
  go_simp
  with_reducible rfl
 rotate_left
 ·simp only [Act.put, List.setIfInBounds_toArray, List.set_cons_zero, List.set_cons_succ, i64_w, i32_w]
  rfl
 refine take_ (i := 10) (N := some 18) (v := ?_) (a' := ?_) #[true, true, false, true, true, false, false, true, true, true, true, false, true, false, true, false, false, false, false, false] rfl rfl (take_ofW HT_.out HW_.out (by kernel_rfl)) (fun _ _ _ h => h) (Or.inl ⟨by rfl, ?_⟩) hHeld ?_ ?_
 rotate_left
 ·rintro w' ⟨s0, s1, s2, s3, s4, s5, s6, s7, s8, s9, s10, s11⟩
  go_simp
  with_reducible rfl
 rotate_left
 ·simp only [Act.put, List.setIfInBounds_toArray, List.set_cons_zero, List.set_cons_succ, i64_w, i32_w]
  rfl
 refine take_ (i := 13) (N := some 21) (v := ?_) (a' := ?_) #[true, true, false, true, true, false, false, true, true, true, true, false, true, true, true, false, false, false, false, false] rfl rfl (take_ofW HT_.out HW_.out (by kernel_rfl)) (fun _ _ _ h => h) (Or.inl ⟨by rfl, ?_⟩) hHeld ?_ ?_
 rotate_left
 ·rintro w' ⟨s0, s1, s2, s3, s4, s5, s6, s7, s8, s9, s10, s11⟩
  go_simp
  with_reducible rfl
 rotate_left
 ·simp only [Act.put, List.setIfInBounds_toArray, List.set_cons_zero, List.set_cons_succ, i64_w, i32_w]
  rfl
 refine take_ (i := 15) (N := some 23) (v := ?_) (a' := ?_) #[true, true, false, true, true, false, false, true, true, true, true, false, true, true, true, true, false, false, false, false] rfl rfl (take_ofW HT_.out HW_.out (by kernel_rfl)) (fun _ _ _ h => h) (Or.inl ⟨by rfl, ?_⟩) hHeld ?_ ?_
 rotate_left
 ·rintro w' ⟨s0, s1, s2, s3, s4, s5, s6, s7, s8, s9, s10, s11⟩
  go_simp
  with_reducible rfl
 rotate_left
 ·simp only [Act.put, List.setIfInBounds_toArray, List.set_cons_zero, List.set_cons_succ, i64_w, i32_w]
  rfl
 refine one_ (i := 2) (N := some 10) #[true, true, true, true, true, false, false, true, true, true, true, false, true, true, true, true, false, false, false, false] rfl rfl (one_of HT_.out (by kernel_rfl)) (by decide) (fun K hK => ?_)
 refine Ed.goesV_ Try.func103 (by kernel_rfl) rfl #[] #[.agg #[.int .i64 a1_0, .int .i64 a1_1, .int .i64 a1_2, .int .i64 a1_3, .int .i64 a1_4, .int .u8 a1_5]] (by rfl) rfl rfl rfl (by (try simp only [Array.empty_append, List.map_toArray, List.map_cons, List.map_nil]); first | done | rfl) ?_
 with_reducible refine (order_customer_before_1.calls a1_0 a1_1 a1_2 a1_3 a1_4 a1_5 t107 _ A4.out).mono ?_
 rintro e w13 ⟨rfl, hb⟩
 refine ⟨_, rfl, ?_⟩
 have n0_ := Aside0.mk (blk_below (g := gb105) (o := .cells #[.int .i64 a1_0, .int .i64 a1_1, .int .i64 a1_2, .int .i64 a1_3, .int .i64 a1_4, .int .u8 a1_5] 41 (0, 0)) (by (with_reducible repeat (first | refine blk_drewN ?_ _ | refine blk_drew ?_ | refine blk_alloc ?_ _)); exact BK105.out) hb)
 have n1_ := Aside0.mk (blk_below (g := gb106) (o := .cells #[.int .i64 a2_0, .int .i64 a2_1, .int .i64 a2_2, .int .i64 a2_3, .int .i64 a2_4, .int .u8 a2_5] 41 (0, 0)) (by (with_reducible repeat (first | refine blk_drewN ?_ _ | refine blk_drew ?_ | refine blk_alloc ?_ _)); exact BK106.out) hb)
 have n2_ := Aside0.mk (below_step (by repeat (first | (with_reducible first | exact HB.out | apply below_alloc | apply pw_below_drewN | apply below_drew1 | refine below_set ?_ GE105.out | refine below_set ?_ GE106.out) | exact HB.out)) hb)
 clear BK105
 clear BK106
 clear HB
 have BK105 := n0_
 have BK106 := n1_
 have HB := n2_
 clear n0_ n1_ n2_
 (try clear hb)
 (try clear hb2)
 (try clear hk)
 (try clear hi)
 refine hK.out _ _ ⟨(blk_cell BK105.out 0).trans rfl, (blk_cell BK105.out 1).trans rfl, (blk_cell BK105.out 2).trans rfl, (blk_cell BK105.out 3).trans rfl, (blk_cell BK105.out 4).trans rfl, (blk_cell BK105.out 5).trans rfl, (blk_cell BK106.out 0).trans rfl, (blk_cell BK106.out 1).trans rfl, (blk_cell BK106.out 2).trans rfl, (blk_cell BK106.out 3).trans rfl, (blk_cell BK106.out 4).trans rfl, (blk_cell BK106.out 5).trans rfl⟩ (fun hHeld => ?_)
 clear hK K
 refine norm_ (a' := ?_) ?_ ?_
 rotate_left
 ·show Act.put _ (some 10) _ = _
  simp only [Act.put, List.setIfInBounds_toArray, List.set_cons_zero, List.set_cons_succ, i64_w, i32_w]
  rfl
 refine one_ (i := 5) (N := some 13) #[true, true, true, true, true, true, false, true, true, true, true, false, true, true, true, true, false, false, false, false] rfl rfl (one_of HT_.out (by kernel_rfl)) (by decide) (fun K hK => ?_)
 refine Ed.goesV_ Try.func103 (by kernel_rfl) rfl #[] #[.agg #[.int .i64 a2_0, .int .i64 a2_1, .int .i64 a2_2, .int .i64 a2_3, .int .i64 a2_4, .int .u8 a2_5]] (by rfl) rfl rfl rfl (by (try simp only [Array.empty_append, List.map_toArray, List.map_cons, List.map_nil]); first | done | rfl) ?_
 with_reducible refine (order_customer_before_1.calls a2_0 a2_1 a2_2 a2_3 a2_4 a2_5 t108 _ A5.out).mono ?_
 rintro e w14 ⟨rfl, hb⟩
 refine ⟨_, rfl, ?_⟩
 have n0_ := Aside0.mk (blk_below (g := gb105) (o := .cells #[.int .i64 a1_0, .int .i64 a1_1, .int .i64 a1_2, .int .i64 a1_3, .int .i64 a1_4, .int .u8 a1_5] 41 (0, 0)) (by (with_reducible repeat (first | refine blk_drewN ?_ _ | refine blk_drew ?_ | refine blk_alloc ?_ _)); exact BK105.out) hb)
 have n1_ := Aside0.mk (blk_below (g := gb106) (o := .cells #[.int .i64 a2_0, .int .i64 a2_1, .int .i64 a2_2, .int .i64 a2_3, .int .i64 a2_4, .int .u8 a2_5] 41 (0, 0)) (by (with_reducible repeat (first | refine blk_drewN ?_ _ | refine blk_drew ?_ | refine blk_alloc ?_ _)); exact BK106.out) hb)
 have n2_ := Aside0.mk (below_step (by repeat (first | (with_reducible first | exact HB.out | apply below_alloc | apply pw_below_drewN | apply below_drew1 | refine below_set ?_ GE105.out | refine below_set ?_ GE106.out) | exact HB.out)) hb)
 clear BK105
 clear BK106
 clear HB
 have BK105 := n0_
 have BK106 := n1_
 have HB := n2_
 clear n0_ n1_ n2_
 (try clear hb)
 (try clear hb2)
 (try clear hk)
 (try clear hi)
 refine hK.out _ _ ⟨(blk_cell BK105.out 0).trans rfl, (blk_cell BK105.out 1).trans rfl, (blk_cell BK105.out 2).trans rfl, (blk_cell BK105.out 3).trans rfl, (blk_cell BK105.out 4).trans rfl, (blk_cell BK105.out 5).trans rfl, (blk_cell BK106.out 0).trans rfl, (blk_cell BK106.out 1).trans rfl, (blk_cell BK106.out 2).trans rfl, (blk_cell BK106.out 3).trans rfl, (blk_cell BK106.out 4).trans rfl, (blk_cell BK106.out 5).trans rfl⟩ (fun hHeld => ?_)
 clear hK K
 refine norm_ (a' := ?_) ?_ ?_
 rotate_left
 ·show Act.put _ (some 13) _ = _
  simp only [Act.put, List.setIfInBounds_toArray, List.set_cons_zero, List.set_cons_succ, i64_w, i32_w]
  rfl
 refine one_ (i := 6) (N := some 14) #[true, true, true, true, true, true, true, true, true, true, true, false, true, true, true, true, false, false, false, false] rfl rfl (one_of HT_.out (by kernel_rfl)) (by decide) (fun K hK => ?_)
 refine goes_ Try.func105 (by kernel_rfl) rfl #[.int .i64 t107, .int .i64 t108] (by rfl) rfl rfl (by (try simp only [List.map_toArray, List.map_cons, List.map_nil]); first | done | rfl | (simp only [List.length_drop, List.length_take]; rfl)) ?_
 with_reducible refine (cmp_Compare_int.calls t107 t108 t109 _ A6.out).mono ?_
 rintro e w' ⟨rfl, ⟨nd, rfl⟩⟩
 refine ⟨_, rfl, ?_⟩
 refine hK.out _ _ ⟨(blk_cell BK105.out 0).trans rfl, (blk_cell BK105.out 1).trans rfl, (blk_cell BK105.out 2).trans rfl, (blk_cell BK105.out 3).trans rfl, (blk_cell BK105.out 4).trans rfl, (blk_cell BK105.out 5).trans rfl, (blk_cell BK106.out 0).trans rfl, (blk_cell BK106.out 1).trans rfl, (blk_cell BK106.out 2).trans rfl, (blk_cell BK106.out 3).trans rfl, (blk_cell BK106.out 4).trans rfl, (blk_cell BK106.out 5).trans rfl⟩ (fun hHeld => ?_)
 clear hK K
 refine norm_ (a' := ?_) ?_ ?_
 rotate_left
 ·show Act.put _ (some 14) _ = _
  simp only [Act.put, List.setIfInBounds_toArray, List.set_cons_zero, List.set_cons_succ, i64_w, i32_w]
  rfl
 refine one_ (i := 11) (N := some 19) #[true, true, true, true, true, true, true, true, true, true, true, true, true, true, true, true, false, false, false, false] rfl rfl (one_of HT_.out (by kernel_rfl)) (by decide) (fun K hK => ?_)
 refine goes_ Try.func105 (by kernel_rfl) rfl #[.int .i64 a2_3, .int .i64 a1_3] (by rfl) rfl rfl (by (try simp only [List.map_toArray, List.map_cons, List.map_nil]); first | done | rfl | (simp only [List.length_drop, List.length_take]; rfl)) ?_
 with_reducible refine (cmp_Compare_int.calls a2_3 a1_3 t110 _ A7.out).mono ?_
 rintro e w' ⟨rfl, ⟨nd, rfl⟩⟩
 refine ⟨_, rfl, ?_⟩
 refine hK.out _ _ ⟨(blk_cell BK105.out 0).trans rfl, (blk_cell BK105.out 1).trans rfl, (blk_cell BK105.out 2).trans rfl, (blk_cell BK105.out 3).trans rfl, (blk_cell BK105.out 4).trans rfl, (blk_cell BK105.out 5).trans rfl, (blk_cell BK106.out 0).trans rfl, (blk_cell BK106.out 1).trans rfl, (blk_cell BK106.out 2).trans rfl, (blk_cell BK106.out 3).trans rfl, (blk_cell BK106.out 4).trans rfl, (blk_cell BK106.out 5).trans rfl⟩ (fun hHeld => ?_)
 clear hK K
 refine norm_ (a' := ?_) ?_ ?_
 rotate_left
 ·show Act.put _ (some 19) _ = _
  simp only [Act.put, List.setIfInBounds_toArray, List.set_cons_zero, List.set_cons_succ, i64_w, i32_w]
  rfl
 refine one_ (i := 16) (N := some 24) #[true, true, true, true, true, true, true, true, true, true, true, true, true, true, true, true, true, false, false, false] rfl rfl (one_of HT_.out (by kernel_rfl)) (by decide) (fun K hK => ?_)
 refine goes_ Try.func105 (by kernel_rfl) rfl #[.int .i64 a2_0, .int .i64 a1_0] (by rfl) rfl rfl (by (try simp only [List.map_toArray, List.map_cons, List.map_nil]); first | done | rfl | (simp only [List.length_drop, List.length_take]; rfl)) ?_
 with_reducible refine (cmp_Compare_int.calls a2_0 a1_0 t111 _ A8.out).mono ?_
 rintro e w' ⟨rfl, ⟨nd, rfl⟩⟩
 refine ⟨_, rfl, ?_⟩
 refine hK.out _ _ ⟨(blk_cell BK105.out 0).trans rfl, (blk_cell BK105.out 1).trans rfl, (blk_cell BK105.out 2).trans rfl, (blk_cell BK105.out 3).trans rfl, (blk_cell BK105.out 4).trans rfl, (blk_cell BK105.out 5).trans rfl, (blk_cell BK106.out 0).trans rfl, (blk_cell BK106.out 1).trans rfl, (blk_cell BK106.out 2).trans rfl, (blk_cell BK106.out 3).trans rfl, (blk_cell BK106.out 4).trans rfl, (blk_cell BK106.out 5).trans rfl⟩ (fun hHeld => ?_)
 clear hK K
 refine norm_ (a' := ?_) ?_ ?_
 rotate_left
 ·show Act.put _ (some 24) _ = _
  simp only [Act.put, List.setIfInBounds_toArray, List.set_cons_zero, List.set_cons_succ, i64_w, i32_w]
  rfl
 refine one_ (i := 17) (N := some 25) #[true, true, true, true, true, true, true, true, true, true, true, true, true, true, true, true, true, true, false, false] rfl rfl (one_of HT_.out (by kernel_rfl)) (by decide) (fun K hK => ?_)
 refine Kd.R_lit_step (Kd.int .i64) _ 3 ?hg (N := 25) ?hd (xs := ([t109, t110, t111] : List Int)) (inner := [.int .i64 t109, .int .i64 t110, .int .i64 t111]) (ok := fun _ => True) (okp := fun _ => True) ?hr ?hp (fun _ hk => hk) trivial (Below.refl _ _) (Nat.le_refl _) (by simp) ?_; (case hd => rfl); (case hg => rfl); (case hr => first | (go_simp; done) | (go_simp; rfl)); (case hp => exact (Reps.one (show Kd.M (Kd.int .i64) _ _ _ t109 [.int .i64 t109] from rfl) (Reps.one (show Kd.M (Kd.int .i64) _ _ _ t110 [.int .i64 t110] from rfl) (Reps.one (show Kd.M (Kd.int .i64) _ _ _ t111 [.int .i64 t111] from rfl) (Reps.none _ _)))))
 intro v113 w15 ho16 hb hg_ hnew_
 clear hg_ hnew_
 (first | rw [← Ny112.out] at ho16 | (simp only [Int.reduceToNat] at ho16; rw [← Ny112.out] at ho16))
 have n0_ := Aside0.mk (Kd.R_lower ho16 (below_size (by repeat (first | (with_reducible first | exact HB.out | apply below_alloc | apply pw_below_drewN | apply below_drew1 | refine below_set ?_ GE105.out | refine below_set ?_ GE106.out) | exact HB.out))))
 have n1_ := Aside0.mk (blk_below (g := gb105) (o := .cells #[.int .i64 a1_0, .int .i64 a1_1, .int .i64 a1_2, .int .i64 a1_3, .int .i64 a1_4, .int .u8 a1_5] 41 (0, 0)) (by (with_reducible repeat (first | refine blk_drewN ?_ _ | refine blk_drew ?_ | refine blk_alloc ?_ _)); exact BK105.out) hb)
 have n2_ := Aside0.mk (blk_below (g := gb106) (o := .cells #[.int .i64 a2_0, .int .i64 a2_1, .int .i64 a2_2, .int .i64 a2_3, .int .i64 a2_4, .int .u8 a2_5] 41 (0, 0)) (by (with_reducible repeat (first | refine blk_drewN ?_ _ | refine blk_drew ?_ | refine blk_alloc ?_ _)); exact BK106.out) hb)
 have n3_ := Aside0.mk (below_step (by repeat (first | (with_reducible first | exact HB.out | apply below_alloc | apply pw_below_drewN | apply below_drew1 | refine below_set ?_ GE105.out | refine below_set ?_ GE106.out) | exact HB.out)) hb)
 clear BK105
 clear BK106
 clear HB
 have HO114 := n0_
 have BK105 := n1_
 have BK106 := n2_
 have HB := n3_
 clear n0_ n1_ n2_ n3_
 clear hb ho16
 obtain ⟨Ao17, co17, eo17⟩ := Kd.R_slice HO114.out
 (first | subst eo17 | (injection eo17 with f1_ f2_ f3_; have f4_ := f1_.symm; have f5_ := f3_.symm; clear f1_ f2_ f3_; subst f4_; subst f5_))
 refine hK.out _ _ ⟨(blk_cell BK105.out 0).trans rfl, (blk_cell BK105.out 1).trans rfl, (blk_cell BK105.out 2).trans rfl, (blk_cell BK105.out 3).trans rfl, (blk_cell BK105.out 4).trans rfl, (blk_cell BK105.out 5).trans rfl, (blk_cell BK106.out 0).trans rfl, (blk_cell BK106.out 1).trans rfl, (blk_cell BK106.out 2).trans rfl, (blk_cell BK106.out 3).trans rfl, (blk_cell BK106.out 4).trans rfl, (blk_cell BK106.out 5).trans rfl⟩ (fun hHeld => ?_)
 clear hK K
 refine norm_ (a' := ?_) ?_ ?_
 rotate_left
 ·show Act.put _ (some 25) _ = _
  simp only [Act.put, List.setIfInBounds_toArray, List.set_cons_zero, List.set_cons_succ, i64_w, i32_w]
  rfl
 refine one_ (i := 18) (N := some 26) #[true, true, true, true, true, true, true, true, true, true, true, true, true, true, true, true, true, true, true, false] rfl rfl (one_of HT_.out (by kernel_rfl)) (by decide) (fun K hK => ?_)
 refine goes_ Try.func104 (by kernel_rfl) rfl #[.slice Ao17 y112.length co17] (by rfl) rfl rfl (by (try simp only [List.map_toArray, List.map_cons, List.map_nil]); first | done | rfl | (simp only [List.length_drop, List.length_take]; rfl)) ?_
 with_reducible refine (cmp_Or_int.calls k _ _ y112 t115 _ ?side1 ?side2 A9.out).mono ?_
 (case side1 => repeat (first | exact (Kd.R_reads' HO114.out).2.2 | (with_reducible refine Kd.C_alloc ?_ _) | (with_reducible refine Kd.C_drewN ?_ _) | (with_reducible refine Kd.C_drew ?_)))
 (case side2 => exact (Kd.R_reads' HO114.out).2.1)
 rintro e w' ⟨rfl, ⟨nd, rfl⟩⟩
 refine ⟨_, rfl, ?_⟩
 refine hK.out _ _ ⟨(blk_cell BK105.out 0).trans rfl, (blk_cell BK105.out 1).trans rfl, (blk_cell BK105.out 2).trans rfl, (blk_cell BK105.out 3).trans rfl, (blk_cell BK105.out 4).trans rfl, (blk_cell BK105.out 5).trans rfl, (blk_cell BK106.out 0).trans rfl, (blk_cell BK106.out 1).trans rfl, (blk_cell BK106.out 2).trans rfl, (blk_cell BK106.out 3).trans rfl, (blk_cell BK106.out 4).trans rfl, (blk_cell BK106.out 5).trans rfl⟩ (fun hHeld => ?_)
 clear hK K
 refine norm_ (a' := ?_) ?_ ?_
 rotate_left
 ·show Act.put _ (some 26) _ = _
  simp only [Act.put, List.setIfInBounds_toArray, List.set_cons_zero, List.set_cons_succ, i64_w, i32_w]
  rfl
 refine pure_ (i := 19) (N := some 6) (v := ?_) (a' := ?_) #[true, true, true, true, true, true, true, true, true, true, true, true, true, true, true, true, true, true, true, true] rfl rfl (any_of HT_.out (by kernel_rfl)) (fun _ _ _ h => h) (Or.inl ⟨by rfl, ?_⟩) ?_ ?_
 rotate_left
 ·intro w'
  go_simp
  with_reducible rfl
 rotate_left
 ·simp only [Act.put, List.setIfInBounds_toArray, List.set_cons_zero, List.set_cons_succ, i64_w, i32_w]
  rfl
 refine done_ (done_of HT_.out (by kernel_rfl)) ?_
 try go_wp2
 go_ret
 exact ⟨by first | rfl | (simp [errW_none, errW_some] <;> rfl) | (simp [*, errW_none, errW_some] <;> rfl), by repeat (first | (with_reducible first | exact HB.out | apply below_alloc | apply pw_below_drewN | apply below_drew1 | refine below_set ?_ GE105.out | refine below_set ?_ GE106.out) | exact HB.out)⟩
end Go.Proofs.Ytgffddbhnggllaa.QG
namespace Go.Proofs.Ytgffddbhnggllaa.Ed
open Go.RowKit Go.Proofs.YtgffddbhnggllaaW.PrintWords QF
def rankO (o : S41) : Int := if o.f5 = 3 then 0 else 1
def cmpI (a b : Int) : Int := if a < b then -1 else if a > b then 1 else 0
def orI (x y z : Int) : Int := if x = 0 then (if y = 0 then z else y) else x
def cmpO (a b : S41) : Int := orI (cmpI (rankO a) (rankO b)) (cmpI b.f3 a.f3) (cmpI b.f0 a.f0)
theorem compare_f (a b : Int) : QG.cmp_Compare_int.f a b = some (cmpI a b) := by
  unfold QG.cmp_Compare_int.f QG.cmp_isNaN_int.f cmpI
  simp
  split
  · rfl
  · split <;> rfl
theorem or_f (x y z : Int) : QG.cmp_Or_int.f 4 [x, y, z] = some (orI x y z) := by
  unfold QG.cmp_Or_int.f orI
  have w1 : wrap64 (0 + 1) = 1 := by unfold wrap64; omega
  have w2 : wrap64 (1 + 1) = 2 := by unfold wrap64; omega
  have w3 : wrap64 (2 + 1) = 3 := by unfold wrap64; omega
  rw [QG.cmp_Or_int.l0, if_pos (by simp), if_pos (by simp), if_pos (by simp)]
  by_cases hx : x = 0
  · rw [if_pos (show rd [x, y, z] 0 = 0 from hx), if_pos hx, w1, QG.cmp_Or_int.l0, if_pos (by simp), if_pos (by simp), if_pos (by simp)]
    by_cases hy : y = 0
    · rw [if_pos (show rd [x, y, z] 1 = 0 from hy), if_pos hy, w2, QG.cmp_Or_int.l0, if_pos (by simp), if_pos (by simp), if_pos (by simp)]
      by_cases hz : z = 0
      · rw [if_pos (show rd [x, y, z] 2 = 0 from hz), w3, QG.cmp_Or_int.l0, if_neg (by simp), hz]
      · rw [if_neg (show ¬ rd [x, y, z] 2 = 0 from hz)]; rfl
    · rw [if_neg (show ¬ rd [x, y, z] 1 = 0 from hy), if_neg hy]; rfl
  · rw [if_neg (show ¬ rd [x, y, z] 0 = 0 from hx), if_neg hx]; rfl
theorem cmpO_calls (rv : Value) (a b : S41) (W : World) : Calls Try.prog 89 #[rv, .agg (six a), .agg (six b)] W fun e W' => e = .returned (.int .i64 (cmpO a b)) ∧ Below W.heap.size W W' := by
  refine QG.order_customer_before.calls 4 rv a.f0 a.f1 a.f2 a.f3 a.f4 a.f5 b.f0 b.f1 b.f2 b.f3 b.f4 b.f5 (cmpO a b) W ?_
  have r1 : ∀ o : S41, QG.order_customer_before_1.f o.f0 o.f1 o.f2 o.f3 o.f4 o.f5 = some (rankO o) := fun o => by
    unfold QG.order_customer_before_1.f rankO; split <;> rfl
  unfold QG.order_customer_before.f
  rw [r1, r1]
  simp only [Option.bind_some, compare_f, or_f]
  rfl
end Go.Proofs.Ytgffddbhnggllaa.Ed
namespace Go.Proofs.Ytgffddbhnggllaa.Ed
open Go.RowKit Go.Shelf Go.Proofs.YtgffddbhnggllaaW.PrintWords QF
def ltO (x y : S41) : Bool := decide (cmpO x y < 0)
set_option maxRecDepth 1000000 in
set_option maxHeartbeats 4000000 in
theorem insertion_calls (rv : Value) (g cap a b : Nat) (d : Array S41) (w0 w : World) (S : SB w0 w g cap d) (hab : a ≤ b) (hb : b ≤ d.size) (hsz : d.size ≤ 100000) :
    Calls Try.prog 109 #[.slice (some ⟨g, 0, none⟩) d.size cap, .int .i64 a, .int .i64 b, .func (.func 89) #[rv] #[]] w fun e w' => e = .returned (.tuple #[]) ∧ SB w0 w' g cap (Sort.insertionSort ltO d a b) := by
  have mixed : Try.prog.follows .mixedOrders = true := by kernel_rfl
  have S0 := Lib.hid S
  clear S
  go_enter Try.func109, Try.ntmps109
  go_wp2
  go_loopg [8, 9] (b - a) (fun kx s8 _ wr => ∃ (i : Nat) (dk : Array S41), s8 = .int .i64 i ∧ a < i ∧ b - i ≤ kx ∧ i ≤ b + 1 ∧ dk.size = d.size ∧ Hid (SB w0 wr g cap dk) ∧ Hid (Sort.insOuter ltO a b i dk = Sort.insertionSort ltO d a b))
  case atStart => exact ⟨a + 1, d, by go_num, by omega, by omega, by omega, rfl, S0, rfl⟩
  case round =>
    clear S0
    obtain ⟨i, dk, rfl, hai, hkx, hib, hds, S1, E⟩ := hrel
    by_cases hlt : i < b
    · have b1 : (i : Int) < (b : Int) := by omega
      go_wp2
      go_loopg [9] i (fun kj s9 wi => ∃ (j : Nat) (dj : Array S41), s9 = .int .i64 j ∧ j ≤ kj ∧ a ≤ j ∧ j ≤ i ∧ dj.size = d.size ∧ Hid (SB w0 wi g cap dj) ∧ Hid (Sort.insInner ltO a j dj = Sort.insInner ltO a i dk))
      case atStart => exact ⟨i, dk, rfl, Nat.le_refl _, by omega, Nat.le_refl _, hds, S1, rfl⟩
      case round =>
        clear S1
        obtain ⟨j, dj, rfl, hjk, haj, hji, hdj, S1, F⟩ := hrel
        by_cases hj : a < j
        · have b2 : (a : Int) < (j : Int) := by omega
          have b3 : (j : Int) < (d.size : Int) := by omega
          have b8 : (1 : Int) ≤ (j : Int) := by omega
          have b4 : (0 : Int) ≤ (j : Int) - 1 := by omega
          have b5 : (j : Int) - 1 < (d.size : Int) := by omega
          have b6 : ((j : Int) - 1).toNat = j - 1 := by omega
          have b7 : IntKind.i64.wrap ((j : Int) - 1) = (j : Int) - 1 := IntWalk.i64_in _ (by omega)
          have p0 := fun dr os => ((S1.out.regrown dr os).cells j (by omega)).1
          have p1 := fun dr os => ((S1.out.regrown dr os).cells j (by omega)).2.1
          have p2 := fun dr os => ((S1.out.regrown dr os).cells j (by omega)).2.2.1
          have p3 := fun dr os => ((S1.out.regrown dr os).cells j (by omega)).2.2.2.1
          have p4 := fun dr os => ((S1.out.regrown dr os).cells j (by omega)).2.2.2.2.1
          have p5 := fun dr os => ((S1.out.regrown dr os).cells j (by omega)).2.2.2.2.2
          have q0 := fun dr os => ((S1.out.regrown dr os).cells (j - 1) (by omega)).1
          have q1 := fun dr os => ((S1.out.regrown dr os).cells (j - 1) (by omega)).2.1
          have q2 := fun dr os => ((S1.out.regrown dr os).cells (j - 1) (by omega)).2.2.1
          have q3 := fun dr os => ((S1.out.regrown dr os).cells (j - 1) (by omega)).2.2.2.1
          have q4 := fun dr os => ((S1.out.regrown dr os).cells (j - 1) (by omega)).2.2.2.2.1
          have q5 := fun dr os => ((S1.out.regrown dr os).cells (j - 1) (by omega)).2.2.2.2.2
          go_wp2_with fail
          refine wp_region_quiet_below mixed (by kernel_rfl) ?_
          repeat (quiet_step ((go_at_call 89; refine Calls.regrown_of (cmpO_calls rv _ _ _))))
          refine wpQuiet_nil ?_
          intro _ hw'
          obtain ⟨⟨dq, osq⟩, hw''⟩ := hw'
          subst hw''
          have E2 : Hid (Sort.insInner ltO a j dj = if ltO dj[j]! dj[j - 1]! then Sort.insInner ltO a (j - 1) (Sort.swp dj j (j - 1)) else dj) := by
            obtain ⟨jp, rfl⟩ : ∃ jp, j = jp + 1 := ⟨j - 1, by omega⟩
            show Sort.insInner ltO a (jp + 1) dj = _
            rw [Sort.insInner, decide_eq_true (show jp + 1 > a from hj), Bool.true_and]; rfl
          clear p0 p1 p2 p3 p4 p5 q0 q1 q2 q3 q4 q5
          have S2 := Lib.hid (S1.out.regrown dq osq)
          generalize Sort.grow (redrawn wr dq) osq = w2 at S2 ⊢
          clear S1
          have hz : ltO dj[j]! dj[j - 1]! = decide (cmpO dj[j]! dj[j - 1]! < 0) := rfl
          generalize cmpO dj[j]! dj[j - 1]! = z at *
          cases hq : ltO dj[j]! dj[j - 1]! with
          | true =>
            have hd : z < 0 := of_decide_eq_true (hz.symm.trans hq)
            clear hz
            have E3 := E2.out
            rw [if_pos hq] at E3
            have E4 := Lib.hid E3
            clear E2 E3 hq
            obtain ⟨p0, p1, p2, p3, p4, p5⟩ := S2.out.cells (j) (by omega)
            obtain ⟨q0, q1, q2, q3, q4, q5⟩ := S2.out.cells (j - 1) (by omega)
            have fi0 := S2.out.row.frozen ((j) * 6)
            have fi1 := S2.out.row.frozen ((j) * 6 + 1)
            have fi2 := S2.out.row.frozen ((j) * 6 + 2)
            have fi3 := S2.out.row.frozen ((j) * 6 + 3)
            have fi4 := S2.out.row.frozen ((j) * 6 + 4)
            have fi5 := S2.out.row.frozen ((j) * 6 + 5)
            have fj0 := S2.out.row.frozen ((j - 1) * 6)
            have fj1 := S2.out.row.frozen ((j - 1) * 6 + 1)
            have fj2 := S2.out.row.frozen ((j - 1) * 6 + 2)
            have fj3 := S2.out.row.frozen ((j - 1) * 6 + 3)
            have fj4 := S2.out.row.frozen ((j - 1) * 6 + 4)
            have fj5 := S2.out.row.frozen ((j - 1) * 6 + 5)
            have S3 := Lib.hid (S2.out.swap j (j - 1) (by omega) (by omega))
            generalize dj[j]! = x at *
            generalize dj[j - 1]! = y at *
            clear S2
            go_wp2_with fail
            go_big_region_o
            first | show Exit.then _ _ _ _ (swapW w2 g j (j - 1) x y) | show Exit.inBlock _ _ _ _ (swapW w2 g j (j - 1) x y)
            generalize swapW w2 g j (j - 1) x y = w3 at S3 ⊢
            clear p0 p1 p2 p3 p4 p5 q0 q1 q2 q3 q4 q5 fi0 fi1 fi2 fi3 fi4 fi5 fj0 fj1 fj2 fj3 fj4 fj5
            go_wp2
            go_roundg (j - 1)
            case measure => omega
            case rel => exact ⟨j - 1, Sort.swp dj j (j - 1), by go_num, by omega, by omega, by omega, by rw [Sort.size_swp]; exact hdj, S3, E4.out.symm.trans F.out⟩
          | false =>
            have hd : ¬ z < 0 := of_decide_eq_false (hz.symm.trans hq)
            clear hz
            have E3 := E2.out
            rw [if_neg (by rw [hq]; simp)] at E3
            clear hq
            go_wp2
            go_roundg (b - (i + 1))
            case measure => omega
            case rel => exact ⟨i + 1, dj, by go_num, by omega, by omega, by omega, hdj, S2, by show Sort.insOuter ltO a b (i + 1) dj = _; rw [← E.out, Sort.insOuter.eq_1 ltO a b i, if_pos hlt, ← F.out, E3]⟩
        · have b2 : ¬ (a : Int) < (j : Int) := by omega
          have E3 : Sort.insInner ltO a j dj = dj := by
            cases j with
            | zero => rfl
            | succ jp => rw [Sort.insInner, decide_eq_false (show ¬ jp + 1 > a by omega), Bool.false_and]; rfl
          go_wp2_with fail
          have S2 := Lib.hid S1.out.drew
          clear S1
          go_big_region_o
          go_wp2
          go_roundg (b - (i + 1))
          case measure => omega
          case rel => exact ⟨i + 1, dj, by go_num, by omega, by omega, by omega, hdj, S2, by show Sort.insOuter ltO a b (i + 1) dj = _; rw [← E.out, Sort.insOuter.eq_1 ltO a b i, if_pos hlt, ← F.out, E3]⟩
    · have b1 : ¬ (i : Int) < (b : Int) := by omega
      have E3 := E.out
      rw [Sort.insOuter, if_neg hlt] at E3
      go_wp2
      go_end0
      exact ⟨rfl, E3 ▸ S1.out⟩
end Go.Proofs.Ytgffddbhnggllaa.Ed
namespace Go.Proofs.Ytgffddbhnggllaa.Ed
open Go.RowKit Go.Shelf Go.Proofs.YtgffddbhnggllaaW.PrintWords QF
theorem sift_eq (hi first root ch : Nat) (d : Array S41) (hc : ch = if 2 * root + 1 + 1 < hi ∧ ltO d[first + (2 * root + 1)]! d[first + (2 * root + 1) + 1]! = true then 2 * root + 2 else 2 * root + 1) (hlt : 2 * root + 1 < hi) :
    Sort.siftDown ltO hi first root d = if ltO d[first + root]! d[first + ch]! = true then Sort.siftDown ltO hi first ch (Sort.swp d (first + root) (first + ch)) else d := by
  rw [Sort.siftDown, dif_neg (by omega)]
  by_cases h1 : 2 * root + 1 + 1 < hi
  · cases h2 : ltO d[first + (2 * root + 1)]! d[first + (2 * root + 1) + 1]! with
    | true =>
      rw [if_pos ⟨h1, h2⟩] at hc
      subst hc
      rw [decide_eq_true h1, Bool.true_and, if_pos rfl]
      cases h3 : ltO d[first + root]! d[first + (2 * root + 2)]! with
      | true => rw [if_neg (by simp), dif_pos (by omega), if_pos rfl]
      | false => rw [if_pos (by simp), if_neg (by simp)]
    | false =>
      rw [if_neg (by rw [h2]; simp)] at hc
      subst hc
      rw [decide_eq_true h1, Bool.true_and, if_neg (by simp)]
      cases h3 : ltO d[first + root]! d[first + (2 * root + 1)]! with
      | true => rw [if_neg (by simp), if_pos rfl]
      | false => rw [if_pos (by simp), if_neg (by simp)]
  · rw [if_neg (fun h => h1 h.1)] at hc
    subst hc
    rw [decide_eq_false h1, Bool.false_and, if_neg (by simp)]
    cases h3 : ltO d[first + root]! d[first + (2 * root + 1)]! with
    | true => rw [if_neg (by simp), if_pos rfl]
    | false => rw [if_pos (by simp), if_neg (by simp)]
set_option maxRecDepth 1000000 in
set_option maxHeartbeats 4000000 in
theorem sift_calls (rv : Value) (g cap lo hi first : Nat) (d : Array S41) (w0 w : World) (S : SB w0 w g cap d) (hf : first + hi ≤ d.size) (hlo : lo ≤ d.size) (hsz : d.size ≤ 100000) :
    Calls Try.prog 129 #[.slice (some ⟨g, 0, none⟩) d.size cap, .int .i64 lo, .int .i64 hi, .int .i64 first, .func (.func 89) #[rv] #[]] w fun e w' => e = .returned (.tuple #[]) ∧ SB w0 w' g cap (Sort.siftDown ltO hi first lo d) := by
  have mixed : Try.prog.follows .mixedOrders = true := by kernel_rfl
  have S0 := Lib.hid S
  clear S
  go_enter Try.func129, Try.ntmps129
  go_wp2
  go_loopg [10, 11] (hi - lo) (fun kx s10 _ wr => ∃ (root : Nat) (dk : Array S41), s10 = .int .i64 root ∧ hi - root ≤ kx ∧ root ≤ 200000 ∧ dk.size = d.size ∧ Hid (SB w0 wr g cap dk) ∧ Hid (Sort.siftDown ltO hi first root dk = Sort.siftDown ltO hi first lo d))
  case atStart => exact ⟨lo, d, rfl, Nat.le_refl _, by omega, rfl, S0, rfl⟩
  case round =>
    clear S0
    obtain ⟨root, dk, rfl, hkx, hro, hds, S1, E⟩ := hrel
    have v1 : (2 : Int) * (root : Int) + 1 = ((2 * root + 1 : Nat) : Int) := by omega
    obtain ⟨c, hc⟩ : ∃ c, 2 * root + 1 = c := ⟨_, rfl⟩
    rw [hc] at v1
    have v2 : IntKind.i64.wrap (2 * (root : Int) + 1) = (c : Int) := by rw [v1]; exact IntWalk.i64_in _ (by omega)
    have v3 : wrap64 (2 * (root : Int) + 1) = (c : Int) := by rw [v1]; exact IntWalk.wrap64_in _ (by omega)
    by_cases hlt : c < hi
    · have b0 : (c : Int) < (hi : Int) := by omega
      clear v1
      go_wp2_with fail
      clear v2 v3 b0
      have SE := fun ch h => sift_eq hi first root ch dk h (by omega)
      have c1e : 2 * root + 1 + 1 = c + 1 := by omega
      rw [c1e, hc, E.out] at SE
      have HSE := Lib.hid SE
      clear SE
      by_cases h1 : c + 1 < hi
      · have g1 : (c : Int) + 1 < (hi : Int) := by omega
        have e1 : ((first : Int) + (c : Int)) = ((first + c : Nat) : Int) := by omega
        have u1 : IntKind.i64.wrap ((first : Int) + (c : Int)) = ((first + c : Nat) : Int) := by rw [e1]; exact IntWalk.i64_in _ (by omega)
        have n1 : ((first + c : Nat) : Int) < (d.size : Int) := by omega
        have m1 : (0 : Int) ≤ ((first + c : Nat) : Int) := by omega
        clear e1
        obtain ⟨ia, hia⟩ : ∃ ia, first + c = ia := ⟨_, rfl⟩
        rw [hia] at u1 n1 m1
        have u0 : IntKind.i64.wrap ((c : Int) + 1) = (c : Int) + 1 := IntWalk.i64_in _ (by omega)
        have e2 : ((ia : Int) + 1) = ((ia + 1 : Nat) : Int) := by omega
        have u2 : IntKind.i64.wrap ((ia : Int) + 1) = ((ia + 1 : Nat) : Int) := by rw [e2]; exact IntWalk.i64_in _ (by omega)
        have n2 : ((ia + 1 : Nat) : Int) < (d.size : Int) := by omega
        have m2 : (0 : Int) ≤ ((ia + 1 : Nat) : Int) := by omega
        clear e2
        obtain ⟨ib, hib⟩ : ∃ ib, ia + 1 = ib := ⟨_, rfl⟩
        rw [hib] at u2 n2 m2
        have p0 := fun dr os => ((S1.out.regrown dr os).cells ia (by omega)).1
        have p1 := fun dr os => ((S1.out.regrown dr os).cells ia (by omega)).2.1
        have p2 := fun dr os => ((S1.out.regrown dr os).cells ia (by omega)).2.2.1
        have p3 := fun dr os => ((S1.out.regrown dr os).cells ia (by omega)).2.2.2.1
        have p4 := fun dr os => ((S1.out.regrown dr os).cells ia (by omega)).2.2.2.2.1
        have p5 := fun dr os => ((S1.out.regrown dr os).cells ia (by omega)).2.2.2.2.2
        have q0 := fun dr os => ((S1.out.regrown dr os).cells ib (by omega)).1
        have q1 := fun dr os => ((S1.out.regrown dr os).cells ib (by omega)).2.1
        have q2 := fun dr os => ((S1.out.regrown dr os).cells ib (by omega)).2.2.1
        have q3 := fun dr os => ((S1.out.regrown dr os).cells ib (by omega)).2.2.2.1
        have q4 := fun dr os => ((S1.out.regrown dr os).cells ib (by omega)).2.2.2.2.1
        have q5 := fun dr os => ((S1.out.regrown dr os).cells ib (by omega)).2.2.2.2.2
        refine wp_region_quiet_below mixed (by kernel_rfl) ?_
        repeat (quiet_step ((go_at_call 89; refine Calls.regrown_of (cmpO_calls rv _ _ _))))
        refine wpQuiet_nil ?_
        intro _ hw'
        obtain ⟨⟨dq, osq⟩, hw''⟩ := hw'
        subst hw''
        clear p0 p1 p2 p3 p4 p5 q0 q1 q2 q3 q4 q5
        have S2 := Lib.hid (S1.out.regrown dq osq)
        generalize Sort.grow (redrawn wr dq) osq = w2 at S2 ⊢
        clear S1 u0 u1 u2 n1 n2 m1 m2
        have hz : ltO dk[ia]! dk[ib]! = decide (cmpO dk[ia]! dk[ib]! < 0) := rfl
        generalize cmpO dk[ia]! dk[ib]! = z at *
        cases hq : ltO dk[ia]! dk[ib]! with
        | true =>
          have hd : z < 0 := of_decide_eq_true (hz.symm.trans hq)
          have E2 := Lib.hid (HSE.out (c + 1) (by rw [if_pos ⟨h1, by rw [hia, hib]; exact hq⟩])).symm
          obtain ⟨c1, hc1⟩ : ∃ c1, c + 1 = c1 := ⟨_, rfl⟩
          rw [hc1] at E2
          have v4 : (c : Int) + 1 = (c1 : Int) := by omega
          have v5 : c1 < hi := by omega
          rw [v4]
          clear hz hq HSE g1
          go_wp2_with fail
          have e1 : ((first : Int) + (root : Int)) = ((first + root : Nat) : Int) := by omega
          have u1 : IntKind.i64.wrap ((first : Int) + (root : Int)) = ((first + root : Nat) : Int) := by rw [e1]; exact IntWalk.i64_in _ (by omega)
          have n1 : ((first + root : Nat) : Int) < (d.size : Int) := by omega
          have m1 : (0 : Int) ≤ ((first + root : Nat) : Int) := by omega
          clear e1
          have e2 : ((first : Int) + (c1 : Int)) = ((first + c1 : Nat) : Int) := by omega
          have u2 : IntKind.i64.wrap ((first : Int) + (c1 : Int)) = ((first + c1 : Nat) : Int) := by rw [e2]; exact IntWalk.i64_in _ (by omega)
          have n2 : ((first + c1 : Nat) : Int) < (d.size : Int) := by omega
          have m2 : (0 : Int) ≤ ((first + c1 : Nat) : Int) := by omega
          clear e2
          obtain ⟨ir, hir⟩ : ∃ ir, first + root = ir := ⟨_, rfl⟩
          obtain ⟨ic, hic⟩ : ∃ ic, first + c1 = ic := ⟨_, rfl⟩
          rw [hir] at u1 n1 m1
          rw [hic] at u2 n2 m2
          have Z := E2.out
          rw [hir, hic] at Z
          have E3 := Lib.hid Z
          clear Z E2
          have p0 := fun dr os => ((S2.out.regrown dr os).cells ir (by omega)).1
          have p1 := fun dr os => ((S2.out.regrown dr os).cells ir (by omega)).2.1
          have p2 := fun dr os => ((S2.out.regrown dr os).cells ir (by omega)).2.2.1
          have p3 := fun dr os => ((S2.out.regrown dr os).cells ir (by omega)).2.2.2.1
          have p4 := fun dr os => ((S2.out.regrown dr os).cells ir (by omega)).2.2.2.2.1
          have p5 := fun dr os => ((S2.out.regrown dr os).cells ir (by omega)).2.2.2.2.2
          have q0 := fun dr os => ((S2.out.regrown dr os).cells ic (by omega)).1
          have q1 := fun dr os => ((S2.out.regrown dr os).cells ic (by omega)).2.1
          have q2 := fun dr os => ((S2.out.regrown dr os).cells ic (by omega)).2.2.1
          have q3 := fun dr os => ((S2.out.regrown dr os).cells ic (by omega)).2.2.2.1
          have q4 := fun dr os => ((S2.out.regrown dr os).cells ic (by omega)).2.2.2.2.1
          have q5 := fun dr os => ((S2.out.regrown dr os).cells ic (by omega)).2.2.2.2.2
          go_wp2_with fail
          refine wp_region_quiet_below mixed (by kernel_rfl) ?_
          repeat (quiet_step ((go_at_call 89; refine Calls.regrown_of (cmpO_calls rv _ _ _))))
          refine wpQuiet_nil ?_
          intro _ hw'
          obtain ⟨⟨dq, osq⟩, hw''⟩ := hw'
          subst hw''
          clear p0 p1 p2 p3 p4 p5 q0 q1 q2 q3 q4 q5
          have S4 := Lib.hid (S2.out.regrown dq osq)
          generalize Sort.grow (redrawn w2 dq) osq = w4 at S4 ⊢
          clear S2
          have hz : ltO dk[ir]! dk[ic]! = decide (cmpO dk[ir]! dk[ic]! < 0) := rfl
          generalize cmpO dk[ir]! dk[ic]! = z at *
          cases hq : ltO dk[ir]! dk[ic]! with
          | true =>
            have hd : z < 0 := of_decide_eq_true (hz.symm.trans hq)
            have hd2 : decide (z < 0) = true := decide_eq_true hd
            have hd3 : (!decide (z < 0)) = false := by rw [hd2]; rfl
            have hd5 : ¬ (0 : Int) ≤ z := by omega
            have hd4 : decide ((0 : Int) ≤ z) = false := decide_eq_false hd5
            have Z := E3.out
            rw [if_pos hq] at Z
            have E4 := Lib.hid Z
            clear hz Z E3 hq
            rw [hd2]
            rw [show (!true) = false from rfl]
            clear hd2 hd3
            obtain ⟨p0, p1, p2, p3, p4, p5⟩ := S4.out.cells (ir) (by omega)
            obtain ⟨q0, q1, q2, q3, q4, q5⟩ := S4.out.cells (ic) (by omega)
            have fi0 := S4.out.row.frozen ((ir) * 6)
            have fi1 := S4.out.row.frozen ((ir) * 6 + 1)
            have fi2 := S4.out.row.frozen ((ir) * 6 + 2)
            have fi3 := S4.out.row.frozen ((ir) * 6 + 3)
            have fi4 := S4.out.row.frozen ((ir) * 6 + 4)
            have fi5 := S4.out.row.frozen ((ir) * 6 + 5)
            have fj0 := S4.out.row.frozen ((ic) * 6)
            have fj1 := S4.out.row.frozen ((ic) * 6 + 1)
            have fj2 := S4.out.row.frozen ((ic) * 6 + 2)
            have fj3 := S4.out.row.frozen ((ic) * 6 + 3)
            have fj4 := S4.out.row.frozen ((ic) * 6 + 4)
            have fj5 := S4.out.row.frozen ((ic) * 6 + 5)
            have S5 := Lib.hid (S4.out.swap ir ic (by omega) (by omega))
            generalize dk[ir]! = x at *
            generalize dk[ic]! = y at *
            clear S4
            go_wp2_with fail
            go_big_region_o
            first | show Exit.then _ _ _ _ (swapW w4 g ir ic x y) | show Exit.inBlock _ _ _ _ (swapW w4 g ir ic x y)
            generalize swapW w4 g ir ic x y = w5 at S5 ⊢
            clear p0 p1 p2 p3 p4 p5 q0 q1 q2 q3 q4 q5 fi0 fi1 fi2 fi3 fi4 fi5 fj0 fj1 fj2 fj3 fj4 fj5
            go_wp2
            go_roundg (hi - c1)
            case measure => omega
            case rel => exact ⟨c1, Sort.swp dk ir ic, rfl, Nat.le_refl _, by omega, by rw [Sort.size_swp]; exact hds, S5, E4⟩
          | false =>
            have hd : ¬ z < 0 := of_decide_eq_false (hz.symm.trans hq)
            have hd2 : decide (z < 0) = false := decide_eq_false hd
            have hd3 : (!decide (z < 0)) = true := by rw [hd2]; rfl
            have hd5 : (0 : Int) ≤ z := by omega
            have hd4 : decide ((0 : Int) ≤ z) = true := decide_eq_true hd5
            have Z := E3.out
            rw [if_neg (by rw [hq]; simp)] at Z
            have E4 := Lib.hid Z
            clear hz Z E3 hq
            rw [hd2]
            rw [show (!false) = true from rfl]
            clear hd2 hd3
            go_wp2
            ((try simp only [Exit.inBlock, Exit.then]); refine bodyPost_ret (results_none rfl _ _ _) rfl ?_)
            exact ⟨rfl, E4.out ▸ S4.out⟩
        | false =>
          have hd : ¬ z < 0 := of_decide_eq_false (hz.symm.trans hq)
          have E2 := Lib.hid (HSE.out c (by rw [if_neg (fun h => by rw [hia, hib] at h; rw [hq] at h; exact absurd h.2 (by simp))])).symm
          clear hz hq HSE g1
          go_wp2_with fail
          have e1 : ((first : Int) + (root : Int)) = ((first + root : Nat) : Int) := by omega
          have u1 : IntKind.i64.wrap ((first : Int) + (root : Int)) = ((first + root : Nat) : Int) := by rw [e1]; exact IntWalk.i64_in _ (by omega)
          have n1 : ((first + root : Nat) : Int) < (d.size : Int) := by omega
          have m1 : (0 : Int) ≤ ((first + root : Nat) : Int) := by omega
          clear e1
          have e2 : ((first : Int) + (c : Int)) = ((first + c : Nat) : Int) := by omega
          have u2 : IntKind.i64.wrap ((first : Int) + (c : Int)) = ((first + c : Nat) : Int) := by rw [e2]; exact IntWalk.i64_in _ (by omega)
          have n2 : ((first + c : Nat) : Int) < (d.size : Int) := by omega
          have m2 : (0 : Int) ≤ ((first + c : Nat) : Int) := by omega
          clear e2
          obtain ⟨ir, hir⟩ : ∃ ir, first + root = ir := ⟨_, rfl⟩
          obtain ⟨ic, hic⟩ : ∃ ic, first + c = ic := ⟨_, rfl⟩
          rw [hir] at u1 n1 m1
          rw [hic] at u2 n2 m2
          have Z := E2.out
          rw [hir, hic] at Z
          have E3 := Lib.hid Z
          clear Z E2
          have p0 := fun dr os => ((S2.out.regrown dr os).cells ir (by omega)).1
          have p1 := fun dr os => ((S2.out.regrown dr os).cells ir (by omega)).2.1
          have p2 := fun dr os => ((S2.out.regrown dr os).cells ir (by omega)).2.2.1
          have p3 := fun dr os => ((S2.out.regrown dr os).cells ir (by omega)).2.2.2.1
          have p4 := fun dr os => ((S2.out.regrown dr os).cells ir (by omega)).2.2.2.2.1
          have p5 := fun dr os => ((S2.out.regrown dr os).cells ir (by omega)).2.2.2.2.2
          have q0 := fun dr os => ((S2.out.regrown dr os).cells ic (by omega)).1
          have q1 := fun dr os => ((S2.out.regrown dr os).cells ic (by omega)).2.1
          have q2 := fun dr os => ((S2.out.regrown dr os).cells ic (by omega)).2.2.1
          have q3 := fun dr os => ((S2.out.regrown dr os).cells ic (by omega)).2.2.2.1
          have q4 := fun dr os => ((S2.out.regrown dr os).cells ic (by omega)).2.2.2.2.1
          have q5 := fun dr os => ((S2.out.regrown dr os).cells ic (by omega)).2.2.2.2.2
          go_wp2_with fail
          refine wp_region_quiet_below mixed (by kernel_rfl) ?_
          repeat (quiet_step ((go_at_call 89; refine Calls.regrown_of (cmpO_calls rv _ _ _))))
          refine wpQuiet_nil ?_
          intro _ hw'
          obtain ⟨⟨dq, osq⟩, hw''⟩ := hw'
          subst hw''
          clear p0 p1 p2 p3 p4 p5 q0 q1 q2 q3 q4 q5
          have S4 := Lib.hid (S2.out.regrown dq osq)
          generalize Sort.grow (redrawn w2 dq) osq = w4 at S4 ⊢
          clear S2
          have hz : ltO dk[ir]! dk[ic]! = decide (cmpO dk[ir]! dk[ic]! < 0) := rfl
          generalize cmpO dk[ir]! dk[ic]! = z at *
          cases hq : ltO dk[ir]! dk[ic]! with
          | true =>
            have hd : z < 0 := of_decide_eq_true (hz.symm.trans hq)
            have hd2 : decide (z < 0) = true := decide_eq_true hd
            have hd3 : (!decide (z < 0)) = false := by rw [hd2]; rfl
            have hd5 : ¬ (0 : Int) ≤ z := by omega
            have hd4 : decide ((0 : Int) ≤ z) = false := decide_eq_false hd5
            have Z := E3.out
            rw [if_pos hq] at Z
            have E4 := Lib.hid Z
            clear hz Z E3 hq
            rw [hd2]
            rw [show (!true) = false from rfl]
            clear hd2 hd3
            obtain ⟨p0, p1, p2, p3, p4, p5⟩ := S4.out.cells (ir) (by omega)
            obtain ⟨q0, q1, q2, q3, q4, q5⟩ := S4.out.cells (ic) (by omega)
            have fi0 := S4.out.row.frozen ((ir) * 6)
            have fi1 := S4.out.row.frozen ((ir) * 6 + 1)
            have fi2 := S4.out.row.frozen ((ir) * 6 + 2)
            have fi3 := S4.out.row.frozen ((ir) * 6 + 3)
            have fi4 := S4.out.row.frozen ((ir) * 6 + 4)
            have fi5 := S4.out.row.frozen ((ir) * 6 + 5)
            have fj0 := S4.out.row.frozen ((ic) * 6)
            have fj1 := S4.out.row.frozen ((ic) * 6 + 1)
            have fj2 := S4.out.row.frozen ((ic) * 6 + 2)
            have fj3 := S4.out.row.frozen ((ic) * 6 + 3)
            have fj4 := S4.out.row.frozen ((ic) * 6 + 4)
            have fj5 := S4.out.row.frozen ((ic) * 6 + 5)
            have S5 := Lib.hid (S4.out.swap ir ic (by omega) (by omega))
            generalize dk[ir]! = x at *
            generalize dk[ic]! = y at *
            clear S4
            go_wp2_with fail
            go_big_region_o
            first | show Exit.then _ _ _ _ (swapW w4 g ir ic x y) | show Exit.inBlock _ _ _ _ (swapW w4 g ir ic x y)
            generalize swapW w4 g ir ic x y = w5 at S5 ⊢
            clear p0 p1 p2 p3 p4 p5 q0 q1 q2 q3 q4 q5 fi0 fi1 fi2 fi3 fi4 fi5 fj0 fj1 fj2 fj3 fj4 fj5
            go_wp2
            go_roundg (hi - c)
            case measure => omega
            case rel => exact ⟨c, Sort.swp dk ir ic, rfl, Nat.le_refl _, by omega, by rw [Sort.size_swp]; exact hds, S5, E4⟩
          | false =>
            have hd : ¬ z < 0 := of_decide_eq_false (hz.symm.trans hq)
            have hd2 : decide (z < 0) = false := decide_eq_false hd
            have hd3 : (!decide (z < 0)) = true := by rw [hd2]; rfl
            have hd5 : (0 : Int) ≤ z := by omega
            have hd4 : decide ((0 : Int) ≤ z) = true := decide_eq_true hd5
            have Z := E3.out
            rw [if_neg (by rw [hq]; simp)] at Z
            have E4 := Lib.hid Z
            clear hz Z E3 hq
            rw [hd2]
            rw [show (!false) = true from rfl]
            clear hd2 hd3
            go_wp2
            ((try simp only [Exit.inBlock, Exit.then]); refine bodyPost_ret (results_none rfl _ _ _) rfl ?_)
            exact ⟨rfl, E4.out ▸ S4.out⟩
      · have g1 : ¬ (c : Int) + 1 < (hi : Int) := by omega
        have E2 := Lib.hid (HSE.out c (by rw [if_neg (fun h => h1 h.1)])).symm
        have S2 := Lib.hid S1.out.drew
        clear S1 HSE
        go_big_region_o
        generalize wr.drew = w2 at S2 ⊢
        have e1 : ((first : Int) + (root : Int)) = ((first + root : Nat) : Int) := by omega
        have u1 : IntKind.i64.wrap ((first : Int) + (root : Int)) = ((first + root : Nat) : Int) := by rw [e1]; exact IntWalk.i64_in _ (by omega)
        have n1 : ((first + root : Nat) : Int) < (d.size : Int) := by omega
        have m1 : (0 : Int) ≤ ((first + root : Nat) : Int) := by omega
        clear e1
        have e2 : ((first : Int) + (c : Int)) = ((first + c : Nat) : Int) := by omega
        have u2 : IntKind.i64.wrap ((first : Int) + (c : Int)) = ((first + c : Nat) : Int) := by rw [e2]; exact IntWalk.i64_in _ (by omega)
        have n2 : ((first + c : Nat) : Int) < (d.size : Int) := by omega
        have m2 : (0 : Int) ≤ ((first + c : Nat) : Int) := by omega
        clear e2
        obtain ⟨ir, hir⟩ : ∃ ir, first + root = ir := ⟨_, rfl⟩
        obtain ⟨ic, hic⟩ : ∃ ic, first + c = ic := ⟨_, rfl⟩
        rw [hir] at u1 n1 m1
        rw [hic] at u2 n2 m2
        have Z := E2.out
        rw [hir, hic] at Z
        have E3 := Lib.hid Z
        clear Z E2
        have p0 := fun dr os => ((S2.out.regrown dr os).cells ir (by omega)).1
        have p1 := fun dr os => ((S2.out.regrown dr os).cells ir (by omega)).2.1
        have p2 := fun dr os => ((S2.out.regrown dr os).cells ir (by omega)).2.2.1
        have p3 := fun dr os => ((S2.out.regrown dr os).cells ir (by omega)).2.2.2.1
        have p4 := fun dr os => ((S2.out.regrown dr os).cells ir (by omega)).2.2.2.2.1
        have p5 := fun dr os => ((S2.out.regrown dr os).cells ir (by omega)).2.2.2.2.2
        have q0 := fun dr os => ((S2.out.regrown dr os).cells ic (by omega)).1
        have q1 := fun dr os => ((S2.out.regrown dr os).cells ic (by omega)).2.1
        have q2 := fun dr os => ((S2.out.regrown dr os).cells ic (by omega)).2.2.1
        have q3 := fun dr os => ((S2.out.regrown dr os).cells ic (by omega)).2.2.2.1
        have q4 := fun dr os => ((S2.out.regrown dr os).cells ic (by omega)).2.2.2.2.1
        have q5 := fun dr os => ((S2.out.regrown dr os).cells ic (by omega)).2.2.2.2.2
        go_wp2_with fail
        refine wp_region_quiet_below mixed (by kernel_rfl) ?_
        repeat (quiet_step ((go_at_call 89; refine Calls.regrown_of (cmpO_calls rv _ _ _))))
        refine wpQuiet_nil ?_
        intro _ hw'
        obtain ⟨⟨dq, osq⟩, hw''⟩ := hw'
        subst hw''
        clear p0 p1 p2 p3 p4 p5 q0 q1 q2 q3 q4 q5
        have S4 := Lib.hid (S2.out.regrown dq osq)
        generalize Sort.grow (redrawn w2 dq) osq = w4 at S4 ⊢
        clear S2
        have hz : ltO dk[ir]! dk[ic]! = decide (cmpO dk[ir]! dk[ic]! < 0) := rfl
        generalize cmpO dk[ir]! dk[ic]! = z at *
        cases hq : ltO dk[ir]! dk[ic]! with
        | true =>
          have hd : z < 0 := of_decide_eq_true (hz.symm.trans hq)
          have hd2 : decide (z < 0) = true := decide_eq_true hd
          have hd3 : (!decide (z < 0)) = false := by rw [hd2]; rfl
          have hd5 : ¬ (0 : Int) ≤ z := by omega
          have hd4 : decide ((0 : Int) ≤ z) = false := decide_eq_false hd5
          have Z := E3.out
          rw [if_pos hq] at Z
          have E4 := Lib.hid Z
          clear hz Z E3 hq
          rw [hd2]
          rw [show (!true) = false from rfl]
          clear hd2 hd3
          obtain ⟨p0, p1, p2, p3, p4, p5⟩ := S4.out.cells (ir) (by omega)
          obtain ⟨q0, q1, q2, q3, q4, q5⟩ := S4.out.cells (ic) (by omega)
          have fi0 := S4.out.row.frozen ((ir) * 6)
          have fi1 := S4.out.row.frozen ((ir) * 6 + 1)
          have fi2 := S4.out.row.frozen ((ir) * 6 + 2)
          have fi3 := S4.out.row.frozen ((ir) * 6 + 3)
          have fi4 := S4.out.row.frozen ((ir) * 6 + 4)
          have fi5 := S4.out.row.frozen ((ir) * 6 + 5)
          have fj0 := S4.out.row.frozen ((ic) * 6)
          have fj1 := S4.out.row.frozen ((ic) * 6 + 1)
          have fj2 := S4.out.row.frozen ((ic) * 6 + 2)
          have fj3 := S4.out.row.frozen ((ic) * 6 + 3)
          have fj4 := S4.out.row.frozen ((ic) * 6 + 4)
          have fj5 := S4.out.row.frozen ((ic) * 6 + 5)
          have S5 := Lib.hid (S4.out.swap ir ic (by omega) (by omega))
          generalize dk[ir]! = x at *
          generalize dk[ic]! = y at *
          clear S4
          go_wp2_with fail
          go_big_region_o
          first | show Exit.then _ _ _ _ (swapW w4 g ir ic x y) | show Exit.inBlock _ _ _ _ (swapW w4 g ir ic x y)
          generalize swapW w4 g ir ic x y = w5 at S5 ⊢
          clear p0 p1 p2 p3 p4 p5 q0 q1 q2 q3 q4 q5 fi0 fi1 fi2 fi3 fi4 fi5 fj0 fj1 fj2 fj3 fj4 fj5
          go_wp2
          go_roundg (hi - c)
          case measure => omega
          case rel => exact ⟨c, Sort.swp dk ir ic, rfl, Nat.le_refl _, by omega, by rw [Sort.size_swp]; exact hds, S5, E4⟩
        | false =>
          have hd : ¬ z < 0 := of_decide_eq_false (hz.symm.trans hq)
          have hd2 : decide (z < 0) = false := decide_eq_false hd
          have hd3 : (!decide (z < 0)) = true := by rw [hd2]; rfl
          have hd5 : (0 : Int) ≤ z := by omega
          have hd4 : decide ((0 : Int) ≤ z) = true := decide_eq_true hd5
          have Z := E3.out
          rw [if_neg (by rw [hq]; simp)] at Z
          have E4 := Lib.hid Z
          clear hz Z E3 hq
          rw [hd2]
          rw [show (!false) = true from rfl]
          clear hd2 hd3
          go_wp2
          ((try simp only [Exit.inBlock, Exit.then]); refine bodyPost_ret (results_none rfl _ _ _) rfl ?_)
          exact ⟨rfl, E4.out ▸ S4.out⟩
    · have b0 : ¬ (c : Int) < (hi : Int) := by omega
      have b1 : (hi : Int) ≤ (c : Int) := by omega
      have E3 := E.out
      rw [Sort.siftDown, dif_pos (by omega)] at E3
      clear v1
      go_wp2
      go_end0
      exact ⟨rfl, E3 ▸ S1.out⟩
end Go.Proofs.Ytgffddbhnggllaa.Ed
namespace Go.Proofs.Ytgffddbhnggllaa.Ed
open Go.RowKit Go.Shelf Go.Proofs.YtgffddbhnggllaaW.PrintWords QF
set_option maxRecDepth 1000000 in
set_option maxHeartbeats 4000000 in
theorem heap_calls (rv : Value) (g cap a b : Nat) (d : Array S41) (w0 w : World) (S : SB w0 w g cap d) (hab : a ≤ b) (hb : b ≤ d.size) (hsz : d.size ≤ 100000) :
    Calls Try.prog 110 #[.slice (some ⟨g, 0, none⟩) d.size cap, .int .i64 a, .int .i64 b, .func (.func 89) #[rv] #[]] w fun e w' => e = .returned (.tuple #[]) ∧ SB w0 w' g cap (Sort.heapSort ltO d a b) := by
  have mixed : Try.prog.follows .mixedOrders = true := by kernel_rfl
  have S0 := Lib.hid S
  clear S
  have ecast : ((b - a : Nat) : Int) = (b : Int) - (a : Int) := by omega
  obtain ⟨m, hm⟩ : ∃ m, b - a = m := ⟨_, rfl⟩
  have hst : ((m : Int) - 1).tdiv 2 = (((m - 1) / 2 + 1 : Nat) : Int) - 1 := by rw [← hm, ecast]; exact half_start hab
  rw [hm] at ecast
  obtain ⟨K, hK⟩ : ∃ K, (m - 1) / 2 + 1 = K := ⟨_, rfl⟩
  rw [hK] at hst
  have e1 : IntKind.i64.wrap ((b : Int) - (a : Int)) = (m : Int) := by rw [← ecast]; exact IntWalk.i64_in _ (by omega)
  have hmd : a + m ≤ d.size := by omega
  go_enter Try.func110, Try.ntmps110
  go_wp2
  rw [← ecast, hst]
  clear e1 ecast
  go_loopg [11] K (fun kx s11 wr => s11 = .int .i64 ((kx : Int) - 1) ∧ kx ≤ K ∧ ∃ (dk : Array S41), dk.size = d.size ∧ Hid (SB w0 wr g cap dk) ∧ Hid (Sort.heapBuild ltO m a kx dk = Sort.heapBuild ltO m a K d))
  case atStart => exact ⟨rfl, Nat.le_refl _, d, rfl, S0, rfl⟩
  case round =>
    clear S0 hst
    obtain ⟨rfl, hkk, dk, hds, S1, HE⟩ := hrel
    cases gk with
    | zero =>
      have hB : dk = Sort.heapBuild ltO m a K d := HE.out
      clear HE hkk
      have z0 : ((0 : Nat) : Int) - 1 = -1 := rfl
      rw [z0]
      go_wp2
      go_loopg [12] m (fun kx s12 wr2 => s12 = .int .i64 ((kx : Int) - 1) ∧ kx ≤ m ∧ ∃ (dj : Array S41), dj.size = d.size ∧ Hid (SB w0 wr2 g cap dj) ∧ Hid (Sort.heapPop ltO a kx dj = Sort.heapPop ltO a m dk))
      case atStart => exact ⟨rfl, Nat.le_refl _, dk, hds, S1, rfl⟩
      case round =>
        clear S1
        obtain ⟨rfl, hkk, dj, hdj, S1, HE2⟩ := hrel
        cases gk with
        | zero =>
          have z0 : ((0 : Nat) : Int) - 1 = -1 := rfl
          rw [z0]
          go_wp2
          go_end0
          have e : dj = Sort.heapSort ltO d a b := by rw [Sort.heapSort, hm, hK, ← hB, ← HE2.out]; rfl
          rw [← e]
          exact ⟨rfl, S1.out⟩
        | succ kx =>
          have ekx : ((kx + 1 : Nat) : Int) - 1 = (kx : Int) := by omega
          have e1 : ((a : Int) + (kx : Int)) = ((a + kx : Nat) : Int) := by omega
          have u1 : IntKind.i64.wrap ((a : Int) + (kx : Int)) = ((a + kx : Nat) : Int) := by rw [e1]; exact IntWalk.i64_in _ (by omega)
          have n1 : ((a + kx : Nat) : Int) < (d.size : Int) := by omega
          have m1 : (0 : Int) ≤ ((a + kx : Nat) : Int) := by omega
          clear e1
          obtain ⟨ik, hik⟩ : ∃ ik, a + kx = ik := ⟨_, rfl⟩
          rw [hik] at u1 n1 m1
          have n0 : (a : Int) < (d.size : Int) := by omega
          rw [ekx]
          rcases Nat.eq_or_lt_of_le (show a ≤ ik by omega) with hai | hai
          · subst hai
            obtain ⟨p0, p1, p2, p3, p4, p5⟩ := S1.out.cells (a) (by omega)
            have fi0 := S1.out.row.frozen ((a) * 6)
            have fi1 := S1.out.row.frozen ((a) * 6 + 1)
            have fi2 := S1.out.row.frozen ((a) * 6 + 2)
            have fi3 := S1.out.row.frozen ((a) * 6 + 3)
            have fi4 := S1.out.row.frozen ((a) * 6 + 4)
            have fi5 := S1.out.row.frozen ((a) * 6 + 5)
            have S2 := Lib.hid (S1.out.swap a a (by omega) (by omega))
            generalize dj[a]! = x at *
            clear S1
            go_wp2_with fail
            go_big_region_o
            first | show Exit.then _ _ _ _ (swapW wr g a a x x) | show Exit.inBlock _ _ _ _ (swapW wr g a a x x)
            generalize swapW wr g a a x x = w2 at S2 ⊢
            clear p0 p1 p2 p3 p4 p5 fi0 fi1 fi2 fi3 fi4 fi5
            have hd2 : (Sort.swp dj a a).size = d.size := by rw [Sort.size_swp]; exact hdj
            have hcall := sift_calls rv g cap 0 kx a (Sort.swp dj a a) w0 w2 S2.out (by omega) (by omega) (by omega)
            rw [hd2] at hcall
            clear S2
            go_wp2_with ((with_reducible refine Calls.mono hcall ?_); rintro e w1 ⟨rfl, S3⟩)
            go_roundg kx
            case measure => omega
            case rel =>
              have hss : (Sort.siftDown ltO kx a 0 (Sort.swp dj a a)).size = (Sort.swp dj a a).size := Sort.size_siftDown _ _ _ _ _ _ (Nat.le_refl _)
              exact ⟨by go_num, by omega, Sort.siftDown ltO kx a 0 (Sort.swp dj a a), by rw [hss, hd2], S3, by have Z := HE2.out; rw [Sort.heapPop, hik] at Z; exact Z⟩
          · obtain ⟨p0, p1, p2, p3, p4, p5⟩ := S1.out.cells (a) (by omega)
            obtain ⟨q0, q1, q2, q3, q4, q5⟩ := S1.out.cells (ik) (by omega)
            have fi0 := S1.out.row.frozen ((a) * 6)
            have fi1 := S1.out.row.frozen ((a) * 6 + 1)
            have fi2 := S1.out.row.frozen ((a) * 6 + 2)
            have fi3 := S1.out.row.frozen ((a) * 6 + 3)
            have fi4 := S1.out.row.frozen ((a) * 6 + 4)
            have fi5 := S1.out.row.frozen ((a) * 6 + 5)
            have fj0 := S1.out.row.frozen ((ik) * 6)
            have fj1 := S1.out.row.frozen ((ik) * 6 + 1)
            have fj2 := S1.out.row.frozen ((ik) * 6 + 2)
            have fj3 := S1.out.row.frozen ((ik) * 6 + 3)
            have fj4 := S1.out.row.frozen ((ik) * 6 + 4)
            have fj5 := S1.out.row.frozen ((ik) * 6 + 5)
            have S2 := Lib.hid (S1.out.swap a ik (by omega) (by omega))
            generalize dj[a]! = x at *
            generalize dj[ik]! = y at *
            clear S1
            go_wp2_with fail
            go_big_region_o
            first | show Exit.then _ _ _ _ (swapW wr g a ik x y) | show Exit.inBlock _ _ _ _ (swapW wr g a ik x y)
            generalize swapW wr g a ik x y = w2 at S2 ⊢
            clear p0 p1 p2 p3 p4 p5 q0 q1 q2 q3 q4 q5 fi0 fi1 fi2 fi3 fi4 fi5 fj0 fj1 fj2 fj3 fj4 fj5
            have hd2 : (Sort.swp dj a ik).size = d.size := by rw [Sort.size_swp]; exact hdj
            have hcall := sift_calls rv g cap 0 kx a (Sort.swp dj a ik) w0 w2 S2.out (by omega) (by omega) (by omega)
            rw [hd2] at hcall
            clear S2
            go_wp2_with ((with_reducible refine Calls.mono hcall ?_); rintro e w1 ⟨rfl, S3⟩)
            go_roundg kx
            case measure => omega
            case rel =>
              have hss : (Sort.siftDown ltO kx a 0 (Sort.swp dj a ik)).size = (Sort.swp dj a ik).size := Sort.size_siftDown _ _ _ _ _ _ (Nat.le_refl _)
              exact ⟨by go_num, by omega, Sort.siftDown ltO kx a 0 (Sort.swp dj a ik), by rw [hss, hd2], S3, by have Z := HE2.out; rw [Sort.heapPop, hik] at Z; exact Z⟩
    | succ kx =>
      have ekx : ((kx + 1 : Nat) : Int) - 1 = (kx : Int) := by omega
      rw [ekx]
      have hcall := sift_calls rv g cap kx m a dk w0 wr S1.out (by omega) (by omega) (by omega)
      rw [hds] at hcall
      clear S1
      go_wp2_with ((with_reducible refine Calls.mono hcall ?_); rintro e w1 ⟨rfl, S3⟩)
      go_roundg kx
      case measure => omega
      case rel =>
        have hss : (Sort.siftDown ltO m a kx dk).size = dk.size := Sort.size_siftDown _ _ _ _ _ _ (Nat.le_refl _)
        exact ⟨by go_num, by omega, Sort.siftDown ltO m a kx dk, by rw [hss, hds], S3, HE⟩
end Go.Proofs.Ytgffddbhnggllaa.Ed
namespace Go.Proofs.Ytgffddbhnggllaa.Ed
open Go.RowKit Go.Shelf Go.Proofs.YtgffddbhnggllaaW.PrintWords QF
structure CB (w0 W : World) (g cap : Nat) (d : Array S41) (c s : Nat) : Prop where
  sb : SB w0 W g cap d
  at' : W.heap[c]? = some (.cells #[.int .i64 (s : Int)] 3 (0, 0))
  ge : w0.heap.size ≤ c
  ne : c ≠ g
theorem CB.below {w0 W W' : World} {g cap c s : Nat} {d : Array S41} (h : CB w0 W g cap d c s) (hb : Below W.heap.size W W') : CB w0 W' g cap d c s := ⟨h.sb.below hb, blk_below h.at' hb, h.ge, h.ne⟩
theorem CB.regrown {w0 W : World} {g cap c s : Nat} {d : Array S41} (h : CB w0 W g cap d c s) (dr : Nat) (os : Array Obj) : CB w0 (Sort.grow (redrawn W dr) os) g cap d c s := h.below (below_regrown W dr os)
theorem CB.bump {w0 W : World} {g cap c s : Nat} {d : Array S41} (h : CB w0 W g cap d c s) (t : Nat) : CB w0 (W.setCell ⟨c, 0, none⟩ (.int .i64 (t : Int))) g cap d c t := by
  refine ⟨⟨h.sb.row.same (Below.heap_setCell W ⟨c, 0, none⟩ _ g (fun e => h.ne e.symm)), ⟨h.sb.gr.os, h.sb.gr.tape, h.sb.gr.output, ?_, ?_⟩⟩, ?_, h.ge, h.ne⟩
  · simpa [World.setCell] using h.sb.gr.size
  · intro k hk hn
    exact (Below.heap_setCell W ⟨c, 0, none⟩ _ k (fun e => by have := h.ge; have e' : k = c := e; omega)).trans (h.sb.gr.block k hk hn)
  · exact (blk_set h.at' 0 _).trans rfl
set_option maxRecDepth 1000000 in
set_option maxHeartbeats 4000000 in
theorem order2_calls (rv : Value) (g cap c s a b : Nat) (d : Array S41) (w0 w : World) (S : CB w0 w g cap d c s) (ha : a < d.size) (hb : b < d.size) (hs : s ≤ 1000) :
    Calls Try.prog 137 #[.slice (some ⟨g, 0, none⟩) d.size cap, .int .i64 a, .int .i64 b, .pointer (some ⟨c, 0, none⟩), .func (.func 89) #[rv] #[]] w fun e w' => e = .returned (.tuple #[.int .i64 ((Sort.order2 ltO d a b s).1 : Nat), .int .i64 ((Sort.order2 ltO d a b s).2.1 : Nat)]) ∧ CB w0 w' g cap d c (Sort.order2 ltO d a b s).2.2 := by
  have mixed : Try.prog.follows .mixedOrders = true := by kernel_rfl
  have S0 := Lib.hid S
  clear S
  have b1 : (a : Int) < (d.size : Int) := by omega
  have b2 : (b : Int) < (d.size : Int) := by omega
  clear ha hb
  go_enter Try.func137, Try.ntmps137
  have p0 := fun dr os => ((S0.out.sb.regrown dr os).cells b (by omega)).1
  have p1 := fun dr os => ((S0.out.sb.regrown dr os).cells b (by omega)).2.1
  have p2 := fun dr os => ((S0.out.sb.regrown dr os).cells b (by omega)).2.2.1
  have p3 := fun dr os => ((S0.out.sb.regrown dr os).cells b (by omega)).2.2.2.1
  have p4 := fun dr os => ((S0.out.sb.regrown dr os).cells b (by omega)).2.2.2.2.1
  have p5 := fun dr os => ((S0.out.sb.regrown dr os).cells b (by omega)).2.2.2.2.2
  have q0 := fun dr os => ((S0.out.sb.regrown dr os).cells a (by omega)).1
  have q1 := fun dr os => ((S0.out.sb.regrown dr os).cells a (by omega)).2.1
  have q2 := fun dr os => ((S0.out.sb.regrown dr os).cells a (by omega)).2.2.1
  have q3 := fun dr os => ((S0.out.sb.regrown dr os).cells a (by omega)).2.2.2.1
  have q4 := fun dr os => ((S0.out.sb.regrown dr os).cells a (by omega)).2.2.2.2.1
  have q5 := fun dr os => ((S0.out.sb.regrown dr os).cells a (by omega)).2.2.2.2.2
  go_wp2_with fail
  refine wp_region_quiet_below mixed (by kernel_rfl) ?_
  repeat (quiet_step ((go_at_call 89; refine Calls.regrown_of (cmpO_calls rv _ _ _))))
  refine wpQuiet_nil ?_
  intro _ hw'
  obtain ⟨⟨dq, osq⟩, hw''⟩ := hw'
  subst hw''
  clear p0 p1 p2 p3 p4 p5 q0 q1 q2 q3 q4 q5
  have S2 := Lib.hid (S0.out.regrown dq osq)
  generalize Sort.grow (redrawn w dq) osq = w2 at S2 ⊢
  clear S0
  have hz : ltO d[b]! d[a]! = decide (cmpO d[b]! d[a]! < 0) := rfl
  generalize cmpO d[b]! d[a]! = z at *
  cases hq : ltO d[b]! d[a]! with
  | true =>
    have hd : z < 0 := of_decide_eq_true (hz.symm.trans hq)
    have E := Lib.hid (show Sort.order2 ltO d a b s = (b, a, s + 1) by rw [Sort.order2, if_pos hq])
    clear hz hq
    have c1 : w2.cell? ⟨c, 0, none⟩ = some (.int .i64 (s : Int)) := by rw [blk_cell S2.out.at']; rfl
    have c2 : w2.frozen? ⟨c, 0, none⟩ = false := blk_frozen S2.out.at' 0
    have S3 := Lib.hid (S2.out.bump (s + 1))
    have c3 : IntKind.i64.wrap ((s : Int) + 1) = ((s + 1 : Nat) : Int) := by rw [show (s : Int) + 1 = ((s + 1 : Nat) : Int) by omega]; exact IntWalk.i64_in _ (by omega)
    clear S2
    obtain ⟨t, ht⟩ : ∃ t, s + 1 = t := ⟨_, rfl⟩
    rw [ht] at S3 c3 E
    go_wp2
    go_ret2
    rw [E.out]
    exact ⟨rfl, S3.out⟩
  | false =>
    have hd : ¬ z < 0 := of_decide_eq_false (hz.symm.trans hq)
    have E := Lib.hid (show Sort.order2 ltO d a b s = (a, b, s) by rw [Sort.order2, if_neg (by rw [hq]; simp)])
    clear hz hq
    go_wp2
    go_ret2
    rw [E.out]
    exact ⟨rfl, S2.out⟩
theorem o2_range (d : Array S41) (a b s : Nat) (ha : a < d.size) (hb : b < d.size) : (Sort.order2 ltO d a b s).1 < d.size ∧ (Sort.order2 ltO d a b s).2.1 < d.size ∧ (Sort.order2 ltO d a b s).2.2 ≤ s + 1 := by
  rw [Sort.order2]; split
  · exact ⟨hb, ha, Nat.le_refl _⟩
  · exact ⟨ha, hb, Nat.le_succ _⟩
set_option maxRecDepth 1000000 in
set_option maxHeartbeats 4000000 in
theorem median_calls (rv : Value) (g cap c s a b i : Nat) (d : Array S41) (w0 w : World) (S : CB w0 w g cap d c s) (ha : a < d.size) (hb : b < d.size) (hi : i < d.size) (hs : s ≤ 900) :
    Calls Try.prog 133 #[.slice (some ⟨g, 0, none⟩) d.size cap, .int .i64 a, .int .i64 b, .int .i64 i, .pointer (some ⟨c, 0, none⟩), .func (.func 89) #[rv] #[]] w fun e w' => e = .returned (.int .i64 ((Sort.median ltO d a b i s).1 : Nat)) ∧ CB w0 w' g cap d c (Sort.median ltO d a b i s).2 := by
  have S0 := Lib.hid S
  clear S
  have M : Sort.median ltO d a b i s = ((Sort.order2 ltO d (Sort.order2 ltO d a b s).1 (Sort.order2 ltO d (Sort.order2 ltO d a b s).2.1 i (Sort.order2 ltO d a b s).2.2).1 (Sort.order2 ltO d (Sort.order2 ltO d a b s).2.1 i (Sort.order2 ltO d a b s).2.2).2.2).2.1, (Sort.order2 ltO d (Sort.order2 ltO d a b s).1 (Sort.order2 ltO d (Sort.order2 ltO d a b s).2.1 i (Sort.order2 ltO d a b s).2.2).1 (Sort.order2 ltO d (Sort.order2 ltO d a b s).2.1 i (Sort.order2 ltO d a b s).2.2).2.2).2.2) := rfl
  rw [M]
  clear M
  have c1 := order2_calls rv g cap c s a b d w0 w S0.out ha hb (by omega)
  have r1 := o2_range d a b s ha hb
  generalize Sort.order2 ltO d a b s = o1 at c1 r1 ⊢
  obtain ⟨x1, y1, s1⟩ := o1
  obtain ⟨r1, r2, r3⟩ := r1
  dsimp only at r1 r2 r3
  have c2 := fun w1 S1 => order2_calls rv g cap c s1 y1 i d w0 w1 S1 r2 hi (by omega)
  have q1 := o2_range d y1 i s1 r2 hi
  dsimp only at c2 q1 ⊢
  generalize Sort.order2 ltO d y1 i s1 = o2 at c2 q1 ⊢
  obtain ⟨x2, y2, s2⟩ := o2
  obtain ⟨q1, q2, q3⟩ := q1
  dsimp only at q1 q2 q3
  have c3 := fun w2 S2 => order2_calls rv g cap c s2 x1 x2 d w0 w2 S2 r1 q1 (by omega)
  dsimp only at c3 ⊢
  generalize Sort.order2 ltO d x1 x2 s2 = o3 at c3 ⊢
  obtain ⟨x3, y3, s3⟩ := o3
  clear S0
  have C2 := Lib.hid c2
  have C3 := Lib.hid c3
  clear c2 c3
  go_enter Try.func133, Try.ntmps133
  go_wp2_with ((with_reducible refine Calls.mono c1 ?_); rintro e w1 ⟨rfl, S1⟩)
  have c2 := C2.out w1 S1
  clear S1 c1
  go_wp2_with ((with_reducible refine Calls.mono c2 ?_); rintro e w2 ⟨rfl, S2⟩)
  have c3 := C3.out w2 S2
  clear S2 c2
  go_wp2_with ((with_reducible refine Calls.mono c3 ?_); rintro e w3 ⟨rfl, S3⟩)
  go_wp2
  go_ret
  exact ⟨rfl, S3⟩
end Go.Proofs.Ytgffddbhnggllaa.Ed
namespace Go.Proofs.Ytgffddbhnggllaa.Ed
open Go.RowKit Go.Shelf Go.Proofs.YtgffddbhnggllaaW.PrintWords QF
theorem CB.start {w0 W : World} {g cap : Nat} {d : Array S41} (h : SB w0 W g cap d) : CB w0 (W.alloc (.cells #[.int .i64 0] 3)) g cap d W.heap.size 0 :=
  ⟨h.below (below_alloc (Below.refl _ _) _), blk_new _ _, h.gr.size, fun e => by have := h.row.lt; omega⟩
theorem w64 (n : Nat) (h : n ≤ 100000) : wrap64 (n : Int) = (n : Int) := IntWalk.wrap64_in _ (by omega)
theorem i64w (n : Nat) (h : n ≤ 100000) : IntKind.i64.wrap (n : Int) = (n : Int) := IntWalk.i64_in _ (by omega)
def hcode : Sort.Hint → Int | .unknown => 0 | .increasing => 1 | .decreasing => 2
theorem o2_cnt (d : Array S41) (a b s : Nat) : (Sort.order2 ltO d a b s).2.2 ≤ s + 1 := by rw [Sort.order2]; split <;> simp
theorem med_range (d : Array S41) (a b i s : Nat) (ha : a < d.size) (hb : b < d.size) (hi : i < d.size) : (Sort.median ltO d a b i s).1 < d.size ∧ (Sort.median ltO d a b i s).2 ≤ s + 3 := by
  have r1 := o2_range d a b s ha hb
  have r2 := o2_range d (Sort.order2 ltO d a b s).2.1 i (Sort.order2 ltO d a b s).2.2 r1.2.1 hi
  have r3 := o2_range d (Sort.order2 ltO d a b s).1 (Sort.order2 ltO d (Sort.order2 ltO d a b s).2.1 i (Sort.order2 ltO d a b s).2.2).1 (Sort.order2 ltO d (Sort.order2 ltO d a b s).2.1 i (Sort.order2 ltO d a b s).2.2).2.2 r1.1 r2.1
  refine ⟨r3.2.1, ?_⟩
  have e := r3.2.2
  have := r1.2.2
  have := r2.2.2
  exact Nat.le_trans e (by omega)
set_option maxRecDepth 1000000 in
set_option maxHeartbeats 4000000 in
theorem madj_calls (rv : Value) (g cap c s i : Nat) (d : Array S41) (w0 w : World) (S : CB w0 w g cap d c s) (h1 : 1 ≤ i) (hi : i + 1 < d.size) (hs : s ≤ 900) (hsz : d.size ≤ 100000) :
    Calls Try.prog 132 #[.slice (some ⟨g, 0, none⟩) d.size cap, .int .i64 i, .pointer (some ⟨c, 0, none⟩), .func (.func 89) #[rv] #[]] w fun e w' => e = .returned (.int .i64 ((Sort.medianAdjacent ltO d i s).1 : Nat)) ∧ CB w0 w' g cap d c (Sort.medianAdjacent ltO d i s).2 := by
  have hc := median_calls rv g cap c s (i - 1) i (i + 1) d w0 w S (by omega) (by omega) (by omega) hs
  have M : Sort.medianAdjacent ltO d i s = Sort.median ltO d (i - 1) i (i + 1) s := rfl
  rw [M]
  clear M S
  generalize Sort.median ltO d (i - 1) i (i + 1) s = o at hc ⊢
  rw [show ((i - 1 : Nat) : Int) = (i : Int) - 1 by omega, show ((i + 1 : Nat) : Int) = (i : Int) + 1 by omega] at hc
  have b1 : (1 : Int) ≤ (i : Int) := by omega
  have b2 : (i : Int) ≤ 100000 := by omega
  go_enter Try.func132, Try.ntmps132
  go_wp2_with ((with_reducible refine Calls.mono hc ?_); rintro e w1 ⟨rfl, S1⟩)
  go_wp2
  go_ret
  exact ⟨rfl, S1⟩
set_option maxRecDepth 1000000 in
set_option maxHeartbeats 4000000 in
theorem pivot_calls (rv : Value) (g cap a b : Nat) (d : Array S41) (w0 w : World) (S : SB w0 w g cap d) (hab : 12 < b - a) (hb : b ≤ d.size) (hsz : d.size ≤ 100000) :
    Calls Try.prog 112 #[.slice (some ⟨g, 0, none⟩) d.size cap, .int .i64 a, .int .i64 b, .func (.func 89) #[rv] #[]] w fun e w' => e = .returned (.tuple #[.int .i64 ((Sort.choosePivot ltO d a b).1 : Nat), .int .i64 (hcode (Sort.choosePivot ltO d a b).2)]) ∧ SB w0 w' g cap d := by
  have C0 := Lib.hid (CB.start S)
  clear S
  obtain ⟨I, hI⟩ : ∃ I : Nat, a + (b - a) / 4 * 1 = I := ⟨_, rfl⟩
  obtain ⟨J, hJ⟩ : ∃ J : Nat, a + (b - a) / 4 * 2 = J := ⟨_, rfl⟩
  obtain ⟨K, hK⟩ : ∃ K : Nat, a + (b - a) / 4 * 3 = K := ⟨_, rfl⟩
  by_cases h50 : b - a < 50
  · have E : Sort.choosePivot ltO d a b = ((Sort.median ltO d I J K 0).1, if (Sort.median ltO d I J K 0).2 = 0 then .increasing else if (Sort.median ltO d I J K 0).2 = 12 then .decreasing else .unknown) := by
      simp only [Sort.choosePivot, if_pos (show b - a ≥ 8 by omega), if_neg (show ¬ b - a ≥ 50 by omega), hI, hJ, hK]
    rw [E]
    clear E
    have c4 := median_calls rv g cap w.heap.size 0 I J K d w0 _ C0.out (by omega) (by omega) (by omega) (by omega)
    have r4 := med_range d I J K 0 (by omega) (by omega) (by omega)
    obtain ⟨m, hm⟩ : ∃ m, b - a = m := ⟨_, rfl⟩
    rw [hm] at hI hJ hK hab
    have e0 : (b : Int) - (a : Int) = (m : Int) := by omega
    have eI : ((a : Int) + (m : Int) / 4) = (I : Int) := by omega
    have eJ : ((a : Int) + (m : Int) / 4 * 2) = (J : Int) := by omega
    have eK : ((a : Int) + (m : Int) / 4 * 3) = (K : Int) := by omega
    generalize Sort.median ltO d I J K 0 = o at c4 r4 ⊢
    obtain ⟨p, s⟩ := o
    obtain ⟨_, r4⟩ := r4
    dsimp only at c4 r4 ⊢
    have b8 : (8 : Int) ≤ (m : Int) := by omega
    have b50 : (m : Int) < 50 := by omega
    have lI : I ≤ 100000 := by omega
    have lJ : J ≤ 100000 := by omega
    have lK : K ≤ 100000 := by omega
    clear hI hJ hK C0 hm h50
    go_enter Try.func112, Try.ntmps112
    by_cases hs0 : s = 0
    · subst hs0
      go_wp2_with ((with_reducible refine Calls.mono c4 ?_); rintro e w4 ⟨rfl, S4⟩; have c1 : w4.cell? ⟨w.heap.size, 0, none⟩ = some (.int .i64 ((0 : Nat) : Int)) := (blk_cell S4.at' _).trans rfl; have S5 := Lib.hid S4.sb; clear S4)
      go_ret2
      exact ⟨rfl, S5.out⟩
    · have z1 : ¬ (s : Int) = 0 := by omega
      have z2 : ¬ (s : Int) = 12 := by omega
      have z3 : ¬ s = 12 := by omega
      go_wp2_with ((with_reducible refine Calls.mono c4 ?_); rintro e w4 ⟨rfl, S4⟩; have c1 : w4.cell? ⟨w.heap.size, 0, none⟩ = some (.int .i64 (s : Int)) := (blk_cell S4.at' _).trans rfl; have S5 := Lib.hid S4.sb; clear S4)
      go_ret2
      exact ⟨rfl, S5.out⟩
  · have E : Sort.choosePivot ltO d a b = ((Sort.median ltO d (Sort.medianAdjacent ltO d I 0).1 (Sort.medianAdjacent ltO d J (Sort.medianAdjacent ltO d I 0).2).1 (Sort.medianAdjacent ltO d K (Sort.medianAdjacent ltO d J (Sort.medianAdjacent ltO d I 0).2).2).1 (Sort.medianAdjacent ltO d K (Sort.medianAdjacent ltO d J (Sort.medianAdjacent ltO d I 0).2).2).2).1, if (Sort.median ltO d (Sort.medianAdjacent ltO d I 0).1 (Sort.medianAdjacent ltO d J (Sort.medianAdjacent ltO d I 0).2).1 (Sort.medianAdjacent ltO d K (Sort.medianAdjacent ltO d J (Sort.medianAdjacent ltO d I 0).2).2).1 (Sort.medianAdjacent ltO d K (Sort.medianAdjacent ltO d J (Sort.medianAdjacent ltO d I 0).2).2).2).2 = 0 then .increasing else if (Sort.median ltO d (Sort.medianAdjacent ltO d I 0).1 (Sort.medianAdjacent ltO d J (Sort.medianAdjacent ltO d I 0).2).1 (Sort.medianAdjacent ltO d K (Sort.medianAdjacent ltO d J (Sort.medianAdjacent ltO d I 0).2).2).1 (Sort.medianAdjacent ltO d K (Sort.medianAdjacent ltO d J (Sort.medianAdjacent ltO d I 0).2).2).2).2 = 12 then .decreasing else .unknown) := by
      simp only [Sort.choosePivot, if_pos (show b - a ≥ 8 by omega), if_pos (show b - a ≥ 50 by omega), hI, hJ, hK]
    rw [E]
    clear E
    have m1 := med_range d (I - 1) I (I + 1) 0 (by omega) (by omega) (by omega)
    have c1 := madj_calls rv g cap w.heap.size 0 I d w0 _ C0.out (by omega) (by omega) (by omega) hsz
    rw [← show Sort.medianAdjacent ltO d I 0 = Sort.median ltO d (I - 1) I (I + 1) 0 from rfl] at m1
    generalize Sort.medianAdjacent ltO d I 0 = o1 at c1 m1 ⊢
    obtain ⟨x1, s1⟩ := o1
    dsimp only at c1 m1 ⊢
    have m2 := med_range d (J - 1) J (J + 1) s1 (by omega) (by omega) (by omega)
    have c2 := fun w1 S1 => madj_calls rv g cap w.heap.size s1 J d w0 w1 S1 (by omega) (by omega) (by omega) hsz
    rw [← show Sort.medianAdjacent ltO d J s1 = Sort.median ltO d (J - 1) J (J + 1) s1 from rfl] at m2
    generalize Sort.medianAdjacent ltO d J s1 = o2 at c2 m2 ⊢
    obtain ⟨x2, s2⟩ := o2
    dsimp only at c2 m2 ⊢
    have m3 := med_range d (K - 1) K (K + 1) s2 (by omega) (by omega) (by omega)
    have c3 := fun w2 S2 => madj_calls rv g cap w.heap.size s2 K d w0 w2 S2 (by omega) (by omega) (by omega) hsz
    rw [← show Sort.medianAdjacent ltO d K s2 = Sort.median ltO d (K - 1) K (K + 1) s2 from rfl] at m3
    generalize Sort.medianAdjacent ltO d K s2 = o3 at c3 m3 ⊢
    obtain ⟨x3, s3⟩ := o3
    dsimp only at c3 m3 ⊢
    have c4 := fun w3 S3 => median_calls rv g cap w.heap.size s3 x1 x2 x3 d w0 w3 S3 m1.1 m2.1 m3.1 (by omega)
    have r4 := med_range d x1 x2 x3 s3 m1.1 m2.1 m3.1
    generalize Sort.median ltO d x1 x2 x3 s3 = o at c4 r4 ⊢
    obtain ⟨p, s⟩ := o
    obtain ⟨_, r4⟩ := r4
    dsimp only at c4 r4 ⊢
    have hs12 : s ≤ 12 := by omega
    obtain ⟨m, hm⟩ : ∃ m, b - a = m := ⟨_, rfl⟩
    rw [hm] at hI hJ hK hab
    have e0 : (b : Int) - (a : Int) = (m : Int) := by omega
    have eI : ((a : Int) + (m : Int) / 4) = (I : Int) := by omega
    have eJ : ((a : Int) + (m : Int) / 4 * 2) = (J : Int) := by omega
    have eK : ((a : Int) + (m : Int) / 4 * 3) = (K : Int) := by omega
    have b8 : (8 : Int) ≤ (m : Int) := by omega
    have b50 : (50 : Int) ≤ (m : Int) := by omega
    have lI : I ≤ 100000 := by omega
    have lJ : J ≤ 100000 := by omega
    have lK : K ≤ 100000 := by omega
    have C2 := Lib.hid c2
    have C3 := Lib.hid c3
    have C4 := Lib.hid c4
    clear hI hJ hK C0 hm h50 c2 c3 c4 m1 m2 m3 r4
    go_enter Try.func112, Try.ntmps112
    go_wp2_with ((with_reducible refine Calls.mono c1 ?_); rintro e w1 ⟨rfl, S1⟩)
    have c2 := C2.out w1 S1
    clear S1 c1
    go_wp2_with ((with_reducible refine Calls.mono c2 ?_); rintro e w2 ⟨rfl, S2⟩)
    have c3 := C3.out w2 S2
    clear S2 c2
    go_wp2_with ((with_reducible refine Calls.mono c3 ?_); rintro e w3 ⟨rfl, S3⟩)
    have c4 := C4.out w3 S3
    clear S3 c3
    by_cases hs0 : s = 0
    · subst hs0
      go_wp2_with ((with_reducible refine Calls.mono c4 ?_); rintro e w4 ⟨rfl, S4⟩; have c1 : w4.cell? ⟨w.heap.size, 0, none⟩ = some (.int .i64 ((0 : Nat) : Int)) := (blk_cell S4.at' _).trans rfl; have S5 := Lib.hid S4.sb; clear S4)
      go_ret2
      exact ⟨rfl, S5.out⟩
    · by_cases hs1 : s = 12
      · subst hs1
        go_wp2_with ((with_reducible refine Calls.mono c4 ?_); rintro e w4 ⟨rfl, S4⟩; have c1 : w4.cell? ⟨w.heap.size, 0, none⟩ = some (.int .i64 ((12 : Nat) : Int)) := (blk_cell S4.at' _).trans rfl; have S5 := Lib.hid S4.sb; clear S4)
        go_ret2
        exact ⟨rfl, S5.out⟩
      · have z1 : ¬ (s : Int) = 0 := by omega
        have z2 : ¬ (s : Int) = 12 := by omega
        go_wp2_with ((with_reducible refine Calls.mono c4 ?_); rintro e w4 ⟨rfl, S4⟩; have c1 : w4.cell? ⟨w.heap.size, 0, none⟩ = some (.int .i64 (s : Int)) := (blk_cell S4.at' _).trans rfl; have S5 := Lib.hid S4.sb; clear S4)
        go_ret2
        exact ⟨rfl, S5.out⟩
end Go.Proofs.Ytgffddbhnggllaa.Ed
namespace Go.Proofs
open Go.Shelf
def Try.lays128_ren : Go.Shelf.Ren := ⟨fun | 128 => 117 | n => n, fun | 51 => 148 | 3 => 3 | 4 => 4 | 46 => 135 | 5 => 5 | 9 => 9 | n => n, fun | n => n⟩
theorem Try.lays128 : Go.Proofs.Lays.n128 Try.prog Try.lays128_ren := {
  mixed := by kernel_rfl
  f128 := Try.func117.trans (congrArg some (by kernel_rfl))
  t3 := Try.underlying3
  a3 := Try.isAgg3
  z3 := Try.sizeOf3
  v3 := Try.zeroValue3
  t4 := Try.underlying4
  a4 := Try.isAgg4
  z4 := Try.sizeOf4
  v4 := Try.zeroValue4
  t5 := Try.underlying5
  a5 := Try.isAgg5
  z5 := Try.sizeOf5
  v5 := Try.zeroValue5
  t9 := Try.underlying9
  a9 := Try.isAgg9
  z9 := Try.sizeOf9
  v9 := Try.zeroValue9
  t46 := Try.underlying135
  a46 := Try.isAgg135
  z46 := Try.sizeOf135
  v46 := Try.zeroValue135
  t51 := Try.underlying148
  a51 := Try.isAgg148
  z51 := Try.sizeOf148
  v51 := Try.zeroValue148 }
theorem Try.bits_Len32 (x : Int) (w : World) (h0 : 0 ≤ x) (h1 : x ≤ 4294967295) :
    Calls Try.prog 117 #[.int .u32 x] w fun e w' => e = .returned (.int .i64 (Lib.bitLen x.toNat)) ∧ w' = w := Any.bits_Len32 Try.lays128 x w h0 h1
def Try.lays125_ren : Go.Shelf.Ren := ⟨fun | 125 => 102 | 128 => 117 | 129 => 118 | n => n, fun | 46 => 135 | 3 => 3 | 51 => 148 | 53 => 150 | 4 => 4 | 5 => 5 | 9 => 9 | n => n, fun | n => n⟩
theorem Try.lays125 : Go.Proofs.Lays.n125 Try.prog Try.lays125_ren := {
  mixed := by kernel_rfl
  f125 := Try.func102.trans (congrArg some (by kernel_rfl))
  f128 := Try.func117.trans (congrArg some (by kernel_rfl))
  f129 := Try.func118.trans (congrArg some (by kernel_rfl))
  t3 := Try.underlying3
  a3 := Try.isAgg3
  z3 := Try.sizeOf3
  v3 := Try.zeroValue3
  t4 := Try.underlying4
  a4 := Try.isAgg4
  z4 := Try.sizeOf4
  v4 := Try.zeroValue4
  t5 := Try.underlying5
  a5 := Try.isAgg5
  z5 := Try.sizeOf5
  v5 := Try.zeroValue5
  t9 := Try.underlying9
  a9 := Try.isAgg9
  z9 := Try.sizeOf9
  v9 := Try.zeroValue9
  t46 := Try.underlying135
  a46 := Try.isAgg135
  z46 := Try.sizeOf135
  v46 := Try.zeroValue135
  t51 := Try.underlying148
  a51 := Try.isAgg148
  z51 := Try.sizeOf148
  v51 := Try.zeroValue148
  t53 := Try.underlying150
  a53 := Try.isAgg150
  z53 := Try.sizeOf150
  v53 := Try.zeroValue150 }
theorem Try.bits_Len (x : Int) (w : World) (h0 : 0 ≤ x) (h1 : x ≤ 18446744073709551615) :
    Calls Try.prog 102 #[.int .u64 x] w fun e w' => e = .returned (.int .i64 (Lib.bitLen x.toNat)) ∧ w' = w := Any.bits_Len Try.lays125 x w h0 h1
def Try.lays215_ren : Go.Shelf.Ren := ⟨fun | 215 => 119 | n => n, fun | 3 => 3 | 4 => 4 | n => n, fun | n => n⟩
theorem Try.lays215 : Go.Proofs.Lays.n215 Try.prog Try.lays215_ren := {
  mixed := by kernel_rfl
  f215 := Try.func119.trans (congrArg some (by kernel_rfl))
  t3 := Try.underlying3
  a3 := Try.isAgg3
  z3 := Try.sizeOf3
  v3 := Try.zeroValue3
  t4 := Try.underlying4
  a4 := Try.isAgg4
  z4 := Try.sizeOf4
  v4 := Try.zeroValue4 }
open Go.RowKit in
theorem Try.cmp_isNaN_int (x : Int) (w : World) :
    Calls Try.prog 119 #[.int .i64 x] w fun e w' => e = .returned (.bool false) ∧ w' = w := Any.cmp_isNaN_int Try.lays215 x w
def Try.lays122_ren : Go.Shelf.Ren := ⟨fun | 122 => 105 | 215 => 119 | n => n, fun | 3 => 3 | 4 => 4 | n => n, fun | n => n⟩
theorem Try.lays122 : Go.Proofs.Lays.n122 Try.prog Try.lays122_ren := {
  mixed := by kernel_rfl
  f122 := Try.func105.trans (congrArg some (by kernel_rfl))
  f215 := Try.func119.trans (congrArg some (by kernel_rfl))
  t3 := Try.underlying3
  a3 := Try.isAgg3
  z3 := Try.sizeOf3
  v3 := Try.zeroValue3
  t4 := Try.underlying4
  a4 := Try.isAgg4
  z4 := Try.sizeOf4
  v4 := Try.zeroValue4 }
open Go.RowKit in
theorem Try.cmp_Compare_int (x y : Int) (w : World) :
    Calls Try.prog 105 #[.int .i64 x, .int .i64 y] w fun e w' => e = .returned (.int .i64 (Lib.compareInt x y)) ∧ w' = w := Any.cmp_Compare_int Try.lays122 x y w
def Try.lays129_ren : Go.Shelf.Ren := ⟨fun | 129 => 118 | n => n, fun | 53 => 150 | 3 => 3 | 4 => 4 | 46 => 135 | 5 => 5 | 9 => 9 | n => n, fun | n => n⟩
theorem Try.lays129 : Go.Proofs.Lays.n129 Try.prog Try.lays129_ren := {
  mixed := by kernel_rfl
  f129 := Try.func118.trans (congrArg some (by kernel_rfl))
  t3 := Try.underlying3
  a3 := Try.isAgg3
  z3 := Try.sizeOf3
  v3 := Try.zeroValue3
  t4 := Try.underlying4
  a4 := Try.isAgg4
  z4 := Try.sizeOf4
  v4 := Try.zeroValue4
  t5 := Try.underlying5
  a5 := Try.isAgg5
  z5 := Try.sizeOf5
  v5 := Try.zeroValue5
  t9 := Try.underlying9
  a9 := Try.isAgg9
  z9 := Try.sizeOf9
  v9 := Try.zeroValue9
  t46 := Try.underlying135
  a46 := Try.isAgg135
  z46 := Try.sizeOf135
  v46 := Try.zeroValue135
  t53 := Try.underlying150
  a53 := Try.isAgg150
  z53 := Try.sizeOf150
  v53 := Try.zeroValue150 }
theorem Try.bits_Len64 (x : Int) (w : World) (h0 : 0 ≤ x) (h1 : x ≤ 18446744073709551615) :
    Calls Try.prog 118 #[.int .u64 x] w fun e w' => e = .returned (.int .i64 (Lib.bitLen x.toNat)) ∧ w' = w := Any.bits_Len64 Try.lays129 x w h0 h1
def Try.lays189_ren : Go.Shelf.Ren := ⟨fun | 189 => 93 | 125 => 102 | 257 => 108 | 128 => 117 | 129 => 118 | 294 => 120 | 295 => 121 | 296 => 122 | 297 => 123 | 298 => 124 | 299 => 125 | 216 => 126 | 300 => 127 | 301 => 128 | 328 => 134 | 329 => 130 | 330 => 131 | 331 => 135 | 332 => 136 | 215 => 119 | 343 => 138 | n => n, fun | 28 => 26 | 3 => 3 | 46 => 135 | 0 => 0 | 51 => 148 | 53 => 150 | 4 => 4 | 183 => 142 | 182 => 141 | 131 => 56 | 5 => 5 | 9 => 9 | 218 => 157 | 222 => 161 | 228 => 165 | 229 => 78 | n => n, fun | n => n⟩
theorem Try.lays189 : Go.Proofs.Lays.n189 Try.prog Try.lays189_ren := {
  mixed := by kernel_rfl
  f125 := Try.func102.trans (congrArg some (by kernel_rfl))
  f128 := Try.func117.trans (congrArg some (by kernel_rfl))
  f129 := Try.func118.trans (congrArg some (by kernel_rfl))
  f189 := Try.func93.trans (congrArg some (by kernel_rfl))
  f215 := Try.func119.trans (congrArg some (by kernel_rfl))
  f216 := Try.func126.trans (congrArg some (by kernel_rfl))
  f257 := Try.func108.trans (congrArg some (by kernel_rfl))
  f294 := Try.func120.trans (congrArg some (by kernel_rfl))
  f295 := Try.func121.trans (congrArg some (by kernel_rfl))
  f296 := Try.func122.trans (congrArg some (by kernel_rfl))
  f297 := Try.func123.trans (congrArg some (by kernel_rfl))
  f298 := Try.func124.trans (congrArg some (by kernel_rfl))
  f299 := Try.func125.trans (congrArg some (by kernel_rfl))
  f300 := Try.func127.trans (congrArg some (by kernel_rfl))
  f301 := Try.func128.trans (congrArg some (by kernel_rfl))
  f328 := Try.func134.trans (congrArg some (by kernel_rfl))
  f329 := Try.func130.trans (congrArg some (by kernel_rfl))
  f330 := Try.func131.trans (congrArg some (by kernel_rfl))
  f331 := Try.func135.trans (congrArg some (by kernel_rfl))
  f332 := Try.func136.trans (congrArg some (by kernel_rfl))
  f343 := Try.func138.trans (congrArg some (by kernel_rfl))
  t0 := Try.underlying0
  a0 := Try.isAgg0
  z0 := Try.sizeOf0
  v0 := Try.zeroValue0
  t3 := Try.underlying3
  a3 := Try.isAgg3
  z3 := Try.sizeOf3
  v3 := Try.zeroValue3
  t4 := Try.underlying4
  a4 := Try.isAgg4
  z4 := Try.sizeOf4
  v4 := Try.zeroValue4
  t5 := Try.underlying5
  a5 := Try.isAgg5
  z5 := Try.sizeOf5
  v5 := Try.zeroValue5
  t9 := Try.underlying9
  a9 := Try.isAgg9
  z9 := Try.sizeOf9
  v9 := Try.zeroValue9
  t28 := Try.underlying26
  a28 := Try.isAgg26
  z28 := Try.sizeOf26
  v28 := Try.zeroValue26
  t46 := Try.underlying135
  a46 := Try.isAgg135
  z46 := Try.sizeOf135
  v46 := Try.zeroValue135
  t51 := Try.underlying148
  a51 := Try.isAgg148
  z51 := Try.sizeOf148
  v51 := Try.zeroValue148
  t53 := Try.underlying150
  a53 := Try.isAgg150
  z53 := Try.sizeOf150
  v53 := Try.zeroValue150
  t131 := Try.underlying56
  a131 := Try.isAgg56
  z131 := Try.sizeOf56
  v131 := Try.zeroValue56
  t182 := Try.underlying141
  a182 := Try.isAgg141
  z182 := Try.sizeOf141
  v182 := Try.zeroValue141
  t183 := Try.underlying142
  a183 := Try.isAgg142
  z183 := Try.sizeOf142
  v183 := Try.zeroValue142
  t218 := Try.underlying157
  a218 := Try.isAgg157
  z218 := Try.sizeOf157
  v218 := Try.zeroValue157
  t222 := Try.underlying161
  a222 := Try.isAgg161
  z222 := Try.sizeOf161
  v222 := Try.zeroValue161
  t228 := Try.underlying165
  a228 := Try.isAgg165
  z228 := Try.sizeOf165
  v228 := Try.zeroValue165
  t229 := Try.underlying78
  a229 := Try.isAgg78
  z229 := Try.sizeOf78
  v229 := Try.zeroValue78 }
open Go.Sort Go.RowKit in
theorem Try.slices_Sort_int (blk off cap : Nat) (zs : List Int) (w : World) (hH : Holds (Value.int .i64) w blk off zs.toArray) (hblk : blk < w.heap.size) (hsz : zs.length < 4611686018427387904) :
    Calls Try.prog 93 #[.slice (some ⟨blk, off, none⟩) zs.length cap] w fun e w' =>
      e = .returned (.tuple #[]) ∧ ∃ n os, w' = grow (putRow (Value.int .i64) (Sort.ahead w n) blk off (zs.mergeSort fun x y => decide (x ≤ y)).toArray) os := Any.slices_Sort_int Try.lays189 blk off cap zs w hH hblk hsz
def Try.lays108_ren : Go.Shelf.Ren := ⟨fun | 108 => 99 | n => n, fun | 28 => 26 | 3 => 3 | 0 => 0 | 4 => 4 | n => n, fun | n => n⟩
theorem Try.lays108 : Go.Proofs.Lays.n108 Try.prog Try.lays108_ren := {
  mixed := by kernel_rfl
  f108 := Try.func99.trans (congrArg some (by kernel_rfl))
  t0 := Try.underlying0
  a0 := Try.isAgg0
  z0 := Try.sizeOf0
  v0 := Try.zeroValue0
  t3 := Try.underlying3
  a3 := Try.isAgg3
  z3 := Try.sizeOf3
  v3 := Try.zeroValue3
  t4 := Try.underlying4
  a4 := Try.isAgg4
  z4 := Try.sizeOf4
  v4 := Try.zeroValue4
  t28 := Try.underlying26
  a28 := Try.isAgg26
  z28 := Try.sizeOf26
  v28 := Try.zeroValue26 }
open Go.Lib in
theorem Try.slices_Index_int (b off n c : Nat) (zs : List Int) (x : Int) (w : World) (hz : n ≤ zs.length) (hbig : n ≤ 9223372036854775807) (hc : ∀ j, j < zs.length → w.cell? ⟨b, off + j, none⟩ = some (.int .i64 (zs.getD j 0))) :
    Calls Try.prog 99 #[.slice (some ⟨b, off, none⟩) n c, .int .i64 x] w fun e w' => e = .returned (.int .i64 (Lib.idxOf (zs.take n) x)) ∧ w' = w := Any.slices_Index_int Try.lays108 b off n c zs x w hz hbig hc
open Go.Lib in
theorem Try.slices_Index_int_empty (a : Option Addr) (c : Nat) (x : Int) (w : World) :
    Calls Try.prog 99 #[.slice a 0 c, .int .i64 x] w fun e w' => e = .returned (.int .i64 (Lib.idxOf [] x)) ∧ w' = w := Any.slices_Index_int_empty Try.lays108 a c x w
def Try.lays107_ren : Go.Shelf.Ren := ⟨fun | 107 => 81 | 108 => 99 | n => n, fun | 28 => 26 | 3 => 3 | 4 => 4 | 0 => 0 | n => n, fun | n => n⟩
theorem Try.lays107 : Go.Proofs.Lays.n107 Try.prog Try.lays107_ren := {
  mixed := by kernel_rfl
  f107 := Try.func81.trans (congrArg some (by kernel_rfl))
  f108 := Try.func99.trans (congrArg some (by kernel_rfl))
  t0 := Try.underlying0
  a0 := Try.isAgg0
  z0 := Try.sizeOf0
  v0 := Try.zeroValue0
  t3 := Try.underlying3
  a3 := Try.isAgg3
  z3 := Try.sizeOf3
  v3 := Try.zeroValue3
  t4 := Try.underlying4
  a4 := Try.isAgg4
  z4 := Try.sizeOf4
  v4 := Try.zeroValue4
  t28 := Try.underlying26
  a28 := Try.isAgg26
  z28 := Try.sizeOf26
  v28 := Try.zeroValue26 }
open Go.Lib in
theorem Try.slices_Contains_int (b off n c : Nat) (zs : List Int) (x : Int) (w : World) (hz : n ≤ zs.length) (hbig : n ≤ 9223372036854775807) (hc : ∀ j, j < zs.length → w.cell? ⟨b, off + j, none⟩ = some (.int .i64 (zs.getD j 0))) :
    Calls Try.prog 81 #[.slice (some ⟨b, off, none⟩) n c, .int .i64 x] w fun e w' => e = .returned (.bool ((zs.take n).contains x)) ∧ w' = w := Any.slices_Contains_int Try.lays107 b off n c zs x w hz hbig hc
open Go.Lib in
theorem Try.slices_Contains_int_empty (a : Option Addr) (c : Nat) (x : Int) (w : World) :
    Calls Try.prog 81 #[.slice a 0 c, .int .i64 x] w fun e w' => e = .returned (.bool false) ∧ w' = w := Any.slices_Contains_int_empty Try.lays107 a c x w
def Try.lays114_ren : Go.Shelf.Ren := ⟨fun | 114 => 71 | n => n, fun | 28 => 26 | 3 => 3 | 4 => 4 | 9 => 9 | 20 => 20 | 0 => 0 | n => n, fun | n => n⟩
theorem Try.lays114 : Go.Proofs.Lays.n114 Try.prog Try.lays114_ren := {
  mixed := by kernel_rfl
  f114 := Try.func71.trans (congrArg some (by kernel_rfl))
  t0 := Try.underlying0
  a0 := Try.isAgg0
  z0 := Try.sizeOf0
  v0 := Try.zeroValue0
  t3 := Try.underlying3
  a3 := Try.isAgg3
  z3 := Try.sizeOf3
  v3 := Try.zeroValue3
  t4 := Try.underlying4
  a4 := Try.isAgg4
  z4 := Try.sizeOf4
  v4 := Try.zeroValue4
  t9 := Try.underlying9
  a9 := Try.isAgg9
  z9 := Try.sizeOf9
  v9 := Try.zeroValue9
  t20 := Try.underlying20
  a20 := Try.isAgg20
  z20 := Try.sizeOf20
  v20 := Try.zeroValue20
  t28 := Try.underlying26
  a28 := Try.isAgg26
  z28 := Try.sizeOf26
  v28 := Try.zeroValue26 }
open Go.Lib in
theorem Try.slices_Min_int (b off n c : Nat) (zs : List Int) (w : World) (hn : 0 < n) (hz : n ≤ zs.length) (hbig : n ≤ 9223372036854775807) (hc : ∀ j, j < zs.length → w.cell? ⟨b, off + j, none⟩ = some (.int .i64 (zs.getD j 0))) :
    Calls Try.prog 71 #[.slice (some ⟨b, off, none⟩) n c] w fun e w' => e = .returned (.int .i64 (Lib.minOf (zs.take n))) ∧ w' = w := Any.slices_Min_int Try.lays114 b off n c zs w hn hz hbig hc
def Try.laysNm215_ren : Go.Shelf.Ren := ⟨fun | 15 => 55 | n => n, fun | 22 => 26 | 3 => 3 | 4 => 4 | n => n, fun | n => n⟩
theorem Try.laysNm215 : Go.Proofs.Lays2.n15 Try.prog Try.laysNm215_ren := {
  mixed := by kernel_rfl
  f15 := Try.func55.trans (congrArg some (by kernel_rfl))
  t3 := Try.underlying3
  a3 := Try.isAgg3
  z3 := Try.sizeOf3
  v3 := Try.zeroValue3
  t4 := Try.underlying4
  a4 := Try.isAgg4
  z4 := Try.sizeOf4
  v4 := Try.zeroValue4
  t22 := Try.underlying26
  a22 := Try.isAgg26
  z22 := Try.sizeOf26
  v22 := Try.zeroValue26
  i3 := by kernel_rfl }
open Go.RowKit Go.Lib in
theorem Try.slices_Clone_int (b off n c : Nat) (zs : List Int) (w : World) (hz : n ≤ zs.length) (hbig : n * 8 ≤ 140737488355328) (hc : ∀ j, j < zs.length → w.cell? ⟨b, off + j, none⟩ = some (.int .i64 (zs.getD j 0))) :
    Calls Try.prog 55 #[.slice (some ⟨b, off, none⟩) n c] w fun e w' => ∃ v', e = .returned v' ∧ w'.ownsRow w.heap.size 3 1 v' n ((zs.take n).map (Value.int .i64)) ∧ v' ≠ .slice none 0 0 ∧ Below w.heap.size w w' := Any.slices_Clone_int Try.laysNm215 b off n c zs w hz hbig hc
open Go.RowKit Go.Lib in
theorem Try.slices_Clone_int_nil (n c : Nat) (w : World) :
    Calls Try.prog 55 #[.slice none n c] w fun e w' => e = .returned (.slice none 0 0) ∧ w' = w := Any.slices_Clone_int_nil Try.laysNm215 n c w
open Go.RowKit Go.Lib in
theorem Try.slices_Clone_int_zero (a : Addr) (c : Nat) (w : World) :
    Calls Try.prog 55 #[.slice (some a) 0 c] w fun e w' => ∃ v', e = .returned v' ∧ w'.ownsRow w.heap.size 3 1 v' 0 [] ∧ v' ≠ .slice none 0 0 ∧ Below w.heap.size w w' := Any.slices_Clone_int_zero Try.laysNm215 a c w
def Try.laysNm237_ren : Go.Shelf.Ren := ⟨fun | 37 => 119 | n => n, fun | 3 => 3 | 4 => 4 | n => n, fun | n => n⟩
theorem Try.laysNm237 : Go.Proofs.Lays2.n37 Try.prog Try.laysNm237_ren := {
  mixed := by kernel_rfl
  f37 := Try.func119.trans (congrArg some (by kernel_rfl))
  t3 := Try.underlying3
  a3 := Try.isAgg3
  z3 := Try.sizeOf3
  v3 := Try.zeroValue3
  t4 := Try.underlying4
  a4 := Try.isAgg4
  z4 := Try.sizeOf4
  v4 := Try.zeroValue4 }
open Go.RowKit Go.Lib in
theorem Try.cmp_isNaN_int2 (x : Int) (w : World) :
    Calls Try.prog 119 #[.int .i64 x] w fun e w' => e = .returned (.bool false) ∧ w' = w := Any.cmp_isNaN_int2 Try.laysNm237 x w
def Try.laysNm231_ren : Go.Shelf.Ren := ⟨fun | 31 => 126 | 37 => 119 | n => n, fun | 3 => 3 | 4 => 4 | n => n, fun | n => n⟩
theorem Try.laysNm231 : Go.Proofs.Lays2.n31 Try.prog Try.laysNm231_ren := {
  mixed := by kernel_rfl
  f31 := Try.func126.trans (congrArg some (by kernel_rfl))
  f37 := Try.func119.trans (congrArg some (by kernel_rfl))
  t3 := Try.underlying3
  a3 := Try.isAgg3
  z3 := Try.sizeOf3
  v3 := Try.zeroValue3
  t4 := Try.underlying4
  a4 := Try.isAgg4
  z4 := Try.sizeOf4
  v4 := Try.zeroValue4 }
open Go.RowKit Go.Lib in
theorem Try.cmp_Less_int2 (x y : Int) (w : World) :
    Calls Try.prog 126 #[.int .i64 x, .int .i64 y] w fun e w' => e = .returned (.bool (decide (x < y))) ∧ w' = w := Any.cmp_Less_int2 Try.laysNm231 x y w
open Go.RowKit Go.Sort in
theorem Try.slices_Sort_int_none (p : Option Addr) (cap : Nat) (w : World) :
    Calls Try.prog 93 #[.slice p 0 cap] w fun e w' => e = .returned (.tuple #[]) ∧ w' = w := Any.slices_Sort_int_none Try.lays189 p cap w
def Try.laysSlE041_f55_ren : Go.Shelf.Ren := ⟨fun | 41 => 55 | n => n, fun | 22 => 26 | 23 => 3 | 4 => 4 | n => n, fun | n => n⟩
theorem Try.laysSlE041_f55 : Go.Proofs.SlLaysE0.n41 Try.prog Try.laysSlE041_f55_ren := {
  mixed := by kernel_rfl
  f41 := ⟨Try.f55.name, by decide, Try.func55.trans (congrArg some (by kernel_rfl))⟩
  t4 := Try.underlying4
  a4 := Try.isAgg4
  z4 := Try.sizeOf4
  v4 := Try.zeroValue4
  t22 := Try.underlying26
  a22 := Try.isAgg26
  z22 := Try.sizeOf26
  v22 := Try.zeroValue26 }
open Go.RowKit Go.Lib in
theorem Try.slices_Clone (i0 : TypeInfo) (z : Value) (size bytes : Nat) (hi : Try.prog.info? 3 = some i0) (hz0 : i0.zero = some z) (hz1 : i0.size = size) (hz2 : i0.bytes = bytes) (hzs : z.cells.size = size) (hsz : 0 < size) (z23 : ∀ w, (Go.sizeOf 3).run Try.prog w = .ok size w) (b off n c : Nat) (news : List Value) (w : World) (hl : news.length = n * size) (hn : n ≤ maxLen) (hbig : n * bytes ≤ 140737488355328) (hc : ∀ j u, news[j]? = some u → w.cell? ⟨b, off + j, none⟩ = some u) (h1 : ∀ u ∈ news, u.oneCell' = true) :
    Calls Try.prog 55 #[.slice (some ⟨b, off, none⟩) n c] w fun e w' => ∃ v', e = .returned v' ∧ w'.ownsRow w.heap.size 3 size v' n news ∧ v' ≠ .slice none 0 0 ∧ Below w.heap.size w w' := AnyE.slices_Clone Try.laysSlE041_f55 i0 z size bytes hi hz0 hz1 hz2 hzs hsz z23 b off n c news w hl hn hbig hc h1
open Go.RowKit Go.Lib in
theorem Try.slices_Clone_nil (n c : Nat) (w : World) :
    Calls Try.prog 55 #[.slice none n c] w fun e w' => e = .returned (.slice none 0 0) ∧ w' = w := AnyE.slices_Clone_nil Try.laysSlE041_f55 n c w
def Try.lf47_ren : Go.Shelf.Ren := ⟨fun | 47 => 130 | 15 => 102 | 28 => 117 | 29 => 118 | n => n, fun | 3 => 3 | 39 => 135 | 53 => 148 | 55 => 150 | 4 => 4 | 5 => 5 | 9 => 9 | n => n, fun | n => n⟩
theorem Try.lf47 : Go.Proofs.SlLaysF0.n47 Try.prog Try.lf47_ren := {
  mixed := by kernel_rfl
  f15 := Try.func102.trans (congrArg some (by kernel_rfl))
  f28 := Try.func117.trans (congrArg some (by kernel_rfl))
  f29 := Try.func118.trans (congrArg some (by kernel_rfl))
  f47 := Try.func130.trans (congrArg some (by kernel_rfl))
  t3 := Try.underlying3
  a3 := Try.isAgg3
  z3 := Try.sizeOf3
  v3 := Try.zeroValue3
  t4 := Try.underlying4
  a4 := Try.isAgg4
  z4 := Try.sizeOf4
  v4 := Try.zeroValue4
  t5 := Try.underlying5
  a5 := Try.isAgg5
  z5 := Try.sizeOf5
  v5 := Try.zeroValue5
  t9 := Try.underlying9
  a9 := Try.isAgg9
  z9 := Try.sizeOf9
  v9 := Try.zeroValue9
  t39 := Try.underlying135
  a39 := Try.isAgg135
  z39 := Try.sizeOf135
  v39 := Try.zeroValue135
  t53 := Try.underlying148
  a53 := Try.isAgg148
  z53 := Try.sizeOf148
  v53 := Try.zeroValue148
  t55 := Try.underlying150
  a55 := Try.isAgg150
  z55 := Try.sizeOf150
  v55 := Try.zeroValue150 }
def Try.lf48_ren : Go.Shelf.Ren := ⟨fun | 48 => 131 | n => n, fun | 76 => 165 | 55 => 150 | 0 => 0 | 66 => 157 | 39 => 135 | n => n, fun | n => n⟩
theorem Try.lf48 : Go.Proofs.SlLaysF0.n48 Try.prog Try.lf48_ren := {
  mixed := by kernel_rfl
  f48 := Try.func131.trans (congrArg some (by kernel_rfl))
  t0 := Try.underlying0
  a0 := Try.isAgg0
  z0 := Try.sizeOf0
  v0 := Try.zeroValue0
  t39 := Try.underlying135
  a39 := Try.isAgg135
  z39 := Try.sizeOf135
  v39 := Try.zeroValue135
  t55 := Try.underlying150
  a55 := Try.isAgg150
  z55 := Try.sizeOf150
  v55 := Try.zeroValue150
  t66 := Try.underlying157
  a66 := Try.isAgg157
  z66 := Try.sizeOf157
  v66 := Try.zeroValue157
  t76 := Try.underlying165
  a76 := Try.isAgg165
  z76 := Try.sizeOf165
  v76 := Try.zeroValue165 }
end Go.Proofs
namespace Go.Proofs.Ytgffddbhnggllaa.Ed
open Go.RowKit Go.Shelf Go.Proofs.YtgffddbhnggllaaW.PrintWords QF Go.Sort
structure XB (w0 W : World) (g cap : Nat) (d : Array S41) (c r : Nat) : Prop where
  sb : SB w0 W g cap d
  at' : W.heap[c]? = some (.cells #[.int .u64 (r : Int)] 157 (0, 0))
  ge : w0.heap.size ≤ c
  ne : c ≠ g
theorem XB.start {w0 W : World} {g cap : Nat} {d : Array S41} (h : SB w0 W g cap d) (r : Nat) : XB w0 (W.alloc (.cells #[.int .u64 (r : Int)] 157)) g cap d W.heap.size r :=
  ⟨h.below (below_alloc (Below.refl _ _) _), blk_new _ _, h.gr.size, fun e => by have := h.row.lt; omega⟩
theorem XB.next {w0 W : World} {g cap c s : Nat} {d : Array S41} (h : XB w0 W g cap d c s) (t : Nat) : XB w0 ((W.setCell ⟨c, 0, none⟩ (.int .u64 (t : Int))).drewN 3) g cap d c t := by
  refine ⟨⟨h.sb.row.same (Below.heap_setCell W ⟨c, 0, none⟩ _ g (fun e => h.ne e.symm)), ⟨h.sb.gr.os, h.sb.gr.tape, h.sb.gr.output, ?_, ?_⟩⟩, (blk_set h.at' 0 _).trans rfl, h.ge, h.ne⟩
  · simpa [World.setCell] using h.sb.gr.size
  · intro k hk hn
    exact (Below.heap_setCell W ⟨c, 0, none⟩ _ k (fun e => by have := h.ge; have e' : k = c := e; omega)).trans (h.sb.gr.block k hk hn)
theorem XB.swap {w0 W : World} {g cap c s : Nat} {d : Array S41} (h : XB w0 W g cap d c s) (i j : Nat) (hi : i < d.size) (hj : j < d.size) : XB w0 (swapW W g i j d[i]! d[j]!) g cap (Sort.swp d i j) c s := by
  refine ⟨h.sb.swap i j hi hj, ?_, h.ge, h.ne⟩
  have e : ∀ W : World, W.drew.heap = W.heap := fun _ => rfl
  rw [swapW, e, setCells_far _ _ c h.ne, setCells_far _ _ c h.ne]
  exact h.at'
theorem XB.cells {w0 W : World} {g cap c s : Nat} {d : Array S41} (h : XB w0 W g cap d c s) (i : Nat) (hi : i < d.size) : W.cell? ⟨g, i * 6, none⟩ = some (.int .i64 d[i]!.f0) ∧ W.cell? ⟨g, i * 6 + 1, none⟩ = some (.int .i64 d[i]!.f1) ∧ W.cell? ⟨g, i * 6 + 2, none⟩ = some (.int .i64 d[i]!.f2) ∧ W.cell? ⟨g, i * 6 + 3, none⟩ = some (.int .i64 d[i]!.f3) ∧ W.cell? ⟨g, i * 6 + 4, none⟩ = some (.int .i64 d[i]!.f4) ∧ W.cell? ⟨g, i * 6 + 5, none⟩ = some (.int .u8 d[i]!.f5) := h.sb.cells i hi
theorem XB.row {w0 W : World} {g cap c s : Nat} {d : Array S41} (h : XB w0 W g cap d c s) : Rw W g cap d.toList := h.sb.row
theorem bits_and_nat (x y : Nat) (hx : x < 18446744073709551616) (hy : y < 18446744073709551616) : bits .and .u64 (x : Int) (y : Int) = ((x &&& y : Nat) : Int) := bits_and_u64_nat x y hx hy
set_option maxRecDepth 1000000 in
set_option maxHeartbeats 4000000 in
theorem break_calls (rv : Value) (g cap a L : Nat) (d : Array S41) (w0 w : World) (S : SB w0 w g cap d) (h8 : 8 ≤ L) (hb : a + L ≤ d.size) (hsz : d.size ≤ 100000) :
    Calls Try.prog 111 #[.slice (some ⟨g, 0, none⟩) d.size cap, .int .i64 a, .int .i64 ((a + L : Nat) : Int), .func (.func 89) #[rv] #[]] w fun e w' => e = .returned (.tuple #[]) ∧ SB w0 w' g cap (Sort.breakPatterns d a (a + L)) := by
  have mixed : Try.prog.follows .mixedOrders = true := by kernel_rfl
  have S0 := Lib.hid S
  clear S
  rw [breakPatterns_eq d a L h8]
  obtain ⟨M, hM⟩ : ∃ M : Nat, M = 1 <<< bitsLen L := ⟨_, rfl⟩
  have hM1 : 1 ≤ M := by rw [hM, Nat.one_shiftLeft]; exact Nat.two_pow_pos _
  have hM2 : M ≤ 2 * L := by rw [hM, Nat.one_shiftLeft]; exact two_pow_bitsLen_le (by omega)
  have hNP : ∀ w, Calls Try.prog 130 #[.int .i64 (L : Int)] w fun e w' => e = .returned (.int .u64 (M : Int)) ∧ w' = w := by rw [hM]; exact fun w => AnyF.nextPowerOfTwo Try.lf47 L (by omega) w
  rw [← hM]
  clear hM
  have h8z : (8 : Int) ≤ (L : Int) := by omega
  have hLz : ((a : Int) + (L : Int) - (a : Int)) = (L : Int) := by omega
  have X0 := Lib.hid (XB.start S0.out L)
  have eL : (UInt64.ofNat L).toNat = L := by simp; omega
  clear S0
  go_enter Try.func111, Try.ntmps111
  go_wp2_with ((with_reducible refine Calls.mono (hNP _) ?_); rintro e w' ⟨rfl, rfl⟩)
  go_loopg [11] 3 (fun g1 vi wr => ∃ (t : Nat) (r : UInt64) (dk : Array S41), vi = .int .i64 ((a : Int) + (L : Int) / 4 * 2 - 1 + (t : Int)) ∧ t ≤ 3 ∧ 3 - t ≤ g1 ∧ dk.size = d.size ∧ Hid (XB w0 wr g cap dk w.heap.size r.toNat) ∧
      Hid (bpRest a L M (a + L / 4 * 2 - 1) (3 - t) t (r, dk) = bpRest a L M (a + L / 4 * 2 - 1) 3 0 (UInt64.ofNat L, d)))
  case atStart => exact ⟨0, UInt64.ofNat L, d, by simp, by omega, by omega, rfl, by rw [eL]; exact X0, rfl⟩
  case round =>
    clear X0
    obtain ⟨t, r, dk, rfl, ht, hg1, hds, X1, HR⟩ := hrel
    by_cases ht3 : t < 3
    · have hle : (a : Int) + (L : Int) / 4 * 2 - 1 + (t : Int) ≤ (a : Int) + (L : Int) / 4 * 2 + 1 := by omega
      obtain ⟨R0, hRr⟩ : ∃ R0 : Nat, R0 = r.toNat := ⟨_, rfl⟩
      have lR : R0 < 18446744073709551616 := by rw [hRr]; exact r.toNat_lt
      obtain ⟨R', hR'⟩ : ∃ R' : Nat, R' = xorNextN R0 := ⟨_, rfl⟩
      have lR' : R' < 18446744073709551616 := by rw [hR']; exact xorNextN_lt R0 lR
      obtain ⟨O, hO⟩ : ∃ O : Nat, O = R' &&& (M - 1) := ⟨_, rfl⟩
      have lO : O ≤ M - 1 := by rw [hO]; exact Nat.and_le_right
      have eAnd : bits .and .u64 (R' : Int) ((M : Int) - 1) = (O : Int) := by
        rw [show ((M : Int) - 1) = ((M - 1 : Nat) : Int) by omega, bits_and_nat _ _ lR' (by omega), hO]
      rw [← hRr] at X1
      have hNext : Calls Try.prog 131 #[.pointer (some ⟨w.heap.size, 0, none⟩)] wr fun e w' => e = .returned (.int .u64 (R' : Int)) ∧ w' = (wr.setCell ⟨w.heap.size, 0, none⟩ (.int .u64 (R' : Int))).drewN 3 := by
        rw [hR']; exact AnyF.xorshift_Next Try.lf48 _ _ R0 lR wr ((blk_cell X1.out.at' 0).trans rfl) (blk_frozen X1.out.at' 0)
      have HN : Hid (R' = (xorNext r).toNat ∧ O = (xorNext r).toNat &&& (M - 1)) := by
        have e : R' = (xorNext r).toNat := by rw [hR', hRr, xorNext_toNat]
        exact ⟨e, by rw [hO, e]⟩
      have X2 := Lib.hid (X1.out.next R')
      clear hRr hR' hO X1
      generalize (wr.setCell ⟨w.heap.size, 0, none⟩ (.int .u64 (R' : Int))).drewN 3 = w2 at hNext X2
      have ui : (a : Int) + (L : Int) / 4 * 2 - 1 + (t : Int) = ((a + L / 4 * 2 - 1 + t : Nat) : Int) := by omega
      have bi : ((a + L / 4 * 2 - 1 + t : Nat) : Int) < (d.size : Int) := by omega
      have bi0 : (0 : Int) ≤ ((a + L / 4 * 2 - 1 + t : Nat) : Int) := by omega
      have li : a + L / 4 * 2 - 1 + t < d.size := by omega
      obtain ⟨ii, hii⟩ : ∃ ii, a + L / 4 * 2 - 1 + t = ii := ⟨_, rfl⟩
      have hiz : (a : Int) + (L : Int) / 4 * 2 - 1 + ((t + 1 : Nat) : Int) = (ii : Int) + 1 := by omega
      rw [hii] at ui bi bi0 li
      rw [ui] at hle ⊢
      have hOM : O < 2 * L := by omega
      by_cases hLO : L ≤ O
      · have g1 : (L : Int) ≤ (O : Int) := by omega
        have uo : IntKind.i64.wrap ((O : Int) - (L : Int)) = ((O - L : Nat) : Int) := by rw [show (O : Int) - (L : Int) = ((O - L : Nat) : Int) by omega]; exact IntWalk.i64_in _ (by omega)
        obtain ⟨P, hP⟩ : ∃ P, O - L = P := ⟨_, rfl⟩
        rw [hP] at uo
        have HR2 := HR.out
        rw [bp_step a L M _ t r dk P ht3 (by rw [← HN.out.2, if_pos (by omega)]; exact hP)] at HR2
        have uj : IntKind.i64.wrap ((a : Int) + (P : Int)) = ((a + P : Nat) : Int) := by rw [show (a : Int) + (P : Int) = ((a + P : Nat) : Int) by omega]; exact IntWalk.i64_in _ (by omega)
        have bj : ((a + P : Nat) : Int) < (d.size : Int) := by omega
        have lj : a + P < d.size := by omega
        obtain ⟨jj, hjj⟩ : ∃ jj, a + P = jj := ⟨_, rfl⟩
        rw [hjj] at uj bj lj HR2
        rw [hii] at HR2
        have HS := Lib.hid HR2
        clear HR HR2 hjj hP
        go_wp2_with ((with_reducible refine Calls.mono hNext ?_); rintro e w' ⟨rfl, hw'⟩; obtain rfl : w2 = w' := hw'.symm)
        clear hNext uo
        rcases Nat.lt_trichotomy ii jj with hswp | hswp | hswp
        · obtain ⟨p0, p1, p2, p3, p4, p5⟩ := X2.out.cells (ii) (by omega)
          obtain ⟨q0, q1, q2, q3, q4, q5⟩ := X2.out.cells (jj) (by omega)
          have fi0 := X2.out.row.frozen ((ii) * 6)
          have fi1 := X2.out.row.frozen ((ii) * 6 + 1)
          have fi2 := X2.out.row.frozen ((ii) * 6 + 2)
          have fi3 := X2.out.row.frozen ((ii) * 6 + 3)
          have fi4 := X2.out.row.frozen ((ii) * 6 + 4)
          have fi5 := X2.out.row.frozen ((ii) * 6 + 5)
          have fj0 := X2.out.row.frozen ((jj) * 6)
          have fj1 := X2.out.row.frozen ((jj) * 6 + 1)
          have fj2 := X2.out.row.frozen ((jj) * 6 + 2)
          have fj3 := X2.out.row.frozen ((jj) * 6 + 3)
          have fj4 := X2.out.row.frozen ((jj) * 6 + 4)
          have fj5 := X2.out.row.frozen ((jj) * 6 + 5)
          have X3 := Lib.hid (X2.out.swap ii jj (by omega) (by omega))
          generalize dk[ii]! = x at *
          generalize dk[jj]! = y at *
          clear X2
          go_wp2_with fail
          go_big_region_o
          first | show Exit.then _ _ _ _ (swapW w2 g ii jj x y) | show Exit.inBlock _ _ _ _ (swapW w2 g ii jj x y)
          generalize swapW w2 g ii jj x y = w3 at X3 ⊢
          clear p0 p1 p2 p3 p4 p5 q0 q1 q2 q3 q4 q5 fi0 fi1 fi2 fi3 fi4 fi5 fj0 fj1 fj2 fj3 fj4 fj5
          go_wp2
          go_roundg (3 - (t + 1))
          case measure => omega
          case rel => exact ⟨t + 1, xorNext r, _, by rw [hiz], by omega, Nat.le_refl _, by rw [Sort.size_swp]; exact hds, by rw [← HN.out.1]; exact X3, HS⟩
        · subst hswp
          obtain ⟨p0, p1, p2, p3, p4, p5⟩ := X2.out.cells (ii) (by omega)
          have fi0 := X2.out.row.frozen ((ii) * 6)
          have fi1 := X2.out.row.frozen ((ii) * 6 + 1)
          have fi2 := X2.out.row.frozen ((ii) * 6 + 2)
          have fi3 := X2.out.row.frozen ((ii) * 6 + 3)
          have fi4 := X2.out.row.frozen ((ii) * 6 + 4)
          have fi5 := X2.out.row.frozen ((ii) * 6 + 5)
          have X3 := Lib.hid (X2.out.swap ii ii (by omega) (by omega))
          generalize dk[ii]! = x at *
          clear X2
          go_wp2_with fail
          go_big_region_o
          first | show Exit.then _ _ _ _ (swapW w2 g ii ii x x) | show Exit.inBlock _ _ _ _ (swapW w2 g ii ii x x)
          generalize swapW w2 g ii ii x x = w3 at X3 ⊢
          clear p0 p1 p2 p3 p4 p5 fi0 fi1 fi2 fi3 fi4 fi5
          go_wp2
          go_roundg (3 - (t + 1))
          case measure => omega
          case rel => exact ⟨t + 1, xorNext r, _, by rw [hiz], by omega, Nat.le_refl _, by rw [Sort.size_swp]; exact hds, by rw [← HN.out.1]; exact X3, HS⟩
        · obtain ⟨p0, p1, p2, p3, p4, p5⟩ := X2.out.cells (ii) (by omega)
          obtain ⟨q0, q1, q2, q3, q4, q5⟩ := X2.out.cells (jj) (by omega)
          have fi0 := X2.out.row.frozen ((ii) * 6)
          have fi1 := X2.out.row.frozen ((ii) * 6 + 1)
          have fi2 := X2.out.row.frozen ((ii) * 6 + 2)
          have fi3 := X2.out.row.frozen ((ii) * 6 + 3)
          have fi4 := X2.out.row.frozen ((ii) * 6 + 4)
          have fi5 := X2.out.row.frozen ((ii) * 6 + 5)
          have fj0 := X2.out.row.frozen ((jj) * 6)
          have fj1 := X2.out.row.frozen ((jj) * 6 + 1)
          have fj2 := X2.out.row.frozen ((jj) * 6 + 2)
          have fj3 := X2.out.row.frozen ((jj) * 6 + 3)
          have fj4 := X2.out.row.frozen ((jj) * 6 + 4)
          have fj5 := X2.out.row.frozen ((jj) * 6 + 5)
          have X3 := Lib.hid (X2.out.swap ii jj (by omega) (by omega))
          generalize dk[ii]! = x at *
          generalize dk[jj]! = y at *
          clear X2
          go_wp2_with fail
          go_big_region_o
          first | show Exit.then _ _ _ _ (swapW w2 g ii jj x y) | show Exit.inBlock _ _ _ _ (swapW w2 g ii jj x y)
          generalize swapW w2 g ii jj x y = w3 at X3 ⊢
          clear p0 p1 p2 p3 p4 p5 q0 q1 q2 q3 q4 q5 fi0 fi1 fi2 fi3 fi4 fi5 fj0 fj1 fj2 fj3 fj4 fj5
          go_wp2
          go_roundg (3 - (t + 1))
          case measure => omega
          case rel => exact ⟨t + 1, xorNext r, _, by rw [hiz], by omega, Nat.le_refl _, by rw [Sort.size_swp]; exact hds, by rw [← HN.out.1]; exact X3, HS⟩
      · have g1 : ¬ (L : Int) ≤ (O : Int) := by omega
        obtain ⟨P, hP⟩ : ∃ P, O = P := ⟨_, rfl⟩
        subst hP
        have HR2 := HR.out
        rw [bp_step a L M _ t r dk O ht3 (by rw [← HN.out.2, if_neg (by omega)])] at HR2
        have uj : IntKind.i64.wrap ((a : Int) + (O : Int)) = ((a + O : Nat) : Int) := by rw [show (a : Int) + (O : Int) = ((a + O : Nat) : Int) by omega]; exact IntWalk.i64_in _ (by omega)
        have bj : ((a + O : Nat) : Int) < (d.size : Int) := by omega
        have lj : a + O < d.size := by omega
        obtain ⟨jj, hjj⟩ : ∃ jj, a + O = jj := ⟨_, rfl⟩
        rw [hjj] at uj bj lj HR2
        rw [hii] at HR2
        have HS := Lib.hid HR2
        clear HR HR2 hjj
        go_wp2_with ((with_reducible refine Calls.mono hNext ?_); rintro e w' ⟨rfl, hw'⟩; obtain rfl : w2 = w' := hw'.symm)
        clear hNext
        rcases Nat.lt_trichotomy ii jj with hswp | hswp | hswp
        · obtain ⟨p0, p1, p2, p3, p4, p5⟩ := X2.out.cells (ii) (by omega)
          obtain ⟨q0, q1, q2, q3, q4, q5⟩ := X2.out.cells (jj) (by omega)
          have fi0 := X2.out.row.frozen ((ii) * 6)
          have fi1 := X2.out.row.frozen ((ii) * 6 + 1)
          have fi2 := X2.out.row.frozen ((ii) * 6 + 2)
          have fi3 := X2.out.row.frozen ((ii) * 6 + 3)
          have fi4 := X2.out.row.frozen ((ii) * 6 + 4)
          have fi5 := X2.out.row.frozen ((ii) * 6 + 5)
          have fj0 := X2.out.row.frozen ((jj) * 6)
          have fj1 := X2.out.row.frozen ((jj) * 6 + 1)
          have fj2 := X2.out.row.frozen ((jj) * 6 + 2)
          have fj3 := X2.out.row.frozen ((jj) * 6 + 3)
          have fj4 := X2.out.row.frozen ((jj) * 6 + 4)
          have fj5 := X2.out.row.frozen ((jj) * 6 + 5)
          have X3 := Lib.hid (X2.out.swap ii jj (by omega) (by omega))
          generalize dk[ii]! = x at *
          generalize dk[jj]! = y at *
          clear X2
          go_wp2_with fail
          go_big_region_o
          first | show Exit.then _ _ _ _ (swapW w2 g ii jj x y) | show Exit.inBlock _ _ _ _ (swapW w2 g ii jj x y)
          generalize swapW w2 g ii jj x y = w3 at X3 ⊢
          clear p0 p1 p2 p3 p4 p5 q0 q1 q2 q3 q4 q5 fi0 fi1 fi2 fi3 fi4 fi5 fj0 fj1 fj2 fj3 fj4 fj5
          go_wp2
          go_roundg (3 - (t + 1))
          case measure => omega
          case rel => exact ⟨t + 1, xorNext r, _, by rw [hiz], by omega, Nat.le_refl _, by rw [Sort.size_swp]; exact hds, by rw [← HN.out.1]; exact X3, HS⟩
        · subst hswp
          obtain ⟨p0, p1, p2, p3, p4, p5⟩ := X2.out.cells (ii) (by omega)
          have fi0 := X2.out.row.frozen ((ii) * 6)
          have fi1 := X2.out.row.frozen ((ii) * 6 + 1)
          have fi2 := X2.out.row.frozen ((ii) * 6 + 2)
          have fi3 := X2.out.row.frozen ((ii) * 6 + 3)
          have fi4 := X2.out.row.frozen ((ii) * 6 + 4)
          have fi5 := X2.out.row.frozen ((ii) * 6 + 5)
          have X3 := Lib.hid (X2.out.swap ii ii (by omega) (by omega))
          generalize dk[ii]! = x at *
          clear X2
          go_wp2_with fail
          go_big_region_o
          first | show Exit.then _ _ _ _ (swapW w2 g ii ii x x) | show Exit.inBlock _ _ _ _ (swapW w2 g ii ii x x)
          generalize swapW w2 g ii ii x x = w3 at X3 ⊢
          clear p0 p1 p2 p3 p4 p5 fi0 fi1 fi2 fi3 fi4 fi5
          go_wp2
          go_roundg (3 - (t + 1))
          case measure => omega
          case rel => exact ⟨t + 1, xorNext r, _, by rw [hiz], by omega, Nat.le_refl _, by rw [Sort.size_swp]; exact hds, by rw [← HN.out.1]; exact X3, HS⟩
        · obtain ⟨p0, p1, p2, p3, p4, p5⟩ := X2.out.cells (ii) (by omega)
          obtain ⟨q0, q1, q2, q3, q4, q5⟩ := X2.out.cells (jj) (by omega)
          have fi0 := X2.out.row.frozen ((ii) * 6)
          have fi1 := X2.out.row.frozen ((ii) * 6 + 1)
          have fi2 := X2.out.row.frozen ((ii) * 6 + 2)
          have fi3 := X2.out.row.frozen ((ii) * 6 + 3)
          have fi4 := X2.out.row.frozen ((ii) * 6 + 4)
          have fi5 := X2.out.row.frozen ((ii) * 6 + 5)
          have fj0 := X2.out.row.frozen ((jj) * 6)
          have fj1 := X2.out.row.frozen ((jj) * 6 + 1)
          have fj2 := X2.out.row.frozen ((jj) * 6 + 2)
          have fj3 := X2.out.row.frozen ((jj) * 6 + 3)
          have fj4 := X2.out.row.frozen ((jj) * 6 + 4)
          have fj5 := X2.out.row.frozen ((jj) * 6 + 5)
          have X3 := Lib.hid (X2.out.swap ii jj (by omega) (by omega))
          generalize dk[ii]! = x at *
          generalize dk[jj]! = y at *
          clear X2
          go_wp2_with fail
          go_big_region_o
          first | show Exit.then _ _ _ _ (swapW w2 g ii jj x y) | show Exit.inBlock _ _ _ _ (swapW w2 g ii jj x y)
          generalize swapW w2 g ii jj x y = w3 at X3 ⊢
          clear p0 p1 p2 p3 p4 p5 q0 q1 q2 q3 q4 q5 fi0 fi1 fi2 fi3 fi4 fi5 fj0 fj1 fj2 fj3 fj4 fj5
          go_wp2
          go_roundg (3 - (t + 1))
          case measure => omega
          case rel => exact ⟨t + 1, xorNext r, _, by rw [hiz], by omega, Nat.le_refl _, by rw [Sort.size_swp]; exact hds, by rw [← HN.out.1]; exact X3, HS⟩
    · obtain rfl : t = 3 := by omega
      have hle : ¬ ((a : Int) + (L : Int) / 4 * 2 - 1 + ((3 : Nat) : Int) ≤ (a : Int) + (L : Int) / 4 * 2 + 1) := by omega
      go_wp2
      go_end0
      refine ⟨rfl, ?_⟩
      rw [← HR.out]
      exact X1.out.sb
end Go.Proofs.Ytgffddbhnggllaa.Ed
namespace Go.Proofs.Ytgffddbhnggllaa.Ed
open Go.RowKit Go.Shelf Go.Proofs.YtgffddbhnggllaaW.PrintWords QF
set_option maxRecDepth 1000000 in
set_option maxHeartbeats 16000000 in
theorem partEq_calls (rv : Value) (g cap a b pivot : Nat) (d : Array S41) (w0 w : World) (S : SB w0 w g cap d) (hap : a < pivot) (hpb : pivot < b) (hb : b ≤ d.size) (hsz : d.size ≤ 100000) :
    Calls Try.prog 115 #[.slice (some ⟨g, 0, none⟩) d.size cap, .int .i64 a, .int .i64 b, .int .i64 pivot, .func (.func 89) #[rv] #[]] w fun e w' => e = .returned (.int .i64 ((Sort.partitionEqual ltO d a b pivot).1 : Nat)) ∧ SB w0 w' g cap (Sort.partitionEqual ltO d a b pivot).2 := by
  have mixed : Try.prog.follows .mixedOrders = true := by kernel_rfl
  have S0 := Lib.hid S
  clear S
  have na : (a : Int) < (d.size : Int) := by omega
  have np : (pivot : Int) < (d.size : Int) := by omega
  go_enter Try.func115, Try.ntmps115
  go_wp2_with fail
  obtain ⟨p0, p1, p2, p3, p4, p5⟩ := S0.out.cells (a) (by omega)
  obtain ⟨q0, q1, q2, q3, q4, q5⟩ := S0.out.cells (pivot) (by omega)
  have fi0 := S0.out.row.frozen ((a) * 6)
  have fi1 := S0.out.row.frozen ((a) * 6 + 1)
  have fi2 := S0.out.row.frozen ((a) * 6 + 2)
  have fi3 := S0.out.row.frozen ((a) * 6 + 3)
  have fi4 := S0.out.row.frozen ((a) * 6 + 4)
  have fi5 := S0.out.row.frozen ((a) * 6 + 5)
  have fj0 := S0.out.row.frozen ((pivot) * 6)
  have fj1 := S0.out.row.frozen ((pivot) * 6 + 1)
  have fj2 := S0.out.row.frozen ((pivot) * 6 + 2)
  have fj3 := S0.out.row.frozen ((pivot) * 6 + 3)
  have fj4 := S0.out.row.frozen ((pivot) * 6 + 4)
  have fj5 := S0.out.row.frozen ((pivot) * 6 + 5)
  have S1 := Lib.hid (S0.out.swap a pivot (by omega) (by omega))
  generalize d[a]! = x at *
  generalize d[pivot]! = y at *
  clear S0
  go_wp2_with fail
  go_big_region_o
  first | show Exit.then _ _ _ _ (swapW w g a pivot x y) | show Exit.inBlock _ _ _ _ (swapW w g a pivot x y)
  generalize swapW w g a pivot x y = w1 at S1 ⊢
  clear p0 p1 p2 p3 p4 p5 q0 q1 q2 q3 q4 q5 fi0 fi1 fi2 fi3 fi4 fi5 fj0 fj1 fj2 fj3 fj4 fj5
  go_wp2
  go_loopg [11, 12] (b - 1 + 1 - (a + 1)) (fun kx s11 s12 wr => ∃ (i j : Nat) (dk : Array S41), s11 = .int .i64 i ∧ s12 = .int .i64 j ∧ j + 1 - i ≤ kx ∧ a < i ∧ i ≤ j + 1 ∧ j < b ∧ dk.size = d.size ∧ Hid (SB w0 wr g cap dk) ∧ Hid (Sort.partEqLoop ltO a i j dk = Sort.partEqLoop ltO a (a + 1) (b - 1) (Sort.swp d a pivot)))
  case atStart => exact ⟨a + 1, b - 1, _, by go_num, by go_num, Nat.le_refl _, by omega, by omega, by omega, Sort.size_swp _ _ _, S1, rfl⟩
  case round =>
    clear S1
    obtain ⟨i, j, dk, rfl, rfl, hk, hai, hij, hjb, hds, S1, HE⟩ := hrel
    have na : (a : Int) < (d.size : Int) := by omega
    have la : a < dk.size := by omega
    go_wp2
    go_loopg [11] (j + 1 - i) (fun kx s11 wu => ∃ (iu : Nat), s11 = .int .i64 iu ∧ j + 1 - iu ≤ kx ∧ i ≤ iu ∧ iu ≤ j + 1 ∧ Hid (SB w0 wu g cap dk) ∧ Hid (Sort.scanUp (fun x => !ltO dk[a]! x) dk j iu = Sort.scanUp (fun x => !ltO dk[a]! x) dk j i))
    case atStart => exact ⟨i, rfl, Nat.le_refl _, Nat.le_refl _, hij, S1, rfl⟩
    case round =>
      clear S1
      obtain ⟨iu, rfl, hku, hau, hbu, Suu, hsu⟩ := hrel
      by_cases hleu : iu ≤ j
      · have gu : (iu : Int) ≤ (j : Int) := by omega
        have nu : (iu : Int) < (d.size : Int) := by omega
        have lu : iu < dk.size := by omega
        cases hlv : ltO dk[a]! dk[iu]! with
        | false =>
          have H2 := Lib.hid ((scanUp_go (fun x => !ltO dk[a]! x) dk j iu hleu (by first | (simp only [hlv]; done) | (simp only [hlv]; rfl))).symm.trans hsu.out)
          clear hsu
          have p0 := fun dr os => ((Suu.out.regrown dr os).cells a (by omega)).1
          have p1 := fun dr os => ((Suu.out.regrown dr os).cells a (by omega)).2.1
          have p2 := fun dr os => ((Suu.out.regrown dr os).cells a (by omega)).2.2.1
          have p3 := fun dr os => ((Suu.out.regrown dr os).cells a (by omega)).2.2.2.1
          have p4 := fun dr os => ((Suu.out.regrown dr os).cells a (by omega)).2.2.2.2.1
          have p5 := fun dr os => ((Suu.out.regrown dr os).cells a (by omega)).2.2.2.2.2
          have q0 := fun dr os => ((Suu.out.regrown dr os).cells iu (by omega)).1
          have q1 := fun dr os => ((Suu.out.regrown dr os).cells iu (by omega)).2.1
          have q2 := fun dr os => ((Suu.out.regrown dr os).cells iu (by omega)).2.2.1
          have q3 := fun dr os => ((Suu.out.regrown dr os).cells iu (by omega)).2.2.2.1
          have q4 := fun dr os => ((Suu.out.regrown dr os).cells iu (by omega)).2.2.2.2.1
          have q5 := fun dr os => ((Suu.out.regrown dr os).cells iu (by omega)).2.2.2.2.2
          go_wp2_with fail
          refine wp_region_quiet_below mixed (by kernel_rfl) ?_
          repeat (quiet_step ((go_at_call 89; refine Calls.regrown_of (cmpO_calls rv _ _ _))))
          refine wpQuiet_nil ?_
          intro _ hw'
          obtain ⟨⟨dq, osq⟩, hw''⟩ := hw'
          subst hw''
          clear p0 p1 p2 p3 p4 p5 q0 q1 q2 q3 q4 q5
          have Su2 := Lib.hid (Suu.out.regrown dq osq)
          generalize Sort.grow (redrawn wr dq) osq = wu2 at Su2 ⊢
          clear Suu
          have hz : ltO dk[a]! dk[iu]! = decide (cmpO dk[a]! dk[iu]! < 0) := rfl
          generalize cmpO dk[a]! dk[iu]! = z at *
          have hd : ¬ z < 0 := of_decide_eq_false (hz.symm.trans hlv)
          have hd2 : decide (z < 0) = false := decide_eq_false hd
          clear hz
          rw [hd2]
          try rw [show (!false) = true from rfl]
          clear hd hd2
          clear hlv
          go_wp2
          go_roundg (j + 1 - (iu + 1))
          case measure => omega
          case rel => exact ⟨iu + 1, by go_num, Nat.le_refl _, by omega, by omega, Su2, H2⟩
        | true =>
          have Hu := Lib.hid ((scanUp_end (fun x => !ltO dk[a]! x) dk j iu (Or.inr (by first | (simp only [hlv]; done) | (simp only [hlv]; rfl)))).symm.trans hsu.out)
          clear hsu
          have p0 := fun dr os => ((Suu.out.regrown dr os).cells a (by omega)).1
          have p1 := fun dr os => ((Suu.out.regrown dr os).cells a (by omega)).2.1
          have p2 := fun dr os => ((Suu.out.regrown dr os).cells a (by omega)).2.2.1
          have p3 := fun dr os => ((Suu.out.regrown dr os).cells a (by omega)).2.2.2.1
          have p4 := fun dr os => ((Suu.out.regrown dr os).cells a (by omega)).2.2.2.2.1
          have p5 := fun dr os => ((Suu.out.regrown dr os).cells a (by omega)).2.2.2.2.2
          have q0 := fun dr os => ((Suu.out.regrown dr os).cells iu (by omega)).1
          have q1 := fun dr os => ((Suu.out.regrown dr os).cells iu (by omega)).2.1
          have q2 := fun dr os => ((Suu.out.regrown dr os).cells iu (by omega)).2.2.1
          have q3 := fun dr os => ((Suu.out.regrown dr os).cells iu (by omega)).2.2.2.1
          have q4 := fun dr os => ((Suu.out.regrown dr os).cells iu (by omega)).2.2.2.2.1
          have q5 := fun dr os => ((Suu.out.regrown dr os).cells iu (by omega)).2.2.2.2.2
          go_wp2_with fail
          refine wp_region_quiet_below mixed (by kernel_rfl) ?_
          repeat (quiet_step ((go_at_call 89; refine Calls.regrown_of (cmpO_calls rv _ _ _))))
          refine wpQuiet_nil ?_
          intro _ hw'
          obtain ⟨⟨dq, osq⟩, hw''⟩ := hw'
          subst hw''
          clear p0 p1 p2 p3 p4 p5 q0 q1 q2 q3 q4 q5
          have Su2 := Lib.hid (Suu.out.regrown dq osq)
          generalize Sort.grow (redrawn wr dq) osq = wu2 at Su2 ⊢
          clear Suu
          have hz : ltO dk[a]! dk[iu]! = decide (cmpO dk[a]! dk[iu]! < 0) := rfl
          generalize cmpO dk[a]! dk[iu]! = z at *
          have hd : z < 0 := of_decide_eq_true (hz.symm.trans hlv)
          have hd2 : decide (z < 0) = true := decide_eq_true hd
          clear hz
          rw [hd2]
          try rw [show (!true) = false from rfl]
          clear hd hd2
          clear hlv
          go_wp2
          go_loopg [12] j (fun kx s12 wd => ∃ (jd : Nat), s12 = .int .i64 jd ∧ jd ≤ kx ∧ jd ≤ j ∧ iu ≤ jd + 1 ∧ Hid (SB w0 wd g cap dk) ∧ Hid (Sort.scanDown (fun x => ltO dk[a]! x) dk iu jd = Sort.scanDown (fun x => ltO dk[a]! x) dk iu j))
          case atStart => exact ⟨j, rfl, Nat.le_refl _, Nat.le_refl _, hbu, Su2, rfl⟩
          case round =>
            clear Su2
            obtain ⟨jd, rfl, hkd, had, hbd, Sdu, hsd⟩ := hrel
            by_cases hled : iu ≤ jd
            · have gd : (iu : Int) ≤ (jd : Int) := by omega
              have nd : (jd : Int) < (d.size : Int) := by omega
              have ld : jd < dk.size := by omega
              cases hlv : ltO dk[a]! dk[jd]! with
              | true =>
                have H2 := Lib.hid ((scanDown_go (fun x => ltO dk[a]! x) dk iu jd hled (by omega) (by first | (simp only [hlv]; done) | (simp only [hlv]; rfl))).symm.trans hsd.out)
                clear hsd
                have p0 := fun dr os => ((Sdu.out.regrown dr os).cells a (by omega)).1
                have p1 := fun dr os => ((Sdu.out.regrown dr os).cells a (by omega)).2.1
                have p2 := fun dr os => ((Sdu.out.regrown dr os).cells a (by omega)).2.2.1
                have p3 := fun dr os => ((Sdu.out.regrown dr os).cells a (by omega)).2.2.2.1
                have p4 := fun dr os => ((Sdu.out.regrown dr os).cells a (by omega)).2.2.2.2.1
                have p5 := fun dr os => ((Sdu.out.regrown dr os).cells a (by omega)).2.2.2.2.2
                have q0 := fun dr os => ((Sdu.out.regrown dr os).cells jd (by omega)).1
                have q1 := fun dr os => ((Sdu.out.regrown dr os).cells jd (by omega)).2.1
                have q2 := fun dr os => ((Sdu.out.regrown dr os).cells jd (by omega)).2.2.1
                have q3 := fun dr os => ((Sdu.out.regrown dr os).cells jd (by omega)).2.2.2.1
                have q4 := fun dr os => ((Sdu.out.regrown dr os).cells jd (by omega)).2.2.2.2.1
                have q5 := fun dr os => ((Sdu.out.regrown dr os).cells jd (by omega)).2.2.2.2.2
                go_wp2_with fail
                refine wp_region_quiet_below mixed (by kernel_rfl) ?_
                repeat (quiet_step ((go_at_call 89; refine Calls.regrown_of (cmpO_calls rv _ _ _))))
                refine wpQuiet_nil ?_
                intro _ hw'
                obtain ⟨⟨dq, osq⟩, hw''⟩ := hw'
                subst hw''
                clear p0 p1 p2 p3 p4 p5 q0 q1 q2 q3 q4 q5
                have Sd2 := Lib.hid (Sdu.out.regrown dq osq)
                generalize Sort.grow (redrawn wr dq) osq = wd2 at Sd2 ⊢
                clear Sdu
                have hz : ltO dk[a]! dk[jd]! = decide (cmpO dk[a]! dk[jd]! < 0) := rfl
                generalize cmpO dk[a]! dk[jd]! = z at *
                have hd : z < 0 := of_decide_eq_true (hz.symm.trans hlv)
                have hd2 : decide (z < 0) = true := decide_eq_true hd
                clear hz
                rw [hd2]
                try rw [show (!true) = false from rfl]
                clear hd hd2
                clear hlv
                have vd : (jd : Int) - 1 = ((jd - 1 : Nat) : Int) := by omega
                go_wp2
                go_roundg (jd - 1)
                case measure => omega
                case rel => exact ⟨jd - 1, by first | rfl | (rw [← vd]) | go_num, Nat.le_refl _, by omega, by omega, Sd2, H2⟩
              | false =>
                have Hd := Lib.hid ((scanDown_end (fun x => ltO dk[a]! x) dk iu jd (Or.inr (by first | (simp only [hlv]; done) | (simp only [hlv]; rfl)))).symm.trans hsd.out)
                clear hsd
                have p0 := fun dr os => ((Sdu.out.regrown dr os).cells a (by omega)).1
                have p1 := fun dr os => ((Sdu.out.regrown dr os).cells a (by omega)).2.1
                have p2 := fun dr os => ((Sdu.out.regrown dr os).cells a (by omega)).2.2.1
                have p3 := fun dr os => ((Sdu.out.regrown dr os).cells a (by omega)).2.2.2.1
                have p4 := fun dr os => ((Sdu.out.regrown dr os).cells a (by omega)).2.2.2.2.1
                have p5 := fun dr os => ((Sdu.out.regrown dr os).cells a (by omega)).2.2.2.2.2
                have q0 := fun dr os => ((Sdu.out.regrown dr os).cells jd (by omega)).1
                have q1 := fun dr os => ((Sdu.out.regrown dr os).cells jd (by omega)).2.1
                have q2 := fun dr os => ((Sdu.out.regrown dr os).cells jd (by omega)).2.2.1
                have q3 := fun dr os => ((Sdu.out.regrown dr os).cells jd (by omega)).2.2.2.1
                have q4 := fun dr os => ((Sdu.out.regrown dr os).cells jd (by omega)).2.2.2.2.1
                have q5 := fun dr os => ((Sdu.out.regrown dr os).cells jd (by omega)).2.2.2.2.2
                go_wp2_with fail
                refine wp_region_quiet_below mixed (by kernel_rfl) ?_
                repeat (quiet_step ((go_at_call 89; refine Calls.regrown_of (cmpO_calls rv _ _ _))))
                refine wpQuiet_nil ?_
                intro _ hw'
                obtain ⟨⟨dq, osq⟩, hw''⟩ := hw'
                subst hw''
                clear p0 p1 p2 p3 p4 p5 q0 q1 q2 q3 q4 q5
                have Sd2 := Lib.hid (Sdu.out.regrown dq osq)
                generalize Sort.grow (redrawn wr dq) osq = wd2 at Sd2 ⊢
                clear Sdu
                have hz : ltO dk[a]! dk[jd]! = decide (cmpO dk[a]! dk[jd]! < 0) := rfl
                generalize cmpO dk[a]! dk[jd]! = z at *
                have hd : ¬ z < 0 := of_decide_eq_false (hz.symm.trans hlv)
                have hd2 : decide (z < 0) = false := decide_eq_false hd
                clear hz
                rw [hd2]
                try rw [show (!false) = true from rfl]
                clear hd hd2
                clear hlv
                go_wp2_with fail
                have hlt3 : iu < jd := scans_lt ltO a i j dk (by omega) Hu.out Hd.out hled
                have Z2 := Lib.hid ((partEq_go ltO a i j dk Hu.out Hd.out (by omega)).symm.trans HE.out)
                have g3 : ¬ (jd : Int) < (iu : Int) := by omega
                have g4 : (iu : Int) ≤ (jd : Int) := by omega
                clear Hu Hd HE
                obtain ⟨p0, p1, p2, p3, p4, p5⟩ := Sd2.out.cells (iu) (by omega)
                obtain ⟨q0, q1, q2, q3, q4, q5⟩ := Sd2.out.cells (jd) (by omega)
                have fi0 := Sd2.out.row.frozen ((iu) * 6)
                have fi1 := Sd2.out.row.frozen ((iu) * 6 + 1)
                have fi2 := Sd2.out.row.frozen ((iu) * 6 + 2)
                have fi3 := Sd2.out.row.frozen ((iu) * 6 + 3)
                have fi4 := Sd2.out.row.frozen ((iu) * 6 + 4)
                have fi5 := Sd2.out.row.frozen ((iu) * 6 + 5)
                have fj0 := Sd2.out.row.frozen ((jd) * 6)
                have fj1 := Sd2.out.row.frozen ((jd) * 6 + 1)
                have fj2 := Sd2.out.row.frozen ((jd) * 6 + 2)
                have fj3 := Sd2.out.row.frozen ((jd) * 6 + 3)
                have fj4 := Sd2.out.row.frozen ((jd) * 6 + 4)
                have fj5 := Sd2.out.row.frozen ((jd) * 6 + 5)
                have Sx := Lib.hid (Sd2.out.swap iu jd (by omega) (by omega))
                generalize dk[iu]! = x at *
                generalize dk[jd]! = y at *
                clear Sd2
                go_wp2_with fail
                go_big_region_o
                first | show Exit.then _ _ _ _ (swapW wd2 g iu jd x y) | show Exit.inBlock _ _ _ _ (swapW wd2 g iu jd x y)
                generalize swapW wd2 g iu jd x y = wx at Sx ⊢
                clear p0 p1 p2 p3 p4 p5 q0 q1 q2 q3 q4 q5 fi0 fi1 fi2 fi3 fi4 fi5 fj0 fj1 fj2 fj3 fj4 fj5
                have vj : (jd : Int) - 1 = ((jd - 1 : Nat) : Int) := by omega
                go_wp2
                go_roundg (jd - 1 + 1 - (iu + 1))
                case measure => omega
                case rel => exact ⟨iu + 1, jd - 1, Sort.swp dk iu jd, by go_num, by first | rfl | (rw [← vj]) | go_num, Nat.le_refl _, by omega, by omega, by omega, by rw [Sort.size_swp]; exact hds, Sx, Z2⟩
            · have gd : ¬ (iu : Int) ≤ (jd : Int) := by omega
              have Hd := Lib.hid ((scanDown_end (fun x => ltO dk[a]! x) dk iu jd (Or.inl hled)).symm.trans hsd.out)
              clear hsd
              go_wp2_with fail
              have Sd2 := Lib.hid (Sdu.out.drew)
              clear Sdu
              go_big_region_o
              generalize wr.drew = wd2 at Sd2 ⊢
              have gx : (iu : Int) > (jd : Int) := by omega
              have gy : (jd : Int) < (iu : Int) := by omega
              have Z := (partEq_break ltO a i j dk Hu.out Hd.out (by omega)).symm.trans HE.out
              have Z2 := Lib.hid Z
              clear Z
              go_wp2
              go_ret
              rw [Sort.partitionEqual, ← Z2.out]
              exact ⟨rfl, Sd2.out⟩
      · have gu : ¬ (iu : Int) ≤ (j : Int) := by omega
        have Hu := Lib.hid ((scanUp_end (fun x => !ltO dk[a]! x) dk j iu (Or.inl hleu)).symm.trans hsu.out)
        clear hsu
        go_wp2_with fail
        have Su2 := Lib.hid (Suu.out.drew)
        clear Suu
        go_big_region_o
        generalize wr.drew = wu2 at Su2 ⊢
        go_wp2
        go_loopg [12] j (fun kx s12 wd => ∃ (jd : Nat), s12 = .int .i64 jd ∧ jd ≤ kx ∧ jd ≤ j ∧ iu ≤ jd + 1 ∧ Hid (SB w0 wd g cap dk) ∧ Hid (Sort.scanDown (fun x => ltO dk[a]! x) dk iu jd = Sort.scanDown (fun x => ltO dk[a]! x) dk iu j))
        case atStart => exact ⟨j, rfl, Nat.le_refl _, Nat.le_refl _, hbu, Su2, rfl⟩
        case round =>
          clear Su2
          obtain ⟨jd, rfl, hkd, had, hbd, Sdu, hsd⟩ := hrel
          by_cases hled : iu ≤ jd
          · exfalso; omega
          · have gd : ¬ (iu : Int) ≤ (jd : Int) := by omega
            have Hd := Lib.hid ((scanDown_end (fun x => ltO dk[a]! x) dk iu jd (Or.inl hled)).symm.trans hsd.out)
            clear hsd
            go_wp2_with fail
            have Sd2 := Lib.hid (Sdu.out.drew)
            clear Sdu
            go_big_region_o
            generalize wr.drew = wd2 at Sd2 ⊢
            have gx : (iu : Int) > (jd : Int) := by omega
            have gy : (jd : Int) < (iu : Int) := by omega
            have Z := (partEq_break ltO a i j dk Hu.out Hd.out (by omega)).symm.trans HE.out
            have Z2 := Lib.hid Z
            clear Z
            go_wp2
            go_ret
            rw [Sort.partitionEqual, ← Z2.out]
            exact ⟨rfl, Sd2.out⟩
end Go.Proofs.Ytgffddbhnggllaa.Ed
namespace Go.Proofs.Ytgffddbhnggllaa.Ed
open Go.RowKit Go.Shelf Go.Proofs.YtgffddbhnggllaaW.PrintWords QF
set_option maxRecDepth 1000000 in
set_option maxHeartbeats 16000000 in
theorem part_calls (rv : Value) (g cap a b pivot : Nat) (d : Array S41) (w0 w : World) (S : SB w0 w g cap d) (hap : a < pivot) (hpb : pivot < b) (hb : b ≤ d.size) (hsz : d.size ≤ 100000) :
    Calls Try.prog 116 #[.slice (some ⟨g, 0, none⟩) d.size cap, .int .i64 a, .int .i64 b, .int .i64 pivot, .func (.func 89) #[rv] #[]] w fun e w' => e = .returned (.tuple #[.int .i64 ((Sort.partition ltO d a b pivot).1 : Nat), .bool (Sort.partition ltO d a b pivot).2.1]) ∧ SB w0 w' g cap (Sort.partition ltO d a b pivot).2.2 := by
  have mixed : Try.prog.follows .mixedOrders = true := by kernel_rfl
  have S0 := Lib.hid S
  clear S
  have na : (a : Int) < (d.size : Int) := by omega
  have np : (pivot : Int) < (d.size : Int) := by omega
  go_enter Try.func116, Try.ntmps116
  go_wp2_with fail
  obtain ⟨p0, p1, p2, p3, p4, p5⟩ := S0.out.cells (a) (by omega)
  obtain ⟨q0, q1, q2, q3, q4, q5⟩ := S0.out.cells (pivot) (by omega)
  have fi0 := S0.out.row.frozen ((a) * 6)
  have fi1 := S0.out.row.frozen ((a) * 6 + 1)
  have fi2 := S0.out.row.frozen ((a) * 6 + 2)
  have fi3 := S0.out.row.frozen ((a) * 6 + 3)
  have fi4 := S0.out.row.frozen ((a) * 6 + 4)
  have fi5 := S0.out.row.frozen ((a) * 6 + 5)
  have fj0 := S0.out.row.frozen ((pivot) * 6)
  have fj1 := S0.out.row.frozen ((pivot) * 6 + 1)
  have fj2 := S0.out.row.frozen ((pivot) * 6 + 2)
  have fj3 := S0.out.row.frozen ((pivot) * 6 + 3)
  have fj4 := S0.out.row.frozen ((pivot) * 6 + 4)
  have fj5 := S0.out.row.frozen ((pivot) * 6 + 5)
  have S1 := Lib.hid (S0.out.swap a pivot (by omega) (by omega))
  generalize d[a]! = x at *
  generalize d[pivot]! = y at *
  clear S0
  go_wp2_with fail
  go_big_region_o
  first | show Exit.then _ _ _ _ (swapW w g a pivot x y) | show Exit.inBlock _ _ _ _ (swapW w g a pivot x y)
  generalize swapW w g a pivot x y = w1 at S1 ⊢
  clear p0 p1 p2 p3 p4 p5 q0 q1 q2 q3 q4 q5 fi0 fi1 fi2 fi3 fi4 fi5 fj0 fj1 fj2 fj3 fj4 fj5
  obtain ⟨i, hi⟩ : ∃ i : Nat, i = a + 1 := ⟨_, rfl⟩
  obtain ⟨j, hj⟩ : ∃ j : Nat, j = b - 1 := ⟨_, rfl⟩
  obtain ⟨dk, hdk⟩ : ∃ dk : Array S41, dk = Sort.swp d a pivot := ⟨_, rfl⟩
  rw [← hdk] at S1
  have hds : dk.size = d.size := by rw [hdk]; exact Sort.size_swp _ _ _
  have hai : a < i := by omega
  have hij : i ≤ j + 1 := by omega
  have hjb : j < b := by omega
  have Hi := Lib.hid hi
  have Hj := Lib.hid hj
  have Hdk := Lib.hid hdk
  have ezi : ((a : Int) + 1) = (i : Int) := by omega
  have ezj : ((b : Int) - 1) = (j : Int) := by omega
  have la : a < dk.size := by omega
  clear hi hj hdk
  go_wp2
  clear ezi ezj
  go_loopg [12] (j + 1 - i) (fun kx s11 wu => ∃ (iu : Nat), s11 = .int .i64 iu ∧ j + 1 - iu ≤ kx ∧ i ≤ iu ∧ iu ≤ j + 1 ∧ Hid (SB w0 wu g cap dk) ∧ Hid (Sort.scanUp (fun x => ltO x dk[a]!) dk j iu = Sort.scanUp (fun x => ltO x dk[a]!) dk j i))
  case atStart => exact ⟨i, rfl, Nat.le_refl _, Nat.le_refl _, hij, S1, rfl⟩
  case round =>
    clear S1
    obtain ⟨iu, rfl, hku, hau, hbu, Suu, hsu⟩ := hrel
    by_cases hleu : iu ≤ j
    · have gu : (iu : Int) ≤ (j : Int) := by omega
      have nu : (iu : Int) < (d.size : Int) := by omega
      have lu : iu < dk.size := by omega
      cases hlv : ltO dk[iu]! dk[a]! with
      | true =>
        have H2 := Lib.hid ((scanUp_go (fun x => ltO x dk[a]!) dk j iu hleu (by first | (simp only [hlv]; done) | (simp only [hlv]; rfl))).symm.trans hsu.out)
        clear hsu
        have p0 := fun dr os => ((Suu.out.regrown dr os).cells iu (by omega)).1
        have p1 := fun dr os => ((Suu.out.regrown dr os).cells iu (by omega)).2.1
        have p2 := fun dr os => ((Suu.out.regrown dr os).cells iu (by omega)).2.2.1
        have p3 := fun dr os => ((Suu.out.regrown dr os).cells iu (by omega)).2.2.2.1
        have p4 := fun dr os => ((Suu.out.regrown dr os).cells iu (by omega)).2.2.2.2.1
        have p5 := fun dr os => ((Suu.out.regrown dr os).cells iu (by omega)).2.2.2.2.2
        have q0 := fun dr os => ((Suu.out.regrown dr os).cells a (by omega)).1
        have q1 := fun dr os => ((Suu.out.regrown dr os).cells a (by omega)).2.1
        have q2 := fun dr os => ((Suu.out.regrown dr os).cells a (by omega)).2.2.1
        have q3 := fun dr os => ((Suu.out.regrown dr os).cells a (by omega)).2.2.2.1
        have q4 := fun dr os => ((Suu.out.regrown dr os).cells a (by omega)).2.2.2.2.1
        have q5 := fun dr os => ((Suu.out.regrown dr os).cells a (by omega)).2.2.2.2.2
        go_wp2_with fail
        refine wp_region_quiet_below mixed (by kernel_rfl) ?_
        repeat (quiet_step ((go_at_call 89; refine Calls.regrown_of (cmpO_calls rv _ _ _))))
        refine wpQuiet_nil ?_
        intro _ hw'
        obtain ⟨⟨dq, osq⟩, hw''⟩ := hw'
        subst hw''
        clear p0 p1 p2 p3 p4 p5 q0 q1 q2 q3 q4 q5
        have Su2 := Lib.hid (Suu.out.regrown dq osq)
        generalize Sort.grow (redrawn wr dq) osq = wu2 at Su2 ⊢
        clear Suu
        have hz : ltO dk[iu]! dk[a]! = decide (cmpO dk[iu]! dk[a]! < 0) := rfl
        generalize cmpO dk[iu]! dk[a]! = z at *
        have hd : z < 0 := of_decide_eq_true (hz.symm.trans hlv)
        have hd2 : decide (z < 0) = true := decide_eq_true hd
        clear hz
        rw [hd2]
        try rw [show (!true) = false from rfl]
        clear hd hd2
        clear hlv
        go_wp2
        go_roundg (j + 1 - (iu + 1))
        case measure => omega
        case rel => exact ⟨iu + 1, by go_num, Nat.le_refl _, by omega, by omega, Su2, H2⟩
      | false =>
        have Hu := Lib.hid ((scanUp_end (fun x => ltO x dk[a]!) dk j iu (Or.inr (by first | (simp only [hlv]; done) | (simp only [hlv]; rfl)))).symm.trans hsu.out)
        clear hsu
        have p0 := fun dr os => ((Suu.out.regrown dr os).cells iu (by omega)).1
        have p1 := fun dr os => ((Suu.out.regrown dr os).cells iu (by omega)).2.1
        have p2 := fun dr os => ((Suu.out.regrown dr os).cells iu (by omega)).2.2.1
        have p3 := fun dr os => ((Suu.out.regrown dr os).cells iu (by omega)).2.2.2.1
        have p4 := fun dr os => ((Suu.out.regrown dr os).cells iu (by omega)).2.2.2.2.1
        have p5 := fun dr os => ((Suu.out.regrown dr os).cells iu (by omega)).2.2.2.2.2
        have q0 := fun dr os => ((Suu.out.regrown dr os).cells a (by omega)).1
        have q1 := fun dr os => ((Suu.out.regrown dr os).cells a (by omega)).2.1
        have q2 := fun dr os => ((Suu.out.regrown dr os).cells a (by omega)).2.2.1
        have q3 := fun dr os => ((Suu.out.regrown dr os).cells a (by omega)).2.2.2.1
        have q4 := fun dr os => ((Suu.out.regrown dr os).cells a (by omega)).2.2.2.2.1
        have q5 := fun dr os => ((Suu.out.regrown dr os).cells a (by omega)).2.2.2.2.2
        go_wp2_with fail
        refine wp_region_quiet_below mixed (by kernel_rfl) ?_
        repeat (quiet_step ((go_at_call 89; refine Calls.regrown_of (cmpO_calls rv _ _ _))))
        refine wpQuiet_nil ?_
        intro _ hw'
        obtain ⟨⟨dq, osq⟩, hw''⟩ := hw'
        subst hw''
        clear p0 p1 p2 p3 p4 p5 q0 q1 q2 q3 q4 q5
        have Su2 := Lib.hid (Suu.out.regrown dq osq)
        generalize Sort.grow (redrawn wr dq) osq = wu2 at Su2 ⊢
        clear Suu
        have hz : ltO dk[iu]! dk[a]! = decide (cmpO dk[iu]! dk[a]! < 0) := rfl
        generalize cmpO dk[iu]! dk[a]! = z at *
        have hd : ¬ z < 0 := of_decide_eq_false (hz.symm.trans hlv)
        have hd2 : decide (z < 0) = false := decide_eq_false hd
        clear hz
        rw [hd2]
        try rw [show (!false) = true from rfl]
        clear hd hd2
        clear hlv
        go_wp2
        go_loopg [13] j (fun kx s12 wd => ∃ (jd : Nat), s12 = .int .i64 jd ∧ jd ≤ kx ∧ jd ≤ j ∧ iu ≤ jd + 1 ∧ Hid (SB w0 wd g cap dk) ∧ Hid (Sort.scanDown (fun x => !ltO x dk[a]!) dk iu jd = Sort.scanDown (fun x => !ltO x dk[a]!) dk iu j))
        case atStart => exact ⟨j, rfl, Nat.le_refl _, Nat.le_refl _, hbu, Su2, rfl⟩
        case round =>
          clear Su2
          obtain ⟨jd, rfl, hkd, had, hbd, Sdu, hsd⟩ := hrel
          by_cases hled : iu ≤ jd
          · have gd : (iu : Int) ≤ (jd : Int) := by omega
            have nd : (jd : Int) < (d.size : Int) := by omega
            have ld : jd < dk.size := by omega
            cases hlv : ltO dk[jd]! dk[a]! with
            | false =>
              have H2 := Lib.hid ((scanDown_go (fun x => !ltO x dk[a]!) dk iu jd hled (by omega) (by first | (simp only [hlv]; done) | (simp only [hlv]; rfl))).symm.trans hsd.out)
              clear hsd
              have p0 := fun dr os => ((Sdu.out.regrown dr os).cells jd (by omega)).1
              have p1 := fun dr os => ((Sdu.out.regrown dr os).cells jd (by omega)).2.1
              have p2 := fun dr os => ((Sdu.out.regrown dr os).cells jd (by omega)).2.2.1
              have p3 := fun dr os => ((Sdu.out.regrown dr os).cells jd (by omega)).2.2.2.1
              have p4 := fun dr os => ((Sdu.out.regrown dr os).cells jd (by omega)).2.2.2.2.1
              have p5 := fun dr os => ((Sdu.out.regrown dr os).cells jd (by omega)).2.2.2.2.2
              have q0 := fun dr os => ((Sdu.out.regrown dr os).cells a (by omega)).1
              have q1 := fun dr os => ((Sdu.out.regrown dr os).cells a (by omega)).2.1
              have q2 := fun dr os => ((Sdu.out.regrown dr os).cells a (by omega)).2.2.1
              have q3 := fun dr os => ((Sdu.out.regrown dr os).cells a (by omega)).2.2.2.1
              have q4 := fun dr os => ((Sdu.out.regrown dr os).cells a (by omega)).2.2.2.2.1
              have q5 := fun dr os => ((Sdu.out.regrown dr os).cells a (by omega)).2.2.2.2.2
              go_wp2_with fail
              refine wp_region_quiet_below mixed (by kernel_rfl) ?_
              repeat (quiet_step ((go_at_call 89; refine Calls.regrown_of (cmpO_calls rv _ _ _))))
              refine wpQuiet_nil ?_
              intro _ hw'
              obtain ⟨⟨dq, osq⟩, hw''⟩ := hw'
              subst hw''
              clear p0 p1 p2 p3 p4 p5 q0 q1 q2 q3 q4 q5
              have Sd2 := Lib.hid (Sdu.out.regrown dq osq)
              generalize Sort.grow (redrawn wr dq) osq = wd2 at Sd2 ⊢
              clear Sdu
              have hz : ltO dk[jd]! dk[a]! = decide (cmpO dk[jd]! dk[a]! < 0) := rfl
              generalize cmpO dk[jd]! dk[a]! = z at *
              have hd : ¬ z < 0 := of_decide_eq_false (hz.symm.trans hlv)
              have hd2 : decide (z < 0) = false := decide_eq_false hd
              clear hz
              rw [hd2]
              try rw [show (!false) = true from rfl]
              clear hd hd2
              clear hlv
              have vd : (jd : Int) - 1 = ((jd - 1 : Nat) : Int) := by omega
              go_wp2
              go_roundg (jd - 1)
              case measure => omega
              case rel => exact ⟨jd - 1, by first | rfl | (rw [← vd]) | go_num, Nat.le_refl _, by omega, by omega, Sd2, H2⟩
            | true =>
              have Hd := Lib.hid ((scanDown_end (fun x => !ltO x dk[a]!) dk iu jd (Or.inr (by first | (simp only [hlv]; done) | (simp only [hlv]; rfl)))).symm.trans hsd.out)
              clear hsd
              have p0 := fun dr os => ((Sdu.out.regrown dr os).cells jd (by omega)).1
              have p1 := fun dr os => ((Sdu.out.regrown dr os).cells jd (by omega)).2.1
              have p2 := fun dr os => ((Sdu.out.regrown dr os).cells jd (by omega)).2.2.1
              have p3 := fun dr os => ((Sdu.out.regrown dr os).cells jd (by omega)).2.2.2.1
              have p4 := fun dr os => ((Sdu.out.regrown dr os).cells jd (by omega)).2.2.2.2.1
              have p5 := fun dr os => ((Sdu.out.regrown dr os).cells jd (by omega)).2.2.2.2.2
              have q0 := fun dr os => ((Sdu.out.regrown dr os).cells a (by omega)).1
              have q1 := fun dr os => ((Sdu.out.regrown dr os).cells a (by omega)).2.1
              have q2 := fun dr os => ((Sdu.out.regrown dr os).cells a (by omega)).2.2.1
              have q3 := fun dr os => ((Sdu.out.regrown dr os).cells a (by omega)).2.2.2.1
              have q4 := fun dr os => ((Sdu.out.regrown dr os).cells a (by omega)).2.2.2.2.1
              have q5 := fun dr os => ((Sdu.out.regrown dr os).cells a (by omega)).2.2.2.2.2
              go_wp2_with fail
              refine wp_region_quiet_below mixed (by kernel_rfl) ?_
              repeat (quiet_step ((go_at_call 89; refine Calls.regrown_of (cmpO_calls rv _ _ _))))
              refine wpQuiet_nil ?_
              intro _ hw'
              obtain ⟨⟨dq, osq⟩, hw''⟩ := hw'
              subst hw''
              clear p0 p1 p2 p3 p4 p5 q0 q1 q2 q3 q4 q5
              have Sd2 := Lib.hid (Sdu.out.regrown dq osq)
              generalize Sort.grow (redrawn wr dq) osq = wd2 at Sd2 ⊢
              clear Sdu
              have hz : ltO dk[jd]! dk[a]! = decide (cmpO dk[jd]! dk[a]! < 0) := rfl
              generalize cmpO dk[jd]! dk[a]! = z at *
              have hd : z < 0 := of_decide_eq_true (hz.symm.trans hlv)
              have hd2 : decide (z < 0) = true := decide_eq_true hd
              clear hz
              rw [hd2]
              try rw [show (!true) = false from rfl]
              clear hd hd2
              clear hlv
              go_wp2_with fail
              have hlt3 : iu < jd := part_scans_lt ltO a i j dk (by omega) Hu.out Hd.out hled
              have Zp := Lib.hid (part_first_go ltO d a b pivot Hi.out Hj.out Hdk.out Hu.out Hd.out (by omega))
              have g3 : ¬ (jd : Int) < (iu : Int) := by omega
              clear Hu Hd Hi Hj Hdk
              go_wp2_with fail
              obtain ⟨p0, p1, p2, p3, p4, p5⟩ := Sd2.out.cells (iu) (by omega)
              obtain ⟨q0, q1, q2, q3, q4, q5⟩ := Sd2.out.cells (jd) (by omega)
              have fi0 := Sd2.out.row.frozen ((iu) * 6)
              have fi1 := Sd2.out.row.frozen ((iu) * 6 + 1)
              have fi2 := Sd2.out.row.frozen ((iu) * 6 + 2)
              have fi3 := Sd2.out.row.frozen ((iu) * 6 + 3)
              have fi4 := Sd2.out.row.frozen ((iu) * 6 + 4)
              have fi5 := Sd2.out.row.frozen ((iu) * 6 + 5)
              have fj0 := Sd2.out.row.frozen ((jd) * 6)
              have fj1 := Sd2.out.row.frozen ((jd) * 6 + 1)
              have fj2 := Sd2.out.row.frozen ((jd) * 6 + 2)
              have fj3 := Sd2.out.row.frozen ((jd) * 6 + 3)
              have fj4 := Sd2.out.row.frozen ((jd) * 6 + 4)
              have fj5 := Sd2.out.row.frozen ((jd) * 6 + 5)
              have Sx := Lib.hid (Sd2.out.swap iu jd (by omega) (by omega))
              generalize dk[iu]! = x at *
              generalize dk[jd]! = y at *
              clear Sd2
              go_wp2_with fail
              go_big_region_o
              first | show Exit.then _ _ _ _ (swapW wd2 g iu jd x y) | show Exit.inBlock _ _ _ _ (swapW wd2 g iu jd x y)
              generalize swapW wd2 g iu jd x y = wx at Sx ⊢
              clear p0 p1 p2 p3 p4 p5 q0 q1 q2 q3 q4 q5 fi0 fi1 fi2 fi3 fi4 fi5 fj0 fj1 fj2 fj3 fj4 fj5
              clear la
              generalize dk[a]! = pa at *
              obtain ⟨i2, hi2⟩ : ∃ n, iu + 1 = n := ⟨_, rfl⟩
              obtain ⟨j2, hj2⟩ : ∃ n, jd - 1 = n := ⟨_, rfl⟩
              obtain ⟨d2, hd2⟩ : ∃ n, Sort.swp dk iu jd = n := ⟨_, rfl⟩
              have zi : (iu : Int) + 1 = (i2 : Int) := by omega
              have zj : (jd : Int) - 1 = (j2 : Int) := by omega
              have hs2 : d2.size = d.size := by rw [← hd2, Sort.size_swp]; exact hds
              rw [hd2] at Sx
              have Zp2 := Zp.out
              rw [hi2, hj2, hd2] at Zp2
              have Zp3 := Lib.hid Zp2
              clear Zp Zp2
              have hij2 : i2 ≤ j2 + 1 := by omega
              have hai2 : a < i2 := by omega
              have hjb2 : j2 < b := by omega
              clear hi2 hj2 hd2 hds
              go_wp2
              clear zi zj
              go_loopg [12, 13] (j2 + 1 - i2) (fun kx s11 s12 wr => ∃ (i j : Nat) (dk : Array S41), s11 = .int .i64 i ∧ s12 = .int .i64 j ∧ j + 1 - i ≤ kx ∧ a < i ∧ i ≤ j + 1 ∧ j < b ∧ dk.size = d.size ∧ Hid (SB w0 wr g cap dk) ∧ Hid (Sort.partLoop ltO a i j dk = Sort.partLoop ltO a i2 j2 d2))
              case atStart => exact ⟨i2, j2, _, rfl, rfl, Nat.le_refl _, hai2, hij2, hjb2, hs2, Sx, rfl⟩
              case round =>
                clear Sx hij2 hjb2 hai2 hs2
                obtain ⟨i, j, dk, rfl, rfl, hk, hai, hij, hjb, hds, S1, HE⟩ := hrel
                have la : a < dk.size := by omega
                go_wp2
                go_loopg [12] (j + 1 - i) (fun kx s11 wu => ∃ (iu : Nat), s11 = .int .i64 iu ∧ j + 1 - iu ≤ kx ∧ i ≤ iu ∧ iu ≤ j + 1 ∧ Hid (SB w0 wu g cap dk) ∧ Hid (Sort.scanUp (fun x => ltO x dk[a]!) dk j iu = Sort.scanUp (fun x => ltO x dk[a]!) dk j i))
                case atStart => exact ⟨i, rfl, Nat.le_refl _, Nat.le_refl _, hij, S1, rfl⟩
                case round =>
                  clear S1
                  obtain ⟨iu, rfl, hku, hau, hbu, Suu, hsu⟩ := hrel
                  by_cases hleu : iu ≤ j
                  · have gu : (iu : Int) ≤ (j : Int) := by omega
                    have nu : (iu : Int) < (d.size : Int) := by omega
                    have lu : iu < dk.size := by omega
                    cases hlv : ltO dk[iu]! dk[a]! with
                    | true =>
                      have H2 := Lib.hid ((scanUp_go (fun x => ltO x dk[a]!) dk j iu hleu (by first | (simp only [hlv]; done) | (simp only [hlv]; rfl))).symm.trans hsu.out)
                      clear hsu
                      have p0 := fun dr os => ((Suu.out.regrown dr os).cells iu (by omega)).1
                      have p1 := fun dr os => ((Suu.out.regrown dr os).cells iu (by omega)).2.1
                      have p2 := fun dr os => ((Suu.out.regrown dr os).cells iu (by omega)).2.2.1
                      have p3 := fun dr os => ((Suu.out.regrown dr os).cells iu (by omega)).2.2.2.1
                      have p4 := fun dr os => ((Suu.out.regrown dr os).cells iu (by omega)).2.2.2.2.1
                      have p5 := fun dr os => ((Suu.out.regrown dr os).cells iu (by omega)).2.2.2.2.2
                      have q0 := fun dr os => ((Suu.out.regrown dr os).cells a (by omega)).1
                      have q1 := fun dr os => ((Suu.out.regrown dr os).cells a (by omega)).2.1
                      have q2 := fun dr os => ((Suu.out.regrown dr os).cells a (by omega)).2.2.1
                      have q3 := fun dr os => ((Suu.out.regrown dr os).cells a (by omega)).2.2.2.1
                      have q4 := fun dr os => ((Suu.out.regrown dr os).cells a (by omega)).2.2.2.2.1
                      have q5 := fun dr os => ((Suu.out.regrown dr os).cells a (by omega)).2.2.2.2.2
                      go_wp2_with fail
                      refine wp_region_quiet_below mixed (by kernel_rfl) ?_
                      repeat (quiet_step ((go_at_call 89; refine Calls.regrown_of (cmpO_calls rv _ _ _))))
                      refine wpQuiet_nil ?_
                      intro _ hw'
                      obtain ⟨⟨dq, osq⟩, hw''⟩ := hw'
                      subst hw''
                      clear p0 p1 p2 p3 p4 p5 q0 q1 q2 q3 q4 q5
                      have Su2 := Lib.hid (Suu.out.regrown dq osq)
                      generalize Sort.grow (redrawn wr dq) osq = wu2 at Su2 ⊢
                      clear Suu
                      have hz : ltO dk[iu]! dk[a]! = decide (cmpO dk[iu]! dk[a]! < 0) := rfl
                      generalize cmpO dk[iu]! dk[a]! = z at *
                      have hd : z < 0 := of_decide_eq_true (hz.symm.trans hlv)
                      have hd2 : decide (z < 0) = true := decide_eq_true hd
                      clear hz
                      rw [hd2]
                      try rw [show (!true) = false from rfl]
                      clear hd hd2
                      clear hlv
                      go_wp2
                      go_roundg (j + 1 - (iu + 1))
                      case measure => omega
                      case rel => exact ⟨iu + 1, by go_num, Nat.le_refl _, by omega, by omega, Su2, H2⟩
                    | false =>
                      have Hu := Lib.hid ((scanUp_end (fun x => ltO x dk[a]!) dk j iu (Or.inr (by first | (simp only [hlv]; done) | (simp only [hlv]; rfl)))).symm.trans hsu.out)
                      clear hsu
                      have p0 := fun dr os => ((Suu.out.regrown dr os).cells iu (by omega)).1
                      have p1 := fun dr os => ((Suu.out.regrown dr os).cells iu (by omega)).2.1
                      have p2 := fun dr os => ((Suu.out.regrown dr os).cells iu (by omega)).2.2.1
                      have p3 := fun dr os => ((Suu.out.regrown dr os).cells iu (by omega)).2.2.2.1
                      have p4 := fun dr os => ((Suu.out.regrown dr os).cells iu (by omega)).2.2.2.2.1
                      have p5 := fun dr os => ((Suu.out.regrown dr os).cells iu (by omega)).2.2.2.2.2
                      have q0 := fun dr os => ((Suu.out.regrown dr os).cells a (by omega)).1
                      have q1 := fun dr os => ((Suu.out.regrown dr os).cells a (by omega)).2.1
                      have q2 := fun dr os => ((Suu.out.regrown dr os).cells a (by omega)).2.2.1
                      have q3 := fun dr os => ((Suu.out.regrown dr os).cells a (by omega)).2.2.2.1
                      have q4 := fun dr os => ((Suu.out.regrown dr os).cells a (by omega)).2.2.2.2.1
                      have q5 := fun dr os => ((Suu.out.regrown dr os).cells a (by omega)).2.2.2.2.2
                      go_wp2_with fail
                      refine wp_region_quiet_below mixed (by kernel_rfl) ?_
                      repeat (quiet_step ((go_at_call 89; refine Calls.regrown_of (cmpO_calls rv _ _ _))))
                      refine wpQuiet_nil ?_
                      intro _ hw'
                      obtain ⟨⟨dq, osq⟩, hw''⟩ := hw'
                      subst hw''
                      clear p0 p1 p2 p3 p4 p5 q0 q1 q2 q3 q4 q5
                      have Su2 := Lib.hid (Suu.out.regrown dq osq)
                      generalize Sort.grow (redrawn wr dq) osq = wu2 at Su2 ⊢
                      clear Suu
                      have hz : ltO dk[iu]! dk[a]! = decide (cmpO dk[iu]! dk[a]! < 0) := rfl
                      generalize cmpO dk[iu]! dk[a]! = z at *
                      have hd : ¬ z < 0 := of_decide_eq_false (hz.symm.trans hlv)
                      have hd2 : decide (z < 0) = false := decide_eq_false hd
                      clear hz
                      rw [hd2]
                      try rw [show (!false) = true from rfl]
                      clear hd hd2
                      clear hlv
                      go_wp2
                      go_loopg [13] j (fun kx s12 wd => ∃ (jd : Nat), s12 = .int .i64 jd ∧ jd ≤ kx ∧ jd ≤ j ∧ iu ≤ jd + 1 ∧ Hid (SB w0 wd g cap dk) ∧ Hid (Sort.scanDown (fun x => !ltO x dk[a]!) dk iu jd = Sort.scanDown (fun x => !ltO x dk[a]!) dk iu j))
                      case atStart => exact ⟨j, rfl, Nat.le_refl _, Nat.le_refl _, hbu, Su2, rfl⟩
                      case round =>
                        clear Su2
                        obtain ⟨jd, rfl, hkd, had, hbd, Sdu, hsd⟩ := hrel
                        by_cases hled : iu ≤ jd
                        · have gd : (iu : Int) ≤ (jd : Int) := by omega
                          have nd : (jd : Int) < (d.size : Int) := by omega
                          have ld : jd < dk.size := by omega
                          cases hlv : ltO dk[jd]! dk[a]! with
                          | false =>
                            have H2 := Lib.hid ((scanDown_go (fun x => !ltO x dk[a]!) dk iu jd hled (by omega) (by first | (simp only [hlv]; done) | (simp only [hlv]; rfl))).symm.trans hsd.out)
                            clear hsd
                            have p0 := fun dr os => ((Sdu.out.regrown dr os).cells jd (by omega)).1
                            have p1 := fun dr os => ((Sdu.out.regrown dr os).cells jd (by omega)).2.1
                            have p2 := fun dr os => ((Sdu.out.regrown dr os).cells jd (by omega)).2.2.1
                            have p3 := fun dr os => ((Sdu.out.regrown dr os).cells jd (by omega)).2.2.2.1
                            have p4 := fun dr os => ((Sdu.out.regrown dr os).cells jd (by omega)).2.2.2.2.1
                            have p5 := fun dr os => ((Sdu.out.regrown dr os).cells jd (by omega)).2.2.2.2.2
                            have q0 := fun dr os => ((Sdu.out.regrown dr os).cells a (by omega)).1
                            have q1 := fun dr os => ((Sdu.out.regrown dr os).cells a (by omega)).2.1
                            have q2 := fun dr os => ((Sdu.out.regrown dr os).cells a (by omega)).2.2.1
                            have q3 := fun dr os => ((Sdu.out.regrown dr os).cells a (by omega)).2.2.2.1
                            have q4 := fun dr os => ((Sdu.out.regrown dr os).cells a (by omega)).2.2.2.2.1
                            have q5 := fun dr os => ((Sdu.out.regrown dr os).cells a (by omega)).2.2.2.2.2
                            go_wp2_with fail
                            refine wp_region_quiet_below mixed (by kernel_rfl) ?_
                            repeat (quiet_step ((go_at_call 89; refine Calls.regrown_of (cmpO_calls rv _ _ _))))
                            refine wpQuiet_nil ?_
                            intro _ hw'
                            obtain ⟨⟨dq, osq⟩, hw''⟩ := hw'
                            subst hw''
                            clear p0 p1 p2 p3 p4 p5 q0 q1 q2 q3 q4 q5
                            have Sd2 := Lib.hid (Sdu.out.regrown dq osq)
                            generalize Sort.grow (redrawn wr dq) osq = wd2 at Sd2 ⊢
                            clear Sdu
                            have hz : ltO dk[jd]! dk[a]! = decide (cmpO dk[jd]! dk[a]! < 0) := rfl
                            generalize cmpO dk[jd]! dk[a]! = z at *
                            have hd : ¬ z < 0 := of_decide_eq_false (hz.symm.trans hlv)
                            have hd2 : decide (z < 0) = false := decide_eq_false hd
                            clear hz
                            rw [hd2]
                            try rw [show (!false) = true from rfl]
                            clear hd hd2
                            clear hlv
                            have vd : (jd : Int) - 1 = ((jd - 1 : Nat) : Int) := by omega
                            go_wp2
                            go_roundg (jd - 1)
                            case measure => omega
                            case rel => exact ⟨jd - 1, by first | rfl | (rw [← vd]) | go_num, Nat.le_refl _, by omega, by omega, Sd2, H2⟩
                          | true =>
                            have Hd := Lib.hid ((scanDown_end (fun x => !ltO x dk[a]!) dk iu jd (Or.inr (by first | (simp only [hlv]; done) | (simp only [hlv]; rfl)))).symm.trans hsd.out)
                            clear hsd
                            have p0 := fun dr os => ((Sdu.out.regrown dr os).cells jd (by omega)).1
                            have p1 := fun dr os => ((Sdu.out.regrown dr os).cells jd (by omega)).2.1
                            have p2 := fun dr os => ((Sdu.out.regrown dr os).cells jd (by omega)).2.2.1
                            have p3 := fun dr os => ((Sdu.out.regrown dr os).cells jd (by omega)).2.2.2.1
                            have p4 := fun dr os => ((Sdu.out.regrown dr os).cells jd (by omega)).2.2.2.2.1
                            have p5 := fun dr os => ((Sdu.out.regrown dr os).cells jd (by omega)).2.2.2.2.2
                            have q0 := fun dr os => ((Sdu.out.regrown dr os).cells a (by omega)).1
                            have q1 := fun dr os => ((Sdu.out.regrown dr os).cells a (by omega)).2.1
                            have q2 := fun dr os => ((Sdu.out.regrown dr os).cells a (by omega)).2.2.1
                            have q3 := fun dr os => ((Sdu.out.regrown dr os).cells a (by omega)).2.2.2.1
                            have q4 := fun dr os => ((Sdu.out.regrown dr os).cells a (by omega)).2.2.2.2.1
                            have q5 := fun dr os => ((Sdu.out.regrown dr os).cells a (by omega)).2.2.2.2.2
                            go_wp2_with fail
                            refine wp_region_quiet_below mixed (by kernel_rfl) ?_
                            repeat (quiet_step ((go_at_call 89; refine Calls.regrown_of (cmpO_calls rv _ _ _))))
                            refine wpQuiet_nil ?_
                            intro _ hw'
                            obtain ⟨⟨dq, osq⟩, hw''⟩ := hw'
                            subst hw''
                            clear p0 p1 p2 p3 p4 p5 q0 q1 q2 q3 q4 q5
                            have Sd2 := Lib.hid (Sdu.out.regrown dq osq)
                            generalize Sort.grow (redrawn wr dq) osq = wd2 at Sd2 ⊢
                            clear Sdu
                            have hz : ltO dk[jd]! dk[a]! = decide (cmpO dk[jd]! dk[a]! < 0) := rfl
                            generalize cmpO dk[jd]! dk[a]! = z at *
                            have hd : z < 0 := of_decide_eq_true (hz.symm.trans hlv)
                            have hd2 : decide (z < 0) = true := decide_eq_true hd
                            clear hz
                            rw [hd2]
                            try rw [show (!true) = false from rfl]
                            clear hd hd2
                            clear hlv
                            go_wp2_with fail
                            have hlt3 : iu < jd := part_scans_lt ltO a i j dk (by omega) Hu.out Hd.out hled
                            have Z2 := Lib.hid ((part_go ltO a i j dk Hu.out Hd.out (by omega)).symm.trans HE.out)
                            have g3 : ¬ (jd : Int) < (iu : Int) := by omega
                            clear Hu Hd HE
                            go_wp2_with fail
                            obtain ⟨p0, p1, p2, p3, p4, p5⟩ := Sd2.out.cells (iu) (by omega)
                            obtain ⟨q0, q1, q2, q3, q4, q5⟩ := Sd2.out.cells (jd) (by omega)
                            have fi0 := Sd2.out.row.frozen ((iu) * 6)
                            have fi1 := Sd2.out.row.frozen ((iu) * 6 + 1)
                            have fi2 := Sd2.out.row.frozen ((iu) * 6 + 2)
                            have fi3 := Sd2.out.row.frozen ((iu) * 6 + 3)
                            have fi4 := Sd2.out.row.frozen ((iu) * 6 + 4)
                            have fi5 := Sd2.out.row.frozen ((iu) * 6 + 5)
                            have fj0 := Sd2.out.row.frozen ((jd) * 6)
                            have fj1 := Sd2.out.row.frozen ((jd) * 6 + 1)
                            have fj2 := Sd2.out.row.frozen ((jd) * 6 + 2)
                            have fj3 := Sd2.out.row.frozen ((jd) * 6 + 3)
                            have fj4 := Sd2.out.row.frozen ((jd) * 6 + 4)
                            have fj5 := Sd2.out.row.frozen ((jd) * 6 + 5)
                            have Sx := Lib.hid (Sd2.out.swap iu jd (by omega) (by omega))
                            generalize dk[iu]! = x at *
                            generalize dk[jd]! = y at *
                            clear Sd2
                            go_wp2_with fail
                            go_big_region_o
                            first | show Exit.then _ _ _ _ (swapW wd2 g iu jd x y) | show Exit.inBlock _ _ _ _ (swapW wd2 g iu jd x y)
                            generalize swapW wd2 g iu jd x y = wx at Sx ⊢
                            clear p0 p1 p2 p3 p4 p5 q0 q1 q2 q3 q4 q5 fi0 fi1 fi2 fi3 fi4 fi5 fj0 fj1 fj2 fj3 fj4 fj5
                            have vj : (jd : Int) - 1 = ((jd - 1 : Nat) : Int) := by omega
                            go_wp2
                            go_roundg (jd - 1 + 1 - (iu + 1))
                            case measure => omega
                            case rel => exact ⟨iu + 1, jd - 1, Sort.swp dk iu jd, by go_num, by first | rfl | (rw [← vj]) | go_num, Nat.le_refl _, by omega, by omega, by omega, by rw [Sort.size_swp]; exact hds, Sx, Z2⟩
                        · have gd : ¬ (iu : Int) ≤ (jd : Int) := by omega
                          have Hd := Lib.hid ((scanDown_end (fun x => !ltO x dk[a]!) dk iu jd (Or.inl hled)).symm.trans hsd.out)
                          clear hsd
                          go_wp2_with fail
                          have Sd2 := Lib.hid (Sdu.out.drew)
                          clear Sdu
                          go_big_region_o
                          generalize wr.drew = wd2 at Sd2 ⊢
                          have Z2 := Lib.hid (HE.out.symm.trans (part_break ltO a i j dk Hu.out Hd.out (by omega)))
                          have gx : (jd : Int) < (iu : Int) := by omega
                          clear Hu Hd HE
                          go_wp2_with fail
                          rcases Nat.eq_or_lt_of_le (show a ≤ jd by omega) with hje | hjl
                          · subst hje
                            obtain ⟨p0, p1, p2, p3, p4, p5⟩ := Sd2.out.cells (a) (by omega)
                            have fi0 := Sd2.out.row.frozen ((a) * 6)
                            have fi1 := Sd2.out.row.frozen ((a) * 6 + 1)
                            have fi2 := Sd2.out.row.frozen ((a) * 6 + 2)
                            have fi3 := Sd2.out.row.frozen ((a) * 6 + 3)
                            have fi4 := Sd2.out.row.frozen ((a) * 6 + 4)
                            have fi5 := Sd2.out.row.frozen ((a) * 6 + 5)
                            have Sz := Lib.hid (Sd2.out.swap a a (by omega) (by omega))
                            generalize dk[a]! = x at *
                            clear Sd2
                            go_wp2_with fail
                            go_big_region_o
                            first | show Exit.then _ _ _ _ (swapW wd2 g a a x x) | show Exit.inBlock _ _ _ _ (swapW wd2 g a a x x)
                            generalize swapW wd2 g a a x x = wz at Sz ⊢
                            clear p0 p1 p2 p3 p4 p5 fi0 fi1 fi2 fi3 fi4 fi5
                            go_wp2
                            go_ret2
                            rw [Zp3.out, Z2.out]
                            exact ⟨rfl, Sz.out⟩
                          · obtain ⟨p0, p1, p2, p3, p4, p5⟩ := Sd2.out.cells (jd) (by omega)
                            obtain ⟨q0, q1, q2, q3, q4, q5⟩ := Sd2.out.cells (a) (by omega)
                            have fi0 := Sd2.out.row.frozen ((jd) * 6)
                            have fi1 := Sd2.out.row.frozen ((jd) * 6 + 1)
                            have fi2 := Sd2.out.row.frozen ((jd) * 6 + 2)
                            have fi3 := Sd2.out.row.frozen ((jd) * 6 + 3)
                            have fi4 := Sd2.out.row.frozen ((jd) * 6 + 4)
                            have fi5 := Sd2.out.row.frozen ((jd) * 6 + 5)
                            have fj0 := Sd2.out.row.frozen ((a) * 6)
                            have fj1 := Sd2.out.row.frozen ((a) * 6 + 1)
                            have fj2 := Sd2.out.row.frozen ((a) * 6 + 2)
                            have fj3 := Sd2.out.row.frozen ((a) * 6 + 3)
                            have fj4 := Sd2.out.row.frozen ((a) * 6 + 4)
                            have fj5 := Sd2.out.row.frozen ((a) * 6 + 5)
                            have Sz := Lib.hid (Sd2.out.swap jd a (by omega) (by omega))
                            generalize dk[jd]! = x at *
                            generalize dk[a]! = y at *
                            clear Sd2
                            go_wp2_with fail
                            go_big_region_o
                            first | show Exit.then _ _ _ _ (swapW wd2 g jd a x y) | show Exit.inBlock _ _ _ _ (swapW wd2 g jd a x y)
                            generalize swapW wd2 g jd a x y = wz at Sz ⊢
                            clear p0 p1 p2 p3 p4 p5 q0 q1 q2 q3 q4 q5 fi0 fi1 fi2 fi3 fi4 fi5 fj0 fj1 fj2 fj3 fj4 fj5
                            go_wp2
                            go_ret2
                            rw [Zp3.out, Z2.out]
                            exact ⟨rfl, Sz.out⟩
                  · have gu : ¬ (iu : Int) ≤ (j : Int) := by omega
                    have Hu := Lib.hid ((scanUp_end (fun x => ltO x dk[a]!) dk j iu (Or.inl hleu)).symm.trans hsu.out)
                    clear hsu
                    go_wp2_with fail
                    have Su2 := Lib.hid (Suu.out.drew)
                    clear Suu
                    go_big_region_o
                    generalize wr.drew = wu2 at Su2 ⊢
                    go_wp2
                    go_loopg [13] j (fun kx s12 wd => ∃ (jd : Nat), s12 = .int .i64 jd ∧ jd ≤ kx ∧ jd ≤ j ∧ iu ≤ jd + 1 ∧ Hid (SB w0 wd g cap dk) ∧ Hid (Sort.scanDown (fun x => !ltO x dk[a]!) dk iu jd = Sort.scanDown (fun x => !ltO x dk[a]!) dk iu j))
                    case atStart => exact ⟨j, rfl, Nat.le_refl _, Nat.le_refl _, hbu, Su2, rfl⟩
                    case round =>
                      clear Su2
                      obtain ⟨jd, rfl, hkd, had, hbd, Sdu, hsd⟩ := hrel
                      by_cases hled : iu ≤ jd
                      · exfalso; omega
                      · have gd : ¬ (iu : Int) ≤ (jd : Int) := by omega
                        have Hd := Lib.hid ((scanDown_end (fun x => !ltO x dk[a]!) dk iu jd (Or.inl hled)).symm.trans hsd.out)
                        clear hsd
                        go_wp2_with fail
                        have Sd2 := Lib.hid (Sdu.out.drew)
                        clear Sdu
                        go_big_region_o
                        generalize wr.drew = wd2 at Sd2 ⊢
                        have Z2 := Lib.hid (HE.out.symm.trans (part_break ltO a i j dk Hu.out Hd.out (by omega)))
                        have gx : (jd : Int) < (iu : Int) := by omega
                        clear Hu Hd HE
                        go_wp2_with fail
                        rcases Nat.eq_or_lt_of_le (show a ≤ jd by omega) with hje | hjl
                        · subst hje
                          obtain ⟨p0, p1, p2, p3, p4, p5⟩ := Sd2.out.cells (a) (by omega)
                          have fi0 := Sd2.out.row.frozen ((a) * 6)
                          have fi1 := Sd2.out.row.frozen ((a) * 6 + 1)
                          have fi2 := Sd2.out.row.frozen ((a) * 6 + 2)
                          have fi3 := Sd2.out.row.frozen ((a) * 6 + 3)
                          have fi4 := Sd2.out.row.frozen ((a) * 6 + 4)
                          have fi5 := Sd2.out.row.frozen ((a) * 6 + 5)
                          have Sz := Lib.hid (Sd2.out.swap a a (by omega) (by omega))
                          generalize dk[a]! = x at *
                          clear Sd2
                          go_wp2_with fail
                          go_big_region_o
                          first | show Exit.then _ _ _ _ (swapW wd2 g a a x x) | show Exit.inBlock _ _ _ _ (swapW wd2 g a a x x)
                          generalize swapW wd2 g a a x x = wz at Sz ⊢
                          clear p0 p1 p2 p3 p4 p5 fi0 fi1 fi2 fi3 fi4 fi5
                          go_wp2
                          go_ret2
                          rw [Zp3.out, Z2.out]
                          exact ⟨rfl, Sz.out⟩
                        · obtain ⟨p0, p1, p2, p3, p4, p5⟩ := Sd2.out.cells (jd) (by omega)
                          obtain ⟨q0, q1, q2, q3, q4, q5⟩ := Sd2.out.cells (a) (by omega)
                          have fi0 := Sd2.out.row.frozen ((jd) * 6)
                          have fi1 := Sd2.out.row.frozen ((jd) * 6 + 1)
                          have fi2 := Sd2.out.row.frozen ((jd) * 6 + 2)
                          have fi3 := Sd2.out.row.frozen ((jd) * 6 + 3)
                          have fi4 := Sd2.out.row.frozen ((jd) * 6 + 4)
                          have fi5 := Sd2.out.row.frozen ((jd) * 6 + 5)
                          have fj0 := Sd2.out.row.frozen ((a) * 6)
                          have fj1 := Sd2.out.row.frozen ((a) * 6 + 1)
                          have fj2 := Sd2.out.row.frozen ((a) * 6 + 2)
                          have fj3 := Sd2.out.row.frozen ((a) * 6 + 3)
                          have fj4 := Sd2.out.row.frozen ((a) * 6 + 4)
                          have fj5 := Sd2.out.row.frozen ((a) * 6 + 5)
                          have Sz := Lib.hid (Sd2.out.swap jd a (by omega) (by omega))
                          generalize dk[jd]! = x at *
                          generalize dk[a]! = y at *
                          clear Sd2
                          go_wp2_with fail
                          go_big_region_o
                          first | show Exit.then _ _ _ _ (swapW wd2 g jd a x y) | show Exit.inBlock _ _ _ _ (swapW wd2 g jd a x y)
                          generalize swapW wd2 g jd a x y = wz at Sz ⊢
                          clear p0 p1 p2 p3 p4 p5 q0 q1 q2 q3 q4 q5 fi0 fi1 fi2 fi3 fi4 fi5 fj0 fj1 fj2 fj3 fj4 fj5
                          go_wp2
                          go_ret2
                          rw [Zp3.out, Z2.out]
                          exact ⟨rfl, Sz.out⟩
          · have gd : ¬ (iu : Int) ≤ (jd : Int) := by omega
            have Hd := Lib.hid ((scanDown_end (fun x => !ltO x dk[a]!) dk iu jd (Or.inl hled)).symm.trans hsd.out)
            clear hsd
            go_wp2_with fail
            have Sd2 := Lib.hid (Sdu.out.drew)
            clear Sdu
            go_big_region_o
            generalize wr.drew = wd2 at Sd2 ⊢
            have Zp := Lib.hid (part_first_break ltO d a b pivot Hi.out Hj.out Hdk.out Hu.out Hd.out (by omega))
            have gx : (jd : Int) < (iu : Int) := by omega
            clear Hu Hd Hi Hj Hdk
            go_wp2_with fail
            rcases Nat.eq_or_lt_of_le (show a ≤ jd by omega) with hje | hjl
            · subst hje
              obtain ⟨p0, p1, p2, p3, p4, p5⟩ := Sd2.out.cells (a) (by omega)
              have fi0 := Sd2.out.row.frozen ((a) * 6)
              have fi1 := Sd2.out.row.frozen ((a) * 6 + 1)
              have fi2 := Sd2.out.row.frozen ((a) * 6 + 2)
              have fi3 := Sd2.out.row.frozen ((a) * 6 + 3)
              have fi4 := Sd2.out.row.frozen ((a) * 6 + 4)
              have fi5 := Sd2.out.row.frozen ((a) * 6 + 5)
              have Sz := Lib.hid (Sd2.out.swap a a (by omega) (by omega))
              generalize dk[a]! = x at *
              clear Sd2
              go_wp2_with fail
              go_big_region_o
              first | show Exit.then _ _ _ _ (swapW wd2 g a a x x) | show Exit.inBlock _ _ _ _ (swapW wd2 g a a x x)
              generalize swapW wd2 g a a x x = wz at Sz ⊢
              clear p0 p1 p2 p3 p4 p5 fi0 fi1 fi2 fi3 fi4 fi5
              go_wp2
              go_ret2
              rw [Zp.out]
              exact ⟨rfl, Sz.out⟩
            · obtain ⟨p0, p1, p2, p3, p4, p5⟩ := Sd2.out.cells (jd) (by omega)
              obtain ⟨q0, q1, q2, q3, q4, q5⟩ := Sd2.out.cells (a) (by omega)
              have fi0 := Sd2.out.row.frozen ((jd) * 6)
              have fi1 := Sd2.out.row.frozen ((jd) * 6 + 1)
              have fi2 := Sd2.out.row.frozen ((jd) * 6 + 2)
              have fi3 := Sd2.out.row.frozen ((jd) * 6 + 3)
              have fi4 := Sd2.out.row.frozen ((jd) * 6 + 4)
              have fi5 := Sd2.out.row.frozen ((jd) * 6 + 5)
              have fj0 := Sd2.out.row.frozen ((a) * 6)
              have fj1 := Sd2.out.row.frozen ((a) * 6 + 1)
              have fj2 := Sd2.out.row.frozen ((a) * 6 + 2)
              have fj3 := Sd2.out.row.frozen ((a) * 6 + 3)
              have fj4 := Sd2.out.row.frozen ((a) * 6 + 4)
              have fj5 := Sd2.out.row.frozen ((a) * 6 + 5)
              have Sz := Lib.hid (Sd2.out.swap jd a (by omega) (by omega))
              generalize dk[jd]! = x at *
              generalize dk[a]! = y at *
              clear Sd2
              go_wp2_with fail
              go_big_region_o
              first | show Exit.then _ _ _ _ (swapW wd2 g jd a x y) | show Exit.inBlock _ _ _ _ (swapW wd2 g jd a x y)
              generalize swapW wd2 g jd a x y = wz at Sz ⊢
              clear p0 p1 p2 p3 p4 p5 q0 q1 q2 q3 q4 q5 fi0 fi1 fi2 fi3 fi4 fi5 fj0 fj1 fj2 fj3 fj4 fj5
              go_wp2
              go_ret2
              rw [Zp.out]
              exact ⟨rfl, Sz.out⟩
    · have gu : ¬ (iu : Int) ≤ (j : Int) := by omega
      have Hu := Lib.hid ((scanUp_end (fun x => ltO x dk[a]!) dk j iu (Or.inl hleu)).symm.trans hsu.out)
      clear hsu
      go_wp2_with fail
      have Su2 := Lib.hid (Suu.out.drew)
      clear Suu
      go_big_region_o
      generalize wr.drew = wu2 at Su2 ⊢
      go_wp2
      go_loopg [13] j (fun kx s12 wd => ∃ (jd : Nat), s12 = .int .i64 jd ∧ jd ≤ kx ∧ jd ≤ j ∧ iu ≤ jd + 1 ∧ Hid (SB w0 wd g cap dk) ∧ Hid (Sort.scanDown (fun x => !ltO x dk[a]!) dk iu jd = Sort.scanDown (fun x => !ltO x dk[a]!) dk iu j))
      case atStart => exact ⟨j, rfl, Nat.le_refl _, Nat.le_refl _, hbu, Su2, rfl⟩
      case round =>
        clear Su2
        obtain ⟨jd, rfl, hkd, had, hbd, Sdu, hsd⟩ := hrel
        by_cases hled : iu ≤ jd
        · exfalso; omega
        · have gd : ¬ (iu : Int) ≤ (jd : Int) := by omega
          have Hd := Lib.hid ((scanDown_end (fun x => !ltO x dk[a]!) dk iu jd (Or.inl hled)).symm.trans hsd.out)
          clear hsd
          go_wp2_with fail
          have Sd2 := Lib.hid (Sdu.out.drew)
          clear Sdu
          go_big_region_o
          generalize wr.drew = wd2 at Sd2 ⊢
          have Zp := Lib.hid (part_first_break ltO d a b pivot Hi.out Hj.out Hdk.out Hu.out Hd.out (by omega))
          have gx : (jd : Int) < (iu : Int) := by omega
          clear Hu Hd Hi Hj Hdk
          go_wp2_with fail
          rcases Nat.eq_or_lt_of_le (show a ≤ jd by omega) with hje | hjl
          · subst hje
            obtain ⟨p0, p1, p2, p3, p4, p5⟩ := Sd2.out.cells (a) (by omega)
            have fi0 := Sd2.out.row.frozen ((a) * 6)
            have fi1 := Sd2.out.row.frozen ((a) * 6 + 1)
            have fi2 := Sd2.out.row.frozen ((a) * 6 + 2)
            have fi3 := Sd2.out.row.frozen ((a) * 6 + 3)
            have fi4 := Sd2.out.row.frozen ((a) * 6 + 4)
            have fi5 := Sd2.out.row.frozen ((a) * 6 + 5)
            have Sz := Lib.hid (Sd2.out.swap a a (by omega) (by omega))
            generalize dk[a]! = x at *
            clear Sd2
            go_wp2_with fail
            go_big_region_o
            first | show Exit.then _ _ _ _ (swapW wd2 g a a x x) | show Exit.inBlock _ _ _ _ (swapW wd2 g a a x x)
            generalize swapW wd2 g a a x x = wz at Sz ⊢
            clear p0 p1 p2 p3 p4 p5 fi0 fi1 fi2 fi3 fi4 fi5
            go_wp2
            go_ret2
            rw [Zp.out]
            exact ⟨rfl, Sz.out⟩
          · obtain ⟨p0, p1, p2, p3, p4, p5⟩ := Sd2.out.cells (jd) (by omega)
            obtain ⟨q0, q1, q2, q3, q4, q5⟩ := Sd2.out.cells (a) (by omega)
            have fi0 := Sd2.out.row.frozen ((jd) * 6)
            have fi1 := Sd2.out.row.frozen ((jd) * 6 + 1)
            have fi2 := Sd2.out.row.frozen ((jd) * 6 + 2)
            have fi3 := Sd2.out.row.frozen ((jd) * 6 + 3)
            have fi4 := Sd2.out.row.frozen ((jd) * 6 + 4)
            have fi5 := Sd2.out.row.frozen ((jd) * 6 + 5)
            have fj0 := Sd2.out.row.frozen ((a) * 6)
            have fj1 := Sd2.out.row.frozen ((a) * 6 + 1)
            have fj2 := Sd2.out.row.frozen ((a) * 6 + 2)
            have fj3 := Sd2.out.row.frozen ((a) * 6 + 3)
            have fj4 := Sd2.out.row.frozen ((a) * 6 + 4)
            have fj5 := Sd2.out.row.frozen ((a) * 6 + 5)
            have Sz := Lib.hid (Sd2.out.swap jd a (by omega) (by omega))
            generalize dk[jd]! = x at *
            generalize dk[a]! = y at *
            clear Sd2
            go_wp2_with fail
            go_big_region_o
            first | show Exit.then _ _ _ _ (swapW wd2 g jd a x y) | show Exit.inBlock _ _ _ _ (swapW wd2 g jd a x y)
            generalize swapW wd2 g jd a x y = wz at Sz ⊢
            clear p0 p1 p2 p3 p4 p5 q0 q1 q2 q3 q4 q5 fi0 fi1 fi2 fi3 fi4 fi5 fj0 fj1 fj2 fj3 fj4 fj5
            go_wp2
            go_ret2
            rw [Zp.out]
            exact ⟨rfl, Sz.out⟩
end Go.Proofs.Ytgffddbhnggllaa.Ed
namespace Go.Proofs.Ytgffddbhnggllaa.Ed
open Go.RowKit Go.Shelf Go.Proofs.YtgffddbhnggllaaW.PrintWords QF
theorem shiftDown_size : ∀ (j : Nat) (d : Array S41), (Sort.shiftDown ltO j d).size = d.size
  | 0, d => rfl
  | j + 1, d => by
    rw [Sort.shiftDown]
    split
    · rfl
    · rw [shiftDown_size j]; exact Sort.size_swp _ _ _
theorem shiftUp_size (b j : Nat) (d : Array S41) : (Sort.shiftUp ltO b j d).size = d.size := by
  rw [Sort.shiftUp]
  split
  · split
    · rfl
    · rw [shiftUp_size b (j + 1)]; exact Sort.size_swp _ _ _
  · rfl
termination_by b - j
theorem fixDown_size (a i : Nat) (d : Array S41) : (Sort.fixDown ltO a i d).size = d.size := by
  unfold Sort.fixDown; split
  · exact shiftDown_size _ _
  · rfl
theorem fixUp_size (b i : Nat) (d : Array S41) : (Sort.fixUp ltO b i d).size = d.size := by
  unfold Sort.fixUp; split
  · exact shiftUp_size _ _ _
  · rfl
set_option maxRecDepth 1000000 in
set_option maxHeartbeats 16000000 in
theorem pis_calls (rv : Value) (g cap a b : Nat) (d : Array S41) (w0 w : World) (S : SB w0 w g cap d) (hab : a < b) (hb : b ≤ d.size) (hsz : d.size ≤ 100000) :
    Calls Try.prog 114 #[.slice (some ⟨g, 0, none⟩) d.size cap, .int .i64 a, .int .i64 b, .func (.func 89) #[rv] #[]] w fun e w' => e = .returned (.bool (Sort.partialInsertionSort ltO d a b).2) ∧ SB w0 w' g cap (Sort.partialInsertionSort ltO d a b).1 := by
  have mixed : Try.prog.follows .mixedOrders = true := by kernel_rfl
  have S0 := Lib.hid S
  clear S
  go_enter Try.func114, Try.ntmps114
  go_wp2
  go_loopg [9, 10] 5 (fun kx s9 s10 wr => ∃ (i0 s : Nat) (dk : Array S41), s9 = .int .i64 i0 ∧ s10 = .int .i64 s ∧ s ≤ 5 ∧ 5 - s ≤ kx ∧ a < i0 ∧ i0 ≤ b ∧ dk.size = d.size ∧ Hid (SB w0 wr g cap dk) ∧ Hid (Sort.partialIns ltO a b (5 - s) i0 dk = Sort.partialIns ltO a b 5 (a + 1) d))
  case atStart => exact ⟨a + 1, 0, d, by go_num, rfl, by omega, by omega, by omega, by omega, rfl, S0, rfl⟩
  case round =>
    clear S0
    obtain ⟨i0, s, dk, rfl, rfl, hs5, hkx, hai0, hib0, hds, S1, HO⟩ := hrel
    by_cases hs : s < 5
    · have hsz5 : (s : Int) < 5 := by omega
      go_wp2
      go_loopg [9] (b - i0) (fun ky s9 wr => ∃ i : Nat, s9 = .int .i64 i ∧ b - i ≤ ky ∧ a < i ∧ i ≤ b ∧ Hid (SB w0 wr g cap dk) ∧ Hid (Sort.scanSorted ltO dk b i = Sort.scanSorted ltO dk b i0))
      case atStart => exact ⟨i0, rfl, Nat.le_refl _, by omega, by omega, S1, rfl⟩
      case round =>
        clear S1
        obtain ⟨i, rfl, hk, hai, hib, S1, H⟩ := hrel
        by_cases hlt : i < b
        · have b2 : (i : Int) < (b : Int) := by omega
          have b3 : (i : Int) < (d.size : Int) := by omega
          have b8 : (1 : Int) ≤ (i : Int) := by omega
          have b4 : (0 : Int) ≤ (i : Int) - 1 := by omega
          have b5 : (i : Int) - 1 < (d.size : Int) := by omega
          have b6 : ((i : Int) - 1).toNat = i - 1 := by omega
          have b7 : IntKind.i64.wrap ((i : Int) - 1) = (i : Int) - 1 := IntWalk.i64_in _ (by omega)
          cases hlv : ltO dk[i]! dk[i - 1]! with
          | false =>
            have H2 := Lib.hid ((scanSorted_go ltO dk b i hlt hlv).symm.trans H.out)
            clear H
            have p0 := fun dr os => ((S1.out.regrown dr os).cells i (by omega)).1
            have p1 := fun dr os => ((S1.out.regrown dr os).cells i (by omega)).2.1
            have p2 := fun dr os => ((S1.out.regrown dr os).cells i (by omega)).2.2.1
            have p3 := fun dr os => ((S1.out.regrown dr os).cells i (by omega)).2.2.2.1
            have p4 := fun dr os => ((S1.out.regrown dr os).cells i (by omega)).2.2.2.2.1
            have p5 := fun dr os => ((S1.out.regrown dr os).cells i (by omega)).2.2.2.2.2
            have q0 := fun dr os => ((S1.out.regrown dr os).cells (i - 1) (by omega)).1
            have q1 := fun dr os => ((S1.out.regrown dr os).cells (i - 1) (by omega)).2.1
            have q2 := fun dr os => ((S1.out.regrown dr os).cells (i - 1) (by omega)).2.2.1
            have q3 := fun dr os => ((S1.out.regrown dr os).cells (i - 1) (by omega)).2.2.2.1
            have q4 := fun dr os => ((S1.out.regrown dr os).cells (i - 1) (by omega)).2.2.2.2.1
            have q5 := fun dr os => ((S1.out.regrown dr os).cells (i - 1) (by omega)).2.2.2.2.2
            go_wp2_with fail
            refine wp_region_quiet_below mixed (by kernel_rfl) ?_
            repeat (quiet_step ((go_at_call 89; refine Calls.regrown_of (cmpO_calls rv _ _ _))))
            refine wpQuiet_nil ?_
            intro _ hw'
            obtain ⟨⟨dq, osq⟩, hw''⟩ := hw'
            subst hw''
            clear p0 p1 p2 p3 p4 p5 q0 q1 q2 q3 q4 q5
            have S2 := Lib.hid (S1.out.regrown dq osq)
            generalize Sort.grow (redrawn wr dq) osq = w2 at S2 ⊢
            clear S1
            have hz : ltO dk[i]! dk[(i - 1)]! = decide (cmpO dk[i]! dk[(i - 1)]! < 0) := rfl
            generalize cmpO dk[i]! dk[(i - 1)]! = z at *
            have hd : ¬ z < 0 := of_decide_eq_false (hz.symm.trans hlv)
            have hd2 : decide (z < 0) = false := decide_eq_false hd
            clear hz
            rw [hd2]
            try rw [show (!false) = true from rfl]
            clear hd hd2
            clear hlv
            go_wp2
            go_roundg (b - (i + 1))
            case measure => omega
            case rel => exact ⟨i + 1, by go_num, Nat.le_refl _, by omega, by omega, S2, H2⟩
          | true =>
            have Z : Hid (Sort.scanSorted ltO dk b i0 = i) := H.out.symm.trans (scanSorted_stop ltO dk b i (Or.inr hlv))
            clear H
            have p0 := fun dr os => ((S1.out.regrown dr os).cells i (by omega)).1
            have p1 := fun dr os => ((S1.out.regrown dr os).cells i (by omega)).2.1
            have p2 := fun dr os => ((S1.out.regrown dr os).cells i (by omega)).2.2.1
            have p3 := fun dr os => ((S1.out.regrown dr os).cells i (by omega)).2.2.2.1
            have p4 := fun dr os => ((S1.out.regrown dr os).cells i (by omega)).2.2.2.2.1
            have p5 := fun dr os => ((S1.out.regrown dr os).cells i (by omega)).2.2.2.2.2
            have q0 := fun dr os => ((S1.out.regrown dr os).cells (i - 1) (by omega)).1
            have q1 := fun dr os => ((S1.out.regrown dr os).cells (i - 1) (by omega)).2.1
            have q2 := fun dr os => ((S1.out.regrown dr os).cells (i - 1) (by omega)).2.2.1
            have q3 := fun dr os => ((S1.out.regrown dr os).cells (i - 1) (by omega)).2.2.2.1
            have q4 := fun dr os => ((S1.out.regrown dr os).cells (i - 1) (by omega)).2.2.2.2.1
            have q5 := fun dr os => ((S1.out.regrown dr os).cells (i - 1) (by omega)).2.2.2.2.2
            go_wp2_with fail
            refine wp_region_quiet_below mixed (by kernel_rfl) ?_
            repeat (quiet_step ((go_at_call 89; refine Calls.regrown_of (cmpO_calls rv _ _ _))))
            refine wpQuiet_nil ?_
            intro _ hw'
            obtain ⟨⟨dq, osq⟩, hw''⟩ := hw'
            subst hw''
            clear p0 p1 p2 p3 p4 p5 q0 q1 q2 q3 q4 q5
            have S2 := Lib.hid (S1.out.regrown dq osq)
            generalize Sort.grow (redrawn wr dq) osq = w2 at S2 ⊢
            clear S1
            have hz : ltO dk[i]! dk[(i - 1)]! = decide (cmpO dk[i]! dk[(i - 1)]! < 0) := rfl
            generalize cmpO dk[i]! dk[(i - 1)]! = z at *
            have hd : z < 0 := of_decide_eq_true (hz.symm.trans hlv)
            have hd2 : decide (z < 0) = true := decide_eq_true hd
            clear hz
            rw [hd2]
            try rw [show (!true) = false from rfl]
            clear hd hd2
            clear hlv
            have e1 : ¬ (i : Int) = (b : Int) := by omega
            by_cases h50 : b - a < 50
            · have Y := Lib.hid (pi_short ltO a b s i0 dk hs (by rw [Z.out]; omega) h50)
              have e2 : (b : Int) - (a : Int) < 50 := by omega
              go_wp2
              go_ret
              rw [Sort.partialInsertionSort, ← HO.out, Y.out]
              exact ⟨rfl, S2.out⟩
            · have e2 : ¬ ((b : Int) - (a : Int) < 50) := by omega
              go_wp2_with fail
              obtain ⟨p0, p1, p2, p3, p4, p5⟩ := S2.out.cells (i) (by omega)
              obtain ⟨q0, q1, q2, q3, q4, q5⟩ := S2.out.cells ((i - 1)) (by omega)
              have fi0 := S2.out.row.frozen ((i) * 6)
              have fi1 := S2.out.row.frozen ((i) * 6 + 1)
              have fi2 := S2.out.row.frozen ((i) * 6 + 2)
              have fi3 := S2.out.row.frozen ((i) * 6 + 3)
              have fi4 := S2.out.row.frozen ((i) * 6 + 4)
              have fi5 := S2.out.row.frozen ((i) * 6 + 5)
              have fj0 := S2.out.row.frozen (((i - 1)) * 6)
              have fj1 := S2.out.row.frozen (((i - 1)) * 6 + 1)
              have fj2 := S2.out.row.frozen (((i - 1)) * 6 + 2)
              have fj3 := S2.out.row.frozen (((i - 1)) * 6 + 3)
              have fj4 := S2.out.row.frozen (((i - 1)) * 6 + 4)
              have fj5 := S2.out.row.frozen (((i - 1)) * 6 + 5)
              have S3 := Lib.hid (S2.out.swap i (i - 1) (by omega) (by omega))
              generalize dk[i]! = x at *
              generalize dk[(i - 1)]! = y at *
              clear S2
              go_wp2_with fail
              go_big_region_o
              first | show Exit.then _ _ _ _ (swapW w2 g i (i - 1) x y) | show Exit.inBlock _ _ _ _ (swapW w2 g i (i - 1) x y)
              generalize swapW w2 g i (i - 1) x y = w3 at S3 ⊢
              clear p0 p1 p2 p3 p4 p5 q0 q1 q2 q3 q4 q5 fi0 fi1 fi2 fi3 fi4 fi5 fj0 fj1 fj2 fj3 fj4 fj5
              clear b3 b8 b4 b5 b6 b7 b2 e1 e2
              go_upto_if 65 with fail
              go_cut [] (fun wx => Hid (SB w0 wx g cap (Sort.fixDown ltO a i (Sort.swp dk i (i - 1)))))
              case first =>
                by_cases h2 : i - a ≥ 2
                · have h2z : (2 : Int) ≤ (i : Int) - (a : Int) := by omega
                  rw [show decide ((2 : Int) ≤ (i : Int) - (a : Int)) = true from decide_eq_true h2z]
                  have FX : Hid (Sort.fixDown ltO a i (Sort.swp dk i (i - 1)) = Sort.shiftDown ltO (i - 1) (Sort.swp dk i (i - 1))) := by show _ = _; unfold Sort.fixDown; rw [if_pos h2]
                  have hsw : (Sort.swp dk i (i - 1)).size = d.size := by rw [Sort.size_swp]; exact hds
                  obtain ⟨dd, hdd⟩ : ∃ dd, Sort.swp dk i (i - 1) = dd := ⟨_, rfl⟩
                  rw [hdd] at S3 hsw
                  have FX2 : Hid (Sort.fixDown ltO a i (Sort.swp dk i (i - 1)) = Sort.shiftDown ltO (i - 1) dd) := by show _ = _; rw [FX.out, hdd]
                  clear FX hdd
                  go_wp2
                  go_loopg [11] (i - 1) (fun kj s11 wi => ∃ (j : Nat) (dj : Array S41), s11 = .int .i64 j ∧ j ≤ kj ∧ j ≤ i ∧ dj.size = d.size ∧ Hid (SB w0 wi g cap dj) ∧ Hid (Sort.shiftDown ltO j dj = Sort.shiftDown ltO (i - 1) dd))
                  case atStart => exact ⟨i - 1, dd, by rw [show ((i - 1 : Nat) : Int) = (i : Int) - 1 by omega], Nat.le_refl _, by omega, hsw, S3, rfl⟩
                  case round =>
                    clear S3
                    obtain ⟨j, dj, rfl, hjk, hji, hdj, U1, F⟩ := hrel
                    by_cases hj : 1 ≤ j
                    · have b3 : (j : Int) < (d.size : Int) := by omega
                      have b8 : (1 : Int) ≤ (j : Int) := by omega
                      have b4 : (0 : Int) ≤ (j : Int) - 1 := by omega
                      have b5 : (j : Int) - 1 < (d.size : Int) := by omega
                      have b6 : ((j : Int) - 1).toNat = j - 1 := by omega
                      have b7 : IntKind.i64.wrap ((j : Int) - 1) = (j : Int) - 1 := IntWalk.i64_in _ (by omega)
                      cases hlv : ltO dj[j]! dj[j - 1]! with
                      | true =>
                        have F2 := Lib.hid ((shiftDown_go ltO j dj hj hlv).symm.trans F.out)
                        clear F
                        have p0 := fun dr os => ((U1.out.regrown dr os).cells j (by omega)).1
                        have p1 := fun dr os => ((U1.out.regrown dr os).cells j (by omega)).2.1
                        have p2 := fun dr os => ((U1.out.regrown dr os).cells j (by omega)).2.2.1
                        have p3 := fun dr os => ((U1.out.regrown dr os).cells j (by omega)).2.2.2.1
                        have p4 := fun dr os => ((U1.out.regrown dr os).cells j (by omega)).2.2.2.2.1
                        have p5 := fun dr os => ((U1.out.regrown dr os).cells j (by omega)).2.2.2.2.2
                        have q0 := fun dr os => ((U1.out.regrown dr os).cells (j - 1) (by omega)).1
                        have q1 := fun dr os => ((U1.out.regrown dr os).cells (j - 1) (by omega)).2.1
                        have q2 := fun dr os => ((U1.out.regrown dr os).cells (j - 1) (by omega)).2.2.1
                        have q3 := fun dr os => ((U1.out.regrown dr os).cells (j - 1) (by omega)).2.2.2.1
                        have q4 := fun dr os => ((U1.out.regrown dr os).cells (j - 1) (by omega)).2.2.2.2.1
                        have q5 := fun dr os => ((U1.out.regrown dr os).cells (j - 1) (by omega)).2.2.2.2.2
                        go_wp2_with fail
                        refine wp_region_quiet_below mixed (by kernel_rfl) ?_
                        repeat (quiet_step ((go_at_call 89; refine Calls.regrown_of (cmpO_calls rv _ _ _))))
                        refine wpQuiet_nil ?_
                        intro _ hw'
                        obtain ⟨⟨dq, osq⟩, hw''⟩ := hw'
                        subst hw''
                        clear p0 p1 p2 p3 p4 p5 q0 q1 q2 q3 q4 q5
                        have U2 := Lib.hid (U1.out.regrown dq osq)
                        generalize Sort.grow (redrawn wr dq) osq = w2 at U2 ⊢
                        clear U1
                        have hz : ltO dj[j]! dj[(j - 1)]! = decide (cmpO dj[j]! dj[(j - 1)]! < 0) := rfl
                        generalize cmpO dj[j]! dj[(j - 1)]! = z at *
                        have hd : z < 0 := of_decide_eq_true (hz.symm.trans hlv)
                        have hd2 : decide (z < 0) = true := decide_eq_true hd
                        clear hz
                        rw [hd2]
                        try rw [show (!true) = false from rfl]
                        clear hd hd2
                        clear hlv
                        go_wp2_with fail
                        obtain ⟨p0, p1, p2, p3, p4, p5⟩ := U2.out.cells (j) (by omega)
                        obtain ⟨q0, q1, q2, q3, q4, q5⟩ := U2.out.cells ((j - 1)) (by omega)
                        have fi0 := U2.out.row.frozen ((j) * 6)
                        have fi1 := U2.out.row.frozen ((j) * 6 + 1)
                        have fi2 := U2.out.row.frozen ((j) * 6 + 2)
                        have fi3 := U2.out.row.frozen ((j) * 6 + 3)
                        have fi4 := U2.out.row.frozen ((j) * 6 + 4)
                        have fi5 := U2.out.row.frozen ((j) * 6 + 5)
                        have fj0 := U2.out.row.frozen (((j - 1)) * 6)
                        have fj1 := U2.out.row.frozen (((j - 1)) * 6 + 1)
                        have fj2 := U2.out.row.frozen (((j - 1)) * 6 + 2)
                        have fj3 := U2.out.row.frozen (((j - 1)) * 6 + 3)
                        have fj4 := U2.out.row.frozen (((j - 1)) * 6 + 4)
                        have fj5 := U2.out.row.frozen (((j - 1)) * 6 + 5)
                        have U3 := Lib.hid (U2.out.swap j (j - 1) (by omega) (by omega))
                        generalize dj[j]! = x at *
                        generalize dj[(j - 1)]! = y at *
                        clear U2
                        go_wp2_with fail
                        go_big_region_o
                        first | show Exit.then _ _ _ _ (swapW w2 g j (j - 1) x y) | show Exit.inBlock _ _ _ _ (swapW w2 g j (j - 1) x y)
                        generalize swapW w2 g j (j - 1) x y = w3 at U3 ⊢
                        clear p0 p1 p2 p3 p4 p5 q0 q1 q2 q3 q4 q5 fi0 fi1 fi2 fi3 fi4 fi5 fj0 fj1 fj2 fj3 fj4 fj5
                        have v1 : (j : Int) - 1 = ((j - 1 : Nat) : Int) := by omega
                        go_wp2
                        go_roundg (j - 1)
                        case measure => omega
                        case rel => exact ⟨j - 1, Sort.swp dj j (j - 1), by first | rfl | (rw [← v1]) | go_num, Nat.le_refl _, by omega, by rw [Sort.size_swp]; exact hdj, U3, F2⟩
                      | false =>
                        have F2 := Lib.hid (F.out.symm.trans (shiftDown_stop ltO j dj (Or.inr hlv)))
                        clear F
                        have p0 := fun dr os => ((U1.out.regrown dr os).cells j (by omega)).1
                        have p1 := fun dr os => ((U1.out.regrown dr os).cells j (by omega)).2.1
                        have p2 := fun dr os => ((U1.out.regrown dr os).cells j (by omega)).2.2.1
                        have p3 := fun dr os => ((U1.out.regrown dr os).cells j (by omega)).2.2.2.1
                        have p4 := fun dr os => ((U1.out.regrown dr os).cells j (by omega)).2.2.2.2.1
                        have p5 := fun dr os => ((U1.out.regrown dr os).cells j (by omega)).2.2.2.2.2
                        have q0 := fun dr os => ((U1.out.regrown dr os).cells (j - 1) (by omega)).1
                        have q1 := fun dr os => ((U1.out.regrown dr os).cells (j - 1) (by omega)).2.1
                        have q2 := fun dr os => ((U1.out.regrown dr os).cells (j - 1) (by omega)).2.2.1
                        have q3 := fun dr os => ((U1.out.regrown dr os).cells (j - 1) (by omega)).2.2.2.1
                        have q4 := fun dr os => ((U1.out.regrown dr os).cells (j - 1) (by omega)).2.2.2.2.1
                        have q5 := fun dr os => ((U1.out.regrown dr os).cells (j - 1) (by omega)).2.2.2.2.2
                        go_wp2_with fail
                        refine wp_region_quiet_below mixed (by kernel_rfl) ?_
                        repeat (quiet_step ((go_at_call 89; refine Calls.regrown_of (cmpO_calls rv _ _ _))))
                        refine wpQuiet_nil ?_
                        intro _ hw'
                        obtain ⟨⟨dq, osq⟩, hw''⟩ := hw'
                        subst hw''
                        clear p0 p1 p2 p3 p4 p5 q0 q1 q2 q3 q4 q5
                        have U2 := Lib.hid (U1.out.regrown dq osq)
                        generalize Sort.grow (redrawn wr dq) osq = w2 at U2 ⊢
                        clear U1
                        have hz : ltO dj[j]! dj[(j - 1)]! = decide (cmpO dj[j]! dj[(j - 1)]! < 0) := rfl
                        generalize cmpO dj[j]! dj[(j - 1)]! = z at *
                        have hd : ¬ z < 0 := of_decide_eq_false (hz.symm.trans hlv)
                        have hd2 : decide (z < 0) = false := decide_eq_false hd
                        clear hz
                        rw [hd2]
                        try rw [show (!false) = true from rfl]
                        clear hd hd2
                        clear hlv
                        go_wp2_with fail
                        go_meet
                        case rel => rw [FX2.out, F2.out]; exact U2
                    · have b2 : ¬ (1 : Int) ≤ (j : Int) := by omega
                      have F2 := Lib.hid (F.out.symm.trans (shiftDown_stop ltO j dj (Or.inl (by omega))))
                      clear F
                      go_wp2_with fail
                      go_meet
                      case rel => rw [FX2.out, F2.out]; exact U1
                · have h2z : ¬ ((2 : Int) ≤ (i : Int) - (a : Int)) := by omega
                  rw [show decide ((2 : Int) ≤ (i : Int) - (a : Int)) = false from decide_eq_false h2z]
                  have FX : Hid (Sort.fixDown ltO a i (Sort.swp dk i (i - 1)) = Sort.swp dk i (i - 1)) := by show _ = _; unfold Sort.fixDown; rw [if_neg h2]
                  go_wp2_with fail
                  go_meet
                  case rel => rw [FX.out]; exact S3
              case rest =>
                clear S3
                rename_i wc0
                obtain ⟨du0, hdu0⟩ : ∃ du0, Sort.fixDown ltO a i (Sort.swp dk i (i - 1)) = du0 := ⟨_, rfl⟩
                have hdu : du0.size = d.size := by rw [← hdu0]; exact (fixDown_size a i _).trans ((Sort.size_swp _ _ _).trans hds)
                rw [hdu0] at hcut
                have U0 := hcut
                clear hcut
                have Z2 : Hid (Sort.partialIns ltO a b (5 - (s + 1)) i (Sort.fixUp ltO b i du0) = Sort.partialIns ltO a b 5 (a + 1) d) := by show _ = _; rw [← HO.out, pi_go ltO a b s i0 i dk hs Z.out (by omega) h50, hdu0]
                clear hdu0
                go_upto_if 104 with fail
                by_cases h2 : b - i ≥ 2
                · have h2z : (2 : Int) ≤ (b : Int) - (i : Int) := by omega
                  rw [show decide ((2 : Int) ≤ (b : Int) - (i : Int)) = true from decide_eq_true h2z]
                  have FX : Hid (Sort.fixUp ltO b i du0 = Sort.shiftUp ltO b (i + 1) du0) := by show _ = _; unfold Sort.fixUp; rw [if_pos h2]
                  go_wp2
                  go_loopg [12] (b - (i + 1)) (fun kj s12 wi => ∃ (j : Nat) (dj : Array S41), s12 = .int .i64 j ∧ b - j ≤ kj ∧ i + 1 ≤ j ∧ j ≤ b ∧ dj.size = d.size ∧ Hid (SB w0 wi g cap dj) ∧ Hid (Sort.shiftUp ltO b j dj = Sort.shiftUp ltO b (i + 1) du0))
                  case atStart => exact ⟨i + 1, du0, by go_num, Nat.le_refl _, Nat.le_refl _, by omega, hdu, U0, rfl⟩
                  case round =>
                    clear U0
                    obtain ⟨j, dj, rfl, hjk, hij, hjb, hdj, U1, F⟩ := hrel
                    by_cases hj : j < b
                    · have b3 : (j : Int) < (d.size : Int) := by omega
                      have b8 : (1 : Int) ≤ (j : Int) := by omega
                      have b4 : (0 : Int) ≤ (j : Int) - 1 := by omega
                      have b5 : (j : Int) - 1 < (d.size : Int) := by omega
                      have b6 : ((j : Int) - 1).toNat = j - 1 := by omega
                      have b7 : IntKind.i64.wrap ((j : Int) - 1) = (j : Int) - 1 := IntWalk.i64_in _ (by omega)
                      have b2 : (j : Int) < (b : Int) := by omega
                      cases hlv : ltO dj[j]! dj[j - 1]! with
                      | true =>
                        have F2 := Lib.hid ((shiftUp_go ltO b j dj hj hlv).symm.trans F.out)
                        clear F
                        have p0 := fun dr os => ((U1.out.regrown dr os).cells j (by omega)).1
                        have p1 := fun dr os => ((U1.out.regrown dr os).cells j (by omega)).2.1
                        have p2 := fun dr os => ((U1.out.regrown dr os).cells j (by omega)).2.2.1
                        have p3 := fun dr os => ((U1.out.regrown dr os).cells j (by omega)).2.2.2.1
                        have p4 := fun dr os => ((U1.out.regrown dr os).cells j (by omega)).2.2.2.2.1
                        have p5 := fun dr os => ((U1.out.regrown dr os).cells j (by omega)).2.2.2.2.2
                        have q0 := fun dr os => ((U1.out.regrown dr os).cells (j - 1) (by omega)).1
                        have q1 := fun dr os => ((U1.out.regrown dr os).cells (j - 1) (by omega)).2.1
                        have q2 := fun dr os => ((U1.out.regrown dr os).cells (j - 1) (by omega)).2.2.1
                        have q3 := fun dr os => ((U1.out.regrown dr os).cells (j - 1) (by omega)).2.2.2.1
                        have q4 := fun dr os => ((U1.out.regrown dr os).cells (j - 1) (by omega)).2.2.2.2.1
                        have q5 := fun dr os => ((U1.out.regrown dr os).cells (j - 1) (by omega)).2.2.2.2.2
                        go_wp2_with fail
                        refine wp_region_quiet_below mixed (by kernel_rfl) ?_
                        repeat (quiet_step ((go_at_call 89; refine Calls.regrown_of (cmpO_calls rv _ _ _))))
                        refine wpQuiet_nil ?_
                        intro _ hw'
                        obtain ⟨⟨dq, osq⟩, hw''⟩ := hw'
                        subst hw''
                        clear p0 p1 p2 p3 p4 p5 q0 q1 q2 q3 q4 q5
                        have U2 := Lib.hid (U1.out.regrown dq osq)
                        generalize Sort.grow (redrawn wr dq) osq = w2 at U2 ⊢
                        clear U1
                        have hz : ltO dj[j]! dj[(j - 1)]! = decide (cmpO dj[j]! dj[(j - 1)]! < 0) := rfl
                        generalize cmpO dj[j]! dj[(j - 1)]! = z at *
                        have hd : z < 0 := of_decide_eq_true (hz.symm.trans hlv)
                        have hd2 : decide (z < 0) = true := decide_eq_true hd
                        clear hz
                        rw [hd2]
                        try rw [show (!true) = false from rfl]
                        clear hd hd2
                        clear hlv
                        go_wp2_with fail
                        obtain ⟨p0, p1, p2, p3, p4, p5⟩ := U2.out.cells (j) (by omega)
                        obtain ⟨q0, q1, q2, q3, q4, q5⟩ := U2.out.cells ((j - 1)) (by omega)
                        have fi0 := U2.out.row.frozen ((j) * 6)
                        have fi1 := U2.out.row.frozen ((j) * 6 + 1)
                        have fi2 := U2.out.row.frozen ((j) * 6 + 2)
                        have fi3 := U2.out.row.frozen ((j) * 6 + 3)
                        have fi4 := U2.out.row.frozen ((j) * 6 + 4)
                        have fi5 := U2.out.row.frozen ((j) * 6 + 5)
                        have fj0 := U2.out.row.frozen (((j - 1)) * 6)
                        have fj1 := U2.out.row.frozen (((j - 1)) * 6 + 1)
                        have fj2 := U2.out.row.frozen (((j - 1)) * 6 + 2)
                        have fj3 := U2.out.row.frozen (((j - 1)) * 6 + 3)
                        have fj4 := U2.out.row.frozen (((j - 1)) * 6 + 4)
                        have fj5 := U2.out.row.frozen (((j - 1)) * 6 + 5)
                        have U3 := Lib.hid (U2.out.swap j (j - 1) (by omega) (by omega))
                        generalize dj[j]! = x at *
                        generalize dj[(j - 1)]! = y at *
                        clear U2
                        go_wp2_with fail
                        go_big_region_o
                        first | show Exit.then _ _ _ _ (swapW w2 g j (j - 1) x y) | show Exit.inBlock _ _ _ _ (swapW w2 g j (j - 1) x y)
                        generalize swapW w2 g j (j - 1) x y = w3 at U3 ⊢
                        clear p0 p1 p2 p3 p4 p5 q0 q1 q2 q3 q4 q5 fi0 fi1 fi2 fi3 fi4 fi5 fj0 fj1 fj2 fj3 fj4 fj5
                        go_wp2
                        go_roundg (b - (j + 1))
                        case measure => omega
                        case rel => exact ⟨j + 1, Sort.swp dj j (j - 1), by go_num, Nat.le_refl _, by omega, by omega, by rw [Sort.size_swp]; exact hdj, U3, F2⟩
                      | false =>
                        have F2 := Lib.hid (F.out.symm.trans (shiftUp_stop ltO b j dj (Or.inr hlv)))
                        clear F
                        have p0 := fun dr os => ((U1.out.regrown dr os).cells j (by omega)).1
                        have p1 := fun dr os => ((U1.out.regrown dr os).cells j (by omega)).2.1
                        have p2 := fun dr os => ((U1.out.regrown dr os).cells j (by omega)).2.2.1
                        have p3 := fun dr os => ((U1.out.regrown dr os).cells j (by omega)).2.2.2.1
                        have p4 := fun dr os => ((U1.out.regrown dr os).cells j (by omega)).2.2.2.2.1
                        have p5 := fun dr os => ((U1.out.regrown dr os).cells j (by omega)).2.2.2.2.2
                        have q0 := fun dr os => ((U1.out.regrown dr os).cells (j - 1) (by omega)).1
                        have q1 := fun dr os => ((U1.out.regrown dr os).cells (j - 1) (by omega)).2.1
                        have q2 := fun dr os => ((U1.out.regrown dr os).cells (j - 1) (by omega)).2.2.1
                        have q3 := fun dr os => ((U1.out.regrown dr os).cells (j - 1) (by omega)).2.2.2.1
                        have q4 := fun dr os => ((U1.out.regrown dr os).cells (j - 1) (by omega)).2.2.2.2.1
                        have q5 := fun dr os => ((U1.out.regrown dr os).cells (j - 1) (by omega)).2.2.2.2.2
                        go_wp2_with fail
                        refine wp_region_quiet_below mixed (by kernel_rfl) ?_
                        repeat (quiet_step ((go_at_call 89; refine Calls.regrown_of (cmpO_calls rv _ _ _))))
                        refine wpQuiet_nil ?_
                        intro _ hw'
                        obtain ⟨⟨dq, osq⟩, hw''⟩ := hw'
                        subst hw''
                        clear p0 p1 p2 p3 p4 p5 q0 q1 q2 q3 q4 q5
                        have U2 := Lib.hid (U1.out.regrown dq osq)
                        generalize Sort.grow (redrawn wr dq) osq = w2 at U2 ⊢
                        clear U1
                        have hz : ltO dj[j]! dj[(j - 1)]! = decide (cmpO dj[j]! dj[(j - 1)]! < 0) := rfl
                        generalize cmpO dj[j]! dj[(j - 1)]! = z at *
                        have hd : ¬ z < 0 := of_decide_eq_false (hz.symm.trans hlv)
                        have hd2 : decide (z < 0) = false := decide_eq_false hd
                        clear hz
                        rw [hd2]
                        try rw [show (!false) = true from rfl]
                        clear hd hd2
                        clear hlv
                        go_wp2
                        go_roundg (5 - (s + 1))
                        case measure => omega
                        case rel => exact ⟨i, s + 1, dj, rfl, by go_num, by omega, Nat.le_refl _, by omega, by omega, hdj, U2, Lib.hid (by rw [← Z2.out, FX.out, F2.out])⟩
                    · have b2 : ¬ (j : Int) < (b : Int) := by omega
                      have F2 := Lib.hid (F.out.symm.trans (shiftUp_stop ltO b j dj (Or.inl hj)))
                      clear F
                      go_wp2
                      go_roundg (5 - (s + 1))
                      case measure => omega
                      case rel => exact ⟨i, s + 1, dj, rfl, by go_num, by omega, Nat.le_refl _, by omega, by omega, hdj, U1, Lib.hid (by rw [← Z2.out, FX.out, F2.out])⟩
                · have h2z : ¬ ((2 : Int) ≤ (b : Int) - (i : Int)) := by omega
                  rw [show decide ((2 : Int) ≤ (b : Int) - (i : Int)) = false from decide_eq_false h2z]
                  have FX : Hid (Sort.fixUp ltO b i du0 = du0) := by show _ = _; unfold Sort.fixUp; rw [if_neg h2]
                  go_wp2
                  go_roundg (5 - (s + 1))
                  case measure => omega
                  case rel => exact ⟨i, s + 1, du0, rfl, by go_num, by omega, Nat.le_refl _, by omega, by omega, hdu, U0, Lib.hid (by rw [← Z2.out, FX.out])⟩
        · have b2 : ¬ (i : Int) < (b : Int) := by omega
          have H2 := H.out.symm.trans (scanSorted_stop ltO dk b i (Or.inl hlt))
          have Y := Lib.hid (pi_true ltO a b s i0 dk hs (by rw [H2]; omega))
          clear H H2
          go_wp2_with fail
          have S2 := Lib.hid (S1.out.drew)
          clear S1
          go_big_region_o
          generalize wr.drew = w2 at S2 ⊢
          have e1 : (i : Int) = (b : Int) := by omega
          go_wp2
          go_ret
          rw [Sort.partialInsertionSort, ← HO.out, Y.out]
          exact ⟨rfl, S2.out⟩
    · obtain rfl : s = 5 := by omega
      have HO2 := HO.out
      go_wp2
      go_ret
      rw [Sort.partialInsertionSort, ← HO2]
      exact ⟨rfl, S1.out⟩
end Go.Proofs.Ytgffddbhnggllaa.Ed
namespace Go.Proofs.Ytgffddbhnggllaa.Ed
open Go.RowKit Go.Proofs.YtgffddbhnggllaaW.PrintWords QF
theorem cmpI_cases (a b : Int) : (a < b ∧ cmpI a b = -1) ∨ (a = b ∧ cmpI a b = 0) ∨ (b < a ∧ cmpI a b = 1) := by
  unfold cmpI
  rcases Int.lt_trichotomy a b with h | h | h
  · exact .inl ⟨h, if_pos h⟩
  · exact .inr (.inl ⟨h, by rw [if_neg (by omega), if_neg (by omega)]⟩)
  · exact .inr (.inr ⟨h, by rw [if_neg (by omega), if_pos (by omega)]⟩)
def befO (x y : S41) : Prop := rankO x < rankO y ∨ rankO x = rankO y ∧ (y.f3 < x.f3 ∨ y.f3 = x.f3 ∧ y.f0 < x.f0)
theorem ltO_iff (x y : S41) : ltO x y = true ↔ befO x y := by
  unfold ltO cmpO orI befO
  rw [decide_eq_true_iff]
  rcases cmpI_cases (rankO x) (rankO y) with ⟨h1, e1⟩ | ⟨h1, e1⟩ | ⟨h1, e1⟩ <;> rw [e1]
  · simp; omega
  · rw [if_pos rfl]
    rcases cmpI_cases y.f3 x.f3 with ⟨h2, e2⟩ | ⟨h2, e2⟩ | ⟨h2, e2⟩ <;> rw [e2]
    · simp; omega
    · rw [if_pos rfl]
      rcases cmpI_cases y.f0 x.f0 with ⟨h3, e3⟩ | ⟨h3, e3⟩ | ⟨h3, e3⟩ <;> rw [e3]
      · simp; omega
      · simp; omega
      · simp; omega
    · simp; omega
  · simp; omega
theorem ltO_not (x y : S41) : ltO x y = false ↔ ¬ befO x y := by rw [← ltO_iff]; simp
theorem swoO : Sort.SWO ltO where
  irrefl x := by rw [ltO_not]; unfold befO; omega
  trans x y z h1 h2 := by rw [ltO_iff] at *; unfold befO at *; omega
  ntrans x y z h1 h2 := by rw [ltO_not] at *; unfold befO at *; omega
theorem pick_rng (d : Array S41) (a b : Nat) (h : 12 < b - a) : a < (Sort.choosePivot ltO d a b).1 ∧ (Sort.choosePivot ltO d a b).1 + 1 < b := by
  by_cases h2 : b - a < 50
  · have E : (Sort.choosePivot ltO d a b).1 = (Sort.median ltO d (a + (b - a) / 4 * 1) (a + (b - a) / 4 * 2) (a + (b - a) / 4 * 3) 0).1 := by
      simp only [Sort.choosePivot, if_pos (show b - a ≥ 8 by omega), if_neg (show ¬ b - a ≥ 50 by omega)]
    rw [E]
    rcases Sort.median_mem ltO d (a + (b - a) / 4 * 1) (a + (b - a) / 4 * 2) (a + (b - a) / 4 * 3) 0 with e | e | e <;> rw [e] <;> omega
  · have E : ∃ s1 s2 s3, (Sort.choosePivot ltO d a b).1 = (Sort.median ltO d (Sort.median ltO d (a + (b - a) / 4 * 1 - 1) (a + (b - a) / 4 * 1) (a + (b - a) / 4 * 1 + 1) 0).1 (Sort.median ltO d (a + (b - a) / 4 * 2 - 1) (a + (b - a) / 4 * 2) (a + (b - a) / 4 * 2 + 1) s1).1 (Sort.median ltO d (a + (b - a) / 4 * 3 - 1) (a + (b - a) / 4 * 3) (a + (b - a) / 4 * 3 + 1) s2).1 s3).1 := by
      simp only [Sort.choosePivot, if_pos (show b - a ≥ 8 by omega), if_pos (show b - a ≥ 50 by omega)]
      exact ⟨_, _, _, rfl⟩
    obtain ⟨s1, s2, s3, E⟩ := E
    rw [E]
    have q1 := Sort.median_mem ltO d (a + (b - a) / 4 * 1 - 1) (a + (b - a) / 4 * 1) (a + (b - a) / 4 * 1 + 1) 0
    have q2 := Sort.median_mem ltO d (a + (b - a) / 4 * 2 - 1) (a + (b - a) / 4 * 2) (a + (b - a) / 4 * 2 + 1) s1
    have q3 := Sort.median_mem ltO d (a + (b - a) / 4 * 3 - 1) (a + (b - a) / 4 * 3) (a + (b - a) / 4 * 3 + 1) s2
    generalize (Sort.median ltO d (a + (b - a) / 4 * 1 - 1) (a + (b - a) / 4 * 1) (a + (b - a) / 4 * 1 + 1) 0).1 = x1 at *
    generalize (Sort.median ltO d (a + (b - a) / 4 * 2 - 1) (a + (b - a) / 4 * 2) (a + (b - a) / 4 * 2 + 1) s1).1 = x2 at *
    generalize (Sort.median ltO d (a + (b - a) / 4 * 3 - 1) (a + (b - a) / 4 * 3) (a + (b - a) / 4 * 3 + 1) s2).1 = x3 at *
    rcases Sort.median_mem ltO d x1 x2 x3 s3 with e | e | e <;> rw [e] <;> omega
structure RF (dk : Array S41) (a b lim : Nat) (wb wp : Bool) (R : Sort.Rd S41) : Prop where
  s1 : R.d1.size = dk.size
  s2 : R.d2.size = dk.size
  s3 : R.pi.1.size = dk.size
  B3 : Sort.Below ltO a b R.pi.1
  pv1 : a < R.pivot
  pv2 : R.pivot < b
  ll : R.lim ≤ lim
  c1 : a ≤ R.c.1 ∧ R.c.1 < b
  ff : wb = false → R.d1 = Sort.breakPatterns dk a b ∧ R.lim = lim - 1
  tt : wb = true → R.d1 = dk ∧ R.lim = lim
  hc : R.c = Sort.choosePivot ltO R.d1 a b
  dec : R.c.2 = .decreasing → R.d2 = Sort.reverseRange R.d1 a b ∧ R.pivot = (b - 1) - (R.c.1 - a) ∧ R.hint = .increasing
  nd : R.c.2 ≠ .decreasing → R.d2 = R.d1 ∧ R.pivot = R.c.1 ∧ R.hint = R.c.2
  yes : (wb && wp && decide (R.hint = .increasing)) = true → R.pi = Sort.partialInsertionSort ltO R.d2 a b
  no : (wb && wp && decide (R.hint = .increasing)) = false → R.pi = (R.d2, false)
  done : R.pi.2 = true → Sort.pdq ltO dk a b lim wb wp = R.pi.1
  eq : R.pi.2 = false → (decide (a > 0) && !ltO R.pi.1[a - 1]! R.pi.1[R.pivot]!) = true → a < (Sort.partitionEqual ltO R.pi.1 a b R.pivot).1 ∧ (Sort.partitionEqual ltO R.pi.1 a b R.pivot).1 ≤ b → Sort.pdq ltO dk a b lim wb wp = Sort.pdq ltO (Sort.partitionEqual ltO R.pi.1 a b R.pivot).2 (Sort.partitionEqual ltO R.pi.1 a b R.pivot).1 b R.lim wb wp
  left : R.pi.2 = false → (decide (a > 0) && !ltO R.pi.1[a - 1]! R.pi.1[R.pivot]!) = false → a ≤ (Sort.partition ltO R.pi.1 a b R.pivot).1 ∧ (Sort.partition ltO R.pi.1 a b R.pivot).1 < b → (Sort.partition ltO R.pi.1 a b R.pivot).1 - a < b - (Sort.partition ltO R.pi.1 a b R.pivot).1 →
    Sort.pdq ltO dk a b lim wb wp = Sort.pdq ltO (Sort.pdq ltO (Sort.partition ltO R.pi.1 a b R.pivot).2.2 a (Sort.partition ltO R.pi.1 a b R.pivot).1 R.lim true true) ((Sort.partition ltO R.pi.1 a b R.pivot).1 + 1) b R.lim (decide ((Sort.partition ltO R.pi.1 a b R.pivot).1 - a ≥ (b - a) / 8)) (Sort.partition ltO R.pi.1 a b R.pivot).2.1
  right : R.pi.2 = false → (decide (a > 0) && !ltO R.pi.1[a - 1]! R.pi.1[R.pivot]!) = false → a ≤ (Sort.partition ltO R.pi.1 a b R.pivot).1 ∧ (Sort.partition ltO R.pi.1 a b R.pivot).1 < b → ¬ (Sort.partition ltO R.pi.1 a b R.pivot).1 - a < b - (Sort.partition ltO R.pi.1 a b R.pivot).1 →
    Sort.pdq ltO dk a b lim wb wp = Sort.pdq ltO (Sort.pdq ltO (Sort.partition ltO R.pi.1 a b R.pivot).2.2 ((Sort.partition ltO R.pi.1 a b R.pivot).1 + 1) b R.lim true true) a (Sort.partition ltO R.pi.1 a b R.pivot).1 R.lim (decide (b - (Sort.partition ltO R.pi.1 a b R.pivot).1 ≥ (b - a) / 8)) (Sort.partition ltO R.pi.1 a b R.pivot).2.1
theorem round_facts (dk : Array S41) (a b lim : Nat) (wb wp : Bool) (h12 : ¬ b - a ≤ 12) (hl0 : ¬ lim = 0) (hb : b ≤ dk.size) (hB : Sort.Below ltO a b dk) : ∃ R, RF dk a b lim wb wp R := by
  obtain ⟨s1, B1, c1, s2, B2, pv, s3, B3⟩ := Sort.rd_facts (lt := ltO) (limit := lim) (wb := wb) (wp := wp) swoO Sort.partialInsertionSort_holds Sort.reverseRange_holds (show a < b by omega) hb hB
  refine ⟨Sort.rd ltO dk a b lim wb wp, ⟨s1, s2, s3, B3, ?_, pv.2, Sort.rd_lim_le, c1, fun h => by subst h; exact Sort.rd_false, fun h => by subst h; exact Sort.rd_true, Sort.rd_c, Sort.rd_dec, Sort.rd_not, Sort.rd_pi_yes, Sort.rd_pi_no, Sort.pdq_done h12 hl0, Sort.pdq_eq h12 hl0, Sort.pdq_left h12 hl0, Sort.pdq_right h12 hl0⟩⟩
  have hm := pick_rng (Sort.rd ltO dk a b lim wb wp).d1 a b (by omega)
  rw [← show (Sort.rd ltO dk a b lim wb wp).c = _ from Sort.rd_c] at hm
  by_cases hd : (Sort.rd ltO dk a b lim wb wp).c.2 = .decreasing
  · rw [(Sort.rd_dec hd).2.1]; omega
  · rw [(Sort.rd_not hd).2.1]; omega
end Go.Proofs.Ytgffddbhnggllaa.Ed
