/- A part of the texts of one claim: the walk of the code by hand-proved contracts, and the plain law. -/
import Derived.Deep.RegionHeld3
import Derived.Deep.RegionWith
import Derived.BigQuiet
import Derived.Lib.IndexBytes
import Derived.Test.YtdefecnngccmoaaKC2
set_option linter.unusedVariables false
set_option linter.unusedSimpArgs false
namespace Go.Proofs.Ytdefecnngccmoaa.Ed
open Go.RowKit Go.Proofs.YtdefecnngccmoaaW.PrintWords QTells
set_option maxRecDepth 1000000 in
set_option maxHeartbeats 40000000 in
theorem pskip_2 (a b : ByteArray) (ha : a.size ≤ 60) (hb : b.size ≤ 60) (c : Lb.Cst) (w : World) (mb g gG i j : Nat) (G : List Int) (vout : Value) (acc : List S38) (hi : (i : Int) ≤ a.size) (hj : (j : Int) ≤ b.size)
    (hno : ∀ W, Box W g c → Calls Try.prog 36 #[.string (a.extract i a.size), .string (b.extract j b.size), .pointer (some ⟨g, 0, none⟩)] W (NoStep W))
    (K : Act → World → Prop) (Q : Exit → Act → World → Prop) (wr : World) (hP : PR w wr mb g gG c G vout acc) (v2 v3 v4 v5 v6 v7 v8 v9 v10 v13 v14 v19 v20 v21 v22 v23 v24 v25 v26 v27 v28 v29 v30 v31 v32 v33 v34 v35 v36 v37 v38 v39 v40 v41 v42 v43 v44 v45 v46 v47 v48 v49 v50 v51 v52 v53 v54 v55 v56 v57 v58 v59 v60 v61 v62 v63 v64 v65 v66 v67 v68 v69 v70 v71 v72 v73 v74 v75 v76 v77 v78 v79 v80 v81 v82 v83 v84 v85 v86 v87 v88 v89 v90 v91 v92 v93 v94 v95 v96 v97 v98 v99 v100 v101 v102 v103 v104 v105 v106 v107 v108 v109 v110 v111 v112 v113 v114 v115 v116 v117 v118 v119 v120 v121 v122 v123 v124 : Value)
    (hK : ∀ (u19 u20 u70 u71 u72 u73 u74 u75 u76 u77 u78 u79 u80 u81 u82 u83 u84 u85 u86 u87 u88 u89 u90 u91 u92 u93 u94 u95 u96 u97 u98 u99 u100 u101 u102 u103 u104 u105 u106 u107 u108 u109 u110 u111 u112 u113 u114 u115 u116 u117 u118 u119 u120 u121 u122 : Value) (W : World), PR w W mb g gG c G vout acc → K ⟨#[.string a, .string b, v2, v3, v4, v5, v6, v7, v8, v9, v10, .map (some mb), .pointer (some ⟨gG, 0, none⟩), v13, v14, vout, .int .i64 (i : Int), .int .i64 (j : Int), .int .u8 3, u19, u20, v21, v22, v23, v24, v25, v26, v27, v28, v29, v30, v31, v32, v33, v34, v35, v36, v37, v38, v39, v40, v41, v42, v43, v44, v45, v46, v47, v48, v49, v50, v51, v52, v53, v54, v55, v56, v57, v58, v59, v60, v61, v62, v63, v64, v65, v66, v67, v68, v69, u70, u71, u72, u73, u74, u75, u76, u77, u78, u79, u80, u81, u82, u83, u84, u85, u86, u87, u88, u89, u90, u91, u92, u93, u94, u95, u96, u97, u98, u99, u100, u101, u102, u103, u104, u105, u106, u107, u108, u109, u110, u111, u112, u113, u114, u115, u116, u117, u118, u119, u120, u121, u122, v123, v124], []⟩ W) :
    (bodyAt Try.f14 3).wp Try.prog (Exit.then K Q) ⟨#[.string a, .string b, v2, v3, v4, v5, v6, v7, v8, v9, v10, .map (some mb), .pointer (some ⟨gG, 0, none⟩), v13, v14, vout, .int .i64 (i : Int), .int .i64 (j : Int), .int .u8 2, v19, v20, v21, v22, v23, v24, v25, v26, v27, v28, v29, v30, v31, v32, v33, v34, v35, v36, v37, v38, v39, v40, v41, v42, v43, v44, v45, v46, v47, v48, v49, v50, v51, v52, v53, v54, v55, v56, v57, v58, v59, v60, v61, v62, v63, v64, v65, v66, v67, v68, v69, v70, v71, v72, v73, v74, v75, v76, v77, v78, v79, v80, v81, v82, v83, v84, v85, v86, v87, v88, v89, v90, v91, v92, v93, v94, v95, v96, v97, v98, v99, v100, v101, v102, v103, v104, v105, v106, v107, v108, v109, v110, v111, v112, v113, v114, v115, v116, v117, v118, v119, v120, v121, v122, v123, v124], []⟩ wr := by
  have HK := Lib.hid hK
  clear hK
  have l1 := (fits_look hP.drew.p.fits).2.1
  have l2 := (fits_look (hP.alloc (.cells #[.int .i64 0, .int .i64 0, .int .i64 0, .int .u8 0, .int .u8 0] 73)).drew.p.fits).2.1
  have b1 := Lib.hid hP.drew.p.fits.2
  have b2 := Lib.hid (hP.alloc (.cells #[.int .i64 0, .int .i64 0, .int .i64 0, .int .u8 0, .int .u8 0] 73)).drew.p.fits.2
  conv => arg 2; whnf
  go_wp2
  refine wp_region_noPanic ?_
  go_region_with (go_at_call 36; first | (refine (hno _ b1.out).mono ?_; rintro e W1 ⟨p1_, p2_, p3_, p4_, p5_, rfl, hb1⟩; have hQ := hP.drew.keep hb1; try dsimp only [stepV]) | (refine (hno _ b2.out).mono ?_; rintro e W1 ⟨p1_, p2_, p3_, p4_, p5_, rfl, hb1⟩; have hQ := (hP.alloc (.cells #[.int .i64 0, .int .i64 0, .int .i64 0, .int .u8 0, .int .u8 0] 73)).drew.keep hb1; have hz := (hb1.block wr.heap.size (by simp)).trans (blk_new wr (.cells #[.int .i64 0, .int .i64 0, .int .i64 0, .int .u8 0, .int .u8 0] 73)); have y0_ := (blk_cell hz 0).trans rfl; have y1_ := (blk_cell hz 1).trans rfl; have y2_ := (blk_cell hz 2).trans rfl; have y3_ := (blk_cell hz 3).trans rfl; have y4_ := (blk_cell hz 4).trans rfl; have f0_ := blk_frozen hz 0; have f1_ := blk_frozen hz 1; have f2_ := blk_frozen hz 2; have f3_ := blk_frozen hz 3; have f4_ := blk_frozen hz 4; try dsimp only [stepV]))
  all_goals refine NoPanic.normal ?_
  all_goals go_simp
  all_goals
    first
    | (have hR := hQ.alloc (.cells #[.int .i64 p1_, .int .i64 p2_, .int .i64 p3_, .int .u8 p4_, .int .u8 p5_] 73)
       have hS : SBox (W1.alloc (.cells #[.int .i64 p1_, .int .i64 p2_, .int .i64 p3_, .int .u8 p4_, .int .u8 p5_] 73)) W1.heap.size p1_ p2_ p3_ p4_ p5_ := blk_new _ _
       clear hQ hb1 l1 l2 b1 b2
       revert hR hS
       generalize W1.alloc (.cells #[.int .i64 p1_, .int .i64 p2_, .int .i64 p3_, .int .u8 p4_, .int .u8 p5_] 73) = W2
       generalize W1.heap.size = gb
       fail_if_success (have := hz)
       intro hR hS)
    | (obtain ⟨hR, hS⟩ := hQ.put5 hz hP.p.below.size p1_ p2_ p3_ p4_ p5_
       clear y0_ y1_ y2_ y3_ y4_ f0_ f1_ f2_ f3_ f4_ hz hQ hb1 l1 l2 b1 b2
       revert hR hS
       generalize ((((W1.setCell ⟨wr.heap.size, 0, none⟩ (.int .i64 p1_)).setCell ⟨wr.heap.size, 1, none⟩ (.int .i64 p2_)).setCell ⟨wr.heap.size, 2, none⟩ (.int .i64 p3_)).setCell ⟨wr.heap.size, 3, none⟩ (.int .u8 p4_)).setCell ⟨wr.heap.size, 4, none⟩ (.int .u8 p5_) = W2
       generalize wr.heap.size = gb
       intro hR hS)
  all_goals
    go_wp2
    go_quiet (fail)
    go_wp2
    exact HK.out _ _ _ _ _ _ _ _ _ _ _ _ _ _ _ _ _ _ _ _ _ _ _ _ _ _ _ _ _ _ _ _ _ _ _ _ _ _ _ _ _ _ _ _ _ _ _ _ _ _ _ _ _ _ _ _ (hR.drewN _)
end Go.Proofs.Ytdefecnngccmoaa.Ed
namespace Go.Proofs.Ytdefecnngccmoaa.Ed
open Go.RowKit Go.Proofs.YtdefecnngccmoaaW.PrintWords QTells
set_option maxRecDepth 1000000 in
set_option maxHeartbeats 40000000 in
theorem pskip_3 (a b : ByteArray) (ha : a.size ≤ 60) (hb : b.size ≤ 60) (c : Lb.Cst) (w : World) (mb g gG i j : Nat) (G : List Int) (vout : Value) (acc : List S38) (hi : (i : Int) ≤ a.size) (hj : (j : Int) ≤ b.size)
    (hno : ∀ W, Box W g c → Calls Try.prog 37 #[.string (a.extract i a.size), .string (b.extract j b.size), .pointer (some ⟨g, 0, none⟩)] W (NoStep W))
    (K : Act → World → Prop) (Q : Exit → Act → World → Prop) (wr : World) (hP : PR w wr mb g gG c G vout acc) (v2 v3 v4 v5 v6 v7 v8 v9 v10 v13 v14 v19 v20 v21 v22 v23 v24 v25 v26 v27 v28 v29 v30 v31 v32 v33 v34 v35 v36 v37 v38 v39 v40 v41 v42 v43 v44 v45 v46 v47 v48 v49 v50 v51 v52 v53 v54 v55 v56 v57 v58 v59 v60 v61 v62 v63 v64 v65 v66 v67 v68 v69 v70 v71 v72 v73 v74 v75 v76 v77 v78 v79 v80 v81 v82 v83 v84 v85 v86 v87 v88 v89 v90 v91 v92 v93 v94 v95 v96 v97 v98 v99 v100 v101 v102 v103 v104 v105 v106 v107 v108 v109 v110 v111 v112 v113 v114 v115 v116 v117 v118 v119 v120 v121 v122 v123 v124 : Value)
    (hK : ∀ (u19 u20 u70 u71 u72 u73 u74 u75 u76 u77 u78 u79 u80 u81 u82 u83 u84 u85 u86 u87 u88 u89 u90 u91 u92 u93 u94 u95 u96 u97 u98 u99 u100 u101 u102 u103 u104 u105 u106 u107 u108 u109 u110 u111 u112 u113 u114 u115 u116 u117 u118 u119 u120 u121 u122 : Value) (W : World), PR w W mb g gG c G vout acc → K ⟨#[.string a, .string b, v2, v3, v4, v5, v6, v7, v8, v9, v10, .map (some mb), .pointer (some ⟨gG, 0, none⟩), v13, v14, vout, .int .i64 (i : Int), .int .i64 (j : Int), .int .u8 4, u19, u20, v21, v22, v23, v24, v25, v26, v27, v28, v29, v30, v31, v32, v33, v34, v35, v36, v37, v38, v39, v40, v41, v42, v43, v44, v45, v46, v47, v48, v49, v50, v51, v52, v53, v54, v55, v56, v57, v58, v59, v60, v61, v62, v63, v64, v65, v66, v67, v68, v69, u70, u71, u72, u73, u74, u75, u76, u77, u78, u79, u80, u81, u82, u83, u84, u85, u86, u87, u88, u89, u90, u91, u92, u93, u94, u95, u96, u97, u98, u99, u100, u101, u102, u103, u104, u105, u106, u107, u108, u109, u110, u111, u112, u113, u114, u115, u116, u117, u118, u119, u120, u121, u122, v123, v124], []⟩ W) :
    (bodyAt Try.f14 3).wp Try.prog (Exit.then K Q) ⟨#[.string a, .string b, v2, v3, v4, v5, v6, v7, v8, v9, v10, .map (some mb), .pointer (some ⟨gG, 0, none⟩), v13, v14, vout, .int .i64 (i : Int), .int .i64 (j : Int), .int .u8 3, v19, v20, v21, v22, v23, v24, v25, v26, v27, v28, v29, v30, v31, v32, v33, v34, v35, v36, v37, v38, v39, v40, v41, v42, v43, v44, v45, v46, v47, v48, v49, v50, v51, v52, v53, v54, v55, v56, v57, v58, v59, v60, v61, v62, v63, v64, v65, v66, v67, v68, v69, v70, v71, v72, v73, v74, v75, v76, v77, v78, v79, v80, v81, v82, v83, v84, v85, v86, v87, v88, v89, v90, v91, v92, v93, v94, v95, v96, v97, v98, v99, v100, v101, v102, v103, v104, v105, v106, v107, v108, v109, v110, v111, v112, v113, v114, v115, v116, v117, v118, v119, v120, v121, v122, v123, v124], []⟩ wr := by
  have HK := Lib.hid hK
  clear hK
  have l1 := (fits_look hP.drew.p.fits).2.2.1
  have l2 := (fits_look (hP.alloc (.cells #[.int .i64 0, .int .i64 0, .int .i64 0, .int .u8 0, .int .u8 0] 73)).drew.p.fits).2.2.1
  have b1 := Lib.hid hP.drew.p.fits.2
  have b2 := Lib.hid (hP.alloc (.cells #[.int .i64 0, .int .i64 0, .int .i64 0, .int .u8 0, .int .u8 0] 73)).drew.p.fits.2
  conv => arg 2; whnf
  go_wp2
  refine wp_region_noPanic ?_
  go_region_with (go_at_call 37; first | (refine (hno _ b1.out).mono ?_; rintro e W1 ⟨p1_, p2_, p3_, p4_, p5_, rfl, hb1⟩; have hQ := hP.drew.keep hb1; try dsimp only [stepV]) | (refine (hno _ b2.out).mono ?_; rintro e W1 ⟨p1_, p2_, p3_, p4_, p5_, rfl, hb1⟩; have hQ := (hP.alloc (.cells #[.int .i64 0, .int .i64 0, .int .i64 0, .int .u8 0, .int .u8 0] 73)).drew.keep hb1; have hz := (hb1.block wr.heap.size (by simp)).trans (blk_new wr (.cells #[.int .i64 0, .int .i64 0, .int .i64 0, .int .u8 0, .int .u8 0] 73)); have y0_ := (blk_cell hz 0).trans rfl; have y1_ := (blk_cell hz 1).trans rfl; have y2_ := (blk_cell hz 2).trans rfl; have y3_ := (blk_cell hz 3).trans rfl; have y4_ := (blk_cell hz 4).trans rfl; have f0_ := blk_frozen hz 0; have f1_ := blk_frozen hz 1; have f2_ := blk_frozen hz 2; have f3_ := blk_frozen hz 3; have f4_ := blk_frozen hz 4; try dsimp only [stepV]))
  all_goals refine NoPanic.normal ?_
  all_goals go_simp
  all_goals
    first
    | (have hR := hQ.alloc (.cells #[.int .i64 p1_, .int .i64 p2_, .int .i64 p3_, .int .u8 p4_, .int .u8 p5_] 73)
       have hS : SBox (W1.alloc (.cells #[.int .i64 p1_, .int .i64 p2_, .int .i64 p3_, .int .u8 p4_, .int .u8 p5_] 73)) W1.heap.size p1_ p2_ p3_ p4_ p5_ := blk_new _ _
       clear hQ hb1 l1 l2 b1 b2
       revert hR hS
       generalize W1.alloc (.cells #[.int .i64 p1_, .int .i64 p2_, .int .i64 p3_, .int .u8 p4_, .int .u8 p5_] 73) = W2
       generalize W1.heap.size = gb
       fail_if_success (have := hz)
       intro hR hS)
    | (obtain ⟨hR, hS⟩ := hQ.put5 hz hP.p.below.size p1_ p2_ p3_ p4_ p5_
       clear y0_ y1_ y2_ y3_ y4_ f0_ f1_ f2_ f3_ f4_ hz hQ hb1 l1 l2 b1 b2
       revert hR hS
       generalize ((((W1.setCell ⟨wr.heap.size, 0, none⟩ (.int .i64 p1_)).setCell ⟨wr.heap.size, 1, none⟩ (.int .i64 p2_)).setCell ⟨wr.heap.size, 2, none⟩ (.int .i64 p3_)).setCell ⟨wr.heap.size, 3, none⟩ (.int .u8 p4_)).setCell ⟨wr.heap.size, 4, none⟩ (.int .u8 p5_) = W2
       generalize wr.heap.size = gb
       intro hR hS)
  all_goals
    go_wp2
    go_quiet (fail)
    go_wp2
    exact HK.out _ _ _ _ _ _ _ _ _ _ _ _ _ _ _ _ _ _ _ _ _ _ _ _ _ _ _ _ _ _ _ _ _ _ _ _ _ _ _ _ _ _ _ _ _ _ _ _ _ _ _ _ _ _ _ _ (hR.drewN _)
end Go.Proofs.Ytdefecnngccmoaa.Ed
namespace Go.Proofs.Ytdefecnngccmoaa.Ed
open Go.RowKit Go.Proofs.YtdefecnngccmoaaW.PrintWords QTells
set_option maxRecDepth 1000000 in
set_option maxHeartbeats 40000000 in
theorem pskip_4 (a b : ByteArray) (ha : a.size ≤ 60) (hb : b.size ≤ 60) (c : Lb.Cst) (w : World) (mb g gG i j : Nat) (G : List Int) (vout : Value) (acc : List S38) (hi : (i : Int) ≤ a.size) (hj : (j : Int) ≤ b.size)
    (hno : ∀ W, Box W g c → Calls Try.prog 38 #[.string (a.extract i a.size), .string (b.extract j b.size), .pointer (some ⟨g, 0, none⟩)] W (NoStep W))
    (K : Act → World → Prop) (Q : Exit → Act → World → Prop) (wr : World) (hP : PR w wr mb g gG c G vout acc) (v2 v3 v4 v5 v6 v7 v8 v9 v10 v13 v14 v19 v20 v21 v22 v23 v24 v25 v26 v27 v28 v29 v30 v31 v32 v33 v34 v35 v36 v37 v38 v39 v40 v41 v42 v43 v44 v45 v46 v47 v48 v49 v50 v51 v52 v53 v54 v55 v56 v57 v58 v59 v60 v61 v62 v63 v64 v65 v66 v67 v68 v69 v70 v71 v72 v73 v74 v75 v76 v77 v78 v79 v80 v81 v82 v83 v84 v85 v86 v87 v88 v89 v90 v91 v92 v93 v94 v95 v96 v97 v98 v99 v100 v101 v102 v103 v104 v105 v106 v107 v108 v109 v110 v111 v112 v113 v114 v115 v116 v117 v118 v119 v120 v121 v122 v123 v124 : Value)
    (hK : ∀ (u19 u20 u70 u71 u72 u73 u74 u75 u76 u77 u78 u79 u80 u81 u82 u83 u84 u85 u86 u87 u88 u89 u90 u91 u92 u93 u94 u95 u96 u97 u98 u99 u100 u101 u102 u103 u104 u105 u106 u107 u108 u109 u110 u111 u112 u113 u114 u115 u116 u117 u118 u119 u120 u121 u122 : Value) (W : World), PR w W mb g gG c G vout acc → K ⟨#[.string a, .string b, v2, v3, v4, v5, v6, v7, v8, v9, v10, .map (some mb), .pointer (some ⟨gG, 0, none⟩), v13, v14, vout, .int .i64 (i : Int), .int .i64 (j : Int), .int .u8 5, u19, u20, v21, v22, v23, v24, v25, v26, v27, v28, v29, v30, v31, v32, v33, v34, v35, v36, v37, v38, v39, v40, v41, v42, v43, v44, v45, v46, v47, v48, v49, v50, v51, v52, v53, v54, v55, v56, v57, v58, v59, v60, v61, v62, v63, v64, v65, v66, v67, v68, v69, u70, u71, u72, u73, u74, u75, u76, u77, u78, u79, u80, u81, u82, u83, u84, u85, u86, u87, u88, u89, u90, u91, u92, u93, u94, u95, u96, u97, u98, u99, u100, u101, u102, u103, u104, u105, u106, u107, u108, u109, u110, u111, u112, u113, u114, u115, u116, u117, u118, u119, u120, u121, u122, v123, v124], []⟩ W) :
    (bodyAt Try.f14 3).wp Try.prog (Exit.then K Q) ⟨#[.string a, .string b, v2, v3, v4, v5, v6, v7, v8, v9, v10, .map (some mb), .pointer (some ⟨gG, 0, none⟩), v13, v14, vout, .int .i64 (i : Int), .int .i64 (j : Int), .int .u8 4, v19, v20, v21, v22, v23, v24, v25, v26, v27, v28, v29, v30, v31, v32, v33, v34, v35, v36, v37, v38, v39, v40, v41, v42, v43, v44, v45, v46, v47, v48, v49, v50, v51, v52, v53, v54, v55, v56, v57, v58, v59, v60, v61, v62, v63, v64, v65, v66, v67, v68, v69, v70, v71, v72, v73, v74, v75, v76, v77, v78, v79, v80, v81, v82, v83, v84, v85, v86, v87, v88, v89, v90, v91, v92, v93, v94, v95, v96, v97, v98, v99, v100, v101, v102, v103, v104, v105, v106, v107, v108, v109, v110, v111, v112, v113, v114, v115, v116, v117, v118, v119, v120, v121, v122, v123, v124], []⟩ wr := by
  have HK := Lib.hid hK
  clear hK
  have l1 := (fits_look hP.drew.p.fits).2.2.2.1
  have l2 := (fits_look (hP.alloc (.cells #[.int .i64 0, .int .i64 0, .int .i64 0, .int .u8 0, .int .u8 0] 73)).drew.p.fits).2.2.2.1
  have b1 := Lib.hid hP.drew.p.fits.2
  have b2 := Lib.hid (hP.alloc (.cells #[.int .i64 0, .int .i64 0, .int .i64 0, .int .u8 0, .int .u8 0] 73)).drew.p.fits.2
  conv => arg 2; whnf
  go_wp2
  refine wp_region_noPanic ?_
  go_region_with (go_at_call 38; first | (refine (hno _ b1.out).mono ?_; rintro e W1 ⟨p1_, p2_, p3_, p4_, p5_, rfl, hb1⟩; have hQ := hP.drew.keep hb1; try dsimp only [stepV]) | (refine (hno _ b2.out).mono ?_; rintro e W1 ⟨p1_, p2_, p3_, p4_, p5_, rfl, hb1⟩; have hQ := (hP.alloc (.cells #[.int .i64 0, .int .i64 0, .int .i64 0, .int .u8 0, .int .u8 0] 73)).drew.keep hb1; have hz := (hb1.block wr.heap.size (by simp)).trans (blk_new wr (.cells #[.int .i64 0, .int .i64 0, .int .i64 0, .int .u8 0, .int .u8 0] 73)); have y0_ := (blk_cell hz 0).trans rfl; have y1_ := (blk_cell hz 1).trans rfl; have y2_ := (blk_cell hz 2).trans rfl; have y3_ := (blk_cell hz 3).trans rfl; have y4_ := (blk_cell hz 4).trans rfl; have f0_ := blk_frozen hz 0; have f1_ := blk_frozen hz 1; have f2_ := blk_frozen hz 2; have f3_ := blk_frozen hz 3; have f4_ := blk_frozen hz 4; try dsimp only [stepV]))
  all_goals refine NoPanic.normal ?_
  all_goals go_simp
  all_goals
    first
    | (have hR := hQ.alloc (.cells #[.int .i64 p1_, .int .i64 p2_, .int .i64 p3_, .int .u8 p4_, .int .u8 p5_] 73)
       have hS : SBox (W1.alloc (.cells #[.int .i64 p1_, .int .i64 p2_, .int .i64 p3_, .int .u8 p4_, .int .u8 p5_] 73)) W1.heap.size p1_ p2_ p3_ p4_ p5_ := blk_new _ _
       clear hQ hb1 l1 l2 b1 b2
       revert hR hS
       generalize W1.alloc (.cells #[.int .i64 p1_, .int .i64 p2_, .int .i64 p3_, .int .u8 p4_, .int .u8 p5_] 73) = W2
       generalize W1.heap.size = gb
       fail_if_success (have := hz)
       intro hR hS)
    | (obtain ⟨hR, hS⟩ := hQ.put5 hz hP.p.below.size p1_ p2_ p3_ p4_ p5_
       clear y0_ y1_ y2_ y3_ y4_ f0_ f1_ f2_ f3_ f4_ hz hQ hb1 l1 l2 b1 b2
       revert hR hS
       generalize ((((W1.setCell ⟨wr.heap.size, 0, none⟩ (.int .i64 p1_)).setCell ⟨wr.heap.size, 1, none⟩ (.int .i64 p2_)).setCell ⟨wr.heap.size, 2, none⟩ (.int .i64 p3_)).setCell ⟨wr.heap.size, 3, none⟩ (.int .u8 p4_)).setCell ⟨wr.heap.size, 4, none⟩ (.int .u8 p5_) = W2
       generalize wr.heap.size = gb
       intro hR hS)
  all_goals
    go_wp2
    go_quiet (fail)
    go_wp2
    exact HK.out _ _ _ _ _ _ _ _ _ _ _ _ _ _ _ _ _ _ _ _ _ _ _ _ _ _ _ _ _ _ _ _ _ _ _ _ _ _ _ _ _ _ _ _ _ _ _ _ _ _ _ _ _ _ _ _ (hR.drewN _)
end Go.Proofs.Ytdefecnngccmoaa.Ed
namespace Go.Proofs.Ytdefecnngccmoaa.Ed
open Go.RowKit Go.Proofs.YtdefecnngccmoaaW.PrintWords QTells
set_option maxRecDepth 1000000 in
set_option maxHeartbeats 40000000 in
theorem pmiss_1 (a b : ByteArray) (ha : a.size ≤ 60) (hb : b.size ≤ 60) (c : Lb.Cst) (w : World) (mb g gG i j : Nat) (G : List Int) (vout : Value) (acc : List S38) (hi : (i : Int) ≤ a.size) (hj : (j : Int) ≤ b.size)
    (nn kk bb D1 D2 : Int) (hyes : ∀ W, Box W g c → Calls Try.prog 35 #[.string (a.extract i a.size), .string (b.extract j b.size)] W (StepPost 1 1 nn kk bb true W)) (hx : i + 1 ≤ 60) (hy : j + 1 ≤ 60) (h1 : G.getD ((i + 1) * 61 + (j + 1)) 0 = D1) (h2 : G.getD (i * 61 + j) 0 = D2) (d1 : 0 ≤ D1) (d2 : D1 ≤ 120000) (n1 : 0 ≤ nn) (n2 : nn ≤ 1000) (hd : (nn + D1 == D2) = false)
    (K : Act → World → Prop) (Q : Exit → Act → World → Prop) (wr : World) (hP : PR w wr mb g gG c G vout acc) (v2 v3 v4 v5 v6 v7 v8 v9 v10 v13 v14 v19 v20 v21 v22 v23 v24 v25 v26 v27 v28 v29 v30 v31 v32 v33 v34 v35 v36 v37 v38 v39 v40 v41 v42 v43 v44 v45 v46 v47 v48 v49 v50 v51 v52 v53 v54 v55 v56 v57 v58 v59 v60 v61 v62 v63 v64 v65 v66 v67 v68 v69 v70 v71 v72 v73 v74 v75 v76 v77 v78 v79 v80 v81 v82 v83 v84 v85 v86 v87 v88 v89 v90 v91 v92 v93 v94 v95 v96 v97 v98 v99 v100 v101 v102 v103 v104 v105 v106 v107 v108 v109 v110 v111 v112 v113 v114 v115 v116 v117 v118 v119 v120 v121 v122 v123 v124 : Value)
    (hK : ∀ (u19 u20 u70 u71 u72 u73 u74 u75 u76 u77 u78 u79 u80 u81 u82 u83 u84 u85 u86 u87 u88 u89 u90 u91 u92 u93 u94 u95 u96 u97 u98 u99 u100 u101 u102 u103 u104 u105 u106 u107 u108 u109 u110 u111 u112 u113 u114 u115 u116 u117 u118 u119 u120 u121 u122 : Value) (W : World), PR w W mb g gG c G vout acc → K ⟨#[.string a, .string b, v2, v3, v4, v5, v6, v7, v8, v9, v10, .map (some mb), .pointer (some ⟨gG, 0, none⟩), v13, v14, vout, .int .i64 (i : Int), .int .i64 (j : Int), .int .u8 2, u19, u20, v21, v22, v23, v24, v25, v26, v27, v28, v29, v30, v31, v32, v33, v34, v35, v36, v37, v38, v39, v40, v41, v42, v43, v44, v45, v46, v47, v48, v49, v50, v51, v52, v53, v54, v55, v56, v57, v58, v59, v60, v61, v62, v63, v64, v65, v66, v67, v68, v69, u70, u71, u72, u73, u74, u75, u76, u77, u78, u79, u80, u81, u82, u83, u84, u85, u86, u87, u88, u89, u90, u91, u92, u93, u94, u95, u96, u97, u98, u99, u100, u101, u102, u103, u104, u105, u106, u107, u108, u109, u110, u111, u112, u113, u114, u115, u116, u117, u118, u119, u120, u121, u122, v123, v124], []⟩ W) :
    (bodyAt Try.f14 3).wp Try.prog (Exit.then K Q) ⟨#[.string a, .string b, v2, v3, v4, v5, v6, v7, v8, v9, v10, .map (some mb), .pointer (some ⟨gG, 0, none⟩), v13, v14, vout, .int .i64 (i : Int), .int .i64 (j : Int), .int .u8 1, v19, v20, v21, v22, v23, v24, v25, v26, v27, v28, v29, v30, v31, v32, v33, v34, v35, v36, v37, v38, v39, v40, v41, v42, v43, v44, v45, v46, v47, v48, v49, v50, v51, v52, v53, v54, v55, v56, v57, v58, v59, v60, v61, v62, v63, v64, v65, v66, v67, v68, v69, v70, v71, v72, v73, v74, v75, v76, v77, v78, v79, v80, v81, v82, v83, v84, v85, v86, v87, v88, v89, v90, v91, v92, v93, v94, v95, v96, v97, v98, v99, v100, v101, v102, v103, v104, v105, v106, v107, v108, v109, v110, v111, v112, v113, v114, v115, v116, v117, v118, v119, v120, v121, v122, v123, v124], []⟩ wr := by
  have HK := Lib.hid hK
  clear hK
  have H1 := Lib.hid h1
  have H2 := Lib.hid h2
  clear h1 h2
  have l1 := (fits_look hP.drew.p.fits).1
  have l2 := (fits_look (hP.alloc (.cells #[.int .i64 0, .int .i64 0, .int .i64 0, .int .u8 0, .int .u8 0] 73)).drew.p.fits).1
  have b1 := Lib.hid hP.drew.p.fits.2
  have b2 := Lib.hid (hP.alloc (.cells #[.int .i64 0, .int .i64 0, .int .i64 0, .int .u8 0, .int .u8 0] 73)).drew.p.fits.2
  conv => arg 2; whnf
  go_wp2
  refine wp_region_noPanic ?_
  go_region_with (go_at_call 35; first | (refine (hyes _ b1.out).mono ?_; rintro e W1 ⟨rfl, hb1⟩; have hQ := hP.drew.keep hb1; try dsimp only [stepV]) | (refine (hyes _ b2.out).mono ?_; rintro e W1 ⟨rfl, hb1⟩; have hQ := (hP.alloc (.cells #[.int .i64 0, .int .i64 0, .int .i64 0, .int .u8 0, .int .u8 0] 73)).drew.keep hb1; have hz := (hb1.block wr.heap.size (by simp)).trans (blk_new wr (.cells #[.int .i64 0, .int .i64 0, .int .i64 0, .int .u8 0, .int .u8 0] 73)); have y0_ := (blk_cell hz 0).trans rfl; have y1_ := (blk_cell hz 1).trans rfl; have y2_ := (blk_cell hz 2).trans rfl; have y3_ := (blk_cell hz 3).trans rfl; have y4_ := (blk_cell hz 4).trans rfl; have f0_ := blk_frozen hz 0; have f1_ := blk_frozen hz 1; have f2_ := blk_frozen hz 2; have f3_ := blk_frozen hz 3; have f4_ := blk_frozen hz 4; try dsimp only [stepV]))
  all_goals refine NoPanic.normal ?_
  all_goals go_simp
  all_goals
    first
    | (have hR := hQ.alloc (.cells #[.int .i64 1, .int .i64 1, .int .i64 nn, .int .u8 kk, .int .u8 bb] 73)
       have hS : SBox (W1.alloc (.cells #[.int .i64 1, .int .i64 1, .int .i64 nn, .int .u8 kk, .int .u8 bb] 73)) W1.heap.size 1 1 nn kk bb := blk_new _ _
       clear hQ hb1 l1 l2 b1 b2
       revert hR hS
       generalize W1.alloc (.cells #[.int .i64 1, .int .i64 1, .int .i64 nn, .int .u8 kk, .int .u8 bb] 73) = W2
       generalize W1.heap.size = gb
       fail_if_success (have := hz)
       intro hR hS)
    | (obtain ⟨hR, hS⟩ := hQ.put5 hz hP.p.below.size 1 1 nn kk bb
       clear y0_ y1_ y2_ y3_ y4_ f0_ f1_ f2_ f3_ f4_ hz hQ hb1 l1 l2 b1 b2
       revert hR hS
       generalize ((((W1.setCell ⟨wr.heap.size, 0, none⟩ (.int .i64 1)).setCell ⟨wr.heap.size, 1, none⟩ (.int .i64 1)).setCell ⟨wr.heap.size, 2, none⟩ (.int .i64 nn)).setCell ⟨wr.heap.size, 3, none⟩ (.int .u8 kk)).setCell ⟨wr.heap.size, 4, none⟩ (.int .u8 bb) = W2
       generalize wr.heap.size = gb
       intro hR hS)
  all_goals
    obtain ⟨y0, y1, y2, y3, y4⟩ := hS.cells
    have g1 := (hR.p.at_ ((i + 1) * 61 + (j + 1)) (by omega)).trans (by rw [H1.out])
    have g2 := (hR.p.at_ (i * 61 + j) (by omega)).trans (by rw [H2.out])
    have w1_ : IntKind.i64.wrap ((i : Int) + 1) = (i : Int) + 1 := IntWalk.i64_in _ (by omega)
    have w2_ : IntKind.i64.wrap ((j : Int) + 1) = (j : Int) + 1 := IntWalk.i64_in _ (by omega)
    have w3_ : ((i : Int) + 1).toNat = i + 1 := by omega
    have w4_ : ((j : Int) + 1).toNat = j + 1 := by omega
    have w5_ : (i : Int) + 1 < 61 := by omega
    have w6_ : (j : Int) + 1 < 61 := by omega
    have w7_ : 0 ≤ (i : Int) + 1 := by omega
    have w8_ : 0 ≤ (j : Int) + 1 := by omega
    have w9_ : IntKind.i64.wrap (nn + D1) = nn + D1 := IntWalk.i64_in _ (by omega)
    have wa_ : (i : Int) < 61 := by omega
    have wb_ : (j : Int) < 61 := by omega
    go_wp2
    go_quiet (fail)
    clear w1_ w2_ w3_ w4_ w5_ w6_ w7_ w8_ w9_ wa_ wb_
    go_wp2
    exact HK.out _ _ _ _ _ _ _ _ _ _ _ _ _ _ _ _ _ _ _ _ _ _ _ _ _ _ _ _ _ _ _ _ _ _ _ _ _ _ _ _ _ _ _ _ _ _ _ _ _ _ _ _ _ _ _ _ (hR.drewN _)
end Go.Proofs.Ytdefecnngccmoaa.Ed
namespace Go.Proofs.Ytdefecnngccmoaa.Ed
open Go.RowKit Go.Proofs.YtdefecnngccmoaaW.PrintWords QTells
set_option maxRecDepth 1000000 in
set_option maxHeartbeats 40000000 in
theorem ptake_1 (a b : ByteArray) (ha : a.size ≤ 60) (hb : b.size ≤ 60) (c : Lb.Cst) (w : World) (mb g gG i j : Nat) (G : List Int) (vout : Value) (acc : List S38) (hi : (i : Int) ≤ a.size) (hj : (j : Int) ≤ b.size)
    (nn kk bb D1 D2 : Int) (hyes : ∀ W, Box W g c → Calls Try.prog 35 #[.string (a.extract i a.size), .string (b.extract j b.size)] W (StepPost 1 1 nn kk bb true W)) (hx : i + 1 ≤ 60) (hy : j + 1 ≤ 60) (h1 : G.getD ((i + 1) * 61 + (j + 1)) 0 = D1) (h2 : G.getD (i * 61 + j) 0 = D2) (d1 : 0 ≤ D1) (d2 : D1 ≤ 120000) (n1 : 0 ≤ nn) (n2 : nn ≤ 1000) (hd : (nn + D1 == D2) = true) (hn : acc.length ≤ 1000)
    (K : Act → World → Prop) (Q : Exit → Act → World → Prop) (wr : World) (hP : PR w wr mb g gG c G vout acc) (v2 v3 v4 v5 v6 v7 v8 v9 v10 v13 v14 v19 v20 v21 v22 v23 v24 v25 v26 v27 v28 v29 v30 v31 v32 v33 v34 v35 v36 v37 v38 v39 v40 v41 v42 v43 v44 v45 v46 v47 v48 v49 v50 v51 v52 v53 v54 v55 v56 v57 v58 v59 v60 v61 v62 v63 v64 v65 v66 v67 v68 v69 v70 v71 v72 v73 v74 v75 v76 v77 v78 v79 v80 v81 v82 v83 v84 v85 v86 v87 v88 v89 v90 v91 v92 v93 v94 v95 v96 v97 v98 v99 v100 v101 v102 v103 v104 v105 v106 v107 v108 v109 v110 v111 v112 v113 v114 v115 v116 v117 v118 v119 v120 v121 v122 v123 v124 : Value)
    (hK : ∀ (u19 u20 u70 u71 u72 u73 u74 u75 u76 u77 u78 u79 u80 u81 u82 u83 u84 u85 u86 u87 u88 u89 u90 u91 u92 u93 u94 u95 u96 u97 u98 u99 u100 u101 u102 u103 u104 u105 u106 u107 u108 u109 u110 u111 u112 u113 u114 u115 u116 u117 u118 u119 u120 u121 u122 v' : Value) (W : World), PR w W mb g gG c G v' (acc ++ [⟨kk, bb⟩]) → Q (.exit 5) ⟨#[.string a, .string b, v2, v3, v4, v5, v6, v7, v8, v9, v10, .map (some mb), .pointer (some ⟨gG, 0, none⟩), v13, v14, v', .int .i64 ((i : Int) + 1), .int .i64 ((j : Int) + 1), .int .u8 1, u19, u20, v21, v22, v23, v24, v25, v26, v27, v28, v29, v30, v31, v32, v33, v34, v35, v36, v37, v38, v39, v40, v41, v42, v43, v44, v45, v46, v47, v48, v49, v50, v51, v52, v53, v54, v55, v56, v57, v58, v59, v60, v61, v62, v63, v64, v65, v66, v67, v68, v69, u70, u71, u72, u73, u74, u75, u76, u77, u78, u79, u80, u81, u82, u83, u84, u85, u86, u87, u88, u89, u90, u91, u92, u93, u94, u95, u96, u97, u98, u99, u100, u101, u102, u103, u104, u105, u106, u107, u108, u109, u110, u111, u112, u113, u114, u115, u116, u117, u118, u119, u120, u121, u122, v123, v124], []⟩ W) :
    (bodyAt Try.f14 3).wp Try.prog (Exit.then K Q) ⟨#[.string a, .string b, v2, v3, v4, v5, v6, v7, v8, v9, v10, .map (some mb), .pointer (some ⟨gG, 0, none⟩), v13, v14, vout, .int .i64 (i : Int), .int .i64 (j : Int), .int .u8 1, v19, v20, v21, v22, v23, v24, v25, v26, v27, v28, v29, v30, v31, v32, v33, v34, v35, v36, v37, v38, v39, v40, v41, v42, v43, v44, v45, v46, v47, v48, v49, v50, v51, v52, v53, v54, v55, v56, v57, v58, v59, v60, v61, v62, v63, v64, v65, v66, v67, v68, v69, v70, v71, v72, v73, v74, v75, v76, v77, v78, v79, v80, v81, v82, v83, v84, v85, v86, v87, v88, v89, v90, v91, v92, v93, v94, v95, v96, v97, v98, v99, v100, v101, v102, v103, v104, v105, v106, v107, v108, v109, v110, v111, v112, v113, v114, v115, v116, v117, v118, v119, v120, v121, v122, v123, v124], []⟩ wr := by
  have HK := Lib.hid hK
  clear hK
  have H1 := Lib.hid h1
  have H2 := Lib.hid h2
  clear h1 h2
  have l1 := (fits_look hP.drew.p.fits).1
  have l2 := (fits_look (hP.alloc (.cells #[.int .i64 0, .int .i64 0, .int .i64 0, .int .u8 0, .int .u8 0] 73)).drew.p.fits).1
  have b1 := Lib.hid hP.drew.p.fits.2
  have b2 := Lib.hid (hP.alloc (.cells #[.int .i64 0, .int .i64 0, .int .i64 0, .int .u8 0, .int .u8 0] 73)).drew.p.fits.2
  conv => arg 2; whnf
  go_wp2
  refine wp_region_noPanic ?_
  go_region_with (go_at_call 35; first | (refine (hyes _ b1.out).mono ?_; rintro e W1 ⟨rfl, hb1⟩; have hQ := hP.drew.keep hb1; try dsimp only [stepV]) | (refine (hyes _ b2.out).mono ?_; rintro e W1 ⟨rfl, hb1⟩; have hQ := (hP.alloc (.cells #[.int .i64 0, .int .i64 0, .int .i64 0, .int .u8 0, .int .u8 0] 73)).drew.keep hb1; have hz := (hb1.block wr.heap.size (by simp)).trans (blk_new wr (.cells #[.int .i64 0, .int .i64 0, .int .i64 0, .int .u8 0, .int .u8 0] 73)); have y0_ := (blk_cell hz 0).trans rfl; have y1_ := (blk_cell hz 1).trans rfl; have y2_ := (blk_cell hz 2).trans rfl; have y3_ := (blk_cell hz 3).trans rfl; have y4_ := (blk_cell hz 4).trans rfl; have f0_ := blk_frozen hz 0; have f1_ := blk_frozen hz 1; have f2_ := blk_frozen hz 2; have f3_ := blk_frozen hz 3; have f4_ := blk_frozen hz 4; try dsimp only [stepV]))
  all_goals refine NoPanic.normal ?_
  all_goals go_simp
  all_goals
    first
    | (have hR := hQ.alloc (.cells #[.int .i64 1, .int .i64 1, .int .i64 nn, .int .u8 kk, .int .u8 bb] 73)
       have hS : SBox (W1.alloc (.cells #[.int .i64 1, .int .i64 1, .int .i64 nn, .int .u8 kk, .int .u8 bb] 73)) W1.heap.size 1 1 nn kk bb := blk_new _ _
       clear hQ hb1 l1 l2 b1 b2
       revert hR hS
       generalize W1.alloc (.cells #[.int .i64 1, .int .i64 1, .int .i64 nn, .int .u8 kk, .int .u8 bb] 73) = W2
       generalize W1.heap.size = gb
       fail_if_success (have := hz)
       intro hR hS)
    | (obtain ⟨hR, hS⟩ := hQ.put5 hz hP.p.below.size 1 1 nn kk bb
       clear y0_ y1_ y2_ y3_ y4_ f0_ f1_ f2_ f3_ f4_ hz hQ hb1 l1 l2 b1 b2
       revert hR hS
       generalize ((((W1.setCell ⟨wr.heap.size, 0, none⟩ (.int .i64 1)).setCell ⟨wr.heap.size, 1, none⟩ (.int .i64 1)).setCell ⟨wr.heap.size, 2, none⟩ (.int .i64 nn)).setCell ⟨wr.heap.size, 3, none⟩ (.int .u8 kk)).setCell ⟨wr.heap.size, 4, none⟩ (.int .u8 bb) = W2
       generalize wr.heap.size = gb
       intro hR hS)
  all_goals
    obtain ⟨y0, y1, y2, y3, y4⟩ := hS.cells
    have g1 := (hR.p.at_ ((i + 1) * 61 + (j + 1)) (by omega)).trans (by rw [H1.out])
    have g2 := (hR.p.at_ (i * 61 + j) (by omega)).trans (by rw [H2.out])
    have w1_ : IntKind.i64.wrap ((i : Int) + 1) = (i : Int) + 1 := IntWalk.i64_in _ (by omega)
    have w2_ : IntKind.i64.wrap ((j : Int) + 1) = (j : Int) + 1 := IntWalk.i64_in _ (by omega)
    have w3_ : ((i : Int) + 1).toNat = i + 1 := by omega
    have w4_ : ((j : Int) + 1).toNat = j + 1 := by omega
    have w5_ : (i : Int) + 1 < 61 := by omega
    have w6_ : (j : Int) + 1 < 61 := by omega
    have w7_ : 0 ≤ (i : Int) + 1 := by omega
    have w8_ : 0 ≤ (j : Int) + 1 := by omega
    have w9_ : IntKind.i64.wrap (nn + D1) = nn + D1 := IntWalk.i64_in _ (by omega)
    have wa_ : (i : Int) < 61 := by omega
    have wb_ : (j : Int) < 61 := by omega
    go_wp2
    go_quiet (fail)
    clear w1_ w2_ w3_ w4_ w5_ w6_ w7_ w8_ w9_ wa_ wb_
    have hR2 := hR.drewN nq
    revert hR2
    have y0' : (W2.drewN nq).cell? ⟨gb, 0, none⟩ = _ := y0
    have y1' : (W2.drewN nq).cell? ⟨gb, 1, none⟩ = _ := y1
    have y3' : (W2.drewN nq).cell? ⟨gb, 3, none⟩ = _ := y3
    have y4' : (W2.drewN nq).cell? ⟨gb, 4, none⟩ = _ := y4
    have hz' : SBox (W2.drewN nq) gb _ _ _ _ _ := hS
    revert y0' y1' y3' y4' hz'
    clear y0 y1 y2 y3 y4 g1 g2 hR hS
    generalize W2.drewN nq = W3
    intro y0 y1 y3 y4 hz hR
    go_wp2_with (at_builtin; refine Kd.R_append k38 (w0 := w) w.heap.size rfl (.tmp 110) (.tmp 113) 33 38 (.agg #[(.int .u8 0), (.int .u8 0)]) 2 rfl Try.underlying33 info38 rfl (by decide) (by omega) vout acc (⟨kk, bb⟩ : S38) [.int .u8 kk, .int .u8 bb] (fun _ => True) (fun _ => False) rfl rfl (k38_mkM _ _ _ _) (fun _ h => h.elim) (fun _ _ => trivial) hR.r hR.p.below hR.p.below.size (by omega) ?_; intro v1 w1 HO1 HB1 hg1 _; have hR1 : PR w w1 mb g gG c G v1 (acc ++ [⟨kk, bb⟩]) := ⟨(hR.p.grown hR.r hg1 HB1), HO1⟩; have z1 : SBox w1 gb _ _ _ _ _ := (hg1.block gb (blk_lt hz) (Kd_ne hR.r hz)).trans hz; obtain ⟨y0, y1, y2, y3, y4⟩ := z1.cells)
    exact HK.out _ _ _ _ _ _ _ _ _ _ _ _ _ _ _ _ _ _ _ _ _ _ _ _ _ _ _ _ _ _ _ _ _ _ _ _ _ _ _ _ _ _ _ _ _ _ _ _ _ _ _ _ _ _ _ _ _ hR1
end Go.Proofs.Ytdefecnngccmoaa.Ed
namespace Go.Proofs.Ytdefecnngccmoaa.Ed
open Go.RowKit Go.Proofs.YtdefecnngccmoaaW.PrintWords QTells
set_option maxRecDepth 1000000 in
set_option maxHeartbeats 40000000 in
theorem pmiss_2 (a b : ByteArray) (ha : a.size ≤ 60) (hb : b.size ≤ 60) (c : Lb.Cst) (w : World) (mb g gG i j : Nat) (G : List Int) (vout : Value) (acc : List S38) (hi : (i : Int) ≤ a.size) (hj : (j : Int) ≤ b.size)
    (nn kk bb D1 D2 : Int) (hyes : ∀ W, Box W g c → Calls Try.prog 36 #[.string (a.extract i a.size), .string (b.extract j b.size), .pointer (some ⟨g, 0, none⟩)] W (StepPost 1 1 nn kk bb true W)) (hx : i + 1 ≤ 60) (hy : j + 1 ≤ 60) (h1 : G.getD ((i + 1) * 61 + (j + 1)) 0 = D1) (h2 : G.getD (i * 61 + j) 0 = D2) (d1 : 0 ≤ D1) (d2 : D1 ≤ 120000) (n1 : 0 ≤ nn) (n2 : nn ≤ 1000) (hd : (nn + D1 == D2) = false)
    (K : Act → World → Prop) (Q : Exit → Act → World → Prop) (wr : World) (hP : PR w wr mb g gG c G vout acc) (v2 v3 v4 v5 v6 v7 v8 v9 v10 v13 v14 v19 v20 v21 v22 v23 v24 v25 v26 v27 v28 v29 v30 v31 v32 v33 v34 v35 v36 v37 v38 v39 v40 v41 v42 v43 v44 v45 v46 v47 v48 v49 v50 v51 v52 v53 v54 v55 v56 v57 v58 v59 v60 v61 v62 v63 v64 v65 v66 v67 v68 v69 v70 v71 v72 v73 v74 v75 v76 v77 v78 v79 v80 v81 v82 v83 v84 v85 v86 v87 v88 v89 v90 v91 v92 v93 v94 v95 v96 v97 v98 v99 v100 v101 v102 v103 v104 v105 v106 v107 v108 v109 v110 v111 v112 v113 v114 v115 v116 v117 v118 v119 v120 v121 v122 v123 v124 : Value)
    (hK : ∀ (u19 u20 u70 u71 u72 u73 u74 u75 u76 u77 u78 u79 u80 u81 u82 u83 u84 u85 u86 u87 u88 u89 u90 u91 u92 u93 u94 u95 u96 u97 u98 u99 u100 u101 u102 u103 u104 u105 u106 u107 u108 u109 u110 u111 u112 u113 u114 u115 u116 u117 u118 u119 u120 u121 u122 : Value) (W : World), PR w W mb g gG c G vout acc → K ⟨#[.string a, .string b, v2, v3, v4, v5, v6, v7, v8, v9, v10, .map (some mb), .pointer (some ⟨gG, 0, none⟩), v13, v14, vout, .int .i64 (i : Int), .int .i64 (j : Int), .int .u8 3, u19, u20, v21, v22, v23, v24, v25, v26, v27, v28, v29, v30, v31, v32, v33, v34, v35, v36, v37, v38, v39, v40, v41, v42, v43, v44, v45, v46, v47, v48, v49, v50, v51, v52, v53, v54, v55, v56, v57, v58, v59, v60, v61, v62, v63, v64, v65, v66, v67, v68, v69, u70, u71, u72, u73, u74, u75, u76, u77, u78, u79, u80, u81, u82, u83, u84, u85, u86, u87, u88, u89, u90, u91, u92, u93, u94, u95, u96, u97, u98, u99, u100, u101, u102, u103, u104, u105, u106, u107, u108, u109, u110, u111, u112, u113, u114, u115, u116, u117, u118, u119, u120, u121, u122, v123, v124], []⟩ W) :
    (bodyAt Try.f14 3).wp Try.prog (Exit.then K Q) ⟨#[.string a, .string b, v2, v3, v4, v5, v6, v7, v8, v9, v10, .map (some mb), .pointer (some ⟨gG, 0, none⟩), v13, v14, vout, .int .i64 (i : Int), .int .i64 (j : Int), .int .u8 2, v19, v20, v21, v22, v23, v24, v25, v26, v27, v28, v29, v30, v31, v32, v33, v34, v35, v36, v37, v38, v39, v40, v41, v42, v43, v44, v45, v46, v47, v48, v49, v50, v51, v52, v53, v54, v55, v56, v57, v58, v59, v60, v61, v62, v63, v64, v65, v66, v67, v68, v69, v70, v71, v72, v73, v74, v75, v76, v77, v78, v79, v80, v81, v82, v83, v84, v85, v86, v87, v88, v89, v90, v91, v92, v93, v94, v95, v96, v97, v98, v99, v100, v101, v102, v103, v104, v105, v106, v107, v108, v109, v110, v111, v112, v113, v114, v115, v116, v117, v118, v119, v120, v121, v122, v123, v124], []⟩ wr := by
  have HK := Lib.hid hK
  clear hK
  have H1 := Lib.hid h1
  have H2 := Lib.hid h2
  clear h1 h2
  have l1 := (fits_look hP.drew.p.fits).2.1
  have l2 := (fits_look (hP.alloc (.cells #[.int .i64 0, .int .i64 0, .int .i64 0, .int .u8 0, .int .u8 0] 73)).drew.p.fits).2.1
  have b1 := Lib.hid hP.drew.p.fits.2
  have b2 := Lib.hid (hP.alloc (.cells #[.int .i64 0, .int .i64 0, .int .i64 0, .int .u8 0, .int .u8 0] 73)).drew.p.fits.2
  conv => arg 2; whnf
  go_wp2
  refine wp_region_noPanic ?_
  go_region_with (go_at_call 36; first | (refine (hyes _ b1.out).mono ?_; rintro e W1 ⟨rfl, hb1⟩; have hQ := hP.drew.keep hb1; try dsimp only [stepV]) | (refine (hyes _ b2.out).mono ?_; rintro e W1 ⟨rfl, hb1⟩; have hQ := (hP.alloc (.cells #[.int .i64 0, .int .i64 0, .int .i64 0, .int .u8 0, .int .u8 0] 73)).drew.keep hb1; have hz := (hb1.block wr.heap.size (by simp)).trans (blk_new wr (.cells #[.int .i64 0, .int .i64 0, .int .i64 0, .int .u8 0, .int .u8 0] 73)); have y0_ := (blk_cell hz 0).trans rfl; have y1_ := (blk_cell hz 1).trans rfl; have y2_ := (blk_cell hz 2).trans rfl; have y3_ := (blk_cell hz 3).trans rfl; have y4_ := (blk_cell hz 4).trans rfl; have f0_ := blk_frozen hz 0; have f1_ := blk_frozen hz 1; have f2_ := blk_frozen hz 2; have f3_ := blk_frozen hz 3; have f4_ := blk_frozen hz 4; try dsimp only [stepV]))
  all_goals refine NoPanic.normal ?_
  all_goals go_simp
  all_goals
    first
    | (have hR := hQ.alloc (.cells #[.int .i64 1, .int .i64 1, .int .i64 nn, .int .u8 kk, .int .u8 bb] 73)
       have hS : SBox (W1.alloc (.cells #[.int .i64 1, .int .i64 1, .int .i64 nn, .int .u8 kk, .int .u8 bb] 73)) W1.heap.size 1 1 nn kk bb := blk_new _ _
       clear hQ hb1 l1 l2 b1 b2
       revert hR hS
       generalize W1.alloc (.cells #[.int .i64 1, .int .i64 1, .int .i64 nn, .int .u8 kk, .int .u8 bb] 73) = W2
       generalize W1.heap.size = gb
       fail_if_success (have := hz)
       intro hR hS)
    | (obtain ⟨hR, hS⟩ := hQ.put5 hz hP.p.below.size 1 1 nn kk bb
       clear y0_ y1_ y2_ y3_ y4_ f0_ f1_ f2_ f3_ f4_ hz hQ hb1 l1 l2 b1 b2
       revert hR hS
       generalize ((((W1.setCell ⟨wr.heap.size, 0, none⟩ (.int .i64 1)).setCell ⟨wr.heap.size, 1, none⟩ (.int .i64 1)).setCell ⟨wr.heap.size, 2, none⟩ (.int .i64 nn)).setCell ⟨wr.heap.size, 3, none⟩ (.int .u8 kk)).setCell ⟨wr.heap.size, 4, none⟩ (.int .u8 bb) = W2
       generalize wr.heap.size = gb
       intro hR hS)
  all_goals
    obtain ⟨y0, y1, y2, y3, y4⟩ := hS.cells
    have g1 := (hR.p.at_ ((i + 1) * 61 + (j + 1)) (by omega)).trans (by rw [H1.out])
    have g2 := (hR.p.at_ (i * 61 + j) (by omega)).trans (by rw [H2.out])
    have w1_ : IntKind.i64.wrap ((i : Int) + 1) = (i : Int) + 1 := IntWalk.i64_in _ (by omega)
    have w2_ : IntKind.i64.wrap ((j : Int) + 1) = (j : Int) + 1 := IntWalk.i64_in _ (by omega)
    have w3_ : ((i : Int) + 1).toNat = i + 1 := by omega
    have w4_ : ((j : Int) + 1).toNat = j + 1 := by omega
    have w5_ : (i : Int) + 1 < 61 := by omega
    have w6_ : (j : Int) + 1 < 61 := by omega
    have w7_ : 0 ≤ (i : Int) + 1 := by omega
    have w8_ : 0 ≤ (j : Int) + 1 := by omega
    have w9_ : IntKind.i64.wrap (nn + D1) = nn + D1 := IntWalk.i64_in _ (by omega)
    have wa_ : (i : Int) < 61 := by omega
    have wb_ : (j : Int) < 61 := by omega
    go_wp2
    go_quiet (fail)
    clear w1_ w2_ w3_ w4_ w5_ w6_ w7_ w8_ w9_ wa_ wb_
    go_wp2
    exact HK.out _ _ _ _ _ _ _ _ _ _ _ _ _ _ _ _ _ _ _ _ _ _ _ _ _ _ _ _ _ _ _ _ _ _ _ _ _ _ _ _ _ _ _ _ _ _ _ _ _ _ _ _ _ _ _ _ (hR.drewN _)
end Go.Proofs.Ytdefecnngccmoaa.Ed
namespace Go.Proofs.Ytdefecnngccmoaa.Ed
open Go.RowKit Go.Proofs.YtdefecnngccmoaaW.PrintWords QTells
set_option maxRecDepth 1000000 in
set_option maxHeartbeats 40000000 in
theorem ptake_2 (a b : ByteArray) (ha : a.size ≤ 60) (hb : b.size ≤ 60) (c : Lb.Cst) (w : World) (mb g gG i j : Nat) (G : List Int) (vout : Value) (acc : List S38) (hi : (i : Int) ≤ a.size) (hj : (j : Int) ≤ b.size)
    (nn kk bb D1 D2 : Int) (hyes : ∀ W, Box W g c → Calls Try.prog 36 #[.string (a.extract i a.size), .string (b.extract j b.size), .pointer (some ⟨g, 0, none⟩)] W (StepPost 1 1 nn kk bb true W)) (hx : i + 1 ≤ 60) (hy : j + 1 ≤ 60) (h1 : G.getD ((i + 1) * 61 + (j + 1)) 0 = D1) (h2 : G.getD (i * 61 + j) 0 = D2) (d1 : 0 ≤ D1) (d2 : D1 ≤ 120000) (n1 : 0 ≤ nn) (n2 : nn ≤ 1000) (hd : (nn + D1 == D2) = true) (hn : acc.length ≤ 1000)
    (K : Act → World → Prop) (Q : Exit → Act → World → Prop) (wr : World) (hP : PR w wr mb g gG c G vout acc) (v2 v3 v4 v5 v6 v7 v8 v9 v10 v13 v14 v19 v20 v21 v22 v23 v24 v25 v26 v27 v28 v29 v30 v31 v32 v33 v34 v35 v36 v37 v38 v39 v40 v41 v42 v43 v44 v45 v46 v47 v48 v49 v50 v51 v52 v53 v54 v55 v56 v57 v58 v59 v60 v61 v62 v63 v64 v65 v66 v67 v68 v69 v70 v71 v72 v73 v74 v75 v76 v77 v78 v79 v80 v81 v82 v83 v84 v85 v86 v87 v88 v89 v90 v91 v92 v93 v94 v95 v96 v97 v98 v99 v100 v101 v102 v103 v104 v105 v106 v107 v108 v109 v110 v111 v112 v113 v114 v115 v116 v117 v118 v119 v120 v121 v122 v123 v124 : Value)
    (hK : ∀ (u19 u20 u70 u71 u72 u73 u74 u75 u76 u77 u78 u79 u80 u81 u82 u83 u84 u85 u86 u87 u88 u89 u90 u91 u92 u93 u94 u95 u96 u97 u98 u99 u100 u101 u102 u103 u104 u105 u106 u107 u108 u109 u110 u111 u112 u113 u114 u115 u116 u117 u118 u119 u120 u121 u122 v' : Value) (W : World), PR w W mb g gG c G v' (acc ++ [⟨kk, bb⟩]) → Q (.exit 5) ⟨#[.string a, .string b, v2, v3, v4, v5, v6, v7, v8, v9, v10, .map (some mb), .pointer (some ⟨gG, 0, none⟩), v13, v14, v', .int .i64 ((i : Int) + 1), .int .i64 ((j : Int) + 1), .int .u8 2, u19, u20, v21, v22, v23, v24, v25, v26, v27, v28, v29, v30, v31, v32, v33, v34, v35, v36, v37, v38, v39, v40, v41, v42, v43, v44, v45, v46, v47, v48, v49, v50, v51, v52, v53, v54, v55, v56, v57, v58, v59, v60, v61, v62, v63, v64, v65, v66, v67, v68, v69, u70, u71, u72, u73, u74, u75, u76, u77, u78, u79, u80, u81, u82, u83, u84, u85, u86, u87, u88, u89, u90, u91, u92, u93, u94, u95, u96, u97, u98, u99, u100, u101, u102, u103, u104, u105, u106, u107, u108, u109, u110, u111, u112, u113, u114, u115, u116, u117, u118, u119, u120, u121, u122, v123, v124], []⟩ W) :
    (bodyAt Try.f14 3).wp Try.prog (Exit.then K Q) ⟨#[.string a, .string b, v2, v3, v4, v5, v6, v7, v8, v9, v10, .map (some mb), .pointer (some ⟨gG, 0, none⟩), v13, v14, vout, .int .i64 (i : Int), .int .i64 (j : Int), .int .u8 2, v19, v20, v21, v22, v23, v24, v25, v26, v27, v28, v29, v30, v31, v32, v33, v34, v35, v36, v37, v38, v39, v40, v41, v42, v43, v44, v45, v46, v47, v48, v49, v50, v51, v52, v53, v54, v55, v56, v57, v58, v59, v60, v61, v62, v63, v64, v65, v66, v67, v68, v69, v70, v71, v72, v73, v74, v75, v76, v77, v78, v79, v80, v81, v82, v83, v84, v85, v86, v87, v88, v89, v90, v91, v92, v93, v94, v95, v96, v97, v98, v99, v100, v101, v102, v103, v104, v105, v106, v107, v108, v109, v110, v111, v112, v113, v114, v115, v116, v117, v118, v119, v120, v121, v122, v123, v124], []⟩ wr := by
  have HK := Lib.hid hK
  clear hK
  have H1 := Lib.hid h1
  have H2 := Lib.hid h2
  clear h1 h2
  have l1 := (fits_look hP.drew.p.fits).2.1
  have l2 := (fits_look (hP.alloc (.cells #[.int .i64 0, .int .i64 0, .int .i64 0, .int .u8 0, .int .u8 0] 73)).drew.p.fits).2.1
  have b1 := Lib.hid hP.drew.p.fits.2
  have b2 := Lib.hid (hP.alloc (.cells #[.int .i64 0, .int .i64 0, .int .i64 0, .int .u8 0, .int .u8 0] 73)).drew.p.fits.2
  conv => arg 2; whnf
  go_wp2
  refine wp_region_noPanic ?_
  go_region_with (go_at_call 36; first | (refine (hyes _ b1.out).mono ?_; rintro e W1 ⟨rfl, hb1⟩; have hQ := hP.drew.keep hb1; try dsimp only [stepV]) | (refine (hyes _ b2.out).mono ?_; rintro e W1 ⟨rfl, hb1⟩; have hQ := (hP.alloc (.cells #[.int .i64 0, .int .i64 0, .int .i64 0, .int .u8 0, .int .u8 0] 73)).drew.keep hb1; have hz := (hb1.block wr.heap.size (by simp)).trans (blk_new wr (.cells #[.int .i64 0, .int .i64 0, .int .i64 0, .int .u8 0, .int .u8 0] 73)); have y0_ := (blk_cell hz 0).trans rfl; have y1_ := (blk_cell hz 1).trans rfl; have y2_ := (blk_cell hz 2).trans rfl; have y3_ := (blk_cell hz 3).trans rfl; have y4_ := (blk_cell hz 4).trans rfl; have f0_ := blk_frozen hz 0; have f1_ := blk_frozen hz 1; have f2_ := blk_frozen hz 2; have f3_ := blk_frozen hz 3; have f4_ := blk_frozen hz 4; try dsimp only [stepV]))
  all_goals refine NoPanic.normal ?_
  all_goals go_simp
  all_goals
    first
    | (have hR := hQ.alloc (.cells #[.int .i64 1, .int .i64 1, .int .i64 nn, .int .u8 kk, .int .u8 bb] 73)
       have hS : SBox (W1.alloc (.cells #[.int .i64 1, .int .i64 1, .int .i64 nn, .int .u8 kk, .int .u8 bb] 73)) W1.heap.size 1 1 nn kk bb := blk_new _ _
       clear hQ hb1 l1 l2 b1 b2
       revert hR hS
       generalize W1.alloc (.cells #[.int .i64 1, .int .i64 1, .int .i64 nn, .int .u8 kk, .int .u8 bb] 73) = W2
       generalize W1.heap.size = gb
       fail_if_success (have := hz)
       intro hR hS)
    | (obtain ⟨hR, hS⟩ := hQ.put5 hz hP.p.below.size 1 1 nn kk bb
       clear y0_ y1_ y2_ y3_ y4_ f0_ f1_ f2_ f3_ f4_ hz hQ hb1 l1 l2 b1 b2
       revert hR hS
       generalize ((((W1.setCell ⟨wr.heap.size, 0, none⟩ (.int .i64 1)).setCell ⟨wr.heap.size, 1, none⟩ (.int .i64 1)).setCell ⟨wr.heap.size, 2, none⟩ (.int .i64 nn)).setCell ⟨wr.heap.size, 3, none⟩ (.int .u8 kk)).setCell ⟨wr.heap.size, 4, none⟩ (.int .u8 bb) = W2
       generalize wr.heap.size = gb
       intro hR hS)
  all_goals
    obtain ⟨y0, y1, y2, y3, y4⟩ := hS.cells
    have g1 := (hR.p.at_ ((i + 1) * 61 + (j + 1)) (by omega)).trans (by rw [H1.out])
    have g2 := (hR.p.at_ (i * 61 + j) (by omega)).trans (by rw [H2.out])
    have w1_ : IntKind.i64.wrap ((i : Int) + 1) = (i : Int) + 1 := IntWalk.i64_in _ (by omega)
    have w2_ : IntKind.i64.wrap ((j : Int) + 1) = (j : Int) + 1 := IntWalk.i64_in _ (by omega)
    have w3_ : ((i : Int) + 1).toNat = i + 1 := by omega
    have w4_ : ((j : Int) + 1).toNat = j + 1 := by omega
    have w5_ : (i : Int) + 1 < 61 := by omega
    have w6_ : (j : Int) + 1 < 61 := by omega
    have w7_ : 0 ≤ (i : Int) + 1 := by omega
    have w8_ : 0 ≤ (j : Int) + 1 := by omega
    have w9_ : IntKind.i64.wrap (nn + D1) = nn + D1 := IntWalk.i64_in _ (by omega)
    have wa_ : (i : Int) < 61 := by omega
    have wb_ : (j : Int) < 61 := by omega
    go_wp2
    go_quiet (fail)
    clear w1_ w2_ w3_ w4_ w5_ w6_ w7_ w8_ w9_ wa_ wb_
    have hR2 := hR.drewN nq
    revert hR2
    have y0' : (W2.drewN nq).cell? ⟨gb, 0, none⟩ = _ := y0
    have y1' : (W2.drewN nq).cell? ⟨gb, 1, none⟩ = _ := y1
    have y3' : (W2.drewN nq).cell? ⟨gb, 3, none⟩ = _ := y3
    have y4' : (W2.drewN nq).cell? ⟨gb, 4, none⟩ = _ := y4
    have hz' : SBox (W2.drewN nq) gb _ _ _ _ _ := hS
    revert y0' y1' y3' y4' hz'
    clear y0 y1 y2 y3 y4 g1 g2 hR hS
    generalize W2.drewN nq = W3
    intro y0 y1 y3 y4 hz hR
    go_wp2_with (at_builtin; refine Kd.R_append k38 (w0 := w) w.heap.size rfl (.tmp 110) (.tmp 113) 33 38 (.agg #[(.int .u8 0), (.int .u8 0)]) 2 rfl Try.underlying33 info38 rfl (by decide) (by omega) vout acc (⟨kk, bb⟩ : S38) [.int .u8 kk, .int .u8 bb] (fun _ => True) (fun _ => False) rfl rfl (k38_mkM _ _ _ _) (fun _ h => h.elim) (fun _ _ => trivial) hR.r hR.p.below hR.p.below.size (by omega) ?_; intro v1 w1 HO1 HB1 hg1 _; have hR1 : PR w w1 mb g gG c G v1 (acc ++ [⟨kk, bb⟩]) := ⟨(hR.p.grown hR.r hg1 HB1), HO1⟩; have z1 : SBox w1 gb _ _ _ _ _ := (hg1.block gb (blk_lt hz) (Kd_ne hR.r hz)).trans hz; obtain ⟨y0, y1, y2, y3, y4⟩ := z1.cells)
    exact HK.out _ _ _ _ _ _ _ _ _ _ _ _ _ _ _ _ _ _ _ _ _ _ _ _ _ _ _ _ _ _ _ _ _ _ _ _ _ _ _ _ _ _ _ _ _ _ _ _ _ _ _ _ _ _ _ _ _ hR1
end Go.Proofs.Ytdefecnngccmoaa.Ed
namespace Go.Proofs.Ytdefecnngccmoaa.Ed
open Go.RowKit Go.Proofs.YtdefecnngccmoaaW.PrintWords QTells
set_option maxRecDepth 1000000 in
set_option maxHeartbeats 40000000 in
theorem pmiss_3 (a b : ByteArray) (ha : a.size ≤ 60) (hb : b.size ≤ 60) (c : Lb.Cst) (w : World) (mb g gG i j : Nat) (G : List Int) (vout : Value) (acc : List S38) (hi : (i : Int) ≤ a.size) (hj : (j : Int) ≤ b.size)
    (nn kk bb D1 D2 : Int) (hyes : ∀ W, Box W g c → Calls Try.prog 37 #[.string (a.extract i a.size), .string (b.extract j b.size), .pointer (some ⟨g, 0, none⟩)] W (StepPost 2 2 nn kk bb true W)) (hx : i + 2 ≤ 60) (hy : j + 2 ≤ 60) (h1 : G.getD ((i + 2) * 61 + (j + 2)) 0 = D1) (h2 : G.getD (i * 61 + j) 0 = D2) (d1 : 0 ≤ D1) (d2 : D1 ≤ 120000) (n1 : 0 ≤ nn) (n2 : nn ≤ 1000) (hd : (nn + D1 == D2) = false)
    (K : Act → World → Prop) (Q : Exit → Act → World → Prop) (wr : World) (hP : PR w wr mb g gG c G vout acc) (v2 v3 v4 v5 v6 v7 v8 v9 v10 v13 v14 v19 v20 v21 v22 v23 v24 v25 v26 v27 v28 v29 v30 v31 v32 v33 v34 v35 v36 v37 v38 v39 v40 v41 v42 v43 v44 v45 v46 v47 v48 v49 v50 v51 v52 v53 v54 v55 v56 v57 v58 v59 v60 v61 v62 v63 v64 v65 v66 v67 v68 v69 v70 v71 v72 v73 v74 v75 v76 v77 v78 v79 v80 v81 v82 v83 v84 v85 v86 v87 v88 v89 v90 v91 v92 v93 v94 v95 v96 v97 v98 v99 v100 v101 v102 v103 v104 v105 v106 v107 v108 v109 v110 v111 v112 v113 v114 v115 v116 v117 v118 v119 v120 v121 v122 v123 v124 : Value)
    (hK : ∀ (u19 u20 u70 u71 u72 u73 u74 u75 u76 u77 u78 u79 u80 u81 u82 u83 u84 u85 u86 u87 u88 u89 u90 u91 u92 u93 u94 u95 u96 u97 u98 u99 u100 u101 u102 u103 u104 u105 u106 u107 u108 u109 u110 u111 u112 u113 u114 u115 u116 u117 u118 u119 u120 u121 u122 : Value) (W : World), PR w W mb g gG c G vout acc → K ⟨#[.string a, .string b, v2, v3, v4, v5, v6, v7, v8, v9, v10, .map (some mb), .pointer (some ⟨gG, 0, none⟩), v13, v14, vout, .int .i64 (i : Int), .int .i64 (j : Int), .int .u8 4, u19, u20, v21, v22, v23, v24, v25, v26, v27, v28, v29, v30, v31, v32, v33, v34, v35, v36, v37, v38, v39, v40, v41, v42, v43, v44, v45, v46, v47, v48, v49, v50, v51, v52, v53, v54, v55, v56, v57, v58, v59, v60, v61, v62, v63, v64, v65, v66, v67, v68, v69, u70, u71, u72, u73, u74, u75, u76, u77, u78, u79, u80, u81, u82, u83, u84, u85, u86, u87, u88, u89, u90, u91, u92, u93, u94, u95, u96, u97, u98, u99, u100, u101, u102, u103, u104, u105, u106, u107, u108, u109, u110, u111, u112, u113, u114, u115, u116, u117, u118, u119, u120, u121, u122, v123, v124], []⟩ W) :
    (bodyAt Try.f14 3).wp Try.prog (Exit.then K Q) ⟨#[.string a, .string b, v2, v3, v4, v5, v6, v7, v8, v9, v10, .map (some mb), .pointer (some ⟨gG, 0, none⟩), v13, v14, vout, .int .i64 (i : Int), .int .i64 (j : Int), .int .u8 3, v19, v20, v21, v22, v23, v24, v25, v26, v27, v28, v29, v30, v31, v32, v33, v34, v35, v36, v37, v38, v39, v40, v41, v42, v43, v44, v45, v46, v47, v48, v49, v50, v51, v52, v53, v54, v55, v56, v57, v58, v59, v60, v61, v62, v63, v64, v65, v66, v67, v68, v69, v70, v71, v72, v73, v74, v75, v76, v77, v78, v79, v80, v81, v82, v83, v84, v85, v86, v87, v88, v89, v90, v91, v92, v93, v94, v95, v96, v97, v98, v99, v100, v101, v102, v103, v104, v105, v106, v107, v108, v109, v110, v111, v112, v113, v114, v115, v116, v117, v118, v119, v120, v121, v122, v123, v124], []⟩ wr := by
  have HK := Lib.hid hK
  clear hK
  have H1 := Lib.hid h1
  have H2 := Lib.hid h2
  clear h1 h2
  have l1 := (fits_look hP.drew.p.fits).2.2.1
  have l2 := (fits_look (hP.alloc (.cells #[.int .i64 0, .int .i64 0, .int .i64 0, .int .u8 0, .int .u8 0] 73)).drew.p.fits).2.2.1
  have b1 := Lib.hid hP.drew.p.fits.2
  have b2 := Lib.hid (hP.alloc (.cells #[.int .i64 0, .int .i64 0, .int .i64 0, .int .u8 0, .int .u8 0] 73)).drew.p.fits.2
  conv => arg 2; whnf
  go_wp2
  refine wp_region_noPanic ?_
  go_region_with (go_at_call 37; first | (refine (hyes _ b1.out).mono ?_; rintro e W1 ⟨rfl, hb1⟩; have hQ := hP.drew.keep hb1; try dsimp only [stepV]) | (refine (hyes _ b2.out).mono ?_; rintro e W1 ⟨rfl, hb1⟩; have hQ := (hP.alloc (.cells #[.int .i64 0, .int .i64 0, .int .i64 0, .int .u8 0, .int .u8 0] 73)).drew.keep hb1; have hz := (hb1.block wr.heap.size (by simp)).trans (blk_new wr (.cells #[.int .i64 0, .int .i64 0, .int .i64 0, .int .u8 0, .int .u8 0] 73)); have y0_ := (blk_cell hz 0).trans rfl; have y1_ := (blk_cell hz 1).trans rfl; have y2_ := (blk_cell hz 2).trans rfl; have y3_ := (blk_cell hz 3).trans rfl; have y4_ := (blk_cell hz 4).trans rfl; have f0_ := blk_frozen hz 0; have f1_ := blk_frozen hz 1; have f2_ := blk_frozen hz 2; have f3_ := blk_frozen hz 3; have f4_ := blk_frozen hz 4; try dsimp only [stepV]))
  all_goals refine NoPanic.normal ?_
  all_goals go_simp
  all_goals
    first
    | (have hR := hQ.alloc (.cells #[.int .i64 2, .int .i64 2, .int .i64 nn, .int .u8 kk, .int .u8 bb] 73)
       have hS : SBox (W1.alloc (.cells #[.int .i64 2, .int .i64 2, .int .i64 nn, .int .u8 kk, .int .u8 bb] 73)) W1.heap.size 2 2 nn kk bb := blk_new _ _
       clear hQ hb1 l1 l2 b1 b2
       revert hR hS
       generalize W1.alloc (.cells #[.int .i64 2, .int .i64 2, .int .i64 nn, .int .u8 kk, .int .u8 bb] 73) = W2
       generalize W1.heap.size = gb
       fail_if_success (have := hz)
       intro hR hS)
    | (obtain ⟨hR, hS⟩ := hQ.put5 hz hP.p.below.size 2 2 nn kk bb
       clear y0_ y1_ y2_ y3_ y4_ f0_ f1_ f2_ f3_ f4_ hz hQ hb1 l1 l2 b1 b2
       revert hR hS
       generalize ((((W1.setCell ⟨wr.heap.size, 0, none⟩ (.int .i64 2)).setCell ⟨wr.heap.size, 1, none⟩ (.int .i64 2)).setCell ⟨wr.heap.size, 2, none⟩ (.int .i64 nn)).setCell ⟨wr.heap.size, 3, none⟩ (.int .u8 kk)).setCell ⟨wr.heap.size, 4, none⟩ (.int .u8 bb) = W2
       generalize wr.heap.size = gb
       intro hR hS)
  all_goals
    obtain ⟨y0, y1, y2, y3, y4⟩ := hS.cells
    have g1 := (hR.p.at_ ((i + 2) * 61 + (j + 2)) (by omega)).trans (by rw [H1.out])
    have g2 := (hR.p.at_ (i * 61 + j) (by omega)).trans (by rw [H2.out])
    have w1_ : IntKind.i64.wrap ((i : Int) + 2) = (i : Int) + 2 := IntWalk.i64_in _ (by omega)
    have w2_ : IntKind.i64.wrap ((j : Int) + 2) = (j : Int) + 2 := IntWalk.i64_in _ (by omega)
    have w3_ : ((i : Int) + 2).toNat = i + 2 := by omega
    have w4_ : ((j : Int) + 2).toNat = j + 2 := by omega
    have w5_ : (i : Int) + 2 < 61 := by omega
    have w6_ : (j : Int) + 2 < 61 := by omega
    have w7_ : 0 ≤ (i : Int) + 2 := by omega
    have w8_ : 0 ≤ (j : Int) + 2 := by omega
    have w9_ : IntKind.i64.wrap (nn + D1) = nn + D1 := IntWalk.i64_in _ (by omega)
    have wa_ : (i : Int) < 61 := by omega
    have wb_ : (j : Int) < 61 := by omega
    go_wp2
    go_quiet (fail)
    clear w1_ w2_ w3_ w4_ w5_ w6_ w7_ w8_ w9_ wa_ wb_
    go_wp2
    exact HK.out _ _ _ _ _ _ _ _ _ _ _ _ _ _ _ _ _ _ _ _ _ _ _ _ _ _ _ _ _ _ _ _ _ _ _ _ _ _ _ _ _ _ _ _ _ _ _ _ _ _ _ _ _ _ _ _ (hR.drewN _)
end Go.Proofs.Ytdefecnngccmoaa.Ed
namespace Go.Proofs.Ytdefecnngccmoaa.Ed
open Go.RowKit Go.Proofs.YtdefecnngccmoaaW.PrintWords QTells
set_option maxRecDepth 1000000 in
set_option maxHeartbeats 40000000 in
theorem ptake_3 (a b : ByteArray) (ha : a.size ≤ 60) (hb : b.size ≤ 60) (c : Lb.Cst) (w : World) (mb g gG i j : Nat) (G : List Int) (vout : Value) (acc : List S38) (hi : (i : Int) ≤ a.size) (hj : (j : Int) ≤ b.size)
    (nn kk bb D1 D2 : Int) (hyes : ∀ W, Box W g c → Calls Try.prog 37 #[.string (a.extract i a.size), .string (b.extract j b.size), .pointer (some ⟨g, 0, none⟩)] W (StepPost 2 2 nn kk bb true W)) (hx : i + 2 ≤ 60) (hy : j + 2 ≤ 60) (h1 : G.getD ((i + 2) * 61 + (j + 2)) 0 = D1) (h2 : G.getD (i * 61 + j) 0 = D2) (d1 : 0 ≤ D1) (d2 : D1 ≤ 120000) (n1 : 0 ≤ nn) (n2 : nn ≤ 1000) (hd : (nn + D1 == D2) = true) (hn : acc.length ≤ 1000)
    (K : Act → World → Prop) (Q : Exit → Act → World → Prop) (wr : World) (hP : PR w wr mb g gG c G vout acc) (v2 v3 v4 v5 v6 v7 v8 v9 v10 v13 v14 v19 v20 v21 v22 v23 v24 v25 v26 v27 v28 v29 v30 v31 v32 v33 v34 v35 v36 v37 v38 v39 v40 v41 v42 v43 v44 v45 v46 v47 v48 v49 v50 v51 v52 v53 v54 v55 v56 v57 v58 v59 v60 v61 v62 v63 v64 v65 v66 v67 v68 v69 v70 v71 v72 v73 v74 v75 v76 v77 v78 v79 v80 v81 v82 v83 v84 v85 v86 v87 v88 v89 v90 v91 v92 v93 v94 v95 v96 v97 v98 v99 v100 v101 v102 v103 v104 v105 v106 v107 v108 v109 v110 v111 v112 v113 v114 v115 v116 v117 v118 v119 v120 v121 v122 v123 v124 : Value)
    (hK : ∀ (u19 u20 u70 u71 u72 u73 u74 u75 u76 u77 u78 u79 u80 u81 u82 u83 u84 u85 u86 u87 u88 u89 u90 u91 u92 u93 u94 u95 u96 u97 u98 u99 u100 u101 u102 u103 u104 u105 u106 u107 u108 u109 u110 u111 u112 u113 u114 u115 u116 u117 u118 u119 u120 u121 u122 v' : Value) (W : World), PR w W mb g gG c G v' (acc ++ [⟨kk, bb⟩]) → Q (.exit 5) ⟨#[.string a, .string b, v2, v3, v4, v5, v6, v7, v8, v9, v10, .map (some mb), .pointer (some ⟨gG, 0, none⟩), v13, v14, v', .int .i64 ((i : Int) + 2), .int .i64 ((j : Int) + 2), .int .u8 3, u19, u20, v21, v22, v23, v24, v25, v26, v27, v28, v29, v30, v31, v32, v33, v34, v35, v36, v37, v38, v39, v40, v41, v42, v43, v44, v45, v46, v47, v48, v49, v50, v51, v52, v53, v54, v55, v56, v57, v58, v59, v60, v61, v62, v63, v64, v65, v66, v67, v68, v69, u70, u71, u72, u73, u74, u75, u76, u77, u78, u79, u80, u81, u82, u83, u84, u85, u86, u87, u88, u89, u90, u91, u92, u93, u94, u95, u96, u97, u98, u99, u100, u101, u102, u103, u104, u105, u106, u107, u108, u109, u110, u111, u112, u113, u114, u115, u116, u117, u118, u119, u120, u121, u122, v123, v124], []⟩ W) :
    (bodyAt Try.f14 3).wp Try.prog (Exit.then K Q) ⟨#[.string a, .string b, v2, v3, v4, v5, v6, v7, v8, v9, v10, .map (some mb), .pointer (some ⟨gG, 0, none⟩), v13, v14, vout, .int .i64 (i : Int), .int .i64 (j : Int), .int .u8 3, v19, v20, v21, v22, v23, v24, v25, v26, v27, v28, v29, v30, v31, v32, v33, v34, v35, v36, v37, v38, v39, v40, v41, v42, v43, v44, v45, v46, v47, v48, v49, v50, v51, v52, v53, v54, v55, v56, v57, v58, v59, v60, v61, v62, v63, v64, v65, v66, v67, v68, v69, v70, v71, v72, v73, v74, v75, v76, v77, v78, v79, v80, v81, v82, v83, v84, v85, v86, v87, v88, v89, v90, v91, v92, v93, v94, v95, v96, v97, v98, v99, v100, v101, v102, v103, v104, v105, v106, v107, v108, v109, v110, v111, v112, v113, v114, v115, v116, v117, v118, v119, v120, v121, v122, v123, v124], []⟩ wr := by
  have HK := Lib.hid hK
  clear hK
  have H1 := Lib.hid h1
  have H2 := Lib.hid h2
  clear h1 h2
  have l1 := (fits_look hP.drew.p.fits).2.2.1
  have l2 := (fits_look (hP.alloc (.cells #[.int .i64 0, .int .i64 0, .int .i64 0, .int .u8 0, .int .u8 0] 73)).drew.p.fits).2.2.1
  have b1 := Lib.hid hP.drew.p.fits.2
  have b2 := Lib.hid (hP.alloc (.cells #[.int .i64 0, .int .i64 0, .int .i64 0, .int .u8 0, .int .u8 0] 73)).drew.p.fits.2
  conv => arg 2; whnf
  go_wp2
  refine wp_region_noPanic ?_
  go_region_with (go_at_call 37; first | (refine (hyes _ b1.out).mono ?_; rintro e W1 ⟨rfl, hb1⟩; have hQ := hP.drew.keep hb1; try dsimp only [stepV]) | (refine (hyes _ b2.out).mono ?_; rintro e W1 ⟨rfl, hb1⟩; have hQ := (hP.alloc (.cells #[.int .i64 0, .int .i64 0, .int .i64 0, .int .u8 0, .int .u8 0] 73)).drew.keep hb1; have hz := (hb1.block wr.heap.size (by simp)).trans (blk_new wr (.cells #[.int .i64 0, .int .i64 0, .int .i64 0, .int .u8 0, .int .u8 0] 73)); have y0_ := (blk_cell hz 0).trans rfl; have y1_ := (blk_cell hz 1).trans rfl; have y2_ := (blk_cell hz 2).trans rfl; have y3_ := (blk_cell hz 3).trans rfl; have y4_ := (blk_cell hz 4).trans rfl; have f0_ := blk_frozen hz 0; have f1_ := blk_frozen hz 1; have f2_ := blk_frozen hz 2; have f3_ := blk_frozen hz 3; have f4_ := blk_frozen hz 4; try dsimp only [stepV]))
  all_goals refine NoPanic.normal ?_
  all_goals go_simp
  all_goals
    first
    | (have hR := hQ.alloc (.cells #[.int .i64 2, .int .i64 2, .int .i64 nn, .int .u8 kk, .int .u8 bb] 73)
       have hS : SBox (W1.alloc (.cells #[.int .i64 2, .int .i64 2, .int .i64 nn, .int .u8 kk, .int .u8 bb] 73)) W1.heap.size 2 2 nn kk bb := blk_new _ _
       clear hQ hb1 l1 l2 b1 b2
       revert hR hS
       generalize W1.alloc (.cells #[.int .i64 2, .int .i64 2, .int .i64 nn, .int .u8 kk, .int .u8 bb] 73) = W2
       generalize W1.heap.size = gb
       fail_if_success (have := hz)
       intro hR hS)
    | (obtain ⟨hR, hS⟩ := hQ.put5 hz hP.p.below.size 2 2 nn kk bb
       clear y0_ y1_ y2_ y3_ y4_ f0_ f1_ f2_ f3_ f4_ hz hQ hb1 l1 l2 b1 b2
       revert hR hS
       generalize ((((W1.setCell ⟨wr.heap.size, 0, none⟩ (.int .i64 2)).setCell ⟨wr.heap.size, 1, none⟩ (.int .i64 2)).setCell ⟨wr.heap.size, 2, none⟩ (.int .i64 nn)).setCell ⟨wr.heap.size, 3, none⟩ (.int .u8 kk)).setCell ⟨wr.heap.size, 4, none⟩ (.int .u8 bb) = W2
       generalize wr.heap.size = gb
       intro hR hS)
  all_goals
    obtain ⟨y0, y1, y2, y3, y4⟩ := hS.cells
    have g1 := (hR.p.at_ ((i + 2) * 61 + (j + 2)) (by omega)).trans (by rw [H1.out])
    have g2 := (hR.p.at_ (i * 61 + j) (by omega)).trans (by rw [H2.out])
    have w1_ : IntKind.i64.wrap ((i : Int) + 2) = (i : Int) + 2 := IntWalk.i64_in _ (by omega)
    have w2_ : IntKind.i64.wrap ((j : Int) + 2) = (j : Int) + 2 := IntWalk.i64_in _ (by omega)
    have w3_ : ((i : Int) + 2).toNat = i + 2 := by omega
    have w4_ : ((j : Int) + 2).toNat = j + 2 := by omega
    have w5_ : (i : Int) + 2 < 61 := by omega
    have w6_ : (j : Int) + 2 < 61 := by omega
    have w7_ : 0 ≤ (i : Int) + 2 := by omega
    have w8_ : 0 ≤ (j : Int) + 2 := by omega
    have w9_ : IntKind.i64.wrap (nn + D1) = nn + D1 := IntWalk.i64_in _ (by omega)
    have wa_ : (i : Int) < 61 := by omega
    have wb_ : (j : Int) < 61 := by omega
    go_wp2
    go_quiet (fail)
    clear w1_ w2_ w3_ w4_ w5_ w6_ w7_ w8_ w9_ wa_ wb_
    have hR2 := hR.drewN nq
    revert hR2
    have y0' : (W2.drewN nq).cell? ⟨gb, 0, none⟩ = _ := y0
    have y1' : (W2.drewN nq).cell? ⟨gb, 1, none⟩ = _ := y1
    have y3' : (W2.drewN nq).cell? ⟨gb, 3, none⟩ = _ := y3
    have y4' : (W2.drewN nq).cell? ⟨gb, 4, none⟩ = _ := y4
    have hz' : SBox (W2.drewN nq) gb _ _ _ _ _ := hS
    revert y0' y1' y3' y4' hz'
    clear y0 y1 y2 y3 y4 g1 g2 hR hS
    generalize W2.drewN nq = W3
    intro y0 y1 y3 y4 hz hR
    go_wp2_with (at_builtin; refine Kd.R_append k38 (w0 := w) w.heap.size rfl (.tmp 110) (.tmp 113) 33 38 (.agg #[(.int .u8 0), (.int .u8 0)]) 2 rfl Try.underlying33 info38 rfl (by decide) (by omega) vout acc (⟨kk, bb⟩ : S38) [.int .u8 kk, .int .u8 bb] (fun _ => True) (fun _ => False) rfl rfl (k38_mkM _ _ _ _) (fun _ h => h.elim) (fun _ _ => trivial) hR.r hR.p.below hR.p.below.size (by omega) ?_; intro v1 w1 HO1 HB1 hg1 _; have hR1 : PR w w1 mb g gG c G v1 (acc ++ [⟨kk, bb⟩]) := ⟨(hR.p.grown hR.r hg1 HB1), HO1⟩; have z1 : SBox w1 gb _ _ _ _ _ := (hg1.block gb (blk_lt hz) (Kd_ne hR.r hz)).trans hz; obtain ⟨y0, y1, y2, y3, y4⟩ := z1.cells)
    exact HK.out _ _ _ _ _ _ _ _ _ _ _ _ _ _ _ _ _ _ _ _ _ _ _ _ _ _ _ _ _ _ _ _ _ _ _ _ _ _ _ _ _ _ _ _ _ _ _ _ _ _ _ _ _ _ _ _ _ hR1
end Go.Proofs.Ytdefecnngccmoaa.Ed
namespace Go.Proofs.Ytdefecnngccmoaa.Ed
open Go.RowKit Go.Proofs.YtdefecnngccmoaaW.PrintWords QTells
set_option maxRecDepth 1000000 in
set_option maxHeartbeats 40000000 in
theorem pmiss_4 (a b : ByteArray) (ha : a.size ≤ 60) (hb : b.size ≤ 60) (c : Lb.Cst) (w : World) (mb g gG i j : Nat) (G : List Int) (vout : Value) (acc : List S38) (hi : (i : Int) ≤ a.size) (hj : (j : Int) ≤ b.size)
    (nn kk bb D1 D2 : Int) (hyes : ∀ W, Box W g c → Calls Try.prog 38 #[.string (a.extract i a.size), .string (b.extract j b.size), .pointer (some ⟨g, 0, none⟩)] W (StepPost 1 0 nn kk bb true W)) (hx : i + 1 ≤ 60) (hy : j ≤ 60) (h1 : G.getD ((i + 1) * 61 + (j)) 0 = D1) (h2 : G.getD (i * 61 + j) 0 = D2) (d1 : 0 ≤ D1) (d2 : D1 ≤ 120000) (n1 : 0 ≤ nn) (n2 : nn ≤ 1000) (hd : (nn + D1 == D2) = false)
    (K : Act → World → Prop) (Q : Exit → Act → World → Prop) (wr : World) (hP : PR w wr mb g gG c G vout acc) (v2 v3 v4 v5 v6 v7 v8 v9 v10 v13 v14 v19 v20 v21 v22 v23 v24 v25 v26 v27 v28 v29 v30 v31 v32 v33 v34 v35 v36 v37 v38 v39 v40 v41 v42 v43 v44 v45 v46 v47 v48 v49 v50 v51 v52 v53 v54 v55 v56 v57 v58 v59 v60 v61 v62 v63 v64 v65 v66 v67 v68 v69 v70 v71 v72 v73 v74 v75 v76 v77 v78 v79 v80 v81 v82 v83 v84 v85 v86 v87 v88 v89 v90 v91 v92 v93 v94 v95 v96 v97 v98 v99 v100 v101 v102 v103 v104 v105 v106 v107 v108 v109 v110 v111 v112 v113 v114 v115 v116 v117 v118 v119 v120 v121 v122 v123 v124 : Value)
    (hK : ∀ (u19 u20 u70 u71 u72 u73 u74 u75 u76 u77 u78 u79 u80 u81 u82 u83 u84 u85 u86 u87 u88 u89 u90 u91 u92 u93 u94 u95 u96 u97 u98 u99 u100 u101 u102 u103 u104 u105 u106 u107 u108 u109 u110 u111 u112 u113 u114 u115 u116 u117 u118 u119 u120 u121 u122 : Value) (W : World), PR w W mb g gG c G vout acc → K ⟨#[.string a, .string b, v2, v3, v4, v5, v6, v7, v8, v9, v10, .map (some mb), .pointer (some ⟨gG, 0, none⟩), v13, v14, vout, .int .i64 (i : Int), .int .i64 (j : Int), .int .u8 5, u19, u20, v21, v22, v23, v24, v25, v26, v27, v28, v29, v30, v31, v32, v33, v34, v35, v36, v37, v38, v39, v40, v41, v42, v43, v44, v45, v46, v47, v48, v49, v50, v51, v52, v53, v54, v55, v56, v57, v58, v59, v60, v61, v62, v63, v64, v65, v66, v67, v68, v69, u70, u71, u72, u73, u74, u75, u76, u77, u78, u79, u80, u81, u82, u83, u84, u85, u86, u87, u88, u89, u90, u91, u92, u93, u94, u95, u96, u97, u98, u99, u100, u101, u102, u103, u104, u105, u106, u107, u108, u109, u110, u111, u112, u113, u114, u115, u116, u117, u118, u119, u120, u121, u122, v123, v124], []⟩ W) :
    (bodyAt Try.f14 3).wp Try.prog (Exit.then K Q) ⟨#[.string a, .string b, v2, v3, v4, v5, v6, v7, v8, v9, v10, .map (some mb), .pointer (some ⟨gG, 0, none⟩), v13, v14, vout, .int .i64 (i : Int), .int .i64 (j : Int), .int .u8 4, v19, v20, v21, v22, v23, v24, v25, v26, v27, v28, v29, v30, v31, v32, v33, v34, v35, v36, v37, v38, v39, v40, v41, v42, v43, v44, v45, v46, v47, v48, v49, v50, v51, v52, v53, v54, v55, v56, v57, v58, v59, v60, v61, v62, v63, v64, v65, v66, v67, v68, v69, v70, v71, v72, v73, v74, v75, v76, v77, v78, v79, v80, v81, v82, v83, v84, v85, v86, v87, v88, v89, v90, v91, v92, v93, v94, v95, v96, v97, v98, v99, v100, v101, v102, v103, v104, v105, v106, v107, v108, v109, v110, v111, v112, v113, v114, v115, v116, v117, v118, v119, v120, v121, v122, v123, v124], []⟩ wr := by
  have HK := Lib.hid hK
  clear hK
  have H1 := Lib.hid h1
  have H2 := Lib.hid h2
  clear h1 h2
  have l1 := (fits_look hP.drew.p.fits).2.2.2.1
  have l2 := (fits_look (hP.alloc (.cells #[.int .i64 0, .int .i64 0, .int .i64 0, .int .u8 0, .int .u8 0] 73)).drew.p.fits).2.2.2.1
  have b1 := Lib.hid hP.drew.p.fits.2
  have b2 := Lib.hid (hP.alloc (.cells #[.int .i64 0, .int .i64 0, .int .i64 0, .int .u8 0, .int .u8 0] 73)).drew.p.fits.2
  conv => arg 2; whnf
  go_wp2
  refine wp_region_noPanic ?_
  go_region_with (go_at_call 38; first | (refine (hyes _ b1.out).mono ?_; rintro e W1 ⟨rfl, hb1⟩; have hQ := hP.drew.keep hb1; try dsimp only [stepV]) | (refine (hyes _ b2.out).mono ?_; rintro e W1 ⟨rfl, hb1⟩; have hQ := (hP.alloc (.cells #[.int .i64 0, .int .i64 0, .int .i64 0, .int .u8 0, .int .u8 0] 73)).drew.keep hb1; have hz := (hb1.block wr.heap.size (by simp)).trans (blk_new wr (.cells #[.int .i64 0, .int .i64 0, .int .i64 0, .int .u8 0, .int .u8 0] 73)); have y0_ := (blk_cell hz 0).trans rfl; have y1_ := (blk_cell hz 1).trans rfl; have y2_ := (blk_cell hz 2).trans rfl; have y3_ := (blk_cell hz 3).trans rfl; have y4_ := (blk_cell hz 4).trans rfl; have f0_ := blk_frozen hz 0; have f1_ := blk_frozen hz 1; have f2_ := blk_frozen hz 2; have f3_ := blk_frozen hz 3; have f4_ := blk_frozen hz 4; try dsimp only [stepV]))
  all_goals refine NoPanic.normal ?_
  all_goals go_simp
  all_goals
    first
    | (have hR := hQ.alloc (.cells #[.int .i64 1, .int .i64 0, .int .i64 nn, .int .u8 kk, .int .u8 bb] 73)
       have hS : SBox (W1.alloc (.cells #[.int .i64 1, .int .i64 0, .int .i64 nn, .int .u8 kk, .int .u8 bb] 73)) W1.heap.size 1 0 nn kk bb := blk_new _ _
       clear hQ hb1 l1 l2 b1 b2
       revert hR hS
       generalize W1.alloc (.cells #[.int .i64 1, .int .i64 0, .int .i64 nn, .int .u8 kk, .int .u8 bb] 73) = W2
       generalize W1.heap.size = gb
       fail_if_success (have := hz)
       intro hR hS)
    | (obtain ⟨hR, hS⟩ := hQ.put5 hz hP.p.below.size 1 0 nn kk bb
       clear y0_ y1_ y2_ y3_ y4_ f0_ f1_ f2_ f3_ f4_ hz hQ hb1 l1 l2 b1 b2
       revert hR hS
       generalize ((((W1.setCell ⟨wr.heap.size, 0, none⟩ (.int .i64 1)).setCell ⟨wr.heap.size, 1, none⟩ (.int .i64 0)).setCell ⟨wr.heap.size, 2, none⟩ (.int .i64 nn)).setCell ⟨wr.heap.size, 3, none⟩ (.int .u8 kk)).setCell ⟨wr.heap.size, 4, none⟩ (.int .u8 bb) = W2
       generalize wr.heap.size = gb
       intro hR hS)
  all_goals
    obtain ⟨y0, y1, y2, y3, y4⟩ := hS.cells
    have g1 := (hR.p.at_ ((i + 1) * 61 + (j)) (by omega)).trans (by rw [H1.out])
    have g2 := (hR.p.at_ (i * 61 + j) (by omega)).trans (by rw [H2.out])
    have w1_ : IntKind.i64.wrap ((i : Int) + 1) = (i : Int) + 1 := IntWalk.i64_in _ (by omega)
    have w2_ : IntKind.i64.wrap ((j : Int)) = (j : Int) := IntWalk.i64_in _ (by omega)
    have w3_ : ((i : Int) + 1).toNat = i + 1 := by omega
    have w4_ : ((j : Int)).toNat = j := by omega
    have w5_ : (i : Int) + 1 < 61 := by omega
    have w6_ : (j : Int) < 61 := by omega
    have w7_ : 0 ≤ (i : Int) + 1 := by omega
    have w8_ : 0 ≤ (j : Int) := by omega
    have w9_ : IntKind.i64.wrap (nn + D1) = nn + D1 := IntWalk.i64_in _ (by omega)
    have wa_ : (i : Int) < 61 := by omega
    have wb_ : (j : Int) < 61 := by omega
    go_wp2
    go_quiet (fail)
    clear w1_ w2_ w3_ w4_ w5_ w6_ w7_ w8_ w9_ wa_ wb_
    go_wp2
    exact HK.out _ _ _ _ _ _ _ _ _ _ _ _ _ _ _ _ _ _ _ _ _ _ _ _ _ _ _ _ _ _ _ _ _ _ _ _ _ _ _ _ _ _ _ _ _ _ _ _ _ _ _ _ _ _ _ _ (hR.drewN _)
end Go.Proofs.Ytdefecnngccmoaa.Ed
namespace Go.Proofs.Ytdefecnngccmoaa.Ed
open Go.RowKit Go.Proofs.YtdefecnngccmoaaW.PrintWords QTells
set_option maxRecDepth 1000000 in
set_option maxHeartbeats 40000000 in
theorem ptake_4 (a b : ByteArray) (ha : a.size ≤ 60) (hb : b.size ≤ 60) (c : Lb.Cst) (w : World) (mb g gG i j : Nat) (G : List Int) (vout : Value) (acc : List S38) (hi : (i : Int) ≤ a.size) (hj : (j : Int) ≤ b.size)
    (nn kk bb D1 D2 : Int) (hyes : ∀ W, Box W g c → Calls Try.prog 38 #[.string (a.extract i a.size), .string (b.extract j b.size), .pointer (some ⟨g, 0, none⟩)] W (StepPost 1 0 nn kk bb true W)) (hx : i + 1 ≤ 60) (hy : j ≤ 60) (h1 : G.getD ((i + 1) * 61 + (j)) 0 = D1) (h2 : G.getD (i * 61 + j) 0 = D2) (d1 : 0 ≤ D1) (d2 : D1 ≤ 120000) (n1 : 0 ≤ nn) (n2 : nn ≤ 1000) (hd : (nn + D1 == D2) = true) (hn : acc.length ≤ 1000)
    (K : Act → World → Prop) (Q : Exit → Act → World → Prop) (wr : World) (hP : PR w wr mb g gG c G vout acc) (v2 v3 v4 v5 v6 v7 v8 v9 v10 v13 v14 v19 v20 v21 v22 v23 v24 v25 v26 v27 v28 v29 v30 v31 v32 v33 v34 v35 v36 v37 v38 v39 v40 v41 v42 v43 v44 v45 v46 v47 v48 v49 v50 v51 v52 v53 v54 v55 v56 v57 v58 v59 v60 v61 v62 v63 v64 v65 v66 v67 v68 v69 v70 v71 v72 v73 v74 v75 v76 v77 v78 v79 v80 v81 v82 v83 v84 v85 v86 v87 v88 v89 v90 v91 v92 v93 v94 v95 v96 v97 v98 v99 v100 v101 v102 v103 v104 v105 v106 v107 v108 v109 v110 v111 v112 v113 v114 v115 v116 v117 v118 v119 v120 v121 v122 v123 v124 : Value)
    (hK : ∀ (u19 u20 u70 u71 u72 u73 u74 u75 u76 u77 u78 u79 u80 u81 u82 u83 u84 u85 u86 u87 u88 u89 u90 u91 u92 u93 u94 u95 u96 u97 u98 u99 u100 u101 u102 u103 u104 u105 u106 u107 u108 u109 u110 u111 u112 u113 u114 u115 u116 u117 u118 u119 u120 u121 u122 v' : Value) (W : World), PR w W mb g gG c G v' (acc ++ [⟨kk, bb⟩]) → Q (.exit 5) ⟨#[.string a, .string b, v2, v3, v4, v5, v6, v7, v8, v9, v10, .map (some mb), .pointer (some ⟨gG, 0, none⟩), v13, v14, v', .int .i64 ((i : Int) + 1), .int .i64 ((j : Int)), .int .u8 4, u19, u20, v21, v22, v23, v24, v25, v26, v27, v28, v29, v30, v31, v32, v33, v34, v35, v36, v37, v38, v39, v40, v41, v42, v43, v44, v45, v46, v47, v48, v49, v50, v51, v52, v53, v54, v55, v56, v57, v58, v59, v60, v61, v62, v63, v64, v65, v66, v67, v68, v69, u70, u71, u72, u73, u74, u75, u76, u77, u78, u79, u80, u81, u82, u83, u84, u85, u86, u87, u88, u89, u90, u91, u92, u93, u94, u95, u96, u97, u98, u99, u100, u101, u102, u103, u104, u105, u106, u107, u108, u109, u110, u111, u112, u113, u114, u115, u116, u117, u118, u119, u120, u121, u122, v123, v124], []⟩ W) :
    (bodyAt Try.f14 3).wp Try.prog (Exit.then K Q) ⟨#[.string a, .string b, v2, v3, v4, v5, v6, v7, v8, v9, v10, .map (some mb), .pointer (some ⟨gG, 0, none⟩), v13, v14, vout, .int .i64 (i : Int), .int .i64 (j : Int), .int .u8 4, v19, v20, v21, v22, v23, v24, v25, v26, v27, v28, v29, v30, v31, v32, v33, v34, v35, v36, v37, v38, v39, v40, v41, v42, v43, v44, v45, v46, v47, v48, v49, v50, v51, v52, v53, v54, v55, v56, v57, v58, v59, v60, v61, v62, v63, v64, v65, v66, v67, v68, v69, v70, v71, v72, v73, v74, v75, v76, v77, v78, v79, v80, v81, v82, v83, v84, v85, v86, v87, v88, v89, v90, v91, v92, v93, v94, v95, v96, v97, v98, v99, v100, v101, v102, v103, v104, v105, v106, v107, v108, v109, v110, v111, v112, v113, v114, v115, v116, v117, v118, v119, v120, v121, v122, v123, v124], []⟩ wr := by
  have HK := Lib.hid hK
  clear hK
  have H1 := Lib.hid h1
  have H2 := Lib.hid h2
  clear h1 h2
  have l1 := (fits_look hP.drew.p.fits).2.2.2.1
  have l2 := (fits_look (hP.alloc (.cells #[.int .i64 0, .int .i64 0, .int .i64 0, .int .u8 0, .int .u8 0] 73)).drew.p.fits).2.2.2.1
  have b1 := Lib.hid hP.drew.p.fits.2
  have b2 := Lib.hid (hP.alloc (.cells #[.int .i64 0, .int .i64 0, .int .i64 0, .int .u8 0, .int .u8 0] 73)).drew.p.fits.2
  conv => arg 2; whnf
  go_wp2
  refine wp_region_noPanic ?_
  go_region_with (go_at_call 38; first | (refine (hyes _ b1.out).mono ?_; rintro e W1 ⟨rfl, hb1⟩; have hQ := hP.drew.keep hb1; try dsimp only [stepV]) | (refine (hyes _ b2.out).mono ?_; rintro e W1 ⟨rfl, hb1⟩; have hQ := (hP.alloc (.cells #[.int .i64 0, .int .i64 0, .int .i64 0, .int .u8 0, .int .u8 0] 73)).drew.keep hb1; have hz := (hb1.block wr.heap.size (by simp)).trans (blk_new wr (.cells #[.int .i64 0, .int .i64 0, .int .i64 0, .int .u8 0, .int .u8 0] 73)); have y0_ := (blk_cell hz 0).trans rfl; have y1_ := (blk_cell hz 1).trans rfl; have y2_ := (blk_cell hz 2).trans rfl; have y3_ := (blk_cell hz 3).trans rfl; have y4_ := (blk_cell hz 4).trans rfl; have f0_ := blk_frozen hz 0; have f1_ := blk_frozen hz 1; have f2_ := blk_frozen hz 2; have f3_ := blk_frozen hz 3; have f4_ := blk_frozen hz 4; try dsimp only [stepV]))
  all_goals refine NoPanic.normal ?_
  all_goals go_simp
  all_goals
    first
    | (have hR := hQ.alloc (.cells #[.int .i64 1, .int .i64 0, .int .i64 nn, .int .u8 kk, .int .u8 bb] 73)
       have hS : SBox (W1.alloc (.cells #[.int .i64 1, .int .i64 0, .int .i64 nn, .int .u8 kk, .int .u8 bb] 73)) W1.heap.size 1 0 nn kk bb := blk_new _ _
       clear hQ hb1 l1 l2 b1 b2
       revert hR hS
       generalize W1.alloc (.cells #[.int .i64 1, .int .i64 0, .int .i64 nn, .int .u8 kk, .int .u8 bb] 73) = W2
       generalize W1.heap.size = gb
       fail_if_success (have := hz)
       intro hR hS)
    | (obtain ⟨hR, hS⟩ := hQ.put5 hz hP.p.below.size 1 0 nn kk bb
       clear y0_ y1_ y2_ y3_ y4_ f0_ f1_ f2_ f3_ f4_ hz hQ hb1 l1 l2 b1 b2
       revert hR hS
       generalize ((((W1.setCell ⟨wr.heap.size, 0, none⟩ (.int .i64 1)).setCell ⟨wr.heap.size, 1, none⟩ (.int .i64 0)).setCell ⟨wr.heap.size, 2, none⟩ (.int .i64 nn)).setCell ⟨wr.heap.size, 3, none⟩ (.int .u8 kk)).setCell ⟨wr.heap.size, 4, none⟩ (.int .u8 bb) = W2
       generalize wr.heap.size = gb
       intro hR hS)
  all_goals
    obtain ⟨y0, y1, y2, y3, y4⟩ := hS.cells
    have g1 := (hR.p.at_ ((i + 1) * 61 + (j)) (by omega)).trans (by rw [H1.out])
    have g2 := (hR.p.at_ (i * 61 + j) (by omega)).trans (by rw [H2.out])
    have w1_ : IntKind.i64.wrap ((i : Int) + 1) = (i : Int) + 1 := IntWalk.i64_in _ (by omega)
    have w2_ : IntKind.i64.wrap ((j : Int)) = (j : Int) := IntWalk.i64_in _ (by omega)
    have w3_ : ((i : Int) + 1).toNat = i + 1 := by omega
    have w4_ : ((j : Int)).toNat = j := by omega
    have w5_ : (i : Int) + 1 < 61 := by omega
    have w6_ : (j : Int) < 61 := by omega
    have w7_ : 0 ≤ (i : Int) + 1 := by omega
    have w8_ : 0 ≤ (j : Int) := by omega
    have w9_ : IntKind.i64.wrap (nn + D1) = nn + D1 := IntWalk.i64_in _ (by omega)
    have wa_ : (i : Int) < 61 := by omega
    have wb_ : (j : Int) < 61 := by omega
    go_wp2
    go_quiet (fail)
    clear w1_ w2_ w3_ w4_ w5_ w6_ w7_ w8_ w9_ wa_ wb_
    have hR2 := hR.drewN nq
    revert hR2
    have y0' : (W2.drewN nq).cell? ⟨gb, 0, none⟩ = _ := y0
    have y1' : (W2.drewN nq).cell? ⟨gb, 1, none⟩ = _ := y1
    have y3' : (W2.drewN nq).cell? ⟨gb, 3, none⟩ = _ := y3
    have y4' : (W2.drewN nq).cell? ⟨gb, 4, none⟩ = _ := y4
    have hz' : SBox (W2.drewN nq) gb _ _ _ _ _ := hS
    revert y0' y1' y3' y4' hz'
    clear y0 y1 y2 y3 y4 g1 g2 hR hS
    generalize W2.drewN nq = W3
    intro y0 y1 y3 y4 hz hR
    go_wp2_with (at_builtin; refine Kd.R_append k38 (w0 := w) w.heap.size rfl (.tmp 110) (.tmp 113) 33 38 (.agg #[(.int .u8 0), (.int .u8 0)]) 2 rfl Try.underlying33 info38 rfl (by decide) (by omega) vout acc (⟨kk, bb⟩ : S38) [.int .u8 kk, .int .u8 bb] (fun _ => True) (fun _ => False) rfl rfl (k38_mkM _ _ _ _) (fun _ h => h.elim) (fun _ _ => trivial) hR.r hR.p.below hR.p.below.size (by omega) ?_; intro v1 w1 HO1 HB1 hg1 _; have hR1 : PR w w1 mb g gG c G v1 (acc ++ [⟨kk, bb⟩]) := ⟨(hR.p.grown hR.r hg1 HB1), HO1⟩; have z1 : SBox w1 gb _ _ _ _ _ := (hg1.block gb (blk_lt hz) (Kd_ne hR.r hz)).trans hz; obtain ⟨y0, y1, y2, y3, y4⟩ := z1.cells)
    exact HK.out _ _ _ _ _ _ _ _ _ _ _ _ _ _ _ _ _ _ _ _ _ _ _ _ _ _ _ _ _ _ _ _ _ _ _ _ _ _ _ _ _ _ _ _ _ _ _ _ _ _ _ _ _ _ _ _ _ hR1
end Go.Proofs.Ytdefecnngccmoaa.Ed
namespace Go.Proofs.Ytdefecnngccmoaa.Ed
open Go.RowKit Go.Proofs.YtdefecnngccmoaaW.PrintWords QTells
set_option maxRecDepth 1000000 in
set_option maxHeartbeats 40000000 in
theorem ptake_5 (a b : ByteArray) (ha : a.size ≤ 60) (hb : b.size ≤ 60) (c : Lb.Cst) (w : World) (mb g gG i j : Nat) (G : List Int) (vout : Value) (acc : List S38) (hi : (i : Int) ≤ a.size) (hj : (j : Int) ≤ b.size)
    (nn kk bb D1 D2 : Int) (hyes : ∀ W, Box W g c → Calls Try.prog 39 #[.string (a.extract i a.size), .string (b.extract j b.size), .pointer (some ⟨g, 0, none⟩)] W (StepPost 0 1 nn kk bb true W)) (hx : i ≤ 60) (hy : j + 1 ≤ 60) (h1 : G.getD ((i) * 61 + (j + 1)) 0 = D1) (h2 : G.getD (i * 61 + j) 0 = D2) (d1 : 0 ≤ D1) (d2 : D1 ≤ 120000) (n1 : 0 ≤ nn) (n2 : nn ≤ 1000) (hd : (nn + D1 == D2) = true) (hn : acc.length ≤ 1000)
    (K : Act → World → Prop) (Q : Exit → Act → World → Prop) (wr : World) (hP : PR w wr mb g gG c G vout acc) (v2 v3 v4 v5 v6 v7 v8 v9 v10 v13 v14 v19 v20 v21 v22 v23 v24 v25 v26 v27 v28 v29 v30 v31 v32 v33 v34 v35 v36 v37 v38 v39 v40 v41 v42 v43 v44 v45 v46 v47 v48 v49 v50 v51 v52 v53 v54 v55 v56 v57 v58 v59 v60 v61 v62 v63 v64 v65 v66 v67 v68 v69 v70 v71 v72 v73 v74 v75 v76 v77 v78 v79 v80 v81 v82 v83 v84 v85 v86 v87 v88 v89 v90 v91 v92 v93 v94 v95 v96 v97 v98 v99 v100 v101 v102 v103 v104 v105 v106 v107 v108 v109 v110 v111 v112 v113 v114 v115 v116 v117 v118 v119 v120 v121 v122 v123 v124 : Value)
    (hK : ∀ (u19 u20 u70 u71 u72 u73 u74 u75 u76 u77 u78 u79 u80 u81 u82 u83 u84 u85 u86 u87 u88 u89 u90 u91 u92 u93 u94 u95 u96 u97 u98 u99 u100 u101 u102 u103 u104 u105 u106 u107 u108 u109 u110 u111 u112 u113 u114 u115 u116 u117 u118 u119 u120 u121 u122 v' : Value) (W : World), PR w W mb g gG c G v' (acc ++ [⟨kk, bb⟩]) → Q (.exit 5) ⟨#[.string a, .string b, v2, v3, v4, v5, v6, v7, v8, v9, v10, .map (some mb), .pointer (some ⟨gG, 0, none⟩), v13, v14, v', .int .i64 ((i : Int)), .int .i64 ((j : Int) + 1), .int .u8 5, u19, u20, v21, v22, v23, v24, v25, v26, v27, v28, v29, v30, v31, v32, v33, v34, v35, v36, v37, v38, v39, v40, v41, v42, v43, v44, v45, v46, v47, v48, v49, v50, v51, v52, v53, v54, v55, v56, v57, v58, v59, v60, v61, v62, v63, v64, v65, v66, v67, v68, v69, u70, u71, u72, u73, u74, u75, u76, u77, u78, u79, u80, u81, u82, u83, u84, u85, u86, u87, u88, u89, u90, u91, u92, u93, u94, u95, u96, u97, u98, u99, u100, u101, u102, u103, u104, u105, u106, u107, u108, u109, u110, u111, u112, u113, u114, u115, u116, u117, u118, u119, u120, u121, u122, v123, v124], []⟩ W) :
    (bodyAt Try.f14 3).wp Try.prog (Exit.then K Q) ⟨#[.string a, .string b, v2, v3, v4, v5, v6, v7, v8, v9, v10, .map (some mb), .pointer (some ⟨gG, 0, none⟩), v13, v14, vout, .int .i64 (i : Int), .int .i64 (j : Int), .int .u8 5, v19, v20, v21, v22, v23, v24, v25, v26, v27, v28, v29, v30, v31, v32, v33, v34, v35, v36, v37, v38, v39, v40, v41, v42, v43, v44, v45, v46, v47, v48, v49, v50, v51, v52, v53, v54, v55, v56, v57, v58, v59, v60, v61, v62, v63, v64, v65, v66, v67, v68, v69, v70, v71, v72, v73, v74, v75, v76, v77, v78, v79, v80, v81, v82, v83, v84, v85, v86, v87, v88, v89, v90, v91, v92, v93, v94, v95, v96, v97, v98, v99, v100, v101, v102, v103, v104, v105, v106, v107, v108, v109, v110, v111, v112, v113, v114, v115, v116, v117, v118, v119, v120, v121, v122, v123, v124], []⟩ wr := by
  have HK := Lib.hid hK
  clear hK
  have H1 := Lib.hid h1
  have H2 := Lib.hid h2
  clear h1 h2
  have l1 := (fits_look hP.drew.p.fits).2.2.2.2
  have l2 := (fits_look (hP.alloc (.cells #[.int .i64 0, .int .i64 0, .int .i64 0, .int .u8 0, .int .u8 0] 73)).drew.p.fits).2.2.2.2
  have b1 := Lib.hid hP.drew.p.fits.2
  have b2 := Lib.hid (hP.alloc (.cells #[.int .i64 0, .int .i64 0, .int .i64 0, .int .u8 0, .int .u8 0] 73)).drew.p.fits.2
  conv => arg 2; whnf
  go_wp2
  refine wp_region_noPanic ?_
  go_region_with (go_at_call 39; first | (refine (hyes _ b1.out).mono ?_; rintro e W1 ⟨rfl, hb1⟩; have hQ := hP.drew.keep hb1; try dsimp only [stepV]) | (refine (hyes _ b2.out).mono ?_; rintro e W1 ⟨rfl, hb1⟩; have hQ := (hP.alloc (.cells #[.int .i64 0, .int .i64 0, .int .i64 0, .int .u8 0, .int .u8 0] 73)).drew.keep hb1; have hz := (hb1.block wr.heap.size (by simp)).trans (blk_new wr (.cells #[.int .i64 0, .int .i64 0, .int .i64 0, .int .u8 0, .int .u8 0] 73)); have y0_ := (blk_cell hz 0).trans rfl; have y1_ := (blk_cell hz 1).trans rfl; have y2_ := (blk_cell hz 2).trans rfl; have y3_ := (blk_cell hz 3).trans rfl; have y4_ := (blk_cell hz 4).trans rfl; have f0_ := blk_frozen hz 0; have f1_ := blk_frozen hz 1; have f2_ := blk_frozen hz 2; have f3_ := blk_frozen hz 3; have f4_ := blk_frozen hz 4; try dsimp only [stepV]))
  all_goals refine NoPanic.normal ?_
  all_goals go_simp
  all_goals
    first
    | (have hR := hQ.alloc (.cells #[.int .i64 0, .int .i64 1, .int .i64 nn, .int .u8 kk, .int .u8 bb] 73)
       have hS : SBox (W1.alloc (.cells #[.int .i64 0, .int .i64 1, .int .i64 nn, .int .u8 kk, .int .u8 bb] 73)) W1.heap.size 0 1 nn kk bb := blk_new _ _
       clear hQ hb1 l1 l2 b1 b2
       revert hR hS
       generalize W1.alloc (.cells #[.int .i64 0, .int .i64 1, .int .i64 nn, .int .u8 kk, .int .u8 bb] 73) = W2
       generalize W1.heap.size = gb
       fail_if_success (have := hz)
       intro hR hS)
    | (obtain ⟨hR, hS⟩ := hQ.put5 hz hP.p.below.size 0 1 nn kk bb
       clear y0_ y1_ y2_ y3_ y4_ f0_ f1_ f2_ f3_ f4_ hz hQ hb1 l1 l2 b1 b2
       revert hR hS
       generalize ((((W1.setCell ⟨wr.heap.size, 0, none⟩ (.int .i64 0)).setCell ⟨wr.heap.size, 1, none⟩ (.int .i64 1)).setCell ⟨wr.heap.size, 2, none⟩ (.int .i64 nn)).setCell ⟨wr.heap.size, 3, none⟩ (.int .u8 kk)).setCell ⟨wr.heap.size, 4, none⟩ (.int .u8 bb) = W2
       generalize wr.heap.size = gb
       intro hR hS)
  all_goals
    obtain ⟨y0, y1, y2, y3, y4⟩ := hS.cells
    have g1 := (hR.p.at_ ((i) * 61 + (j + 1)) (by omega)).trans (by rw [H1.out])
    have g2 := (hR.p.at_ (i * 61 + j) (by omega)).trans (by rw [H2.out])
    have w1_ : IntKind.i64.wrap ((i : Int)) = (i : Int) := IntWalk.i64_in _ (by omega)
    have w2_ : IntKind.i64.wrap ((j : Int) + 1) = (j : Int) + 1 := IntWalk.i64_in _ (by omega)
    have w3_ : ((i : Int)).toNat = i := by omega
    have w4_ : ((j : Int) + 1).toNat = j + 1 := by omega
    have w5_ : (i : Int) < 61 := by omega
    have w6_ : (j : Int) + 1 < 61 := by omega
    have w7_ : 0 ≤ (i : Int) := by omega
    have w8_ : 0 ≤ (j : Int) + 1 := by omega
    have w9_ : IntKind.i64.wrap (nn + D1) = nn + D1 := IntWalk.i64_in _ (by omega)
    have wa_ : (i : Int) < 61 := by omega
    have wb_ : (j : Int) < 61 := by omega
    go_wp2
    go_quiet (fail)
    clear w1_ w2_ w3_ w4_ w5_ w6_ w7_ w8_ w9_ wa_ wb_
    have hR2 := hR.drewN nq
    revert hR2
    have y0' : (W2.drewN nq).cell? ⟨gb, 0, none⟩ = _ := y0
    have y1' : (W2.drewN nq).cell? ⟨gb, 1, none⟩ = _ := y1
    have y3' : (W2.drewN nq).cell? ⟨gb, 3, none⟩ = _ := y3
    have y4' : (W2.drewN nq).cell? ⟨gb, 4, none⟩ = _ := y4
    have hz' : SBox (W2.drewN nq) gb _ _ _ _ _ := hS
    revert y0' y1' y3' y4' hz'
    clear y0 y1 y2 y3 y4 g1 g2 hR hS
    generalize W2.drewN nq = W3
    intro y0 y1 y3 y4 hz hR
    go_wp2_with (at_builtin; refine Kd.R_append k38 (w0 := w) w.heap.size rfl (.tmp 110) (.tmp 113) 33 38 (.agg #[(.int .u8 0), (.int .u8 0)]) 2 rfl Try.underlying33 info38 rfl (by decide) (by omega) vout acc (⟨kk, bb⟩ : S38) [.int .u8 kk, .int .u8 bb] (fun _ => True) (fun _ => False) rfl rfl (k38_mkM _ _ _ _) (fun _ h => h.elim) (fun _ _ => trivial) hR.r hR.p.below hR.p.below.size (by omega) ?_; intro v1 w1 HO1 HB1 hg1 _; have hR1 : PR w w1 mb g gG c G v1 (acc ++ [⟨kk, bb⟩]) := ⟨(hR.p.grown hR.r hg1 HB1), HO1⟩; have z1 : SBox w1 gb _ _ _ _ _ := (hg1.block gb (blk_lt hz) (Kd_ne hR.r hz)).trans hz; obtain ⟨y0, y1, y2, y3, y4⟩ := z1.cells)
    exact HK.out _ _ _ _ _ _ _ _ _ _ _ _ _ _ _ _ _ _ _ _ _ _ _ _ _ _ _ _ _ _ _ _ _ _ _ _ _ _ _ _ _ _ _ _ _ _ _ _ _ _ _ _ _ _ _ _ _ hR1
end Go.Proofs.Ytdefecnngccmoaa.Ed
namespace Go.Proofs.Ytdefecnngccmoaa.Ed
open Go.RowKit Go.Proofs.YtdefecnngccmoaaW.PrintWords QTells
set_option maxRecDepth 1000000 in
set_option maxHeartbeats 40000000 in
theorem pr_ins (a b : ByteArray) (ha : a.size ≤ 60) (hb : b.size ≤ 60) (c : Lb.Cst) (hOk : c.Ok) (w : World) (mb g gG i j : Nat) (G : List Int) (hG : Grid c a b G (-1)) (vout : Value) (acc : List S38) (hn : acc.length ≤ 1000)
    (hin : i = a.size) (hjm : j < b.size)
    (Q : Exit → Act → World → Prop) (wr : World) (hP : PR w wr mb g gG c G vout acc) (v2 v3 v4 v5 v6 v7 v8 v9 v10 v13 v14 v19 v20 v21 v22 v23 v24 v25 v26 v27 v28 v29 v30 v31 v32 v33 v34 v35 v36 v37 v38 v39 v40 v41 v42 v43 v44 v45 v46 v47 v48 v49 v50 v51 v52 v53 v54 v55 v56 v57 v58 v59 v60 v61 v62 v63 v64 v65 v66 v67 v68 v69 v70 v71 v72 v73 v74 v75 v76 v77 v78 v79 v80 v81 v82 v83 v84 v85 v86 v87 v88 v89 v90 v91 v92 v93 v94 v95 v96 v97 v98 v99 v100 v101 v102 v103 v104 v105 v106 v107 v108 v109 v110 v111 v112 v113 v114 v115 v116 v117 v118 v119 v120 v121 v122 v123 v124 : Value)
    (hK : ∀ (i' j' : Nat) (ii jj : Int) (o : S38) (u18 u19 u20 u70 u71 u72 u73 u74 u75 u76 u77 u78 u79 u80 u81 u82 u83 u84 u85 u86 u87 u88 u89 u90 u91 u92 u93 u94 u95 u96 u97 u98 u99 u100 u101 u102 u103 u104 u105 u106 u107 u108 u109 u110 u111 u112 u113 u114 u115 u116 u117 u118 u119 u120 u121 u122 v' : Value) (W : World), ii = i' → jj = j' → i' ≤ a.size → j' ≤ b.size → i + j < i' + j' → pp c a b i j = o :: pp c a b i' j' → PR w W mb g gG c G v' (acc ++ [o]) → Q (.exit 5) ⟨#[.string a, .string b, v2, v3, v4, v5, v6, v7, v8, v9, v10, .map (some mb), .pointer (some ⟨gG, 0, none⟩), v13, v14, v', .int .i64 ii, .int .i64 jj, u18, u19, u20, v21, v22, v23, v24, v25, v26, v27, v28, v29, v30, v31, v32, v33, v34, v35, v36, v37, v38, v39, v40, v41, v42, v43, v44, v45, v46, v47, v48, v49, v50, v51, v52, v53, v54, v55, v56, v57, v58, v59, v60, v61, v62, v63, v64, v65, v66, v67, v68, v69, u70, u71, u72, u73, u74, u75, u76, u77, u78, u79, u80, u81, u82, u83, u84, u85, u86, u87, u88, u89, u90, u91, u92, u93, u94, u95, u96, u97, u98, u99, u100, u101, u102, u103, u104, u105, u106, u107, u108, u109, u110, u111, u112, u113, u114, u115, u116, u117, u118, u119, u120, u121, u122, v123, v124], []⟩ W) :
    (Code.loop (bodyAt Try.f14 3)).wp Try.prog Q ⟨#[.string a, .string b, v2, v3, v4, v5, v6, v7, v8, v9, v10, .map (some mb), .pointer (some ⟨gG, 0, none⟩), v13, v14, vout, .int .i64 (i : Int), .int .i64 (j : Int), .int .u8 1, v19, v20, v21, v22, v23, v24, v25, v26, v27, v28, v29, v30, v31, v32, v33, v34, v35, v36, v37, v38, v39, v40, v41, v42, v43, v44, v45, v46, v47, v48, v49, v50, v51, v52, v53, v54, v55, v56, v57, v58, v59, v60, v61, v62, v63, v64, v65, v66, v67, v68, v69, v70, v71, v72, v73, v74, v75, v76, v77, v78, v79, v80, v81, v82, v83, v84, v85, v86, v87, v88, v89, v90, v91, v92, v93, v94, v95, v96, v97, v98, v99, v100, v101, v102, v103, v104, v105, v106, v107, v108, v109, v110, v111, v112, v113, v114, v115, v116, v117, v118, v119, v120, v121, v122, v123, v124], []⟩ wr := by
  have hsw : sw a b i j = false := by
    cases hs : sw a b i j with
    | false => rfl
    | true => have := sw_lt hs; omega
  have hd := dd_ins c a b j hjm
  rw [← hin] at hd
  have ki : (i : Int) ≤ a.size := by omega
  have kj : (j : Int) ≤ b.size := by omega
  have Hs := size_ext a i (by omega)
  have Ht := size_ext b j (by omega)
  have hx4 := hG (i) (j + 1) (by omega) (by omega) (by omega)
  have qx4 := dd_bd hOk a b ha hb (i) (j + 1)
  have hx0 := hG (i) (j) (by omega) (by omega) (by omega)
  have qx0 := dd_bd hOk a b ha hb (i) (j)
  obtain ⟨ki1, ki2, kd1, kd2, kc1, kc2, ks1, ks2⟩ := id hOk
  refine wp_loop_rounds 6 ?_
  rw [rounds_succ]
  refine pskip_1 a b ha hb c w mb g gG i j G vout acc ki kj (fun W hB => (step1_a _ _ W (by omega)).mono fun _ _ h => ⟨_, _, _, _, _, h⟩) _ _ _ hP _ _ _ _ _ _ _ _ _ _ _ _ _ _ _ _ _ _ _ _ _ _ _ _ _ _ _ _ _ _ _ _ _ _ _ _ _ _ _ _ _ _ _ _ _ _ _ _ _ _ _ _ _ _ _ _ _ _ _ _ _ _ _ _ _ _ _ _ _ _ _ _ _ _ _ _ _ _ _ _ _ _ _ _ _ _ _ _ _ _ _ _ _ _ _ _ _ _ _ _ _ _ _ _ _ _ _ _ _ _ _ _ _ _ _ _ _ ?_
  intro _ _ _ _ _ _ _ _ _ _ _ _ _ _ _ _ _ _ _ _ _ _ _ _ _ _ _ _ _ _ _ _ _ _ _ _ _ _ _ _ _ _ _ _ _ _ _ _ _ _ _ _ _ _ _ W1 hP
  rw [rounds_succ]
  refine pskip_2 a b ha hb c w mb g gG i j G vout acc ki kj (fun W hB => (step2_a _ _ W g c hB (by omega)).mono fun _ _ h => h) _ _ _ hP _ _ _ _ _ _ _ _ _ _ _ _ _ _ _ _ _ _ _ _ _ _ _ _ _ _ _ _ _ _ _ _ _ _ _ _ _ _ _ _ _ _ _ _ _ _ _ _ _ _ _ _ _ _ _ _ _ _ _ _ _ _ _ _ _ _ _ _ _ _ _ _ _ _ _ _ _ _ _ _ _ _ _ _ _ _ _ _ _ _ _ _ _ _ _ _ _ _ _ _ _ _ _ _ _ _ _ _ _ _ _ _ _ _ _ _ _ ?_
  intro _ _ _ _ _ _ _ _ _ _ _ _ _ _ _ _ _ _ _ _ _ _ _ _ _ _ _ _ _ _ _ _ _ _ _ _ _ _ _ _ _ _ _ _ _ _ _ _ _ _ _ _ _ _ _ W2 hP
  rw [rounds_succ]
  refine pskip_3 a b ha hb c w mb g gG i j G vout acc ki kj (fun W hB => (step3_any _ _ W g c hB false ((swap_ext a b i j).trans hsw)).mono fun _ _ h => ⟨_, _, _, _, _, h⟩) _ _ _ hP _ _ _ _ _ _ _ _ _ _ _ _ _ _ _ _ _ _ _ _ _ _ _ _ _ _ _ _ _ _ _ _ _ _ _ _ _ _ _ _ _ _ _ _ _ _ _ _ _ _ _ _ _ _ _ _ _ _ _ _ _ _ _ _ _ _ _ _ _ _ _ _ _ _ _ _ _ _ _ _ _ _ _ _ _ _ _ _ _ _ _ _ _ _ _ _ _ _ _ _ _ _ _ _ _ _ _ _ _ _ _ _ _ _ _ _ _ ?_
  intro _ _ _ _ _ _ _ _ _ _ _ _ _ _ _ _ _ _ _ _ _ _ _ _ _ _ _ _ _ _ _ _ _ _ _ _ _ _ _ _ _ _ _ _ _ _ _ _ _ _ _ _ _ _ _ W3 hP
  rw [rounds_succ]
  refine pskip_4 a b ha hb c w mb g gG i j G vout acc ki kj (fun W hB => (step4_no _ _ W g c hB (by omega)).mono fun _ _ h => ⟨_, _, _, _, _, h⟩) _ _ _ hP _ _ _ _ _ _ _ _ _ _ _ _ _ _ _ _ _ _ _ _ _ _ _ _ _ _ _ _ _ _ _ _ _ _ _ _ _ _ _ _ _ _ _ _ _ _ _ _ _ _ _ _ _ _ _ _ _ _ _ _ _ _ _ _ _ _ _ _ _ _ _ _ _ _ _ _ _ _ _ _ _ _ _ _ _ _ _ _ _ _ _ _ _ _ _ _ _ _ _ _ _ _ _ _ _ _ _ _ _ _ _ _ _ _ _ _ _ ?_
  intro _ _ _ _ _ _ _ _ _ _ _ _ _ _ _ _ _ _ _ _ _ _ _ _ _ _ _ _ _ _ _ _ _ _ _ _ _ _ _ _ _ _ _ _ _ _ _ _ _ _ _ _ _ _ _ W4 hP
  rw [rounds_succ]
  refine ptake_5 a b ha hb c w mb g gG i j G vout acc ki kj c.ins 5 (bt (b.extract j b.size) 0) _ _ (fun W hB => step5_yes _ _ W g c hB (by omega)) (by omega) (by omega) hx4 hx0 (by omega) (by omega) (by omega) (by omega) (beq_iff_eq.2 (by omega)) hn _ _ _ hP _ _ _ _ _ _ _ _ _ _ _ _ _ _ _ _ _ _ _ _ _ _ _ _ _ _ _ _ _ _ _ _ _ _ _ _ _ _ _ _ _ _ _ _ _ _ _ _ _ _ _ _ _ _ _ _ _ _ _ _ _ _ _ _ _ _ _ _ _ _ _ _ _ _ _ _ _ _ _ _ _ _ _ _ _ _ _ _ _ _ _ _ _ _ _ _ _ _ _ _ _ _ _ _ _ _ _ _ _ _ _ _ _ _ _ _ _ ?_
  intro _ _ _ _ _ _ _ _ _ _ _ _ _ _ _ _ _ _ _ _ _ _ _ _ _ _ _ _ _ _ _ _ _ _ _ _ _ _ _ _ _ _ _ _ _ _ _ _ _ _ _ _ _ _ _ v' W' hP'
  exact hK (i) (j + 1) _ _ _ _ _ _ _ _ _ _ _ _ _ _ _ _ _ _ _ _ _ _ _ _ _ _ _ _ _ _ _ _ _ _ _ _ _ _ _ _ _ _ _ _ _ _ _ _ _ _ _ _ _ _ _ _ _ _ _ _ _ (by omega) (by omega) (by omega) (by omega) (by omega) (by rw [bt_ext b j (by omega)]; have e := pp_ins c a b j hjm; rw [← hin] at e; exact e) hP'
end Go.Proofs.Ytdefecnngccmoaa.Ed
namespace Go.Proofs.Ytdefecnngccmoaa.Ed
open Go.RowKit Go.Proofs.YtdefecnngccmoaaW.PrintWords QTells
set_option maxRecDepth 1000000 in
set_option maxHeartbeats 40000000 in
theorem pr_del (a b : ByteArray) (ha : a.size ≤ 60) (hb : b.size ≤ 60) (c : Lb.Cst) (hOk : c.Ok) (w : World) (mb g gG i j : Nat) (G : List Int) (hG : Grid c a b G (-1)) (vout : Value) (acc : List S38) (hn : acc.length ≤ 1000)
    (hin : i < a.size) (hjm : j = b.size)
    (Q : Exit → Act → World → Prop) (wr : World) (hP : PR w wr mb g gG c G vout acc) (v2 v3 v4 v5 v6 v7 v8 v9 v10 v13 v14 v19 v20 v21 v22 v23 v24 v25 v26 v27 v28 v29 v30 v31 v32 v33 v34 v35 v36 v37 v38 v39 v40 v41 v42 v43 v44 v45 v46 v47 v48 v49 v50 v51 v52 v53 v54 v55 v56 v57 v58 v59 v60 v61 v62 v63 v64 v65 v66 v67 v68 v69 v70 v71 v72 v73 v74 v75 v76 v77 v78 v79 v80 v81 v82 v83 v84 v85 v86 v87 v88 v89 v90 v91 v92 v93 v94 v95 v96 v97 v98 v99 v100 v101 v102 v103 v104 v105 v106 v107 v108 v109 v110 v111 v112 v113 v114 v115 v116 v117 v118 v119 v120 v121 v122 v123 v124 : Value)
    (hK : ∀ (i' j' : Nat) (ii jj : Int) (o : S38) (u18 u19 u20 u70 u71 u72 u73 u74 u75 u76 u77 u78 u79 u80 u81 u82 u83 u84 u85 u86 u87 u88 u89 u90 u91 u92 u93 u94 u95 u96 u97 u98 u99 u100 u101 u102 u103 u104 u105 u106 u107 u108 u109 u110 u111 u112 u113 u114 u115 u116 u117 u118 u119 u120 u121 u122 v' : Value) (W : World), ii = i' → jj = j' → i' ≤ a.size → j' ≤ b.size → i + j < i' + j' → pp c a b i j = o :: pp c a b i' j' → PR w W mb g gG c G v' (acc ++ [o]) → Q (.exit 5) ⟨#[.string a, .string b, v2, v3, v4, v5, v6, v7, v8, v9, v10, .map (some mb), .pointer (some ⟨gG, 0, none⟩), v13, v14, v', .int .i64 ii, .int .i64 jj, u18, u19, u20, v21, v22, v23, v24, v25, v26, v27, v28, v29, v30, v31, v32, v33, v34, v35, v36, v37, v38, v39, v40, v41, v42, v43, v44, v45, v46, v47, v48, v49, v50, v51, v52, v53, v54, v55, v56, v57, v58, v59, v60, v61, v62, v63, v64, v65, v66, v67, v68, v69, u70, u71, u72, u73, u74, u75, u76, u77, u78, u79, u80, u81, u82, u83, u84, u85, u86, u87, u88, u89, u90, u91, u92, u93, u94, u95, u96, u97, u98, u99, u100, u101, u102, u103, u104, u105, u106, u107, u108, u109, u110, u111, u112, u113, u114, u115, u116, u117, u118, u119, u120, u121, u122, v123, v124], []⟩ W) :
    (Code.loop (bodyAt Try.f14 3)).wp Try.prog Q ⟨#[.string a, .string b, v2, v3, v4, v5, v6, v7, v8, v9, v10, .map (some mb), .pointer (some ⟨gG, 0, none⟩), v13, v14, vout, .int .i64 (i : Int), .int .i64 (j : Int), .int .u8 1, v19, v20, v21, v22, v23, v24, v25, v26, v27, v28, v29, v30, v31, v32, v33, v34, v35, v36, v37, v38, v39, v40, v41, v42, v43, v44, v45, v46, v47, v48, v49, v50, v51, v52, v53, v54, v55, v56, v57, v58, v59, v60, v61, v62, v63, v64, v65, v66, v67, v68, v69, v70, v71, v72, v73, v74, v75, v76, v77, v78, v79, v80, v81, v82, v83, v84, v85, v86, v87, v88, v89, v90, v91, v92, v93, v94, v95, v96, v97, v98, v99, v100, v101, v102, v103, v104, v105, v106, v107, v108, v109, v110, v111, v112, v113, v114, v115, v116, v117, v118, v119, v120, v121, v122, v123, v124], []⟩ wr := by
  have hsw : sw a b i j = false := by
    cases hs : sw a b i j with
    | false => rfl
    | true => have := sw_lt hs; omega
  have hd := dd_del c a b i hin
  rw [← hjm] at hd
  have ki : (i : Int) ≤ a.size := by omega
  have kj : (j : Int) ≤ b.size := by omega
  have Hs := size_ext a i (by omega)
  have Ht := size_ext b j (by omega)
  have hx3 := hG (i + 1) (j) (by omega) (by omega) (by omega)
  have qx3 := dd_bd hOk a b ha hb (i + 1) (j)
  have hx0 := hG (i) (j) (by omega) (by omega) (by omega)
  have qx0 := dd_bd hOk a b ha hb (i) (j)
  obtain ⟨ki1, ki2, kd1, kd2, kc1, kc2, ks1, ks2⟩ := id hOk
  refine wp_loop_rounds 6 ?_
  rw [rounds_succ]
  refine pskip_1 a b ha hb c w mb g gG i j G vout acc ki kj (fun W hB => (step1_b _ _ W (by omega) (by omega)).mono fun _ _ h => ⟨_, _, _, _, _, h⟩) _ _ _ hP _ _ _ _ _ _ _ _ _ _ _ _ _ _ _ _ _ _ _ _ _ _ _ _ _ _ _ _ _ _ _ _ _ _ _ _ _ _ _ _ _ _ _ _ _ _ _ _ _ _ _ _ _ _ _ _ _ _ _ _ _ _ _ _ _ _ _ _ _ _ _ _ _ _ _ _ _ _ _ _ _ _ _ _ _ _ _ _ _ _ _ _ _ _ _ _ _ _ _ _ _ _ _ _ _ _ _ _ _ _ _ _ _ _ _ _ _ ?_
  intro _ _ _ _ _ _ _ _ _ _ _ _ _ _ _ _ _ _ _ _ _ _ _ _ _ _ _ _ _ _ _ _ _ _ _ _ _ _ _ _ _ _ _ _ _ _ _ _ _ _ _ _ _ _ _ W1 hP
  rw [rounds_succ]
  refine pskip_2 a b ha hb c w mb g gG i j G vout acc ki kj (fun W hB => (step2_b _ _ W g c hB (by omega) (by omega)).mono fun _ _ h => h) _ _ _ hP _ _ _ _ _ _ _ _ _ _ _ _ _ _ _ _ _ _ _ _ _ _ _ _ _ _ _ _ _ _ _ _ _ _ _ _ _ _ _ _ _ _ _ _ _ _ _ _ _ _ _ _ _ _ _ _ _ _ _ _ _ _ _ _ _ _ _ _ _ _ _ _ _ _ _ _ _ _ _ _ _ _ _ _ _ _ _ _ _ _ _ _ _ _ _ _ _ _ _ _ _ _ _ _ _ _ _ _ _ _ _ _ _ _ _ _ _ ?_
  intro _ _ _ _ _ _ _ _ _ _ _ _ _ _ _ _ _ _ _ _ _ _ _ _ _ _ _ _ _ _ _ _ _ _ _ _ _ _ _ _ _ _ _ _ _ _ _ _ _ _ _ _ _ _ _ W2 hP
  rw [rounds_succ]
  refine pskip_3 a b ha hb c w mb g gG i j G vout acc ki kj (fun W hB => (step3_any _ _ W g c hB false ((swap_ext a b i j).trans hsw)).mono fun _ _ h => ⟨_, _, _, _, _, h⟩) _ _ _ hP _ _ _ _ _ _ _ _ _ _ _ _ _ _ _ _ _ _ _ _ _ _ _ _ _ _ _ _ _ _ _ _ _ _ _ _ _ _ _ _ _ _ _ _ _ _ _ _ _ _ _ _ _ _ _ _ _ _ _ _ _ _ _ _ _ _ _ _ _ _ _ _ _ _ _ _ _ _ _ _ _ _ _ _ _ _ _ _ _ _ _ _ _ _ _ _ _ _ _ _ _ _ _ _ _ _ _ _ _ _ _ _ _ _ _ _ _ ?_
  intro _ _ _ _ _ _ _ _ _ _ _ _ _ _ _ _ _ _ _ _ _ _ _ _ _ _ _ _ _ _ _ _ _ _ _ _ _ _ _ _ _ _ _ _ _ _ _ _ _ _ _ _ _ _ _ W3 hP
  rw [rounds_succ]
  refine ptake_4 a b ha hb c w mb g gG i j G vout acc ki kj c.del 4 0 _ _ (fun W hB => step4_yes _ _ W g c hB (by omega)) (by omega) (by omega) hx3 hx0 (by omega) (by omega) (by omega) (by omega) (beq_iff_eq.2 (by omega)) hn _ _ _ hP _ _ _ _ _ _ _ _ _ _ _ _ _ _ _ _ _ _ _ _ _ _ _ _ _ _ _ _ _ _ _ _ _ _ _ _ _ _ _ _ _ _ _ _ _ _ _ _ _ _ _ _ _ _ _ _ _ _ _ _ _ _ _ _ _ _ _ _ _ _ _ _ _ _ _ _ _ _ _ _ _ _ _ _ _ _ _ _ _ _ _ _ _ _ _ _ _ _ _ _ _ _ _ _ _ _ _ _ _ _ _ _ _ _ _ _ _ ?_
  intro _ _ _ _ _ _ _ _ _ _ _ _ _ _ _ _ _ _ _ _ _ _ _ _ _ _ _ _ _ _ _ _ _ _ _ _ _ _ _ _ _ _ _ _ _ _ _ _ _ _ _ _ _ _ _ v' W' hP'
  exact hK (i + 1) (j) _ _ _ _ _ _ _ _ _ _ _ _ _ _ _ _ _ _ _ _ _ _ _ _ _ _ _ _ _ _ _ _ _ _ _ _ _ _ _ _ _ _ _ _ _ _ _ _ _ _ _ _ _ _ _ _ _ _ _ _ _ (by omega) (by omega) (by omega) (by omega) (by omega) (by have e := pp_del c a b i hin; rw [← hjm] at e; exact e) hP'
end Go.Proofs.Ytdefecnngccmoaa.Ed
namespace Go.Proofs.Ytdefecnngccmoaa.Ed
open Go.RowKit Go.Proofs.YtdefecnngccmoaaW.PrintWords QTells
set_option maxRecDepth 1000000 in
set_option maxHeartbeats 40000000 in
theorem pr_eq (a b : ByteArray) (ha : a.size ≤ 60) (hb : b.size ≤ 60) (c : Lb.Cst) (hOk : c.Ok) (w : World) (mb g gG i j : Nat) (G : List Int) (hG : Grid c a b G (-1)) (vout : Value) (acc : List S38) (hn : acc.length ≤ 1000)
    (hin : i < a.size) (hjm : j < b.size) (he : bt a i = bt b j)
    (Q : Exit → Act → World → Prop) (wr : World) (hP : PR w wr mb g gG c G vout acc) (v2 v3 v4 v5 v6 v7 v8 v9 v10 v13 v14 v19 v20 v21 v22 v23 v24 v25 v26 v27 v28 v29 v30 v31 v32 v33 v34 v35 v36 v37 v38 v39 v40 v41 v42 v43 v44 v45 v46 v47 v48 v49 v50 v51 v52 v53 v54 v55 v56 v57 v58 v59 v60 v61 v62 v63 v64 v65 v66 v67 v68 v69 v70 v71 v72 v73 v74 v75 v76 v77 v78 v79 v80 v81 v82 v83 v84 v85 v86 v87 v88 v89 v90 v91 v92 v93 v94 v95 v96 v97 v98 v99 v100 v101 v102 v103 v104 v105 v106 v107 v108 v109 v110 v111 v112 v113 v114 v115 v116 v117 v118 v119 v120 v121 v122 v123 v124 : Value)
    (hK : ∀ (i' j' : Nat) (ii jj : Int) (o : S38) (u18 u19 u20 u70 u71 u72 u73 u74 u75 u76 u77 u78 u79 u80 u81 u82 u83 u84 u85 u86 u87 u88 u89 u90 u91 u92 u93 u94 u95 u96 u97 u98 u99 u100 u101 u102 u103 u104 u105 u106 u107 u108 u109 u110 u111 u112 u113 u114 u115 u116 u117 u118 u119 u120 u121 u122 v' : Value) (W : World), ii = i' → jj = j' → i' ≤ a.size → j' ≤ b.size → i + j < i' + j' → pp c a b i j = o :: pp c a b i' j' → PR w W mb g gG c G v' (acc ++ [o]) → Q (.exit 5) ⟨#[.string a, .string b, v2, v3, v4, v5, v6, v7, v8, v9, v10, .map (some mb), .pointer (some ⟨gG, 0, none⟩), v13, v14, v', .int .i64 ii, .int .i64 jj, u18, u19, u20, v21, v22, v23, v24, v25, v26, v27, v28, v29, v30, v31, v32, v33, v34, v35, v36, v37, v38, v39, v40, v41, v42, v43, v44, v45, v46, v47, v48, v49, v50, v51, v52, v53, v54, v55, v56, v57, v58, v59, v60, v61, v62, v63, v64, v65, v66, v67, v68, v69, u70, u71, u72, u73, u74, u75, u76, u77, u78, u79, u80, u81, u82, u83, u84, u85, u86, u87, u88, u89, u90, u91, u92, u93, u94, u95, u96, u97, u98, u99, u100, u101, u102, u103, u104, u105, u106, u107, u108, u109, u110, u111, u112, u113, u114, u115, u116, u117, u118, u119, u120, u121, u122, v123, v124], []⟩ W) :
    (Code.loop (bodyAt Try.f14 3)).wp Try.prog Q ⟨#[.string a, .string b, v2, v3, v4, v5, v6, v7, v8, v9, v10, .map (some mb), .pointer (some ⟨gG, 0, none⟩), v13, v14, vout, .int .i64 (i : Int), .int .i64 (j : Int), .int .u8 1, v19, v20, v21, v22, v23, v24, v25, v26, v27, v28, v29, v30, v31, v32, v33, v34, v35, v36, v37, v38, v39, v40, v41, v42, v43, v44, v45, v46, v47, v48, v49, v50, v51, v52, v53, v54, v55, v56, v57, v58, v59, v60, v61, v62, v63, v64, v65, v66, v67, v68, v69, v70, v71, v72, v73, v74, v75, v76, v77, v78, v79, v80, v81, v82, v83, v84, v85, v86, v87, v88, v89, v90, v91, v92, v93, v94, v95, v96, v97, v98, v99, v100, v101, v102, v103, v104, v105, v106, v107, v108, v109, v110, v111, v112, v113, v114, v115, v116, v117, v118, v119, v120, v121, v122, v123, v124], []⟩ wr := by
  have hsw : sw a b i j = false := by
    cases hs : sw a b i j with
    | false => rfl
    | true => exact absurd he (sw_ne hs)
  have hd := dd_step c a b i j hin hjm
  rw [if_neg (by rw [hsw]; decide), Lb.one, if_pos he] at hd
  have ki : (i : Int) ≤ a.size := by omega
  have kj : (j : Int) ≤ b.size := by omega
  have Hs := size_ext a i (by omega)
  have Ht := size_ext b j (by omega)
  have hx1 := hG (i + 1) (j + 1) (by omega) (by omega) (by omega)
  have qx1 := dd_bd hOk a b ha hb (i + 1) (j + 1)
  have hx3 := hG (i + 1) (j) (by omega) (by omega) (by omega)
  have qx3 := dd_bd hOk a b ha hb (i + 1) (j)
  have hx4 := hG (i) (j + 1) (by omega) (by omega) (by omega)
  have qx4 := dd_bd hOk a b ha hb (i) (j + 1)
  have hx0 := hG (i) (j) (by omega) (by omega) (by omega)
  have qx0 := dd_bd hOk a b ha hb (i) (j)
  obtain ⟨ki1, ki2, kd1, kd2, kc1, kc2, ks1, ks2⟩ := id hOk
  refine wp_loop_rounds 6 ?_
  by_cases e1 : dd c a b (i + 1) (j + 1) = dd c a b i j
  · skip
    rw [rounds_succ]
    refine ptake_1 a b ha hb c w mb g gG i j G vout acc ki kj 0 1 0 _ _ (fun W _ => step1_yes _ _ W (by omega) (by omega) true (by rw [bt_ext a i (by omega), bt_ext b j (by omega)]; exact beq_iff_eq.2 he)) (by omega) (by omega) hx1 hx0 (by omega) (by omega) (by omega) (by omega) (beq_iff_eq.2 (by omega)) hn _ _ _ hP _ _ _ _ _ _ _ _ _ _ _ _ _ _ _ _ _ _ _ _ _ _ _ _ _ _ _ _ _ _ _ _ _ _ _ _ _ _ _ _ _ _ _ _ _ _ _ _ _ _ _ _ _ _ _ _ _ _ _ _ _ _ _ _ _ _ _ _ _ _ _ _ _ _ _ _ _ _ _ _ _ _ _ _ _ _ _ _ _ _ _ _ _ _ _ _ _ _ _ _ _ _ _ _ _ _ _ _ _ _ _ _ _ _ _ _ _ ?_
    intro _ _ _ _ _ _ _ _ _ _ _ _ _ _ _ _ _ _ _ _ _ _ _ _ _ _ _ _ _ _ _ _ _ _ _ _ _ _ _ _ _ _ _ _ _ _ _ _ _ _ _ _ _ _ _ v' W' hP'
    exact hK (i + 1) (j + 1) _ _ _ _ _ _ _ _ _ _ _ _ _ _ _ _ _ _ _ _ _ _ _ _ _ _ _ _ _ _ _ _ _ _ _ _ _ _ _ _ _ _ _ _ _ _ _ _ _ _ _ _ _ _ _ _ _ _ _ _ _ (by omega) (by omega) (by omega) (by omega) (by omega) (by rw [pp_step c a b i j hin hjm, if_pos ⟨he, by omega⟩]) hP'
  · skip
    rw [rounds_succ]
    refine pmiss_1 a b ha hb c w mb g gG i j G vout acc ki kj 0 1 0 _ _ (fun W _ => step1_yes _ _ W (by omega) (by omega) true (by rw [bt_ext a i (by omega), bt_ext b j (by omega)]; exact beq_iff_eq.2 he)) (by omega) (by omega) hx1 hx0 (by omega) (by omega) (by omega) (by omega) (beq_eq_false_iff_ne.2 (by omega)) _ _ _ hP _ _ _ _ _ _ _ _ _ _ _ _ _ _ _ _ _ _ _ _ _ _ _ _ _ _ _ _ _ _ _ _ _ _ _ _ _ _ _ _ _ _ _ _ _ _ _ _ _ _ _ _ _ _ _ _ _ _ _ _ _ _ _ _ _ _ _ _ _ _ _ _ _ _ _ _ _ _ _ _ _ _ _ _ _ _ _ _ _ _ _ _ _ _ _ _ _ _ _ _ _ _ _ _ _ _ _ _ _ _ _ _ _ _ _ _ _ ?_
    intro _ _ _ _ _ _ _ _ _ _ _ _ _ _ _ _ _ _ _ _ _ _ _ _ _ _ _ _ _ _ _ _ _ _ _ _ _ _ _ _ _ _ _ _ _ _ _ _ _ _ _ _ _ _ _ W1 hP
    rw [rounds_succ]
    refine pskip_2 a b ha hb c w mb g gG i j G vout acc ki kj (fun W hB => (step2_eq _ _ W g c hB (by omega) (by omega) (by rw [bt_ext a i (by omega), bt_ext b j (by omega)]; exact beq_iff_eq.2 he)).mono fun _ _ h => h) _ _ _ hP _ _ _ _ _ _ _ _ _ _ _ _ _ _ _ _ _ _ _ _ _ _ _ _ _ _ _ _ _ _ _ _ _ _ _ _ _ _ _ _ _ _ _ _ _ _ _ _ _ _ _ _ _ _ _ _ _ _ _ _ _ _ _ _ _ _ _ _ _ _ _ _ _ _ _ _ _ _ _ _ _ _ _ _ _ _ _ _ _ _ _ _ _ _ _ _ _ _ _ _ _ _ _ _ _ _ _ _ _ _ _ _ _ _ _ _ _ ?_
    intro _ _ _ _ _ _ _ _ _ _ _ _ _ _ _ _ _ _ _ _ _ _ _ _ _ _ _ _ _ _ _ _ _ _ _ _ _ _ _ _ _ _ _ _ _ _ _ _ _ _ _ _ _ _ _ W2 hP
    rw [rounds_succ]
    refine pskip_3 a b ha hb c w mb g gG i j G vout acc ki kj (fun W hB => (step3_any _ _ W g c hB false ((swap_ext a b i j).trans hsw)).mono fun _ _ h => ⟨_, _, _, _, _, h⟩) _ _ _ hP _ _ _ _ _ _ _ _ _ _ _ _ _ _ _ _ _ _ _ _ _ _ _ _ _ _ _ _ _ _ _ _ _ _ _ _ _ _ _ _ _ _ _ _ _ _ _ _ _ _ _ _ _ _ _ _ _ _ _ _ _ _ _ _ _ _ _ _ _ _ _ _ _ _ _ _ _ _ _ _ _ _ _ _ _ _ _ _ _ _ _ _ _ _ _ _ _ _ _ _ _ _ _ _ _ _ _ _ _ _ _ _ _ _ _ _ _ ?_
    intro _ _ _ _ _ _ _ _ _ _ _ _ _ _ _ _ _ _ _ _ _ _ _ _ _ _ _ _ _ _ _ _ _ _ _ _ _ _ _ _ _ _ _ _ _ _ _ _ _ _ _ _ _ _ _ W3 hP
    by_cases e4 : c.del + dd c a b (i + 1) j = dd c a b i j
    · skip
      rw [rounds_succ]
      refine ptake_4 a b ha hb c w mb g gG i j G vout acc ki kj c.del 4 0 _ _ (fun W hB => step4_yes _ _ W g c hB (by omega)) (by omega) (by omega) hx3 hx0 (by omega) (by omega) (by omega) (by omega) (beq_iff_eq.2 (by omega)) hn _ _ _ hP _ _ _ _ _ _ _ _ _ _ _ _ _ _ _ _ _ _ _ _ _ _ _ _ _ _ _ _ _ _ _ _ _ _ _ _ _ _ _ _ _ _ _ _ _ _ _ _ _ _ _ _ _ _ _ _ _ _ _ _ _ _ _ _ _ _ _ _ _ _ _ _ _ _ _ _ _ _ _ _ _ _ _ _ _ _ _ _ _ _ _ _ _ _ _ _ _ _ _ _ _ _ _ _ _ _ _ _ _ _ _ _ _ _ _ _ _ ?_
      intro _ _ _ _ _ _ _ _ _ _ _ _ _ _ _ _ _ _ _ _ _ _ _ _ _ _ _ _ _ _ _ _ _ _ _ _ _ _ _ _ _ _ _ _ _ _ _ _ _ _ _ _ _ _ _ v' W' hP'
      exact hK (i + 1) (j) _ _ _ _ _ _ _ _ _ _ _ _ _ _ _ _ _ _ _ _ _ _ _ _ _ _ _ _ _ _ _ _ _ _ _ _ _ _ _ _ _ _ _ _ _ _ _ _ _ _ _ _ _ _ _ _ _ _ _ _ _ (by omega) (by omega) (by omega) (by omega) (by omega) (by rw [pp_step c a b i j hin hjm, if_neg (by rintro ⟨_, h⟩; omega), if_neg (by rintro ⟨h, _⟩; exact h he), if_neg (by rintro ⟨h, _⟩; rw [hsw] at h; exact absurd h (by decide)), if_pos (by omega)]) hP'
    · skip
      rw [rounds_succ]
      refine pmiss_4 a b ha hb c w mb g gG i j G vout acc ki kj c.del 4 0 _ _ (fun W hB => step4_yes _ _ W g c hB (by omega)) (by omega) (by omega) hx3 hx0 (by omega) (by omega) (by omega) (by omega) (beq_eq_false_iff_ne.2 (by omega)) _ _ _ hP _ _ _ _ _ _ _ _ _ _ _ _ _ _ _ _ _ _ _ _ _ _ _ _ _ _ _ _ _ _ _ _ _ _ _ _ _ _ _ _ _ _ _ _ _ _ _ _ _ _ _ _ _ _ _ _ _ _ _ _ _ _ _ _ _ _ _ _ _ _ _ _ _ _ _ _ _ _ _ _ _ _ _ _ _ _ _ _ _ _ _ _ _ _ _ _ _ _ _ _ _ _ _ _ _ _ _ _ _ _ _ _ _ _ _ _ _ ?_
      intro _ _ _ _ _ _ _ _ _ _ _ _ _ _ _ _ _ _ _ _ _ _ _ _ _ _ _ _ _ _ _ _ _ _ _ _ _ _ _ _ _ _ _ _ _ _ _ _ _ _ _ _ _ _ _ W4 hP
      rw [rounds_succ]
      refine ptake_5 a b ha hb c w mb g gG i j G vout acc ki kj c.ins 5 (bt (b.extract j b.size) 0) _ _ (fun W hB => step5_yes _ _ W g c hB (by omega)) (by omega) (by omega) hx4 hx0 (by omega) (by omega) (by omega) (by omega) (beq_iff_eq.2 (by omega)) hn _ _ _ hP _ _ _ _ _ _ _ _ _ _ _ _ _ _ _ _ _ _ _ _ _ _ _ _ _ _ _ _ _ _ _ _ _ _ _ _ _ _ _ _ _ _ _ _ _ _ _ _ _ _ _ _ _ _ _ _ _ _ _ _ _ _ _ _ _ _ _ _ _ _ _ _ _ _ _ _ _ _ _ _ _ _ _ _ _ _ _ _ _ _ _ _ _ _ _ _ _ _ _ _ _ _ _ _ _ _ _ _ _ _ _ _ _ _ _ _ _ ?_
      intro _ _ _ _ _ _ _ _ _ _ _ _ _ _ _ _ _ _ _ _ _ _ _ _ _ _ _ _ _ _ _ _ _ _ _ _ _ _ _ _ _ _ _ _ _ _ _ _ _ _ _ _ _ _ _ v' W' hP'
      exact hK (i) (j + 1) _ _ _ _ _ _ _ _ _ _ _ _ _ _ _ _ _ _ _ _ _ _ _ _ _ _ _ _ _ _ _ _ _ _ _ _ _ _ _ _ _ _ _ _ _ _ _ _ _ _ _ _ _ _ _ _ _ _ _ _ _ (by omega) (by omega) (by omega) (by omega) (by omega) (by rw [bt_ext b j (by omega), pp_step c a b i j hin hjm, if_neg (by rintro ⟨_, h⟩; omega), if_neg (by rintro ⟨h, _⟩; exact h he), if_neg (by rintro ⟨h, _⟩; rw [hsw] at h; exact absurd h (by decide)), if_neg (by omega)]) hP'
end Go.Proofs.Ytdefecnngccmoaa.Ed
namespace Go.Proofs.Ytdefecnngccmoaa.Ed
open Go.RowKit Go.Proofs.YtdefecnngccmoaaW.PrintWords QTells
set_option maxRecDepth 1000000 in
set_option maxHeartbeats 40000000 in
theorem pr_nn (a b : ByteArray) (ha : a.size ≤ 60) (hb : b.size ≤ 60) (c : Lb.Cst) (hOk : c.Ok) (w : World) (mb g gG i j : Nat) (G : List Int) (hG : Grid c a b G (-1)) (vout : Value) (acc : List S38) (hn : acc.length ≤ 1000)
    (hin : i < a.size) (hjm : j < b.size) (he : ¬ bt a i = bt b j) (hsw : sw a b i j = false)
    (Q : Exit → Act → World → Prop) (wr : World) (hP : PR w wr mb g gG c G vout acc) (v2 v3 v4 v5 v6 v7 v8 v9 v10 v13 v14 v19 v20 v21 v22 v23 v24 v25 v26 v27 v28 v29 v30 v31 v32 v33 v34 v35 v36 v37 v38 v39 v40 v41 v42 v43 v44 v45 v46 v47 v48 v49 v50 v51 v52 v53 v54 v55 v56 v57 v58 v59 v60 v61 v62 v63 v64 v65 v66 v67 v68 v69 v70 v71 v72 v73 v74 v75 v76 v77 v78 v79 v80 v81 v82 v83 v84 v85 v86 v87 v88 v89 v90 v91 v92 v93 v94 v95 v96 v97 v98 v99 v100 v101 v102 v103 v104 v105 v106 v107 v108 v109 v110 v111 v112 v113 v114 v115 v116 v117 v118 v119 v120 v121 v122 v123 v124 : Value)
    (hK : ∀ (i' j' : Nat) (ii jj : Int) (o : S38) (u18 u19 u20 u70 u71 u72 u73 u74 u75 u76 u77 u78 u79 u80 u81 u82 u83 u84 u85 u86 u87 u88 u89 u90 u91 u92 u93 u94 u95 u96 u97 u98 u99 u100 u101 u102 u103 u104 u105 u106 u107 u108 u109 u110 u111 u112 u113 u114 u115 u116 u117 u118 u119 u120 u121 u122 v' : Value) (W : World), ii = i' → jj = j' → i' ≤ a.size → j' ≤ b.size → i + j < i' + j' → pp c a b i j = o :: pp c a b i' j' → PR w W mb g gG c G v' (acc ++ [o]) → Q (.exit 5) ⟨#[.string a, .string b, v2, v3, v4, v5, v6, v7, v8, v9, v10, .map (some mb), .pointer (some ⟨gG, 0, none⟩), v13, v14, v', .int .i64 ii, .int .i64 jj, u18, u19, u20, v21, v22, v23, v24, v25, v26, v27, v28, v29, v30, v31, v32, v33, v34, v35, v36, v37, v38, v39, v40, v41, v42, v43, v44, v45, v46, v47, v48, v49, v50, v51, v52, v53, v54, v55, v56, v57, v58, v59, v60, v61, v62, v63, v64, v65, v66, v67, v68, v69, u70, u71, u72, u73, u74, u75, u76, u77, u78, u79, u80, u81, u82, u83, u84, u85, u86, u87, u88, u89, u90, u91, u92, u93, u94, u95, u96, u97, u98, u99, u100, u101, u102, u103, u104, u105, u106, u107, u108, u109, u110, u111, u112, u113, u114, u115, u116, u117, u118, u119, u120, u121, u122, v123, v124], []⟩ W) :
    (Code.loop (bodyAt Try.f14 3)).wp Try.prog Q ⟨#[.string a, .string b, v2, v3, v4, v5, v6, v7, v8, v9, v10, .map (some mb), .pointer (some ⟨gG, 0, none⟩), v13, v14, vout, .int .i64 (i : Int), .int .i64 (j : Int), .int .u8 1, v19, v20, v21, v22, v23, v24, v25, v26, v27, v28, v29, v30, v31, v32, v33, v34, v35, v36, v37, v38, v39, v40, v41, v42, v43, v44, v45, v46, v47, v48, v49, v50, v51, v52, v53, v54, v55, v56, v57, v58, v59, v60, v61, v62, v63, v64, v65, v66, v67, v68, v69, v70, v71, v72, v73, v74, v75, v76, v77, v78, v79, v80, v81, v82, v83, v84, v85, v86, v87, v88, v89, v90, v91, v92, v93, v94, v95, v96, v97, v98, v99, v100, v101, v102, v103, v104, v105, v106, v107, v108, v109, v110, v111, v112, v113, v114, v115, v116, v117, v118, v119, v120, v121, v122, v123, v124], []⟩ wr := by
  have hd := dd_step c a b i j hin hjm
  rw [if_neg (by rw [hsw]; decide), Lb.one, if_neg he] at hd
  have ki : (i : Int) ≤ a.size := by omega
  have kj : (j : Int) ≤ b.size := by omega
  have Hs := size_ext a i (by omega)
  have Ht := size_ext b j (by omega)
  have hx1 := hG (i + 1) (j + 1) (by omega) (by omega) (by omega)
  have qx1 := dd_bd hOk a b ha hb (i + 1) (j + 1)
  have hx3 := hG (i + 1) (j) (by omega) (by omega) (by omega)
  have qx3 := dd_bd hOk a b ha hb (i + 1) (j)
  have hx4 := hG (i) (j + 1) (by omega) (by omega) (by omega)
  have qx4 := dd_bd hOk a b ha hb (i) (j + 1)
  have hx0 := hG (i) (j) (by omega) (by omega) (by omega)
  have qx0 := dd_bd hOk a b ha hb (i) (j)
  obtain ⟨ki1, ki2, kd1, kd2, kc1, kc2, ks1, ks2⟩ := id hOk
  refine wp_loop_rounds 6 ?_
  rw [rounds_succ]
  refine pskip_1 a b ha hb c w mb g gG i j G vout acc ki kj (fun W hB => (step1_yes _ _ W (by omega) (by omega) false (by rw [bt_ext a i (by omega), bt_ext b j (by omega)]; exact beq_eq_false_iff_ne.2 he)).mono fun _ _ h => ⟨_, _, _, _, _, h⟩) _ _ _ hP _ _ _ _ _ _ _ _ _ _ _ _ _ _ _ _ _ _ _ _ _ _ _ _ _ _ _ _ _ _ _ _ _ _ _ _ _ _ _ _ _ _ _ _ _ _ _ _ _ _ _ _ _ _ _ _ _ _ _ _ _ _ _ _ _ _ _ _ _ _ _ _ _ _ _ _ _ _ _ _ _ _ _ _ _ _ _ _ _ _ _ _ _ _ _ _ _ _ _ _ _ _ _ _ _ _ _ _ _ _ _ _ _ _ _ _ _ ?_
  intro _ _ _ _ _ _ _ _ _ _ _ _ _ _ _ _ _ _ _ _ _ _ _ _ _ _ _ _ _ _ _ _ _ _ _ _ _ _ _ _ _ _ _ _ _ _ _ _ _ _ _ _ _ _ _ W1 hP
  by_cases e2 : c.chg + dd c a b (i + 1) (j + 1) = dd c a b i j
  · skip
    rw [rounds_succ]
    refine ptake_2 a b ha hb c w mb g gG i j G vout acc ki kj c.chg 2 (bt (b.extract j b.size) 0) _ _ (fun W hB => step2_yes _ _ W g c hB (by omega) (by omega) (by rw [bt_ext a i (by omega), bt_ext b j (by omega)]; exact beq_eq_false_iff_ne.2 he)) (by omega) (by omega) hx1 hx0 (by omega) (by omega) (by omega) (by omega) (beq_iff_eq.2 (by omega)) hn _ _ _ hP _ _ _ _ _ _ _ _ _ _ _ _ _ _ _ _ _ _ _ _ _ _ _ _ _ _ _ _ _ _ _ _ _ _ _ _ _ _ _ _ _ _ _ _ _ _ _ _ _ _ _ _ _ _ _ _ _ _ _ _ _ _ _ _ _ _ _ _ _ _ _ _ _ _ _ _ _ _ _ _ _ _ _ _ _ _ _ _ _ _ _ _ _ _ _ _ _ _ _ _ _ _ _ _ _ _ _ _ _ _ _ _ _ _ _ _ _ ?_
    intro _ _ _ _ _ _ _ _ _ _ _ _ _ _ _ _ _ _ _ _ _ _ _ _ _ _ _ _ _ _ _ _ _ _ _ _ _ _ _ _ _ _ _ _ _ _ _ _ _ _ _ _ _ _ _ v' W' hP'
    exact hK (i + 1) (j + 1) _ _ _ _ _ _ _ _ _ _ _ _ _ _ _ _ _ _ _ _ _ _ _ _ _ _ _ _ _ _ _ _ _ _ _ _ _ _ _ _ _ _ _ _ _ _ _ _ _ _ _ _ _ _ _ _ _ _ _ _ _ (by omega) (by omega) (by omega) (by omega) (by omega) (by rw [bt_ext b j (by omega), pp_step c a b i j hin hjm, if_neg (by rintro ⟨h, _⟩; exact he h), if_pos ⟨he, by omega⟩]) hP'
  · skip
    rw [rounds_succ]
    refine pmiss_2 a b ha hb c w mb g gG i j G vout acc ki kj c.chg 2 (bt (b.extract j b.size) 0) _ _ (fun W hB => step2_yes _ _ W g c hB (by omega) (by omega) (by rw [bt_ext a i (by omega), bt_ext b j (by omega)]; exact beq_eq_false_iff_ne.2 he)) (by omega) (by omega) hx1 hx0 (by omega) (by omega) (by omega) (by omega) (beq_eq_false_iff_ne.2 (by omega)) _ _ _ hP _ _ _ _ _ _ _ _ _ _ _ _ _ _ _ _ _ _ _ _ _ _ _ _ _ _ _ _ _ _ _ _ _ _ _ _ _ _ _ _ _ _ _ _ _ _ _ _ _ _ _ _ _ _ _ _ _ _ _ _ _ _ _ _ _ _ _ _ _ _ _ _ _ _ _ _ _ _ _ _ _ _ _ _ _ _ _ _ _ _ _ _ _ _ _ _ _ _ _ _ _ _ _ _ _ _ _ _ _ _ _ _ _ _ _ _ _ ?_
    intro _ _ _ _ _ _ _ _ _ _ _ _ _ _ _ _ _ _ _ _ _ _ _ _ _ _ _ _ _ _ _ _ _ _ _ _ _ _ _ _ _ _ _ _ _ _ _ _ _ _ _ _ _ _ _ W2 hP
    rw [rounds_succ]
    refine pskip_3 a b ha hb c w mb g gG i j G vout acc ki kj (fun W hB => (step3_any _ _ W g c hB false ((swap_ext a b i j).trans hsw)).mono fun _ _ h => ⟨_, _, _, _, _, h⟩) _ _ _ hP _ _ _ _ _ _ _ _ _ _ _ _ _ _ _ _ _ _ _ _ _ _ _ _ _ _ _ _ _ _ _ _ _ _ _ _ _ _ _ _ _ _ _ _ _ _ _ _ _ _ _ _ _ _ _ _ _ _ _ _ _ _ _ _ _ _ _ _ _ _ _ _ _ _ _ _ _ _ _ _ _ _ _ _ _ _ _ _ _ _ _ _ _ _ _ _ _ _ _ _ _ _ _ _ _ _ _ _ _ _ _ _ _ _ _ _ _ ?_
    intro _ _ _ _ _ _ _ _ _ _ _ _ _ _ _ _ _ _ _ _ _ _ _ _ _ _ _ _ _ _ _ _ _ _ _ _ _ _ _ _ _ _ _ _ _ _ _ _ _ _ _ _ _ _ _ W3 hP
    by_cases e4 : c.del + dd c a b (i + 1) j = dd c a b i j
    · skip
      rw [rounds_succ]
      refine ptake_4 a b ha hb c w mb g gG i j G vout acc ki kj c.del 4 0 _ _ (fun W hB => step4_yes _ _ W g c hB (by omega)) (by omega) (by omega) hx3 hx0 (by omega) (by omega) (by omega) (by omega) (beq_iff_eq.2 (by omega)) hn _ _ _ hP _ _ _ _ _ _ _ _ _ _ _ _ _ _ _ _ _ _ _ _ _ _ _ _ _ _ _ _ _ _ _ _ _ _ _ _ _ _ _ _ _ _ _ _ _ _ _ _ _ _ _ _ _ _ _ _ _ _ _ _ _ _ _ _ _ _ _ _ _ _ _ _ _ _ _ _ _ _ _ _ _ _ _ _ _ _ _ _ _ _ _ _ _ _ _ _ _ _ _ _ _ _ _ _ _ _ _ _ _ _ _ _ _ _ _ _ _ ?_
      intro _ _ _ _ _ _ _ _ _ _ _ _ _ _ _ _ _ _ _ _ _ _ _ _ _ _ _ _ _ _ _ _ _ _ _ _ _ _ _ _ _ _ _ _ _ _ _ _ _ _ _ _ _ _ _ v' W' hP'
      exact hK (i + 1) (j) _ _ _ _ _ _ _ _ _ _ _ _ _ _ _ _ _ _ _ _ _ _ _ _ _ _ _ _ _ _ _ _ _ _ _ _ _ _ _ _ _ _ _ _ _ _ _ _ _ _ _ _ _ _ _ _ _ _ _ _ _ (by omega) (by omega) (by omega) (by omega) (by omega) (by rw [pp_step c a b i j hin hjm, if_neg (by rintro ⟨h, _⟩; exact he h), if_neg (by rintro ⟨_, h⟩; omega), if_neg (by rintro ⟨h, _⟩; rw [hsw] at h; exact absurd h (by decide)), if_pos (by omega)]) hP'
    · skip
      rw [rounds_succ]
      refine pmiss_4 a b ha hb c w mb g gG i j G vout acc ki kj c.del 4 0 _ _ (fun W hB => step4_yes _ _ W g c hB (by omega)) (by omega) (by omega) hx3 hx0 (by omega) (by omega) (by omega) (by omega) (beq_eq_false_iff_ne.2 (by omega)) _ _ _ hP _ _ _ _ _ _ _ _ _ _ _ _ _ _ _ _ _ _ _ _ _ _ _ _ _ _ _ _ _ _ _ _ _ _ _ _ _ _ _ _ _ _ _ _ _ _ _ _ _ _ _ _ _ _ _ _ _ _ _ _ _ _ _ _ _ _ _ _ _ _ _ _ _ _ _ _ _ _ _ _ _ _ _ _ _ _ _ _ _ _ _ _ _ _ _ _ _ _ _ _ _ _ _ _ _ _ _ _ _ _ _ _ _ _ _ _ _ ?_
      intro _ _ _ _ _ _ _ _ _ _ _ _ _ _ _ _ _ _ _ _ _ _ _ _ _ _ _ _ _ _ _ _ _ _ _ _ _ _ _ _ _ _ _ _ _ _ _ _ _ _ _ _ _ _ _ W4 hP
      rw [rounds_succ]
      refine ptake_5 a b ha hb c w mb g gG i j G vout acc ki kj c.ins 5 (bt (b.extract j b.size) 0) _ _ (fun W hB => step5_yes _ _ W g c hB (by omega)) (by omega) (by omega) hx4 hx0 (by omega) (by omega) (by omega) (by omega) (beq_iff_eq.2 (by omega)) hn _ _ _ hP _ _ _ _ _ _ _ _ _ _ _ _ _ _ _ _ _ _ _ _ _ _ _ _ _ _ _ _ _ _ _ _ _ _ _ _ _ _ _ _ _ _ _ _ _ _ _ _ _ _ _ _ _ _ _ _ _ _ _ _ _ _ _ _ _ _ _ _ _ _ _ _ _ _ _ _ _ _ _ _ _ _ _ _ _ _ _ _ _ _ _ _ _ _ _ _ _ _ _ _ _ _ _ _ _ _ _ _ _ _ _ _ _ _ _ _ _ ?_
      intro _ _ _ _ _ _ _ _ _ _ _ _ _ _ _ _ _ _ _ _ _ _ _ _ _ _ _ _ _ _ _ _ _ _ _ _ _ _ _ _ _ _ _ _ _ _ _ _ _ _ _ _ _ _ _ v' W' hP'
      exact hK (i) (j + 1) _ _ _ _ _ _ _ _ _ _ _ _ _ _ _ _ _ _ _ _ _ _ _ _ _ _ _ _ _ _ _ _ _ _ _ _ _ _ _ _ _ _ _ _ _ _ _ _ _ _ _ _ _ _ _ _ _ _ _ _ _ (by omega) (by omega) (by omega) (by omega) (by omega) (by rw [bt_ext b j (by omega), pp_step c a b i j hin hjm, if_neg (by rintro ⟨h, _⟩; exact he h), if_neg (by rintro ⟨_, h⟩; omega), if_neg (by rintro ⟨h, _⟩; rw [hsw] at h; exact absurd h (by decide)), if_neg (by omega)]) hP'
end Go.Proofs.Ytdefecnngccmoaa.Ed
namespace Go.Proofs.Ytdefecnngccmoaa.Ed
open Go.RowKit Go.Proofs.YtdefecnngccmoaaW.PrintWords QTells
set_option maxRecDepth 1000000 in
set_option maxHeartbeats 40000000 in
theorem pr_ns (a b : ByteArray) (ha : a.size ≤ 60) (hb : b.size ≤ 60) (c : Lb.Cst) (hOk : c.Ok) (w : World) (mb g gG i j : Nat) (G : List Int) (hG : Grid c a b G (-1)) (vout : Value) (acc : List S38) (hn : acc.length ≤ 1000)
    (hin : i < a.size) (hjm : j < b.size) (he : ¬ bt a i = bt b j) (hsw : sw a b i j = true)
    (Q : Exit → Act → World → Prop) (wr : World) (hP : PR w wr mb g gG c G vout acc) (v2 v3 v4 v5 v6 v7 v8 v9 v10 v13 v14 v19 v20 v21 v22 v23 v24 v25 v26 v27 v28 v29 v30 v31 v32 v33 v34 v35 v36 v37 v38 v39 v40 v41 v42 v43 v44 v45 v46 v47 v48 v49 v50 v51 v52 v53 v54 v55 v56 v57 v58 v59 v60 v61 v62 v63 v64 v65 v66 v67 v68 v69 v70 v71 v72 v73 v74 v75 v76 v77 v78 v79 v80 v81 v82 v83 v84 v85 v86 v87 v88 v89 v90 v91 v92 v93 v94 v95 v96 v97 v98 v99 v100 v101 v102 v103 v104 v105 v106 v107 v108 v109 v110 v111 v112 v113 v114 v115 v116 v117 v118 v119 v120 v121 v122 v123 v124 : Value)
    (hK : ∀ (i' j' : Nat) (ii jj : Int) (o : S38) (u18 u19 u20 u70 u71 u72 u73 u74 u75 u76 u77 u78 u79 u80 u81 u82 u83 u84 u85 u86 u87 u88 u89 u90 u91 u92 u93 u94 u95 u96 u97 u98 u99 u100 u101 u102 u103 u104 u105 u106 u107 u108 u109 u110 u111 u112 u113 u114 u115 u116 u117 u118 u119 u120 u121 u122 v' : Value) (W : World), ii = i' → jj = j' → i' ≤ a.size → j' ≤ b.size → i + j < i' + j' → pp c a b i j = o :: pp c a b i' j' → PR w W mb g gG c G v' (acc ++ [o]) → Q (.exit 5) ⟨#[.string a, .string b, v2, v3, v4, v5, v6, v7, v8, v9, v10, .map (some mb), .pointer (some ⟨gG, 0, none⟩), v13, v14, v', .int .i64 ii, .int .i64 jj, u18, u19, u20, v21, v22, v23, v24, v25, v26, v27, v28, v29, v30, v31, v32, v33, v34, v35, v36, v37, v38, v39, v40, v41, v42, v43, v44, v45, v46, v47, v48, v49, v50, v51, v52, v53, v54, v55, v56, v57, v58, v59, v60, v61, v62, v63, v64, v65, v66, v67, v68, v69, u70, u71, u72, u73, u74, u75, u76, u77, u78, u79, u80, u81, u82, u83, u84, u85, u86, u87, u88, u89, u90, u91, u92, u93, u94, u95, u96, u97, u98, u99, u100, u101, u102, u103, u104, u105, u106, u107, u108, u109, u110, u111, u112, u113, u114, u115, u116, u117, u118, u119, u120, u121, u122, v123, v124], []⟩ W) :
    (Code.loop (bodyAt Try.f14 3)).wp Try.prog Q ⟨#[.string a, .string b, v2, v3, v4, v5, v6, v7, v8, v9, v10, .map (some mb), .pointer (some ⟨gG, 0, none⟩), v13, v14, vout, .int .i64 (i : Int), .int .i64 (j : Int), .int .u8 1, v19, v20, v21, v22, v23, v24, v25, v26, v27, v28, v29, v30, v31, v32, v33, v34, v35, v36, v37, v38, v39, v40, v41, v42, v43, v44, v45, v46, v47, v48, v49, v50, v51, v52, v53, v54, v55, v56, v57, v58, v59, v60, v61, v62, v63, v64, v65, v66, v67, v68, v69, v70, v71, v72, v73, v74, v75, v76, v77, v78, v79, v80, v81, v82, v83, v84, v85, v86, v87, v88, v89, v90, v91, v92, v93, v94, v95, v96, v97, v98, v99, v100, v101, v102, v103, v104, v105, v106, v107, v108, v109, v110, v111, v112, v113, v114, v115, v116, v117, v118, v119, v120, v121, v122, v123, v124], []⟩ wr := by
  have hd := dd_step c a b i j hin hjm
  rw [if_pos hsw, Lb.one, if_neg he] at hd
  obtain ⟨hs1, hs2⟩ := sw_lt hsw
  have ki : (i : Int) ≤ a.size := by omega
  have kj : (j : Int) ≤ b.size := by omega
  have Hs := size_ext a i (by omega)
  have Ht := size_ext b j (by omega)
  have hx1 := hG (i + 1) (j + 1) (by omega) (by omega) (by omega)
  have qx1 := dd_bd hOk a b ha hb (i + 1) (j + 1)
  have hx2 := hG (i + 2) (j + 2) (by omega) (by omega) (by omega)
  have qx2 := dd_bd hOk a b ha hb (i + 2) (j + 2)
  have hx3 := hG (i + 1) (j) (by omega) (by omega) (by omega)
  have qx3 := dd_bd hOk a b ha hb (i + 1) (j)
  have hx4 := hG (i) (j + 1) (by omega) (by omega) (by omega)
  have qx4 := dd_bd hOk a b ha hb (i) (j + 1)
  have hx0 := hG (i) (j) (by omega) (by omega) (by omega)
  have qx0 := dd_bd hOk a b ha hb (i) (j)
  obtain ⟨ki1, ki2, kd1, kd2, kc1, kc2, ks1, ks2⟩ := id hOk
  refine wp_loop_rounds 6 ?_
  rw [rounds_succ]
  refine pskip_1 a b ha hb c w mb g gG i j G vout acc ki kj (fun W hB => (step1_yes _ _ W (by omega) (by omega) false (by rw [bt_ext a i (by omega), bt_ext b j (by omega)]; exact beq_eq_false_iff_ne.2 he)).mono fun _ _ h => ⟨_, _, _, _, _, h⟩) _ _ _ hP _ _ _ _ _ _ _ _ _ _ _ _ _ _ _ _ _ _ _ _ _ _ _ _ _ _ _ _ _ _ _ _ _ _ _ _ _ _ _ _ _ _ _ _ _ _ _ _ _ _ _ _ _ _ _ _ _ _ _ _ _ _ _ _ _ _ _ _ _ _ _ _ _ _ _ _ _ _ _ _ _ _ _ _ _ _ _ _ _ _ _ _ _ _ _ _ _ _ _ _ _ _ _ _ _ _ _ _ _ _ _ _ _ _ _ _ _ ?_
  intro _ _ _ _ _ _ _ _ _ _ _ _ _ _ _ _ _ _ _ _ _ _ _ _ _ _ _ _ _ _ _ _ _ _ _ _ _ _ _ _ _ _ _ _ _ _ _ _ _ _ _ _ _ _ _ W1 hP
  by_cases e2 : c.chg + dd c a b (i + 1) (j + 1) = dd c a b i j
  · skip
    rw [rounds_succ]
    refine ptake_2 a b ha hb c w mb g gG i j G vout acc ki kj c.chg 2 (bt (b.extract j b.size) 0) _ _ (fun W hB => step2_yes _ _ W g c hB (by omega) (by omega) (by rw [bt_ext a i (by omega), bt_ext b j (by omega)]; exact beq_eq_false_iff_ne.2 he)) (by omega) (by omega) hx1 hx0 (by omega) (by omega) (by omega) (by omega) (beq_iff_eq.2 (by omega)) hn _ _ _ hP _ _ _ _ _ _ _ _ _ _ _ _ _ _ _ _ _ _ _ _ _ _ _ _ _ _ _ _ _ _ _ _ _ _ _ _ _ _ _ _ _ _ _ _ _ _ _ _ _ _ _ _ _ _ _ _ _ _ _ _ _ _ _ _ _ _ _ _ _ _ _ _ _ _ _ _ _ _ _ _ _ _ _ _ _ _ _ _ _ _ _ _ _ _ _ _ _ _ _ _ _ _ _ _ _ _ _ _ _ _ _ _ _ _ _ _ _ ?_
    intro _ _ _ _ _ _ _ _ _ _ _ _ _ _ _ _ _ _ _ _ _ _ _ _ _ _ _ _ _ _ _ _ _ _ _ _ _ _ _ _ _ _ _ _ _ _ _ _ _ _ _ _ _ _ _ v' W' hP'
    exact hK (i + 1) (j + 1) _ _ _ _ _ _ _ _ _ _ _ _ _ _ _ _ _ _ _ _ _ _ _ _ _ _ _ _ _ _ _ _ _ _ _ _ _ _ _ _ _ _ _ _ _ _ _ _ _ _ _ _ _ _ _ _ _ _ _ _ _ (by omega) (by omega) (by omega) (by omega) (by omega) (by rw [bt_ext b j (by omega), pp_step c a b i j hin hjm, if_neg (by rintro ⟨h, _⟩; exact he h), if_pos ⟨he, by omega⟩]) hP'
  · skip
    rw [rounds_succ]
    refine pmiss_2 a b ha hb c w mb g gG i j G vout acc ki kj c.chg 2 (bt (b.extract j b.size) 0) _ _ (fun W hB => step2_yes _ _ W g c hB (by omega) (by omega) (by rw [bt_ext a i (by omega), bt_ext b j (by omega)]; exact beq_eq_false_iff_ne.2 he)) (by omega) (by omega) hx1 hx0 (by omega) (by omega) (by omega) (by omega) (beq_eq_false_iff_ne.2 (by omega)) _ _ _ hP _ _ _ _ _ _ _ _ _ _ _ _ _ _ _ _ _ _ _ _ _ _ _ _ _ _ _ _ _ _ _ _ _ _ _ _ _ _ _ _ _ _ _ _ _ _ _ _ _ _ _ _ _ _ _ _ _ _ _ _ _ _ _ _ _ _ _ _ _ _ _ _ _ _ _ _ _ _ _ _ _ _ _ _ _ _ _ _ _ _ _ _ _ _ _ _ _ _ _ _ _ _ _ _ _ _ _ _ _ _ _ _ _ _ _ _ _ ?_
    intro _ _ _ _ _ _ _ _ _ _ _ _ _ _ _ _ _ _ _ _ _ _ _ _ _ _ _ _ _ _ _ _ _ _ _ _ _ _ _ _ _ _ _ _ _ _ _ _ _ _ _ _ _ _ _ W2 hP
    by_cases e3 : c.swp + dd c a b (i + 2) (j + 2) = dd c a b i j
    · skip
      rw [rounds_succ]
      refine ptake_3 a b ha hb c w mb g gG i j G vout acc ki kj c.swp 3 0 _ _ (fun W hB => step3_any _ _ W g c hB true ((swap_ext a b i j).trans hsw)) (by omega) (by omega) hx2 hx0 (by omega) (by omega) (by omega) (by omega) (beq_iff_eq.2 (by omega)) hn _ _ _ hP _ _ _ _ _ _ _ _ _ _ _ _ _ _ _ _ _ _ _ _ _ _ _ _ _ _ _ _ _ _ _ _ _ _ _ _ _ _ _ _ _ _ _ _ _ _ _ _ _ _ _ _ _ _ _ _ _ _ _ _ _ _ _ _ _ _ _ _ _ _ _ _ _ _ _ _ _ _ _ _ _ _ _ _ _ _ _ _ _ _ _ _ _ _ _ _ _ _ _ _ _ _ _ _ _ _ _ _ _ _ _ _ _ _ _ _ _ ?_
      intro _ _ _ _ _ _ _ _ _ _ _ _ _ _ _ _ _ _ _ _ _ _ _ _ _ _ _ _ _ _ _ _ _ _ _ _ _ _ _ _ _ _ _ _ _ _ _ _ _ _ _ _ _ _ _ v' W' hP'
      exact hK (i + 2) (j + 2) _ _ _ _ _ _ _ _ _ _ _ _ _ _ _ _ _ _ _ _ _ _ _ _ _ _ _ _ _ _ _ _ _ _ _ _ _ _ _ _ _ _ _ _ _ _ _ _ _ _ _ _ _ _ _ _ _ _ _ _ _ (by omega) (by omega) (by omega) (by omega) (by omega) (by rw [pp_step c a b i j hin hjm, if_neg (by rintro ⟨h, _⟩; exact he h), if_neg (by rintro ⟨_, h⟩; omega), if_pos ⟨hsw, by omega⟩]) hP'
    · skip
      rw [rounds_succ]
      refine pmiss_3 a b ha hb c w mb g gG i j G vout acc ki kj c.swp 3 0 _ _ (fun W hB => step3_any _ _ W g c hB true ((swap_ext a b i j).trans hsw)) (by omega) (by omega) hx2 hx0 (by omega) (by omega) (by omega) (by omega) (beq_eq_false_iff_ne.2 (by omega)) _ _ _ hP _ _ _ _ _ _ _ _ _ _ _ _ _ _ _ _ _ _ _ _ _ _ _ _ _ _ _ _ _ _ _ _ _ _ _ _ _ _ _ _ _ _ _ _ _ _ _ _ _ _ _ _ _ _ _ _ _ _ _ _ _ _ _ _ _ _ _ _ _ _ _ _ _ _ _ _ _ _ _ _ _ _ _ _ _ _ _ _ _ _ _ _ _ _ _ _ _ _ _ _ _ _ _ _ _ _ _ _ _ _ _ _ _ _ _ _ _ ?_
      intro _ _ _ _ _ _ _ _ _ _ _ _ _ _ _ _ _ _ _ _ _ _ _ _ _ _ _ _ _ _ _ _ _ _ _ _ _ _ _ _ _ _ _ _ _ _ _ _ _ _ _ _ _ _ _ W3 hP
      by_cases e4 : c.del + dd c a b (i + 1) j = dd c a b i j
      · skip
        rw [rounds_succ]
        refine ptake_4 a b ha hb c w mb g gG i j G vout acc ki kj c.del 4 0 _ _ (fun W hB => step4_yes _ _ W g c hB (by omega)) (by omega) (by omega) hx3 hx0 (by omega) (by omega) (by omega) (by omega) (beq_iff_eq.2 (by omega)) hn _ _ _ hP _ _ _ _ _ _ _ _ _ _ _ _ _ _ _ _ _ _ _ _ _ _ _ _ _ _ _ _ _ _ _ _ _ _ _ _ _ _ _ _ _ _ _ _ _ _ _ _ _ _ _ _ _ _ _ _ _ _ _ _ _ _ _ _ _ _ _ _ _ _ _ _ _ _ _ _ _ _ _ _ _ _ _ _ _ _ _ _ _ _ _ _ _ _ _ _ _ _ _ _ _ _ _ _ _ _ _ _ _ _ _ _ _ _ _ _ _ ?_
        intro _ _ _ _ _ _ _ _ _ _ _ _ _ _ _ _ _ _ _ _ _ _ _ _ _ _ _ _ _ _ _ _ _ _ _ _ _ _ _ _ _ _ _ _ _ _ _ _ _ _ _ _ _ _ _ v' W' hP'
        exact hK (i + 1) (j) _ _ _ _ _ _ _ _ _ _ _ _ _ _ _ _ _ _ _ _ _ _ _ _ _ _ _ _ _ _ _ _ _ _ _ _ _ _ _ _ _ _ _ _ _ _ _ _ _ _ _ _ _ _ _ _ _ _ _ _ _ (by omega) (by omega) (by omega) (by omega) (by omega) (by rw [pp_step c a b i j hin hjm, if_neg (by rintro ⟨h, _⟩; exact he h), if_neg (by rintro ⟨_, h⟩; omega), if_neg (by rintro ⟨_, h⟩; omega), if_pos (by omega)]) hP'
      · skip
        rw [rounds_succ]
        refine pmiss_4 a b ha hb c w mb g gG i j G vout acc ki kj c.del 4 0 _ _ (fun W hB => step4_yes _ _ W g c hB (by omega)) (by omega) (by omega) hx3 hx0 (by omega) (by omega) (by omega) (by omega) (beq_eq_false_iff_ne.2 (by omega)) _ _ _ hP _ _ _ _ _ _ _ _ _ _ _ _ _ _ _ _ _ _ _ _ _ _ _ _ _ _ _ _ _ _ _ _ _ _ _ _ _ _ _ _ _ _ _ _ _ _ _ _ _ _ _ _ _ _ _ _ _ _ _ _ _ _ _ _ _ _ _ _ _ _ _ _ _ _ _ _ _ _ _ _ _ _ _ _ _ _ _ _ _ _ _ _ _ _ _ _ _ _ _ _ _ _ _ _ _ _ _ _ _ _ _ _ _ _ _ _ _ ?_
        intro _ _ _ _ _ _ _ _ _ _ _ _ _ _ _ _ _ _ _ _ _ _ _ _ _ _ _ _ _ _ _ _ _ _ _ _ _ _ _ _ _ _ _ _ _ _ _ _ _ _ _ _ _ _ _ W4 hP
        rw [rounds_succ]
        refine ptake_5 a b ha hb c w mb g gG i j G vout acc ki kj c.ins 5 (bt (b.extract j b.size) 0) _ _ (fun W hB => step5_yes _ _ W g c hB (by omega)) (by omega) (by omega) hx4 hx0 (by omega) (by omega) (by omega) (by omega) (beq_iff_eq.2 (by omega)) hn _ _ _ hP _ _ _ _ _ _ _ _ _ _ _ _ _ _ _ _ _ _ _ _ _ _ _ _ _ _ _ _ _ _ _ _ _ _ _ _ _ _ _ _ _ _ _ _ _ _ _ _ _ _ _ _ _ _ _ _ _ _ _ _ _ _ _ _ _ _ _ _ _ _ _ _ _ _ _ _ _ _ _ _ _ _ _ _ _ _ _ _ _ _ _ _ _ _ _ _ _ _ _ _ _ _ _ _ _ _ _ _ _ _ _ _ _ _ _ _ _ ?_
        intro _ _ _ _ _ _ _ _ _ _ _ _ _ _ _ _ _ _ _ _ _ _ _ _ _ _ _ _ _ _ _ _ _ _ _ _ _ _ _ _ _ _ _ _ _ _ _ _ _ _ _ _ _ _ _ v' W' hP'
        exact hK (i) (j + 1) _ _ _ _ _ _ _ _ _ _ _ _ _ _ _ _ _ _ _ _ _ _ _ _ _ _ _ _ _ _ _ _ _ _ _ _ _ _ _ _ _ _ _ _ _ _ _ _ _ _ _ _ _ _ _ _ _ _ _ _ _ (by omega) (by omega) (by omega) (by omega) (by omega) (by rw [bt_ext b j (by omega), pp_step c a b i j hin hjm, if_neg (by rintro ⟨h, _⟩; exact he h), if_neg (by rintro ⟨_, h⟩; omega), if_neg (by rintro ⟨_, h⟩; omega), if_neg (by omega)]) hP'
end Go.Proofs.Ytdefecnngccmoaa.Ed
namespace Go.Proofs.Ytdefecnngccmoaa.Ed
open Go.RowKit Go.Proofs.YtdefecnngccmoaaW.PrintWords QTells
theorem zero_run (W : World) : (zeroValue 70).run Try.prog W = .ok (.agg grid0) W := by
  have h := grid_zero
  cases hi : Try.prog.info? 70 with
  | none => rw [hi] at h; cases h
  | some i =>
    rw [hi] at h
    have hz : i.zero = some (.agg grid0) := by simpa using h
    simp [zeroValue, typeInfo, hi, hz]
def PathPost (l : List S38) (n e0 : Int) (w : World) (e : Ending) (w' : World) : Prop := ∃ v, e = .returned (.tuple #[v, .int .i64 n, .int .i64 e0]) ∧ k38.R 38 w' w.heap.size (fun _ => True) v l ∧ Below w.heap.size w w'
set_option maxRecDepth 1000000 in
set_option maxHeartbeats 40000000 in
theorem path_ok (a b : ByteArray) (c0 c1 c2 c3 : Int) (w : World) (hc : rightB c0 c1 c2 c3 = true) (ha : a.size ≤ 60) (hb : b.size ≤ 60) :
    Calls Try.prog 14 #[.string a, .string b, .agg #[.int .i64 c0, .int .i64 c1, .int .i64 c2, .int .i64 c3]] w (PathPost (pp ⟨c0, c1, c2, c3⟩ a b 0 0) (dd ⟨c0, c1, c2, c3⟩ a b 0 0) 0 w) := by
  have hOk : Lb.Cst.Ok ⟨c0, c1, c2, c3⟩ := by
    simp only [rightB, okc, Bool.and_eq_true, decide_eq_true_eq] at hc
    obtain ⟨⟨i1, i2⟩, ⟨d1, d2⟩, ⟨e1, e2⟩, s1, s2⟩ := hc
    exact ⟨i1, i2, d1, d2, e1, e2, s1, s2⟩
  have HC := Lib.hid hc
  clear hc
  have hal := zero_run
  have hmf : ∀ (fn : Fn) (first cap : Array Value) (w : World), (Instr.makeFunc fn first cap).run Try.prog w = .ok (.func fn first cap) w := fun _ _ _ _ => rfl
  go_enter Try.func14, Try.ntmps14
  go_wp2
  go_step3
  go_wp2_with fail
  refine (distance_ok a b c0 c1 c2 c3 _ HC.out ha hb).mono ?_
  rintro e w1 ⟨rfl, hB1⟩
  have k0 : w1.cell? ⟨w.heap.size, 0, none⟩ = some (.int .i64 c0) := (blk_cell ((hB1.block _ (by simp)).trans (blk_new w _)) 0).trans rfl
  have k1 : w1.cell? ⟨w.heap.size, 1, none⟩ = some (.int .i64 c1) := (blk_cell ((hB1.block _ (by simp)).trans (blk_new w _)) 1).trans rfl
  have k2 : w1.cell? ⟨w.heap.size, 2, none⟩ = some (.int .i64 c2) := (blk_cell ((hB1.block _ (by simp)).trans (blk_new w _)) 2).trans rfl
  have k3 : w1.cell? ⟨w.heap.size, 3, none⟩ = some (.int .i64 c3) := (blk_cell ((hB1.block _ (by simp)).trans (blk_new w _)) 3).trans rfl
  go_wp2_with fail
  refine (steps_calls ⟨c0, c1, c2, c3⟩ w1).mono ?_
  rintro e w2 ⟨rfl, hF, hB2⟩
  have hBB : Below w.heap.size w w2 := (((Below.refl _ w).alloc (Nat.le_refl _) _).trans (hB1.mono (by simp))).trans (hB2.mono (by have := hB1.size; simp at this; omega))
  have hP : PB w (w2.alloc (.cells grid0 70)) (w1.heap.size + 1) w1.heap.size w2.heap.size ⟨c0, c1, c2, c3⟩ (List.replicate 3721 0) :=
    ⟨hBB.alloc hBB.size _, ⟨blk_alloc hF.1 _, hF.2.alloc _⟩, blk_new _ _, List.length_replicate, hBB.size⟩
  have hgz : (w2.alloc (.cells grid0 70)).heap.size = w2.heap.size + 1 := World.size_alloc _ _
  have Hgz := Lib.hid hgz
  clear hgz k0 k1 k2 k3 hF hB2 hB1 hBB
  go_wp2
  have hI := IC.new (w2.alloc (.cells grid0 70)) a.size
  rw [Hgz.out] at hI
  have hP2 := hP.alloc (.cells #[.int .i64 (a.size : Int)] 3)
  clear hal
  go_loopg [13] (a.size + 1) (fun k v W => ∃ (gi : Nat) (G : List Int), v = .pointer (some ⟨gi, 0, none⟩) ∧ IC W gi ((k : Int) - 1) ∧ PB w W (w1.heap.size + 1) w1.heap.size w2.heap.size ⟨c0, c1, c2, c3⟩ G ∧ Grid ⟨c0, c1, c2, c3⟩ a b G ((k : Int) - 1) ∧ k ≤ a.size + 1 ∧ w.heap.size ≤ gi)
  case atStart => exact ⟨_, _, rfl, (by simpa using hI), hP2, fun i' j' h1 h2 => by omega, by omega, (by have := hP.below.size; rw [Hgz.out] at this; omega)⟩
  case round =>
    obtain ⟨gi, G, rfl, hi, hQ, hG, hk, hgi⟩ := hrel
    have HG := Lib.hid hG
    clear hG hP hP2 hI Hgz HC
    by_cases h0 : gk = 0
    · subst h0
      have ki := hi.cell
      have HG0 := Lib.hid (show Grid ⟨c0, c1, c2, c3⟩ a b G (-1) from HG.out)
      go_wp2
      go_step3
      go_wp2
      go_loopg [15, 16, 17] (a.size + b.size) (fun k v x y W => ∃ (i j : Nat) (acc : List S38), x = .int .i64 (i : Int) ∧ y = .int .i64 (j : Int) ∧ i ≤ a.size ∧ j ≤ b.size ∧ k = a.size + b.size - (i + j) ∧ acc ++ pp ⟨c0, c1, c2, c3⟩ a b i j = pp ⟨c0, c1, c2, c3⟩ a b 0 0 ∧ acc.length ≤ i + j ∧ PR w W (w1.heap.size + 1) w1.heap.size w2.heap.size ⟨c0, c1, c2, c3⟩ G v acc)
      case atStart => exact ⟨0, 0, [], rfl, rfl, by omega, by omega, by omega, rfl, by simp, ⟨hQ, Kd.R_nil _ _ _ _ _⟩⟩
      case round =>
        obtain ⟨i, j, acc, rfl, rfl, hia, hjb, rfl, hA, hl, hP⟩ := hrel
        have HA := Lib.hid hA
        have HG := HG0
        clear hA hQ hi ki HG0
        by_cases hin : i < a.size
        · by_cases hjm : j < b.size
          · have kd : (i : Int) < (a.size : Int) := by omega
            go_wp2
            by_cases he : bt a i = bt b j
            · refine pr_eq a b ha hb _ hOk w _ _ _ i j G HG.out _ acc (by omega) hin hjm he _ _ hP _ _ _ _ _ _ _ _ _ _ _ _ _ _ _ _ _ _ _ _ _ _ _ _ _ _ _ _ _ _ _ _ _ _ _ _ _ _ _ _ _ _ _ _ _ _ _ _ _ _ _ _ _ _ _ _ _ _ _ _ _ _ _ _ _ _ _ _ _ _ _ _ _ _ _ _ _ _ _ _ _ _ _ _ _ _ _ _ _ _ _ _ _ _ _ _ _ _ _ _ _ _ _ _ _ _ _ _ _ _ _ _ _ _ _ _ _ ?_
              intro i' j' ii jj o _ _ _ _ _ _ _ _ _ _ _ _ _ _ _ _ _ _ _ _ _ _ _ _ _ _ _ _ _ _ _ _ _ _ _ _ _ _ _ _ _ _ _ _ _ _ _ _ _ _ _ _ _ _ _ _ v' W' e1 e2 h1 h2 h3 h4 hP'
              have HP' := Lib.hid (show (acc ++ [o]) ++ pp ⟨c0, c1, c2, c3⟩ a b i' j' = pp ⟨c0, c1, c2, c3⟩ a b 0 0 by rw [List.append_assoc]; show acc ++ (o :: pp ⟨c0, c1, c2, c3⟩ a b i' j') = _; rw [← h4]; exact HA.out)
              clear h4 HA
              subst e1 e2
              go_simp
              go_wp2
              go_roundg (a.size + b.size - (i' + j'))
              case rel => exact ⟨i', j', acc ++ [o], rfl, rfl, h1, h2, by omega, HP'.out, by simp; omega, hP'⟩
              case measure => omega
            · cases hsw : sw a b i j
              · refine pr_nn a b ha hb _ hOk w _ _ _ i j G HG.out _ acc (by omega) hin hjm he hsw _ _ hP _ _ _ _ _ _ _ _ _ _ _ _ _ _ _ _ _ _ _ _ _ _ _ _ _ _ _ _ _ _ _ _ _ _ _ _ _ _ _ _ _ _ _ _ _ _ _ _ _ _ _ _ _ _ _ _ _ _ _ _ _ _ _ _ _ _ _ _ _ _ _ _ _ _ _ _ _ _ _ _ _ _ _ _ _ _ _ _ _ _ _ _ _ _ _ _ _ _ _ _ _ _ _ _ _ _ _ _ _ _ _ _ _ _ _ _ _ ?_
                intro i' j' ii jj o _ _ _ _ _ _ _ _ _ _ _ _ _ _ _ _ _ _ _ _ _ _ _ _ _ _ _ _ _ _ _ _ _ _ _ _ _ _ _ _ _ _ _ _ _ _ _ _ _ _ _ _ _ _ _ _ v' W' e1 e2 h1 h2 h3 h4 hP'
                have HP' := Lib.hid (show (acc ++ [o]) ++ pp ⟨c0, c1, c2, c3⟩ a b i' j' = pp ⟨c0, c1, c2, c3⟩ a b 0 0 by rw [List.append_assoc]; show acc ++ (o :: pp ⟨c0, c1, c2, c3⟩ a b i' j') = _; rw [← h4]; exact HA.out)
                clear h4 HA
                subst e1 e2
                go_simp
                go_wp2
                go_roundg (a.size + b.size - (i' + j'))
                case rel => exact ⟨i', j', acc ++ [o], rfl, rfl, h1, h2, by omega, HP'.out, by simp; omega, hP'⟩
                case measure => omega
              · refine pr_ns a b ha hb _ hOk w _ _ _ i j G HG.out _ acc (by omega) hin hjm he hsw _ _ hP _ _ _ _ _ _ _ _ _ _ _ _ _ _ _ _ _ _ _ _ _ _ _ _ _ _ _ _ _ _ _ _ _ _ _ _ _ _ _ _ _ _ _ _ _ _ _ _ _ _ _ _ _ _ _ _ _ _ _ _ _ _ _ _ _ _ _ _ _ _ _ _ _ _ _ _ _ _ _ _ _ _ _ _ _ _ _ _ _ _ _ _ _ _ _ _ _ _ _ _ _ _ _ _ _ _ _ _ _ _ _ _ _ _ _ _ _ ?_
                intro i' j' ii jj o _ _ _ _ _ _ _ _ _ _ _ _ _ _ _ _ _ _ _ _ _ _ _ _ _ _ _ _ _ _ _ _ _ _ _ _ _ _ _ _ _ _ _ _ _ _ _ _ _ _ _ _ _ _ _ _ v' W' e1 e2 h1 h2 h3 h4 hP'
                have HP' := Lib.hid (show (acc ++ [o]) ++ pp ⟨c0, c1, c2, c3⟩ a b i' j' = pp ⟨c0, c1, c2, c3⟩ a b 0 0 by rw [List.append_assoc]; show acc ++ (o :: pp ⟨c0, c1, c2, c3⟩ a b i' j') = _; rw [← h4]; exact HA.out)
                clear h4 HA
                subst e1 e2
                go_simp
                go_wp2
                go_roundg (a.size + b.size - (i' + j'))
                case rel => exact ⟨i', j', acc ++ [o], rfl, rfl, h1, h2, by omega, HP'.out, by simp; omega, hP'⟩
                case measure => omega
          · have kd : (i : Int) < (a.size : Int) := by omega
            go_wp2
            refine pr_del a b ha hb _ hOk w _ _ _ i j G HG.out _ acc (by omega) hin (by omega) _ _ hP _ _ _ _ _ _ _ _ _ _ _ _ _ _ _ _ _ _ _ _ _ _ _ _ _ _ _ _ _ _ _ _ _ _ _ _ _ _ _ _ _ _ _ _ _ _ _ _ _ _ _ _ _ _ _ _ _ _ _ _ _ _ _ _ _ _ _ _ _ _ _ _ _ _ _ _ _ _ _ _ _ _ _ _ _ _ _ _ _ _ _ _ _ _ _ _ _ _ _ _ _ _ _ _ _ _ _ _ _ _ _ _ _ _ _ _ _ ?_
            intro i' j' ii jj o _ _ _ _ _ _ _ _ _ _ _ _ _ _ _ _ _ _ _ _ _ _ _ _ _ _ _ _ _ _ _ _ _ _ _ _ _ _ _ _ _ _ _ _ _ _ _ _ _ _ _ _ _ _ _ _ v' W' e1 e2 h1 h2 h3 h4 hP'
            have HP' := Lib.hid (show (acc ++ [o]) ++ pp ⟨c0, c1, c2, c3⟩ a b i' j' = pp ⟨c0, c1, c2, c3⟩ a b 0 0 by rw [List.append_assoc]; show acc ++ (o :: pp ⟨c0, c1, c2, c3⟩ a b i' j') = _; rw [← h4]; exact HA.out)
            clear h4 HA
            subst e1 e2
            go_simp
            go_wp2
            go_roundg (a.size + b.size - (i' + j'))
            case rel => exact ⟨i', j', acc ++ [o], rfl, rfl, h1, h2, by omega, HP'.out, by simp; omega, hP'⟩
            case measure => omega
        · by_cases hjm : j < b.size
          · have kd : decide ((i : Int) < (a.size : Int)) = false := decide_eq_false (by omega)
            have ke : (j : Int) < (b.size : Int) := by omega
            go_wp2
            refine pr_ins a b ha hb _ hOk w _ _ _ i j G HG.out _ acc (by omega) (by omega) hjm _ _ hP _ _ _ _ _ _ _ _ _ _ _ _ _ _ _ _ _ _ _ _ _ _ _ _ _ _ _ _ _ _ _ _ _ _ _ _ _ _ _ _ _ _ _ _ _ _ _ _ _ _ _ _ _ _ _ _ _ _ _ _ _ _ _ _ _ _ _ _ _ _ _ _ _ _ _ _ _ _ _ _ _ _ _ _ _ _ _ _ _ _ _ _ _ _ _ _ _ _ _ _ _ _ _ _ _ _ _ _ _ _ _ _ _ _ _ _ _ ?_
            intro i' j' ii jj o _ _ _ _ _ _ _ _ _ _ _ _ _ _ _ _ _ _ _ _ _ _ _ _ _ _ _ _ _ _ _ _ _ _ _ _ _ _ _ _ _ _ _ _ _ _ _ _ _ _ _ _ _ _ _ _ v' W' e1 e2 h1 h2 h3 h4 hP'
            have HP' := Lib.hid (show (acc ++ [o]) ++ pp ⟨c0, c1, c2, c3⟩ a b i' j' = pp ⟨c0, c1, c2, c3⟩ a b 0 0 by rw [List.append_assoc]; show acc ++ (o :: pp ⟨c0, c1, c2, c3⟩ a b i' j') = _; rw [← h4]; exact HA.out)
            clear h4 HA
            subst e1 e2
            go_simp
            go_wp2
            go_roundg (a.size + b.size - (i' + j'))
            case rel => exact ⟨i', j', acc ++ [o], rfl, rfl, h1, h2, by omega, HP'.out, by simp; omega, hP'⟩
            case measure => omega
          · have kd : decide ((i : Int) < (a.size : Int)) = false := decide_eq_false (by omega)
            have ke : decide ((j : Int) < (b.size : Int)) = false := decide_eq_false (by omega)
            have hA2 : acc = pp ⟨c0, c1, c2, c3⟩ a b 0 0 := by
              have e := HA.out
              rw [show i = a.size by omega, show j = b.size by omega, pp_end, List.append_nil] at e
              exact e
            have HA2 := Lib.hid hA2
            clear hA2
            go_wp2
            try rw [Exit.noGoto_ret]
            go_ret3
            exact ⟨_, rfl, HA2.out ▸ hP.r, hP.p.below⟩
    · obtain ⟨i, rfl⟩ : ∃ i, gk = i + 1 := ⟨gk - 1, by omega⟩
      have hi1 : ((i + 1 : Nat) : Int) - 1 = (i : Int) := by omega
      rw [hi1] at hi HG
      clear hi1
      have ki := hi.cell
      have hile : i ≤ a.size := by omega
      obtain ⟨wo, rfl⟩ : ∃ wo : World, wo = wr := ⟨_, rfl⟩
      go_wp2
      have hj := IC.new wo b.size
      have hi2 := hi.below ((Below.refl _ _).alloc (Nat.le_refl _) (.cells #[.int .i64 (b.size : Int)] 3))
      have hQ2 := hQ.alloc (.cells #[.int .i64 (b.size : Int)] 3)
      have hwo : w.heap.size ≤ wo.heap.size := hQ.below.size
      clear hQ hi ki
      go_loopg [14] (b.size + 1) (fun k v W => ∃ (gj : Nat) (G : List Int), v = .pointer (some ⟨gj, 0, none⟩) ∧ IC W gi i ∧ IC W gj ((k : Int) - 1) ∧ PB w W (w1.heap.size + 1) w1.heap.size w2.heap.size ⟨c0, c1, c2, c3⟩ G ∧ Grid ⟨c0, c1, c2, c3⟩ a b G i ∧ Row ⟨c0, c1, c2, c3⟩ a b G i ((k : Int) - 1) ∧ k ≤ b.size + 1 ∧ w.heap.size ≤ gj)
      case atStart => exact ⟨_, _, rfl, hi2, (by simpa using hj), hQ2, HG.out, (fun j' h1 h2 => by omega), by omega, hwo⟩
      case round =>
        clear hj hi2 hQ2 HG G
        obtain ⟨gj, G, rfl, hi, hj, hQ, hG, hR, hk2, hgj⟩ := hrel
        have HG := Lib.hid hG
        have HR := Lib.hid hR
        clear hG hR
        by_cases h1 : gk = 0
        · subst h1
          have kj := hj.cell
          have ki := hi.cell
          go_wp2
          go_roundg i
          case rel => exact ⟨_, _, rfl, IC.new _ _, hQ.alloc _, grid_row HG.out HR.out, by omega, hQ.below.size⟩
          case measure => omega
        · obtain ⟨j, rfl⟩ : ∃ j, gk = j + 1 := ⟨gk - 1, by omega⟩
          have hj1 : ((j + 1 : Nat) : Int) - 1 = (j : Int) := by omega
          rw [hj1] at hj HR
          clear hj1
          have hjle : j ≤ b.size := by omega
          have kj := hj.cell
          have ki := hi.cell
          have HN := Lib.hid (hQ.nI hi)
          have HM := Lib.hid (hQ.nI hj)
          have HDN := Lib.hid (done_of HG.out HR.out)
          have q1 : (i : Int) < 61 := by omega
          have q2 : (j : Int) < 61 := by omega
          have q3 : (i : Int) ≤ (a.size : Int) := by omega
          have q4 : (j : Int) ≤ (b.size : Int) := by omega
          go_wp2
          go_region_held3 (fun w' => w'.cell? ⟨gi, 0, none⟩ = some (.int .i64 (i : Int)) ∧ w'.cell? ⟨gj, 0, none⟩ = some (.int .i64 (j : Int)))
            (first | exact ⟨ki, kj⟩ | exact ⟨ki3, kj3⟩ | exact ⟨(hi3.far HN.out _).cell, (hj3.far HM.out _).cell⟩)
            (first | (go_at_call 30; refine (least_calls a b _ hOk ha hb _ _ _ _ _ i j G HDN.out hile hjle _ (hQ.drew.ctx (show IC wr.drew gi i from hi) (show IC wr.drew gj j from hj))).mono ?_; rintro e W3 ⟨rfl, hb3⟩; have hi3 := (show IC wr.drew gi i from hi).below hb3; have hj3 := (show IC wr.drew gj j from hj).below hb3; have hQ3 := hQ.drew.keep hb3; have ki3 := hi3.cell; have kj3 := hj3.cell; have kG := hQ3.at_ (i * 61 + j) (by omega); have fG := blk_frozen hQ3.grid (i * 61 + j)))
          have hQ4 := hQ3.put (i * 61 + j) (dd ⟨c0, c1, c2, c3⟩ a b i j)
          have hi4 := hi3.far HN.out (.int .i64 (dd ⟨c0, c1, c2, c3⟩ a b i j)) (j := i * 61 + j)
          have hj4 := hj3.far HM.out (.int .i64 (dd ⟨c0, c1, c2, c3⟩ a b i j)) (j := i * 61 + j)
          have hG4 := Lib.hid (grid_set hQ.len ha hb hile hjle HG.out (dd ⟨c0, c1, c2, c3⟩ a b i j))
          have hR4 := Lib.hid (row_set hQ.len ha hb hile hjle HR.out)
          clear hQ3 hi3 hj3 ki3 kj3 kG fG hb3 hi hj ki kj hQ HN HM HDN HG HR
          revert hQ4 hi4 hj4
          generalize W3.setCell ⟨w2.heap.size, i * 61 + j, none⟩ (.int .i64 (dd ⟨c0, c1, c2, c3⟩ a b i j)) = W4
          intro hQ4 hi4 hj4
          have kj := hj4.cell
          go_wp2
          go_roundg j
          case rel => exact ⟨_, _, rfl, hi4.below ((Below.refl _ _).alloc (Nat.le_refl _) _), IC.new _ _, hQ4.alloc _, hG4.out, hR4.out, by omega, hQ4.below.size⟩
          case measure => omega
end Go.Proofs.Ytdefecnngccmoaa.Ed
namespace Go.Proofs.Ytdefecnngccmoaa.Ed
open Go.RowKit Go.Proofs.YtdefecnngccmoaaW.PrintWords QTells
def mayE (a b : ByteArray) (c0 c1 c2 c3 : Int) : Int := if rightB c0 c1 c2 c3 = true then (if (a.size : Int) > 60 then 3 else if (b.size : Int) > 60 then 3 else 0) else 2
theorem may_f (a b : ByteArray) (c0 c1 c2 c3 : Int) : QE0.edit_may.f a b c0 c1 c2 c3 = some (mayE a b c0 c1 c2 c3) := by
  unfold QE0.edit_may.f QE0.edit_Right.f mayE
  simp only [Option.bind_some]
  split
  · split
    · rfl
    · split <;> rfl
  · rfl
theorem mayE_ok {a b : ByteArray} {c0 c1 c2 c3 : Int} (h : mayE a b c0 c1 c2 c3 = 0) : rightB c0 c1 c2 c3 = true ∧ a.size ≤ 60 ∧ b.size ≤ 60 := by
  unfold mayE at h
  split at h
  · split at h
    · omega
    · split at h
      · omega
      · exact ⟨by assumption, by omega, by omega⟩
  · omega
def distF (a b : ByteArray) (c0 c1 c2 c3 : Int) : Int × Int := if mayE a b c0 c1 c2 c3 = 0 then (dd ⟨c0, c1, c2, c3⟩ a b 0 0, 0) else (0, mayE a b c0 c1 c2 c3)
def pathF (a b : ByteArray) (c0 c1 c2 c3 : Int) : List S38 := if mayE a b c0 c1 c2 c3 = 0 then pp ⟨c0, c1, c2, c3⟩ a b 0 0 else []
set_option maxRecDepth 1000000 in
set_option maxHeartbeats 4000000 in
theorem distance_err (a b : ByteArray) (c0 c1 c2 c3 : Int) (w : World) (m : Int) (hm : mayE a b c0 c1 c2 c3 = m) (h0 : (m != 0) = true) :
    Calls Try.prog 12 #[.string a, .string b, .agg #[.int .i64 c0, .int .i64 c1, .int .i64 c2, .int .i64 c3]] w fun e w' => e = .returned (.tuple #[.int .i64 0, .int .i64 m]) ∧ Below w.heap.size w w' := by
  have HM := Lib.hid ((may_f a b c0 c1 c2 c3).trans (congrArg some hm))
  clear hm
  go_enter Try.func12, Try.ntmps12
  go_wp2_with (go_at_call 26; refine (QE0.edit_may.calls a b c0 c1 c2 c3 _ _ HM.out).mono ?_; rintro e w1 ⟨rfl, hB1⟩)
  go_ret2
  exact ⟨rfl, ((Below.refl _ _).alloc (Nat.le_refl _) _).trans (hB1.mono (by simp))⟩
theorem distance_calls (a b : ByteArray) (c0 c1 c2 c3 : Int) (w : World) :
    Calls Try.prog 12 #[.string a, .string b, .agg #[.int .i64 c0, .int .i64 c1, .int .i64 c2, .int .i64 c3]] w fun e w' => e = .returned (.tuple #[.int .i64 (distF a b c0 c1 c2 c3).1, .int .i64 (distF a b c0 c1 c2 c3).2]) ∧ Below w.heap.size w w' := by
  unfold distF
  by_cases h : mayE a b c0 c1 c2 c3 = 0
  · rw [if_pos h]
    obtain ⟨h1, h2, h3⟩ := mayE_ok h
    exact distance_ok a b c0 c1 c2 c3 w h1 h2 h3
  · rw [if_neg h]
    exact distance_err a b c0 c1 c2 c3 w _ rfl (bne_iff_ne.2 h)
set_option maxRecDepth 1000000 in
set_option maxHeartbeats 4000000 in
theorem path_err (a b : ByteArray) (c0 c1 c2 c3 : Int) (w : World) (m : Int) (hm : mayE a b c0 c1 c2 c3 = m) (h0 : (m != 0) = true) :
    Calls Try.prog 14 #[.string a, .string b, .agg #[.int .i64 c0, .int .i64 c1, .int .i64 c2, .int .i64 c3]] w (PathPost [] 0 m w) := by
  have HM := Lib.hid hm
  clear hm
  go_enter Try.func14, Try.ntmps14
  go_wp2
  go_step3
  go_wp2_with fail
  refine (distance_err a b c0 c1 c2 c3 _ m HM.out h0).mono ?_
  rintro e w1 ⟨rfl, hB1⟩
  go_wp2
  try rw [Exit.noGoto_ret]
  go_ret3
  exact ⟨_, rfl, Kd.R_nil _ _ _ _ _, ((Below.refl _ _).alloc (Nat.le_refl _) _).trans (hB1.mono (by simp))⟩
theorem path_calls (a b : ByteArray) (c0 c1 c2 c3 : Int) (w : World) :
    Calls Try.prog 14 #[.string a, .string b, .agg #[.int .i64 c0, .int .i64 c1, .int .i64 c2, .int .i64 c3]] w (PathPost (pathF a b c0 c1 c2 c3) (distF a b c0 c1 c2 c3).1 (distF a b c0 c1 c2 c3).2 w) := by
  unfold distF pathF
  by_cases h : mayE a b c0 c1 c2 c3 = 0
  · rw [if_pos h, if_pos h]
    obtain ⟨h1, h2, h3⟩ := mayE_ok h
    exact path_ok a b c0 c1 c2 c3 w h1 h2 h3
  · rw [if_neg h, if_neg h]
    exact path_err a b c0 c1 c2 c3 w _ rfl (bne_iff_ne.2 h)
end Go.Proofs.Ytdefecnngccmoaa.Ed
namespace Go.Proofs.Ytdefecnngccmoaa.Ed
open Go.RowKit Go.Proofs.YtdefecnngccmoaaW.PrintWords QTells
def costK (c : Lb.Cst) (k : Int) : Int := if k = 1 then 0 else if k = 2 then c.chg else if k = 3 then c.swp else if k = 4 then c.del else c.ins
def kindOk (k : Int) : Bool := decide (1 ≤ k) && decide (k ≤ 5)
def sumK (c : Lb.Cst) : List S38 → Int
  | [] => 0
  | o :: l => costK c o.f0 + sumK c l
def costP (c : Lb.Cst) (l : List S38) : Int × Int := if l.all (fun o => kindOk o.f0) = true then (sumK c l, 0) else (0, 60)
def costF (l : List S38) (c0 c1 c2 c3 : Int) : Int × Int :=
  if rightB c0 c1 c2 c3 = true then (if (l.length : Int) > 120 then (0, 3) else costP ⟨c0, c1, c2, c3⟩ l) else (0, 2)
theorem costK_bd {c : Lb.Cst} (h : c.Ok) (k : Int) : 0 ≤ costK c k ∧ costK c k ≤ 1000 := by
  have := h.i1; have := h.i2; have := h.d1; have := h.d2; have := h.c1; have := h.c2; have := h.s1; have := h.s2
  unfold costK
  repeat' split
  all_goals omega
theorem sumK_append (c : Lb.Cst) : ∀ l m : List S38, sumK c (l ++ m) = sumK c l + sumK c m
  | [], m => by simp [sumK]
  | o :: l, m => by simp only [List.cons_append, sumK, sumK_append c l m]; omega
theorem sumK_bd {c : Lb.Cst} (h : c.Ok) : ∀ l : List S38, 0 ≤ sumK c l ∧ sumK c l ≤ 1000 * l.length
  | [] => by simp [sumK]
  | o :: l => by have := costK_bd h o.f0; have := sumK_bd h l; simp only [sumK, List.length_cons]; omega
theorem take_one (l : List S38) (k : Nat) (h : k < l.length) : l.take (k + 1) = l.take k ++ [rd_T38 l (k : Int)] := by
  rw [List.take_succ_eq_append_getElem h]
  simp [rd_T38, h]
def by6 (c : Lb.Cst) : Array Value := #[.int .i64 0, .int .i64 0, .int .i64 c.chg, .int .i64 c.swp, .int .i64 c.del, .int .i64 c.ins]
theorem by6_at (c : Lb.Cst) (k : Int) (h : 1 ≤ k) (h' : k ≤ 5) : (by6 c)[k.toNat]? = some (.int .i64 (costK c k)) := by
  have : k = 1 ∨ k = 2 ∨ k = 3 ∨ k = 4 ∨ k = 5 := by omega
  rcases this with rfl | rfl | rfl | rfl | rfl <;> rfl
set_option maxRecDepth 1000000 in
set_option maxHeartbeats 4000000 in
theorem cost_ok (A0 : Option Addr) (cap : Nat) (l : List S38) (c0 c1 c2 c3 : Int) (w : World) (hr0 : Kd.C k38 w A0 l.length l) (hc0 : l.length ≤ cap) (hc : rightB c0 c1 c2 c3 = true) (hl : l.length ≤ 120) :
    Calls Try.prog 17 #[.slice A0 l.length cap, .agg #[.int .i64 c0, .int .i64 c1, .int .i64 c2, .int .i64 c3]] w fun e w' => e = .returned (.tuple #[.int .i64 (costP ⟨c0, c1, c2, c3⟩ l).1, .int .i64 (costP ⟨c0, c1, c2, c3⟩ l).2]) ∧ Below w.heap.size w w' := by
  have hOk : Lb.Cst.Ok ⟨c0, c1, c2, c3⟩ := by
    simp only [rightB, okc, Bool.and_eq_true, decide_eq_true_eq] at hc
    obtain ⟨⟨i1, i2⟩, ⟨d1, d2⟩, ⟨e1, e2⟩, s1, s2⟩ := hc
    exact ⟨i1, i2, d1, d2, e1, e2, s1, s2⟩
  have HC := Lib.hid hc
  clear hc
  go_enter Try.func17, Try.ntmps17
  go_wp2_with fail
  refine (right_calls c0 c1 c2 c3 _).mono ?_
  rw [HC.out]
  rintro e w1 ⟨rfl, hB1⟩
  have k0 : w1.cell? ⟨w.heap.size, 0, none⟩ = some (.int .i64 c0) := (blk_cell ((hB1.block _ (by simp)).trans (blk_new w _)) 0).trans rfl
  have k1 : w1.cell? ⟨w.heap.size, 1, none⟩ = some (.int .i64 c1) := (blk_cell ((hB1.block _ (by simp)).trans (blk_new w _)) 1).trans rfl
  have k2 : w1.cell? ⟨w.heap.size, 2, none⟩ = some (.int .i64 c2) := (blk_cell ((hB1.block _ (by simp)).trans (blk_new w _)) 2).trans rfl
  have k3 : w1.cell? ⟨w.heap.size, 3, none⟩ = some (.int .i64 c3) := (blk_cell ((hB1.block _ (by simp)).trans (blk_new w _)) 3).trans rfl
  have hBB : Below w.heap.size w w1 := ((Below.refl _ w).alloc (Nat.le_refl _) _).trans (hB1.mono (by simp))
  clear hB1
  have hl2 : (l.length : Int) ≤ 120 := by omega
  go_wp2
  have hz := blk_new w1 (.cells (by6 ⟨c0, c1, c2, c3⟩) 36)
  have hb2 := hBB.alloc hBB.size (.cells (by6 ⟨c0, c1, c2, c3⟩) 36)
  have hge : w.heap.size ≤ w1.heap.size := hBB.size
  go_loopw [7, 27] (fun s v W => ∃ k : Nat, k ≤ l.length ∧ v = .int .i64 (k : Int) ∧ s = .int .i64 (sumK ⟨c0, c1, c2, c3⟩ (l.take k)) ∧ (l.take k).all (fun o => kindOk o.f0) = true ∧ Below w.heap.size w W ∧ W.heap[w1.heap.size]? = some (.cells (by6 ⟨c0, c1, c2, c3⟩) 36 (0, 0))) (fun _ v _ => l.length - (intOf v).toNat)
  case atStart => exact ⟨0, Nat.zero_le _, rfl, rfl, rfl, hb2, hz⟩
  case round =>
    obtain ⟨k, hk, rfl, rfl, hall, hb, hz6⟩ := hrel
    clear hz hb2 hBB k0 k1 k2 k3
    have hs := sumK_bd hOk (l.take k)
    have hsl : (l.take k).length ≤ 120 := by rw [List.length_take]; omega
    have HA := Lib.hid hall
    clear hall
    by_cases hkl : k < l.length
    · obtain ⟨ad, hA, hx0, hx1⟩ := at_T38 (Kd.C_below hr0 hb) (k : Int) (by omega) (by omega)
      simp only [Int.toNat_natCast] at hx0 hx1
      have ht := take_one l k hkl
      generalize rd_T38 l (k : Int) = o at *
      have hsum : sumK ⟨c0, c1, c2, c3⟩ (l.take (k + 1)) = sumK ⟨c0, c1, c2, c3⟩ (l.take k) + costK ⟨c0, c1, c2, c3⟩ o.f0 := by rw [ht, sumK_append]; simp [sumK]
      have hck := costK_bd hOk o.f0
      have HS := Lib.hid hsum
      have HT := Lib.hid ht
      have Hz := Lib.hid hz6
      clear hsum ht hz6
      subst hA
      generalize sumK ⟨c0, c1, c2, c3⟩ (l.take k) = s at *
      have kk : (k : Int) < (l.length : Int) := by omega
      by_cases hko : 1 ≤ o.f0 ∧ o.f0 ≤ 5
      · obtain ⟨g1, g5⟩ := hko
        have gc := (blk_cell (blk_alloc Hz.out (.cells #[.int .u8 o.f0, .int .u8 o.f1] 38)) o.f0.toNat).trans (by6_at ⟨c0, c1, c2, c3⟩ o.f0 g1 g5)
        generalize costK ⟨c0, c1, c2, c3⟩ o.f0 = q at *
        go_wp2
        go_roundw
        case rel => exact ⟨k + 1, hkl, by go_num, by rw [HS.out], by rw [HT.out, List.all_append, HA.out]; simp [kindOk, g1, g5], hb.alloc hb.size _, blk_alloc Hz.out _⟩
        case measure => simp [intOf]; omega
      · have HF : Hid (l.all (fun o => kindOk o.f0) = false) := by
          have hm : o ∈ l := by
            have : o ∈ l.take (k + 1) := by rw [HT.out]; simp
            exact List.mem_of_mem_take this
          have hko2 : kindOk o.f0 = false := by unfold kindOk; rw [Bool.and_eq_false_iff]; simp; omega
          rw [List.all_eq_false]
          exact ⟨o, hm, by simp [hko2]⟩
        have HP : Hid (costP ⟨c0, c1, c2, c3⟩ l = (0, 60)) := by unfold costP; rw [HF.out]; rfl
        have g2 : o.f0 < 1 ∨ 5 < o.f0 := by omega
        clear HF hko HT HS hck hsl hs HA
        rcases g2 with g1 | g2
        · go_wp2
          go_ret2
          rw [HP.out]
          exact ⟨rfl, hb.alloc hb.size _⟩
        · have g1 : ¬ o.f0 < 1 := by omega
          go_wp2
          go_ret2
          rw [HP.out]
          exact ⟨rfl, hb.alloc hb.size _⟩
    · obtain rfl : k = l.length := by omega
      rw [List.take_length] at HA
      have HP : Hid (costP ⟨c0, c1, c2, c3⟩ l = (sumK ⟨c0, c1, c2, c3⟩ (l.take l.length), 0)) := by unfold costP; rw [HA.out, List.take_length]; rfl
      generalize sumK ⟨c0, c1, c2, c3⟩ (l.take l.length) = s at *
      go_wp2
      go_ret2
      rw [HP.out]
      exact ⟨rfl, hb⟩
set_option maxRecDepth 1000000 in
set_option maxHeartbeats 4000000 in
theorem cost_arg (A0 : Option Addr) (cap : Nat) (l : List S38) (c0 c1 c2 c3 : Int) (w : World) (hc : rightB c0 c1 c2 c3 = false) :
    Calls Try.prog 17 #[.slice A0 l.length cap, .agg #[.int .i64 c0, .int .i64 c1, .int .i64 c2, .int .i64 c3]] w fun e w' => e = .returned (.tuple #[.int .i64 0, .int .i64 2]) ∧ Below w.heap.size w w' := by
  have HC := Lib.hid hc
  clear hc
  go_enter Try.func17, Try.ntmps17
  go_wp2_with fail
  refine (right_calls c0 c1 c2 c3 _).mono ?_
  rw [HC.out]
  rintro e w1 ⟨rfl, hB1⟩
  go_wp2
  go_ret2
  exact ⟨rfl, ((Below.refl _ w).alloc (Nat.le_refl _) _).trans (hB1.mono (by simp))⟩
set_option maxRecDepth 1000000 in
set_option maxHeartbeats 4000000 in
theorem cost_long (A0 : Option Addr) (cap : Nat) (l : List S38) (c0 c1 c2 c3 : Int) (w : World) (hc : rightB c0 c1 c2 c3 = true) (hl : 120 < (l.length : Int)) :
    Calls Try.prog 17 #[.slice A0 l.length cap, .agg #[.int .i64 c0, .int .i64 c1, .int .i64 c2, .int .i64 c3]] w fun e w' => e = .returned (.tuple #[.int .i64 0, .int .i64 3]) ∧ Below w.heap.size w w' := by
  have HC := Lib.hid hc
  clear hc
  go_enter Try.func17, Try.ntmps17
  go_wp2_with fail
  refine (right_calls c0 c1 c2 c3 _).mono ?_
  rw [HC.out]
  rintro e w1 ⟨rfl, hB1⟩
  go_wp2
  go_ret2
  exact ⟨rfl, ((Below.refl _ w).alloc (Nat.le_refl _) _).trans (hB1.mono (by simp))⟩
theorem cost_calls (A0 : Option Addr) (cap : Nat) (l : List S38) (c0 c1 c2 c3 : Int) (w : World) (hr0 : Kd.C k38 w A0 l.length l) (hc0 : l.length ≤ cap) :
    Calls Try.prog 17 #[.slice A0 l.length cap, .agg #[.int .i64 c0, .int .i64 c1, .int .i64 c2, .int .i64 c3]] w fun e w' => e = .returned (.tuple #[.int .i64 (costF l c0 c1 c2 c3).1, .int .i64 (costF l c0 c1 c2 c3).2]) ∧ Below w.heap.size w w' := by
  unfold costF
  cases hc : rightB c0 c1 c2 c3 with
  | false => exact cost_arg A0 cap l c0 c1 c2 c3 w hc
  | true =>
    rw [if_pos rfl]
    by_cases hl : (l.length : Int) > 120
    · rw [if_pos hl]; exact cost_long A0 cap l c0 c1 c2 c3 w hc hl
    · rw [if_neg hl]
      exact cost_ok A0 cap l c0 c1 c2 c3 w hr0 hc0 hc (by omega)
end Go.Proofs.Ytdefecnngccmoaa.Ed
namespace Go.Proofs.Ytdefecnngccmoaa.Ed
open Go.RowKit Go.Proofs.YtdefecnngccmoaaW.PrintWords QTells
inductive Sc : List S38 → List Int → List Int → Prop
  | nil : Sc [] [] []
  | keep (a : Int) {l s t} : Sc l s t → Sc (⟨1, 0⟩ :: l) (a :: s) (a :: t)
  | chg (a b : Int) (h : a ≠ b) {l s t} : Sc l s t → Sc (⟨2, b⟩ :: l) (a :: s) (b :: t)
  | swp (a b : Int) (h : a ≠ b) {l s t} : Sc l s t → Sc (⟨3, 0⟩ :: l) (a :: b :: s) (b :: a :: t)
  | del (a : Int) {l s t} : Sc l s t → Sc (⟨4, 0⟩ :: l) (a :: s) t
  | ins (b : Int) {l s t} : Sc l s t → Sc (⟨5, b⟩ :: l) s (b :: t)
theorem costK1 (c : Lb.Cst) : costK c 1 = 0 := rfl
theorem costK2 (c : Lb.Cst) : costK c 2 = c.chg := rfl
theorem costK3 (c : Lb.Cst) : costK c 3 = c.swp := rfl
theorem costK4 (c : Lb.Cst) : costK c 4 = c.del := rfl
theorem costK5 (c : Lb.Cst) : costK c 5 = c.ins := rfl
theorem swap_iff {a b : Int} {s t : List Int} (h : Lb.swapHead (a :: s) (b :: t) = true) : a ≠ b ∧ ∃ s' t', s = b :: s' ∧ t = a :: t' := by
  cases s with
  | nil => simp [Lb.swapHead] at h
  | cons a2 s =>
    cases t with
    | nil => simp [Lb.swapHead] at h
    | cons b2 t =>
      simp only [Lb.swapHead, Bool.and_eq_true, beq_iff_eq, bne_iff_ne] at h
      obtain ⟨rfl, rfl, h⟩ := h
      exact ⟨h, s, t, rfl, rfl⟩
theorem swap_mk {a b : Int} (h : a ≠ b) (s t : List Int) : Lb.swapHead (a :: b :: s) (b :: a :: t) = true := by
  simp [Lb.swapHead, h]
theorem dist_le_one {c : Lb.Cst} (a b : Int) (s t : List Int) : Lb.dist c (a :: s) (b :: t) ≤ Lb.dist c s t + Lb.one c a b := by
  rw [Lb.dist_cons_cons]; split <;> omega
theorem dist_le_swp {c : Lb.Cst} (a b : Int) (h : a ≠ b) (s t : List Int) : Lb.dist c (a :: b :: s) (b :: a :: t) ≤ Lb.dist c s t + c.swp := by
  rw [Lb.dist_cons_cons, if_pos (swap_mk h s t)]; simp only [List.drop_succ_cons, List.drop_zero]; omega
theorem dist_le_del {c : Lb.Cst} (a : Int) (s t : List Int) : Lb.dist c (a :: s) t ≤ Lb.dist c s t + c.del := by
  cases t with
  | nil => rw [Lb.dist_cons_nil]; omega
  | cons b t => rw [Lb.dist_cons_cons]; omega
theorem dist_le_ins {c : Lb.Cst} (b : Int) (s t : List Int) : Lb.dist c s (b :: t) ≤ Lb.dist c s t + c.ins := by
  cases s with
  | nil => rw [Lb.dist_nil_cons]; omega
  | cons a s => rw [Lb.dist_cons_cons]; omega
theorem one_self (c : Lb.Cst) (a : Int) : Lb.one c a a = 0 := by simp [Lb.one]
theorem one_ne {c : Lb.Cst} {a b : Int} (h : a ≠ b) : Lb.one c a b = c.chg := by simp [Lb.one, h]
theorem dist_least {c : Lb.Cst} {l : List S38} {s t : List Int} (h : Sc l s t) : Lb.dist c s t ≤ sumK c l := by
  induction h with
  | nil => rw [Lb.dist_nil_nil]; simp [sumK]
  | keep a _ ih => have := dist_le_one (c := c) a a; rename_i l s t _ ; have := this s t; rw [one_self] at this; simp only [sumK, costK1]; omega
  | chg a b h _ ih => have := dist_le_one (c := c) a b; rename_i l s t _ ; have := this s t; rw [one_ne h] at this; simp only [sumK, costK2]; omega
  | swp a b h _ ih => rename_i l s t _; have := dist_le_swp (c := c) a b h s t; simp only [sumK, costK3]; omega
  | del a _ ih => rename_i l s t _; have := dist_le_del (c := c) a s t; simp only [sumK, costK4]; omega
  | ins b _ ih => rename_i l s t _; have := dist_le_ins (c := c) b s t; simp only [sumK, costK5]; omega
theorem path_sc {c : Lb.Cst} : ∀ s t : List Int, Sc (pathL c s t) s t ∧ sumK c (pathL c s t) = Lb.dist c s t
  | [], [] => by rw [pathL]; exact ⟨.nil, by rw [Lb.dist_nil_nil]; rfl⟩
  | [], b :: t => by
    have ih := path_sc (c := c) [] t
    rw [pathL]; exact ⟨.ins b ih.1, by rw [Lb.dist_nil_cons, sumK, ih.2, costK5]; omega⟩
  | a :: s, [] => by
    have ih := path_sc (c := c) s []
    rw [pathL]; exact ⟨.del a ih.1, by rw [Lb.dist_cons_nil, sumK, ih.2, costK4]; omega⟩
  | a :: s, b :: t => by
    have i1 := path_sc (c := c) s t
    have i2 := path_sc (c := c) s (b :: t)
    have i3 := path_sc (c := c) (a :: s) t
    have i4 := path_sc (c := c) (s.drop 1) (t.drop 1)
    rw [pathL]
    by_cases h1 : a = b ∧ Lb.dist c s t = Lb.dist c (a :: s) (b :: t)
    · rw [if_pos h1]; obtain ⟨rfl, h⟩ := h1; exact ⟨.keep a i1.1, by rw [sumK, i1.2, costK1]; omega⟩
    rw [if_neg h1]
    by_cases h2 : a ≠ b ∧ c.chg + Lb.dist c s t = Lb.dist c (a :: s) (b :: t)
    · rw [if_pos h2]; exact ⟨.chg a b h2.1 i1.1, by rw [sumK, i1.2, costK2]; exact h2.2⟩
    rw [if_neg h2]
    by_cases h3 : Lb.swapHead (a :: s) (b :: t) = true ∧ c.swp + Lb.dist c (s.drop 1) (t.drop 1) = Lb.dist c (a :: s) (b :: t)
    · rw [if_pos h3]
      obtain ⟨hn, s', t', rfl, rfl⟩ := swap_iff h3.1
      exact ⟨.swp a b hn i4.1, by rw [sumK, i4.2, costK3]; exact h3.2⟩
    rw [if_neg h3]
    by_cases h4 : c.del + Lb.dist c s (b :: t) = Lb.dist c (a :: s) (b :: t)
    · rw [if_pos h4]; exact ⟨.del a i2.1, by rw [sumK, i2.2, costK4]; exact h4⟩
    rw [if_neg h4]
    refine ⟨.ins b i3.1, ?_⟩
    rw [sumK, i3.2, costK5]
    have e := Lb.dist_cons_cons c a b s t
    have o : Lb.one c a b = if a = b then 0 else c.chg := rfl
    clear i1 i2 i3 i4
    by_cases hab : a = b
    · rw [if_pos hab] at o
      have h1' : Lb.dist c s t ≠ Lb.dist c (a :: s) (b :: t) := fun h => h1 ⟨hab, h⟩
      split at e
      · have h3' : c.swp + Lb.dist c (s.drop 1) (t.drop 1) ≠ Lb.dist c (a :: s) (b :: t) := fun h => h3 ⟨by assumption, h⟩
        omega
      · omega
    · rw [if_neg hab] at o
      have h2' : c.chg + Lb.dist c s t ≠ Lb.dist c (a :: s) (b :: t) := fun h => h2 ⟨hab, h⟩
      split at e
      · have h3' : c.swp + Lb.dist c (s.drop 1) (t.drop 1) ≠ Lb.dist c (a :: s) (b :: t) := fun h => h3 ⟨by assumption, h⟩
        omega
      · omega
termination_by s t => s.length + t.length
decreasing_by all_goals (simp; try omega)
theorem Sc.append {l m : List S38} {s t s' t' : List Int} (h : Sc l s t) (h' : Sc m s' t') : Sc (l ++ m) (s ++ s') (t ++ t') := by
  induction h with
  | nil => exact h'
  | keep a _ ih => exact .keep a ih
  | chg a b h _ ih => exact .chg a b h ih
  | swp a b h _ ih => exact .swp a b h ih
  | del a _ ih => exact .del a ih
  | ins b _ ih => exact .ins b ih
theorem sumK_reverse (c : Lb.Cst) : ∀ l : List S38, sumK c l.reverse = sumK c l
  | [] => rfl
  | o :: l => by rw [List.reverse_cons, sumK_append, sumK_reverse c l]; simp only [sumK]; omega
theorem Sc.reverse {l : List S38} {s t : List Int} (h : Sc l s t) : Sc l.reverse s.reverse t.reverse := by
  induction h with
  | nil => exact .nil
  | keep a _ ih => simp only [List.reverse_cons]; exact ih.append (.keep a .nil)
  | chg a b h _ ih => simp only [List.reverse_cons]; exact ih.append (.chg a b h .nil)
  | swp a b h _ ih => simp only [List.reverse_cons, List.append_assoc, List.cons_append, List.nil_append]; exact ih.append (.swp b a (Ne.symm h) .nil)
  | del a _ ih => rename_i l s t _; simp only [List.reverse_cons]; have e := ih.append (Sc.del a .nil); rwa [List.append_nil] at e
  | ins b _ ih => rename_i l s t _; simp only [List.reverse_cons]; have e := ih.append (Sc.ins b .nil); rwa [List.append_nil] at e
theorem Sc.mirror (c : Lb.Cst) {l : List S38} {s t : List Int} (h : Sc l s t) : ∃ l', Sc l' t s ∧ sumK ⟨c.del, c.ins, c.chg, c.swp⟩ l' = sumK c l := by
  induction h with
  | nil => exact ⟨[], .nil, rfl⟩
  | keep a _ ih => obtain ⟨l', h1, h2⟩ := ih; exact ⟨_, .keep a h1, by simp only [sumK, h2, costK1]⟩
  | chg a b h _ ih => obtain ⟨l', h1, h2⟩ := ih; exact ⟨_, .chg b a (Ne.symm h) h1, by simp only [sumK, h2, costK2]⟩
  | swp a b h _ ih => obtain ⟨l', h1, h2⟩ := ih; exact ⟨_, .swp b a (Ne.symm h) h1, by simp only [sumK, h2, costK3]⟩
  | del a _ ih => obtain ⟨l', h1, h2⟩ := ih; exact ⟨_, .ins a h1, by simp only [sumK, h2, costK4, costK5]⟩
  | ins b _ ih => obtain ⟨l', h1, h2⟩ := ih; exact ⟨_, .del b h1, by simp only [sumK, h2, costK4, costK5]⟩
theorem dist_joined {c : Lb.Cst} (s t s' t' : List Int) : Lb.dist c (s ++ s') (t ++ t') ≤ Lb.dist c s t + Lb.dist c s' t' := by
  have h := dist_least (c := c) ((path_sc (c := c) s t).1.append (path_sc (c := c) s' t').1)
  rw [sumK_append, (path_sc s t).2, (path_sc s' t').2] at h
  exact h
theorem dist_reverse_le {c : Lb.Cst} (s t : List Int) : Lb.dist c s.reverse t.reverse ≤ Lb.dist c s t := by
  have h := dist_least (c := c) (path_sc (c := c) s t).1.reverse
  rw [sumK_reverse, (path_sc s t).2] at h
  exact h
theorem dist_reverse {c : Lb.Cst} (s t : List Int) : Lb.dist c s.reverse t.reverse = Lb.dist c s t := by
  have h1 := dist_reverse_le (c := c) s t
  have h2 := dist_reverse_le (c := c) s.reverse t.reverse
  rw [List.reverse_reverse, List.reverse_reverse] at h2
  omega
theorem dist_mirror_le (c : Lb.Cst) (s t : List Int) : Lb.dist ⟨c.del, c.ins, c.chg, c.swp⟩ t s ≤ Lb.dist c s t := by
  obtain ⟨l', h1, h2⟩ := (path_sc (c := c) s t).1.mirror c
  have h := dist_least (c := ⟨c.del, c.ins, c.chg, c.swp⟩) h1
  rw [h2, (path_sc s t).2] at h
  exact h
theorem dist_mirror (c : Lb.Cst) (s t : List Int) : Lb.dist ⟨c.del, c.ins, c.chg, c.swp⟩ t s = Lb.dist c s t := by
  have h1 := dist_mirror_le c s t
  have h2 := dist_mirror_le ⟨c.del, c.ins, c.chg, c.swp⟩ t s
  exact Int.le_antisymm h1 h2
theorem dist_self_le (c : Lb.Cst) : ∀ s : List Int, Lb.dist c s s ≤ 0
  | [] => by rw [Lb.dist_nil_nil]; omega
  | a :: s => by have h := dist_le_one (c := c) a a s s; rw [one_self] at h; have := dist_self_le c s; omega
theorem dist_self {c : Lb.Cst} (hc : c.Ok) (s : List Int) : Lb.dist c s s = 0 :=
  Int.le_antisymm (dist_self_le c s) (Lb.dist_bd hc s s).1
theorem sc_zero {c : Lb.Cst} (hc : c.Ok) {l : List S38} {s t : List Int} (h : Sc l s t) (h0 : sumK c l ≤ 0) : s = t := by
  induction h with
  | nil => rfl
  | keep a _ ih => simp only [sumK, costK1] at h0; rw [ih (by omega)]
  | chg a b h _ ih => rename_i l s t _; have := (sumK_bd hc l).1; have := hc.c1; simp only [sumK, costK2] at h0; omega
  | swp a b h _ ih => rename_i l s t _; have := (sumK_bd hc l).1; have := hc.s1; simp only [sumK, costK3] at h0; omega
  | del a _ ih => rename_i l s t _; have := (sumK_bd hc l).1; have := hc.d1; simp only [sumK, costK4] at h0; omega
  | ins b _ ih => rename_i l s t _; have := (sumK_bd hc l).1; have := hc.i1; simp only [sumK, costK5] at h0; omega
theorem dist_zero {c : Lb.Cst} (hc : c.Ok) (s t : List Int) : Lb.dist c s t = 0 ↔ s = t := by
  constructor
  · intro h; have p := path_sc (c := c) s t; exact sc_zero hc p.1 (by rw [p.2, h]; exact Int.le_refl _)
  · rintro rfl; exact dist_self hc s
theorem dist_all_del (c : Lb.Cst) : ∀ s : List Int, Lb.dist c s [] = s.length * c.del
  | [] => by rw [Lb.dist_nil_nil]; simp
  | a :: s => by rw [Lb.dist_cons_nil, dist_all_del c s, List.length_cons]; have := Int.add_mul (s.length : Int) 1 c.del; push_cast; omega
theorem dist_all_ins (c : Lb.Cst) : ∀ t : List Int, Lb.dist c [] t = t.length * c.ins
  | [] => by rw [Lb.dist_nil_nil]; simp
  | b :: t => by rw [Lb.dist_nil_cons, dist_all_ins c t, List.length_cons]; have := Int.add_mul (t.length : Int) 1 c.ins; push_cast; omega
theorem dist_all (c : Lb.Cst) (s t : List Int) : Lb.dist c s t ≤ s.length * c.del + t.length * c.ins := by
  have h := dist_joined (c := c) s [] [] t
  rw [List.append_nil, List.nil_append, dist_all_del, dist_all_ins] at h
  exact h
theorem sumK_mono {c d : Lb.Cst} (h1 : c.ins ≤ d.ins) (h2 : c.del ≤ d.del) (h3 : c.chg ≤ d.chg) (h4 : c.swp ≤ d.swp) : ∀ l : List S38, sumK c l ≤ sumK d l
  | [] => by simp [sumK]
  | o :: l => by
    have := sumK_mono h1 h2 h3 h4 l
    have : costK c o.f0 ≤ costK d o.f0 := by unfold costK; (repeat' split) <;> omega
    simp only [sumK]; omega
theorem dist_dearer {c d : Lb.Cst} (h1 : c.ins ≤ d.ins) (h2 : c.del ≤ d.del) (h3 : c.chg ≤ d.chg) (h4 : c.swp ≤ d.swp) (s t : List Int) : Lb.dist c s t ≤ Lb.dist d s t := by
  have p := path_sc (c := d) s t
  have := dist_least (c := c) p.1
  have := sumK_mono h1 h2 h3 h4 (pathL d s t)
  rw [p.2] at this
  omega
theorem Sc.kinds {l : List S38} {s t : List Int} (h : Sc l s t) : ∀ o ∈ l, 1 ≤ o.f0 ∧ o.f0 ≤ 5 ∧ (o.f1 = 0 ∨ o.f0 = 2 ∨ o.f0 = 5) := by
  induction h with
  | nil => simp
  | keep a _ ih => intro o ho; rcases List.mem_cons.mp ho with rfl | ho; simp; exact ih o ho
  | chg a b h _ ih => intro o ho; rcases List.mem_cons.mp ho with rfl | ho; simp; exact ih o ho
  | swp a b h _ ih => intro o ho; rcases List.mem_cons.mp ho with rfl | ho; simp; exact ih o ho
  | del a _ ih => intro o ho; rcases List.mem_cons.mp ho with rfl | ho; simp; exact ih o ho
  | ins b _ ih => intro o ho; rcases List.mem_cons.mp ho with rfl | ho; simp; exact ih o ho
theorem Sc.length {l : List S38} {s t : List Int} (h : Sc l s t) : l.length ≤ s.length + t.length := by
  induction h <;> simp only [List.length_cons, List.length_nil] at * <;> omega
end Go.Proofs.Ytdefecnngccmoaa.Ed
namespace Go.Proofs.Ytdefecnngccmoaa.Ed
open Go.RowKit Go.Proofs.YtdefecnngccmoaaW.PrintWords QTells
def kindsL : List Int → List Int → List S38
  | _, [] => []
  | [], k :: l => ⟨k, 0⟩ :: kindsL [] l
  | b :: bs, k :: l => if k = 2 ∨ k = 5 then ⟨k, b⟩ :: kindsL bs l else ⟨k, 0⟩ :: kindsL (b :: bs) l
def KPost (l : List S38) (w : World) (e : Ending) (w' : World) : Prop := ∃ v, e = .returned v ∧ Kd.R k38 38 w' w.heap.size (fun _ => True) v l ∧ Below w.heap.size w w'
theorem drop_cons_l (l : List Int) (k : Nat) (h : k < l.length) : l.drop k = rd l k :: l.drop (k + 1) := by
  rw [List.drop_eq_getElem_cons h]; simp [rd, h]
theorem bytes_cons (s : ByteArray) (h : 0 < s.size) : bytesOf s = bt s 0 :: bytesOf (s.extract 1 s.size) := by
  have e := drop_cons s 0 h
  rw [List.drop_zero] at e
  rw [bytes_extract]; exact e
theorem bytes_nil (s : ByteArray) (h : s.size = 0) : bytesOf s = [] := List.eq_nil_of_length_eq_zero (by rw [bytesOf_length]; exact h)
theorem kindsL_nil (bs : List Int) : kindsL bs [] = [] := by cases bs <;> rfl
theorem kindsL_no (bs : List Int) (k : Int) (l : List Int) (h : ¬ (k = 2 ∨ k = 5)) : kindsL bs (k :: l) = ⟨k, 0⟩ :: kindsL bs l := by
  cases bs with
  | nil => rfl
  | cons b bs => simp only [kindsL]; rw [if_neg h]
set_option maxRecDepth 1000000 in
set_option maxHeartbeats 8000000 in
theorem kinds_any (s0 : ByteArray) (A : Option Addr) (cap : Nat) (l : List Int) (w : World) (hr : Kd.C (Kd.int .u8) w A l.length l) (hl : l.length ≤ 1000) :
    Calls Try.prog 20 #[.string s0, .slice A l.length cap] w (KPost (kindsL (bytesOf s0) l) w) := by
  go_enter Try.func20, Try.ntmps20
  go_wp2
  go_loopw [0, 5, 6] (fun x v y W => ∃ (k : Nat) (s : ByteArray) (acc : List S38), x = .string s ∧ y = .int .i64 (k : Int) ∧ k ≤ l.length ∧ acc.length = k ∧ Kd.R k38 38 W w.heap.size (fun _ => True) v acc ∧ Below w.heap.size w W ∧ acc ++ kindsL (bytesOf s) (l.drop k) = kindsL (bytesOf s0) l) (fun _ _ y _ => l.length - (intOf y).toNat)
  case atStart => exact ⟨0, s0, [], rfl, rfl, Nat.zero_le _, rfl, Kd.R_nil _ _ _ _ _, Below.refl _ _, rfl⟩
  case round =>
    obtain ⟨k, s, acc, rfl, rfl, hk, hn, hR, hB, hA⟩ := hrel
    have HA := Lib.hid hA
    have HN := Lib.hid hn
    clear hA hn
    by_cases hkl : k < l.length
    · obtain ⟨ad, e0, hx⟩ := Kd.at_int (Kd.C_below hr hB) (k : Int) (by omega) (by omega)
      subst e0
      simp only [Int.toNat_natCast] at hx
      have HD := Lib.hid (drop_cons_l l k hkl)
      generalize rd l (k : Int) = x at *
      have kk : (k : Int) < (l.length : Int) := by omega
      have hx2 := pw_cell_below ((Below.refl wr.heap.size wr).alloc (Nat.le_refl _) (.cells #[.int .u8 x, .int .u8 0] 38)) hx
      clear hr
      by_cases h2 : x = 2
      · have b2 : (x == 2) = true := beq_iff_eq.2 h2
        have H2 := Lib.hid h2
        by_cases hs : 0 < s.size
        · skip
          have z1 : s.toList.isEmpty = false := by rw [Lib.toList_data]; have := data_length s; cases h : s.data.toList with
            | nil => rw [h] at this; simp at this; omega
            | cons _ _ => rfl
          have z2 : (!s.toList.isEmpty) = true := by rw [z1]; rfl
          have z3 : 0 < (s.size : Int) := by omega
          have z4 : ∀ h : 0 < s.size, ((s[0]'h).toNat : Int) = bt s 0 := bt_at s 0
          have HK := Lib.hid (show kindsL (bytesOf s) (x :: l.drop (k + 1)) = ⟨x, bt s 0⟩ :: kindsL (bytesOf (s.extract 1 s.size)) (l.drop (k + 1)) by rw [bytes_cons s hs]; simp only [kindsL]; rw [if_pos (by omega)])
          try clear h2
          try clear h5
          go_wp2_with (at_builtin; refine Kd.R_append k38 (w0 := w) w.heap.size rfl (.tmp 40) (.tmp 42) 33 38 (.agg #[(.int .u8 0), (.int .u8 0)]) 2 rfl Try.underlying33 info38 rfl (by decide) (by omega) _ acc (⟨x, (bt s 0)⟩ : S38) [.int .u8 x, .int .u8 (bt s 0)] (fun _ => True) (fun _ => False) rfl (by first | (go_simp; done) | rfl) (k38_mkM _ _ _ _) (fun _ h => h.elim) (fun _ _ => trivial) (Kd.R_alloc hR _) (hB.alloc hB.size _) (hB.alloc hB.size _).size (by have := HN.out; omega) ?_; intro v1 w1 HO1 HB1 hg1 _)
          go_roundw
          case rel => exact ⟨k + 1, s.extract 1 s.size, acc ++ [⟨x, (bt s 0)⟩], rfl, by go_num, hkl, by rw [List.length_append, HN.out]; rfl, HO1, HB1, by rw [List.append_assoc, ← HA.out, HD.out]; exact congrArg (acc ++ ·) (HK.out).symm⟩
          case measure => simp [intOf]; omega
        · skip
          have z0 : s.toList.isEmpty = true := by rw [Lib.toList_data]; have := data_length s; cases h : s.data.toList with
            | nil => rfl
            | cons _ _ => rw [h] at this; simp at this; omega
          have z2 : (!s.toList.isEmpty) = false := by rw [z0]; rfl
          have z1 : s.toList = [] := List.isEmpty_iff.1 z0
          have HK := Lib.hid (show kindsL (bytesOf s) (x :: l.drop (k + 1)) = ⟨x, 0⟩ :: kindsL (bytesOf s) (l.drop (k + 1)) by rw [bytes_nil s (by omega)]; rfl)
          try clear h2
          try clear h5
          go_wp2_with (at_builtin; refine Kd.R_append k38 (w0 := w) w.heap.size rfl (.tmp 40) (.tmp 42) 33 38 (.agg #[(.int .u8 0), (.int .u8 0)]) 2 rfl Try.underlying33 info38 rfl (by decide) (by omega) _ acc (⟨x, 0⟩ : S38) [.int .u8 x, .int .u8 0] (fun _ => True) (fun _ => False) rfl (by first | (go_simp; done) | rfl) (k38_mkM _ _ _ _) (fun _ h => h.elim) (fun _ _ => trivial) (Kd.R_alloc hR _) (hB.alloc hB.size _) (hB.alloc hB.size _).size (by have := HN.out; omega) ?_; intro v1 w1 HO1 HB1 hg1 _)
          go_roundw
          case rel => exact ⟨k + 1, s, acc ++ [⟨x, 0⟩], rfl, by go_num, hkl, by rw [List.length_append, HN.out]; rfl, HO1, HB1, by rw [List.append_assoc, ← HA.out, HD.out]; exact congrArg (acc ++ ·) (HK.out).symm⟩
          case measure => simp [intOf]; omega
      · have b2 : (x == 2) = false := beq_eq_false_iff_ne.2 h2
        by_cases h5 : x = 5
        · have b5 : (x == 5) = true := beq_iff_eq.2 h5
          by_cases hs : 0 < s.size
          · skip
            have z1 : s.toList.isEmpty = false := by rw [Lib.toList_data]; have := data_length s; cases h : s.data.toList with
              | nil => rw [h] at this; simp at this; omega
              | cons _ _ => rfl
            have z2 : (!s.toList.isEmpty) = true := by rw [z1]; rfl
            have z3 : 0 < (s.size : Int) := by omega
            have z4 : ∀ h : 0 < s.size, ((s[0]'h).toNat : Int) = bt s 0 := bt_at s 0
            have HK := Lib.hid (show kindsL (bytesOf s) (x :: l.drop (k + 1)) = ⟨x, bt s 0⟩ :: kindsL (bytesOf (s.extract 1 s.size)) (l.drop (k + 1)) by rw [bytes_cons s hs]; simp only [kindsL]; rw [if_pos (by omega)])
            try clear h2
            try clear h5
            go_wp2_with (at_builtin; refine Kd.R_append k38 (w0 := w) w.heap.size rfl (.tmp 40) (.tmp 42) 33 38 (.agg #[(.int .u8 0), (.int .u8 0)]) 2 rfl Try.underlying33 info38 rfl (by decide) (by omega) _ acc (⟨x, (bt s 0)⟩ : S38) [.int .u8 x, .int .u8 (bt s 0)] (fun _ => True) (fun _ => False) rfl (by first | (go_simp; done) | rfl) (k38_mkM _ _ _ _) (fun _ h => h.elim) (fun _ _ => trivial) (Kd.R_alloc hR _) (hB.alloc hB.size _) (hB.alloc hB.size _).size (by have := HN.out; omega) ?_; intro v1 w1 HO1 HB1 hg1 _)
            go_roundw
            case rel => exact ⟨k + 1, s.extract 1 s.size, acc ++ [⟨x, (bt s 0)⟩], rfl, by go_num, hkl, by rw [List.length_append, HN.out]; rfl, HO1, HB1, by rw [List.append_assoc, ← HA.out, HD.out]; exact congrArg (acc ++ ·) (HK.out).symm⟩
            case measure => simp [intOf]; omega
          · skip
            have z0 : s.toList.isEmpty = true := by rw [Lib.toList_data]; have := data_length s; cases h : s.data.toList with
              | nil => rfl
              | cons _ _ => rw [h] at this; simp at this; omega
            have z2 : (!s.toList.isEmpty) = false := by rw [z0]; rfl
            have z1 : s.toList = [] := List.isEmpty_iff.1 z0
            have HK := Lib.hid (show kindsL (bytesOf s) (x :: l.drop (k + 1)) = ⟨x, 0⟩ :: kindsL (bytesOf s) (l.drop (k + 1)) by rw [bytes_nil s (by omega)]; rfl)
            try clear h2
            try clear h5
            go_wp2_with (at_builtin; refine Kd.R_append k38 (w0 := w) w.heap.size rfl (.tmp 40) (.tmp 42) 33 38 (.agg #[(.int .u8 0), (.int .u8 0)]) 2 rfl Try.underlying33 info38 rfl (by decide) (by omega) _ acc (⟨x, 0⟩ : S38) [.int .u8 x, .int .u8 0] (fun _ => True) (fun _ => False) rfl (by first | (go_simp; done) | rfl) (k38_mkM _ _ _ _) (fun _ h => h.elim) (fun _ _ => trivial) (Kd.R_alloc hR _) (hB.alloc hB.size _) (hB.alloc hB.size _).size (by have := HN.out; omega) ?_; intro v1 w1 HO1 HB1 hg1 _)
            go_roundw
            case rel => exact ⟨k + 1, s, acc ++ [⟨x, 0⟩], rfl, by go_num, hkl, by rw [List.length_append, HN.out]; rfl, HO1, HB1, by rw [List.append_assoc, ← HA.out, HD.out]; exact congrArg (acc ++ ·) (HK.out).symm⟩
            case measure => simp [intOf]; omega
        · have b5 : (x == 5) = false := beq_eq_false_iff_ne.2 h5
          have HK := Lib.hid (kindsL_no (bytesOf s) x (l.drop (k + 1)) (by omega))
          try clear h2
          try clear h5
          go_wp2_with (at_builtin; refine Kd.R_append k38 (w0 := w) w.heap.size rfl (.tmp 40) (.tmp 42) 33 38 (.agg #[(.int .u8 0), (.int .u8 0)]) 2 rfl Try.underlying33 info38 rfl (by decide) (by omega) _ acc (⟨x, 0⟩ : S38) [.int .u8 x, .int .u8 0] (fun _ => True) (fun _ => False) rfl (by first | (go_simp; done) | rfl) (k38_mkM _ _ _ _) (fun _ h => h.elim) (fun _ _ => trivial) (Kd.R_alloc hR _) (hB.alloc hB.size _) (hB.alloc hB.size _).size (by have := HN.out; omega) ?_; intro v1 w1 HO1 HB1 hg1 _)
          go_roundw
          case rel => exact ⟨k + 1, s, acc ++ [⟨x, 0⟩], rfl, by go_num, hkl, by rw [List.length_append, HN.out]; rfl, HO1, HB1, by rw [List.append_assoc, ← HA.out, HD.out]; exact congrArg (acc ++ ·) (HK.out).symm⟩
          case measure => simp [intOf]; omega
    · obtain rfl : k = l.length := by omega
      have HE : Hid (acc = kindsL (bytesOf s0) l) := by
        have e := HA.out
        rw [List.drop_length, kindsL_nil, List.append_nil] at e
        exact e
      clear HA HN
      go_wp2
      go_ret
      exact ⟨_, rfl, HE.out ▸ hR, hB⟩
end Go.Proofs.Ytdefecnngccmoaa.Ed
namespace Go.Proofs.Ytdefecnngccmoaa.QTells
open Go.RowKit Go.Proofs.YtdefecnngccmoaaW.PrintWords Go.Proofs.YtdefecnngccmoaaW.PrintLast Go.Proofs.YtdefecnngccmoaaW.PrintMore
attribute [local go_sem] max2_int min2_int max_two min_two max_three min_three max_four min_four
set_option linter.unusedVariables false
set_option linter.unusedSimpArgs false
open Go.Proofs.Ytdefecnngccmoaa.Ed
def edit_Right.f (a0_0 : Int) (a0_1 : Int) (a0_2 : Int) (a0_3 : Int) : Option Bool := some (rightB a0_0 a0_1 a0_2 a0_3)
theorem edit_Right.calls (a0_0 : Int) (a0_1 : Int) (a0_2 : Int) (a0_3 : Int) (r : Bool) (w : World) (h : edit_Right.f a0_0 a0_1 a0_2 a0_3 = some r) :
  Calls Try.prog 11 #[.agg #[.int .i64 a0_0, .int .i64 a0_1, .int .i64 a0_2, .int .i64 a0_3]] w fun e w' => e = .returned (.bool r) ∧ Below w.heap.size w w' := by
 obtain rfl := Option.some.inj h
 exact right_calls a0_0 a0_1 a0_2 a0_3 w
end Go.Proofs.Ytdefecnngccmoaa.QTells
namespace Go.Proofs.Ytdefecnngccmoaa.QTells
open Go.RowKit Go.Proofs.YtdefecnngccmoaaW.PrintWords Go.Proofs.YtdefecnngccmoaaW.PrintLast Go.Proofs.YtdefecnngccmoaaW.PrintMore
attribute [local go_sem] max2_int min2_int max_two min_two max_three min_three max_four min_four
set_option linter.unusedVariables false
set_option linter.unusedSimpArgs false
open Go.Proofs.Ytdefecnngccmoaa.Ed
def edit_Distance.f (a0 : ByteArray) (a1 : ByteArray) (a2_0 : Int) (a2_1 : Int) (a2_2 : Int) (a2_3 : Int) : Option (Int × Int) := some (distF a0 a1 a2_0 a2_1 a2_2 a2_3)
theorem edit_Distance.calls (a0 : ByteArray) (a1 : ByteArray) (a2_0 : Int) (a2_1 : Int) (a2_2 : Int) (a2_3 : Int) (r1 : Int) (r2 : Int) (w : World) (h : edit_Distance.f a0 a1 a2_0 a2_1 a2_2 a2_3 = some (r1, r2)) :
  Calls Try.prog 12 #[.string a0, .string a1, .agg #[.int .i64 a2_0, .int .i64 a2_1, .int .i64 a2_2, .int .i64 a2_3]] w fun e w' => e = .returned (.tuple #[.int .i64 r1, .int .i64 r2]) ∧ Below w.heap.size w w' := by
 have h' := Option.some.inj h
 have e := distance_calls a0 a1 a2_0 a2_1 a2_2 a2_3 w
 rw [h'] at e
 exact e
end Go.Proofs.Ytdefecnngccmoaa.QTells
namespace Go.Proofs.Ytdefecnngccmoaa.QTells
open Go.RowKit Go.Proofs.YtdefecnngccmoaaW.PrintWords Go.Proofs.YtdefecnngccmoaaW.PrintLast Go.Proofs.YtdefecnngccmoaaW.PrintMore
attribute [local go_sem] max2_int min2_int max_two min_two max_three min_three max_four min_four
set_option linter.unusedVariables false
set_option linter.unusedSimpArgs false
open Go.Proofs.Ytdefecnngccmoaa.Ed
def edit_Path.f (a0 : ByteArray) (a1 : ByteArray) (a2_0 : Int) (a2_1 : Int) (a2_2 : Int) (a2_3 : Int) : Option (List S38 × Int × Int) := some (pathF a0 a1 a2_0 a2_1 a2_2 a2_3, distF a0 a1 a2_0 a2_1 a2_2 a2_3)
theorem edit_Path.calls (a0 : ByteArray) (a1 : ByteArray) (a2_0 : Int) (a2_1 : Int) (a2_2 : Int) (a2_3 : Int) (r1 : List (S38)) (r2 : Int) (r3 : Int) (w : World) (h : edit_Path.f a0 a1 a2_0 a2_1 a2_2 a2_3 = some (r1, r2, r3)) :
  Calls Try.prog 14 #[.string a0, .string a1, .agg #[.int .i64 a2_0, .int .i64 a2_1, .int .i64 a2_2, .int .i64 a2_3]] w fun e w' => ∃ v0_ : Value, e = .returned (.tuple #[v0_, .int .i64 r2, .int .i64 r3]) ∧ Kd.R k38 38 w' w.heap.size (fun _ => True) v0_ r1 ∧ Below w.heap.size w w' := by
 have h' := Option.some.inj h
 obtain ⟨rfl, h2⟩ := Prod.mk.inj h'
 have e := path_calls a0 a1 a2_0 a2_1 a2_2 a2_3 w
 rw [h2] at e
 exact e
end Go.Proofs.Ytdefecnngccmoaa.QTells
namespace Go.Proofs.Ytdefecnngccmoaa.QTells
open Go.RowKit Go.Proofs.YtdefecnngccmoaaW.PrintWords Go.Proofs.YtdefecnngccmoaaW.PrintLast Go.Proofs.YtdefecnngccmoaaW.PrintMore
attribute [local go_sem] max2_int min2_int max_two min_two max_three min_three max_four min_four
set_option linter.unusedVariables false
set_option linter.unusedSimpArgs false
open Go.Proofs.Ytdefecnngccmoaa.Ed
def edit_Within.f (a0 : ByteArray) (a1 : ByteArray) (a2_0 : Int) (a2_1 : Int) (a2_2 : Int) (a2_3 : Int) (a3 : Int) : Option (Int × Bool × Int) := (edit_Distance.f a0 a1 a2_0 a2_1 a2_2 a2_3).bind fun bt120 => (if bt120.2 = 0 then (if bt120.1 > a3 then (some (0, false, bt120.2)) else (some (bt120.1, true, 0))) else (some (0, false, bt120.2)))
set_option maxHeartbeats 8000000 in
set_option maxRecDepth 100000 in
theorem edit_Within.calls (a0 : ByteArray) (a1 : ByteArray) (a2_0 : Int) (a2_1 : Int) (a2_2 : Int) (a2_3 : Int) (a3 : Int) (r1 : Int) (r2 : Bool) (r3 : Int) (w : World) (h : edit_Within.f a0 a1 a2_0 a2_1 a2_2 a2_3 a3 = some (r1, r2, r3)) :
  Calls Try.prog 19 #[.string a0, .string a1, .agg #[.int .i64 a2_0, .int .i64 a2_1, .int .i64 a2_2, .int .i64 a2_3], .int .i64 a3] w fun e w' => e = .returned (.tuple #[.int .i64 r1, .bool r2, .int .i64 r3]) ∧ Below w.heap.size w w' := by
 have hu23 := Try.underlying23
 have HB := Aside0.mk (Below.refl w.heap.size w)
 have H : ((edit_Distance.f a0 a1 a2_0 a2_1 a2_2 a2_3).bind fun bt120 => (if bt120.2 = 0 then (if bt120.1 > a3 then (some (0, false, bt120.2)) else (some (bt120.1, true, 0))) else (some (0, false, bt120.2)))) = some (r1, r2, r3) := h
 clear h
 replace H := Option.bind_eq_some_iff.mp H
 obtain ⟨⟨t120, t121⟩, A50, H⟩ := H
 replace H : (if t121 = 0 then (if t120 > a3 then (some (0, false, t121)) else (some (t120, true, 0))) else (some (0, false, t121))) = some (r1, r2, r3) := H
 have A5 := Aside0.mk A50
 clear A50
 by_cases c6 : t121 = 0
 ·rw [if_pos c6] at H
  have c6b0 : (t121 == 0) = true := beq_iff_eq.mpr c6
  have c6b1 : (t121 != 0) = false := bne_eq_false_iff_eq.mpr c6
  clear c6
  by_cases c7 : t120 > a3
  ·rw [if_pos c7] at H
   have c7b0 : decide (a3 < t120) = true := decide_eq_true c7
   clear c7
   simp only [Option.some.injEq, Prod.mk.injEq] at H
   obtain ⟨rfl, rfl, rfl⟩ := H
   go_enter Try.func19, Try.ntmps19
   go_wp2_with (first | ((with_reducible refine gate_dst (N := 6) rfl ?_); refine box_event ?hg (N := 6) ?hd (cs := #[.int .i64 a2_0, .int .i64 a2_1, .int .i64 a2_2, .int .i64 a2_3]) (t := 23) ?hr ?_; (case hd => rfl); (case hg => rfl); (case hr => first | (go_simp; done) | (go_simp; rfl)); intro gb119 hg w8 hbox hb; have n0_ := Aside0.mk (below_step (by repeat (first | (with_reducible first | exact HB.out | apply below_alloc | apply pw_below_drewN | apply below_drew1) | exact HB.out)) hb); have n1_ := Aside0.mk (hbox); have n2_ := Aside0.mk ((by rw [hg]; exact (below_size (by repeat (first | (with_reducible first | exact HB.out | apply below_alloc | apply pw_below_drewN | apply below_drew1) | exact HB.out))) : w.heap.size ≤ gb119)); have n3_ := Aside0.mk ((by rw [hg]; exact (below_size (by repeat (first | (with_reducible first | exact HB.out | apply below_alloc | apply pw_below_drewN | apply below_drew1) | exact HB.out))) : w.heap.size ≤ gb119)); clear HB; have HB := n0_; have BK119 := n1_; have GW119 := n2_; have GE119 := n3_; clear n0_ n1_ n2_ n3_; clear hb hbox hg; have hcz9_0 : w8.cell? ⟨gb119, 0, none⟩ = some (.int .i64 a2_0) := (blk_cell BK119.out 0).trans rfl; have hcz9_1 : w8.cell? ⟨gb119, 1, none⟩ = some (.int .i64 a2_1) := (blk_cell BK119.out 1).trans rfl; have hcz9_2 : w8.cell? ⟨gb119, 2, none⟩ = some (.int .i64 a2_2) := (blk_cell BK119.out 2).trans rfl; have hcz9_3 : w8.cell? ⟨gb119, 3, none⟩ = some (.int .i64 a2_3) := (blk_cell BK119.out 3).trans rfl; have hfz9_0 := blk_frozen BK119.out 0; have hfz9_1 := blk_frozen BK119.out 1; have hfz9_2 := blk_frozen BK119.out 2; have hfz9_3 := blk_frozen BK119.out 3) | ((with_reducible refine gate_callee (f := 12) rfl ?_); refine goesL_ (some 17) rfl rfl Try.func12 (by kernel_rfl) rfl #[.string a0, .string a1, .agg #[.int .i64 a2_0, .int .i64 a2_1, .int .i64 a2_2, .int .i64 a2_3]] rfl (by (try simp only [List.map_toArray, List.map_cons, List.map_nil]); first | done | rfl | (simp only [List.length_drop, List.length_take]; rfl)) ?_; (with_reducible refine (edit_Distance.calls a0 a1 a2_0 a2_1 a2_2 a2_3 t120 t121 _ A5.out).mono ?_); rintro e w10 ⟨rfl, hb⟩; refine ⟨_, rfl, ?_⟩; have n0_ := Aside0.mk (blk_below (g := gb119) (o := .cells #[.int .i64 a2_0, .int .i64 a2_1, .int .i64 a2_2, .int .i64 a2_3] 23 (0, 0)) (by (with_reducible repeat (first | refine blk_drewN ?_ _ | refine blk_drew ?_ | refine blk_alloc ?_ _)); exact BK119.out) hb); have n1_ := Aside0.mk (below_step (by repeat (first | (with_reducible first | exact HB.out | apply below_alloc | apply pw_below_drewN | apply below_drew1 | refine below_set ?_ GE119.out) | exact HB.out)) hb); clear BK119; clear HB; have BK119 := n0_; have HB := n1_; clear n0_ n1_; (try clear hb); (try clear hb2); (try clear hk); (try clear hi)))
   go_ret3
   exact ⟨by first | rfl | (simp [errW_none, errW_some] <;> rfl) | (simp [*, errW_none, errW_some] <;> rfl), by repeat (first | (with_reducible first | exact HB.out | apply below_alloc | apply pw_below_drewN | apply below_drew1 | refine below_set ?_ GE119.out) | exact HB.out)⟩
  ·rw [if_neg c7] at H
   have c7b0 : decide (a3 < t120) = false := decide_eq_false c7
   clear c7
   simp only [Option.some.injEq, Prod.mk.injEq] at H
   obtain ⟨rfl, rfl, rfl⟩ := H
   go_enter Try.func19, Try.ntmps19
   go_wp2_with (first | ((with_reducible refine gate_dst (N := 6) rfl ?_); refine box_event ?hg (N := 6) ?hd (cs := #[.int .i64 a2_0, .int .i64 a2_1, .int .i64 a2_2, .int .i64 a2_3]) (t := 23) ?hr ?_; (case hd => rfl); (case hg => rfl); (case hr => first | (go_simp; done) | (go_simp; rfl)); intro gb119 hg w11 hbox hb; have n0_ := Aside0.mk (below_step (by repeat (first | (with_reducible first | exact HB.out | apply below_alloc | apply pw_below_drewN | apply below_drew1) | exact HB.out)) hb); have n1_ := Aside0.mk (hbox); have n2_ := Aside0.mk ((by rw [hg]; exact (below_size (by repeat (first | (with_reducible first | exact HB.out | apply below_alloc | apply pw_below_drewN | apply below_drew1) | exact HB.out))) : w.heap.size ≤ gb119)); have n3_ := Aside0.mk ((by rw [hg]; exact (below_size (by repeat (first | (with_reducible first | exact HB.out | apply below_alloc | apply pw_below_drewN | apply below_drew1) | exact HB.out))) : w.heap.size ≤ gb119)); clear HB; have HB := n0_; have BK119 := n1_; have GW119 := n2_; have GE119 := n3_; clear n0_ n1_ n2_ n3_; clear hb hbox hg; have hcz12_0 : w11.cell? ⟨gb119, 0, none⟩ = some (.int .i64 a2_0) := (blk_cell BK119.out 0).trans rfl; have hcz12_1 : w11.cell? ⟨gb119, 1, none⟩ = some (.int .i64 a2_1) := (blk_cell BK119.out 1).trans rfl; have hcz12_2 : w11.cell? ⟨gb119, 2, none⟩ = some (.int .i64 a2_2) := (blk_cell BK119.out 2).trans rfl; have hcz12_3 : w11.cell? ⟨gb119, 3, none⟩ = some (.int .i64 a2_3) := (blk_cell BK119.out 3).trans rfl; have hfz12_0 := blk_frozen BK119.out 0; have hfz12_1 := blk_frozen BK119.out 1; have hfz12_2 := blk_frozen BK119.out 2; have hfz12_3 := blk_frozen BK119.out 3) | ((with_reducible refine gate_callee (f := 12) rfl ?_); refine goesL_ (some 17) rfl rfl Try.func12 (by kernel_rfl) rfl #[.string a0, .string a1, .agg #[.int .i64 a2_0, .int .i64 a2_1, .int .i64 a2_2, .int .i64 a2_3]] rfl (by (try simp only [List.map_toArray, List.map_cons, List.map_nil]); first | done | rfl | (simp only [List.length_drop, List.length_take]; rfl)) ?_; (with_reducible refine (edit_Distance.calls a0 a1 a2_0 a2_1 a2_2 a2_3 t120 t121 _ A5.out).mono ?_); rintro e w13 ⟨rfl, hb⟩; refine ⟨_, rfl, ?_⟩; have n0_ := Aside0.mk (blk_below (g := gb119) (o := .cells #[.int .i64 a2_0, .int .i64 a2_1, .int .i64 a2_2, .int .i64 a2_3] 23 (0, 0)) (by (with_reducible repeat (first | refine blk_drewN ?_ _ | refine blk_drew ?_ | refine blk_alloc ?_ _)); exact BK119.out) hb); have n1_ := Aside0.mk (below_step (by repeat (first | (with_reducible first | exact HB.out | apply below_alloc | apply pw_below_drewN | apply below_drew1 | refine below_set ?_ GE119.out) | exact HB.out)) hb); clear BK119; clear HB; have BK119 := n0_; have HB := n1_; clear n0_ n1_; (try clear hb); (try clear hb2); (try clear hk); (try clear hi)))
   go_ret3
   exact ⟨by first | rfl | (simp [errW_none, errW_some] <;> rfl) | (simp [*, errW_none, errW_some] <;> rfl), by repeat (first | (with_reducible first | exact HB.out | apply below_alloc | apply pw_below_drewN | apply below_drew1 | refine below_set ?_ GE119.out) | exact HB.out)⟩
 ·rw [if_neg c6] at H
  have c6b0 : (t121 == 0) = false := beq_eq_false_iff_ne.mpr c6
  have c6b1 : (t121 != 0) = true := bne_iff_ne.mpr c6
  simp only [Option.some.injEq, Prod.mk.injEq] at H
  obtain ⟨rfl, rfl, rfl⟩ := H
  go_enter Try.func19, Try.ntmps19
  go_wp2_with (first | ((with_reducible refine gate_dst (N := 6) rfl ?_); refine box_event ?hg (N := 6) ?hd (cs := #[.int .i64 a2_0, .int .i64 a2_1, .int .i64 a2_2, .int .i64 a2_3]) (t := 23) ?hr ?_; (case hd => rfl); (case hg => rfl); (case hr => first | (go_simp; done) | (go_simp; rfl)); intro gb119 hg w14 hbox hb; have n0_ := Aside0.mk (below_step (by repeat (first | (with_reducible first | exact HB.out | apply below_alloc | apply pw_below_drewN | apply below_drew1) | exact HB.out)) hb); have n1_ := Aside0.mk (hbox); have n2_ := Aside0.mk ((by rw [hg]; exact (below_size (by repeat (first | (with_reducible first | exact HB.out | apply below_alloc | apply pw_below_drewN | apply below_drew1) | exact HB.out))) : w.heap.size ≤ gb119)); have n3_ := Aside0.mk ((by rw [hg]; exact (below_size (by repeat (first | (with_reducible first | exact HB.out | apply below_alloc | apply pw_below_drewN | apply below_drew1) | exact HB.out))) : w.heap.size ≤ gb119)); clear HB; have HB := n0_; have BK119 := n1_; have GW119 := n2_; have GE119 := n3_; clear n0_ n1_ n2_ n3_; clear hb hbox hg; have hcz15_0 : w14.cell? ⟨gb119, 0, none⟩ = some (.int .i64 a2_0) := (blk_cell BK119.out 0).trans rfl; have hcz15_1 : w14.cell? ⟨gb119, 1, none⟩ = some (.int .i64 a2_1) := (blk_cell BK119.out 1).trans rfl; have hcz15_2 : w14.cell? ⟨gb119, 2, none⟩ = some (.int .i64 a2_2) := (blk_cell BK119.out 2).trans rfl; have hcz15_3 : w14.cell? ⟨gb119, 3, none⟩ = some (.int .i64 a2_3) := (blk_cell BK119.out 3).trans rfl; have hfz15_0 := blk_frozen BK119.out 0; have hfz15_1 := blk_frozen BK119.out 1; have hfz15_2 := blk_frozen BK119.out 2; have hfz15_3 := blk_frozen BK119.out 3) | ((with_reducible refine gate_callee (f := 12) rfl ?_); refine goesL_ (some 17) rfl rfl Try.func12 (by kernel_rfl) rfl #[.string a0, .string a1, .agg #[.int .i64 a2_0, .int .i64 a2_1, .int .i64 a2_2, .int .i64 a2_3]] rfl (by (try simp only [List.map_toArray, List.map_cons, List.map_nil]); first | done | rfl | (simp only [List.length_drop, List.length_take]; rfl)) ?_; (with_reducible refine (edit_Distance.calls a0 a1 a2_0 a2_1 a2_2 a2_3 t120 t121 _ A5.out).mono ?_); rintro e w16 ⟨rfl, hb⟩; refine ⟨_, rfl, ?_⟩; have n0_ := Aside0.mk (blk_below (g := gb119) (o := .cells #[.int .i64 a2_0, .int .i64 a2_1, .int .i64 a2_2, .int .i64 a2_3] 23 (0, 0)) (by (with_reducible repeat (first | refine blk_drewN ?_ _ | refine blk_drew ?_ | refine blk_alloc ?_ _)); exact BK119.out) hb); have n1_ := Aside0.mk (below_step (by repeat (first | (with_reducible first | exact HB.out | apply below_alloc | apply pw_below_drewN | apply below_drew1 | refine below_set ?_ GE119.out) | exact HB.out)) hb); clear BK119; clear HB; have BK119 := n0_; have HB := n1_; clear n0_ n1_; (try clear hb); (try clear hb2); (try clear hk); (try clear hi)))
  go_ret3
  exact ⟨by first | rfl | (simp [errW_none, errW_some] <;> rfl) | (simp [*, errW_none, errW_some] <;> rfl), by repeat (first | (with_reducible first | exact HB.out | apply below_alloc | apply pw_below_drewN | apply below_drew1 | refine below_set ?_ GE119.out) | exact HB.out)⟩
end Go.Proofs.Ytdefecnngccmoaa.QTells
namespace Go.Proofs.Ytdefecnngccmoaa.QTells
open Go.RowKit Go.Proofs.YtdefecnngccmoaaW.PrintWords Go.Proofs.YtdefecnngccmoaaW.PrintLast Go.Proofs.YtdefecnngccmoaaW.PrintMore
attribute [local go_sem] max2_int min2_int max_two min_two max_three min_three max_four min_four
set_option linter.unusedVariables false
set_option linter.unusedSimpArgs false
open Go.Proofs.Ytdefecnngccmoaa.Ed
def letterbaglaw06_ones.f  : Option (Int × Int × Int × Int) := some (1, 1, 1, 1)
set_option maxHeartbeats 8000000 in
set_option maxRecDepth 100000 in
theorem letterbaglaw06_ones.calls  (r1 : Int) (r2 : Int) (r3 : Int) (r4 : Int) (w : World) (h : letterbaglaw06_ones.f  = some (r1, r2, r3, r4)) :
  Calls Try.prog 15 #[] w fun e w' => e = .returned (.agg #[.int .i64 r1, .int .i64 r2, .int .i64 r3, .int .i64 r4]) ∧ Below w.heap.size w w' := by
 have hu23 := Try.underlying23
 have HB := Aside0.mk (Below.refl w.heap.size w)
 have H : (some (1, 1, 1, 1)) = some (r1, r2, r3, r4) := h
 clear h
 simp only [Option.some.injEq, Prod.mk.injEq] at H
 obtain ⟨rfl, rfl, rfl, rfl⟩ := H
 go_enter Try.func15, Try.ntmps15
 go_wp2_with (first | ((with_reducible refine gate_dst (N := 0) rfl ?_); refine box_event ?hg (N := 0) ?hd (cs := #[.int .i64 0, .int .i64 0, .int .i64 0, .int .i64 0]) (t := 23) ?hr ?_; (case hd => rfl); (case hg => rfl); (case hr => first | (go_simp; done) | (go_simp; rfl)); intro gb101 hg w1 hbox hb; have n0_ := Aside0.mk (below_step (by repeat (first | (with_reducible first | exact HB.out | apply below_alloc | apply pw_below_drewN | apply below_drew1) | exact HB.out)) hb); have n1_ := Aside0.mk (hbox); have n2_ := Aside0.mk ((by rw [hg]; exact (below_size (by repeat (first | (with_reducible first | exact HB.out | apply below_alloc | apply pw_below_drewN | apply below_drew1) | exact HB.out))) : w.heap.size ≤ gb101)); have n3_ := Aside0.mk ((by rw [hg]; exact (below_size (by repeat (first | (with_reducible first | exact HB.out | apply below_alloc | apply pw_below_drewN | apply below_drew1) | exact HB.out))) : w.heap.size ≤ gb101)); clear HB; have HB := n0_; have BK101 := n1_; have GW101 := n2_; have GE101 := n3_; clear n0_ n1_ n2_ n3_; clear hb hbox hg; have hcz2_0 : w1.cell? ⟨gb101, 0, none⟩ = some (.int .i64 0) := (blk_cell BK101.out 0).trans rfl; have hcz2_1 : w1.cell? ⟨gb101, 1, none⟩ = some (.int .i64 0) := (blk_cell BK101.out 1).trans rfl; have hcz2_2 : w1.cell? ⟨gb101, 2, none⟩ = some (.int .i64 0) := (blk_cell BK101.out 2).trans rfl; have hcz2_3 : w1.cell? ⟨gb101, 3, none⟩ = some (.int .i64 0) := (blk_cell BK101.out 3).trans rfl; have hfz2_0 := blk_frozen BK101.out 0; have hfz2_1 := blk_frozen BK101.out 1; have hfz2_2 := blk_frozen BK101.out 2; have hfz2_3 := blk_frozen BK101.out 3))
 refine bodyPost_ret (results_cell_row rfl _ _ gb101 23 #[.int .i64 1, .int .i64 1, .int .i64 1, .int .i64 1] (0, 0) _ rfl (by (with_reducible repeat (first | refine blk_drewN ?_ _ | refine blk_drew ?_ | refine blk_alloc ?_ _)); refine blk_put (cs := #[.int .i64 1, .int .i64 1, .int .i64 1, .int .i64 0]) ?_ 3 _ rfl; (with_reducible repeat (first | refine blk_drewN ?_ _ | refine blk_drew ?_ | refine blk_alloc ?_ _)); refine blk_put (cs := #[.int .i64 1, .int .i64 1, .int .i64 0, .int .i64 0]) ?_ 2 _ rfl; (with_reducible repeat (first | refine blk_drewN ?_ _ | refine blk_drew ?_ | refine blk_alloc ?_ _)); refine blk_put (cs := #[.int .i64 1, .int .i64 0, .int .i64 0, .int .i64 0]) ?_ 1 _ rfl; (with_reducible repeat (first | refine blk_drewN ?_ _ | refine blk_drew ?_ | refine blk_alloc ?_ _)); refine blk_put (cs := #[.int .i64 0, .int .i64 0, .int .i64 0, .int .i64 0]) ?_ 0 _ rfl; (with_reducible repeat (first | refine blk_drewN ?_ _ | refine blk_drew ?_ | refine blk_alloc ?_ _)); exact BK101.out) Try.underlying23 rfl (by kernel_rfl)) rfl ?_
 exact ⟨by first | rfl | (simp [errW_none, errW_some] <;> rfl) | (simp [*, errW_none, errW_some] <;> rfl), by repeat (first | (with_reducible first | exact HB.out | apply below_alloc | apply pw_below_drewN | apply below_drew1 | refine below_set ?_ GE101.out) | exact HB.out)⟩
end Go.Proofs.Ytdefecnngccmoaa.QTells
