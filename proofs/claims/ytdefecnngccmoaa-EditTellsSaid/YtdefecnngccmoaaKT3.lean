/- A part of the texts of one claim: the walk of the code by hand-proved contracts, and the plain law. -/
import Derived.Deep.RegionHeld3
import Derived.Deep.RegionWith
import Derived.BigQuiet
import Derived.Test.YtdefecnngccmoaaKT2
set_option linter.unusedVariables false
set_option linter.unusedSimpArgs false
namespace Go.Proofs.Ytdefecnngccmoaa.Ed
open Go.RowKit Go.Proofs.YtdefecnngccmoaaW.PrintWords QTells
set_option maxRecDepth 1000000 in
set_option maxHeartbeats 40000000 in
theorem QQ (a b : ByteArray) (ha : a.size ≤ 60) (hb : b.size ≤ 60) (c : Lb.Cst) (w : World) (mb g gG i j : Nat) (G : List Int) (vout : Value) (acc : List S38) (hi : (i : Int) ≤ a.size) (hj : (j : Int) ≤ b.size)
    (hno : ∀ W,Box W g c → Calls Try.prog 36 #[.string (a.extract i a.size),.string (b.extract j b.size),.pointer (some ⟨g,0,none⟩)] W (vQ W))
    (K : Act → World → Prop) (Q : Exit → Act → World → Prop) (wr : World) (hP : PR w wr mb g gG c G vout acc) (v2 v3 v4 v5 v6 v7 v8 v9 v10 v13 v14 v19 v20 v21 v22 v23 v24 v25 v26 v27 v28 v29 v30 v31 v32 v33 v34 v35 v36 v37 v38 v39 v40 v41 v42 v43 v44 v45 v46 v47 v48 v49 v50 v51 v52 v53 v54 v55 v56 v57 v58 v59 v60 v61 v62 v63 v64 v65 v66 v67 v68 v69 v70 v71 v72 v73 v74 v75 v76 v77 v78 v79 v80 v81 v82 v83 v84 v85 v86 v87 v88 v89 v90 v91 v92 v93 v94 v95 v96 v97 v98 v99 v100 v101 v102 v103 v104 v105 v106 v107 v108 v109 v110 v111 v112 v113 v114 v115 v116 v117 v118 v119 v120 v121 v122 v123 v124 : Value)
    (hK : ∀ (u19 u20 u70 u71 u72 u73 u74 u75 u76 u77 u78 u79 u80 u81 u82 u83 u84 u85 u86 u87 u88 u89 u90 u91 u92 u93 u94 u95 u96 u97 u98 u99 u100 u101 u102 u103 u104 u105 u106 u107 u108 u109 u110 u111 u112 u113 u114 u115 u116 u117 u118 u119 u120 u121 u122 : Value) (W : World),PR w W mb g gG c G vout acc → K ⟨#[.string a,.string b,v2,v3,v4,v5,v6,v7,v8,v9,v10,.map (some mb),.pointer (some ⟨gG,0,none⟩),v13,v14,vout,.int .i64 (i : Int),.int .i64 (j : Int),.int .u8 3,u19,u20,v21,v22,v23,v24,v25,v26,v27,v28,v29,v30,v31,v32,v33,v34,v35,v36,v37,v38,v39,v40,v41,v42,v43,v44,v45,v46,v47,v48,v49,v50,v51,v52,v53,v54,v55,v56,v57,v58,v59,v60,v61,v62,v63,v64,v65,v66,v67,v68,v69,u70,u71,u72,u73,u74,u75,u76,u77,u78,u79,u80,u81,u82,u83,u84,u85,u86,u87,u88,u89,u90,u91,u92,u93,u94,u95,u96,u97,u98,u99,u100,u101,u102,u103,u104,u105,u106,u107,u108,u109,u110,u111,u112,u113,u114,u115,u116,u117,u118,u119,u120,u121,u122,v123,v124],[]⟩ W) :
    (zw Try.f14 3).wp Try.prog (Exit.then K Q) ⟨#[.string a,.string b,v2,v3,v4,v5,v6,v7,v8,v9,v10,.map (some mb),.pointer (some ⟨gG,0,none⟩),v13,v14,vout,.int .i64 (i : Int),.int .i64 (j : Int),.int .u8 2,v19,v20,v21,v22,v23,v24,v25,v26,v27,v28,v29,v30,v31,v32,v33,v34,v35,v36,v37,v38,v39,v40,v41,v42,v43,v44,v45,v46,v47,v48,v49,v50,v51,v52,v53,v54,v55,v56,v57,v58,v59,v60,v61,v62,v63,v64,v65,v66,v67,v68,v69,v70,v71,v72,v73,v74,v75,v76,v77,v78,v79,v80,v81,v82,v83,v84,v85,v86,v87,v88,v89,v90,v91,v92,v93,v94,v95,v96,v97,v98,v99,v100,v101,v102,v103,v104,v105,v106,v107,v108,v109,v110,v111,v112,v113,v114,v115,v116,v117,v118,v119,v120,v121,v122,v123,v124],[]⟩ wr:=by
  have HK:=Lib.hid hK
  clear hK
  have l1:=(qX hP.drew.p.fits).2.1
  have l2:=(qX (hP.alloc (.cells #[.int .i64 0,.int .i64 0,.int .i64 0,.int .u8 0,.int .u8 0] 73)).drew.p.fits).2.1
  have b1:=Lib.hid hP.drew.p.fits.2
  have b2:=Lib.hid (hP.alloc (.cells #[.int .i64 0,.int .i64 0,.int .i64 0,.int .u8 0,.int .u8 0] 73)).drew.p.fits.2
  conv => arg 2;whnf
  go_wp2
  refine wp_region_noPanic ?_
  go_region_with (go_at_call 36;first|(refine (hno _ b1.out).mono ?_;rintro e W1 ⟨p1_,p2_,p3_,p4_,p5_,rfl,hb1⟩;have hQ:=hP.drew.keep hb1;try dsimp only [jl])|(refine (hno _ b2.out).mono ?_;rintro e W1 ⟨p1_,p2_,p3_,p4_,p5_,rfl,hb1⟩;have hQ:=(hP.alloc (.cells #[.int .i64 0,.int .i64 0,.int .i64 0,.int .u8 0,.int .u8 0] 73)).drew.keep hb1;have hz:=(hb1.block wr.heap.size (by simp)).trans (jc wr (.cells #[.int .i64 0,.int .i64 0,.int .i64 0,.int .u8 0,.int .u8 0] 73));have y0_:=(qi hz 0).trans rfl;have y1_:=(qi hz 1).trans rfl;have y2_:=(qi hz 2).trans rfl;have y3_:=(qi hz 3).trans rfl;have y4_:=(qi hz 4).trans rfl;have f0_:=ql hz 0;have f1_:=ql hz 1;have f2_:=ql hz 2;have f3_:=ql hz 3;have f4_:=ql hz 4;try dsimp only [jl]))
  all_goals refine NoPanic.normal ?_
  all_goals go_simp
  all_goals
    first
    | (have hR:=hQ.alloc (.cells #[.int .i64 p1_,.int .i64 p2_,.int .i64 p3_,.int .u8 p4_,.int .u8 p5_] 73)
       have hS : SBox (W1.alloc (.cells #[.int .i64 p1_,.int .i64 p2_,.int .i64 p3_,.int .u8 p4_,.int .u8 p5_] 73)) W1.heap.size p1_ p2_ p3_ p4_ p5_:=jc _ _
       clear hQ hb1 l1 l2 b1 b2
       revert hR hS
       generalize W1.alloc (.cells #[.int .i64 p1_,.int .i64 p2_,.int .i64 p3_,.int .u8 p4_,.int .u8 p5_] 73) = W2
       generalize W1.heap.size = gb
       fail_if_success (have:=hz)
       intro hR hS)
    | (obtain ⟨hR,hS⟩:=hQ.put5 hz hP.p.below.size p1_ p2_ p3_ p4_ p5_
       clear y0_ y1_ y2_ y3_ y4_ f0_ f1_ f2_ f3_ f4_ hz hQ hb1 l1 l2 b1 b2
       revert hR hS
       generalize ((((W1.setCell ⟨wr.heap.size,0,none⟩ (.int .i64 p1_)).setCell ⟨wr.heap.size,1,none⟩ (.int .i64 p2_)).setCell ⟨wr.heap.size,2,none⟩ (.int .i64 p3_)).setCell ⟨wr.heap.size,3,none⟩ (.int .u8 p4_)).setCell ⟨wr.heap.size,4,none⟩ (.int .u8 p5_) = W2
       generalize wr.heap.size = gb
       intro hR hS)
  all_goals
    go_wp2
    go_quiet (fail)
    go_wp2
    exact HK.out _ _ _ _ _ _ _ _ _ _ _ _ _ _ _ _ _ _ _ _ _ _ _ _ _ _ _ _ _ _ _ _ _ _ _ _ _ _ _ _ _ _ _ _ _ _ _ _ _ _ _ _ _ _ _ _ (hR.drewN _)
end Go.Proofs.Ytdefecnngccmoaa.Ed
namespace Go.Proofs.Ytdefecnngccmoaa.Ed
open Go.RowKit Go.Proofs.YtdefecnngccmoaaW.PrintWords QTells
set_option maxRecDepth 1000000 in
set_option maxHeartbeats 40000000 in
theorem yK (a b : ByteArray) (ha : a.size ≤ 60) (hb : b.size ≤ 60) (c : Lb.Cst) (w : World) (mb g gG i j : Nat) (G : List Int) (vout : Value) (acc : List S38) (hi : (i : Int) ≤ a.size) (hj : (j : Int) ≤ b.size)
    (hno : ∀ W,Box W g c → Calls Try.prog 37 #[.string (a.extract i a.size),.string (b.extract j b.size),.pointer (some ⟨g,0,none⟩)] W (vQ W))
    (K : Act → World → Prop) (Q : Exit → Act → World → Prop) (wr : World) (hP : PR w wr mb g gG c G vout acc) (v2 v3 v4 v5 v6 v7 v8 v9 v10 v13 v14 v19 v20 v21 v22 v23 v24 v25 v26 v27 v28 v29 v30 v31 v32 v33 v34 v35 v36 v37 v38 v39 v40 v41 v42 v43 v44 v45 v46 v47 v48 v49 v50 v51 v52 v53 v54 v55 v56 v57 v58 v59 v60 v61 v62 v63 v64 v65 v66 v67 v68 v69 v70 v71 v72 v73 v74 v75 v76 v77 v78 v79 v80 v81 v82 v83 v84 v85 v86 v87 v88 v89 v90 v91 v92 v93 v94 v95 v96 v97 v98 v99 v100 v101 v102 v103 v104 v105 v106 v107 v108 v109 v110 v111 v112 v113 v114 v115 v116 v117 v118 v119 v120 v121 v122 v123 v124 : Value)
    (hK : ∀ (u19 u20 u70 u71 u72 u73 u74 u75 u76 u77 u78 u79 u80 u81 u82 u83 u84 u85 u86 u87 u88 u89 u90 u91 u92 u93 u94 u95 u96 u97 u98 u99 u100 u101 u102 u103 u104 u105 u106 u107 u108 u109 u110 u111 u112 u113 u114 u115 u116 u117 u118 u119 u120 u121 u122 : Value) (W : World),PR w W mb g gG c G vout acc → K ⟨#[.string a,.string b,v2,v3,v4,v5,v6,v7,v8,v9,v10,.map (some mb),.pointer (some ⟨gG,0,none⟩),v13,v14,vout,.int .i64 (i : Int),.int .i64 (j : Int),.int .u8 4,u19,u20,v21,v22,v23,v24,v25,v26,v27,v28,v29,v30,v31,v32,v33,v34,v35,v36,v37,v38,v39,v40,v41,v42,v43,v44,v45,v46,v47,v48,v49,v50,v51,v52,v53,v54,v55,v56,v57,v58,v59,v60,v61,v62,v63,v64,v65,v66,v67,v68,v69,u70,u71,u72,u73,u74,u75,u76,u77,u78,u79,u80,u81,u82,u83,u84,u85,u86,u87,u88,u89,u90,u91,u92,u93,u94,u95,u96,u97,u98,u99,u100,u101,u102,u103,u104,u105,u106,u107,u108,u109,u110,u111,u112,u113,u114,u115,u116,u117,u118,u119,u120,u121,u122,v123,v124],[]⟩ W) :
    (zw Try.f14 3).wp Try.prog (Exit.then K Q) ⟨#[.string a,.string b,v2,v3,v4,v5,v6,v7,v8,v9,v10,.map (some mb),.pointer (some ⟨gG,0,none⟩),v13,v14,vout,.int .i64 (i : Int),.int .i64 (j : Int),.int .u8 3,v19,v20,v21,v22,v23,v24,v25,v26,v27,v28,v29,v30,v31,v32,v33,v34,v35,v36,v37,v38,v39,v40,v41,v42,v43,v44,v45,v46,v47,v48,v49,v50,v51,v52,v53,v54,v55,v56,v57,v58,v59,v60,v61,v62,v63,v64,v65,v66,v67,v68,v69,v70,v71,v72,v73,v74,v75,v76,v77,v78,v79,v80,v81,v82,v83,v84,v85,v86,v87,v88,v89,v90,v91,v92,v93,v94,v95,v96,v97,v98,v99,v100,v101,v102,v103,v104,v105,v106,v107,v108,v109,v110,v111,v112,v113,v114,v115,v116,v117,v118,v119,v120,v121,v122,v123,v124],[]⟩ wr:=by
  have HK:=Lib.hid hK
  clear hK
  have l1:=(qX hP.drew.p.fits).2.2.1
  have l2:=(qX (hP.alloc (.cells #[.int .i64 0,.int .i64 0,.int .i64 0,.int .u8 0,.int .u8 0] 73)).drew.p.fits).2.2.1
  have b1:=Lib.hid hP.drew.p.fits.2
  have b2:=Lib.hid (hP.alloc (.cells #[.int .i64 0,.int .i64 0,.int .i64 0,.int .u8 0,.int .u8 0] 73)).drew.p.fits.2
  conv => arg 2;whnf
  go_wp2
  refine wp_region_noPanic ?_
  go_region_with (go_at_call 37;first|(refine (hno _ b1.out).mono ?_;rintro e W1 ⟨p1_,p2_,p3_,p4_,p5_,rfl,hb1⟩;have hQ:=hP.drew.keep hb1;try dsimp only [jl])|(refine (hno _ b2.out).mono ?_;rintro e W1 ⟨p1_,p2_,p3_,p4_,p5_,rfl,hb1⟩;have hQ:=(hP.alloc (.cells #[.int .i64 0,.int .i64 0,.int .i64 0,.int .u8 0,.int .u8 0] 73)).drew.keep hb1;have hz:=(hb1.block wr.heap.size (by simp)).trans (jc wr (.cells #[.int .i64 0,.int .i64 0,.int .i64 0,.int .u8 0,.int .u8 0] 73));have y0_:=(qi hz 0).trans rfl;have y1_:=(qi hz 1).trans rfl;have y2_:=(qi hz 2).trans rfl;have y3_:=(qi hz 3).trans rfl;have y4_:=(qi hz 4).trans rfl;have f0_:=ql hz 0;have f1_:=ql hz 1;have f2_:=ql hz 2;have f3_:=ql hz 3;have f4_:=ql hz 4;try dsimp only [jl]))
  all_goals refine NoPanic.normal ?_
  all_goals go_simp
  all_goals
    first
    | (have hR:=hQ.alloc (.cells #[.int .i64 p1_,.int .i64 p2_,.int .i64 p3_,.int .u8 p4_,.int .u8 p5_] 73)
       have hS : SBox (W1.alloc (.cells #[.int .i64 p1_,.int .i64 p2_,.int .i64 p3_,.int .u8 p4_,.int .u8 p5_] 73)) W1.heap.size p1_ p2_ p3_ p4_ p5_:=jc _ _
       clear hQ hb1 l1 l2 b1 b2
       revert hR hS
       generalize W1.alloc (.cells #[.int .i64 p1_,.int .i64 p2_,.int .i64 p3_,.int .u8 p4_,.int .u8 p5_] 73) = W2
       generalize W1.heap.size = gb
       fail_if_success (have:=hz)
       intro hR hS)
    | (obtain ⟨hR,hS⟩:=hQ.put5 hz hP.p.below.size p1_ p2_ p3_ p4_ p5_
       clear y0_ y1_ y2_ y3_ y4_ f0_ f1_ f2_ f3_ f4_ hz hQ hb1 l1 l2 b1 b2
       revert hR hS
       generalize ((((W1.setCell ⟨wr.heap.size,0,none⟩ (.int .i64 p1_)).setCell ⟨wr.heap.size,1,none⟩ (.int .i64 p2_)).setCell ⟨wr.heap.size,2,none⟩ (.int .i64 p3_)).setCell ⟨wr.heap.size,3,none⟩ (.int .u8 p4_)).setCell ⟨wr.heap.size,4,none⟩ (.int .u8 p5_) = W2
       generalize wr.heap.size = gb
       intro hR hS)
  all_goals
    go_wp2
    go_quiet (fail)
    go_wp2
    exact HK.out _ _ _ _ _ _ _ _ _ _ _ _ _ _ _ _ _ _ _ _ _ _ _ _ _ _ _ _ _ _ _ _ _ _ _ _ _ _ _ _ _ _ _ _ _ _ _ _ _ _ _ _ _ _ _ _ (hR.drewN _)
end Go.Proofs.Ytdefecnngccmoaa.Ed
namespace Go.Proofs.Ytdefecnngccmoaa.Ed
open Go.RowKit Go.Proofs.YtdefecnngccmoaaW.PrintWords QTells
set_option maxRecDepth 1000000 in
set_option maxHeartbeats 40000000 in
theorem Vd (a b : ByteArray) (ha : a.size ≤ 60) (hb : b.size ≤ 60) (c : Lb.Cst) (w : World) (mb g gG i j : Nat) (G : List Int) (vout : Value) (acc : List S38) (hi : (i : Int) ≤ a.size) (hj : (j : Int) ≤ b.size)
    (hno : ∀ W,Box W g c → Calls Try.prog 38 #[.string (a.extract i a.size),.string (b.extract j b.size),.pointer (some ⟨g,0,none⟩)] W (vQ W))
    (K : Act → World → Prop) (Q : Exit → Act → World → Prop) (wr : World) (hP : PR w wr mb g gG c G vout acc) (v2 v3 v4 v5 v6 v7 v8 v9 v10 v13 v14 v19 v20 v21 v22 v23 v24 v25 v26 v27 v28 v29 v30 v31 v32 v33 v34 v35 v36 v37 v38 v39 v40 v41 v42 v43 v44 v45 v46 v47 v48 v49 v50 v51 v52 v53 v54 v55 v56 v57 v58 v59 v60 v61 v62 v63 v64 v65 v66 v67 v68 v69 v70 v71 v72 v73 v74 v75 v76 v77 v78 v79 v80 v81 v82 v83 v84 v85 v86 v87 v88 v89 v90 v91 v92 v93 v94 v95 v96 v97 v98 v99 v100 v101 v102 v103 v104 v105 v106 v107 v108 v109 v110 v111 v112 v113 v114 v115 v116 v117 v118 v119 v120 v121 v122 v123 v124 : Value)
    (hK : ∀ (u19 u20 u70 u71 u72 u73 u74 u75 u76 u77 u78 u79 u80 u81 u82 u83 u84 u85 u86 u87 u88 u89 u90 u91 u92 u93 u94 u95 u96 u97 u98 u99 u100 u101 u102 u103 u104 u105 u106 u107 u108 u109 u110 u111 u112 u113 u114 u115 u116 u117 u118 u119 u120 u121 u122 : Value) (W : World),PR w W mb g gG c G vout acc → K ⟨#[.string a,.string b,v2,v3,v4,v5,v6,v7,v8,v9,v10,.map (some mb),.pointer (some ⟨gG,0,none⟩),v13,v14,vout,.int .i64 (i : Int),.int .i64 (j : Int),.int .u8 5,u19,u20,v21,v22,v23,v24,v25,v26,v27,v28,v29,v30,v31,v32,v33,v34,v35,v36,v37,v38,v39,v40,v41,v42,v43,v44,v45,v46,v47,v48,v49,v50,v51,v52,v53,v54,v55,v56,v57,v58,v59,v60,v61,v62,v63,v64,v65,v66,v67,v68,v69,u70,u71,u72,u73,u74,u75,u76,u77,u78,u79,u80,u81,u82,u83,u84,u85,u86,u87,u88,u89,u90,u91,u92,u93,u94,u95,u96,u97,u98,u99,u100,u101,u102,u103,u104,u105,u106,u107,u108,u109,u110,u111,u112,u113,u114,u115,u116,u117,u118,u119,u120,u121,u122,v123,v124],[]⟩ W) :
    (zw Try.f14 3).wp Try.prog (Exit.then K Q) ⟨#[.string a,.string b,v2,v3,v4,v5,v6,v7,v8,v9,v10,.map (some mb),.pointer (some ⟨gG,0,none⟩),v13,v14,vout,.int .i64 (i : Int),.int .i64 (j : Int),.int .u8 4,v19,v20,v21,v22,v23,v24,v25,v26,v27,v28,v29,v30,v31,v32,v33,v34,v35,v36,v37,v38,v39,v40,v41,v42,v43,v44,v45,v46,v47,v48,v49,v50,v51,v52,v53,v54,v55,v56,v57,v58,v59,v60,v61,v62,v63,v64,v65,v66,v67,v68,v69,v70,v71,v72,v73,v74,v75,v76,v77,v78,v79,v80,v81,v82,v83,v84,v85,v86,v87,v88,v89,v90,v91,v92,v93,v94,v95,v96,v97,v98,v99,v100,v101,v102,v103,v104,v105,v106,v107,v108,v109,v110,v111,v112,v113,v114,v115,v116,v117,v118,v119,v120,v121,v122,v123,v124],[]⟩ wr:=by
  have HK:=Lib.hid hK
  clear hK
  have l1:=(qX hP.drew.p.fits).2.2.2.1
  have l2:=(qX (hP.alloc (.cells #[.int .i64 0,.int .i64 0,.int .i64 0,.int .u8 0,.int .u8 0] 73)).drew.p.fits).2.2.2.1
  have b1:=Lib.hid hP.drew.p.fits.2
  have b2:=Lib.hid (hP.alloc (.cells #[.int .i64 0,.int .i64 0,.int .i64 0,.int .u8 0,.int .u8 0] 73)).drew.p.fits.2
  conv => arg 2;whnf
  go_wp2
  refine wp_region_noPanic ?_
  go_region_with (go_at_call 38;first|(refine (hno _ b1.out).mono ?_;rintro e W1 ⟨p1_,p2_,p3_,p4_,p5_,rfl,hb1⟩;have hQ:=hP.drew.keep hb1;try dsimp only [jl])|(refine (hno _ b2.out).mono ?_;rintro e W1 ⟨p1_,p2_,p3_,p4_,p5_,rfl,hb1⟩;have hQ:=(hP.alloc (.cells #[.int .i64 0,.int .i64 0,.int .i64 0,.int .u8 0,.int .u8 0] 73)).drew.keep hb1;have hz:=(hb1.block wr.heap.size (by simp)).trans (jc wr (.cells #[.int .i64 0,.int .i64 0,.int .i64 0,.int .u8 0,.int .u8 0] 73));have y0_:=(qi hz 0).trans rfl;have y1_:=(qi hz 1).trans rfl;have y2_:=(qi hz 2).trans rfl;have y3_:=(qi hz 3).trans rfl;have y4_:=(qi hz 4).trans rfl;have f0_:=ql hz 0;have f1_:=ql hz 1;have f2_:=ql hz 2;have f3_:=ql hz 3;have f4_:=ql hz 4;try dsimp only [jl]))
  all_goals refine NoPanic.normal ?_
  all_goals go_simp
  all_goals
    first
    | (have hR:=hQ.alloc (.cells #[.int .i64 p1_,.int .i64 p2_,.int .i64 p3_,.int .u8 p4_,.int .u8 p5_] 73)
       have hS : SBox (W1.alloc (.cells #[.int .i64 p1_,.int .i64 p2_,.int .i64 p3_,.int .u8 p4_,.int .u8 p5_] 73)) W1.heap.size p1_ p2_ p3_ p4_ p5_:=jc _ _
       clear hQ hb1 l1 l2 b1 b2
       revert hR hS
       generalize W1.alloc (.cells #[.int .i64 p1_,.int .i64 p2_,.int .i64 p3_,.int .u8 p4_,.int .u8 p5_] 73) = W2
       generalize W1.heap.size = gb
       fail_if_success (have:=hz)
       intro hR hS)
    | (obtain ⟨hR,hS⟩:=hQ.put5 hz hP.p.below.size p1_ p2_ p3_ p4_ p5_
       clear y0_ y1_ y2_ y3_ y4_ f0_ f1_ f2_ f3_ f4_ hz hQ hb1 l1 l2 b1 b2
       revert hR hS
       generalize ((((W1.setCell ⟨wr.heap.size,0,none⟩ (.int .i64 p1_)).setCell ⟨wr.heap.size,1,none⟩ (.int .i64 p2_)).setCell ⟨wr.heap.size,2,none⟩ (.int .i64 p3_)).setCell ⟨wr.heap.size,3,none⟩ (.int .u8 p4_)).setCell ⟨wr.heap.size,4,none⟩ (.int .u8 p5_) = W2
       generalize wr.heap.size = gb
       intro hR hS)
  all_goals
    go_wp2
    go_quiet (fail)
    go_wp2
    exact HK.out _ _ _ _ _ _ _ _ _ _ _ _ _ _ _ _ _ _ _ _ _ _ _ _ _ _ _ _ _ _ _ _ _ _ _ _ _ _ _ _ _ _ _ _ _ _ _ _ _ _ _ _ _ _ _ _ (hR.drewN _)
end Go.Proofs.Ytdefecnngccmoaa.Ed
namespace Go.Proofs.Ytdefecnngccmoaa.Ed
open Go.RowKit Go.Proofs.YtdefecnngccmoaaW.PrintWords QTells
set_option maxRecDepth 1000000 in
set_option maxHeartbeats 40000000 in
theorem X6 (a b : ByteArray) (ha : a.size ≤ 60) (hb : b.size ≤ 60) (c : Lb.Cst) (w : World) (mb g gG i j : Nat) (G : List Int) (vout : Value) (acc : List S38) (hi : (i : Int) ≤ a.size) (hj : (j : Int) ≤ b.size)
    (nn kk bb D1 D2 : Int) (hyes : ∀ W,Box W g c → Calls Try.prog 35 #[.string (a.extract i a.size),.string (b.extract j b.size)] W (zf 1 1 nn kk bb true W)) (hx : i + 1 ≤ 60) (hy : j + 1 ≤ 60) (h1 : G.getD ((i + 1) * 61 + (j + 1)) 0 = D1) (h2 : G.getD (i * 61 + j) 0 = D2) (d1 : 0 ≤ D1) (d2 : D1 ≤ 120000) (n1 : 0 ≤ nn) (n2 : nn ≤ 1000) (hd : (nn + D1 == D2) = false)
    (K : Act → World → Prop) (Q : Exit → Act → World → Prop) (wr : World) (hP : PR w wr mb g gG c G vout acc) (v2 v3 v4 v5 v6 v7 v8 v9 v10 v13 v14 v19 v20 v21 v22 v23 v24 v25 v26 v27 v28 v29 v30 v31 v32 v33 v34 v35 v36 v37 v38 v39 v40 v41 v42 v43 v44 v45 v46 v47 v48 v49 v50 v51 v52 v53 v54 v55 v56 v57 v58 v59 v60 v61 v62 v63 v64 v65 v66 v67 v68 v69 v70 v71 v72 v73 v74 v75 v76 v77 v78 v79 v80 v81 v82 v83 v84 v85 v86 v87 v88 v89 v90 v91 v92 v93 v94 v95 v96 v97 v98 v99 v100 v101 v102 v103 v104 v105 v106 v107 v108 v109 v110 v111 v112 v113 v114 v115 v116 v117 v118 v119 v120 v121 v122 v123 v124 : Value)
    (hK : ∀ (u19 u20 u70 u71 u72 u73 u74 u75 u76 u77 u78 u79 u80 u81 u82 u83 u84 u85 u86 u87 u88 u89 u90 u91 u92 u93 u94 u95 u96 u97 u98 u99 u100 u101 u102 u103 u104 u105 u106 u107 u108 u109 u110 u111 u112 u113 u114 u115 u116 u117 u118 u119 u120 u121 u122 : Value) (W : World),PR w W mb g gG c G vout acc → K ⟨#[.string a,.string b,v2,v3,v4,v5,v6,v7,v8,v9,v10,.map (some mb),.pointer (some ⟨gG,0,none⟩),v13,v14,vout,.int .i64 (i : Int),.int .i64 (j : Int),.int .u8 2,u19,u20,v21,v22,v23,v24,v25,v26,v27,v28,v29,v30,v31,v32,v33,v34,v35,v36,v37,v38,v39,v40,v41,v42,v43,v44,v45,v46,v47,v48,v49,v50,v51,v52,v53,v54,v55,v56,v57,v58,v59,v60,v61,v62,v63,v64,v65,v66,v67,v68,v69,u70,u71,u72,u73,u74,u75,u76,u77,u78,u79,u80,u81,u82,u83,u84,u85,u86,u87,u88,u89,u90,u91,u92,u93,u94,u95,u96,u97,u98,u99,u100,u101,u102,u103,u104,u105,u106,u107,u108,u109,u110,u111,u112,u113,u114,u115,u116,u117,u118,u119,u120,u121,u122,v123,v124],[]⟩ W) :
    (zw Try.f14 3).wp Try.prog (Exit.then K Q) ⟨#[.string a,.string b,v2,v3,v4,v5,v6,v7,v8,v9,v10,.map (some mb),.pointer (some ⟨gG,0,none⟩),v13,v14,vout,.int .i64 (i : Int),.int .i64 (j : Int),.int .u8 1,v19,v20,v21,v22,v23,v24,v25,v26,v27,v28,v29,v30,v31,v32,v33,v34,v35,v36,v37,v38,v39,v40,v41,v42,v43,v44,v45,v46,v47,v48,v49,v50,v51,v52,v53,v54,v55,v56,v57,v58,v59,v60,v61,v62,v63,v64,v65,v66,v67,v68,v69,v70,v71,v72,v73,v74,v75,v76,v77,v78,v79,v80,v81,v82,v83,v84,v85,v86,v87,v88,v89,v90,v91,v92,v93,v94,v95,v96,v97,v98,v99,v100,v101,v102,v103,v104,v105,v106,v107,v108,v109,v110,v111,v112,v113,v114,v115,v116,v117,v118,v119,v120,v121,v122,v123,v124],[]⟩ wr:=by
  have HK:=Lib.hid hK
  clear hK
  have H1:=Lib.hid h1
  have H2:=Lib.hid h2
  clear h1 h2
  have l1:=(qX hP.drew.p.fits).1
  have l2:=(qX (hP.alloc (.cells #[.int .i64 0,.int .i64 0,.int .i64 0,.int .u8 0,.int .u8 0] 73)).drew.p.fits).1
  have b1:=Lib.hid hP.drew.p.fits.2
  have b2:=Lib.hid (hP.alloc (.cells #[.int .i64 0,.int .i64 0,.int .i64 0,.int .u8 0,.int .u8 0] 73)).drew.p.fits.2
  conv => arg 2;whnf
  go_wp2
  refine wp_region_noPanic ?_
  go_region_with (go_at_call 35;first|(refine (hyes _ b1.out).mono ?_;rintro e W1 ⟨rfl,hb1⟩;have hQ:=hP.drew.keep hb1;try dsimp only [jl])|(refine (hyes _ b2.out).mono ?_;rintro e W1 ⟨rfl,hb1⟩;have hQ:=(hP.alloc (.cells #[.int .i64 0,.int .i64 0,.int .i64 0,.int .u8 0,.int .u8 0] 73)).drew.keep hb1;have hz:=(hb1.block wr.heap.size (by simp)).trans (jc wr (.cells #[.int .i64 0,.int .i64 0,.int .i64 0,.int .u8 0,.int .u8 0] 73));have y0_:=(qi hz 0).trans rfl;have y1_:=(qi hz 1).trans rfl;have y2_:=(qi hz 2).trans rfl;have y3_:=(qi hz 3).trans rfl;have y4_:=(qi hz 4).trans rfl;have f0_:=ql hz 0;have f1_:=ql hz 1;have f2_:=ql hz 2;have f3_:=ql hz 3;have f4_:=ql hz 4;try dsimp only [jl]))
  all_goals refine NoPanic.normal ?_
  all_goals go_simp
  all_goals
    first
    | (have hR:=hQ.alloc (.cells #[.int .i64 1,.int .i64 1,.int .i64 nn,.int .u8 kk,.int .u8 bb] 73)
       have hS : SBox (W1.alloc (.cells #[.int .i64 1,.int .i64 1,.int .i64 nn,.int .u8 kk,.int .u8 bb] 73)) W1.heap.size 1 1 nn kk bb:=jc _ _
       clear hQ hb1 l1 l2 b1 b2
       revert hR hS
       generalize W1.alloc (.cells #[.int .i64 1,.int .i64 1,.int .i64 nn,.int .u8 kk,.int .u8 bb] 73) = W2
       generalize W1.heap.size = gb
       fail_if_success (have:=hz)
       intro hR hS)
    | (obtain ⟨hR,hS⟩:=hQ.put5 hz hP.p.below.size 1 1 nn kk bb
       clear y0_ y1_ y2_ y3_ y4_ f0_ f1_ f2_ f3_ f4_ hz hQ hb1 l1 l2 b1 b2
       revert hR hS
       generalize ((((W1.setCell ⟨wr.heap.size,0,none⟩ (.int .i64 1)).setCell ⟨wr.heap.size,1,none⟩ (.int .i64 1)).setCell ⟨wr.heap.size,2,none⟩ (.int .i64 nn)).setCell ⟨wr.heap.size,3,none⟩ (.int .u8 kk)).setCell ⟨wr.heap.size,4,none⟩ (.int .u8 bb) = W2
       generalize wr.heap.size = gb
       intro hR hS)
  all_goals
    obtain ⟨y0,y1,y2,y3,y4⟩:=hS.cells
    have g1:=(hR.p.at_ ((i + 1) * 61 + (j + 1)) (by omega)).trans (by rw [H1.out])
    have g2:=(hR.p.at_ (i * 61 + j) (by omega)).trans (by rw [H2.out])
    have w1_ : IntKind.i64.wrap ((i : Int) + 1) = (i : Int) + 1:=IntWalk.i64_in _ (by omega)
    have w2_ : IntKind.i64.wrap ((j : Int) + 1) = (j : Int) + 1:=IntWalk.i64_in _ (by omega)
    have w3_ : ((i : Int) + 1).toNat = i + 1:=by omega
    have w4_ : ((j : Int) + 1).toNat = j + 1:=by omega
    have w5_ : (i : Int) + 1 < 61:=by omega
    have w6_ : (j : Int) + 1 < 61:=by omega
    have w7_ : 0 ≤ (i : Int) + 1:=by omega
    have w8_ : 0 ≤ (j : Int) + 1:=by omega
    have w9_ : IntKind.i64.wrap (nn + D1) = nn + D1:=IntWalk.i64_in _ (by omega)
    have wa_ : (i : Int) < 61:=by omega
    have wb_ : (j : Int) < 61:=by omega
    go_wp2
    go_quiet (fail)
    clear w1_ w2_ w3_ w4_ w5_ w6_ w7_ w8_ w9_ wa_ wb_
    go_wp2
    exact HK.out _ _ _ _ _ _ _ _ _ _ _ _ _ _ _ _ _ _ _ _ _ _ _ _ _ _ _ _ _ _ _ _ _ _ _ _ _ _ _ _ _ _ _ _ _ _ _ _ _ _ _ _ _ _ _ _ (hR.drewN _)
end Go.Proofs.Ytdefecnngccmoaa.Ed
namespace Go.Proofs.Ytdefecnngccmoaa.Ed
open Go.RowKit Go.Proofs.YtdefecnngccmoaaW.PrintWords QTells
set_option maxRecDepth 1000000 in
set_option maxHeartbeats 40000000 in
theorem XI (a b : ByteArray) (ha : a.size ≤ 60) (hb : b.size ≤ 60) (c : Lb.Cst) (w : World) (mb g gG i j : Nat) (G : List Int) (vout : Value) (acc : List S38) (hi : (i : Int) ≤ a.size) (hj : (j : Int) ≤ b.size)
    (nn kk bb D1 D2 : Int) (hyes : ∀ W,Box W g c → Calls Try.prog 35 #[.string (a.extract i a.size),.string (b.extract j b.size)] W (zf 1 1 nn kk bb true W)) (hx : i + 1 ≤ 60) (hy : j + 1 ≤ 60) (h1 : G.getD ((i + 1) * 61 + (j + 1)) 0 = D1) (h2 : G.getD (i * 61 + j) 0 = D2) (d1 : 0 ≤ D1) (d2 : D1 ≤ 120000) (n1 : 0 ≤ nn) (n2 : nn ≤ 1000) (hd : (nn + D1 == D2) = true) (hn : acc.length ≤ 1000)
    (K : Act → World → Prop) (Q : Exit → Act → World → Prop) (wr : World) (hP : PR w wr mb g gG c G vout acc) (v2 v3 v4 v5 v6 v7 v8 v9 v10 v13 v14 v19 v20 v21 v22 v23 v24 v25 v26 v27 v28 v29 v30 v31 v32 v33 v34 v35 v36 v37 v38 v39 v40 v41 v42 v43 v44 v45 v46 v47 v48 v49 v50 v51 v52 v53 v54 v55 v56 v57 v58 v59 v60 v61 v62 v63 v64 v65 v66 v67 v68 v69 v70 v71 v72 v73 v74 v75 v76 v77 v78 v79 v80 v81 v82 v83 v84 v85 v86 v87 v88 v89 v90 v91 v92 v93 v94 v95 v96 v97 v98 v99 v100 v101 v102 v103 v104 v105 v106 v107 v108 v109 v110 v111 v112 v113 v114 v115 v116 v117 v118 v119 v120 v121 v122 v123 v124 : Value)
    (hK : ∀ (u19 u20 u70 u71 u72 u73 u74 u75 u76 u77 u78 u79 u80 u81 u82 u83 u84 u85 u86 u87 u88 u89 u90 u91 u92 u93 u94 u95 u96 u97 u98 u99 u100 u101 u102 u103 u104 u105 u106 u107 u108 u109 u110 u111 u112 u113 u114 u115 u116 u117 u118 u119 u120 u121 u122 v' : Value) (W : World),PR w W mb g gG c G v' (acc ++ [⟨kk,bb⟩]) → Q (.exit 5) ⟨#[.string a,.string b,v2,v3,v4,v5,v6,v7,v8,v9,v10,.map (some mb),.pointer (some ⟨gG,0,none⟩),v13,v14,v',.int .i64 ((i : Int) + 1),.int .i64 ((j : Int) + 1),.int .u8 1,u19,u20,v21,v22,v23,v24,v25,v26,v27,v28,v29,v30,v31,v32,v33,v34,v35,v36,v37,v38,v39,v40,v41,v42,v43,v44,v45,v46,v47,v48,v49,v50,v51,v52,v53,v54,v55,v56,v57,v58,v59,v60,v61,v62,v63,v64,v65,v66,v67,v68,v69,u70,u71,u72,u73,u74,u75,u76,u77,u78,u79,u80,u81,u82,u83,u84,u85,u86,u87,u88,u89,u90,u91,u92,u93,u94,u95,u96,u97,u98,u99,u100,u101,u102,u103,u104,u105,u106,u107,u108,u109,u110,u111,u112,u113,u114,u115,u116,u117,u118,u119,u120,u121,u122,v123,v124],[]⟩ W) :
    (zw Try.f14 3).wp Try.prog (Exit.then K Q) ⟨#[.string a,.string b,v2,v3,v4,v5,v6,v7,v8,v9,v10,.map (some mb),.pointer (some ⟨gG,0,none⟩),v13,v14,vout,.int .i64 (i : Int),.int .i64 (j : Int),.int .u8 1,v19,v20,v21,v22,v23,v24,v25,v26,v27,v28,v29,v30,v31,v32,v33,v34,v35,v36,v37,v38,v39,v40,v41,v42,v43,v44,v45,v46,v47,v48,v49,v50,v51,v52,v53,v54,v55,v56,v57,v58,v59,v60,v61,v62,v63,v64,v65,v66,v67,v68,v69,v70,v71,v72,v73,v74,v75,v76,v77,v78,v79,v80,v81,v82,v83,v84,v85,v86,v87,v88,v89,v90,v91,v92,v93,v94,v95,v96,v97,v98,v99,v100,v101,v102,v103,v104,v105,v106,v107,v108,v109,v110,v111,v112,v113,v114,v115,v116,v117,v118,v119,v120,v121,v122,v123,v124],[]⟩ wr:=by
  have HK:=Lib.hid hK
  clear hK
  have H1:=Lib.hid h1
  have H2:=Lib.hid h2
  clear h1 h2
  have l1:=(qX hP.drew.p.fits).1
  have l2:=(qX (hP.alloc (.cells #[.int .i64 0,.int .i64 0,.int .i64 0,.int .u8 0,.int .u8 0] 73)).drew.p.fits).1
  have b1:=Lib.hid hP.drew.p.fits.2
  have b2:=Lib.hid (hP.alloc (.cells #[.int .i64 0,.int .i64 0,.int .i64 0,.int .u8 0,.int .u8 0] 73)).drew.p.fits.2
  conv => arg 2;whnf
  go_wp2
  refine wp_region_noPanic ?_
  go_region_with (go_at_call 35;first|(refine (hyes _ b1.out).mono ?_;rintro e W1 ⟨rfl,hb1⟩;have hQ:=hP.drew.keep hb1;try dsimp only [jl])|(refine (hyes _ b2.out).mono ?_;rintro e W1 ⟨rfl,hb1⟩;have hQ:=(hP.alloc (.cells #[.int .i64 0,.int .i64 0,.int .i64 0,.int .u8 0,.int .u8 0] 73)).drew.keep hb1;have hz:=(hb1.block wr.heap.size (by simp)).trans (jc wr (.cells #[.int .i64 0,.int .i64 0,.int .i64 0,.int .u8 0,.int .u8 0] 73));have y0_:=(qi hz 0).trans rfl;have y1_:=(qi hz 1).trans rfl;have y2_:=(qi hz 2).trans rfl;have y3_:=(qi hz 3).trans rfl;have y4_:=(qi hz 4).trans rfl;have f0_:=ql hz 0;have f1_:=ql hz 1;have f2_:=ql hz 2;have f3_:=ql hz 3;have f4_:=ql hz 4;try dsimp only [jl]))
  all_goals refine NoPanic.normal ?_
  all_goals go_simp
  all_goals
    first
    | (have hR:=hQ.alloc (.cells #[.int .i64 1,.int .i64 1,.int .i64 nn,.int .u8 kk,.int .u8 bb] 73)
       have hS : SBox (W1.alloc (.cells #[.int .i64 1,.int .i64 1,.int .i64 nn,.int .u8 kk,.int .u8 bb] 73)) W1.heap.size 1 1 nn kk bb:=jc _ _
       clear hQ hb1 l1 l2 b1 b2
       revert hR hS
       generalize W1.alloc (.cells #[.int .i64 1,.int .i64 1,.int .i64 nn,.int .u8 kk,.int .u8 bb] 73) = W2
       generalize W1.heap.size = gb
       fail_if_success (have:=hz)
       intro hR hS)
    | (obtain ⟨hR,hS⟩:=hQ.put5 hz hP.p.below.size 1 1 nn kk bb
       clear y0_ y1_ y2_ y3_ y4_ f0_ f1_ f2_ f3_ f4_ hz hQ hb1 l1 l2 b1 b2
       revert hR hS
       generalize ((((W1.setCell ⟨wr.heap.size,0,none⟩ (.int .i64 1)).setCell ⟨wr.heap.size,1,none⟩ (.int .i64 1)).setCell ⟨wr.heap.size,2,none⟩ (.int .i64 nn)).setCell ⟨wr.heap.size,3,none⟩ (.int .u8 kk)).setCell ⟨wr.heap.size,4,none⟩ (.int .u8 bb) = W2
       generalize wr.heap.size = gb
       intro hR hS)
  all_goals
    obtain ⟨y0,y1,y2,y3,y4⟩:=hS.cells
    have g1:=(hR.p.at_ ((i + 1) * 61 + (j + 1)) (by omega)).trans (by rw [H1.out])
    have g2:=(hR.p.at_ (i * 61 + j) (by omega)).trans (by rw [H2.out])
    have w1_ : IntKind.i64.wrap ((i : Int) + 1) = (i : Int) + 1:=IntWalk.i64_in _ (by omega)
    have w2_ : IntKind.i64.wrap ((j : Int) + 1) = (j : Int) + 1:=IntWalk.i64_in _ (by omega)
    have w3_ : ((i : Int) + 1).toNat = i + 1:=by omega
    have w4_ : ((j : Int) + 1).toNat = j + 1:=by omega
    have w5_ : (i : Int) + 1 < 61:=by omega
    have w6_ : (j : Int) + 1 < 61:=by omega
    have w7_ : 0 ≤ (i : Int) + 1:=by omega
    have w8_ : 0 ≤ (j : Int) + 1:=by omega
    have w9_ : IntKind.i64.wrap (nn + D1) = nn + D1:=IntWalk.i64_in _ (by omega)
    have wa_ : (i : Int) < 61:=by omega
    have wb_ : (j : Int) < 61:=by omega
    go_wp2
    go_quiet (fail)
    clear w1_ w2_ w3_ w4_ w5_ w6_ w7_ w8_ w9_ wa_ wb_
    have hR2:=hR.drewN nq
    revert hR2
    have y0' : (W2.drewN nq).cell? ⟨gb,0,none⟩ = _:=y0
    have y1' : (W2.drewN nq).cell? ⟨gb,1,none⟩ = _:=y1
    have y3' : (W2.drewN nq).cell? ⟨gb,3,none⟩ = _:=y3
    have y4' : (W2.drewN nq).cell? ⟨gb,4,none⟩ = _:=y4
    have hz' : SBox (W2.drewN nq) gb _ _ _ _ _:=hS
    revert y0' y1' y3' y4' hz'
    clear y0 y1 y2 y3 y4 g1 g2 hR hS
    generalize W2.drewN nq = W3
    intro y0 y1 y3 y4 hz hR
    go_wp2_with (at_builtin;refine Kd.zo k38 (w0:=w) w.heap.size rfl (.tmp 110) (.tmp 113) 33 38 (.agg #[(.int .u8 0),(.int .u8 0)]) 2 rfl Try.underlying33 vo rfl (by decide) (by omega) vout acc (⟨kk,bb⟩ : S38) [.int .u8 kk,.int .u8 bb] (fun _ => True) (fun _ => False) rfl rfl (xC _ _ _ _) (fun _ h => h.elim) (fun _ _ => trivial) hR.r hR.p.below hR.p.below.size (by omega) ?_;intro v1 w1 HO1 HB1 hg1 _;have hR1 : PR w w1 mb g gG c G v1 (acc ++ [⟨kk,bb⟩]):=⟨(hR.p.grown hR.r hg1 HB1),HO1⟩;have z1 : SBox w1 gb _ _ _ _ _:=(hg1.block gb (jw hz) (Q7 hR.r hz)).trans hz;obtain ⟨y0,y1,y2,y3,y4⟩:=z1.cells)
    exact HK.out _ _ _ _ _ _ _ _ _ _ _ _ _ _ _ _ _ _ _ _ _ _ _ _ _ _ _ _ _ _ _ _ _ _ _ _ _ _ _ _ _ _ _ _ _ _ _ _ _ _ _ _ _ _ _ _ _ hR1
end Go.Proofs.Ytdefecnngccmoaa.Ed
namespace Go.Proofs.Ytdefecnngccmoaa.Ed
open Go.RowKit Go.Proofs.YtdefecnngccmoaaW.PrintWords QTells
set_option maxRecDepth 1000000 in
set_option maxHeartbeats 40000000 in
theorem Zb (a b : ByteArray) (ha : a.size ≤ 60) (hb : b.size ≤ 60) (c : Lb.Cst) (w : World) (mb g gG i j : Nat) (G : List Int) (vout : Value) (acc : List S38) (hi : (i : Int) ≤ a.size) (hj : (j : Int) ≤ b.size)
    (nn kk bb D1 D2 : Int) (hyes : ∀ W,Box W g c → Calls Try.prog 36 #[.string (a.extract i a.size),.string (b.extract j b.size),.pointer (some ⟨g,0,none⟩)] W (zf 1 1 nn kk bb true W)) (hx : i + 1 ≤ 60) (hy : j + 1 ≤ 60) (h1 : G.getD ((i + 1) * 61 + (j + 1)) 0 = D1) (h2 : G.getD (i * 61 + j) 0 = D2) (d1 : 0 ≤ D1) (d2 : D1 ≤ 120000) (n1 : 0 ≤ nn) (n2 : nn ≤ 1000) (hd : (nn + D1 == D2) = false)
    (K : Act → World → Prop) (Q : Exit → Act → World → Prop) (wr : World) (hP : PR w wr mb g gG c G vout acc) (v2 v3 v4 v5 v6 v7 v8 v9 v10 v13 v14 v19 v20 v21 v22 v23 v24 v25 v26 v27 v28 v29 v30 v31 v32 v33 v34 v35 v36 v37 v38 v39 v40 v41 v42 v43 v44 v45 v46 v47 v48 v49 v50 v51 v52 v53 v54 v55 v56 v57 v58 v59 v60 v61 v62 v63 v64 v65 v66 v67 v68 v69 v70 v71 v72 v73 v74 v75 v76 v77 v78 v79 v80 v81 v82 v83 v84 v85 v86 v87 v88 v89 v90 v91 v92 v93 v94 v95 v96 v97 v98 v99 v100 v101 v102 v103 v104 v105 v106 v107 v108 v109 v110 v111 v112 v113 v114 v115 v116 v117 v118 v119 v120 v121 v122 v123 v124 : Value)
    (hK : ∀ (u19 u20 u70 u71 u72 u73 u74 u75 u76 u77 u78 u79 u80 u81 u82 u83 u84 u85 u86 u87 u88 u89 u90 u91 u92 u93 u94 u95 u96 u97 u98 u99 u100 u101 u102 u103 u104 u105 u106 u107 u108 u109 u110 u111 u112 u113 u114 u115 u116 u117 u118 u119 u120 u121 u122 : Value) (W : World),PR w W mb g gG c G vout acc → K ⟨#[.string a,.string b,v2,v3,v4,v5,v6,v7,v8,v9,v10,.map (some mb),.pointer (some ⟨gG,0,none⟩),v13,v14,vout,.int .i64 (i : Int),.int .i64 (j : Int),.int .u8 3,u19,u20,v21,v22,v23,v24,v25,v26,v27,v28,v29,v30,v31,v32,v33,v34,v35,v36,v37,v38,v39,v40,v41,v42,v43,v44,v45,v46,v47,v48,v49,v50,v51,v52,v53,v54,v55,v56,v57,v58,v59,v60,v61,v62,v63,v64,v65,v66,v67,v68,v69,u70,u71,u72,u73,u74,u75,u76,u77,u78,u79,u80,u81,u82,u83,u84,u85,u86,u87,u88,u89,u90,u91,u92,u93,u94,u95,u96,u97,u98,u99,u100,u101,u102,u103,u104,u105,u106,u107,u108,u109,u110,u111,u112,u113,u114,u115,u116,u117,u118,u119,u120,u121,u122,v123,v124],[]⟩ W) :
    (zw Try.f14 3).wp Try.prog (Exit.then K Q) ⟨#[.string a,.string b,v2,v3,v4,v5,v6,v7,v8,v9,v10,.map (some mb),.pointer (some ⟨gG,0,none⟩),v13,v14,vout,.int .i64 (i : Int),.int .i64 (j : Int),.int .u8 2,v19,v20,v21,v22,v23,v24,v25,v26,v27,v28,v29,v30,v31,v32,v33,v34,v35,v36,v37,v38,v39,v40,v41,v42,v43,v44,v45,v46,v47,v48,v49,v50,v51,v52,v53,v54,v55,v56,v57,v58,v59,v60,v61,v62,v63,v64,v65,v66,v67,v68,v69,v70,v71,v72,v73,v74,v75,v76,v77,v78,v79,v80,v81,v82,v83,v84,v85,v86,v87,v88,v89,v90,v91,v92,v93,v94,v95,v96,v97,v98,v99,v100,v101,v102,v103,v104,v105,v106,v107,v108,v109,v110,v111,v112,v113,v114,v115,v116,v117,v118,v119,v120,v121,v122,v123,v124],[]⟩ wr:=by
  have HK:=Lib.hid hK
  clear hK
  have H1:=Lib.hid h1
  have H2:=Lib.hid h2
  clear h1 h2
  have l1:=(qX hP.drew.p.fits).2.1
  have l2:=(qX (hP.alloc (.cells #[.int .i64 0,.int .i64 0,.int .i64 0,.int .u8 0,.int .u8 0] 73)).drew.p.fits).2.1
  have b1:=Lib.hid hP.drew.p.fits.2
  have b2:=Lib.hid (hP.alloc (.cells #[.int .i64 0,.int .i64 0,.int .i64 0,.int .u8 0,.int .u8 0] 73)).drew.p.fits.2
  conv => arg 2;whnf
  go_wp2
  refine wp_region_noPanic ?_
  go_region_with (go_at_call 36;first|(refine (hyes _ b1.out).mono ?_;rintro e W1 ⟨rfl,hb1⟩;have hQ:=hP.drew.keep hb1;try dsimp only [jl])|(refine (hyes _ b2.out).mono ?_;rintro e W1 ⟨rfl,hb1⟩;have hQ:=(hP.alloc (.cells #[.int .i64 0,.int .i64 0,.int .i64 0,.int .u8 0,.int .u8 0] 73)).drew.keep hb1;have hz:=(hb1.block wr.heap.size (by simp)).trans (jc wr (.cells #[.int .i64 0,.int .i64 0,.int .i64 0,.int .u8 0,.int .u8 0] 73));have y0_:=(qi hz 0).trans rfl;have y1_:=(qi hz 1).trans rfl;have y2_:=(qi hz 2).trans rfl;have y3_:=(qi hz 3).trans rfl;have y4_:=(qi hz 4).trans rfl;have f0_:=ql hz 0;have f1_:=ql hz 1;have f2_:=ql hz 2;have f3_:=ql hz 3;have f4_:=ql hz 4;try dsimp only [jl]))
  all_goals refine NoPanic.normal ?_
  all_goals go_simp
  all_goals
    first
    | (have hR:=hQ.alloc (.cells #[.int .i64 1,.int .i64 1,.int .i64 nn,.int .u8 kk,.int .u8 bb] 73)
       have hS : SBox (W1.alloc (.cells #[.int .i64 1,.int .i64 1,.int .i64 nn,.int .u8 kk,.int .u8 bb] 73)) W1.heap.size 1 1 nn kk bb:=jc _ _
       clear hQ hb1 l1 l2 b1 b2
       revert hR hS
       generalize W1.alloc (.cells #[.int .i64 1,.int .i64 1,.int .i64 nn,.int .u8 kk,.int .u8 bb] 73) = W2
       generalize W1.heap.size = gb
       fail_if_success (have:=hz)
       intro hR hS)
    | (obtain ⟨hR,hS⟩:=hQ.put5 hz hP.p.below.size 1 1 nn kk bb
       clear y0_ y1_ y2_ y3_ y4_ f0_ f1_ f2_ f3_ f4_ hz hQ hb1 l1 l2 b1 b2
       revert hR hS
       generalize ((((W1.setCell ⟨wr.heap.size,0,none⟩ (.int .i64 1)).setCell ⟨wr.heap.size,1,none⟩ (.int .i64 1)).setCell ⟨wr.heap.size,2,none⟩ (.int .i64 nn)).setCell ⟨wr.heap.size,3,none⟩ (.int .u8 kk)).setCell ⟨wr.heap.size,4,none⟩ (.int .u8 bb) = W2
       generalize wr.heap.size = gb
       intro hR hS)
  all_goals
    obtain ⟨y0,y1,y2,y3,y4⟩:=hS.cells
    have g1:=(hR.p.at_ ((i + 1) * 61 + (j + 1)) (by omega)).trans (by rw [H1.out])
    have g2:=(hR.p.at_ (i * 61 + j) (by omega)).trans (by rw [H2.out])
    have w1_ : IntKind.i64.wrap ((i : Int) + 1) = (i : Int) + 1:=IntWalk.i64_in _ (by omega)
    have w2_ : IntKind.i64.wrap ((j : Int) + 1) = (j : Int) + 1:=IntWalk.i64_in _ (by omega)
    have w3_ : ((i : Int) + 1).toNat = i + 1:=by omega
    have w4_ : ((j : Int) + 1).toNat = j + 1:=by omega
    have w5_ : (i : Int) + 1 < 61:=by omega
    have w6_ : (j : Int) + 1 < 61:=by omega
    have w7_ : 0 ≤ (i : Int) + 1:=by omega
    have w8_ : 0 ≤ (j : Int) + 1:=by omega
    have w9_ : IntKind.i64.wrap (nn + D1) = nn + D1:=IntWalk.i64_in _ (by omega)
    have wa_ : (i : Int) < 61:=by omega
    have wb_ : (j : Int) < 61:=by omega
    go_wp2
    go_quiet (fail)
    clear w1_ w2_ w3_ w4_ w5_ w6_ w7_ w8_ w9_ wa_ wb_
    go_wp2
    exact HK.out _ _ _ _ _ _ _ _ _ _ _ _ _ _ _ _ _ _ _ _ _ _ _ _ _ _ _ _ _ _ _ _ _ _ _ _ _ _ _ _ _ _ _ _ _ _ _ _ _ _ _ _ _ _ _ _ (hR.drewN _)
end Go.Proofs.Ytdefecnngccmoaa.Ed
namespace Go.Proofs.Ytdefecnngccmoaa.Ed
open Go.RowKit Go.Proofs.YtdefecnngccmoaaW.PrintWords QTells
set_option maxRecDepth 1000000 in
set_option maxHeartbeats 40000000 in
theorem JW (a b : ByteArray) (ha : a.size ≤ 60) (hb : b.size ≤ 60) (c : Lb.Cst) (w : World) (mb g gG i j : Nat) (G : List Int) (vout : Value) (acc : List S38) (hi : (i : Int) ≤ a.size) (hj : (j : Int) ≤ b.size)
    (nn kk bb D1 D2 : Int) (hyes : ∀ W,Box W g c → Calls Try.prog 36 #[.string (a.extract i a.size),.string (b.extract j b.size),.pointer (some ⟨g,0,none⟩)] W (zf 1 1 nn kk bb true W)) (hx : i + 1 ≤ 60) (hy : j + 1 ≤ 60) (h1 : G.getD ((i + 1) * 61 + (j + 1)) 0 = D1) (h2 : G.getD (i * 61 + j) 0 = D2) (d1 : 0 ≤ D1) (d2 : D1 ≤ 120000) (n1 : 0 ≤ nn) (n2 : nn ≤ 1000) (hd : (nn + D1 == D2) = true) (hn : acc.length ≤ 1000)
    (K : Act → World → Prop) (Q : Exit → Act → World → Prop) (wr : World) (hP : PR w wr mb g gG c G vout acc) (v2 v3 v4 v5 v6 v7 v8 v9 v10 v13 v14 v19 v20 v21 v22 v23 v24 v25 v26 v27 v28 v29 v30 v31 v32 v33 v34 v35 v36 v37 v38 v39 v40 v41 v42 v43 v44 v45 v46 v47 v48 v49 v50 v51 v52 v53 v54 v55 v56 v57 v58 v59 v60 v61 v62 v63 v64 v65 v66 v67 v68 v69 v70 v71 v72 v73 v74 v75 v76 v77 v78 v79 v80 v81 v82 v83 v84 v85 v86 v87 v88 v89 v90 v91 v92 v93 v94 v95 v96 v97 v98 v99 v100 v101 v102 v103 v104 v105 v106 v107 v108 v109 v110 v111 v112 v113 v114 v115 v116 v117 v118 v119 v120 v121 v122 v123 v124 : Value)
    (hK : ∀ (u19 u20 u70 u71 u72 u73 u74 u75 u76 u77 u78 u79 u80 u81 u82 u83 u84 u85 u86 u87 u88 u89 u90 u91 u92 u93 u94 u95 u96 u97 u98 u99 u100 u101 u102 u103 u104 u105 u106 u107 u108 u109 u110 u111 u112 u113 u114 u115 u116 u117 u118 u119 u120 u121 u122 v' : Value) (W : World),PR w W mb g gG c G v' (acc ++ [⟨kk,bb⟩]) → Q (.exit 5) ⟨#[.string a,.string b,v2,v3,v4,v5,v6,v7,v8,v9,v10,.map (some mb),.pointer (some ⟨gG,0,none⟩),v13,v14,v',.int .i64 ((i : Int) + 1),.int .i64 ((j : Int) + 1),.int .u8 2,u19,u20,v21,v22,v23,v24,v25,v26,v27,v28,v29,v30,v31,v32,v33,v34,v35,v36,v37,v38,v39,v40,v41,v42,v43,v44,v45,v46,v47,v48,v49,v50,v51,v52,v53,v54,v55,v56,v57,v58,v59,v60,v61,v62,v63,v64,v65,v66,v67,v68,v69,u70,u71,u72,u73,u74,u75,u76,u77,u78,u79,u80,u81,u82,u83,u84,u85,u86,u87,u88,u89,u90,u91,u92,u93,u94,u95,u96,u97,u98,u99,u100,u101,u102,u103,u104,u105,u106,u107,u108,u109,u110,u111,u112,u113,u114,u115,u116,u117,u118,u119,u120,u121,u122,v123,v124],[]⟩ W) :
    (zw Try.f14 3).wp Try.prog (Exit.then K Q) ⟨#[.string a,.string b,v2,v3,v4,v5,v6,v7,v8,v9,v10,.map (some mb),.pointer (some ⟨gG,0,none⟩),v13,v14,vout,.int .i64 (i : Int),.int .i64 (j : Int),.int .u8 2,v19,v20,v21,v22,v23,v24,v25,v26,v27,v28,v29,v30,v31,v32,v33,v34,v35,v36,v37,v38,v39,v40,v41,v42,v43,v44,v45,v46,v47,v48,v49,v50,v51,v52,v53,v54,v55,v56,v57,v58,v59,v60,v61,v62,v63,v64,v65,v66,v67,v68,v69,v70,v71,v72,v73,v74,v75,v76,v77,v78,v79,v80,v81,v82,v83,v84,v85,v86,v87,v88,v89,v90,v91,v92,v93,v94,v95,v96,v97,v98,v99,v100,v101,v102,v103,v104,v105,v106,v107,v108,v109,v110,v111,v112,v113,v114,v115,v116,v117,v118,v119,v120,v121,v122,v123,v124],[]⟩ wr:=by
  have HK:=Lib.hid hK
  clear hK
  have H1:=Lib.hid h1
  have H2:=Lib.hid h2
  clear h1 h2
  have l1:=(qX hP.drew.p.fits).2.1
  have l2:=(qX (hP.alloc (.cells #[.int .i64 0,.int .i64 0,.int .i64 0,.int .u8 0,.int .u8 0] 73)).drew.p.fits).2.1
  have b1:=Lib.hid hP.drew.p.fits.2
  have b2:=Lib.hid (hP.alloc (.cells #[.int .i64 0,.int .i64 0,.int .i64 0,.int .u8 0,.int .u8 0] 73)).drew.p.fits.2
  conv => arg 2;whnf
  go_wp2
  refine wp_region_noPanic ?_
  go_region_with (go_at_call 36;first|(refine (hyes _ b1.out).mono ?_;rintro e W1 ⟨rfl,hb1⟩;have hQ:=hP.drew.keep hb1;try dsimp only [jl])|(refine (hyes _ b2.out).mono ?_;rintro e W1 ⟨rfl,hb1⟩;have hQ:=(hP.alloc (.cells #[.int .i64 0,.int .i64 0,.int .i64 0,.int .u8 0,.int .u8 0] 73)).drew.keep hb1;have hz:=(hb1.block wr.heap.size (by simp)).trans (jc wr (.cells #[.int .i64 0,.int .i64 0,.int .i64 0,.int .u8 0,.int .u8 0] 73));have y0_:=(qi hz 0).trans rfl;have y1_:=(qi hz 1).trans rfl;have y2_:=(qi hz 2).trans rfl;have y3_:=(qi hz 3).trans rfl;have y4_:=(qi hz 4).trans rfl;have f0_:=ql hz 0;have f1_:=ql hz 1;have f2_:=ql hz 2;have f3_:=ql hz 3;have f4_:=ql hz 4;try dsimp only [jl]))
  all_goals refine NoPanic.normal ?_
  all_goals go_simp
  all_goals
    first
    | (have hR:=hQ.alloc (.cells #[.int .i64 1,.int .i64 1,.int .i64 nn,.int .u8 kk,.int .u8 bb] 73)
       have hS : SBox (W1.alloc (.cells #[.int .i64 1,.int .i64 1,.int .i64 nn,.int .u8 kk,.int .u8 bb] 73)) W1.heap.size 1 1 nn kk bb:=jc _ _
       clear hQ hb1 l1 l2 b1 b2
       revert hR hS
       generalize W1.alloc (.cells #[.int .i64 1,.int .i64 1,.int .i64 nn,.int .u8 kk,.int .u8 bb] 73) = W2
       generalize W1.heap.size = gb
       fail_if_success (have:=hz)
       intro hR hS)
    | (obtain ⟨hR,hS⟩:=hQ.put5 hz hP.p.below.size 1 1 nn kk bb
       clear y0_ y1_ y2_ y3_ y4_ f0_ f1_ f2_ f3_ f4_ hz hQ hb1 l1 l2 b1 b2
       revert hR hS
       generalize ((((W1.setCell ⟨wr.heap.size,0,none⟩ (.int .i64 1)).setCell ⟨wr.heap.size,1,none⟩ (.int .i64 1)).setCell ⟨wr.heap.size,2,none⟩ (.int .i64 nn)).setCell ⟨wr.heap.size,3,none⟩ (.int .u8 kk)).setCell ⟨wr.heap.size,4,none⟩ (.int .u8 bb) = W2
       generalize wr.heap.size = gb
       intro hR hS)
  all_goals
    obtain ⟨y0,y1,y2,y3,y4⟩:=hS.cells
    have g1:=(hR.p.at_ ((i + 1) * 61 + (j + 1)) (by omega)).trans (by rw [H1.out])
    have g2:=(hR.p.at_ (i * 61 + j) (by omega)).trans (by rw [H2.out])
    have w1_ : IntKind.i64.wrap ((i : Int) + 1) = (i : Int) + 1:=IntWalk.i64_in _ (by omega)
    have w2_ : IntKind.i64.wrap ((j : Int) + 1) = (j : Int) + 1:=IntWalk.i64_in _ (by omega)
    have w3_ : ((i : Int) + 1).toNat = i + 1:=by omega
    have w4_ : ((j : Int) + 1).toNat = j + 1:=by omega
    have w5_ : (i : Int) + 1 < 61:=by omega
    have w6_ : (j : Int) + 1 < 61:=by omega
    have w7_ : 0 ≤ (i : Int) + 1:=by omega
    have w8_ : 0 ≤ (j : Int) + 1:=by omega
    have w9_ : IntKind.i64.wrap (nn + D1) = nn + D1:=IntWalk.i64_in _ (by omega)
    have wa_ : (i : Int) < 61:=by omega
    have wb_ : (j : Int) < 61:=by omega
    go_wp2
    go_quiet (fail)
    clear w1_ w2_ w3_ w4_ w5_ w6_ w7_ w8_ w9_ wa_ wb_
    have hR2:=hR.drewN nq
    revert hR2
    have y0' : (W2.drewN nq).cell? ⟨gb,0,none⟩ = _:=y0
    have y1' : (W2.drewN nq).cell? ⟨gb,1,none⟩ = _:=y1
    have y3' : (W2.drewN nq).cell? ⟨gb,3,none⟩ = _:=y3
    have y4' : (W2.drewN nq).cell? ⟨gb,4,none⟩ = _:=y4
    have hz' : SBox (W2.drewN nq) gb _ _ _ _ _:=hS
    revert y0' y1' y3' y4' hz'
    clear y0 y1 y2 y3 y4 g1 g2 hR hS
    generalize W2.drewN nq = W3
    intro y0 y1 y3 y4 hz hR
    go_wp2_with (at_builtin;refine Kd.zo k38 (w0:=w) w.heap.size rfl (.tmp 110) (.tmp 113) 33 38 (.agg #[(.int .u8 0),(.int .u8 0)]) 2 rfl Try.underlying33 vo rfl (by decide) (by omega) vout acc (⟨kk,bb⟩ : S38) [.int .u8 kk,.int .u8 bb] (fun _ => True) (fun _ => False) rfl rfl (xC _ _ _ _) (fun _ h => h.elim) (fun _ _ => trivial) hR.r hR.p.below hR.p.below.size (by omega) ?_;intro v1 w1 HO1 HB1 hg1 _;have hR1 : PR w w1 mb g gG c G v1 (acc ++ [⟨kk,bb⟩]):=⟨(hR.p.grown hR.r hg1 HB1),HO1⟩;have z1 : SBox w1 gb _ _ _ _ _:=(hg1.block gb (jw hz) (Q7 hR.r hz)).trans hz;obtain ⟨y0,y1,y2,y3,y4⟩:=z1.cells)
    exact HK.out _ _ _ _ _ _ _ _ _ _ _ _ _ _ _ _ _ _ _ _ _ _ _ _ _ _ _ _ _ _ _ _ _ _ _ _ _ _ _ _ _ _ _ _ _ _ _ _ _ _ _ _ _ _ _ _ _ hR1
end Go.Proofs.Ytdefecnngccmoaa.Ed
namespace Go.Proofs.Ytdefecnngccmoaa.Ed
open Go.RowKit Go.Proofs.YtdefecnngccmoaaW.PrintWords QTells
set_option maxRecDepth 1000000 in
set_option maxHeartbeats 40000000 in
theorem X8 (a b : ByteArray) (ha : a.size ≤ 60) (hb : b.size ≤ 60) (c : Lb.Cst) (w : World) (mb g gG i j : Nat) (G : List Int) (vout : Value) (acc : List S38) (hi : (i : Int) ≤ a.size) (hj : (j : Int) ≤ b.size)
    (nn kk bb D1 D2 : Int) (hyes : ∀ W,Box W g c → Calls Try.prog 37 #[.string (a.extract i a.size),.string (b.extract j b.size),.pointer (some ⟨g,0,none⟩)] W (zf 2 2 nn kk bb true W)) (hx : i + 2 ≤ 60) (hy : j + 2 ≤ 60) (h1 : G.getD ((i + 2) * 61 + (j + 2)) 0 = D1) (h2 : G.getD (i * 61 + j) 0 = D2) (d1 : 0 ≤ D1) (d2 : D1 ≤ 120000) (n1 : 0 ≤ nn) (n2 : nn ≤ 1000) (hd : (nn + D1 == D2) = false)
    (K : Act → World → Prop) (Q : Exit → Act → World → Prop) (wr : World) (hP : PR w wr mb g gG c G vout acc) (v2 v3 v4 v5 v6 v7 v8 v9 v10 v13 v14 v19 v20 v21 v22 v23 v24 v25 v26 v27 v28 v29 v30 v31 v32 v33 v34 v35 v36 v37 v38 v39 v40 v41 v42 v43 v44 v45 v46 v47 v48 v49 v50 v51 v52 v53 v54 v55 v56 v57 v58 v59 v60 v61 v62 v63 v64 v65 v66 v67 v68 v69 v70 v71 v72 v73 v74 v75 v76 v77 v78 v79 v80 v81 v82 v83 v84 v85 v86 v87 v88 v89 v90 v91 v92 v93 v94 v95 v96 v97 v98 v99 v100 v101 v102 v103 v104 v105 v106 v107 v108 v109 v110 v111 v112 v113 v114 v115 v116 v117 v118 v119 v120 v121 v122 v123 v124 : Value)
    (hK : ∀ (u19 u20 u70 u71 u72 u73 u74 u75 u76 u77 u78 u79 u80 u81 u82 u83 u84 u85 u86 u87 u88 u89 u90 u91 u92 u93 u94 u95 u96 u97 u98 u99 u100 u101 u102 u103 u104 u105 u106 u107 u108 u109 u110 u111 u112 u113 u114 u115 u116 u117 u118 u119 u120 u121 u122 : Value) (W : World),PR w W mb g gG c G vout acc → K ⟨#[.string a,.string b,v2,v3,v4,v5,v6,v7,v8,v9,v10,.map (some mb),.pointer (some ⟨gG,0,none⟩),v13,v14,vout,.int .i64 (i : Int),.int .i64 (j : Int),.int .u8 4,u19,u20,v21,v22,v23,v24,v25,v26,v27,v28,v29,v30,v31,v32,v33,v34,v35,v36,v37,v38,v39,v40,v41,v42,v43,v44,v45,v46,v47,v48,v49,v50,v51,v52,v53,v54,v55,v56,v57,v58,v59,v60,v61,v62,v63,v64,v65,v66,v67,v68,v69,u70,u71,u72,u73,u74,u75,u76,u77,u78,u79,u80,u81,u82,u83,u84,u85,u86,u87,u88,u89,u90,u91,u92,u93,u94,u95,u96,u97,u98,u99,u100,u101,u102,u103,u104,u105,u106,u107,u108,u109,u110,u111,u112,u113,u114,u115,u116,u117,u118,u119,u120,u121,u122,v123,v124],[]⟩ W) :
    (zw Try.f14 3).wp Try.prog (Exit.then K Q) ⟨#[.string a,.string b,v2,v3,v4,v5,v6,v7,v8,v9,v10,.map (some mb),.pointer (some ⟨gG,0,none⟩),v13,v14,vout,.int .i64 (i : Int),.int .i64 (j : Int),.int .u8 3,v19,v20,v21,v22,v23,v24,v25,v26,v27,v28,v29,v30,v31,v32,v33,v34,v35,v36,v37,v38,v39,v40,v41,v42,v43,v44,v45,v46,v47,v48,v49,v50,v51,v52,v53,v54,v55,v56,v57,v58,v59,v60,v61,v62,v63,v64,v65,v66,v67,v68,v69,v70,v71,v72,v73,v74,v75,v76,v77,v78,v79,v80,v81,v82,v83,v84,v85,v86,v87,v88,v89,v90,v91,v92,v93,v94,v95,v96,v97,v98,v99,v100,v101,v102,v103,v104,v105,v106,v107,v108,v109,v110,v111,v112,v113,v114,v115,v116,v117,v118,v119,v120,v121,v122,v123,v124],[]⟩ wr:=by
  have HK:=Lib.hid hK
  clear hK
  have H1:=Lib.hid h1
  have H2:=Lib.hid h2
  clear h1 h2
  have l1:=(qX hP.drew.p.fits).2.2.1
  have l2:=(qX (hP.alloc (.cells #[.int .i64 0,.int .i64 0,.int .i64 0,.int .u8 0,.int .u8 0] 73)).drew.p.fits).2.2.1
  have b1:=Lib.hid hP.drew.p.fits.2
  have b2:=Lib.hid (hP.alloc (.cells #[.int .i64 0,.int .i64 0,.int .i64 0,.int .u8 0,.int .u8 0] 73)).drew.p.fits.2
  conv => arg 2;whnf
  go_wp2
  refine wp_region_noPanic ?_
  go_region_with (go_at_call 37;first|(refine (hyes _ b1.out).mono ?_;rintro e W1 ⟨rfl,hb1⟩;have hQ:=hP.drew.keep hb1;try dsimp only [jl])|(refine (hyes _ b2.out).mono ?_;rintro e W1 ⟨rfl,hb1⟩;have hQ:=(hP.alloc (.cells #[.int .i64 0,.int .i64 0,.int .i64 0,.int .u8 0,.int .u8 0] 73)).drew.keep hb1;have hz:=(hb1.block wr.heap.size (by simp)).trans (jc wr (.cells #[.int .i64 0,.int .i64 0,.int .i64 0,.int .u8 0,.int .u8 0] 73));have y0_:=(qi hz 0).trans rfl;have y1_:=(qi hz 1).trans rfl;have y2_:=(qi hz 2).trans rfl;have y3_:=(qi hz 3).trans rfl;have y4_:=(qi hz 4).trans rfl;have f0_:=ql hz 0;have f1_:=ql hz 1;have f2_:=ql hz 2;have f3_:=ql hz 3;have f4_:=ql hz 4;try dsimp only [jl]))
  all_goals refine NoPanic.normal ?_
  all_goals go_simp
  all_goals
    first
    | (have hR:=hQ.alloc (.cells #[.int .i64 2,.int .i64 2,.int .i64 nn,.int .u8 kk,.int .u8 bb] 73)
       have hS : SBox (W1.alloc (.cells #[.int .i64 2,.int .i64 2,.int .i64 nn,.int .u8 kk,.int .u8 bb] 73)) W1.heap.size 2 2 nn kk bb:=jc _ _
       clear hQ hb1 l1 l2 b1 b2
       revert hR hS
       generalize W1.alloc (.cells #[.int .i64 2,.int .i64 2,.int .i64 nn,.int .u8 kk,.int .u8 bb] 73) = W2
       generalize W1.heap.size = gb
       fail_if_success (have:=hz)
       intro hR hS)
    | (obtain ⟨hR,hS⟩:=hQ.put5 hz hP.p.below.size 2 2 nn kk bb
       clear y0_ y1_ y2_ y3_ y4_ f0_ f1_ f2_ f3_ f4_ hz hQ hb1 l1 l2 b1 b2
       revert hR hS
       generalize ((((W1.setCell ⟨wr.heap.size,0,none⟩ (.int .i64 2)).setCell ⟨wr.heap.size,1,none⟩ (.int .i64 2)).setCell ⟨wr.heap.size,2,none⟩ (.int .i64 nn)).setCell ⟨wr.heap.size,3,none⟩ (.int .u8 kk)).setCell ⟨wr.heap.size,4,none⟩ (.int .u8 bb) = W2
       generalize wr.heap.size = gb
       intro hR hS)
  all_goals
    obtain ⟨y0,y1,y2,y3,y4⟩:=hS.cells
    have g1:=(hR.p.at_ ((i + 2) * 61 + (j + 2)) (by omega)).trans (by rw [H1.out])
    have g2:=(hR.p.at_ (i * 61 + j) (by omega)).trans (by rw [H2.out])
    have w1_ : IntKind.i64.wrap ((i : Int) + 2) = (i : Int) + 2:=IntWalk.i64_in _ (by omega)
    have w2_ : IntKind.i64.wrap ((j : Int) + 2) = (j : Int) + 2:=IntWalk.i64_in _ (by omega)
    have w3_ : ((i : Int) + 2).toNat = i + 2:=by omega
    have w4_ : ((j : Int) + 2).toNat = j + 2:=by omega
    have w5_ : (i : Int) + 2 < 61:=by omega
    have w6_ : (j : Int) + 2 < 61:=by omega
    have w7_ : 0 ≤ (i : Int) + 2:=by omega
    have w8_ : 0 ≤ (j : Int) + 2:=by omega
    have w9_ : IntKind.i64.wrap (nn + D1) = nn + D1:=IntWalk.i64_in _ (by omega)
    have wa_ : (i : Int) < 61:=by omega
    have wb_ : (j : Int) < 61:=by omega
    go_wp2
    go_quiet (fail)
    clear w1_ w2_ w3_ w4_ w5_ w6_ w7_ w8_ w9_ wa_ wb_
    go_wp2
    exact HK.out _ _ _ _ _ _ _ _ _ _ _ _ _ _ _ _ _ _ _ _ _ _ _ _ _ _ _ _ _ _ _ _ _ _ _ _ _ _ _ _ _ _ _ _ _ _ _ _ _ _ _ _ _ _ _ _ (hR.drewN _)
end Go.Proofs.Ytdefecnngccmoaa.Ed
namespace Go.Proofs.Ytdefecnngccmoaa.Ed
open Go.RowKit Go.Proofs.YtdefecnngccmoaaW.PrintWords QTells
set_option maxRecDepth 1000000 in
set_option maxHeartbeats 40000000 in
theorem X4 (a b : ByteArray) (ha : a.size ≤ 60) (hb : b.size ≤ 60) (c : Lb.Cst) (w : World) (mb g gG i j : Nat) (G : List Int) (vout : Value) (acc : List S38) (hi : (i : Int) ≤ a.size) (hj : (j : Int) ≤ b.size)
    (nn kk bb D1 D2 : Int) (hyes : ∀ W,Box W g c → Calls Try.prog 37 #[.string (a.extract i a.size),.string (b.extract j b.size),.pointer (some ⟨g,0,none⟩)] W (zf 2 2 nn kk bb true W)) (hx : i + 2 ≤ 60) (hy : j + 2 ≤ 60) (h1 : G.getD ((i + 2) * 61 + (j + 2)) 0 = D1) (h2 : G.getD (i * 61 + j) 0 = D2) (d1 : 0 ≤ D1) (d2 : D1 ≤ 120000) (n1 : 0 ≤ nn) (n2 : nn ≤ 1000) (hd : (nn + D1 == D2) = true) (hn : acc.length ≤ 1000)
    (K : Act → World → Prop) (Q : Exit → Act → World → Prop) (wr : World) (hP : PR w wr mb g gG c G vout acc) (v2 v3 v4 v5 v6 v7 v8 v9 v10 v13 v14 v19 v20 v21 v22 v23 v24 v25 v26 v27 v28 v29 v30 v31 v32 v33 v34 v35 v36 v37 v38 v39 v40 v41 v42 v43 v44 v45 v46 v47 v48 v49 v50 v51 v52 v53 v54 v55 v56 v57 v58 v59 v60 v61 v62 v63 v64 v65 v66 v67 v68 v69 v70 v71 v72 v73 v74 v75 v76 v77 v78 v79 v80 v81 v82 v83 v84 v85 v86 v87 v88 v89 v90 v91 v92 v93 v94 v95 v96 v97 v98 v99 v100 v101 v102 v103 v104 v105 v106 v107 v108 v109 v110 v111 v112 v113 v114 v115 v116 v117 v118 v119 v120 v121 v122 v123 v124 : Value)
    (hK : ∀ (u19 u20 u70 u71 u72 u73 u74 u75 u76 u77 u78 u79 u80 u81 u82 u83 u84 u85 u86 u87 u88 u89 u90 u91 u92 u93 u94 u95 u96 u97 u98 u99 u100 u101 u102 u103 u104 u105 u106 u107 u108 u109 u110 u111 u112 u113 u114 u115 u116 u117 u118 u119 u120 u121 u122 v' : Value) (W : World),PR w W mb g gG c G v' (acc ++ [⟨kk,bb⟩]) → Q (.exit 5) ⟨#[.string a,.string b,v2,v3,v4,v5,v6,v7,v8,v9,v10,.map (some mb),.pointer (some ⟨gG,0,none⟩),v13,v14,v',.int .i64 ((i : Int) + 2),.int .i64 ((j : Int) + 2),.int .u8 3,u19,u20,v21,v22,v23,v24,v25,v26,v27,v28,v29,v30,v31,v32,v33,v34,v35,v36,v37,v38,v39,v40,v41,v42,v43,v44,v45,v46,v47,v48,v49,v50,v51,v52,v53,v54,v55,v56,v57,v58,v59,v60,v61,v62,v63,v64,v65,v66,v67,v68,v69,u70,u71,u72,u73,u74,u75,u76,u77,u78,u79,u80,u81,u82,u83,u84,u85,u86,u87,u88,u89,u90,u91,u92,u93,u94,u95,u96,u97,u98,u99,u100,u101,u102,u103,u104,u105,u106,u107,u108,u109,u110,u111,u112,u113,u114,u115,u116,u117,u118,u119,u120,u121,u122,v123,v124],[]⟩ W) :
    (zw Try.f14 3).wp Try.prog (Exit.then K Q) ⟨#[.string a,.string b,v2,v3,v4,v5,v6,v7,v8,v9,v10,.map (some mb),.pointer (some ⟨gG,0,none⟩),v13,v14,vout,.int .i64 (i : Int),.int .i64 (j : Int),.int .u8 3,v19,v20,v21,v22,v23,v24,v25,v26,v27,v28,v29,v30,v31,v32,v33,v34,v35,v36,v37,v38,v39,v40,v41,v42,v43,v44,v45,v46,v47,v48,v49,v50,v51,v52,v53,v54,v55,v56,v57,v58,v59,v60,v61,v62,v63,v64,v65,v66,v67,v68,v69,v70,v71,v72,v73,v74,v75,v76,v77,v78,v79,v80,v81,v82,v83,v84,v85,v86,v87,v88,v89,v90,v91,v92,v93,v94,v95,v96,v97,v98,v99,v100,v101,v102,v103,v104,v105,v106,v107,v108,v109,v110,v111,v112,v113,v114,v115,v116,v117,v118,v119,v120,v121,v122,v123,v124],[]⟩ wr:=by
  have HK:=Lib.hid hK
  clear hK
  have H1:=Lib.hid h1
  have H2:=Lib.hid h2
  clear h1 h2
  have l1:=(qX hP.drew.p.fits).2.2.1
  have l2:=(qX (hP.alloc (.cells #[.int .i64 0,.int .i64 0,.int .i64 0,.int .u8 0,.int .u8 0] 73)).drew.p.fits).2.2.1
  have b1:=Lib.hid hP.drew.p.fits.2
  have b2:=Lib.hid (hP.alloc (.cells #[.int .i64 0,.int .i64 0,.int .i64 0,.int .u8 0,.int .u8 0] 73)).drew.p.fits.2
  conv => arg 2;whnf
  go_wp2
  refine wp_region_noPanic ?_
  go_region_with (go_at_call 37;first|(refine (hyes _ b1.out).mono ?_;rintro e W1 ⟨rfl,hb1⟩;have hQ:=hP.drew.keep hb1;try dsimp only [jl])|(refine (hyes _ b2.out).mono ?_;rintro e W1 ⟨rfl,hb1⟩;have hQ:=(hP.alloc (.cells #[.int .i64 0,.int .i64 0,.int .i64 0,.int .u8 0,.int .u8 0] 73)).drew.keep hb1;have hz:=(hb1.block wr.heap.size (by simp)).trans (jc wr (.cells #[.int .i64 0,.int .i64 0,.int .i64 0,.int .u8 0,.int .u8 0] 73));have y0_:=(qi hz 0).trans rfl;have y1_:=(qi hz 1).trans rfl;have y2_:=(qi hz 2).trans rfl;have y3_:=(qi hz 3).trans rfl;have y4_:=(qi hz 4).trans rfl;have f0_:=ql hz 0;have f1_:=ql hz 1;have f2_:=ql hz 2;have f3_:=ql hz 3;have f4_:=ql hz 4;try dsimp only [jl]))
  all_goals refine NoPanic.normal ?_
  all_goals go_simp
  all_goals
    first
    | (have hR:=hQ.alloc (.cells #[.int .i64 2,.int .i64 2,.int .i64 nn,.int .u8 kk,.int .u8 bb] 73)
       have hS : SBox (W1.alloc (.cells #[.int .i64 2,.int .i64 2,.int .i64 nn,.int .u8 kk,.int .u8 bb] 73)) W1.heap.size 2 2 nn kk bb:=jc _ _
       clear hQ hb1 l1 l2 b1 b2
       revert hR hS
       generalize W1.alloc (.cells #[.int .i64 2,.int .i64 2,.int .i64 nn,.int .u8 kk,.int .u8 bb] 73) = W2
       generalize W1.heap.size = gb
       fail_if_success (have:=hz)
       intro hR hS)
    | (obtain ⟨hR,hS⟩:=hQ.put5 hz hP.p.below.size 2 2 nn kk bb
       clear y0_ y1_ y2_ y3_ y4_ f0_ f1_ f2_ f3_ f4_ hz hQ hb1 l1 l2 b1 b2
       revert hR hS
       generalize ((((W1.setCell ⟨wr.heap.size,0,none⟩ (.int .i64 2)).setCell ⟨wr.heap.size,1,none⟩ (.int .i64 2)).setCell ⟨wr.heap.size,2,none⟩ (.int .i64 nn)).setCell ⟨wr.heap.size,3,none⟩ (.int .u8 kk)).setCell ⟨wr.heap.size,4,none⟩ (.int .u8 bb) = W2
       generalize wr.heap.size = gb
       intro hR hS)
  all_goals
    obtain ⟨y0,y1,y2,y3,y4⟩:=hS.cells
    have g1:=(hR.p.at_ ((i + 2) * 61 + (j + 2)) (by omega)).trans (by rw [H1.out])
    have g2:=(hR.p.at_ (i * 61 + j) (by omega)).trans (by rw [H2.out])
    have w1_ : IntKind.i64.wrap ((i : Int) + 2) = (i : Int) + 2:=IntWalk.i64_in _ (by omega)
    have w2_ : IntKind.i64.wrap ((j : Int) + 2) = (j : Int) + 2:=IntWalk.i64_in _ (by omega)
    have w3_ : ((i : Int) + 2).toNat = i + 2:=by omega
    have w4_ : ((j : Int) + 2).toNat = j + 2:=by omega
    have w5_ : (i : Int) + 2 < 61:=by omega
    have w6_ : (j : Int) + 2 < 61:=by omega
    have w7_ : 0 ≤ (i : Int) + 2:=by omega
    have w8_ : 0 ≤ (j : Int) + 2:=by omega
    have w9_ : IntKind.i64.wrap (nn + D1) = nn + D1:=IntWalk.i64_in _ (by omega)
    have wa_ : (i : Int) < 61:=by omega
    have wb_ : (j : Int) < 61:=by omega
    go_wp2
    go_quiet (fail)
    clear w1_ w2_ w3_ w4_ w5_ w6_ w7_ w8_ w9_ wa_ wb_
    have hR2:=hR.drewN nq
    revert hR2
    have y0' : (W2.drewN nq).cell? ⟨gb,0,none⟩ = _:=y0
    have y1' : (W2.drewN nq).cell? ⟨gb,1,none⟩ = _:=y1
    have y3' : (W2.drewN nq).cell? ⟨gb,3,none⟩ = _:=y3
    have y4' : (W2.drewN nq).cell? ⟨gb,4,none⟩ = _:=y4
    have hz' : SBox (W2.drewN nq) gb _ _ _ _ _:=hS
    revert y0' y1' y3' y4' hz'
    clear y0 y1 y2 y3 y4 g1 g2 hR hS
    generalize W2.drewN nq = W3
    intro y0 y1 y3 y4 hz hR
    go_wp2_with (at_builtin;refine Kd.zo k38 (w0:=w) w.heap.size rfl (.tmp 110) (.tmp 113) 33 38 (.agg #[(.int .u8 0),(.int .u8 0)]) 2 rfl Try.underlying33 vo rfl (by decide) (by omega) vout acc (⟨kk,bb⟩ : S38) [.int .u8 kk,.int .u8 bb] (fun _ => True) (fun _ => False) rfl rfl (xC _ _ _ _) (fun _ h => h.elim) (fun _ _ => trivial) hR.r hR.p.below hR.p.below.size (by omega) ?_;intro v1 w1 HO1 HB1 hg1 _;have hR1 : PR w w1 mb g gG c G v1 (acc ++ [⟨kk,bb⟩]):=⟨(hR.p.grown hR.r hg1 HB1),HO1⟩;have z1 : SBox w1 gb _ _ _ _ _:=(hg1.block gb (jw hz) (Q7 hR.r hz)).trans hz;obtain ⟨y0,y1,y2,y3,y4⟩:=z1.cells)
    exact HK.out _ _ _ _ _ _ _ _ _ _ _ _ _ _ _ _ _ _ _ _ _ _ _ _ _ _ _ _ _ _ _ _ _ _ _ _ _ _ _ _ _ _ _ _ _ _ _ _ _ _ _ _ _ _ _ _ _ hR1
end Go.Proofs.Ytdefecnngccmoaa.Ed
namespace Go.Proofs.Ytdefecnngccmoaa.Ed
open Go.RowKit Go.Proofs.YtdefecnngccmoaaW.PrintWords QTells
set_option maxRecDepth 1000000 in
set_option maxHeartbeats 40000000 in
theorem QK (a b : ByteArray) (ha : a.size ≤ 60) (hb : b.size ≤ 60) (c : Lb.Cst) (w : World) (mb g gG i j : Nat) (G : List Int) (vout : Value) (acc : List S38) (hi : (i : Int) ≤ a.size) (hj : (j : Int) ≤ b.size)
    (nn kk bb D1 D2 : Int) (hyes : ∀ W,Box W g c → Calls Try.prog 38 #[.string (a.extract i a.size),.string (b.extract j b.size),.pointer (some ⟨g,0,none⟩)] W (zf 1 0 nn kk bb true W)) (hx : i + 1 ≤ 60) (hy : j ≤ 60) (h1 : G.getD ((i + 1) * 61 + (j)) 0 = D1) (h2 : G.getD (i * 61 + j) 0 = D2) (d1 : 0 ≤ D1) (d2 : D1 ≤ 120000) (n1 : 0 ≤ nn) (n2 : nn ≤ 1000) (hd : (nn + D1 == D2) = false)
    (K : Act → World → Prop) (Q : Exit → Act → World → Prop) (wr : World) (hP : PR w wr mb g gG c G vout acc) (v2 v3 v4 v5 v6 v7 v8 v9 v10 v13 v14 v19 v20 v21 v22 v23 v24 v25 v26 v27 v28 v29 v30 v31 v32 v33 v34 v35 v36 v37 v38 v39 v40 v41 v42 v43 v44 v45 v46 v47 v48 v49 v50 v51 v52 v53 v54 v55 v56 v57 v58 v59 v60 v61 v62 v63 v64 v65 v66 v67 v68 v69 v70 v71 v72 v73 v74 v75 v76 v77 v78 v79 v80 v81 v82 v83 v84 v85 v86 v87 v88 v89 v90 v91 v92 v93 v94 v95 v96 v97 v98 v99 v100 v101 v102 v103 v104 v105 v106 v107 v108 v109 v110 v111 v112 v113 v114 v115 v116 v117 v118 v119 v120 v121 v122 v123 v124 : Value)
    (hK : ∀ (u19 u20 u70 u71 u72 u73 u74 u75 u76 u77 u78 u79 u80 u81 u82 u83 u84 u85 u86 u87 u88 u89 u90 u91 u92 u93 u94 u95 u96 u97 u98 u99 u100 u101 u102 u103 u104 u105 u106 u107 u108 u109 u110 u111 u112 u113 u114 u115 u116 u117 u118 u119 u120 u121 u122 : Value) (W : World),PR w W mb g gG c G vout acc → K ⟨#[.string a,.string b,v2,v3,v4,v5,v6,v7,v8,v9,v10,.map (some mb),.pointer (some ⟨gG,0,none⟩),v13,v14,vout,.int .i64 (i : Int),.int .i64 (j : Int),.int .u8 5,u19,u20,v21,v22,v23,v24,v25,v26,v27,v28,v29,v30,v31,v32,v33,v34,v35,v36,v37,v38,v39,v40,v41,v42,v43,v44,v45,v46,v47,v48,v49,v50,v51,v52,v53,v54,v55,v56,v57,v58,v59,v60,v61,v62,v63,v64,v65,v66,v67,v68,v69,u70,u71,u72,u73,u74,u75,u76,u77,u78,u79,u80,u81,u82,u83,u84,u85,u86,u87,u88,u89,u90,u91,u92,u93,u94,u95,u96,u97,u98,u99,u100,u101,u102,u103,u104,u105,u106,u107,u108,u109,u110,u111,u112,u113,u114,u115,u116,u117,u118,u119,u120,u121,u122,v123,v124],[]⟩ W) :
    (zw Try.f14 3).wp Try.prog (Exit.then K Q) ⟨#[.string a,.string b,v2,v3,v4,v5,v6,v7,v8,v9,v10,.map (some mb),.pointer (some ⟨gG,0,none⟩),v13,v14,vout,.int .i64 (i : Int),.int .i64 (j : Int),.int .u8 4,v19,v20,v21,v22,v23,v24,v25,v26,v27,v28,v29,v30,v31,v32,v33,v34,v35,v36,v37,v38,v39,v40,v41,v42,v43,v44,v45,v46,v47,v48,v49,v50,v51,v52,v53,v54,v55,v56,v57,v58,v59,v60,v61,v62,v63,v64,v65,v66,v67,v68,v69,v70,v71,v72,v73,v74,v75,v76,v77,v78,v79,v80,v81,v82,v83,v84,v85,v86,v87,v88,v89,v90,v91,v92,v93,v94,v95,v96,v97,v98,v99,v100,v101,v102,v103,v104,v105,v106,v107,v108,v109,v110,v111,v112,v113,v114,v115,v116,v117,v118,v119,v120,v121,v122,v123,v124],[]⟩ wr:=by
  have HK:=Lib.hid hK
  clear hK
  have H1:=Lib.hid h1
  have H2:=Lib.hid h2
  clear h1 h2
  have l1:=(qX hP.drew.p.fits).2.2.2.1
  have l2:=(qX (hP.alloc (.cells #[.int .i64 0,.int .i64 0,.int .i64 0,.int .u8 0,.int .u8 0] 73)).drew.p.fits).2.2.2.1
  have b1:=Lib.hid hP.drew.p.fits.2
  have b2:=Lib.hid (hP.alloc (.cells #[.int .i64 0,.int .i64 0,.int .i64 0,.int .u8 0,.int .u8 0] 73)).drew.p.fits.2
  conv => arg 2;whnf
  go_wp2
  refine wp_region_noPanic ?_
  go_region_with (go_at_call 38;first|(refine (hyes _ b1.out).mono ?_;rintro e W1 ⟨rfl,hb1⟩;have hQ:=hP.drew.keep hb1;try dsimp only [jl])|(refine (hyes _ b2.out).mono ?_;rintro e W1 ⟨rfl,hb1⟩;have hQ:=(hP.alloc (.cells #[.int .i64 0,.int .i64 0,.int .i64 0,.int .u8 0,.int .u8 0] 73)).drew.keep hb1;have hz:=(hb1.block wr.heap.size (by simp)).trans (jc wr (.cells #[.int .i64 0,.int .i64 0,.int .i64 0,.int .u8 0,.int .u8 0] 73));have y0_:=(qi hz 0).trans rfl;have y1_:=(qi hz 1).trans rfl;have y2_:=(qi hz 2).trans rfl;have y3_:=(qi hz 3).trans rfl;have y4_:=(qi hz 4).trans rfl;have f0_:=ql hz 0;have f1_:=ql hz 1;have f2_:=ql hz 2;have f3_:=ql hz 3;have f4_:=ql hz 4;try dsimp only [jl]))
  all_goals refine NoPanic.normal ?_
  all_goals go_simp
  all_goals
    first
    | (have hR:=hQ.alloc (.cells #[.int .i64 1,.int .i64 0,.int .i64 nn,.int .u8 kk,.int .u8 bb] 73)
       have hS : SBox (W1.alloc (.cells #[.int .i64 1,.int .i64 0,.int .i64 nn,.int .u8 kk,.int .u8 bb] 73)) W1.heap.size 1 0 nn kk bb:=jc _ _
       clear hQ hb1 l1 l2 b1 b2
       revert hR hS
       generalize W1.alloc (.cells #[.int .i64 1,.int .i64 0,.int .i64 nn,.int .u8 kk,.int .u8 bb] 73) = W2
       generalize W1.heap.size = gb
       fail_if_success (have:=hz)
       intro hR hS)
    | (obtain ⟨hR,hS⟩:=hQ.put5 hz hP.p.below.size 1 0 nn kk bb
       clear y0_ y1_ y2_ y3_ y4_ f0_ f1_ f2_ f3_ f4_ hz hQ hb1 l1 l2 b1 b2
       revert hR hS
       generalize ((((W1.setCell ⟨wr.heap.size,0,none⟩ (.int .i64 1)).setCell ⟨wr.heap.size,1,none⟩ (.int .i64 0)).setCell ⟨wr.heap.size,2,none⟩ (.int .i64 nn)).setCell ⟨wr.heap.size,3,none⟩ (.int .u8 kk)).setCell ⟨wr.heap.size,4,none⟩ (.int .u8 bb) = W2
       generalize wr.heap.size = gb
       intro hR hS)
  all_goals
    obtain ⟨y0,y1,y2,y3,y4⟩:=hS.cells
    have g1:=(hR.p.at_ ((i + 1) * 61 + (j)) (by omega)).trans (by rw [H1.out])
    have g2:=(hR.p.at_ (i * 61 + j) (by omega)).trans (by rw [H2.out])
    have w1_ : IntKind.i64.wrap ((i : Int) + 1) = (i : Int) + 1:=IntWalk.i64_in _ (by omega)
    have w2_ : IntKind.i64.wrap ((j : Int)) = (j : Int):=IntWalk.i64_in _ (by omega)
    have w3_ : ((i : Int) + 1).toNat = i + 1:=by omega
    have w4_ : ((j : Int)).toNat = j:=by omega
    have w5_ : (i : Int) + 1 < 61:=by omega
    have w6_ : (j : Int) < 61:=by omega
    have w7_ : 0 ≤ (i : Int) + 1:=by omega
    have w8_ : 0 ≤ (j : Int):=by omega
    have w9_ : IntKind.i64.wrap (nn + D1) = nn + D1:=IntWalk.i64_in _ (by omega)
    have wa_ : (i : Int) < 61:=by omega
    have wb_ : (j : Int) < 61:=by omega
    go_wp2
    go_quiet (fail)
    clear w1_ w2_ w3_ w4_ w5_ w6_ w7_ w8_ w9_ wa_ wb_
    go_wp2
    exact HK.out _ _ _ _ _ _ _ _ _ _ _ _ _ _ _ _ _ _ _ _ _ _ _ _ _ _ _ _ _ _ _ _ _ _ _ _ _ _ _ _ _ _ _ _ _ _ _ _ _ _ _ _ _ _ _ _ (hR.drewN _)
end Go.Proofs.Ytdefecnngccmoaa.Ed
namespace Go.Proofs.Ytdefecnngccmoaa.Ed
open Go.RowKit Go.Proofs.YtdefecnngccmoaaW.PrintWords QTells
set_option maxRecDepth 1000000 in
set_option maxHeartbeats 40000000 in
theorem yM (a b : ByteArray) (ha : a.size ≤ 60) (hb : b.size ≤ 60) (c : Lb.Cst) (w : World) (mb g gG i j : Nat) (G : List Int) (vout : Value) (acc : List S38) (hi : (i : Int) ≤ a.size) (hj : (j : Int) ≤ b.size)
    (nn kk bb D1 D2 : Int) (hyes : ∀ W,Box W g c → Calls Try.prog 38 #[.string (a.extract i a.size),.string (b.extract j b.size),.pointer (some ⟨g,0,none⟩)] W (zf 1 0 nn kk bb true W)) (hx : i + 1 ≤ 60) (hy : j ≤ 60) (h1 : G.getD ((i + 1) * 61 + (j)) 0 = D1) (h2 : G.getD (i * 61 + j) 0 = D2) (d1 : 0 ≤ D1) (d2 : D1 ≤ 120000) (n1 : 0 ≤ nn) (n2 : nn ≤ 1000) (hd : (nn + D1 == D2) = true) (hn : acc.length ≤ 1000)
    (K : Act → World → Prop) (Q : Exit → Act → World → Prop) (wr : World) (hP : PR w wr mb g gG c G vout acc) (v2 v3 v4 v5 v6 v7 v8 v9 v10 v13 v14 v19 v20 v21 v22 v23 v24 v25 v26 v27 v28 v29 v30 v31 v32 v33 v34 v35 v36 v37 v38 v39 v40 v41 v42 v43 v44 v45 v46 v47 v48 v49 v50 v51 v52 v53 v54 v55 v56 v57 v58 v59 v60 v61 v62 v63 v64 v65 v66 v67 v68 v69 v70 v71 v72 v73 v74 v75 v76 v77 v78 v79 v80 v81 v82 v83 v84 v85 v86 v87 v88 v89 v90 v91 v92 v93 v94 v95 v96 v97 v98 v99 v100 v101 v102 v103 v104 v105 v106 v107 v108 v109 v110 v111 v112 v113 v114 v115 v116 v117 v118 v119 v120 v121 v122 v123 v124 : Value)
    (hK : ∀ (u19 u20 u70 u71 u72 u73 u74 u75 u76 u77 u78 u79 u80 u81 u82 u83 u84 u85 u86 u87 u88 u89 u90 u91 u92 u93 u94 u95 u96 u97 u98 u99 u100 u101 u102 u103 u104 u105 u106 u107 u108 u109 u110 u111 u112 u113 u114 u115 u116 u117 u118 u119 u120 u121 u122 v' : Value) (W : World),PR w W mb g gG c G v' (acc ++ [⟨kk,bb⟩]) → Q (.exit 5) ⟨#[.string a,.string b,v2,v3,v4,v5,v6,v7,v8,v9,v10,.map (some mb),.pointer (some ⟨gG,0,none⟩),v13,v14,v',.int .i64 ((i : Int) + 1),.int .i64 ((j : Int)),.int .u8 4,u19,u20,v21,v22,v23,v24,v25,v26,v27,v28,v29,v30,v31,v32,v33,v34,v35,v36,v37,v38,v39,v40,v41,v42,v43,v44,v45,v46,v47,v48,v49,v50,v51,v52,v53,v54,v55,v56,v57,v58,v59,v60,v61,v62,v63,v64,v65,v66,v67,v68,v69,u70,u71,u72,u73,u74,u75,u76,u77,u78,u79,u80,u81,u82,u83,u84,u85,u86,u87,u88,u89,u90,u91,u92,u93,u94,u95,u96,u97,u98,u99,u100,u101,u102,u103,u104,u105,u106,u107,u108,u109,u110,u111,u112,u113,u114,u115,u116,u117,u118,u119,u120,u121,u122,v123,v124],[]⟩ W) :
    (zw Try.f14 3).wp Try.prog (Exit.then K Q) ⟨#[.string a,.string b,v2,v3,v4,v5,v6,v7,v8,v9,v10,.map (some mb),.pointer (some ⟨gG,0,none⟩),v13,v14,vout,.int .i64 (i : Int),.int .i64 (j : Int),.int .u8 4,v19,v20,v21,v22,v23,v24,v25,v26,v27,v28,v29,v30,v31,v32,v33,v34,v35,v36,v37,v38,v39,v40,v41,v42,v43,v44,v45,v46,v47,v48,v49,v50,v51,v52,v53,v54,v55,v56,v57,v58,v59,v60,v61,v62,v63,v64,v65,v66,v67,v68,v69,v70,v71,v72,v73,v74,v75,v76,v77,v78,v79,v80,v81,v82,v83,v84,v85,v86,v87,v88,v89,v90,v91,v92,v93,v94,v95,v96,v97,v98,v99,v100,v101,v102,v103,v104,v105,v106,v107,v108,v109,v110,v111,v112,v113,v114,v115,v116,v117,v118,v119,v120,v121,v122,v123,v124],[]⟩ wr:=by
  have HK:=Lib.hid hK
  clear hK
  have H1:=Lib.hid h1
  have H2:=Lib.hid h2
  clear h1 h2
  have l1:=(qX hP.drew.p.fits).2.2.2.1
  have l2:=(qX (hP.alloc (.cells #[.int .i64 0,.int .i64 0,.int .i64 0,.int .u8 0,.int .u8 0] 73)).drew.p.fits).2.2.2.1
  have b1:=Lib.hid hP.drew.p.fits.2
  have b2:=Lib.hid (hP.alloc (.cells #[.int .i64 0,.int .i64 0,.int .i64 0,.int .u8 0,.int .u8 0] 73)).drew.p.fits.2
  conv => arg 2;whnf
  go_wp2
  refine wp_region_noPanic ?_
  go_region_with (go_at_call 38;first|(refine (hyes _ b1.out).mono ?_;rintro e W1 ⟨rfl,hb1⟩;have hQ:=hP.drew.keep hb1;try dsimp only [jl])|(refine (hyes _ b2.out).mono ?_;rintro e W1 ⟨rfl,hb1⟩;have hQ:=(hP.alloc (.cells #[.int .i64 0,.int .i64 0,.int .i64 0,.int .u8 0,.int .u8 0] 73)).drew.keep hb1;have hz:=(hb1.block wr.heap.size (by simp)).trans (jc wr (.cells #[.int .i64 0,.int .i64 0,.int .i64 0,.int .u8 0,.int .u8 0] 73));have y0_:=(qi hz 0).trans rfl;have y1_:=(qi hz 1).trans rfl;have y2_:=(qi hz 2).trans rfl;have y3_:=(qi hz 3).trans rfl;have y4_:=(qi hz 4).trans rfl;have f0_:=ql hz 0;have f1_:=ql hz 1;have f2_:=ql hz 2;have f3_:=ql hz 3;have f4_:=ql hz 4;try dsimp only [jl]))
  all_goals refine NoPanic.normal ?_
  all_goals go_simp
  all_goals
    first
    | (have hR:=hQ.alloc (.cells #[.int .i64 1,.int .i64 0,.int .i64 nn,.int .u8 kk,.int .u8 bb] 73)
       have hS : SBox (W1.alloc (.cells #[.int .i64 1,.int .i64 0,.int .i64 nn,.int .u8 kk,.int .u8 bb] 73)) W1.heap.size 1 0 nn kk bb:=jc _ _
       clear hQ hb1 l1 l2 b1 b2
       revert hR hS
       generalize W1.alloc (.cells #[.int .i64 1,.int .i64 0,.int .i64 nn,.int .u8 kk,.int .u8 bb] 73) = W2
       generalize W1.heap.size = gb
       fail_if_success (have:=hz)
       intro hR hS)
    | (obtain ⟨hR,hS⟩:=hQ.put5 hz hP.p.below.size 1 0 nn kk bb
       clear y0_ y1_ y2_ y3_ y4_ f0_ f1_ f2_ f3_ f4_ hz hQ hb1 l1 l2 b1 b2
       revert hR hS
       generalize ((((W1.setCell ⟨wr.heap.size,0,none⟩ (.int .i64 1)).setCell ⟨wr.heap.size,1,none⟩ (.int .i64 0)).setCell ⟨wr.heap.size,2,none⟩ (.int .i64 nn)).setCell ⟨wr.heap.size,3,none⟩ (.int .u8 kk)).setCell ⟨wr.heap.size,4,none⟩ (.int .u8 bb) = W2
       generalize wr.heap.size = gb
       intro hR hS)
  all_goals
    obtain ⟨y0,y1,y2,y3,y4⟩:=hS.cells
    have g1:=(hR.p.at_ ((i + 1) * 61 + (j)) (by omega)).trans (by rw [H1.out])
    have g2:=(hR.p.at_ (i * 61 + j) (by omega)).trans (by rw [H2.out])
    have w1_ : IntKind.i64.wrap ((i : Int) + 1) = (i : Int) + 1:=IntWalk.i64_in _ (by omega)
    have w2_ : IntKind.i64.wrap ((j : Int)) = (j : Int):=IntWalk.i64_in _ (by omega)
    have w3_ : ((i : Int) + 1).toNat = i + 1:=by omega
    have w4_ : ((j : Int)).toNat = j:=by omega
    have w5_ : (i : Int) + 1 < 61:=by omega
    have w6_ : (j : Int) < 61:=by omega
    have w7_ : 0 ≤ (i : Int) + 1:=by omega
    have w8_ : 0 ≤ (j : Int):=by omega
    have w9_ : IntKind.i64.wrap (nn + D1) = nn + D1:=IntWalk.i64_in _ (by omega)
    have wa_ : (i : Int) < 61:=by omega
    have wb_ : (j : Int) < 61:=by omega
    go_wp2
    go_quiet (fail)
    clear w1_ w2_ w3_ w4_ w5_ w6_ w7_ w8_ w9_ wa_ wb_
    have hR2:=hR.drewN nq
    revert hR2
    have y0' : (W2.drewN nq).cell? ⟨gb,0,none⟩ = _:=y0
    have y1' : (W2.drewN nq).cell? ⟨gb,1,none⟩ = _:=y1
    have y3' : (W2.drewN nq).cell? ⟨gb,3,none⟩ = _:=y3
    have y4' : (W2.drewN nq).cell? ⟨gb,4,none⟩ = _:=y4
    have hz' : SBox (W2.drewN nq) gb _ _ _ _ _:=hS
    revert y0' y1' y3' y4' hz'
    clear y0 y1 y2 y3 y4 g1 g2 hR hS
    generalize W2.drewN nq = W3
    intro y0 y1 y3 y4 hz hR
    go_wp2_with (at_builtin;refine Kd.zo k38 (w0:=w) w.heap.size rfl (.tmp 110) (.tmp 113) 33 38 (.agg #[(.int .u8 0),(.int .u8 0)]) 2 rfl Try.underlying33 vo rfl (by decide) (by omega) vout acc (⟨kk,bb⟩ : S38) [.int .u8 kk,.int .u8 bb] (fun _ => True) (fun _ => False) rfl rfl (xC _ _ _ _) (fun _ h => h.elim) (fun _ _ => trivial) hR.r hR.p.below hR.p.below.size (by omega) ?_;intro v1 w1 HO1 HB1 hg1 _;have hR1 : PR w w1 mb g gG c G v1 (acc ++ [⟨kk,bb⟩]):=⟨(hR.p.grown hR.r hg1 HB1),HO1⟩;have z1 : SBox w1 gb _ _ _ _ _:=(hg1.block gb (jw hz) (Q7 hR.r hz)).trans hz;obtain ⟨y0,y1,y2,y3,y4⟩:=z1.cells)
    exact HK.out _ _ _ _ _ _ _ _ _ _ _ _ _ _ _ _ _ _ _ _ _ _ _ _ _ _ _ _ _ _ _ _ _ _ _ _ _ _ _ _ _ _ _ _ _ _ _ _ _ _ _ _ _ _ _ _ _ hR1
end Go.Proofs.Ytdefecnngccmoaa.Ed
namespace Go.Proofs.Ytdefecnngccmoaa.Ed
open Go.RowKit Go.Proofs.YtdefecnngccmoaaW.PrintWords QTells
set_option maxRecDepth 1000000 in
set_option maxHeartbeats 40000000 in
theorem yL (a b : ByteArray) (ha : a.size ≤ 60) (hb : b.size ≤ 60) (c : Lb.Cst) (w : World) (mb g gG i j : Nat) (G : List Int) (vout : Value) (acc : List S38) (hi : (i : Int) ≤ a.size) (hj : (j : Int) ≤ b.size)
    (nn kk bb D1 D2 : Int) (hyes : ∀ W,Box W g c → Calls Try.prog 39 #[.string (a.extract i a.size),.string (b.extract j b.size),.pointer (some ⟨g,0,none⟩)] W (zf 0 1 nn kk bb true W)) (hx : i ≤ 60) (hy : j + 1 ≤ 60) (h1 : G.getD ((i) * 61 + (j + 1)) 0 = D1) (h2 : G.getD (i * 61 + j) 0 = D2) (d1 : 0 ≤ D1) (d2 : D1 ≤ 120000) (n1 : 0 ≤ nn) (n2 : nn ≤ 1000) (hd : (nn + D1 == D2) = true) (hn : acc.length ≤ 1000)
    (K : Act → World → Prop) (Q : Exit → Act → World → Prop) (wr : World) (hP : PR w wr mb g gG c G vout acc) (v2 v3 v4 v5 v6 v7 v8 v9 v10 v13 v14 v19 v20 v21 v22 v23 v24 v25 v26 v27 v28 v29 v30 v31 v32 v33 v34 v35 v36 v37 v38 v39 v40 v41 v42 v43 v44 v45 v46 v47 v48 v49 v50 v51 v52 v53 v54 v55 v56 v57 v58 v59 v60 v61 v62 v63 v64 v65 v66 v67 v68 v69 v70 v71 v72 v73 v74 v75 v76 v77 v78 v79 v80 v81 v82 v83 v84 v85 v86 v87 v88 v89 v90 v91 v92 v93 v94 v95 v96 v97 v98 v99 v100 v101 v102 v103 v104 v105 v106 v107 v108 v109 v110 v111 v112 v113 v114 v115 v116 v117 v118 v119 v120 v121 v122 v123 v124 : Value)
    (hK : ∀ (u19 u20 u70 u71 u72 u73 u74 u75 u76 u77 u78 u79 u80 u81 u82 u83 u84 u85 u86 u87 u88 u89 u90 u91 u92 u93 u94 u95 u96 u97 u98 u99 u100 u101 u102 u103 u104 u105 u106 u107 u108 u109 u110 u111 u112 u113 u114 u115 u116 u117 u118 u119 u120 u121 u122 v' : Value) (W : World),PR w W mb g gG c G v' (acc ++ [⟨kk,bb⟩]) → Q (.exit 5) ⟨#[.string a,.string b,v2,v3,v4,v5,v6,v7,v8,v9,v10,.map (some mb),.pointer (some ⟨gG,0,none⟩),v13,v14,v',.int .i64 ((i : Int)),.int .i64 ((j : Int) + 1),.int .u8 5,u19,u20,v21,v22,v23,v24,v25,v26,v27,v28,v29,v30,v31,v32,v33,v34,v35,v36,v37,v38,v39,v40,v41,v42,v43,v44,v45,v46,v47,v48,v49,v50,v51,v52,v53,v54,v55,v56,v57,v58,v59,v60,v61,v62,v63,v64,v65,v66,v67,v68,v69,u70,u71,u72,u73,u74,u75,u76,u77,u78,u79,u80,u81,u82,u83,u84,u85,u86,u87,u88,u89,u90,u91,u92,u93,u94,u95,u96,u97,u98,u99,u100,u101,u102,u103,u104,u105,u106,u107,u108,u109,u110,u111,u112,u113,u114,u115,u116,u117,u118,u119,u120,u121,u122,v123,v124],[]⟩ W) :
    (zw Try.f14 3).wp Try.prog (Exit.then K Q) ⟨#[.string a,.string b,v2,v3,v4,v5,v6,v7,v8,v9,v10,.map (some mb),.pointer (some ⟨gG,0,none⟩),v13,v14,vout,.int .i64 (i : Int),.int .i64 (j : Int),.int .u8 5,v19,v20,v21,v22,v23,v24,v25,v26,v27,v28,v29,v30,v31,v32,v33,v34,v35,v36,v37,v38,v39,v40,v41,v42,v43,v44,v45,v46,v47,v48,v49,v50,v51,v52,v53,v54,v55,v56,v57,v58,v59,v60,v61,v62,v63,v64,v65,v66,v67,v68,v69,v70,v71,v72,v73,v74,v75,v76,v77,v78,v79,v80,v81,v82,v83,v84,v85,v86,v87,v88,v89,v90,v91,v92,v93,v94,v95,v96,v97,v98,v99,v100,v101,v102,v103,v104,v105,v106,v107,v108,v109,v110,v111,v112,v113,v114,v115,v116,v117,v118,v119,v120,v121,v122,v123,v124],[]⟩ wr:=by
  have HK:=Lib.hid hK
  clear hK
  have H1:=Lib.hid h1
  have H2:=Lib.hid h2
  clear h1 h2
  have l1:=(qX hP.drew.p.fits).2.2.2.2
  have l2:=(qX (hP.alloc (.cells #[.int .i64 0,.int .i64 0,.int .i64 0,.int .u8 0,.int .u8 0] 73)).drew.p.fits).2.2.2.2
  have b1:=Lib.hid hP.drew.p.fits.2
  have b2:=Lib.hid (hP.alloc (.cells #[.int .i64 0,.int .i64 0,.int .i64 0,.int .u8 0,.int .u8 0] 73)).drew.p.fits.2
  conv => arg 2;whnf
  go_wp2
  refine wp_region_noPanic ?_
  go_region_with (go_at_call 39;first|(refine (hyes _ b1.out).mono ?_;rintro e W1 ⟨rfl,hb1⟩;have hQ:=hP.drew.keep hb1;try dsimp only [jl])|(refine (hyes _ b2.out).mono ?_;rintro e W1 ⟨rfl,hb1⟩;have hQ:=(hP.alloc (.cells #[.int .i64 0,.int .i64 0,.int .i64 0,.int .u8 0,.int .u8 0] 73)).drew.keep hb1;have hz:=(hb1.block wr.heap.size (by simp)).trans (jc wr (.cells #[.int .i64 0,.int .i64 0,.int .i64 0,.int .u8 0,.int .u8 0] 73));have y0_:=(qi hz 0).trans rfl;have y1_:=(qi hz 1).trans rfl;have y2_:=(qi hz 2).trans rfl;have y3_:=(qi hz 3).trans rfl;have y4_:=(qi hz 4).trans rfl;have f0_:=ql hz 0;have f1_:=ql hz 1;have f2_:=ql hz 2;have f3_:=ql hz 3;have f4_:=ql hz 4;try dsimp only [jl]))
  all_goals refine NoPanic.normal ?_
  all_goals go_simp
  all_goals
    first
    | (have hR:=hQ.alloc (.cells #[.int .i64 0,.int .i64 1,.int .i64 nn,.int .u8 kk,.int .u8 bb] 73)
       have hS : SBox (W1.alloc (.cells #[.int .i64 0,.int .i64 1,.int .i64 nn,.int .u8 kk,.int .u8 bb] 73)) W1.heap.size 0 1 nn kk bb:=jc _ _
       clear hQ hb1 l1 l2 b1 b2
       revert hR hS
       generalize W1.alloc (.cells #[.int .i64 0,.int .i64 1,.int .i64 nn,.int .u8 kk,.int .u8 bb] 73) = W2
       generalize W1.heap.size = gb
       fail_if_success (have:=hz)
       intro hR hS)
    | (obtain ⟨hR,hS⟩:=hQ.put5 hz hP.p.below.size 0 1 nn kk bb
       clear y0_ y1_ y2_ y3_ y4_ f0_ f1_ f2_ f3_ f4_ hz hQ hb1 l1 l2 b1 b2
       revert hR hS
       generalize ((((W1.setCell ⟨wr.heap.size,0,none⟩ (.int .i64 0)).setCell ⟨wr.heap.size,1,none⟩ (.int .i64 1)).setCell ⟨wr.heap.size,2,none⟩ (.int .i64 nn)).setCell ⟨wr.heap.size,3,none⟩ (.int .u8 kk)).setCell ⟨wr.heap.size,4,none⟩ (.int .u8 bb) = W2
       generalize wr.heap.size = gb
       intro hR hS)
  all_goals
    obtain ⟨y0,y1,y2,y3,y4⟩:=hS.cells
    have g1:=(hR.p.at_ ((i) * 61 + (j + 1)) (by omega)).trans (by rw [H1.out])
    have g2:=(hR.p.at_ (i * 61 + j) (by omega)).trans (by rw [H2.out])
    have w1_ : IntKind.i64.wrap ((i : Int)) = (i : Int):=IntWalk.i64_in _ (by omega)
    have w2_ : IntKind.i64.wrap ((j : Int) + 1) = (j : Int) + 1:=IntWalk.i64_in _ (by omega)
    have w3_ : ((i : Int)).toNat = i:=by omega
    have w4_ : ((j : Int) + 1).toNat = j + 1:=by omega
    have w5_ : (i : Int) < 61:=by omega
    have w6_ : (j : Int) + 1 < 61:=by omega
    have w7_ : 0 ≤ (i : Int):=by omega
    have w8_ : 0 ≤ (j : Int) + 1:=by omega
    have w9_ : IntKind.i64.wrap (nn + D1) = nn + D1:=IntWalk.i64_in _ (by omega)
    have wa_ : (i : Int) < 61:=by omega
    have wb_ : (j : Int) < 61:=by omega
    go_wp2
    go_quiet (fail)
    clear w1_ w2_ w3_ w4_ w5_ w6_ w7_ w8_ w9_ wa_ wb_
    have hR2:=hR.drewN nq
    revert hR2
    have y0' : (W2.drewN nq).cell? ⟨gb,0,none⟩ = _:=y0
    have y1' : (W2.drewN nq).cell? ⟨gb,1,none⟩ = _:=y1
    have y3' : (W2.drewN nq).cell? ⟨gb,3,none⟩ = _:=y3
    have y4' : (W2.drewN nq).cell? ⟨gb,4,none⟩ = _:=y4
    have hz' : SBox (W2.drewN nq) gb _ _ _ _ _:=hS
    revert y0' y1' y3' y4' hz'
    clear y0 y1 y2 y3 y4 g1 g2 hR hS
    generalize W2.drewN nq = W3
    intro y0 y1 y3 y4 hz hR
    go_wp2_with (at_builtin;refine Kd.zo k38 (w0:=w) w.heap.size rfl (.tmp 110) (.tmp 113) 33 38 (.agg #[(.int .u8 0),(.int .u8 0)]) 2 rfl Try.underlying33 vo rfl (by decide) (by omega) vout acc (⟨kk,bb⟩ : S38) [.int .u8 kk,.int .u8 bb] (fun _ => True) (fun _ => False) rfl rfl (xC _ _ _ _) (fun _ h => h.elim) (fun _ _ => trivial) hR.r hR.p.below hR.p.below.size (by omega) ?_;intro v1 w1 HO1 HB1 hg1 _;have hR1 : PR w w1 mb g gG c G v1 (acc ++ [⟨kk,bb⟩]):=⟨(hR.p.grown hR.r hg1 HB1),HO1⟩;have z1 : SBox w1 gb _ _ _ _ _:=(hg1.block gb (jw hz) (Q7 hR.r hz)).trans hz;obtain ⟨y0,y1,y2,y3,y4⟩:=z1.cells)
    exact HK.out _ _ _ _ _ _ _ _ _ _ _ _ _ _ _ _ _ _ _ _ _ _ _ _ _ _ _ _ _ _ _ _ _ _ _ _ _ _ _ _ _ _ _ _ _ _ _ _ _ _ _ _ _ _ _ _ _ hR1
end Go.Proofs.Ytdefecnngccmoaa.Ed
namespace Go.Proofs.Ytdefecnngccmoaa.Ed
open Go.RowKit Go.Proofs.YtdefecnngccmoaaW.PrintWords QTells
set_option maxRecDepth 1000000 in
set_option maxHeartbeats 40000000 in
theorem VG (a b : ByteArray) (ha : a.size ≤ 60) (hb : b.size ≤ 60) (c : Lb.Cst) (hOk : c.Ok) (w : World) (mb g gG i j : Nat) (G : List Int) (hG : Grid c a b G (-1)) (vout : Value) (acc : List S38) (hn : acc.length ≤ 1000)
    (hin : i = a.size) (hjm : j < b.size)
    (Q : Exit → Act → World → Prop) (wr : World) (hP : PR w wr mb g gG c G vout acc) (v2 v3 v4 v5 v6 v7 v8 v9 v10 v13 v14 v19 v20 v21 v22 v23 v24 v25 v26 v27 v28 v29 v30 v31 v32 v33 v34 v35 v36 v37 v38 v39 v40 v41 v42 v43 v44 v45 v46 v47 v48 v49 v50 v51 v52 v53 v54 v55 v56 v57 v58 v59 v60 v61 v62 v63 v64 v65 v66 v67 v68 v69 v70 v71 v72 v73 v74 v75 v76 v77 v78 v79 v80 v81 v82 v83 v84 v85 v86 v87 v88 v89 v90 v91 v92 v93 v94 v95 v96 v97 v98 v99 v100 v101 v102 v103 v104 v105 v106 v107 v108 v109 v110 v111 v112 v113 v114 v115 v116 v117 v118 v119 v120 v121 v122 v123 v124 : Value)
    (hK : ∀ (i' j' : Nat) (ii jj : Int) (o : S38) (u18 u19 u20 u70 u71 u72 u73 u74 u75 u76 u77 u78 u79 u80 u81 u82 u83 u84 u85 u86 u87 u88 u89 u90 u91 u92 u93 u94 u95 u96 u97 u98 u99 u100 u101 u102 u103 u104 u105 u106 u107 u108 u109 u110 u111 u112 u113 u114 u115 u116 u117 u118 u119 u120 u121 u122 v' : Value) (W : World),ii = i' → jj = j' → i' ≤ a.size → j' ≤ b.size → i + j < i' + j' → pp c a b i j = o :: pp c a b i' j' → PR w W mb g gG c G v' (acc ++ [o]) → Q (.exit 5) ⟨#[.string a,.string b,v2,v3,v4,v5,v6,v7,v8,v9,v10,.map (some mb),.pointer (some ⟨gG,0,none⟩),v13,v14,v',.int .i64 ii,.int .i64 jj,u18,u19,u20,v21,v22,v23,v24,v25,v26,v27,v28,v29,v30,v31,v32,v33,v34,v35,v36,v37,v38,v39,v40,v41,v42,v43,v44,v45,v46,v47,v48,v49,v50,v51,v52,v53,v54,v55,v56,v57,v58,v59,v60,v61,v62,v63,v64,v65,v66,v67,v68,v69,u70,u71,u72,u73,u74,u75,u76,u77,u78,u79,u80,u81,u82,u83,u84,u85,u86,u87,u88,u89,u90,u91,u92,u93,u94,u95,u96,u97,u98,u99,u100,u101,u102,u103,u104,u105,u106,u107,u108,u109,u110,u111,u112,u113,u114,u115,u116,u117,u118,u119,u120,u121,u122,v123,v124],[]⟩ W) :
    (Code.loop (zw Try.f14 3)).wp Try.prog Q ⟨#[.string a,.string b,v2,v3,v4,v5,v6,v7,v8,v9,v10,.map (some mb),.pointer (some ⟨gG,0,none⟩),v13,v14,vout,.int .i64 (i : Int),.int .i64 (j : Int),.int .u8 1,v19,v20,v21,v22,v23,v24,v25,v26,v27,v28,v29,v30,v31,v32,v33,v34,v35,v36,v37,v38,v39,v40,v41,v42,v43,v44,v45,v46,v47,v48,v49,v50,v51,v52,v53,v54,v55,v56,v57,v58,v59,v60,v61,v62,v63,v64,v65,v66,v67,v68,v69,v70,v71,v72,v73,v74,v75,v76,v77,v78,v79,v80,v81,v82,v83,v84,v85,v86,v87,v88,v89,v90,v91,v92,v93,v94,v95,v96,v97,v98,v99,v100,v101,v102,v103,v104,v105,v106,v107,v108,v109,v110,v111,v112,v113,v114,v115,v116,v117,v118,v119,v120,v121,v122,v123,v124],[]⟩ wr:=by
  have hsw : sw a b i j = false:=by
    cases hs : sw a b i j with
    | false => rfl
    | true => have:=xA hs;omega
  have hd:=Qe c a b j hjm
  rw [← hin] at hd
  have ki : (i : Int) ≤ a.size:=by omega
  have kj : (j : Int) ≤ b.size:=by omega
  have Hs:=size_ext a i (by omega)
  have Ht:=size_ext b j (by omega)
  have hx4:=hG (i) (j + 1) (by omega) (by omega) (by omega)
  have qx4:=jO hOk a b ha hb (i) (j + 1)
  have hx0:=hG (i) (j) (by omega) (by omega) (by omega)
  have qx0:=jO hOk a b ha hb (i) (j)
  obtain ⟨ki1,ki2,kd1,kd2,kc1,kc2,ks1,ks2⟩:=id hOk
  refine wp_loop_rounds 6 ?_
  rw [rounds_succ]
  refine yH a b ha hb c w mb g gG i j G vout acc ki kj (fun W hB => (QW _ _ W (by omega)).mono fun _ _ h => ⟨_,_,_,_,_,h⟩) _ _ _ hP _ _ _ _ _ _ _ _ _ _ _ _ _ _ _ _ _ _ _ _ _ _ _ _ _ _ _ _ _ _ _ _ _ _ _ _ _ _ _ _ _ _ _ _ _ _ _ _ _ _ _ _ _ _ _ _ _ _ _ _ _ _ _ _ _ _ _ _ _ _ _ _ _ _ _ _ _ _ _ _ _ _ _ _ _ _ _ _ _ _ _ _ _ _ _ _ _ _ _ _ _ _ _ _ _ _ _ _ _ _ _ _ _ _ _ _ _ ?_
  intro _ _ _ _ _ _ _ _ _ _ _ _ _ _ _ _ _ _ _ _ _ _ _ _ _ _ _ _ _ _ _ _ _ _ _ _ _ _ _ _ _ _ _ _ _ _ _ _ _ _ _ _ _ _ _ W1 hP
  rw [rounds_succ]
  refine QQ a b ha hb c w mb g gG i j G vout acc ki kj (fun W hB => (QV _ _ W g c hB (by omega)).mono fun _ _ h => h) _ _ _ hP _ _ _ _ _ _ _ _ _ _ _ _ _ _ _ _ _ _ _ _ _ _ _ _ _ _ _ _ _ _ _ _ _ _ _ _ _ _ _ _ _ _ _ _ _ _ _ _ _ _ _ _ _ _ _ _ _ _ _ _ _ _ _ _ _ _ _ _ _ _ _ _ _ _ _ _ _ _ _ _ _ _ _ _ _ _ _ _ _ _ _ _ _ _ _ _ _ _ _ _ _ _ _ _ _ _ _ _ _ _ _ _ _ _ _ _ _ ?_
  intro _ _ _ _ _ _ _ _ _ _ _ _ _ _ _ _ _ _ _ _ _ _ _ _ _ _ _ _ _ _ _ _ _ _ _ _ _ _ _ _ _ _ _ _ _ _ _ _ _ _ _ _ _ _ _ W2 hP
  rw [rounds_succ]
  refine yK a b ha hb c w mb g gG i j G vout acc ki kj (fun W hB => (zH _ _ W g c hB false ((zU a b i j).trans hsw)).mono fun _ _ h => ⟨_,_,_,_,_,h⟩) _ _ _ hP _ _ _ _ _ _ _ _ _ _ _ _ _ _ _ _ _ _ _ _ _ _ _ _ _ _ _ _ _ _ _ _ _ _ _ _ _ _ _ _ _ _ _ _ _ _ _ _ _ _ _ _ _ _ _ _ _ _ _ _ _ _ _ _ _ _ _ _ _ _ _ _ _ _ _ _ _ _ _ _ _ _ _ _ _ _ _ _ _ _ _ _ _ _ _ _ _ _ _ _ _ _ _ _ _ _ _ _ _ _ _ _ _ _ _ _ _ ?_
  intro _ _ _ _ _ _ _ _ _ _ _ _ _ _ _ _ _ _ _ _ _ _ _ _ _ _ _ _ _ _ _ _ _ _ _ _ _ _ _ _ _ _ _ _ _ _ _ _ _ _ _ _ _ _ _ W3 hP
  rw [rounds_succ]
  refine Vd a b ha hb c w mb g gG i j G vout acc ki kj (fun W hB => (yO _ _ W g c hB (by omega)).mono fun _ _ h => ⟨_,_,_,_,_,h⟩) _ _ _ hP _ _ _ _ _ _ _ _ _ _ _ _ _ _ _ _ _ _ _ _ _ _ _ _ _ _ _ _ _ _ _ _ _ _ _ _ _ _ _ _ _ _ _ _ _ _ _ _ _ _ _ _ _ _ _ _ _ _ _ _ _ _ _ _ _ _ _ _ _ _ _ _ _ _ _ _ _ _ _ _ _ _ _ _ _ _ _ _ _ _ _ _ _ _ _ _ _ _ _ _ _ _ _ _ _ _ _ _ _ _ _ _ _ _ _ _ _ ?_
  intro _ _ _ _ _ _ _ _ _ _ _ _ _ _ _ _ _ _ _ _ _ _ _ _ _ _ _ _ _ _ _ _ _ _ _ _ _ _ _ _ _ _ _ _ _ _ _ _ _ _ _ _ _ _ _ W4 hP
  rw [rounds_succ]
  refine yL a b ha hb c w mb g gG i j G vout acc ki kj c.ins 5 (bt (b.extract j b.size) 0) _ _ (fun W hB => xq _ _ W g c hB (by omega)) (by omega) (by omega) hx4 hx0 (by omega) (by omega) (by omega) (by omega) (beq_iff_eq.2 (by omega)) hn _ _ _ hP _ _ _ _ _ _ _ _ _ _ _ _ _ _ _ _ _ _ _ _ _ _ _ _ _ _ _ _ _ _ _ _ _ _ _ _ _ _ _ _ _ _ _ _ _ _ _ _ _ _ _ _ _ _ _ _ _ _ _ _ _ _ _ _ _ _ _ _ _ _ _ _ _ _ _ _ _ _ _ _ _ _ _ _ _ _ _ _ _ _ _ _ _ _ _ _ _ _ _ _ _ _ _ _ _ _ _ _ _ _ _ _ _ _ _ _ _ ?_
  intro _ _ _ _ _ _ _ _ _ _ _ _ _ _ _ _ _ _ _ _ _ _ _ _ _ _ _ _ _ _ _ _ _ _ _ _ _ _ _ _ _ _ _ _ _ _ _ _ _ _ _ _ _ _ _ v' W' hP'
  exact hK (i) (j + 1) _ _ _ _ _ _ _ _ _ _ _ _ _ _ _ _ _ _ _ _ _ _ _ _ _ _ _ _ _ _ _ _ _ _ _ _ _ _ _ _ _ _ _ _ _ _ _ _ _ _ _ _ _ _ _ _ _ _ _ _ _ (by omega) (by omega) (by omega) (by omega) (by omega) (by rw [j6 b j (by omega)];have e:=JJ c a b j hjm;rw [← hin] at e;exact e) hP'
end Go.Proofs.Ytdefecnngccmoaa.Ed
namespace Go.Proofs.Ytdefecnngccmoaa.Ed
open Go.RowKit Go.Proofs.YtdefecnngccmoaaW.PrintWords QTells
set_option maxRecDepth 1000000 in
set_option maxHeartbeats 40000000 in
theorem Vv (a b : ByteArray) (ha : a.size ≤ 60) (hb : b.size ≤ 60) (c : Lb.Cst) (hOk : c.Ok) (w : World) (mb g gG i j : Nat) (G : List Int) (hG : Grid c a b G (-1)) (vout : Value) (acc : List S38) (hn : acc.length ≤ 1000)
    (hin : i < a.size) (hjm : j = b.size)
    (Q : Exit → Act → World → Prop) (wr : World) (hP : PR w wr mb g gG c G vout acc) (v2 v3 v4 v5 v6 v7 v8 v9 v10 v13 v14 v19 v20 v21 v22 v23 v24 v25 v26 v27 v28 v29 v30 v31 v32 v33 v34 v35 v36 v37 v38 v39 v40 v41 v42 v43 v44 v45 v46 v47 v48 v49 v50 v51 v52 v53 v54 v55 v56 v57 v58 v59 v60 v61 v62 v63 v64 v65 v66 v67 v68 v69 v70 v71 v72 v73 v74 v75 v76 v77 v78 v79 v80 v81 v82 v83 v84 v85 v86 v87 v88 v89 v90 v91 v92 v93 v94 v95 v96 v97 v98 v99 v100 v101 v102 v103 v104 v105 v106 v107 v108 v109 v110 v111 v112 v113 v114 v115 v116 v117 v118 v119 v120 v121 v122 v123 v124 : Value)
    (hK : ∀ (i' j' : Nat) (ii jj : Int) (o : S38) (u18 u19 u20 u70 u71 u72 u73 u74 u75 u76 u77 u78 u79 u80 u81 u82 u83 u84 u85 u86 u87 u88 u89 u90 u91 u92 u93 u94 u95 u96 u97 u98 u99 u100 u101 u102 u103 u104 u105 u106 u107 u108 u109 u110 u111 u112 u113 u114 u115 u116 u117 u118 u119 u120 u121 u122 v' : Value) (W : World),ii = i' → jj = j' → i' ≤ a.size → j' ≤ b.size → i + j < i' + j' → pp c a b i j = o :: pp c a b i' j' → PR w W mb g gG c G v' (acc ++ [o]) → Q (.exit 5) ⟨#[.string a,.string b,v2,v3,v4,v5,v6,v7,v8,v9,v10,.map (some mb),.pointer (some ⟨gG,0,none⟩),v13,v14,v',.int .i64 ii,.int .i64 jj,u18,u19,u20,v21,v22,v23,v24,v25,v26,v27,v28,v29,v30,v31,v32,v33,v34,v35,v36,v37,v38,v39,v40,v41,v42,v43,v44,v45,v46,v47,v48,v49,v50,v51,v52,v53,v54,v55,v56,v57,v58,v59,v60,v61,v62,v63,v64,v65,v66,v67,v68,v69,u70,u71,u72,u73,u74,u75,u76,u77,u78,u79,u80,u81,u82,u83,u84,u85,u86,u87,u88,u89,u90,u91,u92,u93,u94,u95,u96,u97,u98,u99,u100,u101,u102,u103,u104,u105,u106,u107,u108,u109,u110,u111,u112,u113,u114,u115,u116,u117,u118,u119,u120,u121,u122,v123,v124],[]⟩ W) :
    (Code.loop (zw Try.f14 3)).wp Try.prog Q ⟨#[.string a,.string b,v2,v3,v4,v5,v6,v7,v8,v9,v10,.map (some mb),.pointer (some ⟨gG,0,none⟩),v13,v14,vout,.int .i64 (i : Int),.int .i64 (j : Int),.int .u8 1,v19,v20,v21,v22,v23,v24,v25,v26,v27,v28,v29,v30,v31,v32,v33,v34,v35,v36,v37,v38,v39,v40,v41,v42,v43,v44,v45,v46,v47,v48,v49,v50,v51,v52,v53,v54,v55,v56,v57,v58,v59,v60,v61,v62,v63,v64,v65,v66,v67,v68,v69,v70,v71,v72,v73,v74,v75,v76,v77,v78,v79,v80,v81,v82,v83,v84,v85,v86,v87,v88,v89,v90,v91,v92,v93,v94,v95,v96,v97,v98,v99,v100,v101,v102,v103,v104,v105,v106,v107,v108,v109,v110,v111,v112,v113,v114,v115,v116,v117,v118,v119,v120,v121,v122,v123,v124],[]⟩ wr:=by
  have hsw : sw a b i j = false:=by
    cases hs : sw a b i j with
    | false => rfl
    | true => have:=xA hs;omega
  have hd:=yU c a b i hin
  rw [← hjm] at hd
  have ki : (i : Int) ≤ a.size:=by omega
  have kj : (j : Int) ≤ b.size:=by omega
  have Hs:=size_ext a i (by omega)
  have Ht:=size_ext b j (by omega)
  have hx3:=hG (i + 1) (j) (by omega) (by omega) (by omega)
  have qx3:=jO hOk a b ha hb (i + 1) (j)
  have hx0:=hG (i) (j) (by omega) (by omega) (by omega)
  have qx0:=jO hOk a b ha hb (i) (j)
  obtain ⟨ki1,ki2,kd1,kd2,kc1,kc2,ks1,ks2⟩:=id hOk
  refine wp_loop_rounds 6 ?_
  rw [rounds_succ]
  refine yH a b ha hb c w mb g gG i j G vout acc ki kj (fun W hB => (Zc _ _ W (by omega) (by omega)).mono fun _ _ h => ⟨_,_,_,_,_,h⟩) _ _ _ hP _ _ _ _ _ _ _ _ _ _ _ _ _ _ _ _ _ _ _ _ _ _ _ _ _ _ _ _ _ _ _ _ _ _ _ _ _ _ _ _ _ _ _ _ _ _ _ _ _ _ _ _ _ _ _ _ _ _ _ _ _ _ _ _ _ _ _ _ _ _ _ _ _ _ _ _ _ _ _ _ _ _ _ _ _ _ _ _ _ _ _ _ _ _ _ _ _ _ _ _ _ _ _ _ _ _ _ _ _ _ _ _ _ _ _ _ _ ?_
  intro _ _ _ _ _ _ _ _ _ _ _ _ _ _ _ _ _ _ _ _ _ _ _ _ _ _ _ _ _ _ _ _ _ _ _ _ _ _ _ _ _ _ _ _ _ _ _ _ _ _ _ _ _ _ _ W1 hP
  rw [rounds_succ]
  refine QQ a b ha hb c w mb g gG i j G vout acc ki kj (fun W hB => (J7 _ _ W g c hB (by omega) (by omega)).mono fun _ _ h => h) _ _ _ hP _ _ _ _ _ _ _ _ _ _ _ _ _ _ _ _ _ _ _ _ _ _ _ _ _ _ _ _ _ _ _ _ _ _ _ _ _ _ _ _ _ _ _ _ _ _ _ _ _ _ _ _ _ _ _ _ _ _ _ _ _ _ _ _ _ _ _ _ _ _ _ _ _ _ _ _ _ _ _ _ _ _ _ _ _ _ _ _ _ _ _ _ _ _ _ _ _ _ _ _ _ _ _ _ _ _ _ _ _ _ _ _ _ _ _ _ _ ?_
  intro _ _ _ _ _ _ _ _ _ _ _ _ _ _ _ _ _ _ _ _ _ _ _ _ _ _ _ _ _ _ _ _ _ _ _ _ _ _ _ _ _ _ _ _ _ _ _ _ _ _ _ _ _ _ _ W2 hP
  rw [rounds_succ]
  refine yK a b ha hb c w mb g gG i j G vout acc ki kj (fun W hB => (zH _ _ W g c hB false ((zU a b i j).trans hsw)).mono fun _ _ h => ⟨_,_,_,_,_,h⟩) _ _ _ hP _ _ _ _ _ _ _ _ _ _ _ _ _ _ _ _ _ _ _ _ _ _ _ _ _ _ _ _ _ _ _ _ _ _ _ _ _ _ _ _ _ _ _ _ _ _ _ _ _ _ _ _ _ _ _ _ _ _ _ _ _ _ _ _ _ _ _ _ _ _ _ _ _ _ _ _ _ _ _ _ _ _ _ _ _ _ _ _ _ _ _ _ _ _ _ _ _ _ _ _ _ _ _ _ _ _ _ _ _ _ _ _ _ _ _ _ _ ?_
  intro _ _ _ _ _ _ _ _ _ _ _ _ _ _ _ _ _ _ _ _ _ _ _ _ _ _ _ _ _ _ _ _ _ _ _ _ _ _ _ _ _ _ _ _ _ _ _ _ _ _ _ _ _ _ _ W3 hP
  rw [rounds_succ]
  refine yM a b ha hb c w mb g gG i j G vout acc ki kj c.del 4 0 _ _ (fun W hB => zO _ _ W g c hB (by omega)) (by omega) (by omega) hx3 hx0 (by omega) (by omega) (by omega) (by omega) (beq_iff_eq.2 (by omega)) hn _ _ _ hP _ _ _ _ _ _ _ _ _ _ _ _ _ _ _ _ _ _ _ _ _ _ _ _ _ _ _ _ _ _ _ _ _ _ _ _ _ _ _ _ _ _ _ _ _ _ _ _ _ _ _ _ _ _ _ _ _ _ _ _ _ _ _ _ _ _ _ _ _ _ _ _ _ _ _ _ _ _ _ _ _ _ _ _ _ _ _ _ _ _ _ _ _ _ _ _ _ _ _ _ _ _ _ _ _ _ _ _ _ _ _ _ _ _ _ _ _ ?_
  intro _ _ _ _ _ _ _ _ _ _ _ _ _ _ _ _ _ _ _ _ _ _ _ _ _ _ _ _ _ _ _ _ _ _ _ _ _ _ _ _ _ _ _ _ _ _ _ _ _ _ _ _ _ _ _ v' W' hP'
  exact hK (i + 1) (j) _ _ _ _ _ _ _ _ _ _ _ _ _ _ _ _ _ _ _ _ _ _ _ _ _ _ _ _ _ _ _ _ _ _ _ _ _ _ _ _ _ _ _ _ _ _ _ _ _ _ _ _ _ _ _ _ _ _ _ _ _ (by omega) (by omega) (by omega) (by omega) (by omega) (by have e:=JC c a b i hin;rw [← hjm] at e;exact e) hP'
end Go.Proofs.Ytdefecnngccmoaa.Ed
namespace Go.Proofs.Ytdefecnngccmoaa.Ed
open Go.RowKit Go.Proofs.YtdefecnngccmoaaW.PrintWords QTells
set_option maxRecDepth 1000000 in
set_option maxHeartbeats 40000000 in
theorem Kg (a b : ByteArray) (ha : a.size ≤ 60) (hb : b.size ≤ 60) (c : Lb.Cst) (hOk : c.Ok) (w : World) (mb g gG i j : Nat) (G : List Int) (hG : Grid c a b G (-1)) (vout : Value) (acc : List S38) (hn : acc.length ≤ 1000)
    (hin : i < a.size) (hjm : j < b.size) (he : bt a i = bt b j)
    (Q : Exit → Act → World → Prop) (wr : World) (hP : PR w wr mb g gG c G vout acc) (v2 v3 v4 v5 v6 v7 v8 v9 v10 v13 v14 v19 v20 v21 v22 v23 v24 v25 v26 v27 v28 v29 v30 v31 v32 v33 v34 v35 v36 v37 v38 v39 v40 v41 v42 v43 v44 v45 v46 v47 v48 v49 v50 v51 v52 v53 v54 v55 v56 v57 v58 v59 v60 v61 v62 v63 v64 v65 v66 v67 v68 v69 v70 v71 v72 v73 v74 v75 v76 v77 v78 v79 v80 v81 v82 v83 v84 v85 v86 v87 v88 v89 v90 v91 v92 v93 v94 v95 v96 v97 v98 v99 v100 v101 v102 v103 v104 v105 v106 v107 v108 v109 v110 v111 v112 v113 v114 v115 v116 v117 v118 v119 v120 v121 v122 v123 v124 : Value)
    (hK : ∀ (i' j' : Nat) (ii jj : Int) (o : S38) (u18 u19 u20 u70 u71 u72 u73 u74 u75 u76 u77 u78 u79 u80 u81 u82 u83 u84 u85 u86 u87 u88 u89 u90 u91 u92 u93 u94 u95 u96 u97 u98 u99 u100 u101 u102 u103 u104 u105 u106 u107 u108 u109 u110 u111 u112 u113 u114 u115 u116 u117 u118 u119 u120 u121 u122 v' : Value) (W : World),ii = i' → jj = j' → i' ≤ a.size → j' ≤ b.size → i + j < i' + j' → pp c a b i j = o :: pp c a b i' j' → PR w W mb g gG c G v' (acc ++ [o]) → Q (.exit 5) ⟨#[.string a,.string b,v2,v3,v4,v5,v6,v7,v8,v9,v10,.map (some mb),.pointer (some ⟨gG,0,none⟩),v13,v14,v',.int .i64 ii,.int .i64 jj,u18,u19,u20,v21,v22,v23,v24,v25,v26,v27,v28,v29,v30,v31,v32,v33,v34,v35,v36,v37,v38,v39,v40,v41,v42,v43,v44,v45,v46,v47,v48,v49,v50,v51,v52,v53,v54,v55,v56,v57,v58,v59,v60,v61,v62,v63,v64,v65,v66,v67,v68,v69,u70,u71,u72,u73,u74,u75,u76,u77,u78,u79,u80,u81,u82,u83,u84,u85,u86,u87,u88,u89,u90,u91,u92,u93,u94,u95,u96,u97,u98,u99,u100,u101,u102,u103,u104,u105,u106,u107,u108,u109,u110,u111,u112,u113,u114,u115,u116,u117,u118,u119,u120,u121,u122,v123,v124],[]⟩ W) :
    (Code.loop (zw Try.f14 3)).wp Try.prog Q ⟨#[.string a,.string b,v2,v3,v4,v5,v6,v7,v8,v9,v10,.map (some mb),.pointer (some ⟨gG,0,none⟩),v13,v14,vout,.int .i64 (i : Int),.int .i64 (j : Int),.int .u8 1,v19,v20,v21,v22,v23,v24,v25,v26,v27,v28,v29,v30,v31,v32,v33,v34,v35,v36,v37,v38,v39,v40,v41,v42,v43,v44,v45,v46,v47,v48,v49,v50,v51,v52,v53,v54,v55,v56,v57,v58,v59,v60,v61,v62,v63,v64,v65,v66,v67,v68,v69,v70,v71,v72,v73,v74,v75,v76,v77,v78,v79,v80,v81,v82,v83,v84,v85,v86,v87,v88,v89,v90,v91,v92,v93,v94,v95,v96,v97,v98,v99,v100,v101,v102,v103,v104,v105,v106,v107,v108,v109,v110,v111,v112,v113,v114,v115,v116,v117,v118,v119,v120,v121,v122,v123,v124],[]⟩ wr:=by
  have hsw : sw a b i j = false:=by
    cases hs : sw a b i j with
    | false => rfl
    | true => exact absurd he (ZZ hs)
  have hd:=xy c a b i j hin hjm
  rw [if_neg (by rw [hsw];decide),Lb.one,if_pos he] at hd
  have ki : (i : Int) ≤ a.size:=by omega
  have kj : (j : Int) ≤ b.size:=by omega
  have Hs:=size_ext a i (by omega)
  have Ht:=size_ext b j (by omega)
  have hx1:=hG (i + 1) (j + 1) (by omega) (by omega) (by omega)
  have qx1:=jO hOk a b ha hb (i + 1) (j + 1)
  have hx3:=hG (i + 1) (j) (by omega) (by omega) (by omega)
  have qx3:=jO hOk a b ha hb (i + 1) (j)
  have hx4:=hG (i) (j + 1) (by omega) (by omega) (by omega)
  have qx4:=jO hOk a b ha hb (i) (j + 1)
  have hx0:=hG (i) (j) (by omega) (by omega) (by omega)
  have qx0:=jO hOk a b ha hb (i) (j)
  obtain ⟨ki1,ki2,kd1,kd2,kc1,kc2,ks1,ks2⟩:=id hOk
  refine wp_loop_rounds 6 ?_
  by_cases e1 : dd c a b (i + 1) (j + 1) = dd c a b i j
  · skip
    rw [rounds_succ]
    refine XI a b ha hb c w mb g gG i j G vout acc ki kj 0 1 0 _ _ (fun W _ => xI _ _ W (by omega) (by omega) true (by rw [j6 a i (by omega),j6 b j (by omega)];exact beq_iff_eq.2 he)) (by omega) (by omega) hx1 hx0 (by omega) (by omega) (by omega) (by omega) (beq_iff_eq.2 (by omega)) hn _ _ _ hP _ _ _ _ _ _ _ _ _ _ _ _ _ _ _ _ _ _ _ _ _ _ _ _ _ _ _ _ _ _ _ _ _ _ _ _ _ _ _ _ _ _ _ _ _ _ _ _ _ _ _ _ _ _ _ _ _ _ _ _ _ _ _ _ _ _ _ _ _ _ _ _ _ _ _ _ _ _ _ _ _ _ _ _ _ _ _ _ _ _ _ _ _ _ _ _ _ _ _ _ _ _ _ _ _ _ _ _ _ _ _ _ _ _ _ _ _ ?_
    intro _ _ _ _ _ _ _ _ _ _ _ _ _ _ _ _ _ _ _ _ _ _ _ _ _ _ _ _ _ _ _ _ _ _ _ _ _ _ _ _ _ _ _ _ _ _ _ _ _ _ _ _ _ _ _ v' W' hP'
    exact hK (i + 1) (j + 1) _ _ _ _ _ _ _ _ _ _ _ _ _ _ _ _ _ _ _ _ _ _ _ _ _ _ _ _ _ _ _ _ _ _ _ _ _ _ _ _ _ _ _ _ _ _ _ _ _ _ _ _ _ _ _ _ _ _ _ _ _ (by omega) (by omega) (by omega) (by omega) (by omega) (by rw [xk c a b i j hin hjm,if_pos ⟨he,by omega⟩]) hP'
  · skip
    rw [rounds_succ]
    refine X6 a b ha hb c w mb g gG i j G vout acc ki kj 0 1 0 _ _ (fun W _ => xI _ _ W (by omega) (by omega) true (by rw [j6 a i (by omega),j6 b j (by omega)];exact beq_iff_eq.2 he)) (by omega) (by omega) hx1 hx0 (by omega) (by omega) (by omega) (by omega) (beq_eq_false_iff_ne.2 (by omega)) _ _ _ hP _ _ _ _ _ _ _ _ _ _ _ _ _ _ _ _ _ _ _ _ _ _ _ _ _ _ _ _ _ _ _ _ _ _ _ _ _ _ _ _ _ _ _ _ _ _ _ _ _ _ _ _ _ _ _ _ _ _ _ _ _ _ _ _ _ _ _ _ _ _ _ _ _ _ _ _ _ _ _ _ _ _ _ _ _ _ _ _ _ _ _ _ _ _ _ _ _ _ _ _ _ _ _ _ _ _ _ _ _ _ _ _ _ _ _ _ _ ?_
    intro _ _ _ _ _ _ _ _ _ _ _ _ _ _ _ _ _ _ _ _ _ _ _ _ _ _ _ _ _ _ _ _ _ _ _ _ _ _ _ _ _ _ _ _ _ _ _ _ _ _ _ _ _ _ _ W1 hP
    rw [rounds_succ]
    refine QQ a b ha hb c w mb g gG i j G vout acc ki kj (fun W hB => (Ja _ _ W g c hB (by omega) (by omega) (by rw [j6 a i (by omega),j6 b j (by omega)];exact beq_iff_eq.2 he)).mono fun _ _ h => h) _ _ _ hP _ _ _ _ _ _ _ _ _ _ _ _ _ _ _ _ _ _ _ _ _ _ _ _ _ _ _ _ _ _ _ _ _ _ _ _ _ _ _ _ _ _ _ _ _ _ _ _ _ _ _ _ _ _ _ _ _ _ _ _ _ _ _ _ _ _ _ _ _ _ _ _ _ _ _ _ _ _ _ _ _ _ _ _ _ _ _ _ _ _ _ _ _ _ _ _ _ _ _ _ _ _ _ _ _ _ _ _ _ _ _ _ _ _ _ _ _ ?_
    intro _ _ _ _ _ _ _ _ _ _ _ _ _ _ _ _ _ _ _ _ _ _ _ _ _ _ _ _ _ _ _ _ _ _ _ _ _ _ _ _ _ _ _ _ _ _ _ _ _ _ _ _ _ _ _ W2 hP
    rw [rounds_succ]
    refine yK a b ha hb c w mb g gG i j G vout acc ki kj (fun W hB => (zH _ _ W g c hB false ((zU a b i j).trans hsw)).mono fun _ _ h => ⟨_,_,_,_,_,h⟩) _ _ _ hP _ _ _ _ _ _ _ _ _ _ _ _ _ _ _ _ _ _ _ _ _ _ _ _ _ _ _ _ _ _ _ _ _ _ _ _ _ _ _ _ _ _ _ _ _ _ _ _ _ _ _ _ _ _ _ _ _ _ _ _ _ _ _ _ _ _ _ _ _ _ _ _ _ _ _ _ _ _ _ _ _ _ _ _ _ _ _ _ _ _ _ _ _ _ _ _ _ _ _ _ _ _ _ _ _ _ _ _ _ _ _ _ _ _ _ _ _ ?_
    intro _ _ _ _ _ _ _ _ _ _ _ _ _ _ _ _ _ _ _ _ _ _ _ _ _ _ _ _ _ _ _ _ _ _ _ _ _ _ _ _ _ _ _ _ _ _ _ _ _ _ _ _ _ _ _ W3 hP
    by_cases e4 : c.del + dd c a b (i + 1) j = dd c a b i j
    · skip
      rw [rounds_succ]
      refine yM a b ha hb c w mb g gG i j G vout acc ki kj c.del 4 0 _ _ (fun W hB => zO _ _ W g c hB (by omega)) (by omega) (by omega) hx3 hx0 (by omega) (by omega) (by omega) (by omega) (beq_iff_eq.2 (by omega)) hn _ _ _ hP _ _ _ _ _ _ _ _ _ _ _ _ _ _ _ _ _ _ _ _ _ _ _ _ _ _ _ _ _ _ _ _ _ _ _ _ _ _ _ _ _ _ _ _ _ _ _ _ _ _ _ _ _ _ _ _ _ _ _ _ _ _ _ _ _ _ _ _ _ _ _ _ _ _ _ _ _ _ _ _ _ _ _ _ _ _ _ _ _ _ _ _ _ _ _ _ _ _ _ _ _ _ _ _ _ _ _ _ _ _ _ _ _ _ _ _ _ ?_
      intro _ _ _ _ _ _ _ _ _ _ _ _ _ _ _ _ _ _ _ _ _ _ _ _ _ _ _ _ _ _ _ _ _ _ _ _ _ _ _ _ _ _ _ _ _ _ _ _ _ _ _ _ _ _ _ v' W' hP'
      exact hK (i + 1) (j) _ _ _ _ _ _ _ _ _ _ _ _ _ _ _ _ _ _ _ _ _ _ _ _ _ _ _ _ _ _ _ _ _ _ _ _ _ _ _ _ _ _ _ _ _ _ _ _ _ _ _ _ _ _ _ _ _ _ _ _ _ (by omega) (by omega) (by omega) (by omega) (by omega) (by rw [xk c a b i j hin hjm,if_neg (by rintro ⟨_,h⟩;omega),if_neg (by rintro ⟨h,_⟩;exact h he),if_neg (by rintro ⟨h,_⟩;rw [hsw] at h;exact absurd h (by decide)),if_pos (by omega)]) hP'
    · skip
      rw [rounds_succ]
      refine QK a b ha hb c w mb g gG i j G vout acc ki kj c.del 4 0 _ _ (fun W hB => zO _ _ W g c hB (by omega)) (by omega) (by omega) hx3 hx0 (by omega) (by omega) (by omega) (by omega) (beq_eq_false_iff_ne.2 (by omega)) _ _ _ hP _ _ _ _ _ _ _ _ _ _ _ _ _ _ _ _ _ _ _ _ _ _ _ _ _ _ _ _ _ _ _ _ _ _ _ _ _ _ _ _ _ _ _ _ _ _ _ _ _ _ _ _ _ _ _ _ _ _ _ _ _ _ _ _ _ _ _ _ _ _ _ _ _ _ _ _ _ _ _ _ _ _ _ _ _ _ _ _ _ _ _ _ _ _ _ _ _ _ _ _ _ _ _ _ _ _ _ _ _ _ _ _ _ _ _ _ _ ?_
      intro _ _ _ _ _ _ _ _ _ _ _ _ _ _ _ _ _ _ _ _ _ _ _ _ _ _ _ _ _ _ _ _ _ _ _ _ _ _ _ _ _ _ _ _ _ _ _ _ _ _ _ _ _ _ _ W4 hP
      rw [rounds_succ]
      refine yL a b ha hb c w mb g gG i j G vout acc ki kj c.ins 5 (bt (b.extract j b.size) 0) _ _ (fun W hB => xq _ _ W g c hB (by omega)) (by omega) (by omega) hx4 hx0 (by omega) (by omega) (by omega) (by omega) (beq_iff_eq.2 (by omega)) hn _ _ _ hP _ _ _ _ _ _ _ _ _ _ _ _ _ _ _ _ _ _ _ _ _ _ _ _ _ _ _ _ _ _ _ _ _ _ _ _ _ _ _ _ _ _ _ _ _ _ _ _ _ _ _ _ _ _ _ _ _ _ _ _ _ _ _ _ _ _ _ _ _ _ _ _ _ _ _ _ _ _ _ _ _ _ _ _ _ _ _ _ _ _ _ _ _ _ _ _ _ _ _ _ _ _ _ _ _ _ _ _ _ _ _ _ _ _ _ _ _ ?_
      intro _ _ _ _ _ _ _ _ _ _ _ _ _ _ _ _ _ _ _ _ _ _ _ _ _ _ _ _ _ _ _ _ _ _ _ _ _ _ _ _ _ _ _ _ _ _ _ _ _ _ _ _ _ _ _ v' W' hP'
      exact hK (i) (j + 1) _ _ _ _ _ _ _ _ _ _ _ _ _ _ _ _ _ _ _ _ _ _ _ _ _ _ _ _ _ _ _ _ _ _ _ _ _ _ _ _ _ _ _ _ _ _ _ _ _ _ _ _ _ _ _ _ _ _ _ _ _ (by omega) (by omega) (by omega) (by omega) (by omega) (by rw [j6 b j (by omega),xk c a b i j hin hjm,if_neg (by rintro ⟨_,h⟩;omega),if_neg (by rintro ⟨h,_⟩;exact h he),if_neg (by rintro ⟨h,_⟩;rw [hsw] at h;exact absurd h (by decide)),if_neg (by omega)]) hP'
end Go.Proofs.Ytdefecnngccmoaa.Ed
namespace Go.Proofs.Ytdefecnngccmoaa.Ed
open Go.RowKit Go.Proofs.YtdefecnngccmoaaW.PrintWords QTells
set_option maxRecDepth 1000000 in
set_option maxHeartbeats 40000000 in
theorem Kr (a b : ByteArray) (ha : a.size ≤ 60) (hb : b.size ≤ 60) (c : Lb.Cst) (hOk : c.Ok) (w : World) (mb g gG i j : Nat) (G : List Int) (hG : Grid c a b G (-1)) (vout : Value) (acc : List S38) (hn : acc.length ≤ 1000)
    (hin : i < a.size) (hjm : j < b.size) (he : ¬ bt a i = bt b j) (hsw : sw a b i j = false)
    (Q : Exit → Act → World → Prop) (wr : World) (hP : PR w wr mb g gG c G vout acc) (v2 v3 v4 v5 v6 v7 v8 v9 v10 v13 v14 v19 v20 v21 v22 v23 v24 v25 v26 v27 v28 v29 v30 v31 v32 v33 v34 v35 v36 v37 v38 v39 v40 v41 v42 v43 v44 v45 v46 v47 v48 v49 v50 v51 v52 v53 v54 v55 v56 v57 v58 v59 v60 v61 v62 v63 v64 v65 v66 v67 v68 v69 v70 v71 v72 v73 v74 v75 v76 v77 v78 v79 v80 v81 v82 v83 v84 v85 v86 v87 v88 v89 v90 v91 v92 v93 v94 v95 v96 v97 v98 v99 v100 v101 v102 v103 v104 v105 v106 v107 v108 v109 v110 v111 v112 v113 v114 v115 v116 v117 v118 v119 v120 v121 v122 v123 v124 : Value)
    (hK : ∀ (i' j' : Nat) (ii jj : Int) (o : S38) (u18 u19 u20 u70 u71 u72 u73 u74 u75 u76 u77 u78 u79 u80 u81 u82 u83 u84 u85 u86 u87 u88 u89 u90 u91 u92 u93 u94 u95 u96 u97 u98 u99 u100 u101 u102 u103 u104 u105 u106 u107 u108 u109 u110 u111 u112 u113 u114 u115 u116 u117 u118 u119 u120 u121 u122 v' : Value) (W : World),ii = i' → jj = j' → i' ≤ a.size → j' ≤ b.size → i + j < i' + j' → pp c a b i j = o :: pp c a b i' j' → PR w W mb g gG c G v' (acc ++ [o]) → Q (.exit 5) ⟨#[.string a,.string b,v2,v3,v4,v5,v6,v7,v8,v9,v10,.map (some mb),.pointer (some ⟨gG,0,none⟩),v13,v14,v',.int .i64 ii,.int .i64 jj,u18,u19,u20,v21,v22,v23,v24,v25,v26,v27,v28,v29,v30,v31,v32,v33,v34,v35,v36,v37,v38,v39,v40,v41,v42,v43,v44,v45,v46,v47,v48,v49,v50,v51,v52,v53,v54,v55,v56,v57,v58,v59,v60,v61,v62,v63,v64,v65,v66,v67,v68,v69,u70,u71,u72,u73,u74,u75,u76,u77,u78,u79,u80,u81,u82,u83,u84,u85,u86,u87,u88,u89,u90,u91,u92,u93,u94,u95,u96,u97,u98,u99,u100,u101,u102,u103,u104,u105,u106,u107,u108,u109,u110,u111,u112,u113,u114,u115,u116,u117,u118,u119,u120,u121,u122,v123,v124],[]⟩ W) :
    (Code.loop (zw Try.f14 3)).wp Try.prog Q ⟨#[.string a,.string b,v2,v3,v4,v5,v6,v7,v8,v9,v10,.map (some mb),.pointer (some ⟨gG,0,none⟩),v13,v14,vout,.int .i64 (i : Int),.int .i64 (j : Int),.int .u8 1,v19,v20,v21,v22,v23,v24,v25,v26,v27,v28,v29,v30,v31,v32,v33,v34,v35,v36,v37,v38,v39,v40,v41,v42,v43,v44,v45,v46,v47,v48,v49,v50,v51,v52,v53,v54,v55,v56,v57,v58,v59,v60,v61,v62,v63,v64,v65,v66,v67,v68,v69,v70,v71,v72,v73,v74,v75,v76,v77,v78,v79,v80,v81,v82,v83,v84,v85,v86,v87,v88,v89,v90,v91,v92,v93,v94,v95,v96,v97,v98,v99,v100,v101,v102,v103,v104,v105,v106,v107,v108,v109,v110,v111,v112,v113,v114,v115,v116,v117,v118,v119,v120,v121,v122,v123,v124],[]⟩ wr:=by
  have hd:=xy c a b i j hin hjm
  rw [if_neg (by rw [hsw];decide),Lb.one,if_neg he] at hd
  have ki : (i : Int) ≤ a.size:=by omega
  have kj : (j : Int) ≤ b.size:=by omega
  have Hs:=size_ext a i (by omega)
  have Ht:=size_ext b j (by omega)
  have hx1:=hG (i + 1) (j + 1) (by omega) (by omega) (by omega)
  have qx1:=jO hOk a b ha hb (i + 1) (j + 1)
  have hx3:=hG (i + 1) (j) (by omega) (by omega) (by omega)
  have qx3:=jO hOk a b ha hb (i + 1) (j)
  have hx4:=hG (i) (j + 1) (by omega) (by omega) (by omega)
  have qx4:=jO hOk a b ha hb (i) (j + 1)
  have hx0:=hG (i) (j) (by omega) (by omega) (by omega)
  have qx0:=jO hOk a b ha hb (i) (j)
  obtain ⟨ki1,ki2,kd1,kd2,kc1,kc2,ks1,ks2⟩:=id hOk
  refine wp_loop_rounds 6 ?_
  rw [rounds_succ]
  refine yH a b ha hb c w mb g gG i j G vout acc ki kj (fun W hB => (xI _ _ W (by omega) (by omega) false (by rw [j6 a i (by omega),j6 b j (by omega)];exact beq_eq_false_iff_ne.2 he)).mono fun _ _ h => ⟨_,_,_,_,_,h⟩) _ _ _ hP _ _ _ _ _ _ _ _ _ _ _ _ _ _ _ _ _ _ _ _ _ _ _ _ _ _ _ _ _ _ _ _ _ _ _ _ _ _ _ _ _ _ _ _ _ _ _ _ _ _ _ _ _ _ _ _ _ _ _ _ _ _ _ _ _ _ _ _ _ _ _ _ _ _ _ _ _ _ _ _ _ _ _ _ _ _ _ _ _ _ _ _ _ _ _ _ _ _ _ _ _ _ _ _ _ _ _ _ _ _ _ _ _ _ _ _ _ ?_
  intro _ _ _ _ _ _ _ _ _ _ _ _ _ _ _ _ _ _ _ _ _ _ _ _ _ _ _ _ _ _ _ _ _ _ _ _ _ _ _ _ _ _ _ _ _ _ _ _ _ _ _ _ _ _ _ W1 hP
  by_cases e2 : c.chg + dd c a b (i + 1) (j + 1) = dd c a b i j
  · skip
    rw [rounds_succ]
    refine JW a b ha hb c w mb g gG i j G vout acc ki kj c.chg 2 (bt (b.extract j b.size) 0) _ _ (fun W hB => xV _ _ W g c hB (by omega) (by omega) (by rw [j6 a i (by omega),j6 b j (by omega)];exact beq_eq_false_iff_ne.2 he)) (by omega) (by omega) hx1 hx0 (by omega) (by omega) (by omega) (by omega) (beq_iff_eq.2 (by omega)) hn _ _ _ hP _ _ _ _ _ _ _ _ _ _ _ _ _ _ _ _ _ _ _ _ _ _ _ _ _ _ _ _ _ _ _ _ _ _ _ _ _ _ _ _ _ _ _ _ _ _ _ _ _ _ _ _ _ _ _ _ _ _ _ _ _ _ _ _ _ _ _ _ _ _ _ _ _ _ _ _ _ _ _ _ _ _ _ _ _ _ _ _ _ _ _ _ _ _ _ _ _ _ _ _ _ _ _ _ _ _ _ _ _ _ _ _ _ _ _ _ _ ?_
    intro _ _ _ _ _ _ _ _ _ _ _ _ _ _ _ _ _ _ _ _ _ _ _ _ _ _ _ _ _ _ _ _ _ _ _ _ _ _ _ _ _ _ _ _ _ _ _ _ _ _ _ _ _ _ _ v' W' hP'
    exact hK (i + 1) (j + 1) _ _ _ _ _ _ _ _ _ _ _ _ _ _ _ _ _ _ _ _ _ _ _ _ _ _ _ _ _ _ _ _ _ _ _ _ _ _ _ _ _ _ _ _ _ _ _ _ _ _ _ _ _ _ _ _ _ _ _ _ _ (by omega) (by omega) (by omega) (by omega) (by omega) (by rw [j6 b j (by omega),xk c a b i j hin hjm,if_neg (by rintro ⟨h,_⟩;exact he h),if_pos ⟨he,by omega⟩]) hP'
  · skip
    rw [rounds_succ]
    refine Zb a b ha hb c w mb g gG i j G vout acc ki kj c.chg 2 (bt (b.extract j b.size) 0) _ _ (fun W hB => xV _ _ W g c hB (by omega) (by omega) (by rw [j6 a i (by omega),j6 b j (by omega)];exact beq_eq_false_iff_ne.2 he)) (by omega) (by omega) hx1 hx0 (by omega) (by omega) (by omega) (by omega) (beq_eq_false_iff_ne.2 (by omega)) _ _ _ hP _ _ _ _ _ _ _ _ _ _ _ _ _ _ _ _ _ _ _ _ _ _ _ _ _ _ _ _ _ _ _ _ _ _ _ _ _ _ _ _ _ _ _ _ _ _ _ _ _ _ _ _ _ _ _ _ _ _ _ _ _ _ _ _ _ _ _ _ _ _ _ _ _ _ _ _ _ _ _ _ _ _ _ _ _ _ _ _ _ _ _ _ _ _ _ _ _ _ _ _ _ _ _ _ _ _ _ _ _ _ _ _ _ _ _ _ _ ?_
    intro _ _ _ _ _ _ _ _ _ _ _ _ _ _ _ _ _ _ _ _ _ _ _ _ _ _ _ _ _ _ _ _ _ _ _ _ _ _ _ _ _ _ _ _ _ _ _ _ _ _ _ _ _ _ _ W2 hP
    rw [rounds_succ]
    refine yK a b ha hb c w mb g gG i j G vout acc ki kj (fun W hB => (zH _ _ W g c hB false ((zU a b i j).trans hsw)).mono fun _ _ h => ⟨_,_,_,_,_,h⟩) _ _ _ hP _ _ _ _ _ _ _ _ _ _ _ _ _ _ _ _ _ _ _ _ _ _ _ _ _ _ _ _ _ _ _ _ _ _ _ _ _ _ _ _ _ _ _ _ _ _ _ _ _ _ _ _ _ _ _ _ _ _ _ _ _ _ _ _ _ _ _ _ _ _ _ _ _ _ _ _ _ _ _ _ _ _ _ _ _ _ _ _ _ _ _ _ _ _ _ _ _ _ _ _ _ _ _ _ _ _ _ _ _ _ _ _ _ _ _ _ _ ?_
    intro _ _ _ _ _ _ _ _ _ _ _ _ _ _ _ _ _ _ _ _ _ _ _ _ _ _ _ _ _ _ _ _ _ _ _ _ _ _ _ _ _ _ _ _ _ _ _ _ _ _ _ _ _ _ _ W3 hP
    by_cases e4 : c.del + dd c a b (i + 1) j = dd c a b i j
    · skip
      rw [rounds_succ]
      refine yM a b ha hb c w mb g gG i j G vout acc ki kj c.del 4 0 _ _ (fun W hB => zO _ _ W g c hB (by omega)) (by omega) (by omega) hx3 hx0 (by omega) (by omega) (by omega) (by omega) (beq_iff_eq.2 (by omega)) hn _ _ _ hP _ _ _ _ _ _ _ _ _ _ _ _ _ _ _ _ _ _ _ _ _ _ _ _ _ _ _ _ _ _ _ _ _ _ _ _ _ _ _ _ _ _ _ _ _ _ _ _ _ _ _ _ _ _ _ _ _ _ _ _ _ _ _ _ _ _ _ _ _ _ _ _ _ _ _ _ _ _ _ _ _ _ _ _ _ _ _ _ _ _ _ _ _ _ _ _ _ _ _ _ _ _ _ _ _ _ _ _ _ _ _ _ _ _ _ _ _ ?_
      intro _ _ _ _ _ _ _ _ _ _ _ _ _ _ _ _ _ _ _ _ _ _ _ _ _ _ _ _ _ _ _ _ _ _ _ _ _ _ _ _ _ _ _ _ _ _ _ _ _ _ _ _ _ _ _ v' W' hP'
      exact hK (i + 1) (j) _ _ _ _ _ _ _ _ _ _ _ _ _ _ _ _ _ _ _ _ _ _ _ _ _ _ _ _ _ _ _ _ _ _ _ _ _ _ _ _ _ _ _ _ _ _ _ _ _ _ _ _ _ _ _ _ _ _ _ _ _ (by omega) (by omega) (by omega) (by omega) (by omega) (by rw [xk c a b i j hin hjm,if_neg (by rintro ⟨h,_⟩;exact he h),if_neg (by rintro ⟨_,h⟩;omega),if_neg (by rintro ⟨h,_⟩;rw [hsw] at h;exact absurd h (by decide)),if_pos (by omega)]) hP'
    · skip
      rw [rounds_succ]
      refine QK a b ha hb c w mb g gG i j G vout acc ki kj c.del 4 0 _ _ (fun W hB => zO _ _ W g c hB (by omega)) (by omega) (by omega) hx3 hx0 (by omega) (by omega) (by omega) (by omega) (beq_eq_false_iff_ne.2 (by omega)) _ _ _ hP _ _ _ _ _ _ _ _ _ _ _ _ _ _ _ _ _ _ _ _ _ _ _ _ _ _ _ _ _ _ _ _ _ _ _ _ _ _ _ _ _ _ _ _ _ _ _ _ _ _ _ _ _ _ _ _ _ _ _ _ _ _ _ _ _ _ _ _ _ _ _ _ _ _ _ _ _ _ _ _ _ _ _ _ _ _ _ _ _ _ _ _ _ _ _ _ _ _ _ _ _ _ _ _ _ _ _ _ _ _ _ _ _ _ _ _ _ ?_
      intro _ _ _ _ _ _ _ _ _ _ _ _ _ _ _ _ _ _ _ _ _ _ _ _ _ _ _ _ _ _ _ _ _ _ _ _ _ _ _ _ _ _ _ _ _ _ _ _ _ _ _ _ _ _ _ W4 hP
      rw [rounds_succ]
      refine yL a b ha hb c w mb g gG i j G vout acc ki kj c.ins 5 (bt (b.extract j b.size) 0) _ _ (fun W hB => xq _ _ W g c hB (by omega)) (by omega) (by omega) hx4 hx0 (by omega) (by omega) (by omega) (by omega) (beq_iff_eq.2 (by omega)) hn _ _ _ hP _ _ _ _ _ _ _ _ _ _ _ _ _ _ _ _ _ _ _ _ _ _ _ _ _ _ _ _ _ _ _ _ _ _ _ _ _ _ _ _ _ _ _ _ _ _ _ _ _ _ _ _ _ _ _ _ _ _ _ _ _ _ _ _ _ _ _ _ _ _ _ _ _ _ _ _ _ _ _ _ _ _ _ _ _ _ _ _ _ _ _ _ _ _ _ _ _ _ _ _ _ _ _ _ _ _ _ _ _ _ _ _ _ _ _ _ _ ?_
      intro _ _ _ _ _ _ _ _ _ _ _ _ _ _ _ _ _ _ _ _ _ _ _ _ _ _ _ _ _ _ _ _ _ _ _ _ _ _ _ _ _ _ _ _ _ _ _ _ _ _ _ _ _ _ _ v' W' hP'
      exact hK (i) (j + 1) _ _ _ _ _ _ _ _ _ _ _ _ _ _ _ _ _ _ _ _ _ _ _ _ _ _ _ _ _ _ _ _ _ _ _ _ _ _ _ _ _ _ _ _ _ _ _ _ _ _ _ _ _ _ _ _ _ _ _ _ _ (by omega) (by omega) (by omega) (by omega) (by omega) (by rw [j6 b j (by omega),xk c a b i j hin hjm,if_neg (by rintro ⟨h,_⟩;exact he h),if_neg (by rintro ⟨_,h⟩;omega),if_neg (by rintro ⟨h,_⟩;rw [hsw] at h;exact absurd h (by decide)),if_neg (by omega)]) hP'
end Go.Proofs.Ytdefecnngccmoaa.Ed
namespace Go.Proofs.Ytdefecnngccmoaa.Ed
open Go.RowKit Go.Proofs.YtdefecnngccmoaaW.PrintWords QTells
set_option maxRecDepth 1000000 in
set_option maxHeartbeats 40000000 in
theorem Kn (a b : ByteArray) (ha : a.size ≤ 60) (hb : b.size ≤ 60) (c : Lb.Cst) (hOk : c.Ok) (w : World) (mb g gG i j : Nat) (G : List Int) (hG : Grid c a b G (-1)) (vout : Value) (acc : List S38) (hn : acc.length ≤ 1000)
    (hin : i < a.size) (hjm : j < b.size) (he : ¬ bt a i = bt b j) (hsw : sw a b i j = true)
    (Q : Exit → Act → World → Prop) (wr : World) (hP : PR w wr mb g gG c G vout acc) (v2 v3 v4 v5 v6 v7 v8 v9 v10 v13 v14 v19 v20 v21 v22 v23 v24 v25 v26 v27 v28 v29 v30 v31 v32 v33 v34 v35 v36 v37 v38 v39 v40 v41 v42 v43 v44 v45 v46 v47 v48 v49 v50 v51 v52 v53 v54 v55 v56 v57 v58 v59 v60 v61 v62 v63 v64 v65 v66 v67 v68 v69 v70 v71 v72 v73 v74 v75 v76 v77 v78 v79 v80 v81 v82 v83 v84 v85 v86 v87 v88 v89 v90 v91 v92 v93 v94 v95 v96 v97 v98 v99 v100 v101 v102 v103 v104 v105 v106 v107 v108 v109 v110 v111 v112 v113 v114 v115 v116 v117 v118 v119 v120 v121 v122 v123 v124 : Value)
    (hK : ∀ (i' j' : Nat) (ii jj : Int) (o : S38) (u18 u19 u20 u70 u71 u72 u73 u74 u75 u76 u77 u78 u79 u80 u81 u82 u83 u84 u85 u86 u87 u88 u89 u90 u91 u92 u93 u94 u95 u96 u97 u98 u99 u100 u101 u102 u103 u104 u105 u106 u107 u108 u109 u110 u111 u112 u113 u114 u115 u116 u117 u118 u119 u120 u121 u122 v' : Value) (W : World),ii = i' → jj = j' → i' ≤ a.size → j' ≤ b.size → i + j < i' + j' → pp c a b i j = o :: pp c a b i' j' → PR w W mb g gG c G v' (acc ++ [o]) → Q (.exit 5) ⟨#[.string a,.string b,v2,v3,v4,v5,v6,v7,v8,v9,v10,.map (some mb),.pointer (some ⟨gG,0,none⟩),v13,v14,v',.int .i64 ii,.int .i64 jj,u18,u19,u20,v21,v22,v23,v24,v25,v26,v27,v28,v29,v30,v31,v32,v33,v34,v35,v36,v37,v38,v39,v40,v41,v42,v43,v44,v45,v46,v47,v48,v49,v50,v51,v52,v53,v54,v55,v56,v57,v58,v59,v60,v61,v62,v63,v64,v65,v66,v67,v68,v69,u70,u71,u72,u73,u74,u75,u76,u77,u78,u79,u80,u81,u82,u83,u84,u85,u86,u87,u88,u89,u90,u91,u92,u93,u94,u95,u96,u97,u98,u99,u100,u101,u102,u103,u104,u105,u106,u107,u108,u109,u110,u111,u112,u113,u114,u115,u116,u117,u118,u119,u120,u121,u122,v123,v124],[]⟩ W) :
    (Code.loop (zw Try.f14 3)).wp Try.prog Q ⟨#[.string a,.string b,v2,v3,v4,v5,v6,v7,v8,v9,v10,.map (some mb),.pointer (some ⟨gG,0,none⟩),v13,v14,vout,.int .i64 (i : Int),.int .i64 (j : Int),.int .u8 1,v19,v20,v21,v22,v23,v24,v25,v26,v27,v28,v29,v30,v31,v32,v33,v34,v35,v36,v37,v38,v39,v40,v41,v42,v43,v44,v45,v46,v47,v48,v49,v50,v51,v52,v53,v54,v55,v56,v57,v58,v59,v60,v61,v62,v63,v64,v65,v66,v67,v68,v69,v70,v71,v72,v73,v74,v75,v76,v77,v78,v79,v80,v81,v82,v83,v84,v85,v86,v87,v88,v89,v90,v91,v92,v93,v94,v95,v96,v97,v98,v99,v100,v101,v102,v103,v104,v105,v106,v107,v108,v109,v110,v111,v112,v113,v114,v115,v116,v117,v118,v119,v120,v121,v122,v123,v124],[]⟩ wr:=by
  have hd:=xy c a b i j hin hjm
  rw [if_pos hsw,Lb.one,if_neg he] at hd
  obtain ⟨hs1,hs2⟩:=xA hsw
  have ki : (i : Int) ≤ a.size:=by omega
  have kj : (j : Int) ≤ b.size:=by omega
  have Hs:=size_ext a i (by omega)
  have Ht:=size_ext b j (by omega)
  have hx1:=hG (i + 1) (j + 1) (by omega) (by omega) (by omega)
  have qx1:=jO hOk a b ha hb (i + 1) (j + 1)
  have hx2:=hG (i + 2) (j + 2) (by omega) (by omega) (by omega)
  have qx2:=jO hOk a b ha hb (i + 2) (j + 2)
  have hx3:=hG (i + 1) (j) (by omega) (by omega) (by omega)
  have qx3:=jO hOk a b ha hb (i + 1) (j)
  have hx4:=hG (i) (j + 1) (by omega) (by omega) (by omega)
  have qx4:=jO hOk a b ha hb (i) (j + 1)
  have hx0:=hG (i) (j) (by omega) (by omega) (by omega)
  have qx0:=jO hOk a b ha hb (i) (j)
  obtain ⟨ki1,ki2,kd1,kd2,kc1,kc2,ks1,ks2⟩:=id hOk
  refine wp_loop_rounds 6 ?_
  rw [rounds_succ]
  refine yH a b ha hb c w mb g gG i j G vout acc ki kj (fun W hB => (xI _ _ W (by omega) (by omega) false (by rw [j6 a i (by omega),j6 b j (by omega)];exact beq_eq_false_iff_ne.2 he)).mono fun _ _ h => ⟨_,_,_,_,_,h⟩) _ _ _ hP _ _ _ _ _ _ _ _ _ _ _ _ _ _ _ _ _ _ _ _ _ _ _ _ _ _ _ _ _ _ _ _ _ _ _ _ _ _ _ _ _ _ _ _ _ _ _ _ _ _ _ _ _ _ _ _ _ _ _ _ _ _ _ _ _ _ _ _ _ _ _ _ _ _ _ _ _ _ _ _ _ _ _ _ _ _ _ _ _ _ _ _ _ _ _ _ _ _ _ _ _ _ _ _ _ _ _ _ _ _ _ _ _ _ _ _ _ ?_
  intro _ _ _ _ _ _ _ _ _ _ _ _ _ _ _ _ _ _ _ _ _ _ _ _ _ _ _ _ _ _ _ _ _ _ _ _ _ _ _ _ _ _ _ _ _ _ _ _ _ _ _ _ _ _ _ W1 hP
  by_cases e2 : c.chg + dd c a b (i + 1) (j + 1) = dd c a b i j
  · skip
    rw [rounds_succ]
    refine JW a b ha hb c w mb g gG i j G vout acc ki kj c.chg 2 (bt (b.extract j b.size) 0) _ _ (fun W hB => xV _ _ W g c hB (by omega) (by omega) (by rw [j6 a i (by omega),j6 b j (by omega)];exact beq_eq_false_iff_ne.2 he)) (by omega) (by omega) hx1 hx0 (by omega) (by omega) (by omega) (by omega) (beq_iff_eq.2 (by omega)) hn _ _ _ hP _ _ _ _ _ _ _ _ _ _ _ _ _ _ _ _ _ _ _ _ _ _ _ _ _ _ _ _ _ _ _ _ _ _ _ _ _ _ _ _ _ _ _ _ _ _ _ _ _ _ _ _ _ _ _ _ _ _ _ _ _ _ _ _ _ _ _ _ _ _ _ _ _ _ _ _ _ _ _ _ _ _ _ _ _ _ _ _ _ _ _ _ _ _ _ _ _ _ _ _ _ _ _ _ _ _ _ _ _ _ _ _ _ _ _ _ _ ?_
    intro _ _ _ _ _ _ _ _ _ _ _ _ _ _ _ _ _ _ _ _ _ _ _ _ _ _ _ _ _ _ _ _ _ _ _ _ _ _ _ _ _ _ _ _ _ _ _ _ _ _ _ _ _ _ _ v' W' hP'
    exact hK (i + 1) (j + 1) _ _ _ _ _ _ _ _ _ _ _ _ _ _ _ _ _ _ _ _ _ _ _ _ _ _ _ _ _ _ _ _ _ _ _ _ _ _ _ _ _ _ _ _ _ _ _ _ _ _ _ _ _ _ _ _ _ _ _ _ _ (by omega) (by omega) (by omega) (by omega) (by omega) (by rw [j6 b j (by omega),xk c a b i j hin hjm,if_neg (by rintro ⟨h,_⟩;exact he h),if_pos ⟨he,by omega⟩]) hP'
  · skip
    rw [rounds_succ]
    refine Zb a b ha hb c w mb g gG i j G vout acc ki kj c.chg 2 (bt (b.extract j b.size) 0) _ _ (fun W hB => xV _ _ W g c hB (by omega) (by omega) (by rw [j6 a i (by omega),j6 b j (by omega)];exact beq_eq_false_iff_ne.2 he)) (by omega) (by omega) hx1 hx0 (by omega) (by omega) (by omega) (by omega) (beq_eq_false_iff_ne.2 (by omega)) _ _ _ hP _ _ _ _ _ _ _ _ _ _ _ _ _ _ _ _ _ _ _ _ _ _ _ _ _ _ _ _ _ _ _ _ _ _ _ _ _ _ _ _ _ _ _ _ _ _ _ _ _ _ _ _ _ _ _ _ _ _ _ _ _ _ _ _ _ _ _ _ _ _ _ _ _ _ _ _ _ _ _ _ _ _ _ _ _ _ _ _ _ _ _ _ _ _ _ _ _ _ _ _ _ _ _ _ _ _ _ _ _ _ _ _ _ _ _ _ _ ?_
    intro _ _ _ _ _ _ _ _ _ _ _ _ _ _ _ _ _ _ _ _ _ _ _ _ _ _ _ _ _ _ _ _ _ _ _ _ _ _ _ _ _ _ _ _ _ _ _ _ _ _ _ _ _ _ _ W2 hP
    by_cases e3 : c.swp + dd c a b (i + 2) (j + 2) = dd c a b i j
    · skip
      rw [rounds_succ]
      refine X4 a b ha hb c w mb g gG i j G vout acc ki kj c.swp 3 0 _ _ (fun W hB => zH _ _ W g c hB true ((zU a b i j).trans hsw)) (by omega) (by omega) hx2 hx0 (by omega) (by omega) (by omega) (by omega) (beq_iff_eq.2 (by omega)) hn _ _ _ hP _ _ _ _ _ _ _ _ _ _ _ _ _ _ _ _ _ _ _ _ _ _ _ _ _ _ _ _ _ _ _ _ _ _ _ _ _ _ _ _ _ _ _ _ _ _ _ _ _ _ _ _ _ _ _ _ _ _ _ _ _ _ _ _ _ _ _ _ _ _ _ _ _ _ _ _ _ _ _ _ _ _ _ _ _ _ _ _ _ _ _ _ _ _ _ _ _ _ _ _ _ _ _ _ _ _ _ _ _ _ _ _ _ _ _ _ _ ?_
      intro _ _ _ _ _ _ _ _ _ _ _ _ _ _ _ _ _ _ _ _ _ _ _ _ _ _ _ _ _ _ _ _ _ _ _ _ _ _ _ _ _ _ _ _ _ _ _ _ _ _ _ _ _ _ _ v' W' hP'
      exact hK (i + 2) (j + 2) _ _ _ _ _ _ _ _ _ _ _ _ _ _ _ _ _ _ _ _ _ _ _ _ _ _ _ _ _ _ _ _ _ _ _ _ _ _ _ _ _ _ _ _ _ _ _ _ _ _ _ _ _ _ _ _ _ _ _ _ _ (by omega) (by omega) (by omega) (by omega) (by omega) (by rw [xk c a b i j hin hjm,if_neg (by rintro ⟨h,_⟩;exact he h),if_neg (by rintro ⟨_,h⟩;omega),if_pos ⟨hsw,by omega⟩]) hP'
    · skip
      rw [rounds_succ]
      refine X8 a b ha hb c w mb g gG i j G vout acc ki kj c.swp 3 0 _ _ (fun W hB => zH _ _ W g c hB true ((zU a b i j).trans hsw)) (by omega) (by omega) hx2 hx0 (by omega) (by omega) (by omega) (by omega) (beq_eq_false_iff_ne.2 (by omega)) _ _ _ hP _ _ _ _ _ _ _ _ _ _ _ _ _ _ _ _ _ _ _ _ _ _ _ _ _ _ _ _ _ _ _ _ _ _ _ _ _ _ _ _ _ _ _ _ _ _ _ _ _ _ _ _ _ _ _ _ _ _ _ _ _ _ _ _ _ _ _ _ _ _ _ _ _ _ _ _ _ _ _ _ _ _ _ _ _ _ _ _ _ _ _ _ _ _ _ _ _ _ _ _ _ _ _ _ _ _ _ _ _ _ _ _ _ _ _ _ _ ?_
      intro _ _ _ _ _ _ _ _ _ _ _ _ _ _ _ _ _ _ _ _ _ _ _ _ _ _ _ _ _ _ _ _ _ _ _ _ _ _ _ _ _ _ _ _ _ _ _ _ _ _ _ _ _ _ _ W3 hP
      by_cases e4 : c.del + dd c a b (i + 1) j = dd c a b i j
      · skip
        rw [rounds_succ]
        refine yM a b ha hb c w mb g gG i j G vout acc ki kj c.del 4 0 _ _ (fun W hB => zO _ _ W g c hB (by omega)) (by omega) (by omega) hx3 hx0 (by omega) (by omega) (by omega) (by omega) (beq_iff_eq.2 (by omega)) hn _ _ _ hP _ _ _ _ _ _ _ _ _ _ _ _ _ _ _ _ _ _ _ _ _ _ _ _ _ _ _ _ _ _ _ _ _ _ _ _ _ _ _ _ _ _ _ _ _ _ _ _ _ _ _ _ _ _ _ _ _ _ _ _ _ _ _ _ _ _ _ _ _ _ _ _ _ _ _ _ _ _ _ _ _ _ _ _ _ _ _ _ _ _ _ _ _ _ _ _ _ _ _ _ _ _ _ _ _ _ _ _ _ _ _ _ _ _ _ _ _ ?_
        intro _ _ _ _ _ _ _ _ _ _ _ _ _ _ _ _ _ _ _ _ _ _ _ _ _ _ _ _ _ _ _ _ _ _ _ _ _ _ _ _ _ _ _ _ _ _ _ _ _ _ _ _ _ _ _ v' W' hP'
        exact hK (i + 1) (j) _ _ _ _ _ _ _ _ _ _ _ _ _ _ _ _ _ _ _ _ _ _ _ _ _ _ _ _ _ _ _ _ _ _ _ _ _ _ _ _ _ _ _ _ _ _ _ _ _ _ _ _ _ _ _ _ _ _ _ _ _ (by omega) (by omega) (by omega) (by omega) (by omega) (by rw [xk c a b i j hin hjm,if_neg (by rintro ⟨h,_⟩;exact he h),if_neg (by rintro ⟨_,h⟩;omega),if_neg (by rintro ⟨_,h⟩;omega),if_pos (by omega)]) hP'
      · skip
        rw [rounds_succ]
        refine QK a b ha hb c w mb g gG i j G vout acc ki kj c.del 4 0 _ _ (fun W hB => zO _ _ W g c hB (by omega)) (by omega) (by omega) hx3 hx0 (by omega) (by omega) (by omega) (by omega) (beq_eq_false_iff_ne.2 (by omega)) _ _ _ hP _ _ _ _ _ _ _ _ _ _ _ _ _ _ _ _ _ _ _ _ _ _ _ _ _ _ _ _ _ _ _ _ _ _ _ _ _ _ _ _ _ _ _ _ _ _ _ _ _ _ _ _ _ _ _ _ _ _ _ _ _ _ _ _ _ _ _ _ _ _ _ _ _ _ _ _ _ _ _ _ _ _ _ _ _ _ _ _ _ _ _ _ _ _ _ _ _ _ _ _ _ _ _ _ _ _ _ _ _ _ _ _ _ _ _ _ _ ?_
        intro _ _ _ _ _ _ _ _ _ _ _ _ _ _ _ _ _ _ _ _ _ _ _ _ _ _ _ _ _ _ _ _ _ _ _ _ _ _ _ _ _ _ _ _ _ _ _ _ _ _ _ _ _ _ _ W4 hP
        rw [rounds_succ]
        refine yL a b ha hb c w mb g gG i j G vout acc ki kj c.ins 5 (bt (b.extract j b.size) 0) _ _ (fun W hB => xq _ _ W g c hB (by omega)) (by omega) (by omega) hx4 hx0 (by omega) (by omega) (by omega) (by omega) (beq_iff_eq.2 (by omega)) hn _ _ _ hP _ _ _ _ _ _ _ _ _ _ _ _ _ _ _ _ _ _ _ _ _ _ _ _ _ _ _ _ _ _ _ _ _ _ _ _ _ _ _ _ _ _ _ _ _ _ _ _ _ _ _ _ _ _ _ _ _ _ _ _ _ _ _ _ _ _ _ _ _ _ _ _ _ _ _ _ _ _ _ _ _ _ _ _ _ _ _ _ _ _ _ _ _ _ _ _ _ _ _ _ _ _ _ _ _ _ _ _ _ _ _ _ _ _ _ _ _ ?_
        intro _ _ _ _ _ _ _ _ _ _ _ _ _ _ _ _ _ _ _ _ _ _ _ _ _ _ _ _ _ _ _ _ _ _ _ _ _ _ _ _ _ _ _ _ _ _ _ _ _ _ _ _ _ _ _ v' W' hP'
        exact hK (i) (j + 1) _ _ _ _ _ _ _ _ _ _ _ _ _ _ _ _ _ _ _ _ _ _ _ _ _ _ _ _ _ _ _ _ _ _ _ _ _ _ _ _ _ _ _ _ _ _ _ _ _ _ _ _ _ _ _ _ _ _ _ _ _ (by omega) (by omega) (by omega) (by omega) (by omega) (by rw [j6 b j (by omega),xk c a b i j hin hjm,if_neg (by rintro ⟨h,_⟩;exact he h),if_neg (by rintro ⟨_,h⟩;omega),if_neg (by rintro ⟨_,h⟩;omega),if_neg (by omega)]) hP'
end Go.Proofs.Ytdefecnngccmoaa.Ed
namespace Go.Proofs.Ytdefecnngccmoaa.Ed
open Go.RowKit Go.Proofs.YtdefecnngccmoaaW.PrintWords QTells
theorem Xy (W : World) : (zeroValue 70).run Try.prog W = .ok (.agg yA) W:=by
  have h:=Qq
  cases hi : Try.prog.info? 70 with
  | none => rw [hi] at h;cases h
  | some i =>
    rw [hi] at h
    have hz : i.zero = some (.agg yA):=by simpa using h
    simp [zeroValue,typeInfo,hi,hz]
def Qc (l : List S38) (n e0 : Int) (w : World) (e : Ending) (w' : World) : Prop:=∃ v,e = .returned (.tuple #[v,.int .i64 n,.int .i64 e0]) ∧ k38.R 38 w' w.heap.size (fun _ => True) v l ∧ Below w.heap.size w w'
set_option maxRecDepth 1000000 in
set_option maxHeartbeats 40000000 in
theorem XR (a b : ByteArray) (c0 c1 c2 c3 : Int) (w : World) (hc : zl c0 c1 c2 c3 = true) (ha : a.size ≤ 60) (hb : b.size ≤ 60) :
    Calls Try.prog 14 #[.string a,.string b,.agg #[.int .i64 c0,.int .i64 c1,.int .i64 c2,.int .i64 c3]] w (Qc (pp ⟨c0,c1,c2,c3⟩ a b 0 0) (dd ⟨c0,c1,c2,c3⟩ a b 0 0) 0 w):=by
  have hOk : Lb.Cst.Ok ⟨c0,c1,c2,c3⟩:=by
    simp only [zl,okc,Bool.and_eq_true,decide_eq_true_eq] at hc
    obtain ⟨⟨i1,i2⟩,⟨d1,d2⟩,⟨e1,e2⟩,s1,s2⟩:=hc
    exact ⟨i1,i2,d1,d2,e1,e2,s1,s2⟩
  have HC:=Lib.hid hc
  clear hc
  have hal:=Xy
  have hmf : ∀ (fn : Fn) (first cap : Array Value) (w : World),(Instr.makeFunc fn first cap).run Try.prog w = .ok (.func fn first cap) w:=fun _ _ _ _ => rfl
  go_enter Try.func14,Try.ntmps14
  go_wp2
  go_step3
  go_wp2_with fail
  refine (yo a b c0 c1 c2 c3 _ HC.out ha hb).mono ?_
  rintro e w1 ⟨rfl,hB1⟩
  have k0 : w1.cell? ⟨w.heap.size,0,none⟩ = some (.int .i64 c0):=(qi ((hB1.block _ (by simp)).trans (jc w _)) 0).trans rfl
  have k1 : w1.cell? ⟨w.heap.size,1,none⟩ = some (.int .i64 c1):=(qi ((hB1.block _ (by simp)).trans (jc w _)) 1).trans rfl
  have k2 : w1.cell? ⟨w.heap.size,2,none⟩ = some (.int .i64 c2):=(qi ((hB1.block _ (by simp)).trans (jc w _)) 2).trans rfl
  have k3 : w1.cell? ⟨w.heap.size,3,none⟩ = some (.int .i64 c3):=(qi ((hB1.block _ (by simp)).trans (jc w _)) 3).trans rfl
  go_wp2_with fail
  refine (Q4 ⟨c0,c1,c2,c3⟩ w1).mono ?_
  rintro e w2 ⟨rfl,hF,hB2⟩
  have hBB : Below w.heap.size w w2:=(((Below.refl _ w).alloc (Nat.le_refl _) _).trans (hB1.mono (by simp))).trans (hB2.mono (by have:=hB1.size;simp at this;omega))
  have hP : PB w (w2.alloc (.cells yA 70)) (w1.heap.size + 1) w1.heap.size w2.heap.size ⟨c0,c1,c2,c3⟩ (List.replicate 3721 0) :=
    ⟨hBB.alloc hBB.size _,⟨qw hF.1 _,hF.2.alloc _⟩,jc _ _,List.length_replicate,hBB.size⟩
  have hgz : (w2.alloc (.cells yA 70)).heap.size = w2.heap.size + 1:=World.size_alloc _ _
  have Hgz:=Lib.hid hgz
  clear hgz k0 k1 k2 k3 hF hB2 hB1 hBB
  go_wp2
  have hI:=IC.new (w2.alloc (.cells yA 70)) a.size
  rw [Hgz.out] at hI
  have hP2:=hP.alloc (.cells #[.int .i64 (a.size : Int)] 3)
  clear hal
  go_loopg [13] (a.size + 1) (fun k v W => ∃ (gi : Nat) (G : List Int),v = .pointer (some ⟨gi,0,none⟩) ∧ IC W gi ((k : Int) - 1) ∧ PB w W (w1.heap.size + 1) w1.heap.size w2.heap.size ⟨c0,c1,c2,c3⟩ G ∧ Grid ⟨c0,c1,c2,c3⟩ a b G ((k : Int) - 1) ∧ k ≤ a.size + 1 ∧ w.heap.size ≤ gi)
  case atStart => exact ⟨_,_,rfl,(by simpa using hI),hP2,fun i' j' h1 h2 => by omega,by omega,(by have:=hP.below.size;rw [Hgz.out] at this;omega)⟩
  case round =>
    obtain ⟨gi,G,rfl,hi,hQ,hG,hk,hgi⟩:=hrel
    have HG:=Lib.hid hG
    clear hG hP hP2 hI Hgz HC
    by_cases h0 : gk = 0
    · subst h0
      have ki:=hi.cell
      have HG0:=Lib.hid (show Grid ⟨c0,c1,c2,c3⟩ a b G (-1) from HG.out)
      go_wp2
      go_step3
      go_wp2
      go_loopg [15,16,17] (a.size + b.size) (fun k v x y W => ∃ (i j : Nat) (acc : List S38),x = .int .i64 (i : Int) ∧ y = .int .i64 (j : Int) ∧ i ≤ a.size ∧ j ≤ b.size ∧ k = a.size + b.size - (i + j) ∧ acc ++ pp ⟨c0,c1,c2,c3⟩ a b i j = pp ⟨c0,c1,c2,c3⟩ a b 0 0 ∧ acc.length ≤ i + j ∧ PR w W (w1.heap.size + 1) w1.heap.size w2.heap.size ⟨c0,c1,c2,c3⟩ G v acc)
      case atStart => exact ⟨0,0,[],rfl,rfl,by omega,by omega,by omega,rfl,by simp,⟨hQ,Kd.kz _ _ _ _ _⟩⟩
      case round =>
        obtain ⟨i,j,acc,rfl,rfl,hia,hjb,rfl,hA,hl,hP⟩:=hrel
        have HA:=Lib.hid hA
        have HG:=HG0
        clear hA hQ hi ki HG0
        by_cases hin : i < a.size
        · by_cases hjm : j < b.size
          · have kd : (i : Int) < (a.size : Int):=by omega
            go_wp2
            by_cases he : bt a i = bt b j
            · refine Kg a b ha hb _ hOk w _ _ _ i j G HG.out _ acc (by omega) hin hjm he _ _ hP _ _ _ _ _ _ _ _ _ _ _ _ _ _ _ _ _ _ _ _ _ _ _ _ _ _ _ _ _ _ _ _ _ _ _ _ _ _ _ _ _ _ _ _ _ _ _ _ _ _ _ _ _ _ _ _ _ _ _ _ _ _ _ _ _ _ _ _ _ _ _ _ _ _ _ _ _ _ _ _ _ _ _ _ _ _ _ _ _ _ _ _ _ _ _ _ _ _ _ _ _ _ _ _ _ _ _ _ _ _ _ _ _ _ _ _ _ ?_
              intro i' j' ii jj o _ _ _ _ _ _ _ _ _ _ _ _ _ _ _ _ _ _ _ _ _ _ _ _ _ _ _ _ _ _ _ _ _ _ _ _ _ _ _ _ _ _ _ _ _ _ _ _ _ _ _ _ _ _ _ _ v' W' e1 e2 h1 h2 h3 h4 hP'
              have HP':=Lib.hid (show (acc ++ [o]) ++ pp ⟨c0,c1,c2,c3⟩ a b i' j' = pp ⟨c0,c1,c2,c3⟩ a b 0 0 by rw [List.append_assoc];show acc ++ (o :: pp ⟨c0,c1,c2,c3⟩ a b i' j') = _;rw [← h4];exact HA.out)
              clear h4 HA
              subst e1 e2
              go_simp
              go_wp2
              go_roundg (a.size + b.size - (i' + j'))
              case rel => exact ⟨i',j',acc ++ [o],rfl,rfl,h1,h2,by omega,HP'.out,by simp;omega,hP'⟩
              case measure => omega
            · cases hsw : sw a b i j
              · refine Kr a b ha hb _ hOk w _ _ _ i j G HG.out _ acc (by omega) hin hjm he hsw _ _ hP _ _ _ _ _ _ _ _ _ _ _ _ _ _ _ _ _ _ _ _ _ _ _ _ _ _ _ _ _ _ _ _ _ _ _ _ _ _ _ _ _ _ _ _ _ _ _ _ _ _ _ _ _ _ _ _ _ _ _ _ _ _ _ _ _ _ _ _ _ _ _ _ _ _ _ _ _ _ _ _ _ _ _ _ _ _ _ _ _ _ _ _ _ _ _ _ _ _ _ _ _ _ _ _ _ _ _ _ _ _ _ _ _ _ _ _ _ ?_
                intro i' j' ii jj o _ _ _ _ _ _ _ _ _ _ _ _ _ _ _ _ _ _ _ _ _ _ _ _ _ _ _ _ _ _ _ _ _ _ _ _ _ _ _ _ _ _ _ _ _ _ _ _ _ _ _ _ _ _ _ _ v' W' e1 e2 h1 h2 h3 h4 hP'
                have HP':=Lib.hid (show (acc ++ [o]) ++ pp ⟨c0,c1,c2,c3⟩ a b i' j' = pp ⟨c0,c1,c2,c3⟩ a b 0 0 by rw [List.append_assoc];show acc ++ (o :: pp ⟨c0,c1,c2,c3⟩ a b i' j') = _;rw [← h4];exact HA.out)
                clear h4 HA
                subst e1 e2
                go_simp
                go_wp2
                go_roundg (a.size + b.size - (i' + j'))
                case rel => exact ⟨i',j',acc ++ [o],rfl,rfl,h1,h2,by omega,HP'.out,by simp;omega,hP'⟩
                case measure => omega
              · refine Kn a b ha hb _ hOk w _ _ _ i j G HG.out _ acc (by omega) hin hjm he hsw _ _ hP _ _ _ _ _ _ _ _ _ _ _ _ _ _ _ _ _ _ _ _ _ _ _ _ _ _ _ _ _ _ _ _ _ _ _ _ _ _ _ _ _ _ _ _ _ _ _ _ _ _ _ _ _ _ _ _ _ _ _ _ _ _ _ _ _ _ _ _ _ _ _ _ _ _ _ _ _ _ _ _ _ _ _ _ _ _ _ _ _ _ _ _ _ _ _ _ _ _ _ _ _ _ _ _ _ _ _ _ _ _ _ _ _ _ _ _ _ ?_
                intro i' j' ii jj o _ _ _ _ _ _ _ _ _ _ _ _ _ _ _ _ _ _ _ _ _ _ _ _ _ _ _ _ _ _ _ _ _ _ _ _ _ _ _ _ _ _ _ _ _ _ _ _ _ _ _ _ _ _ _ _ v' W' e1 e2 h1 h2 h3 h4 hP'
                have HP':=Lib.hid (show (acc ++ [o]) ++ pp ⟨c0,c1,c2,c3⟩ a b i' j' = pp ⟨c0,c1,c2,c3⟩ a b 0 0 by rw [List.append_assoc];show acc ++ (o :: pp ⟨c0,c1,c2,c3⟩ a b i' j') = _;rw [← h4];exact HA.out)
                clear h4 HA
                subst e1 e2
                go_simp
                go_wp2
                go_roundg (a.size + b.size - (i' + j'))
                case rel => exact ⟨i',j',acc ++ [o],rfl,rfl,h1,h2,by omega,HP'.out,by simp;omega,hP'⟩
                case measure => omega
          · have kd : (i : Int) < (a.size : Int):=by omega
            go_wp2
            refine Vv a b ha hb _ hOk w _ _ _ i j G HG.out _ acc (by omega) hin (by omega) _ _ hP _ _ _ _ _ _ _ _ _ _ _ _ _ _ _ _ _ _ _ _ _ _ _ _ _ _ _ _ _ _ _ _ _ _ _ _ _ _ _ _ _ _ _ _ _ _ _ _ _ _ _ _ _ _ _ _ _ _ _ _ _ _ _ _ _ _ _ _ _ _ _ _ _ _ _ _ _ _ _ _ _ _ _ _ _ _ _ _ _ _ _ _ _ _ _ _ _ _ _ _ _ _ _ _ _ _ _ _ _ _ _ _ _ _ _ _ _ ?_
            intro i' j' ii jj o _ _ _ _ _ _ _ _ _ _ _ _ _ _ _ _ _ _ _ _ _ _ _ _ _ _ _ _ _ _ _ _ _ _ _ _ _ _ _ _ _ _ _ _ _ _ _ _ _ _ _ _ _ _ _ _ v' W' e1 e2 h1 h2 h3 h4 hP'
            have HP':=Lib.hid (show (acc ++ [o]) ++ pp ⟨c0,c1,c2,c3⟩ a b i' j' = pp ⟨c0,c1,c2,c3⟩ a b 0 0 by rw [List.append_assoc];show acc ++ (o :: pp ⟨c0,c1,c2,c3⟩ a b i' j') = _;rw [← h4];exact HA.out)
            clear h4 HA
            subst e1 e2
            go_simp
            go_wp2
            go_roundg (a.size + b.size - (i' + j'))
            case rel => exact ⟨i',j',acc ++ [o],rfl,rfl,h1,h2,by omega,HP'.out,by simp;omega,hP'⟩
            case measure => omega
        · by_cases hjm : j < b.size
          · have kd : decide ((i : Int) < (a.size : Int)) = false:=decide_eq_false (by omega)
            have ke : (j : Int) < (b.size : Int):=by omega
            go_wp2
            refine VG a b ha hb _ hOk w _ _ _ i j G HG.out _ acc (by omega) (by omega) hjm _ _ hP _ _ _ _ _ _ _ _ _ _ _ _ _ _ _ _ _ _ _ _ _ _ _ _ _ _ _ _ _ _ _ _ _ _ _ _ _ _ _ _ _ _ _ _ _ _ _ _ _ _ _ _ _ _ _ _ _ _ _ _ _ _ _ _ _ _ _ _ _ _ _ _ _ _ _ _ _ _ _ _ _ _ _ _ _ _ _ _ _ _ _ _ _ _ _ _ _ _ _ _ _ _ _ _ _ _ _ _ _ _ _ _ _ _ _ _ _ ?_
            intro i' j' ii jj o _ _ _ _ _ _ _ _ _ _ _ _ _ _ _ _ _ _ _ _ _ _ _ _ _ _ _ _ _ _ _ _ _ _ _ _ _ _ _ _ _ _ _ _ _ _ _ _ _ _ _ _ _ _ _ _ v' W' e1 e2 h1 h2 h3 h4 hP'
            have HP':=Lib.hid (show (acc ++ [o]) ++ pp ⟨c0,c1,c2,c3⟩ a b i' j' = pp ⟨c0,c1,c2,c3⟩ a b 0 0 by rw [List.append_assoc];show acc ++ (o :: pp ⟨c0,c1,c2,c3⟩ a b i' j') = _;rw [← h4];exact HA.out)
            clear h4 HA
            subst e1 e2
            go_simp
            go_wp2
            go_roundg (a.size + b.size - (i' + j'))
            case rel => exact ⟨i',j',acc ++ [o],rfl,rfl,h1,h2,by omega,HP'.out,by simp;omega,hP'⟩
            case measure => omega
          · have kd : decide ((i : Int) < (a.size : Int)) = false:=decide_eq_false (by omega)
            have ke : decide ((j : Int) < (b.size : Int)) = false:=decide_eq_false (by omega)
            have hA2 : acc = pp ⟨c0,c1,c2,c3⟩ a b 0 0:=by
              have e:=HA.out
              rw [show i = a.size by omega,show j = b.size by omega,yS,List.append_nil] at e
              exact e
            have HA2:=Lib.hid hA2
            clear hA2
            go_wp2
            try rw [Exit.noGoto_ret]
            go_ret3
            exact ⟨_,rfl,HA2.out ▸ hP.r,hP.p.below⟩
    · obtain ⟨i,rfl⟩ : ∃ i,gk = i + 1:=⟨gk - 1,by omega⟩
      have hi1 : ((i + 1 : Nat) : Int) - 1 = (i : Int):=by omega
      rw [hi1] at hi HG
      clear hi1
      have ki:=hi.cell
      have hile : i ≤ a.size:=by omega
      obtain ⟨wo,rfl⟩ : ∃ wo : World,wo = wr:=⟨_,rfl⟩
      go_wp2
      have hj:=IC.new wo b.size
      have hi2:=hi.below ((Below.refl _ _).alloc (Nat.le_refl _) (.cells #[.int .i64 (b.size : Int)] 3))
      have hQ2:=hQ.alloc (.cells #[.int .i64 (b.size : Int)] 3)
      have hwo : w.heap.size ≤ wo.heap.size:=hQ.below.size
      clear hQ hi ki
      go_loopg [14] (b.size + 1) (fun k v W => ∃ (gj : Nat) (G : List Int),v = .pointer (some ⟨gj,0,none⟩) ∧ IC W gi i ∧ IC W gj ((k : Int) - 1) ∧ PB w W (w1.heap.size + 1) w1.heap.size w2.heap.size ⟨c0,c1,c2,c3⟩ G ∧ Grid ⟨c0,c1,c2,c3⟩ a b G i ∧ Row ⟨c0,c1,c2,c3⟩ a b G i ((k : Int) - 1) ∧ k ≤ b.size + 1 ∧ w.heap.size ≤ gj)
      case atStart => exact ⟨_,_,rfl,hi2,(by simpa using hj),hQ2,HG.out,(fun j' h1 h2 => by omega),by omega,hwo⟩
      case round =>
        clear hj hi2 hQ2 HG G
        obtain ⟨gj,G,rfl,hi,hj,hQ,hG,hR,hk2,hgj⟩:=hrel
        have HG:=Lib.hid hG
        have HR:=Lib.hid hR
        clear hG hR
        by_cases h1 : gk = 0
        · subst h1
          have kj:=hj.cell
          have ki:=hi.cell
          go_wp2
          go_roundg i
          case rel => exact ⟨_,_,rfl,IC.new _ _,hQ.alloc _,ZW HG.out HR.out,by omega,hQ.below.size⟩
          case measure => omega
        · obtain ⟨j,rfl⟩ : ∃ j,gk = j + 1:=⟨gk - 1,by omega⟩
          have hj1 : ((j + 1 : Nat) : Int) - 1 = (j : Int):=by omega
          rw [hj1] at hj HR
          clear hj1
          have hjle : j ≤ b.size:=by omega
          have kj:=hj.cell
          have ki:=hi.cell
          have HN:=Lib.hid (hQ.nI hi)
          have HM:=Lib.hid (hQ.nI hj)
          have HDN:=Lib.hid (zu HG.out HR.out)
          have q1 : (i : Int) < 61:=by omega
          have q2 : (j : Int) < 61:=by omega
          have q3 : (i : Int) ≤ (a.size : Int):=by omega
          have q4 : (j : Int) ≤ (b.size : Int):=by omega
          go_wp2
          go_region_held3 (fun w' => w'.cell? ⟨gi,0,none⟩ = some (.int .i64 (i : Int)) ∧ w'.cell? ⟨gj,0,none⟩ = some (.int .i64 (j : Int)))
            (first|exact ⟨ki,kj⟩|exact ⟨ki3,kj3⟩|exact ⟨(hi3.far HN.out _).cell,(hj3.far HM.out _).cell⟩)
            (first|(go_at_call 30;refine (Ji a b _ hOk ha hb _ _ _ _ _ i j G HDN.out hile hjle _ (hQ.drew.ctx (show IC wr.drew gi i from hi) (show IC wr.drew gj j from hj))).mono ?_;rintro e W3 ⟨rfl,hb3⟩;have hi3:=(show IC wr.drew gi i from hi).below hb3;have hj3:=(show IC wr.drew gj j from hj).below hb3;have hQ3:=hQ.drew.keep hb3;have ki3:=hi3.cell;have kj3:=hj3.cell;have kG:=hQ3.at_ (i * 61 + j) (by omega);have fG:=ql hQ3.grid (i * 61 + j)))
          have hQ4:=hQ3.put (i * 61 + j) (dd ⟨c0,c1,c2,c3⟩ a b i j)
          have hi4:=hi3.far HN.out (.int .i64 (dd ⟨c0,c1,c2,c3⟩ a b i j)) (j:=i * 61 + j)
          have hj4:=hj3.far HM.out (.int .i64 (dd ⟨c0,c1,c2,c3⟩ a b i j)) (j:=i * 61 + j)
          have hG4:=Lib.hid (Xl hQ.len ha hb hile hjle HG.out (dd ⟨c0,c1,c2,c3⟩ a b i j))
          have hR4:=Lib.hid (X5 hQ.len ha hb hile hjle HR.out)
          clear hQ3 hi3 hj3 ki3 kj3 kG fG hb3 hi hj ki kj hQ HN HM HDN HG HR
          revert hQ4 hi4 hj4
          generalize W3.setCell ⟨w2.heap.size,i * 61 + j,none⟩ (.int .i64 (dd ⟨c0,c1,c2,c3⟩ a b i j)) = W4
          intro hQ4 hi4 hj4
          have kj:=hj4.cell
          go_wp2
          go_roundg j
          case rel => exact ⟨_,_,rfl,hi4.below ((Below.refl _ _).alloc (Nat.le_refl _) _),IC.new _ _,hQ4.alloc _,hG4.out,hR4.out,by omega,hQ4.below.size⟩
          case measure => omega
end Go.Proofs.Ytdefecnngccmoaa.Ed
namespace Go.Proofs.Ytdefecnngccmoaa.Ed
open Go.RowKit Go.Proofs.YtdefecnngccmoaaW.PrintWords QTells
def mayE (a b : ByteArray) (c0 c1 c2 c3 : Int) : Int:=if zl c0 c1 c2 c3 = true then (if (a.size : Int) > 60 then 3 else if (b.size : Int) > 60 then 3 else 0) else 2
theorem Kb (a b : ByteArray) (c0 c1 c2 c3 : Int) : QE0.xN.f a b c0 c1 c2 c3 = some (mayE a b c0 c1 c2 c3):=by
  unfold QE0.xN.f QE0.jH.f mayE
  simp only [Option.bind_some]
  split
  · split
    · rfl
    · split <;> rfl
  · rfl
theorem yN {a b : ByteArray} {c0 c1 c2 c3 : Int} (h : mayE a b c0 c1 c2 c3 = 0) : zl c0 c1 c2 c3 = true ∧ a.size ≤ 60 ∧ b.size ≤ 60:=by
  unfold mayE at h
  split at h
  · split at h
    · omega
    · split at h
      · omega
      · exact ⟨by assumption,by omega,by omega⟩
  · omega
def zQ (a b : ByteArray) (c0 c1 c2 c3 : Int) : Int × Int:=if mayE a b c0 c1 c2 c3 = 0 then (dd ⟨c0,c1,c2,c3⟩ a b 0 0,0) else (0,mayE a b c0 c1 c2 c3)
def xc (a b : ByteArray) (c0 c1 c2 c3 : Int) : List S38:=if mayE a b c0 c1 c2 c3 = 0 then pp ⟨c0,c1,c2,c3⟩ a b 0 0 else []
set_option maxRecDepth 1000000 in
set_option maxHeartbeats 4000000 in
theorem kV (a b : ByteArray) (c0 c1 c2 c3 : Int) (w : World) (m : Int) (hm : mayE a b c0 c1 c2 c3 = m) (h0 : (m != 0) = true) :
    Calls Try.prog 12 #[.string a,.string b,.agg #[.int .i64 c0,.int .i64 c1,.int .i64 c2,.int .i64 c3]] w fun e w' => e = .returned (.tuple #[.int .i64 0,.int .i64 m]) ∧ Below w.heap.size w w':=by
  have HM:=Lib.hid ((Kb a b c0 c1 c2 c3).trans (congrArg some hm))
  clear hm
  go_enter Try.func12,Try.ntmps12
  go_wp2_with (go_at_call 26;refine (QE0.xN.calls a b c0 c1 c2 c3 _ _ HM.out).mono ?_;rintro e w1 ⟨rfl,hB1⟩)
  go_ret2
  exact ⟨rfl,((Below.refl _ _).alloc (Nat.le_refl _) _).trans (hB1.mono (by simp))⟩
theorem Qa (a b : ByteArray) (c0 c1 c2 c3 : Int) (w : World) :
    Calls Try.prog 12 #[.string a,.string b,.agg #[.int .i64 c0,.int .i64 c1,.int .i64 c2,.int .i64 c3]] w fun e w' => e = .returned (.tuple #[.int .i64 (zQ a b c0 c1 c2 c3).1,.int .i64 (zQ a b c0 c1 c2 c3).2]) ∧ Below w.heap.size w w':=by
  unfold zQ
  by_cases h : mayE a b c0 c1 c2 c3 = 0
  · rw [if_pos h]
    obtain ⟨h1,h2,h3⟩:=yN h
    exact yo a b c0 c1 c2 c3 w h1 h2 h3
  · rw [if_neg h]
    exact kV a b c0 c1 c2 c3 w _ rfl (bne_iff_ne.2 h)
set_option maxRecDepth 1000000 in
set_option maxHeartbeats 4000000 in
theorem ZK (a b : ByteArray) (c0 c1 c2 c3 : Int) (w : World) (m : Int) (hm : mayE a b c0 c1 c2 c3 = m) (h0 : (m != 0) = true) :
    Calls Try.prog 14 #[.string a,.string b,.agg #[.int .i64 c0,.int .i64 c1,.int .i64 c2,.int .i64 c3]] w (Qc [] 0 m w):=by
  have HM:=Lib.hid hm
  clear hm
  go_enter Try.func14,Try.ntmps14
  go_wp2
  go_step3
  go_wp2_with fail
  refine (kV a b c0 c1 c2 c3 _ m HM.out h0).mono ?_
  rintro e w1 ⟨rfl,hB1⟩
  go_wp2
  try rw [Exit.noGoto_ret]
  go_ret3
  exact ⟨_,rfl,Kd.kz _ _ _ _ _,((Below.refl _ _).alloc (Nat.le_refl _) _).trans (hB1.mono (by simp))⟩
theorem Jp (a b : ByteArray) (c0 c1 c2 c3 : Int) (w : World) :
    Calls Try.prog 14 #[.string a,.string b,.agg #[.int .i64 c0,.int .i64 c1,.int .i64 c2,.int .i64 c3]] w (Qc (xc a b c0 c1 c2 c3) (zQ a b c0 c1 c2 c3).1 (zQ a b c0 c1 c2 c3).2 w):=by
  unfold zQ xc
  by_cases h : mayE a b c0 c1 c2 c3 = 0
  · rw [if_pos h,if_pos h]
    obtain ⟨h1,h2,h3⟩:=yN h
    exact XR a b c0 c1 c2 c3 w h1 h2 h3
  · rw [if_neg h,if_neg h]
    exact ZK a b c0 c1 c2 c3 w _ rfl (bne_iff_ne.2 h)
end Go.Proofs.Ytdefecnngccmoaa.Ed
namespace Go.Proofs.Ytdefecnngccmoaa.QTells
open Go.RowKit Go.Proofs.YtdefecnngccmoaaW.PrintWords Go.Proofs.YtdefecnngccmoaaW.PrintLast Go.Proofs.YtdefecnngccmoaaW.PrintMore
attribute [local go_sem] jX jV zk zi jM jN jU jY
set_option linter.unusedVariables false
set_option linter.unusedSimpArgs false
def qG.j0 : Nat → Int → ByteArray → ByteArray → Bool → Int → Int → Int → Int → Option (Bool × Int × Int × Int)
 | 0,_,_,_,_,_,_,_,_ => none
 | k + 1,x0,x1,x2,x12,x130000,x130001,x130002,x130003 => if x0 = 1 then (if x12 = true then (if 0 < (x1.size : Int) then (if 0 < (x2.size : Int) then (some (((bt x1 0) == (bt x2 0)),1,1,0)) else (none)) else (none)) else (some (false,1,1,0))) else (if x0 = 2 then (if x12 = true then (if 0 < (x1.size : Int) then (if 0 < (x2.size : Int) then (some (((bt x1 0) != (bt x2 0)),1,1,x130002)) else (none)) else (none)) else (some (false,1,1,x130002))) else (if x0 = 3 then (if (x1.size : Int) > 1 then (if (x2.size : Int) > 1 then (if 0 < (x1.size : Int) then (if 1 < (x1.size : Int) then (if (bt x1 0) = (bt x1 1) then (some (false,2,2,x130003)) else (if 1 < (x2.size : Int) then (if (bt x1 0) = (bt x2 1) then (if 0 < (x2.size : Int) then (some (((bt x1 1) == (bt x2 0)),2,2,x130003)) else (none)) else (some (false,2,2,x130003))) else (none))) else (none)) else (none)) else (some (false,2,2,x130003))) else (some (false,2,2,x130003))) else (if x0 = 4 then (some (decide ((x1.size : Int) > 0),1,0,x130001)) else (some (decide ((x2.size : Int) > 0),0,1,x130000)))))
def qG.f (k : Nat) (a0 : Int) (a1 : ByteArray) (a2 : ByteArray) (a3_0 : Int) (a3_1 : Int) (a3_2 : Int) (a3_3 : Int) : Option (Bool × Int × Int × Int):=if (a1.size : Int) > 0 then (qG.j0 k a0 a1 a2 (decide ((a2.size : Int) > 0)) a3_0 a3_1 a3_2 a3_3) else (qG.j0 k a0 a1 a2 false a3_0 a3_1 a3_2 a3_3)
theorem qG.zP : ∀ k,(∀ y0 y1 y2 y3 y4 y5 y6 y7,LeO (qG.j0 k y0 y1 y2 y3 y4 y5 y6 y7) (qG.j0 (k + 1) y0 y1 y2 y3 y4 y5 y6 y7))
 | 0 => fun _ _ _ _ _ _ _ _ r h => by simp [qG.j0] at h
 | k + 1 => by
  have ih0:=qG.zP k
  ·intro y0 y1 y2 y3 y4 y5 y6 y7
   unfold qG.j0
   repeat' first
   | (with_reducible exact ih0 _ _ _ _ _ _ _ _)
   | (with_reducible exact LeO.refl _)
   | (with_reducible exact LeO.none _)
   | (with_reducible refine LeO.ite ?_ ?_)
   | (with_reducible refine LeO.bind ?_ (fun _ => ?_))
   | exact ih0 _ _ _ _ _ _ _ _
   | exact LeO.none _
   | refine LeO.ite ?_ ?_
   | refine LeO.bind ?_ (fun _ => ?_)
theorem qG.mono : ∀ a0 a1 a2 a3 a4 a5 a6 k,LeO (qG.f k a0 a1 a2 a3 a4 a5 a6) (qG.f (k + 1) a0 a1 a2 a3 a4 a5 a6):=by
 intro a0 a1 a2 a3 a4 a5 a6 k
 have ih0:=qG.zP k
 unfold qG.f
 repeat' first
   | (with_reducible exact ih0 _ _ _ _ _ _ _ _)
   | (with_reducible exact LeO.refl _)
   | (with_reducible exact LeO.none _)
   | (with_reducible refine LeO.ite ?_ ?_)
   | (with_reducible refine LeO.bind ?_ (fun _ => ?_))
   | exact ih0 _ _ _ _ _ _ _ _
   | exact LeO.none _
   | refine LeO.ite ?_ ?_
   | refine LeO.bind ?_ (fun _ => ?_)
set_option maxHeartbeats 8000000 in
set_option maxRecDepth 100000 in
theorem qG.calls (k : Nat) (a0 : Int) (a1 : ByteArray) (a2 : ByteArray) (a3_0 : Int) (a3_1 : Int) (a3_2 : Int) (a3_3 : Int) (r1 : Bool) (r2 : Int) (r3 : Int) (r4 : Int) (w : World) (h : qG.f k a0 a1 a2 a3_0 a3_1 a3_2 a3_3 = some (r1,r2,r3,r4)) :
  Calls Try.prog 34 #[.int .u8 a0,.string a1,.string a2,.agg #[.int .i64 a3_0,.int .i64 a3_1,.int .i64 a3_2,.int .i64 a3_3]] w fun e w' => e = .returned (.tuple #[.bool r1,.int .i64 r2,.int .i64 r3,.int .i64 r4]) ∧ Below w.heap.size w w':=by
 have hu51:=Try.underlying51
 have HB:=qd.mk (Below.refl w.heap.size w)
 have H : (if (a1.size : Int) > 0 then (qG.j0 k a0 a1 a2 (decide ((a2.size : Int) > 0)) a3_0 a3_1 a3_2 a3_3) else (qG.j0 k a0 a1 a2 false a3_0 a3_1 a3_2 a3_3)) = some (r1,r2,r3,r4):=h
 clear h
 have HC5:=qd.mk H
 clear H
 go_enter Try.func34,Try.ntmps34
 go_upto_region 1 with (first|((with_reducible refine ji (N:=7) rfl ?_);(try (refine jm (by rfl) ?_;dsimp only));refine jg ?hg (N:=7) ?hd (cs:=#[.int .i64 a3_0,.int .i64 a3_1,.int .i64 a3_2,.int .i64 a3_3]) (t:=51) ?hr ?_;(case hd => rfl);(case hg => rfl);(case hr => first|(go_simp;done)|(go_simp;rfl));intro gb129 hg w6 hbox hb;have n0_:=qd.mk (qI (by repeat (first|(with_reducible first|exact HB.out|apply qg|apply qc|apply qf)|exact HB.out)) hb);have n1_:=qd.mk (hbox);have n2_:=qd.mk ((by rw [hg];exact (qH (by repeat (first|(with_reducible first|exact HB.out|apply qg|apply qc|apply qf)|exact HB.out))) : w.heap.size ≤ gb129));have n3_:=qd.mk ((by rw [hg];exact (qH (by repeat (first|(with_reducible first|exact HB.out|apply qg|apply qc|apply qf)|exact HB.out))) : w.heap.size ≤ gb129));clear HB;have HB:=n0_;have BK129:=n1_;have GW129:=n2_;have GE129:=n3_;clear n0_ n1_ n2_ n3_;clear hb hbox hg))
 repeat (go_quiet (first|((with_reducible refine ji (N:=7) rfl ?_);(try (refine jm (by rfl) ?_;dsimp only));refine jg ?hg (N:=7) ?hd (cs:=#[.int .i64 a3_0,.int .i64 a3_1,.int .i64 a3_2,.int .i64 a3_3]) (t:=51) ?hr ?_;(case hd => rfl);(case hg => rfl);(case hr => first|(go_simp;done)|(go_simp;rfl));intro gb129 hg w6 hbox hb;have n0_:=qd.mk (qI (by repeat (first|(with_reducible first|exact HB.out|apply qg|apply qc|apply qf)|exact HB.out)) hb);have n1_:=qd.mk (hbox);have n2_:=qd.mk ((by rw [hg];exact (qH (by repeat (first|(with_reducible first|exact HB.out|apply qg|apply qc|apply qf)|exact HB.out))) : w.heap.size ≤ gb129));have n3_:=qd.mk ((by rw [hg];exact (qH (by repeat (first|(with_reducible first|exact HB.out|apply qg|apply qc|apply qf)|exact HB.out))) : w.heap.size ≤ gb129));clear HB;have HB:=n0_;have BK129:=n1_;have GW129:=n2_;have GE129:=n3_;clear n0_ n1_ n2_ n3_;clear hb hbox hg));go_upto_region 1 with (first|((with_reducible refine ji (N:=7) rfl ?_);(try (refine jm (by rfl) ?_;dsimp only));refine jg ?hg (N:=7) ?hd (cs:=#[.int .i64 a3_0,.int .i64 a3_1,.int .i64 a3_2,.int .i64 a3_3]) (t:=51) ?hr ?_;(case hd => rfl);(case hg => rfl);(case hr => first|(go_simp;done)|(go_simp;rfl));intro gb129 hg w6 hbox hb;have n0_:=qd.mk (qI (by repeat (first|(with_reducible first|exact HB.out|apply qg|apply qc|apply qf)|exact HB.out)) hb);have n1_:=qd.mk (hbox);have n2_:=qd.mk ((by rw [hg];exact (qH (by repeat (first|(with_reducible first|exact HB.out|apply qg|apply qc|apply qf)|exact HB.out))) : w.heap.size ≤ gb129));have n3_:=qd.mk ((by rw [hg];exact (qH (by repeat (first|(with_reducible first|exact HB.out|apply qg|apply qc|apply qf)|exact HB.out))) : w.heap.size ≤ gb129));clear HB;have HB:=n0_;have BK129:=n1_;have GW129:=n2_;have GE129:=n3_;clear n0_ n1_ n2_ n3_;clear hb hbox hg)))
 (try simp only [Act.put,List.setIfInBounds_toArray,List.set_cons_zero,List.set_cons_succ])
 go_cut [12] (fun v12 wc => ∃ (kq : Nat) (x12_4 : Bool),v12 = .bool x12_4 ∧ qd (qG.j0 kq a0 a1 a2 x12_4 a3_0 a3_1 a3_2 a3_3 = some (r1,r2,r3,r4)) ∧ qd (kq ≤ k) ∧ qd (wc.heap[gb129]? = some (.cells #[.int .i64 a3_0,.int .i64 a3_1,.int .i64 a3_2,.int .i64 a3_3] 51 (0,0))) ∧ qd (Below w.heap.size w wc))
 case first =>
  have H:=HC5.out
  clear HC5
  by_cases c7 : (a1.size : Int) > 0
  ·rw [if_pos c7] at H
   have c7b0 : decide (0 < (a1.size : Int)) = true:=decide_eq_true c7
   have c7b1 : decide (0 < a1.size) = true:=decide_eq_true (by omega)
   clear c7
   (first|rw [c7b0]|(simp only [qE,qF];rw [c7b0])|skip)
   have H':=qd.mk H
   clear H
   go_wp2
   repeat (go_quiet (fail);try go_wp2)
   go_meet
   case rel => exact ⟨_,(decide ((a2.size : Int) > 0)),(by first|rfl|(simp;done)|(simp [*];done)),H',⟨by first|omega|exact Nat.le_refl _⟩,⟨by (with_reducible repeat (first|refine qx ?_ _|refine qA ?_|refine qw ?_ _));exact BK129.out⟩,⟨by repeat (first|(with_reducible first|exact HB.out|apply qg|apply qc|apply qf|refine qp ?_ GE129.out)|exact HB.out)⟩⟩
  ·rw [if_neg c7] at H
   have c7b0 : decide (0 < (a1.size : Int)) = false:=decide_eq_false c7
   have c7b1 : decide (0 < a1.size) = false:=decide_eq_false (by omega)
   clear c7
   (first|rw [c7b0]|(simp only [qE,qF];rw [c7b0])|skip)
   have H':=qd.mk H
   clear H
   go_wp2
   repeat (go_quiet (fail);try go_wp2)
   go_meet
   case rel => exact ⟨_,(false),(by first|rfl|(simp;done)|(simp [*];done)),H',⟨by first|omega|exact Nat.le_refl _⟩,⟨by (with_reducible repeat (first|refine qx ?_ _|refine qA ?_|refine qw ?_ _));exact BK129.out⟩,⟨by repeat (first|(with_reducible first|exact HB.out|apply qg|apply qc|apply qf|refine qp ?_ GE129.out)|exact HB.out)⟩⟩
 case rest =>
  clear HC5
  try clear p2
  try clear c3
  try clear c7
  try clear c7b0
  try clear c7b1
  obtain ⟨kq,x12_4,rfl,HA,HJ4,BK129,HB⟩:=hcut
  cases kq with
  | zero => exact absurd HA.out (by simp [qG.j0])
  | succ kj4 =>
   have H:=HA.out
   clear HA
   simp only [qG.j0] at H
   by_cases c8 : a0 = 1
   ·rw [if_pos c8] at H
    have c8b0 : (a0 == 1) = true:=beq_iff_eq.mpr c8
    have c8b1 : (a0 != 1) = false:=bne_eq_false_iff_eq.mpr c8
    clear c8
    by_cases c9 : x12_4 = true
    ·subst c9
     have H1 : (if 0 < (a1.size : Int) then (if 0 < (a2.size : Int) then (some (((bt a1 0) == (bt a2 0)),1,1,0)) else (none)) else (none)) = some (r1,r2,r3,r4):=by rw [if_pos rfl] at H;exact H
     clear H
     have H:=H1
     clear H1
     by_cases c10 : 0 < (a1.size : Int)
     ·rw [if_pos c10] at H
      have c10b0 : decide (0 < (a1.size : Int)) = true:=decide_eq_true c10
      have c10b1 : decide (0 < a1.size) = true:=decide_eq_true (by omega)
      clear c10
      by_cases c12 : 0 < (a2.size : Int)
      ·rw [if_pos c12] at H
       have c12b0 : decide (0 < (a2.size : Int)) = true:=decide_eq_true c12
       have c12b1 : decide (0 < a2.size) = true:=decide_eq_true (by omega)
       clear c12
       simp only [Option.some.injEq,Prod.mk.injEq] at H
       obtain ⟨rfl,rfl,rfl,rfl⟩:=H
       have p11 : 0 ≤ (0 : Int):=(by omega)
       have q11 : 0 < a1.size:=(by have : (0 : Int) < (a1.size : Int):=of_decide_eq_true (by first|(with_reducible assumption)|assumption);omega)
       have hx11 : ∀ h : 0 < a1.size,((a1[0]'h).toNat : Int) = bt a1 0:=jI a1 0
       clear p11
       have qi11 : (0 < (a1.size : Int)) = True:=eq_true (of_decide_eq_true (by first|(with_reducible assumption)|assumption))
       replace q11:=eq_true q11
       have p13 : 0 ≤ (0 : Int):=(by omega)
       have q13 : 0 < a2.size:=(by have : (0 : Int) < (a2.size : Int):=of_decide_eq_true (by first|(with_reducible assumption)|assumption);omega)
       have hx13 : ∀ h : 0 < a2.size,((a2[0]'h).toNat : Int) = bt a2 0:=jI a2 0
       clear p13
       have qi13 : (0 < (a2.size : Int)) = True:=eq_true (of_decide_eq_true (by first|(with_reducible assumption)|assumption))
       replace q13:=eq_true q13
       go_wp2
       repeat (go_quiet (fail);try go_wp2)
       refine bodyPost_ret (za (rs:=[.tmp 8,.tmp 9,.tmp 10,.tmp 11]) rfl (by simp) (.tmp (.tmp (.tmp (.tmp .nil))))) rfl ?_
       exact ⟨by first|rfl|(simp [qQ,qP] <;> rfl)|(simp [*,qQ,qP] <;> rfl),by repeat (first|(with_reducible first|exact HB.out|apply qg|apply qc|apply qf|refine qp ?_ GE129.out)|exact HB.out)⟩
      ·rw [if_neg c12] at H
       exact absurd H (by simp)
     ·rw [if_neg c10] at H
      exact absurd H (by simp)
    ·replace c9:=Bool.eq_false_iff.mpr c9
     subst c9
     have H1 : (some (false,1,1,0)) = some (r1,r2,r3,r4):=by rw [if_neg (show ¬ (false = true) by decide)] at H;exact H
     clear H
     have H:=H1
     clear H1
     simp only [Option.some.injEq,Prod.mk.injEq] at H
     obtain ⟨rfl,rfl,rfl,rfl⟩:=H
     go_wp2
     repeat (go_quiet (fail);try go_wp2)
     refine bodyPost_ret (za (rs:=[.tmp 8,.tmp 9,.tmp 10,.tmp 11]) rfl (by simp) (.tmp (.tmp (.tmp (.tmp .nil))))) rfl ?_
     exact ⟨by first|rfl|(simp [qQ,qP] <;> rfl)|(simp [*,qQ,qP] <;> rfl),by repeat (first|(with_reducible first|exact HB.out|apply qg|apply qc|apply qf|refine qp ?_ GE129.out)|exact HB.out)⟩
   ·rw [if_neg c8] at H
    have c8b0 : (a0 == 1) = false:=beq_eq_false_iff_ne.mpr c8
    have c8b1 : (a0 != 1) = true:=bne_iff_ne.mpr c8
    by_cases c14 : a0 = 2
    ·rw [if_pos c14] at H
     have c14b0 : (a0 == 2) = true:=beq_iff_eq.mpr c14
     have c14b1 : (a0 != 2) = false:=bne_eq_false_iff_eq.mpr c14
     clear c14
     by_cases c15 : x12_4 = true
     ·subst c15
      have H1 : (if 0 < (a1.size : Int) then (if 0 < (a2.size : Int) then (some (((bt a1 0) != (bt a2 0)),1,1,a3_2)) else (none)) else (none)) = some (r1,r2,r3,r4):=by rw [if_pos rfl] at H;exact H
      clear H
      have H:=H1
      clear H1
      by_cases c16 : 0 < (a1.size : Int)
      ·rw [if_pos c16] at H
       have c16b0 : decide (0 < (a1.size : Int)) = true:=decide_eq_true c16
       have c16b1 : decide (0 < a1.size) = true:=decide_eq_true (by omega)
       clear c16
       by_cases c18 : 0 < (a2.size : Int)
       ·rw [if_pos c18] at H
        have c18b0 : decide (0 < (a2.size : Int)) = true:=decide_eq_true c18
        have c18b1 : decide (0 < a2.size) = true:=decide_eq_true (by omega)
        clear c18
        simp only [Option.some.injEq,Prod.mk.injEq] at H
        obtain ⟨rfl,rfl,rfl,rfl⟩:=H
        have p17 : 0 ≤ (0 : Int):=(by omega)
        have q17 : 0 < a1.size:=(by have : (0 : Int) < (a1.size : Int):=of_decide_eq_true (by first|(with_reducible assumption)|assumption);omega)
        have hx17 : ∀ h : 0 < a1.size,((a1[0]'h).toNat : Int) = bt a1 0:=jI a1 0
        clear p17
        have qi17 : (0 < (a1.size : Int)) = True:=eq_true (of_decide_eq_true (by first|(with_reducible assumption)|assumption))
        replace q17:=eq_true q17
        have p19 : 0 ≤ (0 : Int):=(by omega)
        have q19 : 0 < a2.size:=(by have : (0 : Int) < (a2.size : Int):=of_decide_eq_true (by first|(with_reducible assumption)|assumption);omega)
        have hx19 : ∀ h : 0 < a2.size,((a2[0]'h).toNat : Int) = bt a2 0:=jI a2 0
        clear p19
        have qi19 : (0 < (a2.size : Int)) = True:=eq_true (of_decide_eq_true (by first|(with_reducible assumption)|assumption))
        replace q19:=eq_true q19
        have hcz20_0 : wc.cell? ⟨gb129,0,none⟩ = some (.int .i64 a3_0):=(qi BK129.out 0).trans rfl
        have hcz20_1 : wc.cell? ⟨gb129,1,none⟩ = some (.int .i64 a3_1):=(qi BK129.out 1).trans rfl
        have hcz20_2 : wc.cell? ⟨gb129,2,none⟩ = some (.int .i64 a3_2):=(qi BK129.out 2).trans rfl
        have hcz20_3 : wc.cell? ⟨gb129,3,none⟩ = some (.int .i64 a3_3):=(qi BK129.out 3).trans rfl
        have hfz20_0:=ql BK129.out 0
        have hfz20_1:=ql BK129.out 1
        have hfz20_2:=ql BK129.out 2
        have hfz20_3:=ql BK129.out 3
        go_wp2
        repeat (go_quiet (fail);try go_wp2)
        refine bodyPost_ret (za (rs:=[.tmp 8,.tmp 9,.tmp 10,.tmp 11]) rfl (by simp) (.tmp (.tmp (.tmp (.tmp .nil))))) rfl ?_
        exact ⟨by first|rfl|(simp [qQ,qP] <;> rfl)|(simp [*,qQ,qP] <;> rfl),by repeat (first|(with_reducible first|exact HB.out|apply qg|apply qc|apply qf|refine qp ?_ GE129.out)|exact HB.out)⟩
       ·rw [if_neg c18] at H
        exact absurd H (by simp)
      ·rw [if_neg c16] at H
       exact absurd H (by simp)
     ·replace c15:=Bool.eq_false_iff.mpr c15
      subst c15
      have H1 : (some (false,1,1,a3_2)) = some (r1,r2,r3,r4):=by rw [if_neg (show ¬ (false = true) by decide)] at H;exact H
      clear H
      have H:=H1
      clear H1
      simp only [Option.some.injEq,Prod.mk.injEq] at H
      obtain ⟨rfl,rfl,rfl,rfl⟩:=H
      have hcz21_0 : wc.cell? ⟨gb129,0,none⟩ = some (.int .i64 a3_0):=(qi BK129.out 0).trans rfl
      have hcz21_1 : wc.cell? ⟨gb129,1,none⟩ = some (.int .i64 a3_1):=(qi BK129.out 1).trans rfl
      have hcz21_2 : wc.cell? ⟨gb129,2,none⟩ = some (.int .i64 a3_2):=(qi BK129.out 2).trans rfl
      have hcz21_3 : wc.cell? ⟨gb129,3,none⟩ = some (.int .i64 a3_3):=(qi BK129.out 3).trans rfl
      have hfz21_0:=ql BK129.out 0
      have hfz21_1:=ql BK129.out 1
      have hfz21_2:=ql BK129.out 2
      have hfz21_3:=ql BK129.out 3
      go_wp2
      repeat (go_quiet (fail);try go_wp2)
      refine bodyPost_ret (za (rs:=[.tmp 8,.tmp 9,.tmp 10,.tmp 11]) rfl (by simp) (.tmp (.tmp (.tmp (.tmp .nil))))) rfl ?_
      exact ⟨by first|rfl|(simp [qQ,qP] <;> rfl)|(simp [*,qQ,qP] <;> rfl),by repeat (first|(with_reducible first|exact HB.out|apply qg|apply qc|apply qf|refine qp ?_ GE129.out)|exact HB.out)⟩
    ·rw [if_neg c14] at H
     have c14b0 : (a0 == 2) = false:=beq_eq_false_iff_ne.mpr c14
     have c14b1 : (a0 != 2) = true:=bne_iff_ne.mpr c14
     by_cases c22 : a0 = 3
     ·rw [if_pos c22] at H
      have c22b0 : (a0 == 3) = true:=beq_iff_eq.mpr c22
      have c22b1 : (a0 != 3) = false:=bne_eq_false_iff_eq.mpr c22
      clear c22
      by_cases c23 : (a1.size : Int) > 1
      ·rw [if_pos c23] at H
       have c23b0 : decide (1 < (a1.size : Int)) = true:=decide_eq_true c23
       have c23b1 : decide (1 < a1.size) = true:=decide_eq_true (by omega)
       clear c23
       by_cases c24 : (a2.size : Int) > 1
       ·rw [if_pos c24] at H
        have c24b0 : decide (1 < (a2.size : Int)) = true:=decide_eq_true c24
        have c24b1 : decide (1 < a2.size) = true:=decide_eq_true (by omega)
        clear c24
        by_cases c25 : 0 < (a1.size : Int)
        ·rw [if_pos c25] at H
         have c25b0 : decide (0 < (a1.size : Int)) = true:=decide_eq_true c25
         have c25b1 : decide (0 < a1.size) = true:=decide_eq_true (by omega)
         clear c25
         by_cases c27 : 1 < (a1.size : Int)
         ·rw [if_pos c27] at H
          have c27b0 : decide (1 < (a1.size : Int)) = true:=decide_eq_true c27
          have c27b1 : decide (1 < a1.size) = true:=decide_eq_true (by omega)
          clear c27
          by_cases c29 : (bt a1 0) = (bt a1 1)
          ·rw [if_pos c29] at H
           have c29b0 : ((bt a1 0) == (bt a1 1)) = true:=beq_iff_eq.mpr c29
           have c29b1 : ((bt a1 0) != (bt a1 1)) = false:=bne_eq_false_iff_eq.mpr c29
           clear c29
           simp only [Option.some.injEq,Prod.mk.injEq] at H
           obtain ⟨rfl,rfl,rfl,rfl⟩:=H
           have p26 : 0 ≤ (0 : Int):=(by omega)
           have q26 : 0 < a1.size:=(by have : (0 : Int) < (a1.size : Int):=of_decide_eq_true (by first|(with_reducible assumption)|assumption);omega)
           have hx26 : ∀ h : 0 < a1.size,((a1[0]'h).toNat : Int) = bt a1 0:=jI a1 0
           clear p26
           have qi26 : (0 < (a1.size : Int)) = True:=eq_true (of_decide_eq_true (by first|(with_reducible assumption)|assumption))
           replace q26:=eq_true q26
           have p28 : 0 ≤ (1 : Int):=(by omega)
           have q28 : 1 < a1.size:=(by have : (1 : Int) < (a1.size : Int):=of_decide_eq_true (by first|(with_reducible assumption)|assumption);omega)
           have hx28 : ∀ h : 1 < a1.size,((a1[1]'h).toNat : Int) = bt a1 1:=jI a1 1
           clear p28
           have qi28 : (1 < (a1.size : Int)) = True:=eq_true (of_decide_eq_true (by first|(with_reducible assumption)|assumption))
           replace q28:=eq_true q28
           have hcz30_0 : wc.cell? ⟨gb129,0,none⟩ = some (.int .i64 a3_0):=(qi BK129.out 0).trans rfl
           have hcz30_1 : wc.cell? ⟨gb129,1,none⟩ = some (.int .i64 a3_1):=(qi BK129.out 1).trans rfl
           have hcz30_2 : wc.cell? ⟨gb129,2,none⟩ = some (.int .i64 a3_2):=(qi BK129.out 2).trans rfl
           have hcz30_3 : wc.cell? ⟨gb129,3,none⟩ = some (.int .i64 a3_3):=(qi BK129.out 3).trans rfl
           have hfz30_0:=ql BK129.out 0
           have hfz30_1:=ql BK129.out 1
           have hfz30_2:=ql BK129.out 2
           have hfz30_3:=ql BK129.out 3
           go_wp2
           repeat (go_quiet (fail);try go_wp2)
           refine bodyPost_ret (za (rs:=[.tmp 8,.tmp 9,.tmp 10,.tmp 11]) rfl (by simp) (.tmp (.tmp (.tmp (.tmp .nil))))) rfl ?_
           exact ⟨by first|rfl|(simp [qQ,qP] <;> rfl)|(simp [*,qQ,qP] <;> rfl),by repeat (first|(with_reducible first|exact HB.out|apply qg|apply qc|apply qf|refine qp ?_ GE129.out)|exact HB.out)⟩
          ·rw [if_neg c29] at H
           have c29b0 : ((bt a1 0) == (bt a1 1)) = false:=beq_eq_false_iff_ne.mpr c29
           have c29b1 : ((bt a1 0) != (bt a1 1)) = true:=bne_iff_ne.mpr c29
           by_cases c32 : 1 < (a2.size : Int)
           ·rw [if_pos c32] at H
            have c32b0 : decide (1 < (a2.size : Int)) = true:=decide_eq_true c32
            have c32b1 : decide (1 < a2.size) = true:=decide_eq_true (by omega)
            clear c32
            by_cases c34 : (bt a1 0) = (bt a2 1)
            ·rw [if_pos c34] at H
             have c34b0 : ((bt a1 0) == (bt a2 1)) = true:=beq_iff_eq.mpr c34
             have c34b1 : ((bt a1 0) != (bt a2 1)) = false:=bne_eq_false_iff_eq.mpr c34
             clear c34
             by_cases c36 : 0 < (a2.size : Int)
             ·rw [if_pos c36] at H
              have c36b0 : decide (0 < (a2.size : Int)) = true:=decide_eq_true c36
              have c36b1 : decide (0 < a2.size) = true:=decide_eq_true (by omega)
              clear c36
              simp only [Option.some.injEq,Prod.mk.injEq] at H
              obtain ⟨rfl,rfl,rfl,rfl⟩:=H
              have p26 : 0 ≤ (0 : Int):=(by omega)
              have q26 : 0 < a1.size:=(by have : (0 : Int) < (a1.size : Int):=of_decide_eq_true (by first|(with_reducible assumption)|assumption);omega)
              have hx26 : ∀ h : 0 < a1.size,((a1[0]'h).toNat : Int) = bt a1 0:=jI a1 0
              clear p26
              have qi26 : (0 < (a1.size : Int)) = True:=eq_true (of_decide_eq_true (by first|(with_reducible assumption)|assumption))
              replace q26:=eq_true q26
              have p28 : 0 ≤ (1 : Int):=(by omega)
              have q28 : 1 < a1.size:=(by have : (1 : Int) < (a1.size : Int):=of_decide_eq_true (by first|(with_reducible assumption)|assumption);omega)
              have hx28 : ∀ h : 1 < a1.size,((a1[1]'h).toNat : Int) = bt a1 1:=jI a1 1
              clear p28
              have qi28 : (1 < (a1.size : Int)) = True:=eq_true (of_decide_eq_true (by first|(with_reducible assumption)|assumption))
              replace q28:=eq_true q28
              have p31 : 0 ≤ (0 : Int):=(by omega)
              have q31 : 0 < a1.size:=(by have : (0 : Int) < (a1.size : Int):=of_decide_eq_true (by first|(with_reducible assumption)|assumption);omega)
              have hx31 : ∀ h : 0 < a1.size,((a1[0]'h).toNat : Int) = bt a1 0:=jI a1 0
              clear p31
              have qi31 : (0 < (a1.size : Int)) = True:=eq_true (of_decide_eq_true (by first|(with_reducible assumption)|assumption))
              replace q31:=eq_true q31
              have p33 : 0 ≤ (1 : Int):=(by omega)
              have q33 : 1 < a2.size:=(by have : (1 : Int) < (a2.size : Int):=of_decide_eq_true (by first|(with_reducible assumption)|assumption);omega)
              have hx33 : ∀ h : 1 < a2.size,((a2[1]'h).toNat : Int) = bt a2 1:=jI a2 1
              clear p33
              have qi33 : (1 < (a2.size : Int)) = True:=eq_true (of_decide_eq_true (by first|(with_reducible assumption)|assumption))
              replace q33:=eq_true q33
              have p35 : 0 ≤ (1 : Int):=(by omega)
              have q35 : 1 < a1.size:=(by have : (1 : Int) < (a1.size : Int):=of_decide_eq_true (by first|(with_reducible assumption)|assumption);omega)
              have hx35 : ∀ h : 1 < a1.size,((a1[1]'h).toNat : Int) = bt a1 1:=jI a1 1
              clear p35
              have qi35 : (1 < (a1.size : Int)) = True:=eq_true (of_decide_eq_true (by first|(with_reducible assumption)|assumption))
              replace q35:=eq_true q35
              have p37 : 0 ≤ (0 : Int):=(by omega)
              have q37 : 0 < a2.size:=(by have : (0 : Int) < (a2.size : Int):=of_decide_eq_true (by first|(with_reducible assumption)|assumption);omega)
              have hx37 : ∀ h : 0 < a2.size,((a2[0]'h).toNat : Int) = bt a2 0:=jI a2 0
              clear p37
              have qi37 : (0 < (a2.size : Int)) = True:=eq_true (of_decide_eq_true (by first|(with_reducible assumption)|assumption))
              replace q37:=eq_true q37
              have hcz38_0 : wc.cell? ⟨gb129,0,none⟩ = some (.int .i64 a3_0):=(qi BK129.out 0).trans rfl
              have hcz38_1 : wc.cell? ⟨gb129,1,none⟩ = some (.int .i64 a3_1):=(qi BK129.out 1).trans rfl
              have hcz38_2 : wc.cell? ⟨gb129,2,none⟩ = some (.int .i64 a3_2):=(qi BK129.out 2).trans rfl
              have hcz38_3 : wc.cell? ⟨gb129,3,none⟩ = some (.int .i64 a3_3):=(qi BK129.out 3).trans rfl
              have hfz38_0:=ql BK129.out 0
              have hfz38_1:=ql BK129.out 1
              have hfz38_2:=ql BK129.out 2
              have hfz38_3:=ql BK129.out 3
              go_wp2
              repeat (go_quiet (fail);try go_wp2)
              refine bodyPost_ret (za (rs:=[.tmp 8,.tmp 9,.tmp 10,.tmp 11]) rfl (by simp) (.tmp (.tmp (.tmp (.tmp .nil))))) rfl ?_
              exact ⟨by first|rfl|(simp [qQ,qP] <;> rfl)|(simp [*,qQ,qP] <;> rfl),by repeat (first|(with_reducible first|exact HB.out|apply qg|apply qc|apply qf|refine qp ?_ GE129.out)|exact HB.out)⟩
             ·rw [if_neg c36] at H
              exact absurd H (by simp)
            ·rw [if_neg c34] at H
             have c34b0 : ((bt a1 0) == (bt a2 1)) = false:=beq_eq_false_iff_ne.mpr c34
             have c34b1 : ((bt a1 0) != (bt a2 1)) = true:=bne_iff_ne.mpr c34
             simp only [Option.some.injEq,Prod.mk.injEq] at H
             obtain ⟨rfl,rfl,rfl,rfl⟩:=H
             have p26 : 0 ≤ (0 : Int):=(by omega)
             have q26 : 0 < a1.size:=(by have : (0 : Int) < (a1.size : Int):=of_decide_eq_true (by first|(with_reducible assumption)|assumption);omega)
             have hx26 : ∀ h : 0 < a1.size,((a1[0]'h).toNat : Int) = bt a1 0:=jI a1 0
             clear p26
             have qi26 : (0 < (a1.size : Int)) = True:=eq_true (of_decide_eq_true (by first|(with_reducible assumption)|assumption))
             replace q26:=eq_true q26
             have p28 : 0 ≤ (1 : Int):=(by omega)
             have q28 : 1 < a1.size:=(by have : (1 : Int) < (a1.size : Int):=of_decide_eq_true (by first|(with_reducible assumption)|assumption);omega)
             have hx28 : ∀ h : 1 < a1.size,((a1[1]'h).toNat : Int) = bt a1 1:=jI a1 1
             clear p28
             have qi28 : (1 < (a1.size : Int)) = True:=eq_true (of_decide_eq_true (by first|(with_reducible assumption)|assumption))
             replace q28:=eq_true q28
             have p31 : 0 ≤ (0 : Int):=(by omega)
             have q31 : 0 < a1.size:=(by have : (0 : Int) < (a1.size : Int):=of_decide_eq_true (by first|(with_reducible assumption)|assumption);omega)
             have hx31 : ∀ h : 0 < a1.size,((a1[0]'h).toNat : Int) = bt a1 0:=jI a1 0
             clear p31
             have qi31 : (0 < (a1.size : Int)) = True:=eq_true (of_decide_eq_true (by first|(with_reducible assumption)|assumption))
             replace q31:=eq_true q31
             have p33 : 0 ≤ (1 : Int):=(by omega)
             have q33 : 1 < a2.size:=(by have : (1 : Int) < (a2.size : Int):=of_decide_eq_true (by first|(with_reducible assumption)|assumption);omega)
             have hx33 : ∀ h : 1 < a2.size,((a2[1]'h).toNat : Int) = bt a2 1:=jI a2 1
             clear p33
             have qi33 : (1 < (a2.size : Int)) = True:=eq_true (of_decide_eq_true (by first|(with_reducible assumption)|assumption))
             replace q33:=eq_true q33
             have hcz39_0 : wc.cell? ⟨gb129,0,none⟩ = some (.int .i64 a3_0):=(qi BK129.out 0).trans rfl
             have hcz39_1 : wc.cell? ⟨gb129,1,none⟩ = some (.int .i64 a3_1):=(qi BK129.out 1).trans rfl
             have hcz39_2 : wc.cell? ⟨gb129,2,none⟩ = some (.int .i64 a3_2):=(qi BK129.out 2).trans rfl
             have hcz39_3 : wc.cell? ⟨gb129,3,none⟩ = some (.int .i64 a3_3):=(qi BK129.out 3).trans rfl
             have hfz39_0:=ql BK129.out 0
             have hfz39_1:=ql BK129.out 1
             have hfz39_2:=ql BK129.out 2
             have hfz39_3:=ql BK129.out 3
             go_wp2
             repeat (go_quiet (fail);try go_wp2)
             refine bodyPost_ret (za (rs:=[.tmp 8,.tmp 9,.tmp 10,.tmp 11]) rfl (by simp) (.tmp (.tmp (.tmp (.tmp .nil))))) rfl ?_
             exact ⟨by first|rfl|(simp [qQ,qP] <;> rfl)|(simp [*,qQ,qP] <;> rfl),by repeat (first|(with_reducible first|exact HB.out|apply qg|apply qc|apply qf|refine qp ?_ GE129.out)|exact HB.out)⟩
           ·rw [if_neg c32] at H
            exact absurd H (by simp)
         ·rw [if_neg c27] at H
          exact absurd H (by simp)
        ·rw [if_neg c25] at H
         exact absurd H (by simp)
       ·rw [if_neg c24] at H
        have c24b0 : decide (1 < (a2.size : Int)) = false:=decide_eq_false c24
        have c24b1 : decide (1 < a2.size) = false:=decide_eq_false (by omega)
        clear c24
        simp only [Option.some.injEq,Prod.mk.injEq] at H
        obtain ⟨rfl,rfl,rfl,rfl⟩:=H
        have hcz40_0 : wc.cell? ⟨gb129,0,none⟩ = some (.int .i64 a3_0):=(qi BK129.out 0).trans rfl
        have hcz40_1 : wc.cell? ⟨gb129,1,none⟩ = some (.int .i64 a3_1):=(qi BK129.out 1).trans rfl
        have hcz40_2 : wc.cell? ⟨gb129,2,none⟩ = some (.int .i64 a3_2):=(qi BK129.out 2).trans rfl
        have hcz40_3 : wc.cell? ⟨gb129,3,none⟩ = some (.int .i64 a3_3):=(qi BK129.out 3).trans rfl
        have hfz40_0:=ql BK129.out 0
        have hfz40_1:=ql BK129.out 1
        have hfz40_2:=ql BK129.out 2
        have hfz40_3:=ql BK129.out 3
        go_wp2
        repeat (go_quiet (fail);try go_wp2)
        refine bodyPost_ret (za (rs:=[.tmp 8,.tmp 9,.tmp 10,.tmp 11]) rfl (by simp) (.tmp (.tmp (.tmp (.tmp .nil))))) rfl ?_
        exact ⟨by first|rfl|(simp [qQ,qP] <;> rfl)|(simp [*,qQ,qP] <;> rfl),by repeat (first|(with_reducible first|exact HB.out|apply qg|apply qc|apply qf|refine qp ?_ GE129.out)|exact HB.out)⟩
      ·rw [if_neg c23] at H
       have c23b0 : decide (1 < (a1.size : Int)) = false:=decide_eq_false c23
       have c23b1 : decide (1 < a1.size) = false:=decide_eq_false (by omega)
       clear c23
       simp only [Option.some.injEq,Prod.mk.injEq] at H
       obtain ⟨rfl,rfl,rfl,rfl⟩:=H
       have hcz41_0 : wc.cell? ⟨gb129,0,none⟩ = some (.int .i64 a3_0):=(qi BK129.out 0).trans rfl
       have hcz41_1 : wc.cell? ⟨gb129,1,none⟩ = some (.int .i64 a3_1):=(qi BK129.out 1).trans rfl
       have hcz41_2 : wc.cell? ⟨gb129,2,none⟩ = some (.int .i64 a3_2):=(qi BK129.out 2).trans rfl
       have hcz41_3 : wc.cell? ⟨gb129,3,none⟩ = some (.int .i64 a3_3):=(qi BK129.out 3).trans rfl
       have hfz41_0:=ql BK129.out 0
       have hfz41_1:=ql BK129.out 1
       have hfz41_2:=ql BK129.out 2
       have hfz41_3:=ql BK129.out 3
       go_wp2
       repeat (go_quiet (fail);try go_wp2)
       refine bodyPost_ret (za (rs:=[.tmp 8,.tmp 9,.tmp 10,.tmp 11]) rfl (by simp) (.tmp (.tmp (.tmp (.tmp .nil))))) rfl ?_
       exact ⟨by first|rfl|(simp [qQ,qP] <;> rfl)|(simp [*,qQ,qP] <;> rfl),by repeat (first|(with_reducible first|exact HB.out|apply qg|apply qc|apply qf|refine qp ?_ GE129.out)|exact HB.out)⟩
     ·rw [if_neg c22] at H
      have c22b0 : (a0 == 3) = false:=beq_eq_false_iff_ne.mpr c22
      have c22b1 : (a0 != 3) = true:=bne_iff_ne.mpr c22
      by_cases c42 : a0 = 4
      ·rw [if_pos c42] at H
       have c42b0 : (a0 == 4) = true:=beq_iff_eq.mpr c42
       have c42b1 : (a0 != 4) = false:=bne_eq_false_iff_eq.mpr c42
       clear c42
       simp only [Option.some.injEq,Prod.mk.injEq] at H
       obtain ⟨rfl,rfl,rfl,rfl⟩:=H
       have hcz43_0 : wc.cell? ⟨gb129,0,none⟩ = some (.int .i64 a3_0):=(qi BK129.out 0).trans rfl
       have hcz43_1 : wc.cell? ⟨gb129,1,none⟩ = some (.int .i64 a3_1):=(qi BK129.out 1).trans rfl
       have hcz43_2 : wc.cell? ⟨gb129,2,none⟩ = some (.int .i64 a3_2):=(qi BK129.out 2).trans rfl
       have hcz43_3 : wc.cell? ⟨gb129,3,none⟩ = some (.int .i64 a3_3):=(qi BK129.out 3).trans rfl
       have hfz43_0:=ql BK129.out 0
       have hfz43_1:=ql BK129.out 1
       have hfz43_2:=ql BK129.out 2
       have hfz43_3:=ql BK129.out 3
       go_wp2
       repeat (go_quiet (fail);try go_wp2)
       refine bodyPost_ret (za (rs:=[.tmp 8,.tmp 9,.tmp 10,.tmp 11]) rfl (by simp) (.tmp (.tmp (.tmp (.tmp .nil))))) rfl ?_
       exact ⟨by first|rfl|(simp [qQ,qP] <;> rfl)|(simp [*,qQ,qP] <;> rfl),by repeat (first|(with_reducible first|exact HB.out|apply qg|apply qc|apply qf|refine qp ?_ GE129.out)|exact HB.out)⟩
      ·rw [if_neg c42] at H
       have c42b0 : (a0 == 4) = false:=beq_eq_false_iff_ne.mpr c42
       have c42b1 : (a0 != 4) = true:=bne_iff_ne.mpr c42
       simp only [Option.some.injEq,Prod.mk.injEq] at H
       obtain ⟨rfl,rfl,rfl,rfl⟩:=H
       have hcz44_0 : wc.cell? ⟨gb129,0,none⟩ = some (.int .i64 a3_0):=(qi BK129.out 0).trans rfl
       have hcz44_1 : wc.cell? ⟨gb129,1,none⟩ = some (.int .i64 a3_1):=(qi BK129.out 1).trans rfl
       have hcz44_2 : wc.cell? ⟨gb129,2,none⟩ = some (.int .i64 a3_2):=(qi BK129.out 2).trans rfl
       have hcz44_3 : wc.cell? ⟨gb129,3,none⟩ = some (.int .i64 a3_3):=(qi BK129.out 3).trans rfl
       have hfz44_0:=ql BK129.out 0
       have hfz44_1:=ql BK129.out 1
       have hfz44_2:=ql BK129.out 2
       have hfz44_3:=ql BK129.out 3
       go_wp2
       repeat (go_quiet (fail);try go_wp2)
       refine bodyPost_ret (za (rs:=[.tmp 8,.tmp 9,.tmp 10,.tmp 11]) rfl (by simp) (.tmp (.tmp (.tmp (.tmp .nil))))) rfl ?_
       exact ⟨by first|rfl|(simp [qQ,qP] <;> rfl)|(simp [*,qQ,qP] <;> rfl),by repeat (first|(with_reducible first|exact HB.out|apply qg|apply qc|apply qf|refine qp ?_ GE129.out)|exact HB.out)⟩
end Go.Proofs.Ytdefecnngccmoaa.QTells
