/- The great region of CompactStays: what its test tells. -/
import Derived.Test.YtoinkagmhcojlaaPart
import Derived.Test.YtoinkagmhcojlaaLex
namespace Go.Proofs.Ytoinkagmhcojlaa
open Go.RowKit
set_option linter.unusedVariables false
set_option linter.unusedSimpArgs false
def findR (n : Nat) : Code → Option Code
  | .region id ops d => if id = n then some (.region id ops d) else none
  | .seq a b => (findR n a).or (findR n b)
  | .cond _ a b => (findR n a).or (findR n b)
  | .block _ a => findR n a
  | .loop a => findR n a
  | _ => none
noncomputable def code10 : Code := ((Try.f4.body.bind (findR 10))).getD .skip
/-- Is a batch told as another? -/
def tells (b b' : Bat) : Bool := (b'.base == b.base) && ((b'.count == b.count) && ((b'.producer == b.producer) && ((b'.epoch == b.epoch) && ((b'.seq == b.seq) && (decide (partN b'.records b.records = b'.records.length) && (decide (0 < b'.records.length) || (b.producer != 0)))))))

theorem reg10_none (w : World) (Q : Exit → Act → World → Prop) (g off llen c clen c2 n k : Nat) (A2 : Option Addr) (hmC : clen ≤ 9223372036854775807) (hml : llen ≤ 9223372036854775807) (hk : k < llen) (hn : ¬ n < clen) (v1 v2 v3 v4 v5 v6 v8 v11 v12 v13 v14 v15 v16 v17 v18 v19 v20 v21 v22 v23 v24 v25 v26 v27 v28 v29 v30 v31 v32 v33 v34 v35 v36 v37 v38 v39 v40 v41 v42 v43 v44 v45 v46 v47 v48 v49 v50 v51 v52 v53 v54 v55 v56 v57 v58 v59 v60 v61 v62 v63 v64 v65 v66 v67 v68 v69 v70 v71 v72 v73 v74 v75 v76 v77 v78 v79 v80 v81 v82 v83 v84 v85 v86 v87 v88 v89 v90 v91 v92 v93 v94 v95 v96 v97 v98 v99 v100 v101 v102 v103 v104 v105 v106 v107 v108 v109 v110 v111 v112 v113 v114 v115 v116 v117 v118 v119 v120 v121 v122 v123 v124 v125 v126 v127 v128 v129 v130 v131 v132 v133 v134 v135 v136 v137 v138 v139 v140 v141 v142 v143 v144 v145 v146 v147 v148 v149 v150 v151 v152 v153 v154 v155 v156 v157 v158 v159 v160 v161 v162 v163 v164 v165 v166 v167 v168 v169 v170 v171 v172 v173 v174 v175 v176 v177 v178 v179 v180 v181 v182 v183 v184 v185 v186 v187 v188 v189 v190 v191 v192 v193 v194 v195 v196 v197 v198 v199 v200 v201 v202 v203 v204 v205 v206 v207 v208 v209 : Value)
    (hQ : ∀ (u31 u32 u33 u34 u35 u36 u37 u38 u39 u40 u41 u42 u43 u44 u45 u46 u47 u48 u49 u50 u51 u52 u53 u54 u55 u56 u57 u58 u59 u60 u61 u62 u63 u64 u65 u66 u67 u68 u69 u70 u71 u72 u73 u74 u75 u76 u77 u78 u79 u80 u81 u82 u83 u84 u85 u86 u87 u88 u89 u90 u91 u92 u93 u94 u95 u96 u97 u98 u99 u100 u101 u102 u103 u104 u105 u106 u107 u108 u109 u110 u111 u112 u113 u114 u115 u116 u117 u118 u119 u120 u121 u122 u123 u124 u125 u126 u127 u128 : Value) (w' : World), Below w.heap.size w w' → Q .normal ⟨#[.slice (some ⟨g, off, none⟩) llen c, v1, v2, v3, v4, v5, v6, .slice A2 clen c2, v8, .int .i64 (n : Int), .int .i64 (k : Int), v11, v12, v13, v14, v15, v16, v17, v18, v19, v20, v21, v22, v23, v24, v25, v26, v27, v28, v29, v30, u31, u32, u33, u34, u35, u36, u37, u38, u39, u40, u41, u42, u43, u44, u45, u46, u47, u48, u49, u50, u51, u52, u53, u54, u55, u56, u57, u58, u59, u60, u61, u62, u63, u64, u65, u66, u67, u68, u69, u70, u71, u72, u73, u74, u75, u76, u77, u78, u79, u80, u81, u82, u83, u84, u85, u86, u87, u88, u89, u90, u91, u92, u93, u94, u95, u96, u97, u98, u99, u100, u101, u102, u103, u104, u105, u106, u107, u108, u109, u110, u111, u112, u113, u114, u115, u116, u117, u118, u119, u120, u121, u122, u123, u124, u125, u126, u127, u128, .bool false, v130, v131, v132, v133, v134, v135, v136, v137, v138, v139, v140, v141, v142, v143, v144, v145, v146, v147, v148, v149, v150, v151, v152, v153, v154, v155, v156, v157, v158, v159, v160, v161, v162, v163, v164, v165, v166, v167, v168, v169, v170, v171, v172, v173, v174, v175, v176, v177, v178, v179, v180, v181, v182, v183, v184, v185, v186, v187, v188, v189, v190, v191, v192, v193, v194, v195, v196, v197, v198, v199, v200, v201, v202, v203, v204, v205, v206, v207, v208, v209], []⟩ w') : Code.wp Try.prog code10 Q ⟨#[.slice (some ⟨g, off, none⟩) llen c, v1, v2, v3, v4, v5, v6, .slice A2 clen c2, v8, .int .i64 (n : Int), .int .i64 (k : Int), v11, v12, v13, v14, v15, v16, v17, v18, v19, v20, v21, v22, v23, v24, v25, v26, v27, v28, v29, v30, v31, v32, v33, v34, v35, v36, v37, v38, v39, v40, v41, v42, v43, v44, v45, v46, v47, v48, v49, v50, v51, v52, v53, v54, v55, v56, v57, v58, v59, v60, v61, v62, v63, v64, v65, v66, v67, v68, v69, v70, v71, v72, v73, v74, v75, v76, v77, v78, v79, v80, v81, v82, v83, v84, v85, v86, v87, v88, v89, v90, v91, v92, v93, v94, v95, v96, v97, v98, v99, v100, v101, v102, v103, v104, v105, v106, v107, v108, v109, v110, v111, v112, v113, v114, v115, v116, v117, v118, v119, v120, v121, v122, v123, v124, v125, v126, v127, v128, v129, v130, v131, v132, v133, v134, v135, v136, v137, v138, v139, v140, v141, v142, v143, v144, v145, v146, v147, v148, v149, v150, v151, v152, v153, v154, v155, v156, v157, v158, v159, v160, v161, v162, v163, v164, v165, v166, v167, v168, v169, v170, v171, v172, v173, v174, v175, v176, v177, v178, v179, v180, v181, v182, v183, v184, v185, v186, v187, v188, v189, v190, v191, v192, v193, v194, v195, v196, v197, v198, v199, v200, v201, v202, v203, v204, v205, v206, v207, v208, v209], []⟩ w := by
  show Code.wp Try.prog (Code.region 10 _ true) Q _ w
  simp only [List.append_eq, List.cons_append, List.nil_append]
  refine wp_region_ext_big (by kernel_rfl) (by kernel_rfl) (by kernel_rfl) ?_
  have hnc : (decide (n < clen)) = false := decide_eq_false hn
  (skip; (repeat (go_big_quiet_step (fail))); refine wpQuiet_nil ?_; rintro _ ⟨⟨wx, hx⟩, rfl⟩)
  apply hQ
  exact hx

set_option maxHeartbeats 2000000 in
theorem reg10_some (w : World) (Q : Exit → Act → World → Prop) (g off llen c g2 off2 clen c2 n k rc rcb : Nat) (RA RB : Option Addr) (b b' : Bat) (ok1 ok2 : Nat → Prop) (hmC : clen ≤ 9223372036854775807) (hml : llen ≤ 9223372036854775807) (hk : k < llen) (hn : n < clen)
    (hrm : b.records.length ≤ 9223372036854775807) (hrm' : b'.records.length ≤ 9223372036854775807) (hrr : Hid (recK.At w ok1 RA rc b.records)) (hrB : Hid (recK.At w ok2 RB rcb b'.records)) (q0 : w.cell? ⟨g, off + k * 6, none⟩ = some (.int .i64 b.base)) (q1 : w.cell? ⟨g, off + k * 6 + 1, none⟩ = some (.int .i64 b.count)) (q2 : w.cell? ⟨g, off + k * 6 + 2, none⟩ = some (.int .i64 b.producer)) (q3 : w.cell? ⟨g, off + k * 6 + 3, none⟩ = some (.int .i64 b.epoch)) (q4 : w.cell? ⟨g, off + k * 6 + 4, none⟩ = some (.int .i64 b.seq)) (q5 : w.cell? ⟨g, off + k * 6 + 5, none⟩ = some (.slice RA b.records.length rc)) (z0 : w.cell? ⟨g2, off2 + n * 6, none⟩ = some (.int .i64 b'.base)) (z1 : w.cell? ⟨g2, off2 + n * 6 + 1, none⟩ = some (.int .i64 b'.count)) (z2 : w.cell? ⟨g2, off2 + n * 6 + 2, none⟩ = some (.int .i64 b'.producer)) (z3 : w.cell? ⟨g2, off2 + n * 6 + 3, none⟩ = some (.int .i64 b'.epoch)) (z4 : w.cell? ⟨g2, off2 + n * 6 + 4, none⟩ = some (.int .i64 b'.seq)) (z5 : w.cell? ⟨g2, off2 + n * 6 + 5, none⟩ = some (.slice RB b'.records.length rcb)) (v1 v2 v3 v4 v5 v6 v8 v11 v12 v13 v14 v15 v16 v17 v18 v19 v20 v21 v22 v23 v24 v25 v26 v27 v28 v29 v30 v31 v32 v33 v34 v35 v36 v37 v38 v39 v40 v41 v42 v43 v44 v45 v46 v47 v48 v49 v50 v51 v52 v53 v54 v55 v56 v57 v58 v59 v60 v61 v62 v63 v64 v65 v66 v67 v68 v69 v70 v71 v72 v73 v74 v75 v76 v77 v78 v79 v80 v81 v82 v83 v84 v85 v86 v87 v88 v89 v90 v91 v92 v93 v94 v95 v96 v97 v98 v99 v100 v101 v102 v103 v104 v105 v106 v107 v108 v109 v110 v111 v112 v113 v114 v115 v116 v117 v118 v119 v120 v121 v122 v123 v124 v125 v126 v127 v128 v129 v130 v131 v132 v133 v134 v135 v136 v137 v138 v139 v140 v141 v142 v143 v144 v145 v146 v147 v148 v149 v150 v151 v152 v153 v154 v155 v156 v157 v158 v159 v160 v161 v162 v163 v164 v165 v166 v167 v168 v169 v170 v171 v172 v173 v174 v175 v176 v177 v178 v179 v180 v181 v182 v183 v184 v185 v186 v187 v188 v189 v190 v191 v192 v193 v194 v195 v196 v197 v198 v199 v200 v201 v202 v203 v204 v205 v206 v207 v208 v209 : Value)
    (hQ : ∀ (u31 u32 u33 u34 u35 u36 u37 u38 u39 u40 u41 u42 u43 u44 u45 u46 u47 u48 u49 u50 u51 u52 u53 u54 u55 u56 u57 u58 u59 u60 u61 u62 u63 u64 u65 u66 u67 u68 u69 u70 u71 u72 u73 u74 u75 u76 u77 u78 u79 u80 u81 u82 u83 u84 u85 u86 u87 u88 u89 u90 u91 u92 u93 u94 u95 u96 u97 u98 u99 u100 u101 u102 u103 u104 u105 u106 u107 u108 u109 u110 u111 u112 u113 u114 u115 u116 u117 u118 u119 u120 u121 u122 u123 u124 u125 u126 u127 u128 : Value) (w' : World), Below w.heap.size w w' → Q .normal ⟨#[.slice (some ⟨g, off, none⟩) llen c, v1, v2, v3, v4, v5, v6, .slice (some ⟨g2, off2, none⟩) clen c2, v8, .int .i64 (n : Int), .int .i64 (k : Int), v11, v12, v13, v14, v15, v16, v17, v18, v19, v20, v21, v22, v23, v24, v25, v26, v27, v28, v29, v30, u31, u32, u33, u34, u35, u36, u37, u38, u39, u40, u41, u42, u43, u44, u45, u46, u47, u48, u49, u50, u51, u52, u53, u54, u55, u56, u57, u58, u59, u60, u61, u62, u63, u64, u65, u66, u67, u68, u69, u70, u71, u72, u73, u74, u75, u76, u77, u78, u79, u80, u81, u82, u83, u84, u85, u86, u87, u88, u89, u90, u91, u92, u93, u94, u95, u96, u97, u98, u99, u100, u101, u102, u103, u104, u105, u106, u107, u108, u109, u110, u111, u112, u113, u114, u115, u116, u117, u118, u119, u120, u121, u122, u123, u124, u125, u126, u127, u128, .bool (tells b b'), v130, v131, v132, v133, v134, v135, v136, v137, v138, v139, v140, v141, v142, v143, v144, v145, v146, v147, v148, v149, v150, v151, v152, v153, v154, v155, v156, v157, v158, v159, v160, v161, v162, v163, v164, v165, v166, v167, v168, v169, v170, v171, v172, v173, v174, v175, v176, v177, v178, v179, v180, v181, v182, v183, v184, v185, v186, v187, v188, v189, v190, v191, v192, v193, v194, v195, v196, v197, v198, v199, v200, v201, v202, v203, v204, v205, v206, v207, v208, v209], []⟩ w') : Code.wp Try.prog code10 Q ⟨#[.slice (some ⟨g, off, none⟩) llen c, v1, v2, v3, v4, v5, v6, .slice (some ⟨g2, off2, none⟩) clen c2, v8, .int .i64 (n : Int), .int .i64 (k : Int), v11, v12, v13, v14, v15, v16, v17, v18, v19, v20, v21, v22, v23, v24, v25, v26, v27, v28, v29, v30, v31, v32, v33, v34, v35, v36, v37, v38, v39, v40, v41, v42, v43, v44, v45, v46, v47, v48, v49, v50, v51, v52, v53, v54, v55, v56, v57, v58, v59, v60, v61, v62, v63, v64, v65, v66, v67, v68, v69, v70, v71, v72, v73, v74, v75, v76, v77, v78, v79, v80, v81, v82, v83, v84, v85, v86, v87, v88, v89, v90, v91, v92, v93, v94, v95, v96, v97, v98, v99, v100, v101, v102, v103, v104, v105, v106, v107, v108, v109, v110, v111, v112, v113, v114, v115, v116, v117, v118, v119, v120, v121, v122, v123, v124, v125, v126, v127, v128, v129, v130, v131, v132, v133, v134, v135, v136, v137, v138, v139, v140, v141, v142, v143, v144, v145, v146, v147, v148, v149, v150, v151, v152, v153, v154, v155, v156, v157, v158, v159, v160, v161, v162, v163, v164, v165, v166, v167, v168, v169, v170, v171, v172, v173, v174, v175, v176, v177, v178, v179, v180, v181, v182, v183, v184, v185, v186, v187, v188, v189, v190, v191, v192, v193, v194, v195, v196, v197, v198, v199, v200, v201, v202, v203, v204, v205, v206, v207, v208, v209], []⟩ w := by
  show Code.wp Try.prog (Code.region 10 _ true) Q _ w
  simp only [List.append_eq, List.cons_append, List.nil_append]
  refine wp_region_ext_big (by kernel_rfl) (by kernel_rfl) (by kernel_rfl) ?_
  have hgw : g < w.heap.size := cell_lt q0
  have hgw2 : g2 < w.heap.size := cell_lt z0
  cases hq_base : (b'.base == b.base)
  · have ht : tells b b' = false := by simp only [tells, hq_base, Bool.true_and, Bool.false_and, Bool.and_true, Bool.and_false, Bool.or_true, Bool.true_or, Bool.or_false, Bool.false_or]
    rw [ht] at hQ
    clear ht
    (skip; (repeat (go_big_quiet_step (fail))); refine wpQuiet_nil ?_; rintro _ ⟨⟨wx, hx⟩, rfl⟩)
    apply hQ
    exact hx
  · skip
    cases hq_count : (b'.count == b.count)
    · have ht : tells b b' = false := by simp only [tells, hq_base, hq_count, Bool.true_and, Bool.false_and, Bool.and_true, Bool.and_false, Bool.or_true, Bool.true_or, Bool.or_false, Bool.false_or]
      rw [ht] at hQ
      clear ht
      (skip; (repeat (go_big_quiet_step (fail))); refine wpQuiet_nil ?_; rintro _ ⟨⟨wx, hx⟩, rfl⟩)
      apply hQ
      exact hx
    · skip
      cases hq_producer : (b'.producer == b.producer)
      · have ht : tells b b' = false := by simp only [tells, hq_base, hq_count, hq_producer, Bool.true_and, Bool.false_and, Bool.and_true, Bool.and_false, Bool.or_true, Bool.true_or, Bool.or_false, Bool.false_or]
        rw [ht] at hQ
        clear ht
        (skip; (repeat (go_big_quiet_step (fail))); refine wpQuiet_nil ?_; rintro _ ⟨⟨wx, hx⟩, rfl⟩)
        apply hQ
        exact hx
      · skip
        cases hq_epoch : (b'.epoch == b.epoch)
        · have ht : tells b b' = false := by simp only [tells, hq_base, hq_count, hq_producer, hq_epoch, Bool.true_and, Bool.false_and, Bool.and_true, Bool.and_false, Bool.or_true, Bool.true_or, Bool.or_false, Bool.false_or]
          rw [ht] at hQ
          clear ht
          (skip; (repeat (go_big_quiet_step (fail))); refine wpQuiet_nil ?_; rintro _ ⟨⟨wx, hx⟩, rfl⟩)
          apply hQ
          exact hx
        · skip
          cases hq_seq : (b'.seq == b.seq)
          · have ht : tells b b' = false := by simp only [tells, hq_base, hq_count, hq_producer, hq_epoch, hq_seq, Bool.true_and, Bool.false_and, Bool.and_true, Bool.and_false, Bool.or_true, Bool.true_or, Bool.or_false, Bool.false_or]
            rw [ht] at hQ
            clear ht
            (skip; (repeat (go_big_quiet_step (fail))); refine wpQuiet_nil ?_; rintro _ ⟨⟨wx, hx⟩, rfl⟩)
            apply hQ
            exact hx
          · skip
            cases hpp : decide (partN b'.records b.records = b'.records.length)
            · have ht : tells b b' = false := by simp only [tells, hq_base, hq_count, hq_producer, hq_epoch, hq_seq, hpp, Bool.true_and, Bool.false_and, Bool.and_true, Bool.and_false, Bool.or_true, Bool.true_or, Bool.or_false, Bool.false_or]
              rw [ht] at hQ
              clear ht
              have hcall : ∀ (w' : World) ok1 ok2, recK.At w' ok1 RB rcb b'.records → recK.At w' ok2 RA rc b.records → Calls Try.prog 14 #[.slice RB b'.records.length rcb, .slice RA b.records.length rc] w' fun e w'' => e = .returned (.bool false) ∧ Below w'.heap.size w' w'' := fun w' ok1 ok2 h1 h2 => by
                have := part_calls b'.records b.records RB RA rcb rc w' _ _ h1 h2
                rw [hpp] at this
                exact this
              clear hpp
              (skip; (repeat (go_big_quiet_step ((first | (go_at_call 14; exact ext_of (hcall _ _ _ (hrB.out.below (Ext.below _)) (hrr.out.below (Ext.below _)))))))); refine wpQuiet_nil ?_; rintro _ ⟨⟨wx, hx⟩, rfl⟩)
              apply hQ
              exact hx
            · by_cases hl : 0 < b'.records.length
              · have hlb : decide (0 < b'.records.length) = true := decide_eq_true hl
                have ht : tells b b' = true := by simp only [tells, hq_base, hq_count, hq_producer, hq_epoch, hq_seq, hpp, hlb, Bool.true_and, Bool.false_and, Bool.and_true, Bool.and_false, Bool.or_true, Bool.true_or, Bool.or_false, Bool.false_or]
                rw [ht] at hQ
                clear ht
                have hcall : ∀ (w' : World) ok1 ok2, recK.At w' ok1 RB rcb b'.records → recK.At w' ok2 RA rc b.records → Calls Try.prog 14 #[.slice RB b'.records.length rcb, .slice RA b.records.length rc] w' fun e w'' => e = .returned (.bool true) ∧ Below w'.heap.size w' w'' := fun w' ok1 ok2 h1 h2 => by
                  have := part_calls b'.records b.records RB RA rcb rc w' _ _ h1 h2
                  rw [hpp] at this
                  exact this
                clear hpp
                (skip; (repeat (go_big_quiet_step ((first | (go_at_call 14; exact ext_of (hcall _ _ _ (hrB.out.below (Ext.below _)) (hrr.out.below (Ext.below _)))))))); refine wpQuiet_nil ?_; rintro _ ⟨⟨wx, hx⟩, rfl⟩)
                apply hQ
                exact hx
              · have hl0 : b'.records.length = 0 := by omega
                have hlb : decide (0 < b'.records.length) = false := decide_eq_false hl
                cases hpb : (b.producer != 0)
                · have ht : tells b b' = false := by simp only [tells, hq_base, hq_count, hq_producer, hq_epoch, hq_seq, hpp, hlb, hpb, Bool.true_and, Bool.false_and, Bool.and_true, Bool.and_false, Bool.or_true, Bool.true_or, Bool.or_false, Bool.false_or]
                  rw [ht] at hQ
                  clear ht
                  have hcall : ∀ (w' : World) ok1 ok2, recK.At w' ok1 RB rcb b'.records → recK.At w' ok2 RA rc b.records → Calls Try.prog 14 #[.slice RB 0 rcb, .slice RA b.records.length rc] w' fun e w'' => e = .returned (.bool true) ∧ Below w'.heap.size w' w'' := fun w' ok1 ok2 h1 h2 => by
                    have := part_calls b'.records b.records RB RA rcb rc w' _ _ h1 h2
                    rw [hpp] at this
                    rwa [hl0] at this
                  rw [hl0] at z5
                  clear hpp hl0 hlb hl
                  (skip; (repeat (go_big_quiet_step ((first | (go_at_call 14; exact ext_of (hcall _ _ _ (hrB.out.below (Ext.below _)) (hrr.out.below (Ext.below _)))))))); refine wpQuiet_nil ?_; rintro _ ⟨⟨wx, hx⟩, rfl⟩)
                  apply hQ
                  exact hx
                · have ht : tells b b' = true := by simp only [tells, hq_base, hq_count, hq_producer, hq_epoch, hq_seq, hpp, hlb, hpb, Bool.true_and, Bool.false_and, Bool.and_true, Bool.and_false, Bool.or_true, Bool.true_or, Bool.or_false, Bool.false_or]
                  rw [ht] at hQ
                  clear ht
                  have hcall : ∀ (w' : World) ok1 ok2, recK.At w' ok1 RB rcb b'.records → recK.At w' ok2 RA rc b.records → Calls Try.prog 14 #[.slice RB 0 rcb, .slice RA b.records.length rc] w' fun e w'' => e = .returned (.bool true) ∧ Below w'.heap.size w' w'' := fun w' ok1 ok2 h1 h2 => by
                    have := part_calls b'.records b.records RB RA rcb rc w' _ _ h1 h2
                    rw [hpp] at this
                    rwa [hl0] at this
                  rw [hl0] at z5
                  clear hpp hl0 hlb hl
                  (skip; (repeat (go_big_quiet_step ((first | (go_at_call 14; exact ext_of (hcall _ _ _ (hrB.out.below (Ext.below _)) (hrr.out.below (Ext.below _)))))))); refine wpQuiet_nil ?_; rintro _ ⟨⟨wx, hx⟩, rfl⟩)
                  apply hQ
                  exact hx
end Go.Proofs.Ytoinkagmhcojlaa
