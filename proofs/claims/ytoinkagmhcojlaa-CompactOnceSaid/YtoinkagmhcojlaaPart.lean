/- part: are records some of others; '==' of records. -/
import Derived.Test.YtoinkagmhcojlaaClean
import Derived.Laws.StructEq
namespace Go.Proofs.Ytoinkagmhcojlaa
open Go.RowKit
set_option linter.unusedVariables false
set_option linter.unusedSimpArgs false
theorem fieldsOf_rec : Try.prog.underlying 32 = some (.struct (Try.prog.fieldsOf 32)) := by kernel_rfl

section
variable {P : Program} {d : Nat} {xs ys : Array Value} {f : Field} {fs : List Field} {a b : Value} {r s : Bool} {w : World}
theorem eqf_last (hn : (f.name == "_") = false) (ha : (part f.type xs f.offset).run P w = .ok a w) (hb : (part f.type ys f.offset).run P w = .ok b w) (he : (Op.equalIn d f.type a b).run P w = .ok r w) : (Op.eqFields d xs ys [f]).run P w = .ok r w := by
  have hn' : f.name ≠ "_" := by simpa using hn
  simp only [Op.eqFields, if_pos hn', Sem.run_bind, ha, hb, he, Result.andThen_ok]
  cases r <;> simp
theorem eqf_cons (hn : (f.name == "_") = false) (ha : (part f.type xs f.offset).run P w = .ok a w) (hb : (part f.type ys f.offset).run P w = .ok b w) (he : (Op.equalIn d f.type a b).run P w = .ok r w) (hr : (Op.eqFields d xs ys fs).run P w = .ok s w) : (Op.eqFields d xs ys (f :: fs)).run P w = .ok (r && s) w := by
  have hn' : f.name ≠ "_" := by simpa using hn
  rw [Op.eqFields]
  simp only [if_pos hn', Sem.run_bind, ha, hb, he, Result.andThen_ok]
  cases r
  · simp
  · simpa using hr
theorem eqA_of {t : TypeId} {fs : Array Field} (hu : P.underlying t = some (.struct fs)) (hp : P.stoodInHeld t = false) (h : (Op.eqFields d xs ys fs.toList).run P w = .ok r w) : (Op.equalIn (d + 1) t (.agg xs) (.agg ys)).run P w = .ok r w := by
  have hf : P.fieldsOf t = fs := by simp [Program.fieldsOf, hu]
  rw [run_equalIn_struct (P := P) w d t xs ys (by rw [hf]; exact hu) hp, hf]
  exact h
end

theorem run_eq_rec (d1 t1 : Int) (k1 : Bool) (s1 : ByteArray) (e1 : Bool) (v1 : ByteArray) (d2 t2 : Int) (k2 : Bool) (s2 : ByteArray) (e2 : Bool) (v2 : ByteArray) (w : World) :
    (Op.equalIn 10000 32 (.agg #[.int .i64 d1, .int .i64 t1, .bool k1, .string s1, .bool e1, .string v1]) (.agg #[.int .i64 d2, .int .i64 t2, .bool k2, .string s2, .bool e2, .string v2])).run Try.prog w =
      .ok (decide ((⟨d1, t1, k1, s1, e1, v1⟩ : Rec) = ⟨d2, t2, k2, s2, e2, v2⟩)) w := by
  have hb : decide ((⟨d1, t1, k1, s1, e1, v1⟩ : Rec) = ⟨d2, t2, k2, s2, e2, v2⟩) = ((d1 == d2) && ((t1 == t2) && ((k1 == k2) && ((s1.toList == s2.toList) && ((e1 == e2) && (v1.toList == v2.toList)))))) := by
    rw [Bool.eq_iff_iff]
    simp [toList_iff]
  rw [hb]
  refine eqA_of Try.underlying32 (by kernel_rfl) ?_
  refine eqf_cons (by rfl) (by go_simp; rfl) (by go_simp; rfl) (by go_simp) ?_
  refine eqf_cons (by rfl) (by go_simp; rfl) (by go_simp; rfl) (by go_simp) ?_
  refine eqf_cons (by rfl) (by go_simp; rfl) (by go_simp; rfl) (by go_simp) ?_
  refine eqf_cons (by rfl) (by go_simp; rfl) (by go_simp; rfl) (by go_simp) ?_
  refine eqf_cons (by rfl) (by go_simp; rfl) (by go_simp; rfl) (by go_simp) ?_
  exact eqf_last (by rfl) (by go_simp; rfl) (by go_simp; rfl) (by go_simp)

def partStep (few : List Rec) (n : Nat) (x : Rec) : Nat := if few[n]? = some x then n + 1 else n
def partN (few all : List Rec) : Nat := all.foldl (partStep few) 0
theorem partN_snoc (few all : List Rec) (k : Nat) (h : k < all.length) : partN few (all.take (k + 1)) = partStep few (partN few (all.take k)) (all[k]'h) := by
  unfold partN
  rw [List.take_succ_eq_append_getElem h, List.foldl_append]
  rfl

theorem partN_stop (few all : List Rec) (k : Nat) (h : few.length ≤ partN few (all.take k)) : partN few all = partN few (all.take k) := by
  have : ∀ (xs : List Rec) (n : Nat), few.length ≤ n → xs.foldl (partStep few) n = n := by
    intro xs
    induction xs with
    | nil => intro n _; rfl
    | cons x xs ih =>
      intro n hn
      rw [List.foldl_cons]
      have : partStep few n x = n := by
        unfold partStep
        rw [List.getElem?_eq_none hn]
        simp
      rw [this]
      exact ih n hn
  have e : partN few all = (all.drop k).foldl (partStep few) (partN few (all.take k)) := by
    unfold partN
    rw [← List.foldl_append, List.take_append_drop]
  rw [e]
  exact this _ _ h

/-- What is filtered out is a part. -/
theorem partN_filter (p : Rec → Bool) (all : List Rec) : partN (all.filter p) all = (all.filter p).length := by
  have key : ∀ k, k ≤ all.length → partN (all.filter p) (all.take k) = ((all.take k).filter p).length := by
    intro k
    induction k with
    | zero => intro _; simp [partN]
    | succ k ih =>
      intro hk
      have hk' : k < all.length := by omega
      rw [partN_snoc _ _ _ hk', ih (by omega), filter_take_snoc _ _ _ hk', partStep]
      have e : all.filter p = (all.take k).filter p ++ (all.drop k).filter p := by rw [← List.filter_append, List.take_append_drop]
      rw [e, List.getElem?_append_right (Nat.le_refl _), Nat.sub_self]
      by_cases hp : p all[k] = true
      · rw [List.drop_eq_getElem_cons hk', List.filter_cons_of_pos hp]
        simp [hp]
      · rw [if_neg]
        · simp [hp]
        · intro h
          have hm := List.mem_of_getElem? h
          have := (List.mem_filter.1 hm).2
          exact hp this
  have := key all.length (Nat.le_refl _)
  rwa [List.take_length] at this
/-- .. and a part's elements are all there. -/
theorem partN_sub (few all : List Rec) (h : partN few all = few.length) : ∀ x ∈ few, x ∈ all := by
  have key : ∀ k, k ≤ all.length → ∀ j, j < partN few (all.take k) → ∃ x, few[j]? = some x ∧ x ∈ all := by
    intro k
    induction k with
    | zero => intro _ j hj; simp [partN] at hj
    | succ k ih =>
      intro hk j hj
      have hk' : k < all.length := by omega
      rw [partN_snoc _ _ _ hk', partStep] at hj
      split at hj
      · rename_i hs
        by_cases he : j < partN few (all.take k)
        · exact ih (by omega) j he
        · have : j = partN few (all.take k) := by omega
          subst this
          exact ⟨_, hs, List.getElem_mem hk'⟩
      · exact ih (by omega) j hj
  intro x hx
  obtain ⟨j, hj, rfl⟩ := List.getElem_of_mem hx
  obtain ⟨y, hy, hm⟩ := key all.length (Nat.le_refl _) j (by rw [List.take_length, h]; exact hj)
  rw [List.getElem?_eq_getElem hj] at hy
  cases hy
  exact hm

set_option maxHeartbeats 400000 in
theorem part_calls (few all : List Rec) (A B : Option Addr) (c c' : Nat) (w : World) (ok ok' : Nat → Prop) (hf : recK.At w ok A c few) (ha : recK.At w ok' B c' all) :
    Calls Try.prog 14 #[.slice A few.length c, .slice B all.length c'] w fun e w' => e = .returned (.bool (decide (partN few all = few.length))) ∧ Below w.heap.size w w' := by
  go_enter Try.func14, Try.ntmps14
  go_wp2
  go_loopw [5, 6] (fun n i wr => ∃ k : Nat, k ≤ all.length ∧ i = .int .i64 k ∧ n = .int .i64 (partN few (all.take k) : Int) ∧ Below w.heap.size w wr) (fun _ i _ => all.length - (intOf i).toNat)
  case atStart => exact ⟨0, Nat.zero_le _, rfl, rfl, Below.refl _ _⟩
  case round =>
    obtain ⟨k, hk, rfl, rfl, hbw⟩ := hrel
    replace hf := hf.below hbw
    replace ha := ha.below hbw
    obtain ⟨n, hn⟩ : ∃ n, n = partN few (all.take k) := ⟨_, rfl⟩
    rw [← hn]
    have HN := hid hn
    clear hn
    have hmf : few.length ≤ 9223372036854775807 := by have := hf.1; have := hf.2.1; unfold maxLen at *; omega
    have hma : all.length ≤ 9223372036854775807 := by have := ha.1; have := ha.2.1; unfold maxLen at *; omega
    by_cases hlt : k < all.length
    · have hs := hid (partN_snoc few all k hlt)
      rw [← HN.out] at hs
      by_cases hn : n < few.length
      · obtain ⟨g, off, rfl, hg, hok, x0, x1, x2, x3, x4, x5⟩ := rec_at hf hn
        obtain ⟨g2, off2, rfl, hg2, hok2, y0, y1, y2, y3, y4, y5⟩ := rec_at ha hlt
        obtain ⟨r, hr⟩ : ∃ r, r = few[n] := ⟨_, rfl⟩
        obtain ⟨s, hs'⟩ : ∃ s, s = all[k] := ⟨_, rfl⟩
        rw [← hr] at x0 x1 x2 x3 x4 x5
        rw [← hs'] at y0 y1 y2 y3 y4 y5
        have HR := hid hr
        have HS := hid hs'
        clear hr hs' hok hok2
        have hl1 := cell_lt x0
        have hl2 := cell_lt y0
        have heq := fun w => run_eq_rec r.delta r.time r.keyed r.key r.dead r.value s.delta s.time s.keyed s.key s.dead s.value w
        have hst : partN few (all.take (k + 1)) = if r = s then n + 1 else n := by
          rw [hs.out, partStep, List.getElem?_eq_getElem hn, ← HR.out, ← HS.out]
          simp
        clear hs
        by_cases hrs : r = s
        · simp only [show (decide ((⟨r.delta, r.time, r.keyed, r.key, r.dead, r.value⟩ : Rec) = ⟨s.delta, s.time, s.keyed, s.key, s.dead, s.value⟩)) = true from decide_eq_true hrs] at heq
          have hst' := hid (hst.trans (if_pos hrs))
          clear hst hrs
          go_wp2
          go_quiet (fail)
          go_wp2
          go_roundw
          case rel => exact ⟨k + 1, by omega, by go_num, by rw [hst'.out]; go_num, bdN hbw⟩
          case measure => simp [intOf]; omega
        · simp only [show (decide ((⟨r.delta, r.time, r.keyed, r.key, r.dead, r.value⟩ : Rec) = ⟨s.delta, s.time, s.keyed, s.key, s.dead, s.value⟩)) = false from decide_eq_false hrs] at heq
          have hst' := hid (hst.trans (if_neg hrs))
          clear hst hrs
          go_wp2
          go_quiet (fail)
          go_wp2
          go_roundw
          case rel => exact ⟨k + 1, by omega, by go_num, by rw [hst'.out], bdN hbw⟩
          case measure => simp [intOf]; omega
      · go_wp2
        go_ret
        refine ⟨?_, hbw⟩
        rw [partN_stop few all k (by rw [← HN.out]; omega), ← HN.out]
        show Ending.returned (Value.bool ((n : Int) == (few.length : Int))) = _
        congr 2
        rw [Bool.eq_iff_iff]
        simp
        omega
    · go_wp2
      go_ret
      obtain rfl : k = all.length := by omega
      rw [List.take_length] at HN
      refine ⟨?_, hbw⟩
      rw [← HN.out]
      show Ending.returned (Value.bool ((n : Int) == (few.length : Int))) = _
      congr 2
      rw [Bool.eq_iff_iff]
      simp
      omega
end Go.Proofs.Ytoinkagmhcojlaa
