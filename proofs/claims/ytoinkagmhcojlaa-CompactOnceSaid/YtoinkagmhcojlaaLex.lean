/- A region of many operations that draws its order: the test that its order does not matter, by pairs (so that the kernel reckons it fast). -/
import Derived.Test.YtoinkagmhcojlaaLib
namespace Go.Proofs.Ytoinkagmhcojlaa
open Go.RowKit
set_option linter.unusedVariables false
set_option linter.unusedSimpArgs false
def lexPairs (md : Region.Mode) (ops : Array Oper) (i : Nat) (oi : Oper) (rest : List Oper) : Bool := rest.all fun oj => oj.after.any (fun e => Region.binds md e && e.on == i) || oi.apart ops oj
def lexGo (md : Region.Mode) (ops : Array Oper) : List Oper → Nat → Bool
  | [], _ => true
  | o :: l, i => o.after.all (fun e => !Region.binds md e || Nat.blt e.on i) && (lexPairs md ops i o l && lexGo md ops l (i + 1))

theorem lexFrom_of_go (md : Region.Mode) (ops : Array Oper) : ∀ (l : List Oper) (k : Nat) (listed : Array Bool), k + l.length = ops.size → (∀ j, l[j]? = ops[k + j]?) → listed.size = ops.size → (∀ j, j < ops.size → listed[j]? = some (decide (j < k))) →
    lexGo md ops l k = true → Region.lexFrom md ops l.length k listed = true := by
  intro l
  induction l with
  | nil =>
    intro k listed hk hl hs hlist _
    simp only [List.length_nil, Region.lexFrom, List.isEmpty_iff]
    rw [List.eq_nil_iff_forall_not_mem]
    intro j hj
    obtain ⟨h1, o, h2, _⟩ := mem_ready.1 hj
    have hj' : j < ops.size := (Array.getElem?_eq_some_iff.1 h2).1
    have := hlist j hj'
    rw [Array.getD_eq_getD_getElem?, this] at h1
    simp at h1 hk
    omega
  | cons o l ih =>
    intro k listed hk hl hs hlist hgo
    have hk' : k < ops.size := by simp at hk; omega
    have h0 : ops[k]? = some o := by simpa using (hl 0).symm
    simp only [lexGo, Bool.and_eq_true] at hgo
    obtain ⟨h1, h2, h3⟩ := hgo
    simp only [List.length_cons, Region.lexFrom, Bool.and_eq_true]
    refine ⟨⟨?_, ?_⟩, ?_⟩
    · rw [List.contains_iff_mem]
      refine mem_ready.2 ⟨?_, o, h0, fun e he hb => ?_⟩
      · rw [Array.getD_eq_getD_getElem?, hlist k hk']; simp
      · have := Array.all_eq_true'.1 h1 e he
        simp [hb] at this
        have he2 : e.on < ops.size := by omega
        rw [Array.getD_eq_getD_getElem?, hlist e.on he2]
        simpa using this
    · unfold Region.free
      rw [h0]
      simp only [List.all_eq_true, List.mem_range]
      intro j hj
      rcases Nat.lt_trichotomy j k with h | h | h
      · have : listed.getD j true = true := by rw [Array.getD_eq_getD_getElem?, hlist j hj]; simp [h]
        simp [this]
      · simp [h]
      · obtain ⟨m, rfl⟩ : ∃ m, j = k + (m + 1) := ⟨j - k - 1, by omega⟩
        have hj2 := hl (m + 1)
        simp only [List.getElem?_cons_succ] at hj2
        rw [← hj2]
        cases hm : l[m]? with
        | none => simp
        | some oj =>
          have := List.all_eq_true.1 h2 oj (List.mem_of_getElem? hm)
          simp only [Bool.or_eq_true]
          exact .inr (by simpa using this)
    · refine ih (k + 1) _ (by simp at hk; omega) (fun j => ?_) (by simpa using hs) (fun j hj => ?_) h3
      · have := hl (j + 1)
        simp only [List.getElem?_cons_succ] at this
        rw [this]
        congr 1
        omega
      · rw [Array.getElem?_setIfInBounds]
        by_cases hjk : k = j
        · subst hjk
          simp [hs, hk']
        · rw [if_neg hjk, hlist j hj]
          congr 1
          rw [Bool.eq_iff_iff]
          simp
          omega
theorem lexB_of_go {md : Region.Mode} {l : List Oper} (hs : Region.noSelect l.toArray = true) (h : lexGo md l.toArray l 0 = true) : Region.lexB md l.toArray = true := by
  unfold Region.lexB
  rw [hs, Bool.true_and]
  have := lexFrom_of_go md l.toArray l 0 (Array.replicate l.toArray.size false) (by simp) (fun j => by simp) (by simp) (fun j hj => by simp at hj; simp [hj]) h
  simpa using this
theorem wp_region_ext_big {P : Program} {id : Nat} {Q : Exit → Act → World → Prop} {a : Act} {w : World} {l : List Oper} (hm : P.follows .mixedOrders = true) (hs : Region.noSelect l.toArray = true) (hB : lexGo .any l.toArray l 0 = true)
    (h : wpQuiet P l.toArray (fun w' => ∃ x : Ext w, w' = x.val) (fun a' => ∀ w', (∃ x : Ext w, w' = x.val) → Q .normal a' w') l a) : (Code.region id l.toArray true).wp P Q a w :=
  wp_region_ext_lit hm (lexB_of_go hs hB) h
end Go.Proofs.Ytoinkagmhcojlaa
