/- awake: what every right program keeps of three. -/
import Derived.Test.YtoinkagmhcojlaaDirty
import Derived.Test.YtoinkagmhcojlaaCKeeps
namespace Go.Proofs.Ytoinkagmhcojlaa
open Go.RowKit
set_option linter.unusedVariables false
set_option linter.unusedSimpArgs false
def sA : ByteArray := ⟨#[97]⟩
def sB : ByteArray := ⟨#[98]⟩
def sV : ByteArray := ⟨#[118]⟩
def recOf (d : Int) (k : ByteArray) : Rec := ⟨d, 0, true, k, false, sV⟩
def awL : List Bat := [⟨0, 2, 0, 0, 0, [recOf 0 sA, recOf 1 sB]⟩, ⟨2, 1, 0, 0, 0, [recOf 0 sA]⟩]
def awC : List Bat := [⟨0, 2, 0, 0, 0, [recOf 1 sB]⟩, ⟨2, 1, 0, 0, 0, [recOf 0 sA]⟩]
theorem aw_clean : cleanOf (mapOf awL []) 9 3 awL = awC := by decide +kernel
theorem aw_get : get (mapOf awL []) sA = some 2 := by decide +kernel
theorem aw_dirty : dirtyOf awL 9 3 = true := by decide +kernel
theorem aw_dirty2 : dirtyOf awC 9 3 = false := by decide +kernel
theorem aw_keeps1 : keepsAt awL 0 1 9 3 = true := by decide +kernel
theorem aw_keeps0 : keepsAt awL 0 0 9 3 = false := by decide +kernel
theorem aw_count : countOf awC = 2 := by decide +kernel
theorem aw_few : Few awL := ⟨by decide, by decide⟩
theorem aw_few2 : Few awC := ⟨by decide, by decide⟩

set_option maxHeartbeats 400000 in
theorem of_calls (d : Int) (k : ByteArray) (w : World) : Calls Try.prog 33 #[.int .i64 d, .string k] w fun e w' => e = .returned (recV (recOf d k)) ∧ Below w.heap.size w w' := by
  go_enter Try.func33, Try.ntmps33
  go_wp2
  exact bodyPost_ret (v := recV (recOf d k)) (by simp [results, Try.results33, go_sem, recOf, sV]) rfl ⟨rfl, (by repeat (first | exact Below.refl _ _ | assumption | apply balloc | apply bdN | apply bdrew | refine bthen ?_ (by assumption)))⟩

theorem flat_at {α : Type} (xs : List α) (f : α → List Value) (sz : Nat) (hf : ∀ x, (f x).length = sz) : ∀ (i : Nat) (x : α), xs[i]? = some x → ∀ j u, (f x)[j]? = some u → (xs.flatMap f)[i * sz + j]? = some u := by
  induction xs with
  | nil => intro i x h; simp at h
  | cons y ys ih =>
    intro i x h j u hu
    cases i with
    | zero =>
      simp at h; subst h
      rw [List.flatMap_cons, List.getElem?_append_left (by have := (List.getElem?_eq_some_iff.1 hu).1; omega)]
      simpa using hu
    | succ i =>
      have := ih i x (by simpa using h) j u hu
      rw [List.flatMap_cons, List.getElem?_append_right (by rw [hf, Nat.add_mul]; omega), hf]
      rwa [show (i + 1) * sz + j - sz = i * sz + j by rw [Nat.add_mul]; omega]

theorem rec_block {w : World} {ok : Nat → Prop} {g : Nat} {rs : List Rec} {e : TypeId} {fr : Nat × Nat} (hb : w.heap[g]? = some (.cells (rs.flatMap recCells).toArray e fr)) (hg : ok g) (hm : rs.length ≤ 40) (hok : ∀ r ∈ rs, RecOk r) : recK.At w ok (some ⟨g, 0, none⟩) rs.length rs :=
  at_of_block hb hg (Nat.le_refl _) (by unfold maxLen; omega) fun i r hi => ⟨recCells r, recK_iff.2 ⟨rfl, hok r (List.mem_of_getElem? hi)⟩, fun j u hu => by
    rw [List.getElem?_toArray, Nat.zero_add, recK_sz]
    exact flat_at rs recCells 6 (fun _ => rfl) i r hi j u hu⟩

theorem aw_at {w2 w3 : World} (e1 e2 : TypeId) (hb : Below (w2.alloc (.cells ([recOf 0 sA, recOf 1 sB].flatMap recCells).toArray e1)).heap.size (w2.alloc (.cells ([recOf 0 sA, recOf 1 sB].flatMap recCells).toArray e1)) w3) :
    batK.At ((w3.alloc (.cells ([recOf 0 sA].flatMap recCells).toArray e1)).alloc (.cells #[.int .i64 0, .int .i64 2, .int .i64 0, .int .i64 0, .int .i64 0, .slice (some ⟨w2.heap.size, 0, none⟩) 2 2, .int .i64 2, .int .i64 1, .int .i64 0, .int .i64 0, .int .i64 0, .slice (some ⟨w3.heap.size, 0, none⟩) 1 1] e2))
      (fun _ => True) (some ⟨w3.heap.size + 1, 0, none⟩) 2 awL := by
  have hlt : w2.heap.size < w3.heap.size := Nat.lt_of_lt_of_le (by simp) hb.size
  refine at_of_block (cur := #[.int .i64 0, .int .i64 2, .int .i64 0, .int .i64 0, .int .i64 0, .slice (some ⟨w2.heap.size, 0, none⟩) 2 2, .int .i64 2, .int .i64 1, .int .i64 0, .int .i64 0, .int .i64 0, .slice (some ⟨w3.heap.size, 0, none⟩) 1 1]) (e := e2) (fr := (0, 0)) ?_ trivial (by decide) (by decide) fun i x hi => ?_
  · have := heap_alloc_new (w3.alloc (.cells ([recOf 0 sA].flatMap recCells).toArray e1)) (.cells #[.int .i64 0, .int .i64 2, .int .i64 0, .int .i64 0, .int .i64 0, .slice (some ⟨w2.heap.size, 0, none⟩) 2 2, .int .i64 2, .int .i64 1, .int .i64 0, .int .i64 0, .int .i64 0, .slice (some ⟨w3.heap.size, 0, none⟩) 1 1] e2)
    simpa using this
  · match i, hi with
    | 0, hi =>
      obtain rfl : _ = x := Option.some.inj hi
      refine ⟨_, batK_iff.2 ⟨some ⟨w2.heap.size, 0, none⟩, 2, rfl, ⟨by decide, by decide, by decide, by decide, by decide⟩, rec_block (rs := [recOf 0 sA, recOf 1 sB]) (e := e1) (fr := (0, 0)) ?_ trivial (by decide) ?_⟩, fun j u hu => ?_⟩
      · rw [Below.heap_alloc _ _ _ (by simp; omega), Below.heap_alloc _ _ _ hlt, hb.block _ (by simp)]
        exact heap_alloc_new _ _
      · intro r hr
        simp only [List.mem_cons, List.not_mem_nil, or_false] at hr
        rcases hr with rfl | rfl <;> exact ⟨by decide, by decide, by decide, by decide⟩
      · match j, hu with
        | 0, hu => exact hu
        | 1, hu => exact hu
        | 2, hu => exact hu
        | 3, hu => exact hu
        | 4, hu => exact hu
        | 5, hu => exact hu
    | 1, hi =>
      obtain rfl : _ = x := Option.some.inj hi
      refine ⟨_, batK_iff.2 ⟨some ⟨w3.heap.size, 0, none⟩, 1, rfl, ⟨by decide, by decide, by decide, by decide, by decide⟩, rec_block (rs := [recOf 0 sA]) (e := e1) (fr := (0, 0)) ?_ trivial (by decide) ?_⟩, fun j u hu => ?_⟩
      · rw [Below.heap_alloc _ _ _ (by simp)]
        exact heap_alloc_new _ _
      · intro r hr
        simp only [List.mem_cons, List.not_mem_nil, or_false] at hr
        subst hr
        exact ⟨by decide, by decide, by decide, by decide⟩
      · match j, hu with
        | 0, hu => exact hu
        | 1, hu => exact hu
        | 2, hu => exact hu
        | 3, hu => exact hu
        | 4, hu => exact hu
        | 5, hu => exact hu

set_option maxRecDepth 10000 in
set_option maxHeartbeats 1000000 in
theorem awake_calls (w : World) : Calls Try.prog 8 #[] w fun e w' => e = .returned (.bool true) ∧ Below w.heap.size w w' := by
  go_enter Try.func8, Try.ntmps8
  go_wp2_with fail
  refine (of_calls 0 ⟨#[97]⟩ _).mono ?_
  rintro e w1 ⟨rfl, hb1⟩
  go_wp2_with fail
  refine (of_calls 1 ⟨#[98]⟩ _).mono ?_
  rintro e w2 ⟨rfl, hb2⟩
  go_wp2_with fail
  refine (of_calls 0 ⟨#[97]⟩ _).mono ?_
  rintro e w3 ⟨rfl, hb3⟩
  go_wp2_with fail
  have hL := hid (aw_at 32 30 hb3)
  go_must (refine (clean_calls awL _ 2 9 3 _ _ hL.out aw_few).mono ?_)
  rw [aw_clean]
  rintro e w4 ⟨v4, rfl, hO, hb4⟩
  obtain ⟨A2, c2, hv⟩ := hO.form
  obtain rfl : v4 = .slice A2 2 c2 := hv
  have hA := hid (show batK.At w4 _ A2 c2 awC from hO.at_)
  obtain ⟨g, off, RA, rc, rfl, hg, -, hr, -, -, -, -, -, q5⟩ := bat_at hA.out (i := 0) (by decide)
  obtain ⟨g2, off2, rfl, hg2, -, -, -, -, y3, -, -⟩ := rec_at hr (i := 0) (by decide)
  have q5' : w4.cell? ⟨g, off + 5, none⟩ = some (.slice (some ⟨g2, off2, none⟩) 1 rc) := by
    have := q5
    simp only [Nat.zero_mul, Nat.add_zero] at this
    exact this
  have y3' : w4.cell? ⟨g2, off2 + 3, none⟩ = some (.string ⟨#[98]⟩) := by
    have := y3
    simp only [Nat.zero_mul, Nat.add_zero] at this
    exact this
  clear q5 y3 hr hg hg2
  generalize hW : (w3.alloc (Obj.cells (List.flatMap recCells [recOf 0 sA]).toArray 32)).alloc _ = W at hL hb4 hO
  have hbW : Below w.heap.size w W := by
    rw [← hW]
    exact (by repeat (first | exact Below.refl _ _ | assumption | apply balloc | apply bdN | apply bdrew | refine bthen ?_ (by assumption)))
  have hAB := hid hbW
  clear hbW hW hO
  go_wp2_with fail
  refine (count_calls awC _ c2 _ _ hA.out aw_few2).mono ?_
  rw [aw_count]
  rintro e w5 ⟨rfl, hb5⟩
  go_wp2_with fail
  refine (compLast_calls awL _ 2 _ _ (hL.out.below (bthen hb4 hb5)) aw_few).mono ?_
  rintro e w6 ⟨g3, rfl, hge, hM, hb6⟩
  have hl := hM.run_get (T := 26) (KeyOk.str Try.underlying9) Try.underlying26 (zero_int _) ⟨#[97]⟩
  rw [show get (mapOf awL []) ⟨#[97]⟩ = some 2 from aw_get] at hl
  simp only [valOr_some] at hl
  have h6 : Below W.heap.size W w6 := bthen (bthen hb4 hb5) hb6
  have h46 : Below w4.heap.size w4 w6 := bthen hb5 hb6
  clear hb4 hb5 hb6 hM
  go_wp2_with fail
  refine (dirty_calls awL _ 2 9 3 _ _ (hL.out.below h6) aw_few).mono ?_
  rw [aw_dirty]
  rintro e w7 ⟨rfl, hb7⟩
  go_wp2_with fail
  refine (dirty_calls awC _ c2 9 3 _ _ (hA.out.below (bthen h46 hb7)) aw_few2).mono ?_
  rw [aw_dirty2]
  rintro e w8 ⟨rfl, hb8⟩
  go_wp2_with fail
  refine (compKeeps_calls awL _ 2 0 1 9 3 _ _ (hL.out.below (bthen (bthen h6 hb7) hb8)) aw_few).mono ?_
  rw [aw_keeps1]
  rintro e w9 ⟨rfl, hb9⟩
  go_wp2_with fail
  refine (compKeeps_calls awL _ 2 0 0 9 3 _ _ (hL.out.below (bthen (bthen (bthen h6 hb7) hb8) hb9)) aw_few).mono ?_
  rw [aw_keeps0]
  rintro e w10 ⟨rfl, hb10⟩
  go_wp2_with fail
  go_ret
  exact ⟨rfl, bthen (bthen (bthen (bthen (bthen hAB.out h6) hb7) hb8) hb9) hb10⟩
end Go.Proofs.Ytoinkagmhcojlaa
