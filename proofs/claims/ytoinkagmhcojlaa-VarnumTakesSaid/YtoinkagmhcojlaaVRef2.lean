/- The document's Unfixed, and its reader: Num, Fixed, Text, Done. -/
import Derived.Test.YtoinkagmhcojlaaVRef
namespace Go.Proofs.Ytoinkagmhcojlaa
open Go.RowKit
set_option linter.unusedVariables false
set_option linter.unusedSimpArgs false

theorem unfS_snoc (l : List Int) (i : Nat) (hi : i < l.length) : unfS (l.take (i + 1)) = (256 * unfS (l.take i) + l[i]) % 18446744073709551616 := by
  rw [List.take_succ_eq_append_getElem hi]
  unfold unfS
  rw [List.foldl_append]
  rfl
theorem runf_calls (w : World) (ok : Nat → Prop) (A : Option Addr) (c : Nat) (xs : List Int) (h : BR w ok A c xs) (hl : xs.length ≤ 8) :
    Calls Try.prog 48 #[.slice A xs.length c] w fun e w' => e = .returned (.int .u64 (unfS xs)) ∧ w = w' := by
  have HB := hid h
  have hmx : mx 0 ((xs.length : Int) - 8) = 0 := by unfold mx; split <;> omega
  clear h
  go_enter Try.func48, Try.ntmps48
  go_wp2
  go_loop [3, 4] (fun u i => ∃ n : Nat, i = .int .i64 n ∧ n ≤ xs.length ∧ u = .int .u64 (unfS (xs.take n))) (fun _ i => xs.length - (intOf i).toNat)
  case atStart => exact ⟨0, rfl, by omega, rfl⟩
  case round =>
    obtain ⟨n, rfl, hn, rfl⟩ := hrel
    by_cases hlt : n < xs.length
    · obtain ⟨g, off, rfl, hg, hc⟩ := HB.out.2.2.2 (by rintro rfl; simp at hlt)
      have hcell := hc n _ (List.getElem?_eq_getElem hlt)
      have hxb := HB.out.bs _ (List.getElem_mem hlt)
      have hst := hid (unfS_snoc xs n hlt)
      have hub := unfS_bd (xs.take n)
      obtain ⟨x, hx⟩ : ∃ x, x = xs[n] := ⟨_, rfl⟩
      obtain ⟨u, hu⟩ : ∃ u, u = unfS (xs.take n) := ⟨_, rfl⟩
      rw [← hx] at hcell hxb hst
      rw [← hu] at hub hst ⊢
      clear hx hu hc
      go_wp2
      go_round
      case rel => exact ⟨n + 1, by go_num, by omega, by rw [hst.out, u64w, u64w]; congr 1; omega⟩
      case measure => simp [intOf]; omega
    · have hn' : n = xs.length := by omega
      rw [hn', List.take_length]
      clear hn' hn
      have hge : ¬ xs.length < xs.length := by omega
      go_wp2
      go_ret
      exact ⟨rfl, rfl⟩
theorem rdone_calls (A : Option Addr) (n c : Nat) (e : Int) (w : World) : Calls Try.prog 26 #[.agg #[.slice A n c, .int .i64 e]] w fun v w' => v = .returned (.int .i64 (doneS e n)) ∧ Below w.heap.size w w' := by
  unfold doneS
  by_cases he : e = 0
  · subst he
    rw [if_pos rfl]
    by_cases hn : 0 < n
    · rw [if_pos hn]
      go_enter Try.func26, Try.ntmps26
      go_wp2
      go_ret
      exact ⟨rfl, balloc (Below.refl _ _)⟩
    · rw [if_neg hn]
      go_enter Try.func26, Try.ntmps26
      go_wp2
      go_ret
      exact ⟨rfl, balloc (Below.refl _ _)⟩
  · rw [if_neg he]
    go_enter Try.func26, Try.ntmps26
    go_wp2
    go_ret
    exact ⟨rfl, balloc (Below.refl _ _)⟩

theorem blk1 (w : World) (B Z : Obj) : ((w.alloc B).alloc Z).heap[w.heap.size]? = some B := by rw [Below.heap_alloc _ _ _ (by simp)]; exact heap_alloc_new _ _
theorem blk2 (w : World) (B Z : Obj) : ((w.alloc B).alloc Z).heap[w.heap.size + 1]? = some Z := by have := heap_alloc_new (w.alloc B) Z; simpa using this
/-- A reader of the document's, as a value. -/
def RV (w : World) (ok : Nat → Prop) (xs : List Int) (e : Int) (v : Value) : Prop := ∃ A c, v = .agg #[.slice A xs.length c, .int .i64 e] ∧ BR w ok A c xs
set_option maxHeartbeats 1000000 in
theorem rnum_calls (w : World) (ok : Nat → Prop) (A : Option Addr) (c : Nat) (xs : List Int) (e : Int) (h : BR w ok A c xs) (hl : xs.length ≤ 300) :
    Calls Try.prog 17 #[.agg #[.slice A xs.length c, .int .i64 e]] w fun v w' => ∃ A' c', v = .returned (.tuple #[.agg #[.slice A' (numS xs e).2.1.length c', .int .i64 (numS xs e).2.2], .int .i64 (numS xs e).1]) ∧ BR w' ok A' c' (numS xs e).2.1 ∧ Below w.heap.size w w' := by
  have HB := hid h
  have hcap := h.1
  clear h
  by_cases he : e = 0
  · subst he
    unfold numS
    rw [if_pos rfl]
    have hget := hid (fun w' hb => rget_calls w' ok A c xs (HB.out.below (w' := w') hb) hl)
    have hfit := getS_fits xs
    obtain ⟨n, m, f, hge⟩ : ∃ n m f, getS xs = (n, m, f) := ⟨_, _, _, rfl⟩
    rw [hge] at hget hfit ⊢
    simp only at hget hfit ⊢
    clear hge
    have hsl := fun w2 => slice_tl w2 A xs.length c m hfit.1 hcap
    by_cases hf : f = 0
    · subst hf
      go_enter Try.func17, Try.ntmps17
      go_wp2_with fail
      refine (hget.out _ (by repeat (first | exact Below.refl _ _ | assumption | apply balloc | apply bdN | apply bdrew | refine bthen ?_ (by assumption)))).mono ?_
      rintro v w1 ⟨rfl, hb1⟩
      have b1 := (hb1.block w.heap.size (by simp; omega)).trans (blk1 _ _ _)
      have b2 := (hb1.block (w.heap.size + 1) (by simp)).trans (blk2 _ _ _)
      have d0 := cell_of_block b1 0
      have d1 := cell_of_block b1 1
      have r0 := cell_of_block b2 0
      have r1 := cell_of_block b2 1
      have g0 := frozen_of_block b2 0
      have g1 := frozen_of_block b2 1
      simp only [List.getElem?_toArray, List.getElem?_cons_zero, List.getElem?_cons_succ] at d0 d1 r0 r1
      have HBB := hid (bthen (balloc (balloc (Below.refl w.heap.size w))) hb1)
      have hz : w.heap.size + 1 < w1.heap.size := by have := hb1.size; simp at this; omega
      clear hb1 b1 b2
      go_wp2_with fail
      exact bodyPost_ret (v := .tuple #[.agg #[.slice (tlA A m c) (xs.length - m) (c - m), .int .i64 0], .int .i64 n]) (by simp [results, Try.results17, go_sem, d0, d1, r0, r1]) rfl ⟨tlA A m c, c - m, by rw [List.length_drop], (HB.out.tail hfit.1).below (bset (bset HBB.out (by simp)) (by simp)), bset (bset HBB.out (by simp)) (by simp)⟩
    · obtain ⟨rfl, rfl⟩ := hfit.2.1 hf
      go_enter Try.func17, Try.ntmps17
      go_wp2_with fail
      refine (hget.out _ (by repeat (first | exact Below.refl _ _ | assumption | apply balloc | apply bdN | apply bdrew | refine bthen ?_ (by assumption)))).mono ?_
      rintro v w1 ⟨rfl, hb1⟩
      have b1 := (hb1.block w.heap.size (by simp; omega)).trans (blk1 _ _ _)
      have b2 := (hb1.block (w.heap.size + 1) (by simp)).trans (blk2 _ _ _)
      have d0 := cell_of_block b1 0
      have d1 := cell_of_block b1 1
      have r0 := cell_of_block b2 0
      have r1 := cell_of_block b2 1
      have g0 := frozen_of_block b2 0
      have g1 := frozen_of_block b2 1
      simp only [List.getElem?_toArray, List.getElem?_cons_zero, List.getElem?_cons_succ] at d0 d1 r0 r1
      have HBB := hid (bthen (balloc (balloc (Below.refl w.heap.size w))) hb1)
      have hz : w.heap.size + 1 < w1.heap.size := by have := hb1.size; simp at this; omega
      clear hb1 b1 b2
      go_wp2_with fail
      exact bodyPost_ret (v := .tuple #[.agg #[.slice A xs.length c, .int .i64 f], .int .i64 0]) (by simp [results, Try.results17, go_sem, d0, d1, r0, r1]) rfl ⟨A, c, rfl, HB.out.below (bset (bset HBB.out (by simp)) (by simp)), bset (bset HBB.out (by simp)) (by simp)⟩
  · unfold numS
    rw [if_neg he]
    go_enter Try.func17, Try.ntmps17
    go_wp2_with fail
    exact bodyPost_ret (v := .tuple #[.agg #[.slice A xs.length c, .int .i64 e], .int .i64 0]) (by simp [results, Try.results17, go_sem]) rfl ⟨A, c, rfl, HB.out.below (by repeat (first | exact Below.refl _ _ | apply balloc | (refine bset ?_ (by simp)))), by repeat (first | exact Below.refl _ _ | apply balloc | (refine bset ?_ (by simp)))⟩
end Go.Proofs.Ytoinkagmhcojlaa
