/- The document's reader: Fixed, Text. -/
import Derived.Test.YtoinkagmhcojlaaVRef2
namespace Go.Proofs.Ytoinkagmhcojlaa
open Go.RowKit
set_option linter.unusedVariables false
set_option linter.unusedSimpArgs false
theorem mnmx (c : Int) : mx 0 (mn c 8) = (wideS c : Int) := by
  unfold mx mn wideS
  split <;> split <;> (try split) <;> omega
set_option maxRecDepth 10000 in
set_option maxHeartbeats 1000000 in
theorem rfixed_calls (w : World) (ok : Nat → Prop) (A : Option Addr) (c : Nat) (xs : List Int) (e : Int) (h : BR w ok A c xs) (hl : xs.length ≤ 300) (wd : Int) :
    Calls Try.prog 19 #[.agg #[.slice A xs.length c, .int .i64 e], .int .i64 wd] w fun v w' => ∃ A' c', v = .returned (.tuple #[.agg #[.slice A' (fixS xs e wd).2.1.length c', .int .i64 (fixS xs e wd).2.2], .int .u64 (fixS xs e wd).1]) ∧ BR w' ok A' c' (fixS xs e wd).2.1 ∧ Below w.heap.size w w' := by
  have HB := hid h
  have hcap := h.1
  clear h
  have hw8 := wideS_le wd
  have hmm := mnmx wd
  unfold fixS
  obtain ⟨k, hk⟩ : ∃ k, k = wideS wd := ⟨_, rfl⟩
  rw [← hk] at hw8 hmm ⊢
  clear hk
  by_cases he : e = 0
  · subst he
    rw [if_pos rfl]
    by_cases hlt : xs.length < k
    · rw [if_pos hlt]
      go_enter Try.func19, Try.ntmps19
      go_wp2_with fail
      exact bodyPost_ret (v := .tuple #[.agg #[.slice A xs.length c, .int .i64 3], .int .u64 0]) (by simp [results, Try.results19, go_sem]) rfl ⟨A, c, rfl, HB.out.below (by repeat (first | exact Below.refl _ _ | assumption | apply balloc | apply bdN | apply bdrew | refine bset ?_ (by simp) | refine bthen ?_ (by assumption))), (by repeat (first | exact Below.refl _ _ | assumption | apply balloc | apply bdN | apply bdrew | refine bset ?_ (by simp) | refine bthen ?_ (by assumption)))⟩
    · rw [if_neg hlt]
      have hle : k ≤ xs.length := by omega
      have hsl := fun w2 => slice_tl w2 A xs.length c k hle hcap
      have hsh := fun w2 => slice_hd w2 A xs.length c k hle hcap
      have hun : ∀ w' : World, Below w.heap.size w w' → Calls Try.prog 48 #[.slice (hdA A c) k c] w' fun e w2 => e = .returned (.int .u64 (unfS (xs.take k))) ∧ w' = w2 := fun w' hb => by
        have := runf_calls w' ok (hdA A c) c (xs.take k) ((HB.out.head hle).below hb) (by simp; omega)
        rwa [List.length_take, Nat.min_eq_left hle] at this
      have HUN := hid hun
      clear hun
      have hk0 : (0 : Int) ≤ (k : Int) := by omega
      have hk1 : (k : Int) ≤ (xs.length : Int) := by omega
      have hk2 : (k : Int) ≤ (c : Int) := by omega
      go_enter Try.func19, Try.ntmps19
      go_wp2_with fail
      go_region_held3 (fun w' => w'.cell? ⟨w.heap.size, 0, none⟩ = some (.slice A xs.length c)) (go_keep)
        (first | (go_at_call 48; refine (HUN.out _ (by repeat (first | exact Below.refl _ _ | assumption | apply balloc | apply bdN | apply bdrew | refine bset ?_ (by simp) | refine bthen ?_ (by assumption)))).mono ?_; rintro e w2 ⟨rfl, rfl⟩))
      go_wp2_with fail
      exact bodyPost_ret (v := .tuple #[.agg #[.slice (tlA A k c) (xs.length - k) (c - k), .int .i64 0], .int .u64 (unfS (xs.take k))]) (by simp [results, Try.results19, go_sem]) rfl ⟨tlA A k c, c - k, by rw [List.length_drop], (HB.out.tail hle).below (by repeat (first | exact Below.refl _ _ | assumption | apply balloc | apply bdN | apply bdrew | refine bset ?_ (by simp) | refine bthen ?_ (by assumption))), (by repeat (first | exact Below.refl _ _ | assumption | apply balloc | apply bdN | apply bdrew | refine bset ?_ (by simp) | refine bthen ?_ (by assumption)))⟩
  · rw [if_neg he]
    go_enter Try.func19, Try.ntmps19
    go_wp2_with fail
    exact bodyPost_ret (v := .tuple #[.agg #[.slice A xs.length c, .int .i64 e], .int .u64 0]) (by simp [results, Try.results19, go_sem]) rfl ⟨A, c, rfl, HB.out.below (by repeat (first | exact Below.refl _ _ | assumption | apply balloc | apply bdN | apply bdrew | refine bset ?_ (by simp) | refine bthen ?_ (by assumption))), (by repeat (first | exact Below.refl _ _ | assumption | apply balloc | apply bdN | apply bdrew | refine bset ?_ (by simp) | refine bthen ?_ (by assumption)))⟩

theorem convM {w' : World} {ok : Nat → Prop} {A : Option Addr} {c n : Nat} {xs : List Int} (h : BR w' ok A c (xs.take n)) (hn : n ≤ xs.length) : (convert 40 9 (.slice A n c)).run Try.prog w' = .ok (.string (strOfNums (xs.take n))) w' := by
  have := h.str
  rwa [List.length_take, Nat.min_eq_left hn] at this
set_option maxRecDepth 10000 in
set_option maxHeartbeats 2000000 in
theorem rtext_calls' (w : World) (ok : Nat → Prop) (A : Option Addr) (c : Nat) (xs : List Int) (e : Int) (h : BR w ok A c xs) (hok : ∀ k, ok k → k < w.heap.size) (hl : xs.length ≤ 300) (most : Int) :
    Calls Try.prog 21 #[.agg #[.slice A xs.length c, .int .i64 e], .int .i64 most] w fun v w' => ∃ A' c', v = .returned (.tuple #[.agg #[.slice A' (texS xs e most).2.1.length c', .int .i64 (texS xs e most).2.2], .string (texS xs e most).1]) ∧ BR w' ok A' c' (texS xs e most).2.1 ∧ Below w.heap.size w w' := by
  have hlen := numS_len xs e
  have hfit := numS_fits xs e
  unfold texS
  have hnum := hid (fun w' (hb : Below w.heap.size w w') => rnum_calls w' ok A c xs e (h.below hb) hl)
  obtain ⟨n, ys, f, hn⟩ : ∃ n ys f, numS xs e = (n, ys, f) := ⟨_, _, _, rfl⟩
  rw [hn] at hlen hfit hnum ⊢
  simp only at hlen hfit hnum ⊢
  clear hn h
  by_cases hf : f = 0
  · subst hf
    rw [if_pos rfl]
    by_cases hlg : longS n most
    · rw [if_pos hlg]
      by_cases h0 : n < 0
      · clear hlg
        go_enter Try.func21, Try.ntmps21
        go_wp2_with fail
        refine (hnum.out _ (by repeat (first | exact Below.refl _ _ | assumption | apply balloc | apply bdN | apply bdrew | refine bset ?_ (by simp) | refine bthen ?_ (by assumption)))).mono ?_
        rintro v w1 ⟨A1, c1, rfl, hB1, hb1⟩
        have b1 := (hb1.block w.heap.size (by simp; omega)).trans (blk1 _ _ _)
        have b2 := (hb1.block (w.heap.size + 1) (by simp)).trans (blk2 _ _ _)
        have d0 := cell_of_block b1 0
        have d1 := cell_of_block b1 1
        have r0 := cell_of_block b2 0
        have r1 := cell_of_block b2 1
        have g0 := frozen_of_block b2 0
        have g1 := frozen_of_block b2 1
        have k0 := frozen_of_block b1 0
        have k1 := frozen_of_block b1 1
        simp only [List.getElem?_toArray, List.getElem?_cons_zero, List.getElem?_cons_succ] at d0 d1 r0 r1
        have hbw := bthen (balloc (balloc (Below.refl w.heap.size w))) hb1
        have hz : w.heap.size + 1 < w1.heap.size := by have := hb1.size; simp at this; omega
        have HB1 := hid hB1
        clear hb1 b1 b2 hB1
        go_wp2_with fail
        exact bodyPost_ret (v := .tuple #[.agg #[.slice A1 (ys.length) (c1), .int .i64 5], .string ⟨#[]⟩]) (by simp [results, Try.results21, go_sem, d0, d1, r0, r1]) rfl ⟨A1, c1, rfl, HB1.out.move fun q hq hl => ((show Below w.heap.size w _ from (by repeat (first | exact Below.refl _ _ | assumption | apply balloc | apply bdN | apply bdrew | refine bset ?_ (by simp) | refine bthen ?_ (by assumption)))).block q (hok q hq)).trans ((hbw.block q (hok q hq)).symm), (by repeat (first | exact Below.refl _ _ | assumption | apply balloc | apply bdN | apply bdrew | refine bset ?_ (by simp) | refine bthen ?_ (by assumption)))⟩
      · have hgt : mx 0 most < n := by
          rcases hlg with h | h
          · omega
          · exact h
        clear hlg
        go_enter Try.func21, Try.ntmps21
        go_wp2_with fail
        refine (hnum.out _ (by repeat (first | exact Below.refl _ _ | assumption | apply balloc | apply bdN | apply bdrew | refine bset ?_ (by simp) | refine bthen ?_ (by assumption)))).mono ?_
        rintro v w1 ⟨A1, c1, rfl, hB1, hb1⟩
        have b1 := (hb1.block w.heap.size (by simp; omega)).trans (blk1 _ _ _)
        have b2 := (hb1.block (w.heap.size + 1) (by simp)).trans (blk2 _ _ _)
        have d0 := cell_of_block b1 0
        have d1 := cell_of_block b1 1
        have r0 := cell_of_block b2 0
        have r1 := cell_of_block b2 1
        have g0 := frozen_of_block b2 0
        have g1 := frozen_of_block b2 1
        have k0 := frozen_of_block b1 0
        have k1 := frozen_of_block b1 1
        simp only [List.getElem?_toArray, List.getElem?_cons_zero, List.getElem?_cons_succ] at d0 d1 r0 r1
        have hbw := bthen (balloc (balloc (Below.refl w.heap.size w))) hb1
        have hz : w.heap.size + 1 < w1.heap.size := by have := hb1.size; simp at this; omega
        have HB1 := hid hB1
        clear hb1 b1 b2 hB1
        go_wp2_with fail
        exact bodyPost_ret (v := .tuple #[.agg #[.slice A1 (ys.length) (c1), .int .i64 5], .string ⟨#[]⟩]) (by simp [results, Try.results21, go_sem, d0, d1, r0, r1]) rfl ⟨A1, c1, rfl, HB1.out.move fun q hq hl => ((show Below w.heap.size w _ from (by repeat (first | exact Below.refl _ _ | assumption | apply balloc | apply bdN | apply bdrew | refine bset ?_ (by simp) | refine bthen ?_ (by assumption)))).block q (hok q hq)).trans ((hbw.block q (hok q hq)).symm), (by repeat (first | exact Below.refl _ _ | assumption | apply balloc | apply bdN | apply bdrew | refine bset ?_ (by simp) | refine bthen ?_ (by assumption)))⟩
    · rw [if_neg hlg]
      have h0 : 0 ≤ n := by unfold longS at hlg; omega
      have hgt : ¬ (mx 0 most < n) := by unfold longS at hlg; omega
      clear hlg
      obtain ⟨m, rfl⟩ := Int.eq_ofNat_of_zero_le h0
      rw [Int.toNat_natCast]
      by_cases hlt : ys.length < m
      · rw [if_pos hlt]
        go_enter Try.func21, Try.ntmps21
        go_wp2_with fail
        refine (hnum.out _ (by repeat (first | exact Below.refl _ _ | assumption | apply balloc | apply bdN | apply bdrew | refine bset ?_ (by simp) | refine bthen ?_ (by assumption)))).mono ?_
        rintro v w1 ⟨A1, c1, rfl, hB1, hb1⟩
        have b1 := (hb1.block w.heap.size (by simp; omega)).trans (blk1 _ _ _)
        have b2 := (hb1.block (w.heap.size + 1) (by simp)).trans (blk2 _ _ _)
        have d0 := cell_of_block b1 0
        have d1 := cell_of_block b1 1
        have r0 := cell_of_block b2 0
        have r1 := cell_of_block b2 1
        have g0 := frozen_of_block b2 0
        have g1 := frozen_of_block b2 1
        have k0 := frozen_of_block b1 0
        have k1 := frozen_of_block b1 1
        simp only [List.getElem?_toArray, List.getElem?_cons_zero, List.getElem?_cons_succ] at d0 d1 r0 r1
        have hbw := bthen (balloc (balloc (Below.refl w.heap.size w))) hb1
        have hz : w.heap.size + 1 < w1.heap.size := by have := hb1.size; simp at this; omega
        have HB1 := hid hB1
        clear hb1 b1 b2 hB1
        go_wp2_with fail
        exact bodyPost_ret (v := .tuple #[.agg #[.slice A1 (ys.length) (c1), .int .i64 3], .string ⟨#[]⟩]) (by simp [results, Try.results21, go_sem, d0, d1, r0, r1]) rfl ⟨A1, c1, rfl, HB1.out.move fun q hq hl => ((show Below w.heap.size w _ from (by repeat (first | exact Below.refl _ _ | assumption | apply balloc | apply bdN | apply bdrew | refine bset ?_ (by simp) | refine bthen ?_ (by assumption)))).block q (hok q hq)).trans ((hbw.block q (hok q hq)).symm), (by repeat (first | exact Below.refl _ _ | assumption | apply balloc | apply bdN | apply bdrew | refine bset ?_ (by simp) | refine bthen ?_ (by assumption)))⟩
      · rw [if_neg hlt]
        have hle : m ≤ ys.length := by omega
        have hm0 : (0 : Int) ≤ (m : Int) := by omega
        have hm1 : (m : Int) ≤ (ys.length : Int) := by omega
        go_enter Try.func21, Try.ntmps21
        go_wp2_with fail
        refine (hnum.out _ (by repeat (first | exact Below.refl _ _ | assumption | apply balloc | apply bdN | apply bdrew | refine bset ?_ (by simp) | refine bthen ?_ (by assumption)))).mono ?_
        rintro v w1 ⟨A1, c1, rfl, hB1, hb1⟩
        have b1 := (hb1.block w.heap.size (by simp; omega)).trans (blk1 _ _ _)
        have b2 := (hb1.block (w.heap.size + 1) (by simp)).trans (blk2 _ _ _)
        have d0 := cell_of_block b1 0
        have d1 := cell_of_block b1 1
        have r0 := cell_of_block b2 0
        have r1 := cell_of_block b2 1
        have g0 := frozen_of_block b2 0
        have g1 := frozen_of_block b2 1
        have k0 := frozen_of_block b1 0
        have k1 := frozen_of_block b1 1
        simp only [List.getElem?_toArray, List.getElem?_cons_zero, List.getElem?_cons_succ] at d0 d1 r0 r1
        have hbw := bthen (balloc (balloc (Below.refl w.heap.size w))) hb1
        have hz : w.heap.size + 1 < w1.heap.size := by have := hb1.size; simp at this; omega
        have HB1 := hid hB1
        clear hb1 b1 b2 hB1
        have hcap := HB1.out.1
        have hm2 : (m : Int) ≤ (c1 : Int) := by omega
        have hsl := fun w2 => slice_tl w2 A1 ys.length c1 m hle hcap
        have hsh := fun w2 => slice_hd w2 A1 ys.length c1 m hle hcap
        have hcv := fun (w2 : World) (hh : ∀ q, ok q → q < w1.heap.size → w2.heap[q]? = w1.heap[q]?) => convM ((HB1.out.head hle).move hh) hle
        have HCV := hid hcv
        clear hcv
        go_wp2_with fail
        go_region_held3 (fun w' => w'.cell? ⟨w.heap.size, 0, none⟩ = some (.slice A1 ys.length c1) ∧ (convert 40 9 (.slice (hdA A1 c1) m c1)).run Try.prog w' = .ok (.string (strOfNums (ys.take m))) w')
          (refine ⟨by simp [go_sem, d0, d1, r0, r1], HCV.out _ (fun q hq hl => ((show Below w.heap.size w _ from (by repeat (first | exact Below.refl _ _ | assumption | apply balloc | apply bdN | apply bdrew | refine bset ?_ (by simp) | refine bthen ?_ (by assumption)))).block q (hok q hq)).trans ((hbw.block q (hok q hq)).symm))⟩)
          (fail)
        go_wp2_with fail
        exact bodyPost_ret (v := .tuple #[.agg #[.slice (tlA A1 m c1) (ys.length - m) (c1 - m), .int .i64 0], .string (strOfNums (ys.take m))]) (by simp [results, Try.results21, go_sem, d0, d1, r0, r1]) rfl ⟨tlA A1 m c1, c1 - m, by rw [List.length_drop], ((HB1.out.tail hle).move fun q hq hl => ((show Below w.heap.size w _ from (by repeat (first | exact Below.refl _ _ | assumption | apply balloc | apply bdN | apply bdrew | refine bset ?_ (by simp) | refine bthen ?_ (by assumption)))).block q (hok q hq)).trans ((hbw.block q (hok q hq)).symm)), (by repeat (first | exact Below.refl _ _ | assumption | apply balloc | apply bdN | apply bdrew | refine bset ?_ (by simp) | refine bthen ?_ (by assumption)))⟩
  · rw [if_neg hf]
    go_enter Try.func21, Try.ntmps21
    go_wp2_with fail
    refine (hnum.out _ (by repeat (first | exact Below.refl _ _ | assumption | apply balloc | apply bdN | apply bdrew | refine bset ?_ (by simp) | refine bthen ?_ (by assumption)))).mono ?_
    rintro v w1 ⟨A1, c1, rfl, hB1, hb1⟩
    have b1 := (hb1.block w.heap.size (by simp; omega)).trans (blk1 _ _ _)
    have b2 := (hb1.block (w.heap.size + 1) (by simp)).trans (blk2 _ _ _)
    have d0 := cell_of_block b1 0
    have d1 := cell_of_block b1 1
    have r0 := cell_of_block b2 0
    have r1 := cell_of_block b2 1
    have g0 := frozen_of_block b2 0
    have g1 := frozen_of_block b2 1
    have k0 := frozen_of_block b1 0
    have k1 := frozen_of_block b1 1
    simp only [List.getElem?_toArray, List.getElem?_cons_zero, List.getElem?_cons_succ] at d0 d1 r0 r1
    have hbw := bthen (balloc (balloc (Below.refl w.heap.size w))) hb1
    have hz : w.heap.size + 1 < w1.heap.size := by have := hb1.size; simp at this; omega
    have HB1 := hid hB1
    clear hb1 b1 b2 hB1
    go_wp2_with fail
    exact bodyPost_ret (v := .tuple #[.agg #[.slice A1 (ys.length) (c1), .int .i64 f], .string ⟨#[]⟩]) (by simp [results, Try.results21, go_sem, d0, d1, r0, r1]) rfl ⟨A1, c1, rfl, HB1.out.move fun q hq hl => ((show Below w.heap.size w _ from (by repeat (first | exact Below.refl _ _ | assumption | apply balloc | apply bdN | apply bdrew | refine bset ?_ (by simp) | refine bthen ?_ (by assumption)))).block q (hok q hq)).trans ((hbw.block q (hok q hq)).symm), (by repeat (first | exact Below.refl _ _ | assumption | apply balloc | apply bdN | apply bdrew | refine bset ?_ (by simp) | refine bthen ?_ (by assumption)))⟩
end Go.Proofs.Ytoinkagmhcojlaa
