/- The reader's calls that take: Num, Fixed, Text; New. -/
import Derived.Test.YtoinkagmhcojlaaVRead
import Derived.Lib.SliceRun
import Derived.Maps.AppendAt
import Derived.Outline
namespace Go.Proofs.Ytoinkagmhcojlaa
open Go.RowKit
set_option linter.unusedVariables false
set_option linter.unusedSimpArgs false

def numS (xs : List Int) (e : Int) : Int × List Int × Int := if e = 0 then ((getS xs).1, xs.drop (getS xs).2.1, (getS xs).2.2) else (0, xs, e)
def wideS (c : Int) : Nat := (if c < 0 then 0 else if 8 < c then 8 else c).toNat
def fixS (xs : List Int) (e c : Int) : Int × List Int × Int := if e = 0 then (if xs.length < wideS c then (0, xs, 3) else (unfS (xs.take (wideS c)), xs.drop (wideS c), 0)) else (0, xs, e)
def longS (n c : Int) : Prop := n < 0 ∨ mx 0 c < n
instance (n c : Int) : Decidable (longS n c) := by unfold longS; infer_instance
def texS (xs : List Int) (e c : Int) : ByteArray × List Int × Int :=
  if (numS xs e).2.2 = 0 then
    if longS (numS xs e).1 c then (ByteArray.empty, (numS xs e).2.1, 5) else
    if (numS xs e).2.1.length < (numS xs e).1.toNat then (ByteArray.empty, (numS xs e).2.1, 3) else
    (strOfNums ((numS xs e).2.1.take (numS xs e).1.toNat), (numS xs e).2.1.drop (numS xs e).1.toNat, 0)
  else (ByteArray.empty, (numS xs e).2.1, (numS xs e).2.2)

theorem Chg.set_set {w w1 : World} {rb : Nat} (hb : Below w.heap.size w w1) (i j : Nat) (u v : Value) : Chg [rb] w ((w1.setCell ⟨rb, i, none⟩ u).setCell ⟨rb, j, none⟩ v) :=
  ((Chg.of_below [rb] hb).set (.inl (by simp)) u).set (.inl (by simp)) v

theorem num_calls {w : World} {rb : Nat} {ok : Nat → Prop} {xs : List Int} {e : Int} (h : RD w rb ok xs e) (hl : xs.length ≤ 300) :
    Calls Try.prog 18 #[.pointer (some ⟨rb, 0, none⟩)] w fun v w' => v = .returned (.int .i64 (numS xs e).1) ∧ RD w' rb ok (numS xs e).2.1 (numS xs e).2.2 ∧ Chg [rb] w w' := by
  have HR := hid h
  by_cases he : e = 0
  · subst he
    obtain ⟨A, c, hb, hB⟩ := h
    have c0 : w.cell? ⟨rb, 0, none⟩ = some (.slice A xs.length c) := cell_of_block hb 0
    have hg := get_f xs hl hB.bs
    have hfit := (getS_fits xs).1
    unfold numS
    rw [if_pos rfl]
    obtain ⟨n, m, e', hge⟩ : ∃ n m e', getS xs = (n, m, e') := ⟨_, _, _, rfl⟩
    rw [hge] at hg hfit ⊢
    simp only at hg hfit ⊢
    have HG := hid hg
    have HB := hid (And.intro hb hB)
    clear hb hB hg hge
    go_enter Try.func18, Try.ntmps18
    go_wp2_with fail
    refine (err_calls HR.out).mono ?_
    rintro v w' ⟨rfl, rfl⟩
    go_wp2_with fail
    refine (PVarnumTakes.varnum_Get.calls 22 A c xs n m e' _ HB.out.2.kc HB.out.2.1 HG.out).mono ?_
    rintro v w1 ⟨rfl, hb1⟩
    have hb1' : w1.heap[rb]? = some (.cells #[.slice A xs.length c, .int .i64 0] 80 (0, 0)) := (hb1.block rb HR.out.lt).trans HB.out.1
    have d0 : w1.cell? ⟨rb, 0, none⟩ = some (.slice A xs.length c) := cell_of_block hb1' 0
    have d1 : w1.cell? ⟨rb, 1, none⟩ = some (.int .i64 0) := cell_of_block hb1' 1
    have f0 : w1.frozen? ⟨rb, 0, none⟩ = false := frozen_of_block hb1' 0
    have f1 : w1.frozen? ⟨rb, 1, none⟩ = false := frozen_of_block hb1' 1
    have hsl := fun w2 => slice_tl w2 A xs.length c m hfit HB.out.2.1
    have HB1 := hid (And.intro hb1 hb1')
    clear hb1 hb1' c0
    go_wp2_with fail

    go_ret
    refine ⟨rfl, ⟨tlA A m c, c - m, ?_, ?_⟩, Chg.set_set HB1.out.1 _ _ _ _⟩
    · rw [List.length_drop]
      exact block_set (block_set HB1.out.2 0 (.slice (tlA A m c) (xs.length - m) (c - m))) 1 (.int .i64 e')
    · refine ((HB.out.2.below HB1.out.1).tail hfit).move fun k hk hlt => ?_
      rw [Below.heap_setCell _ _ _ _ hk.2, Below.heap_setCell _ _ _ _ hk.2]
  · unfold numS
    rw [if_neg he]
    go_enter Try.func18, Try.ntmps18
    go_wp2_with fail
    refine (err_calls HR.out).mono ?_
    rintro v w' ⟨rfl, rfl⟩
    go_wp2_with fail
    go_ret
    exact ⟨rfl, HR.out, Chg.refl _ _⟩

theorem take_calls {w : World} {rb : Nat} {ok : Nat → Prop} {xs : List Int} {e : Int} (h : RD w rb ok xs e) (n : Nat) (hn : (n : Int) < 9223372036854775808) :
    Calls Try.prog 49 #[.pointer (some ⟨rb, 0, none⟩), .int .i64 n] w fun v w' => ∃ A' c', v = .returned (.slice A' (if xs.length < n then 0 else n) c') ∧ BR w' (fun g => ok g ∧ g ≠ rb) A' c' (if xs.length < n then [] else xs.take n) ∧
      RD w' rb ok (if xs.length < n then xs else xs.drop n) (if xs.length < n then 3 else e) ∧ Chg [rb] w w' := by
  obtain ⟨A, c, hb, hB⟩ := h
  have c0 : w.cell? ⟨rb, 0, none⟩ = some (.slice A xs.length c) := cell_of_block hb 0
  have c1 : w.cell? ⟨rb, 1, none⟩ = some (.int .i64 e) := cell_of_block hb 1
  have f0 : w.frozen? ⟨rb, 0, none⟩ = false := frozen_of_block hb 0
  have f1 : w.frozen? ⟨rb, 1, none⟩ = false := frozen_of_block hb 1
  have HB := hid (And.intro hb hB)
  clear hb hB
  by_cases hlt : xs.length < n
  · simp only [if_pos hlt]
    go_enter Try.func49, Try.ntmps49
    go_wp2
    go_ret
    refine ⟨none, 0, rfl, BR.nil _ _, ⟨A, c, block_set HB.out.1 1 (.int .i64 3), HB.out.2.move fun k hk hlt => Below.heap_setCell _ _ _ _ hk.2⟩, (Chg.refl _ _).set (.inl (by simp)) _⟩
  · simp only [if_neg hlt]
    have hle : n ≤ xs.length := by omega
    have hsl := fun w2 => slice_tl w2 A xs.length c n hle HB.out.2.1
    have hsh := fun w2 => slice_hd w2 A xs.length c n hle HB.out.2.1
    go_enter Try.func49, Try.ntmps49
    go_wp2

    go_ret
    refine ⟨hdA A c, c, rfl, (HB.out.2.head hle).move fun k hk hlt => Below.heap_setCell _ _ _ _ hk.2, ⟨tlA A n c, c - n, ?_, (HB.out.2.tail hle).move fun k hk hlt => Below.heap_setCell _ _ _ _ hk.2⟩, (Chg.refl _ _).set (.inl (by simp)) _⟩
    rw [List.length_drop]
    exact block_set HB.out.1 0 (.slice (tlA A n c) (xs.length - n) (c - n))

theorem wide_f (c : Int) : PVarnumTakes.varnum_wide.f c = some (wideS c : Int) := by
  unfold PVarnumTakes.varnum_wide.f wideS Go.Proofs.YtoinkagmhcojlaaW.PrintWords.mx Go.Proofs.YtoinkagmhcojlaaW.PrintWords.mn
  congr 1
  split <;> split <;> (try split) <;> omega
theorem wideS_le (c : Int) : wideS c ≤ 8 := by unfold wideS; split <;> (try split) <;> omega
theorem Bs.take {l : List Int} (h : Bs l) (n : Nat) : Bs (l.take n) := fun x hx => h x (List.mem_of_mem_take hx)
theorem Bs.drop {l : List Int} (h : Bs l) (n : Nat) : Bs (l.drop n) := fun x hx => h x (List.mem_of_mem_drop hx)
theorem Chg.of_drawn {w w' : World} {S : List Nat} (h : Go.Proofs.YtoinkagmhcojlaaW.PrintWords.Drawn0 w w') : Chg S w w' := by
  obtain ⟨n, rfl⟩ := h
  exact (Chg.refl _ _).drewN n

theorem fixed_calls {w : World} {rb : Nat} {ok : Nat → Prop} {xs : List Int} {e : Int} (h : RD w rb ok xs e) (hl : xs.length ≤ 300) (c : Int) :
    Calls Try.prog 20 #[.pointer (some ⟨rb, 0, none⟩), .int .i64 c] w fun v w' => v = .returned (.int .u64 (fixS xs e c).1) ∧ RD w' rb ok (fixS xs e c).2.1 (fixS xs e c).2.2 ∧ Chg [rb] w w' := by
  have HR := hid h
  by_cases he : e = 0
  · subst he
    have hbs := hid h.bs
    clear h
    unfold fixS
    rw [if_pos rfl]
    have hw8 := wideS_le c
    obtain ⟨k, hk⟩ : ∃ k, k = wideS c := ⟨_, rfl⟩
    have HK := hid hk
    rw [← hk] at hw8 ⊢
    clear hk
    go_enter Try.func20, Try.ntmps20
    go_wp2_with fail
    refine (err_calls HR.out).mono ?_
    rintro v w' ⟨rfl, rfl⟩
    go_wp2_with fail
    refine (PVarnumTakes.varnum_wide.calls c k _ (by rw [HK.out]; exact wide_f c)).mono ?_
    rintro v w1 ⟨rfl, hb1⟩
    go_wp2_with fail
    refine (take_calls (HR.out.below hb1) k (by omega)).mono ?_
    rintro v w2 ⟨A', c', rfl, hB', hR', hC'⟩
    by_cases hlt : xs.length < k
    · simp only [if_pos hlt] at hB' hR' ⊢
      have HH := hid (And.intro hB' hR')
      clear hB' hR'
      go_wp2_with fail
      refine (PVarnumTakes.varnum_Unfixed.calls 301 A' c' [] 0 _ HH.out.1.kc HH.out.1.1 (unf_f [] (by simp) (by simp [Bs]))).mono ?_
      rintro v w3 ⟨rfl, hd⟩
      go_wp2_with fail
      go_ret
      refine ⟨rfl, ?_, ((Chg.of_below _ hb1).trans hC' (by simp)).trans (Chg.of_drawn (S := []) hd) (by simp)⟩
      obtain ⟨q, rfl⟩ := hd
      exact HH.out.2.move fun _ _ _ => rfl
    · simp only [if_neg hlt] at hB' hR' ⊢
      have HH := hid (And.intro hB' hR')
      have hlen : (xs.take k).length = k := by simp; omega
      clear hB' hR'
      have hkc := HH.out.1.kc
      have hle := HH.out.1.1
      have hun := hid (PVarnumTakes.varnum_Unfixed.calls 301 A' c' (xs.take k) (unfS (xs.take k)) w2 hkc hle (unf_f (xs.take k) (by omega) (hbs.out.take k)))
      rw [hlen] at hun
      clear hkc hle hlen
      go_wp2_with fail
      refine hun.out.mono ?_
      rintro v w3 ⟨rfl, hd⟩
      go_wp2_with fail
      go_ret
      refine ⟨rfl, ?_, ((Chg.of_below _ hb1).trans hC' (by simp)).trans (Chg.of_drawn (S := []) hd) (by simp)⟩
      obtain ⟨q, rfl⟩ := hd
      exact HH.out.2.move fun _ _ _ => rfl
  · unfold fixS
    rw [if_neg he]
    go_enter Try.func20, Try.ntmps20
    go_wp2_with fail
    refine (err_calls HR.out).mono ?_
    rintro v w' ⟨rfl, rfl⟩
    go_wp2_with fail
    go_ret
    exact ⟨rfl, HR.out, Chg.refl _ _⟩

theorem numS_len (xs : List Int) (e : Int) : (numS xs e).2.1.length ≤ xs.length := by
  unfold numS; split
  · simp
  · simp
theorem numS_fits (xs : List Int) (e : Int) : -9223372036854775808 ≤ (numS xs e).1 ∧ (numS xs e).1 < 9223372036854775808 := by
  unfold numS; split
  · exact (getS_fits xs).2.2.2.2
  · simp
theorem text_calls' {w : World} {rb : Nat} {ok : Nat → Prop} {xs : List Int} {e : Int} (h : RD w rb ok xs e) (hl : xs.length ≤ 300) (c : Int) :
    Calls Try.prog 22 #[.pointer (some ⟨rb, 0, none⟩), .int .i64 c] w fun v w' => v = .returned (.string (texS xs e c).1) ∧ RD w' rb ok (texS xs e c).2.1 (texS xs e c).2.2 ∧ Chg [rb] w w' := by
  have hlen := numS_len xs e
  have hfit := numS_fits xs e
  unfold texS
  have hnum := hid (num_calls h hl)
  obtain ⟨n, ys, f, hn⟩ : ∃ n ys f, numS xs e = (n, ys, f) := ⟨_, _, _, rfl⟩
  rw [hn] at hlen hfit hnum ⊢
  simp only at hlen hfit hnum ⊢
  clear hn h
  by_cases hf : f = 0
  · subst hf
    rw [if_pos rfl]
    by_cases hlg : longS n c
    · rw [if_pos hlg]
      by_cases h0 : n < 0
      · go_enter Try.func22, Try.ntmps22
        go_wp2_with fail
        refine hnum.out.mono ?_
        rintro v w1 ⟨rfl, hR1, hC1⟩
        have HR1 := hid hR1
        clear hnum
        obtain ⟨A, cc, hb, hB⟩ := hR1
        have c1 : w1.cell? ⟨rb, 1, none⟩ = some (.int .i64 0) := cell_of_block hb 1
        have f1 : w1.frozen? ⟨rb, 1, none⟩ = false := frozen_of_block hb 1
        have HB := hid (And.intro hb hB)
        clear hb hB
        go_wp2_with fail
        refine (err_calls HR1.out).mono ?_
        rintro v w' ⟨rfl, rfl⟩
        go_wp2_with fail
        go_ret
        exact ⟨rfl, ⟨A, cc, block_set HB.out.1 1 (.int .i64 5), HB.out.2.move fun k hk hlt => Below.heap_setCell _ _ _ _ hk.2⟩, hC1.set (.inl (by simp)) _⟩
      · have hgt : mx 0 c < n := by
          rcases hlg with h | h
          · omega
          · exact h
        clear hlg
        go_enter Try.func22, Try.ntmps22
        go_wp2_with fail
        refine hnum.out.mono ?_
        rintro v w1 ⟨rfl, hR1, hC1⟩
        have HR1 := hid hR1
        clear hnum
        obtain ⟨A, cc, hb, hB⟩ := hR1
        have c1 : w1.cell? ⟨rb, 1, none⟩ = some (.int .i64 0) := cell_of_block hb 1
        have f1 : w1.frozen? ⟨rb, 1, none⟩ = false := frozen_of_block hb 1
        have HB := hid (And.intro hb hB)
        clear hb hB
        go_wp2_with fail
        refine (err_calls HR1.out).mono ?_
        rintro v w' ⟨rfl, rfl⟩
        go_wp2_with fail
        go_ret
        exact ⟨rfl, ⟨A, cc, block_set HB.out.1 1 (.int .i64 5), HB.out.2.move fun k hk hlt => Below.heap_setCell _ _ _ _ hk.2⟩, hC1.set (.inl (by simp)) _⟩
    · rw [if_neg hlg]
      have h0 : 0 ≤ n := by unfold longS at hlg; omega
      have hgt : ¬ (mx 0 c < n) := by unfold longS at hlg; omega
      clear hlg
      obtain ⟨m, rfl⟩ := Int.eq_ofNat_of_zero_le h0
      rw [Int.toNat_natCast]
      by_cases hlt : ys.length < m
      · rw [if_pos hlt]
        go_enter Try.func22, Try.ntmps22
        go_wp2_with fail
        refine hnum.out.mono ?_
        rintro v w1 ⟨rfl, hR1, hC1⟩
        have HR1 := hid hR1
        clear hnum hR1
        go_wp2_with fail
        refine (err_calls HR1.out).mono ?_
        rintro v w' ⟨rfl, rfl⟩
        go_wp2_with fail
        refine (take_calls HR1.out m hfit.2).mono ?_
        rintro v w2 ⟨A', c', rfl, hB', hR', hC'⟩
        simp only [if_pos hlt] at hB' hR' ⊢
        have hstr := hB'.str
        simp only [List.length_nil] at hstr
        have he : strOfNums [] = ByteArray.empty := rfl
        rw [he] at hstr
        clear he
        have HH := hid (And.intro hB' hR')
        clear hB' hR'
        go_wp2_with fail
        go_ret
        exact ⟨rfl, HH.out.2, hC1.trans hC' (by simp)⟩
      · rw [if_neg hlt]
        go_enter Try.func22, Try.ntmps22
        go_wp2_with fail
        refine hnum.out.mono ?_
        rintro v w1 ⟨rfl, hR1, hC1⟩
        have HR1 := hid hR1
        clear hnum hR1
        go_wp2_with fail
        refine (err_calls HR1.out).mono ?_
        rintro v w' ⟨rfl, rfl⟩
        go_wp2_with fail
        refine (take_calls HR1.out m hfit.2).mono ?_
        rintro v w2 ⟨A', c', rfl, hB', hR', hC'⟩
        simp only [if_neg hlt] at hB' hR' ⊢
        have hstr := hB'.str
        rw [show (ys.take m).length = m by simp; omega] at hstr
        have HH := hid (And.intro hB' hR')
        clear hB' hR'
        go_wp2_with fail
        go_ret
        exact ⟨rfl, HH.out.2, hC1.trans hC' (by simp)⟩
  · rw [if_neg hf]
    go_enter Try.func22, Try.ntmps22
    go_wp2_with fail
    refine hnum.out.mono ?_
    rintro v w1 ⟨rfl, hR1, hC1⟩
    have HR1 := hid hR1
    clear hnum hR1
    go_wp2_with fail
    refine (err_calls HR1.out).mono ?_
    rintro v w' ⟨rfl, rfl⟩
    go_wp2_with fail
    go_ret
    exact ⟨rfl, HR1.out, hC1⟩
end Go.Proofs.Ytoinkagmhcojlaa
