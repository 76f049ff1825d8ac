/- The reader of varnum: New, take, Num, Fixed, Text, Left, Err, Done; what they tell, and what becomes of the reader. -/
import Derived.Test.YtoinkagmhcojlaaLib
import Derived.Test.YtoinkagmhcojlaaVPure
import Derived.Laws.AppendOwnNone
import Derived.OpenShut
namespace Go.Proofs.Ytoinkagmhcojlaa
open Go.RowKit
set_option linter.unusedVariables false
set_option linter.unusedSimpArgs false
abbrev KC (w : World) (A : Option Addr) (n : Nat) (xs : List Int) : Prop := Go.Proofs.YtoinkagmhcojlaaW.PrintWords.Kd.C (Go.Proofs.YtoinkagmhcojlaaW.PrintWords.Kd.int .u8) w A n xs

/-- Bytes that lie at A, in a block that is 'ok'. -/
def BR (w : World) (ok : Nat → Prop) (A : Option Addr) (c : Nat) (xs : List Int) : Prop :=
  xs.length ≤ c ∧ c ≤ maxLen ∧ Bs xs ∧ (xs ≠ [] → ∃ g off, A = some ⟨g, off, none⟩ ∧ (ok g ∧ g < w.heap.size) ∧ ∀ (i : Nat) (x : Int), xs[i]? = some x → w.cell? ⟨g, off + i, none⟩ = some (.int .u8 x))
/-- s[k:]: where it lies. -/
def tlA (A : Option Addr) (k c : Nat) : Option Addr := if c = k then A else A.map (·.add (k * 1))
def hdA (A : Option Addr) (c : Nat) : Option Addr := if c = 0 then A else A.map (·.add (0 * 1))

namespace BR
variable {w w' : World} {ok ok' : Nat → Prop} {A : Option Addr} {c : Nat} {xs : List Int}
theorem bs (h : BR w ok A c xs) : Bs xs := h.2.2.1
theorem move (h : BR w ok A c xs) (hs : ∀ k, ok k → k < w.heap.size → w'.heap[k]? = w.heap[k]?) : BR w' ok A c xs :=
  ⟨h.1, h.2.1, h.2.2.1, fun hn => let ⟨g, off, hA, hg, hc⟩ := h.2.2.2 hn
    ⟨g, off, hA, ⟨hg.1, lt_of_same (hs g hg.1 hg.2) hg.2⟩, fun i x hx => (cell_same (hs g hg.1 hg.2)).trans (hc i x hx)⟩⟩
theorem below (h : BR w ok A c xs) (hb : Below w.heap.size w w') : BR w' ok A c xs := h.move fun k _ hk => hb.block k hk
theorem mono (h : BR w ok A c xs) (hm : ∀ k, ok k → k < w.heap.size → ok' k) : BR w ok' A c xs :=
  ⟨h.1, h.2.1, h.2.2.1, fun hn => let ⟨g, off, hA, hg, hc⟩ := h.2.2.2 hn
    ⟨g, off, hA, ⟨hm g hg.1 hg.2, hg.2⟩, hc⟩⟩
theorem nil (w : World) (ok : Nat → Prop) : BR w ok none 0 [] := ⟨Nat.le_refl _, Nat.zero_le _, by simp [Bs], fun h => absurd rfl h⟩
theorem tail (h : BR w ok A c xs) {k : Nat} (hk : k ≤ xs.length) : BR w ok (tlA A k c) (c - k) (xs.drop k) := by
  refine ⟨by have := h.1; simp; omega, by have := h.2.1; omega, fun x hx => h.2.2.1 x (List.mem_of_mem_drop hx), fun hn => ?_⟩
  have hlt : k < xs.length := by
    rcases Nat.lt_or_ge k xs.length with h' | h'
    · exact h'
    · exact absurd (List.drop_of_length_le h') hn
  obtain ⟨g, off, hA, hg, hc⟩ := h.2.2.2 (by rintro rfl; simp at hlt)
  refine ⟨g, off + k, ?_, hg, fun i x hx => ?_⟩
  · unfold tlA
    rw [if_neg (by have := h.1; omega), hA]
    simp [Addr.add_mid]
  · rw [List.getElem?_drop] at hx
    have := hc _ x hx
    rwa [show off + k + i = off + (k + i) by omega]
theorem head (h : BR w ok A c xs) {k : Nat} (hk : k ≤ xs.length) : BR w ok (hdA A c) c (xs.take k) := by
  refine ⟨by have := h.1; simp; omega, h.2.1, fun x hx => h.2.2.1 x (List.mem_of_mem_take hx), fun hn => ?_⟩
  have hpos : 0 < k := by
    rcases Nat.eq_zero_or_pos k with h' | h'
    · subst h'; simp at hn
    · exact h'
  obtain ⟨g, off, hA, hg, hc⟩ := h.2.2.2 (by rintro rfl; simp at hk; omega)
  refine ⟨g, off, ?_, hg, fun i x hx => ?_⟩
  · unfold hdA
    rw [if_neg (by have := h.1; omega), hA]
    simp [Addr.add_mid]
  · refine hc i x ?_
    rw [List.getElem?_take] at hx
    split at hx
    · exact hx
    · cases hx
theorem kc (h : BR w ok A c xs) : KC w A xs.length xs := by
  refine ⟨rfl, by have := h.1; have := h.2.1; unfold maxLen at this; omega, fun hn => ?_⟩
  obtain ⟨g, off, hA, hg, hc⟩ := h.2.2.2 (by rintro rfl; simp at hn)
  refine ⟨⟨g, off, none⟩, hA, fun j p hj => ⟨[.int .u8 p], rfl, rfl, fun i u hu => ?_⟩⟩
  match i, hu with
  | 0, hu =>
    simp at hu
    subst hu
    rw [Addr.add_mid]
    show w.cell? ⟨g, off + (j * 1 + 0), none⟩ = _
    rw [Nat.mul_one, Nat.add_zero]
    exact hc j p hj
theorem str (h : BR w ok A c xs) : (convert 40 9 (.slice A xs.length c)).run Try.prog w = .ok (.string (strOfNums xs)) w :=
  Go.Proofs.YtoinkagmhcojlaaW.PrintWords.Kd.C_string Try.underlying40 Try.underlying5 Try.underlying9 h.kc
end BR

theorem slice_tl (w : World) (A : Option Addr) (n c k : Nat) (hk : k ≤ n) (hn : n ≤ c) : (Instr.slice 40 (.slice A n c) (some (.int .i64 (k : Int))) none none).run Try.prog w = .ok (.slice (tlA A k c) (n - k) (c - k)) w := by
  rw [run_slice_l (P := Try.prog) w 40 A n c (by kernel_rfl) .i64 k (by omega) (by omega)]
  have : (sizeOf (Try.prog.elem 40)).run Try.prog w = .ok 1 w := by kernel_rfl
  rw [this]
  simp only [Result.andThen, sliced, tlA, Int.toNat_natCast]
theorem slice_hd (w : World) (A : Option Addr) (n c k : Nat) (hk : k ≤ n) (hn : n ≤ c) : (Instr.slice 40 (.slice A n c) none (some (.int .i64 (k : Int))) none).run Try.prog w = .ok (.slice (hdA A c) k c) w := by
  rw [run_slice_h (P := Try.prog) w 40 A n c (by kernel_rfl) .i64 k (by omega) (by omega)]
  have : (sizeOf (Try.prog.elem 40)).run Try.prog w = .ok 1 w := by kernel_rfl
  rw [this]
  simp only [Result.andThen, sliced, hdA, Int.toNat_natCast, Nat.sub_zero]

theorem frozen_of_block {w : World} {g : Nat} {cs : Array Value} {t : TypeId} (h : w.heap[g]? = some (.cells cs t (0, 0))) (j : Nat) : w.frozen? ⟨g, j, none⟩ = false := by simp [World.frozen?, h]
theorem block_set {w : World} {g : Nat} {cs : Array Value} {t : TypeId} (h : w.heap[g]? = some (.cells cs t (0, 0))) (j : Nat) (u : Value) : (w.setCell ⟨g, j, none⟩ u).heap[g]? = some (.cells (cs.setIfInBounds j u) t (0, 0)) := by
  simp [World.setCell, Array.getElem?_modify, h]

/-- The reader at the block rb: what is left, and the first error. -/
def RD (w : World) (rb : Nat) (ok : Nat → Prop) (xs : List Int) (e : Int) : Prop :=
  ∃ A c, w.heap[rb]? = some (.cells #[.slice A xs.length c, .int .i64 e] 80 (0, 0)) ∧ BR w (fun g => ok g ∧ g ≠ rb) A c xs
theorem RD.lt {w : World} {rb : Nat} {ok : Nat → Prop} {xs : List Int} {e : Int} (h : RD w rb ok xs e) : rb < w.heap.size := by obtain ⟨A, c, h, _⟩ := h; exact (Array.getElem?_eq_some_iff.1 h).1
theorem RD.move {w w' : World} {rb : Nat} {ok : Nat → Prop} {xs : List Int} {e : Int} (h : RD w rb ok xs e) (hs : ∀ k, (ok k ∨ k = rb) → k < w.heap.size → w'.heap[k]? = w.heap[k]?) : RD w' rb ok xs e := by
  obtain ⟨A, c, hb, hB⟩ := h
  exact ⟨A, c, (hs rb (.inr rfl) (Array.getElem?_eq_some_iff.1 hb).1).trans hb, hB.move fun k hk hl => hs k (.inl hk.1) hl⟩
theorem RD.below {w w' : World} {rb : Nat} {ok : Nat → Prop} {xs : List Int} {e : Int} (h : RD w rb ok xs e) (hb : Below w.heap.size w w') : RD w' rb ok xs e := h.move fun k _ hk => hb.block k hk
theorem RD.bs {w : World} {rb : Nat} {ok : Nat → Prop} {xs : List Int} {e : Int} (h : RD w rb ok xs e) : Bs xs := by obtain ⟨A, c, hb, hB⟩ := h; exact hB.bs

theorem err_calls {w : World} {rb : Nat} {ok : Nat → Prop} {xs : List Int} {e : Int} (h : RD w rb ok xs e) : Calls Try.prog 24 #[.pointer (some ⟨rb, 0, none⟩)] w fun v w' => v = .returned (.int .i64 e) ∧ w = w' := by
  obtain ⟨A, c, hb, hB⟩ := h
  have c1 : w.cell? ⟨rb, 1, none⟩ = some (.int .i64 e) := cell_of_block hb 1
  clear hb hB
  go_enter Try.func24, Try.ntmps24
  go_wp2
  go_ret
  exact ⟨rfl, rfl⟩
theorem err_nil (w : World) : Calls Try.prog 24 #[.pointer none] w fun v w' => v = .returned (.int .i64 1) ∧ w = w' := by
  go_enter Try.func24, Try.ntmps24
  go_wp2
  go_ret
  exact ⟨rfl, rfl⟩
theorem left_calls {w : World} {rb : Nat} {ok : Nat → Prop} {xs : List Int} {e : Int} (h : RD w rb ok xs e) : Calls Try.prog 23 #[.pointer (some ⟨rb, 0, none⟩)] w fun v w' => v = .returned (.int .i64 xs.length) ∧ w = w' := by
  obtain ⟨A, c, hb, hB⟩ := h
  have c0 : w.cell? ⟨rb, 0, none⟩ = some (.slice A xs.length c) := cell_of_block hb 0
  clear hb hB
  go_enter Try.func23, Try.ntmps23
  go_wp2
  go_ret
  exact ⟨rfl, rfl⟩
theorem left_nil (w : World) : Calls Try.prog 23 #[.pointer none] w fun v w' => v = .returned (.int .i64 0) ∧ w = w' := by
  go_enter Try.func23, Try.ntmps23
  go_wp2
  go_ret
  exact ⟨rfl, rfl⟩

def doneS (e : Int) (n : Nat) : Int := if e = 0 then (if 0 < n then 4 else 0) else e
theorem done_calls {w : World} {rb : Nat} {ok : Nat → Prop} {xs : List Int} {e : Int} (h : RD w rb ok xs e) : Calls Try.prog 25 #[.pointer (some ⟨rb, 0, none⟩)] w fun v w' => v = .returned (.int .i64 (doneS e xs.length)) ∧ w = w' := by
  have HR := hid h
  obtain ⟨A, c, hb, hB⟩ := h
  have c0 : w.cell? ⟨rb, 0, none⟩ = some (.slice A xs.length c) := cell_of_block hb 0
  clear hb hB
  unfold doneS
  by_cases he : e = 0
  · subst he
    rw [if_pos rfl]
    obtain ⟨n, hn⟩ : ∃ n, n = xs.length := ⟨_, rfl⟩
    rw [← hn] at c0 ⊢
    clear hn
    by_cases hn : 0 < n
    · rw [if_pos hn]
      go_enter Try.func25, Try.ntmps25
      go_wp2_with fail
      refine (err_calls HR.out).mono ?_
      rintro v w' ⟨rfl, rfl⟩
      go_wp2
      go_ret
      exact ⟨rfl, rfl⟩
    · rw [if_neg hn]
      go_enter Try.func25, Try.ntmps25
      go_wp2_with fail
      refine (err_calls HR.out).mono ?_
      rintro v w' ⟨rfl, rfl⟩
      go_wp2
      go_ret
      exact ⟨rfl, rfl⟩
  · rw [if_neg he]
    go_enter Try.func25, Try.ntmps25
    go_wp2_with fail
    refine (err_calls HR.out).mono ?_
    rintro v w' ⟨rfl, rfl⟩
    go_wp2_with fail
    refine (err_calls HR.out).mono ?_
    rintro v w' ⟨rfl, rfl⟩
    go_wp2
    go_ret
    exact ⟨rfl, rfl⟩
theorem done_nil (w : World) : Calls Try.prog 25 #[.pointer none] w fun v w' => v = .returned (.int .i64 1) ∧ w = w' := by
  go_enter Try.func25, Try.ntmps25
  go_wp2_with fail
  refine (err_nil _).mono ?_
  rintro v w' ⟨rfl, rfl⟩
  go_wp2_with fail
  refine (err_nil _).mono ?_
  rintro v w' ⟨rfl, rfl⟩
  go_wp2
  go_ret
  exact ⟨rfl, rfl⟩
theorem num_nil (w : World) : Calls Try.prog 18 #[.pointer none] w fun v w' => v = .returned (.int .i64 0) ∧ w = w' := by
  go_enter Try.func18, Try.ntmps18
  go_wp2_with fail
  refine (err_nil _).mono ?_
  rintro v w' ⟨rfl, rfl⟩
  go_wp2
  go_ret
  exact ⟨rfl, rfl⟩
theorem fixed_nil (n : Int) (w : World) : Calls Try.prog 20 #[.pointer none, .int .i64 n] w fun v w' => v = .returned (.int .u64 0) ∧ w = w' := by
  go_enter Try.func20, Try.ntmps20
  go_wp2_with fail
  refine (err_nil _).mono ?_
  rintro v w' ⟨rfl, rfl⟩
  go_wp2
  go_ret
  exact ⟨rfl, rfl⟩
theorem text_nil (n : Int) (w : World) : Calls Try.prog 22 #[.pointer none, .int .i64 n] w fun v w' => v = .returned (.string ByteArray.empty) ∧ w = w' := by
  go_enter Try.func22, Try.ntmps22
  go_wp2_with fail
  refine (num_nil _).mono ?_
  rintro v w' ⟨rfl, rfl⟩
  go_wp2_with fail
  refine (err_nil _).mono ?_
  rintro v w' ⟨rfl, rfl⟩
  go_wp2
  go_ret
  exact ⟨rfl, rfl⟩
end Go.Proofs.Ytoinkagmhcojlaa
