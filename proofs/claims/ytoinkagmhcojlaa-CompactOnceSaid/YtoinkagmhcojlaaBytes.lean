/- Bytes that are made, of which only the number counts: append, varnum.lay, Put, Text. -/
import Derived.Test.YtoinkagmhcojlaaLate
import Derived.Test.YtoinkagmhcojlaaSl
import Derived.Lib.AppendStr
import Derived.OpenShut
namespace Go.Proofs.Ytoinkagmhcojlaa
open Go.RowKit
set_option linter.unusedVariables false
set_option linter.unusedSimpArgs false
/-- A row of n bytes of the call's own. -/
def Byt (w : World) (base : Nat) (v : Value) (n : Nat) : Prop := ∃ cells, w.ownsRow base 5 1 v n cells ∧ ∀ u ∈ cells, u.oneCell' = true
theorem byt_info : (Try.prog.info? 5).map (fun i => (i.zero, i.size, i.bytes)) = some (some (.int .u8 0), 1, 1) := by kernel_rfl

namespace Byt
variable {w w' : World} {base n : Nat} {v : Value}
theorem nil (w : World) (base : Nat) : Byt w base (.slice none 0 0) 0 := ⟨[], World.ownsRow_nil _ _ _ _, by simp⟩
theorem lt (h : Byt w base v n) {k : Nat} (hk : v.ownBlock = some k) : k < w.heap.size ∧ base ≤ k := by
  obtain ⟨cells, ⟨_, h1 | ⟨g, cap, cur, rfl, hb, hh, _⟩⟩, _⟩ := h
  · obtain ⟨rfl, _⟩ := h1
    simp [Value.ownBlock] at hk
  · have : g = k := by simpa [Value.ownBlock] using hk
    subst this
    exact ⟨(Array.getElem?_eq_some_iff.1 hh).1, hb⟩
theorem move (h : Byt w base v n) (hs : ∀ k, v.ownBlock = some k → k < w.heap.size → w'.heap[k]? = w.heap[k]?) : Byt w' base v n := by
  obtain ⟨cells, ⟨hl, h1 | ⟨g, cap, cur, rfl, hb, hh, r⟩⟩, ho⟩ := h
  · exact ⟨cells, ⟨hl, .inl h1⟩, ho⟩
  · exact ⟨cells, ⟨hl, .inr ⟨g, cap, cur, rfl, hb, by rw [hs g (by simp [Value.ownBlock]) (Array.getElem?_eq_some_iff.1 hh).1]; exact hh, r⟩⟩, ho⟩
theorem below (h : Byt w base v n) (hb : Below w.heap.size w w') : Byt w' base v n := h.move fun k _ hk => hb.block k hk
theorem base_le {b : Nat} (h : Byt w base v n) (hb : b ≤ base) : Byt w b v n := by
  obtain ⟨cells, ⟨hl, h1 | ⟨g, cap, cur, e, hb', r⟩⟩, ho⟩ := h
  · exact ⟨cells, ⟨hl, .inl h1⟩, ho⟩
  · exact ⟨cells, ⟨hl, .inr ⟨g, cap, cur, e, by omega, r⟩⟩, ho⟩
/-- Its cells, where there are any. -/
theorem get (h : Byt w base v n) (hn : 0 < n) : ∃ (g cap : Nat) (cs : List Value), v = .slice (some ⟨g, 0, none⟩) n cap ∧ cs.length = n ∧ (∀ u ∈ cs, u.oneCell' = true) ∧ ∀ j u, cs[j]? = some u → w.cell? ((⟨g, 0, none⟩ : Addr).add j) = some u := by
  obtain ⟨cells, ⟨hl, h1 | ⟨g, cap, cur, rfl, hb, hh, h2, h3, h4, h5⟩⟩, ho⟩ := h
  · omega
  · refine ⟨g, cap, cells, rfl, by simpa using hl, ho, fun j u hu => ?_⟩
    rw [Addr.add_mid, Nat.zero_add, cell_of_block hh]
    rw [← h5, List.getElem?_take] at hu
    split at hu
    · simpa using hu
    · cases hu
theorem form (h : Byt w base v n) : ∃ A c, v = .slice A n c := by
  obtain ⟨cells, ⟨hl, ⟨rfl, rfl⟩ | ⟨g, cap, cur, rfl, _⟩⟩, ho⟩ := h
  · exact ⟨none, 0, rfl⟩
  · exact ⟨_, cap, rfl⟩
end Byt

section
variable {w : World} {ops : Array Oper} {rest : List Oper} {o : Oper} {a : Act} {Q : Exit → Act → World → Prop}
theorem wpList_append_byt (hgd : o.guard = none) (s x : Operand) (ho : o.op = .call { callee := .builtin .append, args := #[s, x], argTypes := #[40, 40] })
    (base : Nat) (v : Value) (n : Nat) (hs : a.eval s = v) (hown : Byt w base v n) (ad : Addr) (m c : Nat) (cs : List Value) (hx : a.eval x = .slice (some ad) m c) (hm : cs.length = m) (hone : ∀ u ∈ cs, u.oneCell' = true)
    (hc : ∀ j u, cs[j]? = some u → w.cell? (ad.add j) = some u) (hlen : n + m ≤ 1000000) (hbase : base ≤ w.heap.size)
    (h : ∀ v' w', Byt w' base v' (n + m) → w.grownBy w' v.ownBlock → wpList Try.prog ops Q rest (a.put o.dst v') w') : wpList Try.prog ops Q (o :: rest) a w := by
  obtain ⟨i, hi, hz, hs1, hs2⟩ := info_parts byt_info
  obtain ⟨cells, hrow, hone'⟩ := hown
  refine wpList_append_own_at w hgd s x 40 ho base 5 i (.int .u8 0) 1 1 Try.underlying40 hi hz hs1 hs2 rfl (by decide) v n cells hs hrow ad m c cs hx (by omega) hc hone (by unfold maxLen; omega) (by omega) hbase (fun v' w' h1 h2 h3 h4 => ?_)
  exact h v' w' ⟨_, h1, fun u hu => by rcases List.mem_append.1 hu with h' | h'; exact hone' u h'; exact hone u h'⟩ h2
theorem wpList_append_str (hgd : o.guard = none) (s x : Operand) (ho : o.op = .call { callee := .builtin .append, args := #[s, x], argTypes := #[40, 9] })
    (base : Nat) (v : Value) (n : Nat) (hs : a.eval s = v) (hown : Byt w base v n) (y : ByteArray) (hx : a.eval x = .string y) (hlen : n + y.size ≤ 1000000) (hbase : base ≤ w.heap.size)
    (h : ∀ v' w', Byt w' base v' (n + y.size) → w.grownBy w' v.ownBlock → wpList Try.prog ops Q rest (a.put o.dst v') w') : wpList Try.prog ops Q (o :: rest) a w := by
  obtain ⟨i, hi, hz, hs1, hs2⟩ := info_parts byt_info
  obtain ⟨cells, hrow, hone'⟩ := hown
  refine Lib.wpList_append_own_string w hgd s x 40 9 ho base 5 i Try.underlying40 Try.underlying9 hi hz hs1 hs2 v n cells hs hrow y hx (by unfold maxLen; omega) (by omega) hbase (fun v' w' h1 h2 h3 => ?_)
  exact h v' w' ⟨_, h1, fun u hu => by
    rcases List.mem_append.1 hu with h' | h'
    · exact hone' u h'
    · simp [Lib.strCells] at h'
      obtain ⟨_, _, rfl⟩ := h'
      rfl⟩ h2
end

theorem one_int (k : IntKind) (x : Int) : ∀ u ∈ [Value.int k x], u.oneCell' = true := fun u hu => by simp at hu; subst hu; rfl
theorem u64_of {x : Int} (h : (Lit.int .u64 x).wf = true) : 0 ≤ x ∧ x < 18446744073709551616 := by
  simp [Lit.wf, IntKind.min, IntKind.max, IntKind.signed, IntKind.bits] at h
  omega
theorem zig_calls (n : Int) (w : World) : Calls Try.prog 42 #[.int .i64 n] w fun e w' => ∃ u : Int, e = .returned (.int .u64 u) ∧ 0 ≤ u ∧ u < 18446744073709551616 ∧ Below w.heap.size w w' := by
  go_enter Try.func42, Try.ntmps42
  go_wp2
  go_ret
  have hw := u64_of (wf_bits .xor .u64 (IntKind.u64.wrap (IntKind.u64.wrap n * 2)) (IntKind.u64.wrap (n / 9223372036854775808)))
  exact ⟨_, rfl, hw.1, hw.2, Below.refl _ _⟩

/-- A call that makes some bytes. -/
def Makes (w : World) (lo hi : Nat) (e : Ending) (w' : World) : Prop := ∃ v n, e = .returned v ∧ Byt w' w.heap.size v n ∧ lo ≤ n ∧ n ≤ hi ∧ Below w.heap.size w w'

set_option maxHeartbeats 400000 in
theorem lay_calls (u : Int) (h0 : 0 ≤ u) (h1 : u < 18446744073709551616) (w : World) : Calls Try.prog 58 #[.int .u64 u] w (Makes w 1 10) := by
  go_enter Try.func58, Try.ntmps58
  go_wp2
  go_loopw [0, 3] (fun x v wr => ∃ (y : Int) (n m : Nat), x = .int .u64 y ∧ 0 ≤ y ∧ y < 128 ^ m ∧ 1 ≤ m ∧ n + m ≤ 10 ∧ Hid (Byt wr w.heap.size v n) ∧ Below w.heap.size w wr) (fun x _ _ => (intOf x).toNat)
  case atStart => exact ⟨u, 0, 10, rfl, h0, by omega, by omega, by omega, hid (Byt.nil _ _), (by repeat (first | exact Below.refl _ _ | assumption | apply balloc | apply bdN | apply bdrew | refine bthen ?_ (by assumption)))⟩
  case round =>
    obtain ⟨y, n, m, rfl, hy0, hym, hm1, hnm, hB, hbw⟩ := hrel
    by_cases hgt : 127 < y
    · go_wp2_with (at_builtin; go_must (refine wpList_append_byt rfl _ _ rfl w.heap.size _ n rfl (hB.out.below (by repeat (first | exact Below.refl _ _ | assumption | apply balloc | apply bdN | apply bdrew | refine bthen ?_ (by assumption)))) ⟨wr.heap.size, 0, none⟩ 1 1 [.int .u8 _] rfl rfl (one_int _ _) (fun j u hu => by rw [Addr.add_mid, Nat.zero_add, World.cell?_alloc_new]; simpa using hu) (by omega) (by have := hbw.size; simp; omega) ?_); intro v1 w1 hB1 hg1)
      go_roundw
      case rel =>
        obtain ⟨p, rfl⟩ : ∃ p, m = p + 1 := ⟨m - 1, by omega⟩
        rw [Int.pow_succ] at hym
        have hp1 : 1 ≤ p := by
          rcases Nat.eq_zero_or_pos p with h' | h'
          · subst h'; simp at hym; omega
          · exact h'
        refine ⟨y / 128, n + 1, p, rfl, by omega, ?_, hp1, by omega, hid hB1, bgrown (balloc hbw) hg1 (fun k hk => (hB.out.lt hk).2)⟩
        generalize (128 : Int) ^ p = q at hym ⊢
        omega
      case measure => simp [intOf]; omega
    · go_wp2_with (at_builtin; go_must (refine wpList_append_byt rfl _ _ rfl w.heap.size _ n rfl (hB.out.below (by repeat (first | exact Below.refl _ _ | assumption | apply balloc | apply bdN | apply bdrew | refine bthen ?_ (by assumption)))) ⟨wr.heap.size, 0, none⟩ 1 1 [.int .u8 _] rfl rfl (one_int _ _) (fun j u hu => by rw [Addr.add_mid, Nat.zero_add, World.cell?_alloc_new]; simpa using hu) (by omega) (by have := hbw.size; simp; omega) ?_); intro v1 w1 hB1 hg1)
      go_ret
      exact ⟨_, n + 1, rfl, hB1, by omega, by omega, bgrown (balloc hbw) hg1 (fun k hk => (hB.out.lt hk).2)⟩

theorem put_calls (n : Int) (w : World) : Calls Try.prog 40 #[.int .i64 n] w (Makes w 1 10) := by
  go_enter Try.func40, Try.ntmps40
  go_wp2_with fail
  refine (zig_calls n _).mono ?_
  rintro e w1 ⟨u, rfl, h0, h1, hb1⟩
  go_wp2_with fail
  refine (lay_calls u h0 h1 _).mono ?_
  rintro e w2 ⟨v, m, rfl, hB, hm1, hm2, hb2⟩
  go_wp2_with fail
  go_ret
  exact ⟨_, m, rfl, hB.base_le hb1.size, hm1, hm2, bthen hb1 hb2⟩

theorem text_calls (s : ByteArray) (hs : s.size ≤ 900000) (w : World) : Calls Try.prog 27 #[.string s] w (Makes w 1 (s.size + 10)) := by
  go_enter Try.func27, Try.ntmps27
  go_wp2_with fail
  refine (put_calls _ _).mono ?_
  rintro e w1 ⟨v, m, rfl, hB, hm1, hm2, hb1⟩
  have hBH := hid hB
  clear hB
  go_wp2_with (at_builtin; go_must (refine wpList_append_str rfl _ _ rfl w.heap.size _ m rfl hBH.out s rfl (by omega) hb1.size ?_); intro v1 w2 hB1 hg1)
  go_ret
  exact ⟨_, m + s.size, rfl, hB1, by omega, by omega, bgrown hb1 hg1 (fun k hk => (hBH.out.lt hk).2)⟩
end Go.Proofs.Ytoinkagmhcojlaa
