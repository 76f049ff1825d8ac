/- Bytes of the call's own: append; bytes.Clone, New; the document's bytes, Put, Text, Zigzag, Zagzig, Unfixed, Done. -/
import Derived.Test.YtoinkagmhcojlaaVTake
import Derived.Lib.AppendStr
namespace Go.Proofs.Ytoinkagmhcojlaa
open Go.RowKit
set_option linter.unusedVariables false
set_option linter.unusedSimpArgs false
abbrev numsB (xs : List Int) : List Value := Go.Proofs.YtoinkagmhcojlaaW.PrintWords.nums .u8 xs
/-- A row of bytes of the call's own. -/
def OwnB (w : World) (base : Nat) (v : Value) (xs : List Int) : Prop := w.ownsRow base 5 1 v xs.length (numsB xs)
theorem vbyt_info : (Try.prog.info? 5).map (fun i => (i.zero, i.size, i.bytes)) = some (some (.int .u8 0), 1, 1) := by kernel_rfl
theorem vinfo_parts {P : Program} {e : TypeId} {z : Value} {s b : Nat} (h : (P.info? e).map (fun i => (i.zero, i.size, i.bytes)) = some (some z, s, b)) : ∃ i, P.info? e = some i ∧ i.zero = some z ∧ i.size = s ∧ i.bytes = b := by
  cases hi : P.info? e with
  | none => rw [hi] at h; cases h
  | some i =>
    rw [hi] at h
    simp at h
    exact ⟨i, rfl, h.1, h.2.1, h.2.2⟩
theorem numsB_append (xs ys : List Int) : numsB (xs ++ ys) = numsB xs ++ numsB ys := by simp [numsB, Go.Proofs.YtoinkagmhcojlaaW.PrintWords.nums]
theorem numsB_one (xs : List Int) : ∀ u ∈ numsB xs, u.oneCell' = true := fun u hu => by
  simp [numsB, Go.Proofs.YtoinkagmhcojlaaW.PrintWords.nums] at hu
  obtain ⟨_, _, rfl⟩ := hu
  rfl
namespace OwnB
variable {w w' : World} {base : Nat} {xs : List Int} {v : Value}
theorem nil (w : World) (base : Nat) : OwnB w base (.slice none 0 0) [] := World.ownsRow_nil _ _ _ _
theorem lt (h : OwnB w base v xs) {k : Nat} (hk : v.ownBlock = some k) : k < w.heap.size ∧ base ≤ k := by
  obtain ⟨_, h1 | ⟨g, cap, cur, rfl, hb, hh, _⟩⟩ := h
  · obtain ⟨rfl, _⟩ := h1
    simp [Value.ownBlock] at hk
  · have : g = k := by simpa [Value.ownBlock] using hk
    subst this
    exact ⟨(Array.getElem?_eq_some_iff.1 hh).1, hb⟩
theorem move (h : OwnB w base v xs) (hs : ∀ k, v.ownBlock = some k → k < w.heap.size → w'.heap[k]? = w.heap[k]?) : OwnB w' base v xs := by
  obtain ⟨hl, h1 | ⟨g, cap, cur, rfl, hb, hh, r⟩⟩ := h
  · exact ⟨hl, .inl h1⟩
  · exact ⟨hl, .inr ⟨g, cap, cur, rfl, hb, by rw [hs g (by simp [Value.ownBlock]) (Array.getElem?_eq_some_iff.1 hh).1]; exact hh, r⟩⟩
theorem below (h : OwnB w base v xs) (hb : Below w.heap.size w w') : OwnB w' base v xs := h.move fun k _ hk => hb.block k hk
theorem base_le {b : Nat} (h : OwnB w base v xs) (hb : b ≤ base) : OwnB w b v xs := by
  obtain ⟨hl, h1 | ⟨g, cap, cur, e, hb', r⟩⟩ := h
  · exact ⟨hl, .inl h1⟩
  · exact ⟨hl, .inr ⟨g, cap, cur, e, by omega, r⟩⟩
theorem str (h : OwnB w base v xs) : (convert 40 9 v).run Try.prog w = .ok (.string (strOfNums xs)) w :=
  Go.Proofs.YtoinkagmhcojlaaW.PrintWords.own_string Try.underlying40 Try.underlying5 Try.underlying9 h
theorem br (h : OwnB w base v xs) (hx : Bs xs) : ∃ A c, v = .slice A xs.length c ∧ BR w (fun g => base ≤ g ∧ v.ownBlock = some g) A c xs := by
  obtain ⟨hl, ⟨rfl, h0⟩ | ⟨g, cap, cur, rfl, hb, hh, h2, h3, h4, h5⟩⟩ := h
  · have : xs = [] := List.eq_nil_of_length_eq_zero h0
    subst this
    exact ⟨none, 0, rfl, BR.nil _ _⟩
  · refine ⟨_, cap, rfl, h2, h3, hx, fun _ => ⟨g, 0, rfl, ⟨⟨hb, rfl⟩, (Array.getElem?_eq_some_iff.1 hh).1⟩, fun i x hi => ?_⟩⟩
    rw [cell_of_block hh]
    have : (numsB xs)[i]? = some (.int .u8 x) := by simp [numsB, Go.Proofs.YtoinkagmhcojlaaW.PrintWords.nums, hi]
    rw [← h5, List.getElem?_take] at this
    split at this
    · simpa using this
    · cases this
end OwnB
section
variable {w : World} {ops : Array Oper} {rest : List Oper} {o : Oper} {a : Act} {Q : Exit → Act → World → Prop}
theorem wpList_append_B (hgd : o.guard = none) (s x : Operand) (ho : o.op = .call { callee := .builtin .append, args := #[s, x], argTypes := #[40, 40] })
    (base : Nat) (v : Value) (xs : List Int) (hs : a.eval s = v) (hown : OwnB w base v xs) (ad : Addr) (m c : Nat) (ys : List Int) (hx : a.eval x = .slice (some ad) m c) (hm : ys.length = m)
    (hc : ∀ j y, ys[j]? = some y → w.cell? (ad.add j) = some (.int .u8 y)) (hlen : xs.length + m ≤ 1000000) (hbase : base ≤ w.heap.size)
    (h : ∀ v' w', OwnB w' base v' (xs ++ ys) → w.grownBy w' v.ownBlock → (v' = .slice none 0 0 ↔ v = .slice none 0 0 ∧ m = 0) → (v'.ownBlock = v.ownBlock ∨ v'.ownBlock = some w.heap.size) → wpList Try.prog ops Q rest (a.put o.dst v') w') : wpList Try.prog ops Q (o :: rest) a w := by
  obtain ⟨i, hi, hz, hs1, hs2⟩ := vinfo_parts vbyt_info
  refine wpList_append_own_at w hgd s x 40 ho base 5 i (.int .u8 0) 1 1 Try.underlying40 hi hz hs1 hs2 rfl (by decide) v xs.length (numsB xs) hs hown ad m c (numsB ys) hx (by simp [numsB, Go.Proofs.YtoinkagmhcojlaaW.PrintWords.nums, hm]) (fun j u hu => ?_) (numsB_one ys) (by unfold maxLen; omega) (by omega) hbase (fun v' w' h1 h2 h3 h4 => ?_)
  · simp [numsB, Go.Proofs.YtoinkagmhcojlaaW.PrintWords.nums] at hu
    obtain ⟨y, hy, rfl⟩ := hu
    exact hc j y hy
  · refine h v' w' ?_ h2 h3 h4
    unfold OwnB
    rw [numsB_append, List.length_append, hm]
    exact h1
theorem wpList_append_Bs (hgd : o.guard = none) (s x : Operand) (ho : o.op = .call { callee := .builtin .append, args := #[s, x], argTypes := #[40, 9] })
    (base : Nat) (v : Value) (xs : List Int) (hs : a.eval s = v) (hown : OwnB w base v xs) (y : ByteArray) (hx : a.eval x = .string y) (hlen : xs.length + y.size ≤ 1000000) (hbase : base ≤ w.heap.size)
    (h : ∀ v' w', OwnB w' base v' (xs ++ Go.Proofs.YtoinkagmhcojlaaW.PrintWords.bytesOf y) → w.grownBy w' v.ownBlock → wpList Try.prog ops Q rest (a.put o.dst v') w') : wpList Try.prog ops Q (o :: rest) a w := by
  obtain ⟨i, hi, hz, hs1, hs2⟩ := vinfo_parts vbyt_info
  refine Lib.wpList_append_own_string w hgd s x 40 9 ho base 5 i Try.underlying40 Try.underlying9 hi hz hs1 hs2 v xs.length (numsB xs) hs hown y hx (by unfold maxLen; omega) (by omega) hbase (fun v' w' h1 h2 h3 => ?_)
  refine h v' w' ?_ h2
  unfold OwnB
  rw [numsB_append, List.length_append, Go.Proofs.YtoinkagmhcojlaaW.PrintWords.bytesOf_length]
  have : numsB (Go.Proofs.YtoinkagmhcojlaaW.PrintWords.bytesOf y) = Lib.strCells y := by simp [numsB, Go.Proofs.YtoinkagmhcojlaaW.PrintWords.nums, Go.Proofs.YtoinkagmhcojlaaW.PrintWords.bytesOf, Lib.strCells]
  rw [this]
  exact h1
end

theorem newB (w : World) (z : Int) (t : TypeId) : ∀ (j : Nat) (y : Int), [z][j]? = some y → (w.alloc (.cells #[.int .u8 z] t)).cell? ((⟨w.heap.size, 0, none⟩ : Addr).add j) = some (.int .u8 y) := fun j y hj => by
  match j, hj with
  | 0, hj =>
    simp at hj
    subst hj
    rw [Addr.add_mid, Nat.zero_add, World.cell?_alloc_new]
    rfl
theorem ret_k {k : IntKind} {a b : Int} (h : a = b) : Ending.returned (.int k a) = .returned (.int k b) := by rw [h]

/-! ### the document's numbers -/
theorem rzig_calls (n : Int) (h0 : -9223372036854775808 ≤ n) (h1 : n < 9223372036854775808) (w : World) : Calls Try.prog 62 #[.int .i64 n] w fun e w' => e = .returned (.int .u64 (zig n)) ∧ w = w' := by
  have hm : ∀ n : Int, IntKind.u64.wrap n = n % 18446744073709551616 := fun n => by simp [IntKind.wrap, IntKind.bits, IntKind.signed]
  unfold zig
  by_cases h : 0 ≤ n
  · rw [if_pos h]
    go_enter Try.func62, Try.ntmps62
    go_wp2
    go_ret
    refine ⟨ret_k ?_, rfl⟩
    omega
  · rw [if_neg h]
    go_enter Try.func62, Try.ntmps62
    go_wp2
    go_ret
    refine ⟨ret_k ?_, rfl⟩
    omega
theorem rzag_calls (u : Int) (h0 : 0 ≤ u) (h1 : u < 18446744073709551616) (w : World) : Calls Try.prog 60 #[.int .u64 u] w fun e w' => e = .returned (.int .i64 (zag u)) ∧ w = w' := by
  unfold zag
  by_cases h : u % 2 = 0
  · rw [if_pos h]
    go_enter Try.func60, Try.ntmps60
    go_wp2
    go_ret
    exact ⟨rfl, rfl⟩
  · rw [if_neg h]
    go_enter Try.func60, Try.ntmps60
    go_wp2
    go_ret
    exact ⟨rfl, rfl⟩
theorem zig_bd (n : Int) (h0 : -9223372036854775808 ≤ n) (h1 : n < 9223372036854775808) : 0 ≤ zig n ∧ zig n < 18446744073709551616 := by unfold zig; split <;> omega

set_option maxHeartbeats 400000 in
theorem rbytes_calls (u : Int) (h0 : 0 ≤ u) (h1 : u < 18446744073709551616) (w : World) : Calls Try.prog 59 #[.int .u64 u] w fun e w' => ∃ v, e = .returned v ∧ OwnB w' w.heap.size v (layL u) ∧ Below w.heap.size w w' := by
  go_enter Try.func59, Try.ntmps59
  go_wp2
  go_loopw [0, 3] (fun x v wr => ∃ (y : Int) (acc : List Int) (m : Nat), x = .int .u64 y ∧ 0 ≤ y ∧ y < 128 ^ (m + 1) ∧ y < 18446744073709551616 ∧ acc.length + m ≤ 10 ∧ Hid (acc ++ layF m y = layL u) ∧ Hid (OwnB wr w.heap.size v acc) ∧ Below w.heap.size w wr) (fun x _ _ => (intOf x).toNat)
  case atStart => exact ⟨u, [], 10, rfl, h0, by omega, h1, by simp, hid rfl, hid (OwnB.nil _ _), (by repeat (first | exact Below.refl _ _ | assumption | apply balloc | apply bdN | apply bdrew | refine bthen ?_ (by assumption)))⟩
  case round =>
    obtain ⟨y, acc, m, rfl, hy0, hym, hy64, hlm, hL, hB, hbw⟩ := hrel
    by_cases hgt : 128 ≤ y
    · go_wp2_with (at_builtin; go_must (refine wpList_append_B rfl _ _ rfl w.heap.size _ acc rfl (hB.out.below (by repeat (first | exact Below.refl _ _ | assumption | apply balloc | apply bdN | apply bdrew | refine bthen ?_ (by assumption)))) ⟨wr.heap.size, 0, none⟩ 1 1 [_] rfl rfl (newB _ _ _) (by omega) (by have := hbw.size; simp; omega) ?_); intro v1 w1 hB1 hg1 hn1 ho1)
      go_roundw
      case rel =>
        obtain ⟨p, rfl⟩ : ∃ p, m = p + 1 := by
          cases m with
          | zero => exact absurd hym (by omega)
          | succ p => exact ⟨p, rfl⟩
        refine ⟨y / 128, acc ++ [_], p, rfl, by omega, ?_, by omega, by simp; omega, hid ?_, hid hB1, bgrown (balloc hbw) hg1 (fun k hk => (hB.out.lt hk).2)⟩
        · rw [Int.pow_succ] at hym
          omega
        · have h := hL.out
          unfold layF at h
          rw [if_pos (by omega)] at h
          rw [← h, List.append_assoc]
          congr 1
      case measure => simp [intOf]; omega
    · go_wp2_with (at_builtin; go_must (refine wpList_append_B rfl _ _ rfl w.heap.size _ acc rfl (hB.out.below (by repeat (first | exact Below.refl _ _ | assumption | apply balloc | apply bdN | apply bdrew | refine bthen ?_ (by assumption)))) ⟨wr.heap.size, 0, none⟩ 1 1 [_] rfl rfl (newB _ _ _) (by omega) (by have := hbw.size; simp; omega) ?_); intro v1 w1 hB1 hg1 hn1 ho1)
      go_ret
      refine ⟨_, rfl, ?_, bgrown (balloc hbw) hg1 (fun k hk => (hB.out.lt hk).2)⟩
      have h := hL.out
      have e : layF m y = [y % 256] := by
        cases m with
        | zero => rfl
        | succ p => unfold layF; rw [if_neg (by omega)]
      rw [e, Int.emod_eq_of_lt (by omega) (by omega)] at h
      rw [← h]
      exact hB1

theorem rput_calls (n : Int) (h0 : -9223372036854775808 ≤ n) (h1 : n < 9223372036854775808) (w : World) : Calls Try.prog 51 #[.int .i64 n] w fun e w' => ∃ v, e = .returned v ∧ OwnB w' w.heap.size v (layL (zig n)) ∧ Below w.heap.size w w' := by
  have hz := zig_bd n h0 h1
  go_enter Try.func51, Try.ntmps51
  go_wp2_with fail
  refine (rzig_calls n h0 h1 _).mono ?_
  rintro e w1 ⟨rfl, rfl⟩
  go_wp2_with fail
  refine (rbytes_calls _ hz.1 hz.2 _).mono ?_
  rintro e w2 ⟨v, rfl, hB, hb2⟩
  go_wp2_with fail
  go_ret
  exact ⟨_, rfl, hB, hb2⟩

theorem rtext_calls (s : ByteArray) (hs : s.size ≤ 300) (w : World) : Calls Try.prog 28 #[.string s] w fun e w' => ∃ v, e = .returned v ∧ OwnB w' w.heap.size v (txtS s) ∧ Below w.heap.size w w' := by
  go_enter Try.func28, Try.ntmps28
  go_wp2_with fail
  refine (rput_calls _ (by omega) (by omega) _).mono ?_
  rintro e w1 ⟨v, rfl, hB, hb1⟩
  have hBH := hid hB
  have hlen := layF_len 10 (zig s.size)
  clear hB
  go_wp2_with (at_builtin; go_must (refine wpList_append_Bs rfl _ _ rfl w.heap.size _ (layL (zig s.size)) rfl hBH.out s rfl (by unfold layL; omega) hb1.size ?_); intro v1 w2 hB1 hg1)
  go_ret
  exact ⟨_, rfl, hB1, bgrown hb1 hg1 (fun k hk => (hBH.out.lt hk).2)⟩

/-! ### bytes.Clone, New -/
theorem clone_calls (w : World) (ok : Nat → Prop) (ad : Addr) (c : Nat) (xs : List Int) (h : BR w ok (some ad) c xs) (hl : xs.length ≤ 300) : Calls Try.prog 45 #[.slice (some ad) xs.length c] w fun e w' => ∃ v, e = .returned v ∧ OwnB w' w.heap.size v xs ∧ Below w.heap.size w w' := by
  have q := fun (w : World) (a : Option Addr) (n c n' c' : Nat) => Lib.run_eql_slice_nil (P := Try.prog) w _ _ a n c n' c' Try.underlying40
  have HB := hid h
  clear h
  go_enter Try.func45, Try.ntmps45
  go_wp2_with (at_builtin; go_must (refine wpList_append_B rfl _ _ rfl w.heap.size (.slice (some ⟨w.heap.size, 0, none⟩) 0 0) [] rfl ?_ ad xs.length c xs rfl rfl ?_ (by simp; omega) (by simp) ?_))
  case refine_1 => exact ⟨rfl, .inr ⟨w.heap.size, 0, #[], rfl, Nat.le_refl _, heap_alloc_new _ _, Nat.le_refl _, by unfold maxLen; omega, rfl, rfl⟩⟩
  case refine_2 =>
    intro j y hy
    obtain ⟨g, off, hA, hg, hc⟩ := HB.out.2.2.2 (by rintro rfl; simp at hy)
    cases hA
    rw [Addr.add_mid]
    exact ck (balloc (Below.refl _ _)) (hc j y hy)
  intro v1 w1 hB1 hg1 hn1 ho1
  go_wp2
  go_ret
  exact ⟨_, rfl, hB1, bgrown (balloc (Below.refl _ _)) hg1 (fun k hk => by simp [Value.ownBlock] at hk; omega)⟩
theorem new_calls (w : World) (ok : Nat → Prop) (ad : Addr) (c : Nat) (xs : List Int) (h : BR w ok (some ad) c xs) (hl : xs.length ≤ 300) : Calls Try.prog 16 #[.slice (some ad) xs.length c] w fun e w' => ∃ rb, e = .returned (.pointer (some ⟨rb, 0, none⟩)) ∧ w.heap.size ≤ rb ∧ RD w' rb (fun g => w.heap.size ≤ g) xs 0 ∧ Below w.heap.size w w' := by
  have HB := hid h
  clear h
  go_enter Try.func16, Try.ntmps16
  go_wp2_with fail
  refine (clone_calls _ ok ad c xs HB.out hl).mono ?_
  rintro e w1 ⟨v, rfl, hB, hb1⟩
  obtain ⟨A, cc, rfl, hR⟩ := hB.br HB.out.bs
  have HR := hid hR
  clear hB hR
  go_wp2_with fail
  go_ret
  exact ⟨w1.heap.size, rfl, hb1.size, ⟨A, cc, heap_alloc_new _ _, (HR.out.mono fun k hk hl => ⟨hk.1, fun e => by omega⟩).below (balloc (Below.refl _ _))⟩, balloc hb1⟩
end Go.Proofs.Ytoinkagmhcojlaa

