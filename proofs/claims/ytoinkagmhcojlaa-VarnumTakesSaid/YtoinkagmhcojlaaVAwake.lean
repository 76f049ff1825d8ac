/- awake: what every right program lays of some numbers. -/
import Derived.Test.YtoinkagmhcojlaaVRef3
import Derived.Lib.SlBytesConst
namespace Go.Proofs.Ytoinkagmhcojlaa
open Go.RowKit
set_option linter.unusedVariables false
set_option linter.unusedSimpArgs false
/-- The bytes v, as a text, are s, here and behind whatever only makes. -/
def StrV (w : World) (v : Value) (s : ByteArray) : Prop := ∀ w2, Below w.heap.size w w2 → (convert 40 9 v).run Try.prog w2 = .ok (.string s) w2
theorem StrV.of_kd {w : World} {base : Nat} {ok : Nat → Prop} {v : Value} {xs : List Int} (h : Go.Proofs.YtoinkagmhcojlaaW.PrintWords.Kd.R (Go.Proofs.YtoinkagmhcojlaaW.PrintWords.Kd.int .u8) 5 w base ok v xs) : StrV w v (strOfNums xs) := fun w2 hb => by
  obtain ⟨A, c, rfl, hl, hr⟩ := Go.Proofs.YtoinkagmhcojlaaW.PrintWords.Kd.R_reads (Go.Proofs.YtoinkagmhcojlaaW.PrintWords.Kd.R_below h hb)
  exact Go.Proofs.YtoinkagmhcojlaaW.PrintWords.Kd.C_string Try.underlying40 Try.underlying5 Try.underlying9 hr
theorem StrV.of_own {w : World} {base : Nat} {v : Value} {xs : List Int} (h : OwnB w base v xs) : StrV w v (strOfNums xs) := fun w2 hb => (h.below hb).str
theorem StrV.now {w : World} {v : Value} {s : ByteArray} (h : StrV w v s) : (convert 40 9 v).run Try.prog w = .ok (.string s) w := h w (Below.refl _ _)

theorem put_str (n : Int) (h0 : -9223372036854775808 ≤ n) (h1 : n < 9223372036854775808) (w : World) : Calls Try.prog 40 #[.int .i64 n] w fun e w' => ∃ v, e = .returned v ∧ StrV w' v (strOfNums (layL (zig n))) ∧ Below w.heap.size w w' :=
  (PVarnumTakes.varnum_Put.calls 11 n _ w (put_f n h0 h1)).mono fun e w' ⟨v, he, hr, hb⟩ => ⟨v, he, StrV.of_kd hr, hb⟩
theorem text_str (s : ByteArray) (hs : s.size ≤ 300) (w : World) : Calls Try.prog 27 #[.string s] w fun e w' => ∃ v, e = .returned v ∧ StrV w' v (strOfNums (txtS s)) ∧ Below w.heap.size w w' :=
  (PVarnumTakes.varnum_Text.calls 11 s _ w (text_f s hs)).mono fun e w' ⟨v, he, hr, hb⟩ => ⟨v, he, StrV.of_kd hr, hb⟩
theorem rtext_str (s : ByteArray) (hs : s.size ≤ 300) (w : World) : Calls Try.prog 28 #[.string s] w fun e w' => ∃ v, e = .returned v ∧ StrV w' v (strOfNums (txtS s)) ∧ Below w.heap.size w w' :=
  (rtext_calls s hs w).mono fun e w' ⟨v, he, hr, hb⟩ => ⟨v, he, StrV.of_own hr, hb⟩

theorem below_chg {w w1 w2 : World} {rb : Nat} (h : Below w.heap.size w w1) (hc : Chg [rb] w1 w2) (hrb : w.heap.size ≤ rb) : Below w.heap.size w w2 :=
  ⟨hc.os.trans h.os, hc.tape.trans h.tape, hc.output.trans h.output, Nat.le_trans h.size hc.size, fun k hk => (hc.block k (Nat.lt_of_lt_of_le hk h.size) (by simp; omega)).trans (h.block k hk)⟩
def fxSt (k : Nat) : Array Value := if k = 0 then #[.int .u8 0, .int .u8 0, .int .u8 0] else if k = 1 then #[.int .u8 0, .int .u8 0, .int .u8 2] else #[.int .u8 0, .int .u8 1, .int .u8 2]
theorem mk3 (w : World) : (Instr.makeSlice 40 (.int .i64 3) (.int .i64 3)).run Try.prog w = .ok (.slice (some ⟨w.heap.size, 0, none⟩) 3 3) (w.alloc (.cells #[.int .u8 0, .int .u8 0, .int .u8 0] 5)) := by kernel_rfl
set_option maxHeartbeats 1000000 in
theorem fixed3_str (w : World) : Calls Try.prog 41 #[.int .u64 258, .int .i64 3] w fun e w' => ∃ v, e = .returned v ∧ StrV w' v (strOfNums [0, 1, 2]) ∧ Below w.heap.size w w' := by
  go_enter Try.func41, Try.ntmps41
  go_wp2_with fail
  refine (PVarnumTakes.varnum_wide.calls 3 3 _ (wide_f 3)).mono ?_
  rintro v w1 ⟨rfl, hb1⟩
  have hmk := mk3
  have hb1s := hb1.size
  go_wp2
  go_loopw [6, 12] (fun _ i wr => ∃ k : Nat, i = .int .i64 k ∧ k ≤ 3 ∧ wr.heap[w1.heap.size]? = some (.cells (fxSt k) 5 (0, 0)) ∧ Below w.heap.size w wr) (fun _ i _ => 3 - (intOf i).toNat)
  case atStart => exact ⟨0, rfl, by omega, heap_alloc_new _ _, balloc hb1⟩
  case round =>
    obtain ⟨k, rfl, hk, hblk, hbw⟩ := hrel
    have HK := hid hblk
    rcases (show k = 0 ∨ k = 1 ∨ k = 2 ∨ k = 3 by omega) with rfl | rfl | rfl | rfl
    · have c2 : wr.cell? ⟨w1.heap.size, 2, none⟩ = some (.int .u8 0) := cell_of_block hblk 2
      have f2 := frozen_of_block hblk 2
      clear hblk
      go_wp2
      go_roundw
      case rel => exact ⟨1, rfl, by omega, block_set HK.out 2 (.int .u8 2), bset hbw hb1s⟩
      case measure => simp [intOf]
    · have c1 : wr.cell? ⟨w1.heap.size, 1, none⟩ = some (.int .u8 0) := cell_of_block hblk 1
      have f1 := frozen_of_block hblk 1
      clear hblk
      go_wp2
      go_roundw
      case rel => exact ⟨2, rfl, by omega, block_set HK.out 1 (.int .u8 1), bset hbw hb1s⟩
      case measure => simp [intOf]
    · have c0 : wr.cell? ⟨w1.heap.size, 0, none⟩ = some (.int .u8 0) := cell_of_block hblk 0
      have f0 := frozen_of_block hblk 0
      clear hblk
      go_wp2
      go_roundw
      case rel => exact ⟨3, rfl, by omega, block_set HK.out 0 (.int .u8 0), bset hbw hb1s⟩
      case measure => simp [intOf]
    · clear hblk
      go_wp2
      go_ret
      refine ⟨_, rfl, StrV.of_own (base := w.heap.size) (xs := [0, 1, 2]) ⟨rfl, .inr ⟨w1.heap.size, 3, _, rfl, hb1s, HK.out, by decide, by unfold maxLen; decide, rfl, rfl⟩⟩, hbw⟩

def awXs : List Int := [4, 97, 98, 128, 1, 0, 9]
theorem aw_tex : texS awXs 0 9 = (⟨#[97, 98]⟩, [128, 1, 0, 9], 0) := by kernel_rfl
theorem aw_num : numS [128, 1, 0, 9] 0 = (64, [0, 9], 0) := by kernel_rfl
theorem aw_fix : fixS [0, 9] 0 2 = (9, [], 0) := by kernel_rfl
theorem aw_put1 : strOfNums (layL (zig (-1))) = ⟨#[1]⟩ := by kernel_rfl
theorem aw_put64 : strOfNums (layL (zig 64)) = ⟨#[128, 1]⟩ := by kernel_rfl
theorem aw_text : strOfNums (txtS ⟨#[97, 98]⟩) = ⟨#[4, 97, 98]⟩ := by kernel_rfl
theorem aw_fixed : strOfNums [0, 1, 2] = ⟨#[0, 1, 2]⟩ := by kernel_rfl
theorem aw_unf : unfS [1, 0] = 256 := by kernel_rfl
theorem aw_block (w : World) (B : Array Value) (fr : Nat × Nat) (xs : List Int) (hB : B = (numsB xs).toArray) (hx : Bs xs) (hl : xs.length ≤ 300) : BR (w.alloc (.cells B 5 fr)) (fun _ => True) (some ⟨w.heap.size, 0, none⟩) xs.length xs := by
  subst hB
  refine ⟨Nat.le_refl _, by unfold maxLen; omega, hx, fun _ => ⟨w.heap.size, 0, rfl, ⟨trivial, by simp⟩, fun i x hi => ?_⟩⟩
  rw [Nat.zero_add, cell_of_block (heap_alloc_new _ _)]
  simp [numsB, Go.Proofs.YtoinkagmhcojlaaW.PrintWords.nums, hi]
set_option maxRecDepth 10000 in
set_option maxHeartbeats 4000000 in
theorem vawake_calls (w : World) : Calls Try.prog 15 #[] w fun e w' => e = .returned (.bool true) ∧ Below w.heap.size w w' := by
  have kc := fun (w : World) (C : Array Value) (n c : Nat) => Lib.run_convert_bytes_const (P := Try.prog) w 40 5 C n c Try.underlying40 Try.underlying5
  go_enter Try.func15, Try.ntmps15
  go_wp2_with fail
  refine (new_calls _ _ _ 7 awXs (aw_block _ _ (7, 8) awXs rfl (by unfold Bs awXs; decide) (by decide)) (by decide)).mono ?_
  rintro e w1 ⟨rb, rfl, hrb, hR, hb1⟩
  have HR := hid hR
  have hbw := balloc (o := .cells (numsB awXs).toArray 5 (7, 8)) (Below.refl w.heap.size w)
  clear hR
  go_wp2_with fail
  refine (put_str (-1) (by decide) (by decide) _).mono ?_
  rintro e w2 ⟨v2, rfl, hs2, hb2⟩
  rw [aw_put1] at hs2
  have hc2 := hs2.now
  clear hs2
  go_wp2_with fail
  refine (put_str 64 (by decide) (by decide) _).mono ?_
  rintro e w3 ⟨v3, rfl, hs3, hb3⟩
  rw [aw_put64] at hs3
  have hc3 := hs3.now
  clear hs3 hc2
  go_wp2_with fail
  refine (text_str _ (by decide) _).mono ?_
  rintro e w4 ⟨v4, rfl, hs4, hb4⟩
  rw [aw_text] at hs4
  have hc4 := hs4.now
  clear hs4 hc3
  go_wp2_with fail
  refine (fixed3_str _).mono ?_
  rintro e w5 ⟨v5, rfl, hs5, hb5⟩
  rw [aw_fixed] at hs5
  have hc5 := hs5.now
  have hbb := bthen (bthen (bthen hb2 hb3) hb4) hb5
  have hR5 := hid (HR.out.below hbb)
  have hbw5 := bthen (bthen hbw hb1) hbb
  clear hs5 hc4 hb1 hb2 hb3 hb4 hb5 hbb HR
  go_wp2_with fail
  refine (text_calls' hR5.out (by decide) 9).mono ?_
  rintro e w6 ⟨rfl, hR6, hC6⟩
  rw [aw_tex] at hR6 ⊢
  simp only at hR6 ⊢
  have HR6 := hid hR6
  clear hR6 hc5 hR5
  go_wp2_with fail
  refine (num_calls HR6.out (by decide)).mono ?_
  rintro e w7 ⟨rfl, hR7, hC7⟩
  rw [aw_num] at hR7 ⊢
  simp only at hR7 ⊢
  have HR7 := hid hR7
  clear hR7 HR6
  go_wp2_with fail
  refine (fixed_calls HR7.out (by decide) 2).mono ?_
  rintro e w8 ⟨rfl, hR8, hC8⟩
  rw [aw_fix] at hR8 ⊢
  simp only at hR8 ⊢
  have HR8 := hid hR8
  clear hR8 HR7
  go_wp2_with fail
  refine (done_calls HR8.out).mono ?_
  rintro e w9 ⟨rfl, rfl⟩
  have hd0 : doneS 0 ([] : List Int).length = 0 := rfl
  rw [hd0]
  clear hd0 HR8
  have hrb' : w.heap.size ≤ rb := by have := hbw.size; omega
  have hbw8 := hid (below_chg (below_chg (below_chg hbw5 hC6 hrb') hC7 hrb') hC8 hrb')
  clear hC6 hC7 hC8 hbw5 hbw hrb
  go_wp2_with fail
  refine (PVarnumTakes.varnum_Zigzag.calls (-3) 5 _ (by rw [zig_f _ (by decide) (by decide)]; rfl)).mono ?_
  rintro e w9 ⟨rfl, n9, rfl⟩
  go_wp2_with fail
  refine (PVarnumTakes.varnum_Zagzig.calls 5 (-3) _ (by rw [zag_f _ (by decide) (by decide)]; rfl)).mono ?_
  rintro e w10 ⟨rfl, n10, rfl⟩
  go_wp2_with fail
  have hk : KC ((w8.drewN n9).drewN n10 |>.alloc (.cells #[.int .u8 1, .int .u8 0] 5)) (some ⟨w8.heap.size, 0, none⟩) 2 [1, 0] := (aw_block ((w8.drewN n9).drewN n10) _ (0, 0) [1, 0] rfl (by unfold Bs; decide) (by decide)).kc
  refine (PVarnumTakes.varnum_Unfixed.calls 301 (some ⟨w8.heap.size, 0, none⟩) 2 [1, 0] 256 _ ?_ (by decide) (by rw [unf_f _ (by decide) (by unfold Bs; decide), aw_unf])).mono ?_
  · exact hk
  rintro e w11 ⟨rfl, n11, rfl⟩
  go_wp2
  go_ret
  have hf := hbw8.out
  exact ⟨rfl, (by repeat (first | exact Below.refl _ _ | assumption | apply balloc | apply bdN | apply bdrew | refine bthen ?_ (by assumption)))⟩
end Go.Proofs.Ytoinkagmhcojlaa
