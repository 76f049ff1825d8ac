/- The walk of the reference's Last. -/
import Derived.Test.YtoinkagmhcojlaaProg
import Derived.Test.YtoinkagmhcojlaaKinds
namespace Go.Proofs.Ytoinkagmhcojlaa
open Go.RowKit
set_option linter.unusedVariables false
set_option linter.unusedSimpArgs false
set_option maxHeartbeats 400000 in
theorem refLast_calls (l : List Bat) (key : ByteArray) (A : Option Addr) (c : Nat) (w : World) (ok : Nat → Prop) (h : batK.At w ok A c l) :
    Calls Try.prog 10 #[.slice A l.length c, .string key] w fun e w' =>
      e = .returned (.tuple #[.int .i64 (lastOf key l (0, false)).1, .bool (lastOf key l (0, false)).2]) ∧ Below w.heap.size w w' := by
  have hm : l.length ≤ 9223372036854775807 := by have := h.1; have := h.2.1; unfold maxLen at *; omega
  go_enter Try.func10, Try.ntmps10
  go_wp2
  go_loopw [6, 7, 8] (fun b s i wr => ∃ k : Nat, k ≤ l.length ∧ i = .int .i64 k ∧ b = .int .i64 (lastOf key (l.take k) (0, false)).1 ∧ s = .bool (lastOf key (l.take k) (0, false)).2 ∧ Below w.heap.size w wr) (fun _ _ i _ => l.length - (intOf i).toNat)
  case atStart => exact ⟨0, Nat.zero_le _, rfl, rfl, rfl, Below.refl _ _⟩
  case round =>
    obtain ⟨k, hk, rfl, rfl, rfl, hb⟩ := hrel
    by_cases hlt : k < l.length
    · obtain ⟨g, off, RA, rc, rfl, hg, hok, hr, q0, q1, q2, q3, q4, q5⟩ := bat_at (h.below hb) hlt
      obtain ⟨wo, rfl⟩ : ∃ wo : World, wo = wr := ⟨_, rfl⟩
      have hrm : l[k].records.length ≤ 9223372036854775807 := by have := hr.1; have := hr.2.1; unfold maxLen at *; omega
      go_wp2
      go_loopw [6, 7, 9] (fun b s i wr => ∃ j : Nat, j ≤ l[k].records.length ∧ i = .int .i64 j ∧ b = .int .i64 (lastIn key l[k] (l[k].records.take j) (lastOf key (l.take k) (0, false))).1 ∧ s = .bool (lastIn key l[k] (l[k].records.take j) (lastOf key (l.take k) (0, false))).2 ∧ Below wo.heap.size wo wr) (fun _ _ i _ => l[k].records.length - (intOf i).toNat)
      case atStart => exact ⟨0, Nat.zero_le _, rfl, rfl, rfl, Below.refl _ _⟩
      case round =>
        obtain ⟨j, hj, rfl, rfl, rfl, hb2⟩ := hrel
        have z5 : wr.cell? ⟨g, off + k * 6 + 5, none⟩ = _ := (hb2.cell (p := ⟨g, off + k * 6 + 5, none⟩) (cell_lt q5)).trans q5
        have z0 : wr.cell? ⟨g, off + k * 6, none⟩ = _ := (hb2.cell (p := ⟨g, off + k * 6, none⟩) (cell_lt q0)).trans q0
        clear q0 q1 q2 q3 q4 q5
        by_cases hjlt : j < l[k].records.length
        · obtain ⟨g2, off2, rfl, hg2, hok2, y0, y1, y2, y3, y4, y5⟩ := rec_at (hr.below hb2) hjlt
          have hgl := cell_lt z0
          have hgl2 := cell_lt y0
          go_wp2
          go_quiet (fail)
          have HS := hid (lastIn_snoc key l[k] l[k].records (lastOf key (l.take k) (0, false)) j hjlt)
          go_wp2
          all_goals
            go_roundw
            case rel =>
              refine ⟨j + 1, by omega, by go_num, ?_, ?_, ?_⟩; rotate_left 2; exact dN (hb2.alloc hb2.size _) _; all_goals (rw [HS.out]; simp only [lastStep, atOf, ← toList_iff]; first | (rw [if_pos]; all_goals (simp_all; done)) | (rw [if_neg]; all_goals (simp_all; done)))
            case measure => simp [intOf]; omega
        · go_wp2
          go_roundw
          case rel => exact ⟨k + 1, by omega, by go_num, by rw [lastOf_snoc _ _ _ _ hlt, show j = l[k].records.length by omega, List.take_length], by rw [lastOf_snoc _ _ _ _ hlt, show j = l[k].records.length by omega, List.take_length], hb.trans (hb2.mono hb.size)⟩
          case measure => simp [intOf]; omega
    · go_wp2
      go_ret2
      obtain rfl : k = l.length := by omega
      rw [List.take_length]
      exact ⟨rfl, hb⟩

end Go.Proofs.Ytoinkagmhcojlaa
