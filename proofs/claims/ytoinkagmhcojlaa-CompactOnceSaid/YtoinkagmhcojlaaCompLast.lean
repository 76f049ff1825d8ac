/- The walk of compact's Last. -/
import Derived.Test.YtoinkagmhcojlaaProg
import Derived.Test.YtoinkagmhcojlaaKinds
import Derived.Maps.OwnOps
namespace Go.Proofs.Ytoinkagmhcojlaa
open Go.RowKit
set_option linter.unusedVariables false
set_option linter.unusedSimpArgs false
theorem zero_int (w : World) : (zeroValue 3).run Try.prog w = .ok (.int .i64 0) w := by kernel_rfl
set_option maxHeartbeats 400000 in
theorem compLast_calls (l : List Bat) (A : Option Addr) (c : Nat) (w : World) (ok : Nat → Prop) (h : batK.At w ok A c l) (hfew : Few l) :
    Calls Try.prog 9 #[.slice A l.length c] w fun e w' =>
      ∃ g, e = .returned (.map (some g)) ∧ w.heap.size ≤ g ∧ MapIs .string (.int .i64) w' g (mapOf l []) ∧ Below w.heap.size w w' := by
  have hm : l.length ≤ 16 := hfew.n
  have hmm := @run_makeMap Try.prog
  go_enter Try.func9, Try.ntmps9
  go_wp2
  go_loopw [14] (fun i wr => ∃ k : Nat, k ≤ l.length ∧ i = .int .i64 k ∧ MapIs .string (.int .i64) wr w.heap.size (mapOf (l.take k) []) ∧ Below w.heap.size w wr) (fun i _ => l.length - (intOf i).toNat)
  case atStart => exact ⟨0, Nat.zero_le _, rfl, MapIs.made _ _ _, (Below.refl _ _).alloc (Nat.le_refl _) _⟩
  case round =>
    obtain ⟨k, hk, rfl, hM, hb⟩ := hrel
    by_cases hlt : k < l.length
    · obtain ⟨g, off, RA, rc, rfl, hg, hok, hr, q0, q1, q2, q3, q4, q5⟩ := bat_in h hb hlt
      obtain ⟨wo, rfl⟩ : ∃ wo : World, wo = wr := ⟨_, rfl⟩
      have hrm : l[k].records.length ≤ 40 := hfew.r _ (List.getElem_mem hlt)
      have hL := mapOf_length (l.take k) [] (fun b hb => hfew.r b (List.mem_of_mem_take hb))
      have hgl := cell_lt q0
      go_wp2
      go_loopw [21] (fun i wr => ∃ j : Nat, j ≤ l[k].records.length ∧ i = .int .i64 j ∧ MapIs .string (.int .i64) wr w.heap.size (mapIn l[k] (l[k].records.take j) (mapOf (l.take k) [])) ∧ wr.cell? ⟨wo.heap.size, 0, none⟩ = some (.int .i64 l[k].base) ∧ Below w.heap.size w wr) (fun i _ => l[k].records.length - (intOf i).toNat)
      case atStart => exact ⟨0, Nat.zero_le _, rfl, hM.alloc _, World.cell?_alloc_new _ _ _ _, hb.alloc hb.size _⟩
      case round =>
        obtain ⟨j, hj, rfl, hM2, p0, hb2⟩ := hrel
        by_cases hjlt : j < l[k].records.length
        · obtain ⟨g2, off2, rfl, hg2, hok2, y0, y1, y2, y3, y4, y5⟩ := rec_in hr hb2 hjlt
          have hsz := hb2.size
          have hwo := hM.lt
          have hgl2 := cell_lt p0
          have hgl3 := cell_lt y0
          have hlen : (mapIn l[k] (l[k].records.take j) (mapOf (l.take k) [])).length < 1000 := by
            have h1 := mapIn_length l[k] (l[k].records.take j) (mapOf (l.take k) [])
            have h2 : (l[k].records.take j).length ≤ 40 := by rw [List.length_take]; omega
            have h3 : (l.take k).length ≤ 16 := by rw [List.length_take]; omega
            simp only [List.length_nil] at hL
            omega
          obtain ⟨L, hL2⟩ : ∃ L, L = mapIn l[k] (l[k].records.take j) (mapOf (l.take k) []) := ⟨_, rfl⟩
          have HS := hid (mapIn_snoc l[k] l[k].records (mapOf (l.take k) []) j hjlt)
          rw [← hL2] at hlen hM2 HS
          have HL := hid hL2
          clear hL2
          by_cases hkey : l[k].records[j].keyed = true
          · cases hget : get L l[k].records[j].key with
            | none =>
              go_wp2_with (first | (at_lookup; refine wpList_get_ok rfl _ _ 26 rfl 9 3 (KeyOk.str Try.underlying9) Try.underlying26 (.int .i64 0) (zero_int _) w.heap.size L rfl (hM2.alloc _) _ rfl ?_) | (at_mapUpdate; refine wpList_put rfl _ _ _ 26 rfl 9 3 (KeyOk.str Try.underlying9) Try.underlying26 w.heap.size L rfl (hM2.alloc _) (by unfold maxLen; omega) _ rfl _ rfl ?_; intro w1 hM3 hg3))
              go_roundw
              case rel =>
                refine ⟨j + 1, by omega, by go_num, ?_, ?_, ?_⟩
                · rw [HS.out]; simp only [mapStep, hkey, hget, if_true, if_false]; exact hM3
                · exact (World.cell?_of_block (w := wr.alloc _) (hg3.block _ (by simp; omega) (by simp; omega))).trans ((World.cell?_alloc_lt _ _ _ hgl2).trans p0)
                · exact (hb2.alloc hb2.size _).grown hg3 (by simp; omega) (fun k hk => by cases hk; exact Nat.le_refl _)
              case measure => simp [intOf]; omega
            | some old =>
              by_cases hold : old < wrap64 (l[k].base + l[k].records[j].delta)
              · go_wp2_with (first | (at_lookup; refine wpList_get_ok rfl _ _ 26 rfl 9 3 (KeyOk.str Try.underlying9) Try.underlying26 (.int .i64 0) (zero_int _) w.heap.size L rfl (hM2.alloc _) _ rfl ?_) | (at_mapUpdate; refine wpList_put rfl _ _ _ 26 rfl 9 3 (KeyOk.str Try.underlying9) Try.underlying26 w.heap.size L rfl (hM2.alloc _) (by unfold maxLen; omega) _ rfl _ rfl ?_; intro w1 hM3 hg3))
                go_roundw
                case rel =>
                  refine ⟨j + 1, by omega, by go_num, ?_, ?_, ?_⟩
                  · rw [HS.out]; simp only [mapStep, hkey, hget, atOf, hold, if_true, if_false]; exact hM3
                  · exact (World.cell?_of_block (w := wr.alloc _) (hg3.block _ (by simp; omega) (by simp; omega))).trans ((World.cell?_alloc_lt _ _ _ hgl2).trans p0)
                  · exact (hb2.alloc hb2.size _).grown hg3 (by simp; omega) (fun k hk => by cases hk; exact Nat.le_refl _)
                case measure => simp [intOf]; omega
              · go_wp2_with (first | (at_lookup; refine wpList_get_ok rfl _ _ 26 rfl 9 3 (KeyOk.str Try.underlying9) Try.underlying26 (.int .i64 0) (zero_int _) w.heap.size L rfl (hM2.alloc _) _ rfl ?_) | (at_mapUpdate; refine wpList_put rfl _ _ _ 26 rfl 9 3 (KeyOk.str Try.underlying9) Try.underlying26 w.heap.size L rfl (hM2.alloc _) (by unfold maxLen; omega) _ rfl _ rfl ?_; intro w1 hM3 hg3))
                go_roundw
                case rel =>
                  refine ⟨j + 1, by omega, by go_num, ?_, ?_, ?_⟩
                  · rw [HS.out]; simp only [mapStep, hkey, hget, atOf, hold, if_true, if_false, Bool.false_eq_true]; exact hM2.alloc _
                  · exact (World.cell?_alloc_lt _ _ _ hgl2).trans p0
                  · exact hb2.alloc hb2.size _
                case measure => simp [intOf]; omega
          · go_wp2
            go_roundw
            case rel =>
              refine ⟨j + 1, by omega, by go_num, ?_, ?_, ?_⟩
              · rw [HS.out]; simp only [mapStep, hkey, if_true, if_false, Bool.false_eq_true]; exact hM2.alloc _
              · exact (World.cell?_alloc_lt _ _ _ hgl2).trans p0
              · exact hb2.alloc hb2.size _
            case measure => simp [intOf]; omega
        · go_wp2
          go_roundw
          case rel =>
            refine ⟨k + 1, by omega, by go_num, ?_, hb2⟩
            rw [mapOf_snoc _ _ _ hlt]
            rw [show j = l[k].records.length by omega, List.take_length] at hM2
            exact hM2
          case measure => simp [intOf]; omega
    · go_wp2
      go_ret
      obtain rfl : k = l.length := by omega
      rw [List.take_length] at hM
      exact ⟨_, rfl, Nat.le_refl _, hM, hb⟩
end Go.Proofs.Ytoinkagmhcojlaa
