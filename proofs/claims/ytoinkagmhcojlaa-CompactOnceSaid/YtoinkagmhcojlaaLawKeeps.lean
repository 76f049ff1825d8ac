/- The law CompactKeeps: its walk. -/
import Derived.Test.YtoinkagmhcojlaaAwake
import Derived.Test.YtoinkagmhcojlaaLight
namespace Go.Proofs.Ytoinkagmhcojlaa
open Go.RowKit
set_option linter.unusedVariables false
set_option linter.unusedSimpArgs false
theorem few_of_light {l : List Bat} (h : LightL l) : Few l :=
  ⟨by have := h.1.1; omega, fun b hb => by obtain ⟨i, hi, rfl⟩ := List.getElem_of_mem hb; exact (h.1.2 i _ (List.getElem?_eq_getElem hi)).1⟩
theorem cell_new2 (w : World) (o : Obj) (c : Array Value) (t : TypeId) (j : Nat) : ((w.alloc o).alloc (.cells c t)).cell? ⟨w.heap.size + 1, j, none⟩ = c[j]? := by
  rw [show w.heap.size + 1 = (w.alloc o).heap.size by simp]
  exact World.cell?_alloc_new _ _ _ _
theorem asPair_snd (o : Option Int) : (asPair o).2 = o.isSome := by cases o <;> rfl

set_option maxRecDepth 10000 in
set_option maxHeartbeats 2000000 in
theorem lawKeeps_calls (l : List Bat) (A : Option Addr) (c : Nat) (a0 a1 t0 t1 : Int) (w : World) (ok : Nat → Prop) (h : batK.At w ok A c l) :
    Calls Try.prog 3 #[.slice A l.length c, .agg #[.int .i64 a0, .int .i64 a1], .agg #[.int .i64 t0, .int .i64 t1]] w fun e w' => e = .returned (.bool true) ∧ Below w.heap.size w w' := by
  have hh := hid h
  go_enter Try.func3, Try.ntmps3
  go_wp2_with (first | (go_at_call 7; refine (light_calls l _ c _ ok (hh.out.below (by repeat (first | exact Below.refl _ _ | assumption | apply balloc | apply bdN | apply bdrew | refine bthen ?_ (by assumption))))).mono ?_; rintro e w1 ⟨bb, rfl, hbb, hb1⟩; cases bb) | (go_at_call 8; refine (awake_calls _).mono ?_; rintro e w2 ⟨rfl, hb2⟩))
  · go_ret
    exact ⟨rfl, (by repeat (first | exact Below.refl _ _ | assumption | apply balloc | apply bdN | apply bdrew | refine bthen ?_ (by assumption)))⟩
  · have hfew := hid (few_of_light (hbb (by first | rfl | trivial)))
    have hm : l.length ≤ 16 := hfew.out.n
    have c40 : w1.cell? ⟨w.heap.size, 0, none⟩ = some (.int .i64 a0) := ck hb1 ((World.cell?_alloc_lt _ _ _ (by simp)).trans (World.cell?_alloc_new _ _ _ _))
    have c41 : w1.cell? ⟨w.heap.size, 1, none⟩ = some (.int .i64 a1) := ck hb1 ((World.cell?_alloc_lt _ _ _ (by simp)).trans (World.cell?_alloc_new _ _ _ _))
    have c50 : w1.cell? ⟨w.heap.size + 1, 0, none⟩ = some (.int .i64 t0) := ck hb1 (cell_new2 _ _ _ _ _)
    have c51 : w1.cell? ⟨w.heap.size + 1, 1, none⟩ = some (.int .i64 t1) := ck hb1 (cell_new2 _ _ _ _ _)
    have hB1 : Below w.heap.size w w1 := (by repeat (first | exact Below.refl _ _ | assumption | apply balloc | apply bdN | apply bdrew | refine bthen ?_ (by assumption)))
    clear hbb hb1 h
    refine (compLast_calls l _ c _ ok (hh.out.below hB1) hfew.out).mono ?_
    rintro e w2 ⟨gm, rfl, hge, hM, hb2⟩
    have d40 := ck hb2 c40
    have d41 := ck hb2 c41
    have d50 := ck hb2 c50
    have d51 := ck hb2 c51
    have hB2 : Below w.heap.size w w2 := bthen hB1 hb2
    have hgl := hM.lt
    clear hb2 c40 c41 c50 c51 hB1
    go_wp2_with fail
    go_loopw [8] (fun i wr => ∃ k : Nat, k ≤ l.length ∧ i = .int .i64 k ∧ Below w2.heap.size w2 wr) (fun i _ => l.length - (intOf i).toNat)
    case atStart => exact ⟨0, Nat.zero_le _, rfl, Below.refl _ _⟩
    case round =>
      obtain ⟨k, hk, rfl, hbw⟩ := hrel
      by_cases hlt : k < l.length
      · obtain ⟨g, off, RA, rc, rfl, hg, hok, hr, q0, q1, q2, q3, q4, q5⟩ := bat_in hh.out (bthen hB2 hbw) hlt
        obtain ⟨wo, rfl⟩ : ∃ wo : World, wo = wr := ⟨_, rfl⟩
        have hrm : l[k].records.length ≤ 40 := hfew.out.r _ (List.getElem_mem hlt)
        have hgo : g < wo.heap.size := cell_lt q0
        go_wp2
        go_loopw [9] (fun i wr => ∃ j : Nat, j ≤ l[k].records.length ∧ i = .int .i64 j ∧ Below wo.heap.size wo wr) (fun i _ => l[k].records.length - (intOf i).toNat)
        case atStart => exact ⟨0, Nat.zero_le _, rfl, Below.refl _ _⟩
        case round =>
          obtain ⟨j, hj, rfl, hb2⟩ := hrel
          have q5' := ck hb2 q5
          clear q0 q1 q2 q3 q4 q5
          by_cases hjlt : j < l[k].records.length
          · obtain ⟨g2, off2, rfl, hg2, hok2, y0, y1, y2, y3, y4, y5⟩ := rec_in hr (bthen (bthen hB2 hbw) hb2) hjlt
            obtain ⟨r, hr'⟩ : ∃ r, r = l[k].records[j] := ⟨_, rfl⟩
            rw [← hr'] at y0 y1 y2 y3 y4 y5
            clear hr' hok2
            have hlt5 := cell_lt q5'
            have hlt0 := cell_lt y0
            have hbj := bthen hbw hb2
            have hML := hM.below hbj
            have hf := hid (mapOf_last l r.key)
            have e0 := ck hbj d50
            have e1 := ck hbj d51
            have hlt50 := cell_lt e0
            have hB := hid (bthen hB2 hbj)
            have hHb := hid hb2
            clear hb2 hbj
            obtain ⟨n, hn⟩ : ∃ n, n = (get (mapOf l []) r.key).getD 0 := ⟨_, rfl⟩
            obtain ⟨s, hs⟩ : ∃ s, s = (get (mapOf l []) r.key).isSome := ⟨_, rfl⟩
            have HN := hid hn
            have HS := hid hs
            clear hn hs
            cases hkd : r.keyed
            all_goals
              rw [hkd] at y2
              go_wp2_with (first | (at_lookup; refine wpList_get_ok rfl _ _ 26 rfl 9 3 (KeyOk.str Try.underlying9) Try.underlying26 (.int .i64 0) (zero_int _) gm (mapOf l []) rfl (hML.alloc _) _ rfl ?_; rw [valOr_int, ← HN.out, ← HS.out]) | (go_at_call 10; refine (refLast_calls l _ _ c _ ok (hh.out.below (balloc hB.out))).mono ?_; rw [← hf.out, asPair_fst, asPair_snd, ← HN.out, ← HS.out]; rintro e w3 ⟨rfl, hb3⟩))
              have e0' := ck hb3 (ck (Below.alloc (Below.refl _ _) (Nat.le_refl _) _) e0)
              have e1' := ck hb3 (ck (Below.alloc (Below.refl _ _) (Nat.le_refl _) _) e1)
              have y2' : w3.cell? ⟨wr.heap.size, 2, none⟩ = some (.bool _) := (bnew hb3 2).trans rfl
              have hB3 : Below wr.heap.size wr w3 := bthen (balloc (Below.refl _ _)) hb3
              have hgs : wr.heap.size < w3.heap.size := cell_lt y2'
              have hg50 := cell_lt e0'
              clear hb3 y0 y1 y2 y3 y4 y5 q5' e0 e1
              (refine wp_region_ext_lit (by kernel_rfl) (by kernel_rfl) ?_; (repeat (go_big_quiet_step ((first | (go_at_call 11; exact ext_of (compKeeps_calls l _ c _ _ _ _ _ ok (hh.out.below (bthen (bthen hB.out hB3) (Ext.below _))) hfew.out)) | (go_at_call 12; exact ext_of (refKeeps_calls l _ c _ _ _ _ _ ok (hh.out.below (bthen (bthen hB.out hB3) (Ext.below _))))))))); refine wpQuiet_nil ?_; rintro _ ⟨⟨wx, hx⟩, rfl⟩)
              go_wp2
              go_roundw
              case rel => exact ⟨j + 1, by omega, by go_num, bthen (bthen hHb.out hB3) (by assumption)⟩
              case measure => simp [intOf]; omega
          · go_wp2
            go_roundw
            case rel => exact ⟨k + 1, by omega, by go_num, bthen hbw hb2⟩
            case measure => simp [intOf]; omega
      · have e40 := ck hbw d40
        have e41 := ck hbw d41
        have e50 := ck hbw d50
        have e51 := ck hbw d51
        have hg40 := cell_lt e40
        have hg50 := cell_lt e50
        go_wp2
        (refine wp_region_ext_lit (by kernel_rfl) (by kernel_rfl) ?_; (repeat (go_big_quiet_step ((first | (go_at_call 11; exact ext_of (compKeeps_calls l _ c _ _ _ _ _ ok (hh.out.below (bthen (bthen hB2 hbw) (Ext.below _))) hfew.out)) | (go_at_call 12; exact ext_of (refKeeps_calls l _ c _ _ _ _ _ ok (hh.out.below (bthen (bthen hB2 hbw) (Ext.below _))))) | (go_at_call 8; exact ext_of (awake_calls _)))))); refine wpQuiet_nil ?_; rintro _ ⟨⟨wx, hx⟩, rfl⟩)
        go_wp2
        go_ret
        exact ⟨by simp, bthen (bthen hB2 hbw) (by assumption)⟩
end Go.Proofs.Ytoinkagmhcojlaa
