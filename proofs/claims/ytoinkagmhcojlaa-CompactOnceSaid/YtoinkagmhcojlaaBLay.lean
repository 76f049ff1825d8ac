/- batch.lay: it ends, and makes some bytes. -/
import Derived.Test.YtoinkagmhcojlaaPut
namespace Go.Proofs.Ytoinkagmhcojlaa
open Go.RowKit
set_option linter.unusedVariables false
set_option linter.unusedSimpArgs false
theorem wpList_append_nil_byt {w : World} {ops : Array Oper} {rest : List Oper} {o : Oper} {a : Act} {Q : Exit → Act → World → Prop} (hgd : o.guard = none) (s x : Operand) (ho : o.op = .call { callee := .builtin .append, args := #[s, x], argTypes := #[40, 40] })
    (base : Nat) (v : Value) (n : Nat) (hs : a.eval s = v) (hown : Byt w base v n) (hx : a.eval x = .slice none 0 0) (h : wpList Try.prog ops Q rest (a.put o.dst v) w) : wpList Try.prog ops Q (o :: rest) a w := by
  obtain ⟨i, hi, hz, hs1, hs2⟩ := info_parts byt_info
  obtain ⟨cells, hrow, hone⟩ := hown
  exact wpList_append_own_none hgd s x 40 ho base 5 i 1 Try.underlying40 hi v n cells hs hrow hx h

theorem idx6_0 (x0 x1 x2 x3 x4 x5 : Int) (w : World) : (Instr.index 94 (.agg #[.int .i64 x0, .int .i64 x1, .int .i64 x2, .int .i64 x3, .int .i64 x4, .int .i64 x5]) (.int .i64 0)).run Try.prog w = .ok (.int .i64 x0) w := by
  simp only [Instr.index, asIntOf, Sem.run_bind, Sem.run_pure, Result.andThen_ok, run_underlying Try.underlying94]
  go_simp
theorem idx6_1 (x0 x1 x2 x3 x4 x5 : Int) (w : World) : (Instr.index 94 (.agg #[.int .i64 x0, .int .i64 x1, .int .i64 x2, .int .i64 x3, .int .i64 x4, .int .i64 x5]) (.int .i64 1)).run Try.prog w = .ok (.int .i64 x1) w := by
  simp only [Instr.index, asIntOf, Sem.run_bind, Sem.run_pure, Result.andThen_ok, run_underlying Try.underlying94]
  go_simp
theorem idx6_2 (x0 x1 x2 x3 x4 x5 : Int) (w : World) : (Instr.index 94 (.agg #[.int .i64 x0, .int .i64 x1, .int .i64 x2, .int .i64 x3, .int .i64 x4, .int .i64 x5]) (.int .i64 2)).run Try.prog w = .ok (.int .i64 x2) w := by
  simp only [Instr.index, asIntOf, Sem.run_bind, Sem.run_pure, Result.andThen_ok, run_underlying Try.underlying94]
  go_simp
theorem idx6_3 (x0 x1 x2 x3 x4 x5 : Int) (w : World) : (Instr.index 94 (.agg #[.int .i64 x0, .int .i64 x1, .int .i64 x2, .int .i64 x3, .int .i64 x4, .int .i64 x5]) (.int .i64 3)).run Try.prog w = .ok (.int .i64 x3) w := by
  simp only [Instr.index, asIntOf, Sem.run_bind, Sem.run_pure, Result.andThen_ok, run_underlying Try.underlying94]
  go_simp
theorem idx6_4 (x0 x1 x2 x3 x4 x5 : Int) (w : World) : (Instr.index 94 (.agg #[.int .i64 x0, .int .i64 x1, .int .i64 x2, .int .i64 x3, .int .i64 x4, .int .i64 x5]) (.int .i64 4)).run Try.prog w = .ok (.int .i64 x4) w := by
  simp only [Instr.index, asIntOf, Sem.run_bind, Sem.run_pure, Result.andThen_ok, run_underlying Try.underlying94]
  go_simp
theorem idx6_5 (x0 x1 x2 x3 x4 x5 : Int) (w : World) : (Instr.index 94 (.agg #[.int .i64 x0, .int .i64 x1, .int .i64 x2, .int .i64 x3, .int .i64 x4, .int .i64 x5]) (.int .i64 5)).run Try.prog w = .ok (.int .i64 x5) w := by
  simp only [Instr.index, asIntOf, Sem.run_bind, Sem.run_pure, Result.andThen_ok, run_underlying Try.underlying94]
  go_simp

set_option maxRecDepth 10000 in
set_option maxHeartbeats 2000000 in
theorem blay_calls (b0 b1 b2 b3 b4 : Int) (rs : List Rec) (A : Option Addr) (c : Nat) (w : World) (ok : Nat → Prop) (hr : recK.At w ok A c rs) (hn : rs.length ≤ 40) (hs : ∀ r ∈ rs, r.key.size ≤ 1000 ∧ r.value.size ≤ 1000) :
    Calls Try.prog 54 #[.agg #[.int .i64 b0, .int .i64 b1, .int .i64 b2, .int .i64 b3, .int .i64 b4, .slice A rs.length c]] w (Makes w 0 200000) := by
  have hrr := hid hr
  have hss := hid hs
  clear hr hs
  go_enter Try.func54, Try.ntmps54
  go_wp2_with fail
  have f5 : (w.alloc (.cells #[.int .i64 b0, .int .i64 b1, .int .i64 b2, .int .i64 b3, .int .i64 b4, .slice A rs.length c] 30)).cell? ⟨w.heap.size, 5, none⟩ = some (.slice A rs.length c) := World.cell?_alloc_new _ _ _ _
  have fb : Below w.heap.size w (w.alloc (.cells #[.int .i64 b0, .int .i64 b1, .int .i64 b2, .int .i64 b3, .int .i64 b4, .slice A rs.length c] 30)) := balloc (Below.refl _ _)
  refine (head_calls b0 b1 b2 b3 b4 A rs.length c _).mono ?_
  rintro e w1 ⟨rfl, hb1⟩
  replace f5 := ck hb1 f5
  replace fb := bthen fb hb1
  have fl := cell_lt f5
  clear hb1
  go_wp2_with fail
  go_loopw [3, 12] (fun v i wr => ∃ k n : Nat, k ≤ 6 ∧ i = .int .i64 k ∧ Hid (Byt wr (w.heap.size + 1) v n) ∧ n ≤ 10 * k ∧ wr.cell? ⟨w.heap.size, 5, none⟩ = some (.slice A rs.length c) ∧ Below w.heap.size w wr) (fun _ i _ => 6 - (intOf i).toNat)
  case atStart => exact ⟨0, 0, by omega, rfl, hid (Byt.nil _ _), by omega, f5, fb⟩
  case round =>
    obtain ⟨k, n, hk, rfl, hB, hnk, p5, hbw⟩ := hrel
    have hpl := cell_lt p5
    clear f5
    by_cases hk6 : k < 6
    · have i0 := idx6_0 b0 b1 b2 b3 b4 (rs.length : Int)
      have i1 := idx6_1 b0 b1 b2 b3 b4 (rs.length : Int)
      have i2 := idx6_2 b0 b1 b2 b3 b4 (rs.length : Int)
      have i3 := idx6_3 b0 b1 b2 b3 b4 (rs.length : Int)
      have i4 := idx6_4 b0 b1 b2 b3 b4 (rs.length : Int)
      have i5 := idx6_5 b0 b1 b2 b3 b4 (rs.length : Int)
      rcases (show k = 0 ∨ k = 1 ∨ k = 2 ∨ k = 3 ∨ k = 4 ∨ k = 5 by omega) with rfl | rfl | rfl | rfl | rfl | rfl
      all_goals
        go_wp2_with fail
        refine (put_calls _ _).mono ?_
        rintro e wp ⟨vp, m, rfl, hBp, hm1, hm2, hbp⟩
        obtain ⟨g, cap, cs, rfl, hcl, hone, hcell⟩ := hBp.get (by omega)
        have HC := hid (And.intro hone hcell)
        have HB := hid (hB.out.below hbp)
        have p5' := ck hbp p5
        have hpl' := cell_lt p5'
        have hbase : w.heap.size + 1 ≤ wp.heap.size := by omega
        have hbw' := bthen hbw hbp
        clear hone hcell hBp p5 hB
        go_wp2_with (at_builtin; go_must (refine wpList_append_byt rfl _ _ rfl (w.heap.size + 1) _ n rfl HB.out ⟨g, 0, none⟩ m cap cs rfl hcl HC.out.1 HC.out.2 (by omega) hbase ?_); intro v1 q1 hB1 hg1)
        go_roundw
        case rel => first | exact ⟨1, n + m, by omega, by go_num, hid hB1, by omega, (cell_same (hg1.block w.heap.size hpl' (HB.out.far (by omega)))).trans p5', bgrown hbw' hg1 (fun x hx => by have := (HB.out.lt hx).2; omega)⟩ | exact ⟨2, n + m, by omega, by go_num, hid hB1, by omega, (cell_same (hg1.block w.heap.size hpl' (HB.out.far (by omega)))).trans p5', bgrown hbw' hg1 (fun x hx => by have := (HB.out.lt hx).2; omega)⟩ | exact ⟨3, n + m, by omega, by go_num, hid hB1, by omega, (cell_same (hg1.block w.heap.size hpl' (HB.out.far (by omega)))).trans p5', bgrown hbw' hg1 (fun x hx => by have := (HB.out.lt hx).2; omega)⟩ | exact ⟨4, n + m, by omega, by go_num, hid hB1, by omega, (cell_same (hg1.block w.heap.size hpl' (HB.out.far (by omega)))).trans p5', bgrown hbw' hg1 (fun x hx => by have := (HB.out.lt hx).2; omega)⟩ | exact ⟨5, n + m, by omega, by go_num, hid hB1, by omega, (cell_same (hg1.block w.heap.size hpl' (HB.out.far (by omega)))).trans p5', bgrown hbw' hg1 (fun x hx => by have := (HB.out.lt hx).2; omega)⟩ | exact ⟨6, n + m, by omega, by go_num, hid hB1, by omega, (cell_same (hg1.block w.heap.size hpl' (HB.out.far (by omega)))).trans p5', bgrown hbw' hg1 (fun x hx => by have := (HB.out.lt hx).2; omega)⟩
        case measure => simp [intOf]
    · go_wp2
      obtain ⟨wo, rfl⟩ : ∃ wo : World, wo = wr := ⟨_, rfl⟩
      go_loopw [3, 23] (fun v i wr => ∃ j n : Nat, j ≤ rs.length ∧ i = .int .i64 j ∧ Hid (Byt wr (w.heap.size + 1) v n) ∧ n ≤ 60 + 3000 * j ∧ wr.cell? ⟨w.heap.size, 5, none⟩ = some (.slice A rs.length c) ∧ Below w.heap.size w wr) (fun _ i _ => rs.length - (intOf i).toNat)
      case atStart => exact ⟨0, n, by omega, rfl, hB, by omega, p5, hbw⟩
      case round =>
        obtain ⟨j, n2, hj, rfl, hB2, hnj, p5, hbw2⟩ := hrel
        by_cases hjl : j < rs.length
        · obtain ⟨g2, off2, rfl, hg2, hok2, y0, y1, y2, y3, y4, y5⟩ := rec_in hrr.out hbw2 hjl
          obtain ⟨hk1, hv1⟩ := hss.out _ (List.getElem_mem hjl)
          obtain ⟨r, hr'⟩ : ∃ r, r = rs[j] := ⟨_, rfl⟩
          rw [← hr'] at y0 y1 y2 y3 y4 y5 hk1 hv1
          clear hr' hok2
          have hgl2 := cell_lt y0
          have hpl2 := cell_lt p5
          go_wp2_with fail
          refine (recPut_calls r.delta r.time r.keyed r.key r.dead r.value hk1 hv1 _).mono ?_
          rintro e wp ⟨vp, m, cc, rfl, hBp, hm3, hmz, hbp⟩
          have hbp' := bthen (balloc (Below.refl _ _)) hbp
          have HB := hid (hB2.out.below hbp')
          have p5' := ck hbp' p5
          have hpl' := cell_lt p5'
          have hbase : w.heap.size + 1 ≤ wp.heap.size := by omega
          have hbw' := bthen hbw2 hbp'
          clear p5 hB2 hbp y0 y1 y2 y3 y4 y5
          by_cases hm0 : m = 0
          · have := hmz hm0
            subst this
            go_wp2_with (at_builtin; go_must (refine wpList_append_nil_byt rfl _ _ rfl (w.heap.size + 1) _ n2 rfl HB.out rfl ?_))
            go_roundw
            case rel => exact ⟨j + 1, n2, by omega, by go_num, HB, by omega, p5', hbw'⟩
            case measure => simp [intOf]; omega
          · obtain ⟨g, cap, cs, rfl, hcl, hone, hcell⟩ := hBp.get (by omega)
            have HC := hid (And.intro hone hcell)
            clear hone hcell hBp hmz
            go_wp2_with (at_builtin; go_must (refine wpList_append_byt rfl _ _ rfl (w.heap.size + 1) _ n2 rfl HB.out ⟨g, 0, none⟩ m cap cs rfl hcl HC.out.1 HC.out.2 (by omega) hbase ?_); intro v1 q1 hB1 hg1)
            go_roundw
            case rel => exact ⟨j + 1, n2 + m, by omega, by go_num, hid hB1, by omega, (cell_same (hg1.block w.heap.size hpl' (HB.out.far (by omega)))).trans p5', bgrown hbw' hg1 (fun x hx => by have := (HB.out.lt hx).2; omega)⟩
            case measure => simp [intOf]; omega
        · go_wp2
          go_ret
          exact ⟨_, n2, rfl, hB2.out.base_le (by omega), by omega, by omega, hbw2⟩
end Go.Proofs.Ytoinkagmhcojlaa
