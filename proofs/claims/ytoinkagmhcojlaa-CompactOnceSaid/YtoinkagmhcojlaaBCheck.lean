/- batch.Check: what CompactOnce needs of it. -/
import Derived.Test.YtoinkagmhcojlaaBLay
namespace Go.Proofs.Ytoinkagmhcojlaa
open Go.RowKit
set_option linter.unusedVariables false
set_option linter.unusedSimpArgs false
def Rise (cnt : Int) (rs : List Rec) : Prop := ∀ (i : Nat) (r : Rec), rs[i]? = some r → r.delta < cnt ∧ ∀ (m : Nat) (s : Rec), m < i → rs[m]? = some s → s.delta < r.delta

set_option maxRecDepth 10000 in
set_option maxHeartbeats 2000000 in
theorem bCheck_calls (b0 b1 b2 b3 b4 : Int) (rs : List Rec) (A : Option Addr) (c : Nat) (w : World) (ok : Nat → Prop) (hr : recK.At w ok A c rs) (hn : rs.length ≤ 40) (hs : ∀ r ∈ rs, r.key.size ≤ 1000 ∧ r.value.size ≤ 1000) :
    Calls Try.prog 29 #[.agg #[.int .i64 b0, .int .i64 b1, .int .i64 b2, .int .i64 b3, .int .i64 b4, .slice A rs.length c]] w (Says (fun c => c = 0 → 1 ≤ b1 ∧ b1 ≤ 32 ∧ Rise b1 rs) w) := by
  have hrr := hid hr
  have hss := hid hs
  clear hr hs
  have f0 : (w.alloc (.cells #[.int .i64 b0, .int .i64 b1, .int .i64 b2, .int .i64 b3, .int .i64 b4, .slice A rs.length c] 30)).cell? ⟨w.heap.size, 0, none⟩ = some (.int .i64 b0) := World.cell?_alloc_new _ _ _ _
  have f1 : (w.alloc (.cells #[.int .i64 b0, .int .i64 b1, .int .i64 b2, .int .i64 b3, .int .i64 b4, .slice A rs.length c] 30)).cell? ⟨w.heap.size, 1, none⟩ = some (.int .i64 b1) := World.cell?_alloc_new _ _ _ _
  have f2 : (w.alloc (.cells #[.int .i64 b0, .int .i64 b1, .int .i64 b2, .int .i64 b3, .int .i64 b4, .slice A rs.length c] 30)).cell? ⟨w.heap.size, 2, none⟩ = some (.int .i64 b2) := World.cell?_alloc_new _ _ _ _
  have f3 : (w.alloc (.cells #[.int .i64 b0, .int .i64 b1, .int .i64 b2, .int .i64 b3, .int .i64 b4, .slice A rs.length c] 30)).cell? ⟨w.heap.size, 3, none⟩ = some (.int .i64 b3) := World.cell?_alloc_new _ _ _ _
  have f4 : (w.alloc (.cells #[.int .i64 b0, .int .i64 b1, .int .i64 b2, .int .i64 b3, .int .i64 b4, .slice A rs.length c] 30)).cell? ⟨w.heap.size, 4, none⟩ = some (.int .i64 b4) := World.cell?_alloc_new _ _ _ _
  have f5 : (w.alloc (.cells #[.int .i64 b0, .int .i64 b1, .int .i64 b2, .int .i64 b3, .int .i64 b4, .slice A rs.length c] 30)).cell? ⟨w.heap.size, 5, none⟩ = some (.slice A rs.length c) := World.cell?_alloc_new _ _ _ _
  have fb : Below w.heap.size w (w.alloc (.cells #[.int .i64 b0, .int .i64 b1, .int .i64 b2, .int .i64 b3, .int .i64 b4, .slice A rs.length c] 30)) := balloc (Below.refl _ _)
  go_enter Try.func29, Try.ntmps29
  go_wp2_with fail
  refine (numbers_calls b0 b1 b2 b3 b4 A rs.length c hn _).mono ?_
  rintro e w1 ⟨e1, rfl, hq, hb1⟩
  replace f0 := ck hb1 f0; replace f1 := ck hb1 f1; replace f2 := ck hb1 f2; replace f3 := ck hb1 f3; replace f4 := ck hb1 f4; replace f5 := ck hb1 f5; replace fb := bthen fb hb1
  have fl := cell_lt f0
  clear hb1
  by_cases he : e1 = 0
  · have hq' := hq he
    subst he
    clear hq
    go_wp2_with fail
    go_loopw [4, 16] (fun la i wr => ∃ (j : Nat) (x : Int), j ≤ rs.length ∧ i = .int .i64 j ∧ la = .int .i64 x ∧ Hid (∀ (i : Nat) (r : Rec), i < j → rs[i]? = some r → r.delta ≤ x ∧ r.delta < b1 ∧ ∀ (m : Nat) (s : Rec), m < i → rs[m]? = some s → s.delta < r.delta) ∧ (wr.cell? ⟨w.heap.size, 0, none⟩ = some (.int .i64 b0) ∧ wr.cell? ⟨w.heap.size, 1, none⟩ = some (.int .i64 b1) ∧ wr.cell? ⟨w.heap.size, 2, none⟩ = some (.int .i64 b2) ∧ wr.cell? ⟨w.heap.size, 3, none⟩ = some (.int .i64 b3) ∧ wr.cell? ⟨w.heap.size, 4, none⟩ = some (.int .i64 b4) ∧ wr.cell? ⟨w.heap.size, 5, none⟩ = some (.slice A rs.length c)) ∧ Below w.heap.size w wr) (fun _ i _ => rs.length - (intOf i).toNat)
    case atStart => exact ⟨0, -1, by omega, rfl, rfl, hid (fun i r h => by omega), ⟨f0, f1, f2, f3, f4, f5⟩, fb⟩
    case round =>
      obtain ⟨j, x, hj, rfl, rfl, HR, ⟨p0, p1, p2, p3, p4, p5⟩, hbw⟩ := hrel
      have hpl := cell_lt p0
      clear f0 f1 f2 f3 f4 f5
      by_cases hjl : j < rs.length
      · obtain ⟨g2, off2, rfl, hg2, hok2, y0, y1, y2, y3, y4, y5⟩ := rec_in hrr.out hbw hjl
        obtain ⟨hk1, hv1⟩ := hss.out _ (List.getElem_mem hjl)
        obtain ⟨r, hr'⟩ : ∃ r, r = rs[j] := ⟨_, rfl⟩
        rw [← hr'] at y0 y1 y2 y3 y4 y5 hk1 hv1
        have HRJ := hid hr'
        clear hr' hok2
        have hgl2 := cell_lt y0
        go_wp2_with fail
        refine (recCheck_calls r.delta r.time r.keyed r.key r.dead r.value hk1 hv1 _).mono ?_
        rintro e wp ⟨e2, rfl, -, hbp⟩
        have v0 : wp.cell? ⟨wr.heap.size, 0, none⟩ = some (.int .i64 r.delta) := (bnew hbp 0).trans rfl
        have hbp' := bthen (balloc (Below.refl _ _)) hbp
        replace p0 := ck hbp' p0; replace p1 := ck hbp' p1; replace p2 := ck hbp' p2; replace p3 := ck hbp' p3; replace p4 := ck hbp' p4; replace p5 := ck hbp' p5
        have hpl' := cell_lt p0
        have hvl := cell_lt v0
        have hbw' := bthen hbw hbp'
        clear hbp hbp' y0 y1 y2 y3 y4 y5
        by_cases he2 : e2 = 0
        · subst he2
          by_cases ha : r.delta ≤ x
          · go_wp2
            go_ret
            exact ⟨16, rfl, fun h => absurd h (by decide), hbw'⟩
          · by_cases hb : b1 ≤ r.delta
            · go_wp2
              go_ret
              exact ⟨16, rfl, fun h => absurd h (by decide), hbw'⟩
            · go_wp2
              go_roundw
              case rel =>
                refine ⟨j + 1, r.delta, by omega, by go_num, rfl, hid (fun i s hi hs => ?_), ⟨p0, p1, p2, p3, p4, p5⟩, hbw'⟩
                by_cases hij : i < j
                · have h := HR.out i s hij hs
                  exact ⟨by omega, h.2⟩
                · obtain rfl : i = j := by omega
                  rw [List.getElem?_eq_getElem hjl, ← HRJ.out] at hs
                  cases hs
                  exact ⟨Int.le_refl _, by omega, fun m s hm hs => by have := (HR.out m s hm hs).1; omega⟩
              case measure => simp [intOf]; omega
        · go_wp2
          go_ret
          exact ⟨e2, rfl, fun h => absurd h he2, hbw'⟩
      · go_wp2_with fail
        refine (blay_calls b0 b1 b2 b3 b4 rs A c _ ok (hrr.out.below hbw) hn hss.out).mono ?_
        rintro e wp ⟨vp, m, rfl, hBp, -, hm, hbp⟩
        obtain ⟨A2, c2, rfl⟩ := hBp.form
        clear hBp
        have hfin : Rise b1 rs := fun i r hi => by
          have hlt : i < j := by have := (List.getElem?_eq_some_iff.1 hi).1; omega
          exact (HR.out i r hlt hi).2
        have HF := hid hfin
        clear hfin
        have hbw' := bthen hbw hbp
        by_cases hm2 : 8192 < m
        · go_wp2
          go_ret
          exact ⟨5, rfl, fun h => absurd h (by decide), hbw'⟩
        · go_wp2
          go_ret
          exact ⟨0, rfl, fun _ => ⟨hq'.1, hq'.2, HF.out⟩, hbw'⟩
  · go_wp2
    go_ret
    exact ⟨e1, rfl, fun h => absurd h he, fb⟩
end Go.Proofs.Ytoinkagmhcojlaa
