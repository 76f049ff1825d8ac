/- record.Put, batch.head, batch.lay: they end, and make some bytes. -/
import Derived.Test.YtoinkagmhcojlaaCheck
namespace Go.Proofs.Ytoinkagmhcojlaa
open Go.RowKit
set_option linter.unusedVariables false
set_option linter.unusedSimpArgs false
theorem Byt.fresh (w : World) (base : Nat) (x : Int) (hb : base ≤ w.heap.size) : Byt (w.alloc (.cells #[.int .u8 x] 5)) base (.slice (some ⟨w.heap.size, 0, none⟩) 1 1) 1 :=
  ⟨[.int .u8 x], ⟨rfl, .inr ⟨w.heap.size, 1, #[.int .u8 x], rfl, hb, heap_alloc_new _ _, Nat.le_refl _, by unfold maxLen; omega, rfl, rfl⟩⟩, one_int _ _⟩

theorem Byt.far {w : World} {base n k : Nat} {v : Value} (h : Byt w base v n) (hk : k < base) : some k ≠ v.ownBlock := fun e => by have := (h.lt e.symm).2; omega
set_option maxHeartbeats 1000000 in
theorem recPut_calls (d t : Int) (ky : Bool) (key : ByteArray) (dd : Bool) (v : ByteArray) (hk : key.size ≤ 1000) (hv : v.size ≤ 1000) (w : World) :
    Calls Try.prog 65 #[.agg #[.int .i64 d, .int .i64 t, .bool ky, .string key, .bool dd, .string v]] w fun e w' =>
      ∃ b n c, e = .returned (.tuple #[b, .int .i64 c]) ∧ Byt w' w.heap.size b n ∧ n ≤ 3000 ∧ (n = 0 → b = .slice none 0 0) ∧ Below w.heap.size w w' := by
  have f0 : (w.alloc (.cells #[.int .i64 d, .int .i64 t, .bool ky, .string key, .bool dd, .string v] 32)).cell? ⟨w.heap.size, 0, none⟩ = some (.int .i64 d) := World.cell?_alloc_new _ _ _ _
  have f1 : (w.alloc (.cells #[.int .i64 d, .int .i64 t, .bool ky, .string key, .bool dd, .string v] 32)).cell? ⟨w.heap.size, 1, none⟩ = some (.int .i64 t) := World.cell?_alloc_new _ _ _ _
  have f2 : (w.alloc (.cells #[.int .i64 d, .int .i64 t, .bool ky, .string key, .bool dd, .string v] 32)).cell? ⟨w.heap.size, 2, none⟩ = some (.bool ky) := World.cell?_alloc_new _ _ _ _
  have f3 : (w.alloc (.cells #[.int .i64 d, .int .i64 t, .bool ky, .string key, .bool dd, .string v] 32)).cell? ⟨w.heap.size, 3, none⟩ = some (.string key) := World.cell?_alloc_new _ _ _ _
  have f4 : (w.alloc (.cells #[.int .i64 d, .int .i64 t, .bool ky, .string key, .bool dd, .string v] 32)).cell? ⟨w.heap.size, 4, none⟩ = some (.bool dd) := World.cell?_alloc_new _ _ _ _
  have f5 : (w.alloc (.cells #[.int .i64 d, .int .i64 t, .bool ky, .string key, .bool dd, .string v] 32)).cell? ⟨w.heap.size, 5, none⟩ = some (.string v) := World.cell?_alloc_new _ _ _ _
  have fb : Below w.heap.size w (w.alloc (.cells #[.int .i64 d, .int .i64 t, .bool ky, .string key, .bool dd, .string v] 32)) := balloc (Below.refl _ _)
  go_enter Try.func65, Try.ntmps65
  go_wp2_with fail
  refine (recCheck_calls d t ky key dd v hk hv _).mono ?_
  rintro e w1 ⟨c, rfl, -, hb1⟩
  replace f0 := ck hb1 f0; replace f1 := ck hb1 f1; replace f2 := ck hb1 f2; replace f3 := ck hb1 f3; replace f4 := ck hb1 f4; replace f5 := ck hb1 f5; replace fb := bthen fb hb1
  have fl := cell_lt f0
  clear hb1
  by_cases hc : c = 0
  · subst hc
    have flz : w.heap.size < w1.heap.size := fl
    cases ky
    · cases dd
      · go_wp2_with fail
        refine (put_calls d _).mono ?_
        rintro e p1 ⟨vp1, m1, rfl, hBp1, hm1a, hm1b, hbp1⟩
        have HB0 := hid ((Byt.fresh w1 w1.heap.size _ (Nat.le_refl _)).below hbp1)
        have hb0x := bthen (balloc (Below.refl _ _)) hbp1
        replace fb := bthen fb hb0x; replace f0 := ck hb0x f0; replace f1 := ck hb0x f1; replace f2 := ck hb0x f2; replace f3 := ck hb0x f3; replace f4 := ck hb0x f4; replace f5 := ck hb0x f5
        have hbase1 : w1.heap.size ≤ p1.heap.size := hb0x.size
        obtain ⟨g1, cap1, cs1, rfl, hcl1, hone1, hcell1⟩ := hBp1.get (by omega)
        have HC1 := hid (And.intro hone1 hcell1)
        clear hone1 hcell1 hBp1
        have fl1 := cell_lt f0
        go_wp2_with (at_builtin; go_must (refine wpList_append_byt rfl _ _ rfl w1.heap.size _ (1) rfl HB0.out ⟨g1, 0, none⟩ m1 cap1 cs1 rfl hcl1 HC1.out.1 HC1.out.2 (by omega) hbase1 ?_); intro v1 q1 hB1 hg1; have hne1 := HB0.out.far (k := w.heap.size) (by omega); have hfr1 := fun o => cell_same (o := o) (hg1.block w.heap.size fl1 hne1); replace f0 := (hfr1 0).trans f0; replace f1 := (hfr1 1).trans f1; replace f2 := (hfr1 2).trans f2; replace f3 := (hfr1 3).trans f3; replace f4 := (hfr1 4).trans f4; replace f5 := (hfr1 5).trans f5; replace fb := bgrown fb hg1 (fun x hx => by have := (HB0.out.lt hx).2; omega); have hbaseb1 := Nat.le_trans hbase1 hg1.size; have fl1q := cell_lt f0; clear hfr1 hne1)
        refine (put_calls t _).mono ?_
        rintro e p2 ⟨vp2, m2, rfl, hBp2, hm2a, hm2b, hbp2⟩
        have HB1 := hid (hB1.below hbp2)
        replace fb := bthen fb hbp2; replace f0 := ck hbp2 f0; replace f1 := ck hbp2 f1; replace f2 := ck hbp2 f2; replace f3 := ck hbp2 f3; replace f4 := ck hbp2 f4; replace f5 := ck hbp2 f5
        have hbase2 : w1.heap.size ≤ p2.heap.size := Nat.le_trans hbaseb1 hbp2.size
        obtain ⟨g2, cap2, cs2, rfl, hcl2, hone2, hcell2⟩ := hBp2.get (by omega)
        have HC2 := hid (And.intro hone2 hcell2)
        clear hone2 hcell2 hBp2
        have fl2 := cell_lt f0
        go_wp2_with (at_builtin; go_must (refine wpList_append_byt rfl _ _ rfl w1.heap.size _ (1 + m1) rfl HB1.out ⟨g2, 0, none⟩ m2 cap2 cs2 rfl hcl2 HC2.out.1 HC2.out.2 (by omega) hbase2 ?_); intro v2 q2 hB2 hg2; have hne2 := HB1.out.far (k := w.heap.size) (by omega); have hfr2 := fun o => cell_same (o := o) (hg2.block w.heap.size fl2 hne2); replace f0 := (hfr2 0).trans f0; replace f1 := (hfr2 1).trans f1; replace f2 := (hfr2 2).trans f2; replace f3 := (hfr2 3).trans f3; replace f4 := (hfr2 4).trans f4; replace f5 := (hfr2 5).trans f5; replace fb := bgrown fb hg2 (fun x hx => by have := (HB1.out.lt hx).2; omega); have hbaseb2 := Nat.le_trans hbase2 hg2.size; have fl2q := cell_lt f0; clear hfr2 hne2)
        refine (text_calls v (by omega) _).mono ?_
        rintro e p3 ⟨vp3, m3, rfl, hBp3, hm3a, hm3b, hbp3⟩
        have HB2 := hid (hB2.below hbp3)
        replace fb := bthen fb hbp3; replace f0 := ck hbp3 f0; replace f1 := ck hbp3 f1; replace f2 := ck hbp3 f2; replace f3 := ck hbp3 f3; replace f4 := ck hbp3 f4; replace f5 := ck hbp3 f5
        have hbase3 : w1.heap.size ≤ p3.heap.size := Nat.le_trans hbaseb2 hbp3.size
        obtain ⟨g3, cap3, cs3, rfl, hcl3, hone3, hcell3⟩ := hBp3.get (by omega)
        have HC3 := hid (And.intro hone3 hcell3)
        clear hone3 hcell3 hBp3
        have fl3 := cell_lt f0
        go_wp2_with (at_builtin; go_must (refine wpList_append_byt rfl _ _ rfl w1.heap.size _ (1 + m1 + m2) rfl HB2.out ⟨g3, 0, none⟩ m3 cap3 cs3 rfl hcl3 HC3.out.1 HC3.out.2 (by omega) hbase3 ?_); intro v3 q3 hB3 hg3; have hne3 := HB2.out.far (k := w.heap.size) (by omega); have hfr3 := fun o => cell_same (o := o) (hg3.block w.heap.size fl3 hne3); replace f0 := (hfr3 0).trans f0; replace f1 := (hfr3 1).trans f1; replace f2 := (hfr3 2).trans f2; replace f3 := (hfr3 3).trans f3; replace f4 := (hfr3 4).trans f4; replace f5 := (hfr3 5).trans f5; replace fb := bgrown fb hg3 (fun x hx => by have := (HB2.out.lt hx).2; omega); have hbaseb3 := Nat.le_trans hbase3 hg3.size; have fl3q := cell_lt f0; clear hfr3 hne3)
        go_ret2
        exact ⟨_, 1 + m1 + m2 + m3, 0, rfl, hB3.base_le (by omega), by omega, by omega, fb⟩
      · go_wp2_with fail
        refine (put_calls d _).mono ?_
        rintro e p1 ⟨vp1, m1, rfl, hBp1, hm1a, hm1b, hbp1⟩
        have HB0 := hid ((Byt.fresh w1 w1.heap.size _ (Nat.le_refl _)).below hbp1)
        have hb0x := bthen (balloc (Below.refl _ _)) hbp1
        replace fb := bthen fb hb0x; replace f0 := ck hb0x f0; replace f1 := ck hb0x f1; replace f2 := ck hb0x f2; replace f3 := ck hb0x f3; replace f4 := ck hb0x f4; replace f5 := ck hb0x f5
        have hbase1 : w1.heap.size ≤ p1.heap.size := hb0x.size
        obtain ⟨g1, cap1, cs1, rfl, hcl1, hone1, hcell1⟩ := hBp1.get (by omega)
        have HC1 := hid (And.intro hone1 hcell1)
        clear hone1 hcell1 hBp1
        have fl1 := cell_lt f0
        go_wp2_with (at_builtin; go_must (refine wpList_append_byt rfl _ _ rfl w1.heap.size _ (1) rfl HB0.out ⟨g1, 0, none⟩ m1 cap1 cs1 rfl hcl1 HC1.out.1 HC1.out.2 (by omega) hbase1 ?_); intro v1 q1 hB1 hg1; have hne1 := HB0.out.far (k := w.heap.size) (by omega); have hfr1 := fun o => cell_same (o := o) (hg1.block w.heap.size fl1 hne1); replace f0 := (hfr1 0).trans f0; replace f1 := (hfr1 1).trans f1; replace f2 := (hfr1 2).trans f2; replace f3 := (hfr1 3).trans f3; replace f4 := (hfr1 4).trans f4; replace f5 := (hfr1 5).trans f5; replace fb := bgrown fb hg1 (fun x hx => by have := (HB0.out.lt hx).2; omega); have hbaseb1 := Nat.le_trans hbase1 hg1.size; have fl1q := cell_lt f0; clear hfr1 hne1)
        refine (put_calls t _).mono ?_
        rintro e p2 ⟨vp2, m2, rfl, hBp2, hm2a, hm2b, hbp2⟩
        have HB1 := hid (hB1.below hbp2)
        replace fb := bthen fb hbp2; replace f0 := ck hbp2 f0; replace f1 := ck hbp2 f1; replace f2 := ck hbp2 f2; replace f3 := ck hbp2 f3; replace f4 := ck hbp2 f4; replace f5 := ck hbp2 f5
        have hbase2 : w1.heap.size ≤ p2.heap.size := Nat.le_trans hbaseb1 hbp2.size
        obtain ⟨g2, cap2, cs2, rfl, hcl2, hone2, hcell2⟩ := hBp2.get (by omega)
        have HC2 := hid (And.intro hone2 hcell2)
        clear hone2 hcell2 hBp2
        have fl2 := cell_lt f0
        go_wp2_with (at_builtin; go_must (refine wpList_append_byt rfl _ _ rfl w1.heap.size _ (1 + m1) rfl HB1.out ⟨g2, 0, none⟩ m2 cap2 cs2 rfl hcl2 HC2.out.1 HC2.out.2 (by omega) hbase2 ?_); intro v2 q2 hB2 hg2; have hne2 := HB1.out.far (k := w.heap.size) (by omega); have hfr2 := fun o => cell_same (o := o) (hg2.block w.heap.size fl2 hne2); replace f0 := (hfr2 0).trans f0; replace f1 := (hfr2 1).trans f1; replace f2 := (hfr2 2).trans f2; replace f3 := (hfr2 3).trans f3; replace f4 := (hfr2 4).trans f4; replace f5 := (hfr2 5).trans f5; replace fb := bgrown fb hg2 (fun x hx => by have := (HB1.out.lt hx).2; omega); have hbaseb2 := Nat.le_trans hbase2 hg2.size; have fl2q := cell_lt f0; clear hfr2 hne2)
        go_ret2
        exact ⟨_, 1 + m1 + m2, 0, rfl, hB2.base_le (by omega), by omega, by omega, fb⟩
    · cases dd
      · go_wp2_with fail
        refine (put_calls d _).mono ?_
        rintro e p1 ⟨vp1, m1, rfl, hBp1, hm1a, hm1b, hbp1⟩
        have HB0 := hid ((Byt.fresh w1 w1.heap.size _ (Nat.le_refl _)).below hbp1)
        have hb0x := bthen (balloc (Below.refl _ _)) hbp1
        replace fb := bthen fb hb0x; replace f0 := ck hb0x f0; replace f1 := ck hb0x f1; replace f2 := ck hb0x f2; replace f3 := ck hb0x f3; replace f4 := ck hb0x f4; replace f5 := ck hb0x f5
        have hbase1 : w1.heap.size ≤ p1.heap.size := hb0x.size
        obtain ⟨g1, cap1, cs1, rfl, hcl1, hone1, hcell1⟩ := hBp1.get (by omega)
        have HC1 := hid (And.intro hone1 hcell1)
        clear hone1 hcell1 hBp1
        have fl1 := cell_lt f0
        go_wp2_with (at_builtin; go_must (refine wpList_append_byt rfl _ _ rfl w1.heap.size _ (1) rfl HB0.out ⟨g1, 0, none⟩ m1 cap1 cs1 rfl hcl1 HC1.out.1 HC1.out.2 (by omega) hbase1 ?_); intro v1 q1 hB1 hg1; have hne1 := HB0.out.far (k := w.heap.size) (by omega); have hfr1 := fun o => cell_same (o := o) (hg1.block w.heap.size fl1 hne1); replace f0 := (hfr1 0).trans f0; replace f1 := (hfr1 1).trans f1; replace f2 := (hfr1 2).trans f2; replace f3 := (hfr1 3).trans f3; replace f4 := (hfr1 4).trans f4; replace f5 := (hfr1 5).trans f5; replace fb := bgrown fb hg1 (fun x hx => by have := (HB0.out.lt hx).2; omega); have hbaseb1 := Nat.le_trans hbase1 hg1.size; have fl1q := cell_lt f0; clear hfr1 hne1)
        refine (put_calls t _).mono ?_
        rintro e p2 ⟨vp2, m2, rfl, hBp2, hm2a, hm2b, hbp2⟩
        have HB1 := hid (hB1.below hbp2)
        replace fb := bthen fb hbp2; replace f0 := ck hbp2 f0; replace f1 := ck hbp2 f1; replace f2 := ck hbp2 f2; replace f3 := ck hbp2 f3; replace f4 := ck hbp2 f4; replace f5 := ck hbp2 f5
        have hbase2 : w1.heap.size ≤ p2.heap.size := Nat.le_trans hbaseb1 hbp2.size
        obtain ⟨g2, cap2, cs2, rfl, hcl2, hone2, hcell2⟩ := hBp2.get (by omega)
        have HC2 := hid (And.intro hone2 hcell2)
        clear hone2 hcell2 hBp2
        have fl2 := cell_lt f0
        go_wp2_with (at_builtin; go_must (refine wpList_append_byt rfl _ _ rfl w1.heap.size _ (1 + m1) rfl HB1.out ⟨g2, 0, none⟩ m2 cap2 cs2 rfl hcl2 HC2.out.1 HC2.out.2 (by omega) hbase2 ?_); intro v2 q2 hB2 hg2; have hne2 := HB1.out.far (k := w.heap.size) (by omega); have hfr2 := fun o => cell_same (o := o) (hg2.block w.heap.size fl2 hne2); replace f0 := (hfr2 0).trans f0; replace f1 := (hfr2 1).trans f1; replace f2 := (hfr2 2).trans f2; replace f3 := (hfr2 3).trans f3; replace f4 := (hfr2 4).trans f4; replace f5 := (hfr2 5).trans f5; replace fb := bgrown fb hg2 (fun x hx => by have := (HB1.out.lt hx).2; omega); have hbaseb2 := Nat.le_trans hbase2 hg2.size; have fl2q := cell_lt f0; clear hfr2 hne2)
        refine (text_calls key (by omega) _).mono ?_
        rintro e p3 ⟨vp3, m3, rfl, hBp3, hm3a, hm3b, hbp3⟩
        have HB2 := hid (hB2.below hbp3)
        replace fb := bthen fb hbp3; replace f0 := ck hbp3 f0; replace f1 := ck hbp3 f1; replace f2 := ck hbp3 f2; replace f3 := ck hbp3 f3; replace f4 := ck hbp3 f4; replace f5 := ck hbp3 f5
        have hbase3 : w1.heap.size ≤ p3.heap.size := Nat.le_trans hbaseb2 hbp3.size
        obtain ⟨g3, cap3, cs3, rfl, hcl3, hone3, hcell3⟩ := hBp3.get (by omega)
        have HC3 := hid (And.intro hone3 hcell3)
        clear hone3 hcell3 hBp3
        have fl3 := cell_lt f0
        go_wp2_with (at_builtin; go_must (refine wpList_append_byt rfl _ _ rfl w1.heap.size _ (1 + m1 + m2) rfl HB2.out ⟨g3, 0, none⟩ m3 cap3 cs3 rfl hcl3 HC3.out.1 HC3.out.2 (by omega) hbase3 ?_); intro v3 q3 hB3 hg3; have hne3 := HB2.out.far (k := w.heap.size) (by omega); have hfr3 := fun o => cell_same (o := o) (hg3.block w.heap.size fl3 hne3); replace f0 := (hfr3 0).trans f0; replace f1 := (hfr3 1).trans f1; replace f2 := (hfr3 2).trans f2; replace f3 := (hfr3 3).trans f3; replace f4 := (hfr3 4).trans f4; replace f5 := (hfr3 5).trans f5; replace fb := bgrown fb hg3 (fun x hx => by have := (HB2.out.lt hx).2; omega); have hbaseb3 := Nat.le_trans hbase3 hg3.size; have fl3q := cell_lt f0; clear hfr3 hne3)
        refine (text_calls v (by omega) _).mono ?_
        rintro e p4 ⟨vp4, m4, rfl, hBp4, hm4a, hm4b, hbp4⟩
        have HB3 := hid (hB3.below hbp4)
        replace fb := bthen fb hbp4; replace f0 := ck hbp4 f0; replace f1 := ck hbp4 f1; replace f2 := ck hbp4 f2; replace f3 := ck hbp4 f3; replace f4 := ck hbp4 f4; replace f5 := ck hbp4 f5
        have hbase4 : w1.heap.size ≤ p4.heap.size := Nat.le_trans hbaseb3 hbp4.size
        obtain ⟨g4, cap4, cs4, rfl, hcl4, hone4, hcell4⟩ := hBp4.get (by omega)
        have HC4 := hid (And.intro hone4 hcell4)
        clear hone4 hcell4 hBp4
        have fl4 := cell_lt f0
        go_wp2_with (at_builtin; go_must (refine wpList_append_byt rfl _ _ rfl w1.heap.size _ (1 + m1 + m2 + m3) rfl HB3.out ⟨g4, 0, none⟩ m4 cap4 cs4 rfl hcl4 HC4.out.1 HC4.out.2 (by omega) hbase4 ?_); intro v4 q4 hB4 hg4; have hne4 := HB3.out.far (k := w.heap.size) (by omega); have hfr4 := fun o => cell_same (o := o) (hg4.block w.heap.size fl4 hne4); replace f0 := (hfr4 0).trans f0; replace f1 := (hfr4 1).trans f1; replace f2 := (hfr4 2).trans f2; replace f3 := (hfr4 3).trans f3; replace f4 := (hfr4 4).trans f4; replace f5 := (hfr4 5).trans f5; replace fb := bgrown fb hg4 (fun x hx => by have := (HB3.out.lt hx).2; omega); have hbaseb4 := Nat.le_trans hbase4 hg4.size; have fl4q := cell_lt f0; clear hfr4 hne4)
        go_ret2
        exact ⟨_, 1 + m1 + m2 + m3 + m4, 0, rfl, hB4.base_le (by omega), by omega, by omega, fb⟩
      · go_wp2_with fail
        refine (put_calls d _).mono ?_
        rintro e p1 ⟨vp1, m1, rfl, hBp1, hm1a, hm1b, hbp1⟩
        have HB0 := hid ((Byt.fresh w1 w1.heap.size _ (Nat.le_refl _)).below hbp1)
        have hb0x := bthen (balloc (Below.refl _ _)) hbp1
        replace fb := bthen fb hb0x; replace f0 := ck hb0x f0; replace f1 := ck hb0x f1; replace f2 := ck hb0x f2; replace f3 := ck hb0x f3; replace f4 := ck hb0x f4; replace f5 := ck hb0x f5
        have hbase1 : w1.heap.size ≤ p1.heap.size := hb0x.size
        obtain ⟨g1, cap1, cs1, rfl, hcl1, hone1, hcell1⟩ := hBp1.get (by omega)
        have HC1 := hid (And.intro hone1 hcell1)
        clear hone1 hcell1 hBp1
        have fl1 := cell_lt f0
        go_wp2_with (at_builtin; go_must (refine wpList_append_byt rfl _ _ rfl w1.heap.size _ (1) rfl HB0.out ⟨g1, 0, none⟩ m1 cap1 cs1 rfl hcl1 HC1.out.1 HC1.out.2 (by omega) hbase1 ?_); intro v1 q1 hB1 hg1; have hne1 := HB0.out.far (k := w.heap.size) (by omega); have hfr1 := fun o => cell_same (o := o) (hg1.block w.heap.size fl1 hne1); replace f0 := (hfr1 0).trans f0; replace f1 := (hfr1 1).trans f1; replace f2 := (hfr1 2).trans f2; replace f3 := (hfr1 3).trans f3; replace f4 := (hfr1 4).trans f4; replace f5 := (hfr1 5).trans f5; replace fb := bgrown fb hg1 (fun x hx => by have := (HB0.out.lt hx).2; omega); have hbaseb1 := Nat.le_trans hbase1 hg1.size; have fl1q := cell_lt f0; clear hfr1 hne1)
        refine (put_calls t _).mono ?_
        rintro e p2 ⟨vp2, m2, rfl, hBp2, hm2a, hm2b, hbp2⟩
        have HB1 := hid (hB1.below hbp2)
        replace fb := bthen fb hbp2; replace f0 := ck hbp2 f0; replace f1 := ck hbp2 f1; replace f2 := ck hbp2 f2; replace f3 := ck hbp2 f3; replace f4 := ck hbp2 f4; replace f5 := ck hbp2 f5
        have hbase2 : w1.heap.size ≤ p2.heap.size := Nat.le_trans hbaseb1 hbp2.size
        obtain ⟨g2, cap2, cs2, rfl, hcl2, hone2, hcell2⟩ := hBp2.get (by omega)
        have HC2 := hid (And.intro hone2 hcell2)
        clear hone2 hcell2 hBp2
        have fl2 := cell_lt f0
        go_wp2_with (at_builtin; go_must (refine wpList_append_byt rfl _ _ rfl w1.heap.size _ (1 + m1) rfl HB1.out ⟨g2, 0, none⟩ m2 cap2 cs2 rfl hcl2 HC2.out.1 HC2.out.2 (by omega) hbase2 ?_); intro v2 q2 hB2 hg2; have hne2 := HB1.out.far (k := w.heap.size) (by omega); have hfr2 := fun o => cell_same (o := o) (hg2.block w.heap.size fl2 hne2); replace f0 := (hfr2 0).trans f0; replace f1 := (hfr2 1).trans f1; replace f2 := (hfr2 2).trans f2; replace f3 := (hfr2 3).trans f3; replace f4 := (hfr2 4).trans f4; replace f5 := (hfr2 5).trans f5; replace fb := bgrown fb hg2 (fun x hx => by have := (HB1.out.lt hx).2; omega); have hbaseb2 := Nat.le_trans hbase2 hg2.size; have fl2q := cell_lt f0; clear hfr2 hne2)
        refine (text_calls key (by omega) _).mono ?_
        rintro e p3 ⟨vp3, m3, rfl, hBp3, hm3a, hm3b, hbp3⟩
        have HB2 := hid (hB2.below hbp3)
        replace fb := bthen fb hbp3; replace f0 := ck hbp3 f0; replace f1 := ck hbp3 f1; replace f2 := ck hbp3 f2; replace f3 := ck hbp3 f3; replace f4 := ck hbp3 f4; replace f5 := ck hbp3 f5
        have hbase3 : w1.heap.size ≤ p3.heap.size := Nat.le_trans hbaseb2 hbp3.size
        obtain ⟨g3, cap3, cs3, rfl, hcl3, hone3, hcell3⟩ := hBp3.get (by omega)
        have HC3 := hid (And.intro hone3 hcell3)
        clear hone3 hcell3 hBp3
        have fl3 := cell_lt f0
        go_wp2_with (at_builtin; go_must (refine wpList_append_byt rfl _ _ rfl w1.heap.size _ (1 + m1 + m2) rfl HB2.out ⟨g3, 0, none⟩ m3 cap3 cs3 rfl hcl3 HC3.out.1 HC3.out.2 (by omega) hbase3 ?_); intro v3 q3 hB3 hg3; have hne3 := HB2.out.far (k := w.heap.size) (by omega); have hfr3 := fun o => cell_same (o := o) (hg3.block w.heap.size fl3 hne3); replace f0 := (hfr3 0).trans f0; replace f1 := (hfr3 1).trans f1; replace f2 := (hfr3 2).trans f2; replace f3 := (hfr3 3).trans f3; replace f4 := (hfr3 4).trans f4; replace f5 := (hfr3 5).trans f5; replace fb := bgrown fb hg3 (fun x hx => by have := (HB2.out.lt hx).2; omega); have hbaseb3 := Nat.le_trans hbase3 hg3.size; have fl3q := cell_lt f0; clear hfr3 hne3)
        go_ret2
        exact ⟨_, 1 + m1 + m2 + m3, 0, rfl, hB3.base_le (by omega), by omega, by omega, fb⟩
  · go_wp2
    go_ret2
    exact ⟨_, 0, c, rfl, Byt.nil _ _, by omega, fun _ => rfl, fb⟩

theorem head_calls (b0 b1 b2 b3 b4 : Int) (A : Option Addr) (n c : Nat) (w : World) :
    Calls Try.prog 64 #[.agg #[.int .i64 b0, .int .i64 b1, .int .i64 b2, .int .i64 b3, .int .i64 b4, .slice A n c]] w fun e w' =>
      e = .returned (.agg #[.int .i64 b0, .int .i64 b1, .int .i64 b2, .int .i64 b3, .int .i64 b4, .int .i64 (n : Int)]) ∧ Below w.heap.size w w' := by
  go_enter Try.func64, Try.ntmps64
  go_wp2
  exact bodyPost_ret (v := .agg #[.int .i64 b0, .int .i64 b1, .int .i64 b2, .int .i64 b3, .int .i64 b4, .int .i64 (n : Int)]) (by simp [results, Try.results64, go_sem]) rfl ⟨rfl, (by repeat (first | exact Below.refl _ _ | assumption | apply balloc | apply bdN | apply bdrew | refine bthen ?_ (by assumption)))⟩
theorem next_calls (b0 b1 b2 b3 b4 : Int) (A : Option Addr) (n c : Nat) (w : World) :
    Calls Try.prog 30 #[.agg #[.int .i64 b0, .int .i64 b1, .int .i64 b2, .int .i64 b3, .int .i64 b4, .slice A n c]] w fun e w' =>
      e = .returned (.int .i64 (wrap64 (b0 + b1))) ∧ Below w.heap.size w w' := by
  go_enter Try.func30, Try.ntmps30
  go_wp2
  go_ret
  exact ⟨rfl, (by repeat (first | exact Below.refl _ _ | assumption | apply balloc | apply bdN | apply bdrew | refine bthen ?_ (by assumption)))⟩
end Go.Proofs.Ytoinkagmhcojlaa
