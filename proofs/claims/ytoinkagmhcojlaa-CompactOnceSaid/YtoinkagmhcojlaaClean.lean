/- Clean, Count and Dirty of compact. -/
import Derived.Test.YtoinkagmhcojlaaLate
import Derived.Test.YtoinkagmhcojlaaRecSl
namespace Go.Proofs.Ytoinkagmhcojlaa
open Go.RowKit
set_option linter.unusedVariables false
set_option linter.unusedSimpArgs false

theorem callable_clean1 : Callable Try.prog 39 := ⟨_, rfl, by kernel_rfl, by kernel_rfl⟩

/-- What stays of a batch. -/
def keptOf (L : List (ByteArray × Int)) (now grace : Int) (b : Bat) : List Rec := b.records.filter fun r => keepsB b r ((get L r.key).getD 0) now grace
def batOf (L : List (ByteArray × Int)) (now grace : Int) (b : Bat) : Bat := { b with records := keptOf L now grace b }
def staysB (L : List (ByteArray × Int)) (now grace : Int) (b : Bat) : Bool := decide (0 < (keptOf L now grace b).length) || decide (b.producer ≠ 0)
def cleanOf (L : List (ByteArray × Int)) (now grace : Int) (l : List Bat) : List Bat := (l.filter (staysB L now grace)).map (batOf L now grace)

theorem cleanOf_snoc (L : List (ByteArray × Int)) (now grace : Int) (l : List Bat) (k : Nat) (h : k < l.length) :
    cleanOf L now grace (l.take (k + 1)) = cleanOf L now grace (l.take k) ++ (if staysB L now grace (l[k]'h) then [batOf L now grace (l[k]'h)] else []) := by
  unfold cleanOf
  rw [filter_take_snoc _ _ _ h, List.map_append]
  congr 1
  split <;> simp

set_option maxHeartbeats 400000 in
theorem clean1_calls (b : Bat) (A : Option Addr) (c : Nat) (r : Rec) (L : List (ByteArray × Int)) (now grace : Int) (g pc pb : Nat) (w : World) (hM : MapIs .string (.int .i64) w g L)
    (hc0 : w.cell? ⟨pc, 0, none⟩ = some (.map (some g))) (hc1 : w.cell? ⟨pc, 1, none⟩ = some (.int .i64 now)) (hc2 : w.cell? ⟨pc, 2, none⟩ = some (.int .i64 grace))
    (hb0 : w.cell? ⟨pb, 0, none⟩ = some (.int .i64 b.base)) (hb1 : w.cell? ⟨pb, 1, none⟩ = some (.int .i64 b.count)) (hb2 : w.cell? ⟨pb, 2, none⟩ = some (.int .i64 b.producer)) (hb3 : w.cell? ⟨pb, 3, none⟩ = some (.int .i64 b.epoch)) (hb4 : w.cell? ⟨pb, 4, none⟩ = some (.int .i64 b.seq)) (hb5 : w.cell? ⟨pb, 5, none⟩ = some (.slice A b.records.length c)) :
    Calls Try.prog 39 #[recV r, .pointer (some ⟨pc, 0, none⟩), .pointer (some ⟨pb, 0, none⟩)] w fun e w' => e = .returned (.bool (!keepsB b r ((get L r.key).getD 0) now grace)) ∧ Below w.heap.size w w' := by
  have l1 := cell_lt hc0
  have l2 := cell_lt hb0
  go_enter Try.func39, Try.ntmps39
  go_wp2_with (go_at_call 35; refine (keeps_calls b A c r L now grace g _ (hM.alloc _)).mono ?_; rintro e w1 ⟨rfl, hbb⟩)
  go_ret
  exact ⟨rfl, (by repeat (first | exact Below.refl _ _ | assumption | apply balloc | apply bdN | apply bdrew | refine bthen ?_ (by assumption)))⟩

theorem bat_info : (Try.prog.info? 30).map (fun i => (i.zero, i.size, i.bytes)) = some (some (.agg #[.int .i64 0, .int .i64 0, .int .i64 0, .int .i64 0, .int .i64 0, .slice none 0 0]), 6, 64) := by kernel_rfl

set_option maxRecDepth 10000 in
set_option maxHeartbeats 1000000 in
theorem clean_calls (l : List Bat) (A : Option Addr) (c : Nat) (now grace : Int) (w : World) (ok : Nat → Prop) (h : batK.At w ok A c l) (hfew : Few l) :
    Calls Try.prog 13 #[.slice A l.length c, .int .i64 now, .int .i64 grace] w fun e w' =>
      ∃ v, e = .returned v ∧ Own batK 30 w' w.heap.size (fun _ => True) v (cleanOf (mapOf l []) now grace l) ∧ Below w.heap.size w w' := by
  have hm : l.length ≤ 16 := hfew.n
  obtain ⟨L, hL⟩ : ∃ L, L = mapOf l [] := ⟨_, rfl⟩
  rw [← hL]
  have HL := hid hL
  clear hL
  go_enter Try.func13, Try.ntmps13
  go_wp2_with (go_at_call 9; refine (compLast_calls l _ c _ ok h hfew).mono ?_; rintro e w1 ⟨gm, rfl, hge, hM, hb1⟩; rw [← HL.out] at hM)
  have hgm := hM.lt
  go_loopw [8, 18] (fun v i wr => ∃ k : Nat, k ≤ l.length ∧ i = .int .i64 k ∧ Own batK 30 wr (w1.heap.size + 1) (fun _ => True) v (cleanOf L now grace (l.take k)) ∧ MapIs .string (.int .i64) wr gm L ∧
      wr.cell? ⟨w1.heap.size, 0, none⟩ = some (.map (some gm)) ∧ wr.cell? ⟨w1.heap.size, 1, none⟩ = some (.int .i64 now) ∧ wr.cell? ⟨w1.heap.size, 2, none⟩ = some (.int .i64 grace) ∧ Below w.heap.size w wr) (fun _ i _ => l.length - (intOf i).toNat)
  case atStart => exact ⟨0, Nat.zero_le _, rfl, Own.nil _ _ _ _ _, hM.alloc _, World.cell?_alloc_new _ _ _ _, World.cell?_alloc_new _ _ _ _, World.cell?_alloc_new _ _ _ _, (by repeat (first | exact Below.refl _ _ | assumption | apply balloc | apply bdN | apply bdrew | refine bthen ?_ (by assumption)))⟩
  case round =>
    obtain ⟨k, hk, rfl, hO, hMr, p0, p1, p2, hbw⟩ := hrel
    by_cases hlt : k < l.length
    · obtain ⟨g, off, RA, rc, rfl, hg, hok, hr, q0, q1, q2, q3, q4, q5⟩ := bat_in h hbw hlt
      have hrm : l[k].records.length ≤ 40 := hfew.r _ (List.getElem_mem hlt)
      have hst := hid (cleanOf_snoc L now grace l k hlt)
      obtain ⟨b, hbe⟩ : ∃ b, b = l[k] := ⟨_, rfl⟩
      rw [← hbe] at hst hrm hok hr q0 q1 q2 q3 q4 q5
      clear hbe
      have hgw : g < wr.heap.size := cell_lt q0
      have hpc := cell_lt p0
      obtain ⟨W0, hW0⟩ : ∃ W0, W0 = wr.alloc (.cells #[.int .i64 b.base, .int .i64 b.count, .int .i64 b.producer, .int .i64 b.epoch, .int .i64 b.seq, .slice RA b.records.length rc] 30) := ⟨_, rfl⟩
      have hbk0 : W0.heap[wr.heap.size]? = some (.cells #[.int .i64 b.base, .int .i64 b.count, .int .i64 b.producer, .int .i64 b.epoch, .int .i64 b.seq, .slice RA b.records.length rc] 30 (0, 0)) := by rw [hW0]; exact heap_alloc_new _ _
      have hW0s : W0.heap.size = wr.heap.size + 1 := by rw [hW0]; simp
      have hbW0 : Below wr.heap.size wr W0 := by rw [hW0]; exact (by repeat (first | exact Below.refl _ _ | assumption | apply balloc | apply bdN | apply bdrew | refine bthen ?_ (by assumption)))
      have hH := hid (And.intro hO hMr)
      have hrr := hid hr
      have HW0 := hid hW0
      clear hr hO hMr hW0
      go_wp2_with (go_at_call 38; rw [← HW0.out]; refine (rec_clone b.records RA rc _ ok ((hrr.out.below hbw).below hbW0) (by omega)).mono ?_; rintro e w2 ⟨v1, rfl, hO1, hb2⟩)
      -- what stands in the world behind Clone
      have hb2w : Below wr.heap.size wr w2 := bthen hbW0 hb2
      have hv1 : ∀ x, v1.ownBlock = some x → wr.heap.size + 1 ≤ x := fun x hx => by have := hO1.ge hx; omega
      have hbk2 : w2.heap[wr.heap.size]? = some (.cells #[.int .i64 b.base, .int .i64 b.count, .int .i64 b.producer, .int .i64 b.epoch, .int .i64 b.seq, .slice RA b.records.length rc] 30 (0, 0)) := (hb2.block _ (by omega)).trans hbk0
      have hM2 : MapIs .string (.int .i64) w2 gm L := hH.out.2.below hb2w
      have hgl2 := hM2.lt
      have hMl := hH.out.2.lt
      have keep : ∀ (w' : World) (x : Nat), Chg v1.ownBlock.toList w2 w' → x ≤ wr.heap.size → w'.heap[x]? = w2.heap[x]? := fun w' x hc hx =>
        chg_own hc (by have := hb2w.size; have := hb2.size; omega) (fun e => by have := hv1 x e; omega)
      have HD := hid (rec_deleteFunc b.records v1 w2 W0.heap.size ok hO1 39 #[] #[.pointer (some ⟨w1.heap.size, 0, none⟩), .pointer (some ⟨wr.heap.size, 0, none⟩)] callable_clean1 (fun r => !keepsB b r ((get L r.key).getD 0) now grace) (fun w' okk x cs hch hR => by
        obtain ⟨rfl, _⟩ := recK_iff.1 hR
        have hk := fun y hy => keep w' y hch hy
        have hcell : ∀ (y o : Nat) (u : Value), y ≤ wr.heap.size → w2.cell? ⟨y, o, none⟩ = some u → w'.cell? ⟨y, o, none⟩ = some u := fun y o u hy hu => by rw [cell_same (hk y hy)]; exact hu
        have hbc : ∀ (o : Nat) (u : Value), (#[Value.int .i64 b.base, .int .i64 b.count, .int .i64 b.producer, .int .i64 b.epoch, .int .i64 b.seq, .slice RA b.records.length rc] : Array Value)[o]? = some u → w'.cell? ⟨wr.heap.size, o, none⟩ = some u := fun o u hu => hcell _ _ _ (Nat.le_refl _) (by rw [cell_of_block hbk2]; exact hu)
        exact clean1_calls b RA rc x L now grace gm w1.heap.size wr.heap.size w' (hM2.move (hk gm (by omega))) (hcell _ _ _ (by omega) (ck hb2w p0)) (hcell _ _ _ (by omega) (ck hb2w p1)) (hcell _ _ _ (by omega) (ck hb2w p2))
          (hbc 0 _ rfl) (hbc 1 _ rfl) (hbc 2 _ rfl) (hbc 3 _ rfl) (hbc 4 _ rfl) (hbc 5 _ rfl)))
      refine HD.out.mono ?_
      rintro e w3 ⟨v2, rfl, hO3, hch3, hv2⟩
      obtain ⟨A2, c2, rfl⟩ := hO3.form
      have hbk3 : w3.heap[wr.heap.size]? = _ := (keep w3 _ hch3 (Nat.le_refl _)).trans hbk2
      have z0 : w3.cell? ⟨wr.heap.size, 0, none⟩ = some (.int .i64 b.base) := by rw [cell_of_block hbk3]; rfl
      have z1 : w3.cell? ⟨wr.heap.size, 1, none⟩ = some (.int .i64 b.count) := by rw [cell_of_block hbk3]; rfl
      have z2 : w3.cell? ⟨wr.heap.size, 2, none⟩ = some (.int .i64 b.producer) := by rw [cell_of_block hbk3]; rfl
      have z3 : w3.cell? ⟨wr.heap.size, 3, none⟩ = some (.int .i64 b.epoch) := by rw [cell_of_block hbk3]; rfl
      have z4 : w3.cell? ⟨wr.heap.size, 4, none⟩ = some (.int .i64 b.seq) := by rw [cell_of_block hbk3]; rfl
      have z5 : w3.cell? ⟨wr.heap.size, 5, none⟩ = some (.slice RA b.records.length rc) := by rw [cell_of_block hbk3]; rfl
      have zf : w3.frozen? ⟨wr.heap.size, 5, none⟩ = false := frozen_of_row _ _ _ _ _ hbk3
      have hkeq : (b.records.filter fun x => !(!keepsB b x ((get L x.key).getD 0) now grace)) = keptOf L now grace b := by simp [keptOf]
      rw [hkeq] at hO3 hv2 ⊢
      have hlk : (keptOf L now grace b).length ≤ 40 := Nat.le_trans (List.length_filter_le _ _) hrm
      clear HD
      have hb3r : Below wr.heap.size wr w3 := hb2w.trans (below_of_chg hch3 hb2w.size (fun k hk => by have := hv1 k (by simpa using hk); omega))
      have hown3 : ∀ x, (Value.slice A2 (keptOf L now grace b).length c2).ownBlock = some x → wr.heap.size + 1 ≤ x := fun x hx => hv1 x (hv2 x hx)
      have hnb := hid (show batK.R w3 (fun k => wr.heap.size + 1 ≤ k) (batOf L now grace b) [.int .i64 b.base, .int .i64 b.count, .int .i64 b.producer, .int .i64 b.epoch, .int .i64 b.seq, .slice A2 (keptOf L now grace b).length c2] from
        batK_iff.2 ⟨A2, c2, rfl, ⟨hok.base, hok.count, hok.producer, hok.epoch, hok.seq⟩, recAt_own (l := (batOf L now grace b).records) hO3 (fun k hk => hown3 k hk)⟩)
      have hH3 := hid (And.intro hb3r hown3)
      have hs3 : wr.heap.size < w3.heap.size := cell_lt z0
      have hK3 := hid keep
      have hB2 := hid (And.intro hb2w hb2)
      clear hO3 hkeq keep hM2 hb2w hb2 hbk0 hbk2 hbW0 hO1 HW0 hb3r hown3 hv2 hv1 hch3 hbk3
      obtain ⟨n2, hn2⟩ : ∃ n2, n2 = (keptOf L now grace b).length := ⟨_, rfl⟩
      rw [← hn2] at hnb hH3 hlk ⊢
      have hN2 := hid hn2
      clear hn2
      -- the world at the append
      obtain ⟨W4, hW4⟩ : ∃ W4, W4 = (w3.setCell ⟨wr.heap.size, 5, none⟩ (.slice A2 n2 c2)).alloc (.cells #[.int .i64 b.base, .int .i64 b.count, .int .i64 b.producer, .int .i64 b.epoch, .int .i64 b.seq, .slice A2 n2 c2] 30) := ⟨_, rfl⟩
      have hB3 : Below wr.heap.size wr (w3.setCell ⟨wr.heap.size, 5, none⟩ (.slice A2 n2 c2)) := hH3.out.1.setCell (Nat.le_refl _) _
      have hB4 : Below wr.heap.size wr W4 := by rw [hW4]; exact hB3.alloc (by simp; omega) _
      have hO4 := hid (hH.out.1.below hB4)
      have hN4 := hid (show batK.R W4 (fun k => True ∧ some k ≠ u8.ownBlock) (batOf L now grace b) [.int .i64 b.base, .int .i64 b.count, .int .i64 b.producer, .int .i64 b.epoch, .int .i64 b.seq, .slice A2 n2 c2] from
        batK.mono (fun x hx => ⟨trivial, fun e => by have := hH.out.1.lt e.symm; have hx' : wr.heap.size + 1 ≤ x := hx; omega⟩) (batK.move (fun x hx hlt3 => by
          have hx' : wr.heap.size + 1 ≤ x := hx
          rw [hW4, Below.heap_alloc _ _ _ (by simp; omega), Below.heap_setCell _ _ _ _ (by simp; omega)]) hnb.out))
      have hNew := hid (show ∀ (j : Nat) (u : Value), ([.int .i64 b.base, .int .i64 b.count, .int .i64 b.producer, .int .i64 b.epoch, .int .i64 b.seq, .slice A2 n2 c2] : List Value)[j]? = some u → W4.cell? ((⟨w3.heap.size, 0, none⟩ : Addr).add j) = some u from fun j u hu => by
        rw [Addr.add_mid, Nat.zero_add, hW4]
        have hs : w3.heap.size = (w3.setCell ⟨wr.heap.size, 5, none⟩ (.slice A2 n2 c2)).heap.size := by simp
        rw [hs, World.cell?_alloc_new]
        simpa using hu)
      have hcl := hid (show (cleanOf L now grace (l.take k)).length ≤ 16 by
        unfold cleanOf
        rw [List.length_map]
        refine Nat.le_trans (List.length_filter_le _ _) ?_
        rw [List.length_take]; omega)
      have hbase4 := hid (show w1.heap.size + 1 ≤ W4.heap.size by have := hB4.size; omega)
      have HW4 := hid hW4
      clear hW4
      rcases Nat.eq_zero_or_pos n2 with hz | hlen
      rotate_left
      · have hlen' : (0 : Int) < (n2 : Int) := by omega
        have hstay : staysB L now grace b = true := by simp [staysB, ← hN2.out, hlen]
        go_wp2_with (at_builtin; rw [← HW4.out]; go_must (refine wpList_append_Own rfl _ _ 22 rfl (w1.heap.size + 1) 30 (.agg #[.int .i64 0, .int .i64 0, .int .i64 0, .int .i64 0, .int .i64 0, .slice none 0 0]) 64 Try.underlying22 bat_info rfl (by decide) (fun _ => True) u8 (cleanOf L now grace (l.take k)) rfl hO4.out ⟨w3.heap.size, 0, none⟩ 1 [batOf L now grace b] [.int .i64 b.base, .int .i64 b.count, .int .i64 b.producer, .int .i64 b.epoch, .int .i64 b.seq, .slice A2 n2 c2] rfl (Chunks.one hN4.out) hNew.out (by have := hcl.out; unfold maxLen; simp; omega) (by have := hcl.out; simp; omega) hbase4.out ?_); intro v5 w5 hO5 hg5 hv5 hn5)
        have hne : ∀ x, x ≤ w1.heap.size → some x ≠ u8.ownBlock := fun x hx e => by have := hH.out.1.ge e.symm; omega
        have hk5 : ∀ x, x ≤ w1.heap.size → w5.heap[x]? = wr.heap[x]? := fun x hx => (hg5.block x (by have := hB4.size; omega) (hne x hx)).trans (hB4.block x (by omega))
        have hc5 : ∀ o u, wr.cell? ⟨w1.heap.size, o, none⟩ = some u → w5.cell? ⟨w1.heap.size, o, none⟩ = some u := fun o u hu => by rw [cell_same (hk5 _ (Nat.le_refl _))]; exact hu
        go_roundw
        case rel =>
          refine ⟨k + 1, by omega, by go_num, ?_, hH.out.2.move (hk5 gm (by omega)), hc5 _ _ p0, hc5 _ _ p1, hc5 _ _ p2, (hbw.trans (hB4.mono hbw.size)).grown hg5 (by have := hbw.size; have := hB4.size; omega) (fun x hx => by have := hH.out.1.ge hx; have := hb1.size; omega)⟩
          rw [hst.out, hstay]
          exact hO5
        case measure => simp [intOf]; omega

      · subst hz
        by_cases hprod : b.producer = 0
        · have hstay : staysB L now grace b = false := by simp [staysB, ← hN2.out, hprod]
          have hpz := hid hprod
          have hpb : (b.producer != 0) = false := by simp [hprod]
          clear hprod
          go_wp2
          have hc3 : ∀ o u, wr.cell? ⟨w1.heap.size, o, none⟩ = some u → (w3.setCell ⟨wr.heap.size, 5, none⟩ (.slice A2 0 c2)).cell? ⟨w1.heap.size, o, none⟩ = some u := fun o u hu => by rw [cell_same (hB3.block _ hpc)]; exact hu
          go_roundw
          case rel =>
            refine ⟨k + 1, by omega, by go_num, ?_, hH.out.2.move (hB3.block gm hMl), hc3 _ _ p0, hc3 _ _ p1, hc3 _ _ p2, hbw.trans (hB3.mono hbw.size)⟩
            rw [hst.out, hstay]
            simpa using hH.out.1.below hB3
          case measure => simp [intOf]; omega
        · have hstay : staysB L now grace b = true := by simp [staysB, hprod]
          have hpb : (b.producer != 0) = true := by simp [hprod]
          clear hprod
          go_wp2_with (at_builtin; rw [← HW4.out]; go_must (refine wpList_append_Own rfl _ _ 22 rfl (w1.heap.size + 1) 30 (.agg #[.int .i64 0, .int .i64 0, .int .i64 0, .int .i64 0, .int .i64 0, .slice none 0 0]) 64 Try.underlying22 bat_info rfl (by decide) (fun _ => True) u8 (cleanOf L now grace (l.take k)) rfl hO4.out ⟨w3.heap.size, 0, none⟩ 1 [batOf L now grace b] [.int .i64 b.base, .int .i64 b.count, .int .i64 b.producer, .int .i64 b.epoch, .int .i64 b.seq, .slice A2 0 c2] rfl (Chunks.one hN4.out) hNew.out (by have := hcl.out; unfold maxLen; simp; omega) (by have := hcl.out; simp; omega) hbase4.out ?_); intro v5 w5 hO5 hg5 hv5 hn5)
          have hne : ∀ x, x ≤ w1.heap.size → some x ≠ u8.ownBlock := fun x hx e => by have := hH.out.1.ge e.symm; omega
          have hk5 : ∀ x, x ≤ w1.heap.size → w5.heap[x]? = wr.heap[x]? := fun x hx => (hg5.block x (by have := hB4.size; omega) (hne x hx)).trans (hB4.block x (by omega))
          have hc5 : ∀ o u, wr.cell? ⟨w1.heap.size, o, none⟩ = some u → w5.cell? ⟨w1.heap.size, o, none⟩ = some u := fun o u hu => by rw [cell_same (hk5 _ (Nat.le_refl _))]; exact hu
          go_roundw
          case rel =>
            refine ⟨k + 1, by omega, by go_num, ?_, hH.out.2.move (hk5 gm (by omega)), hc5 _ _ p0, hc5 _ _ p1, hc5 _ _ p2, (hbw.trans (hB4.mono hbw.size)).grown hg5 (by have := hbw.size; have := hB4.size; omega) (fun x hx => by have := hH.out.1.ge hx; have := hb1.size; omega)⟩
            rw [hst.out, hstay]
            exact hO5
          case measure => simp [intOf]; omega
    · go_wp2
      go_ret
      obtain rfl : k = l.length := by omega
      rw [List.take_length] at hO
      exact ⟨_, rfl, hO.base_ge (by have := hb1.size; omega), hbw⟩
end Go.Proofs.Ytoinkagmhcojlaa
