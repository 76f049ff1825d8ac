/- The law CompactOnce: its walk. -/
import Derived.Test.YtoinkagmhcojlaaBCheck
import Derived.Test.YtoinkagmhcojlaaOnceMath
namespace Go.Proofs.Ytoinkagmhcojlaa
open Go.RowKit
set_option linter.unusedVariables false
set_option linter.unusedSimpArgs false

/-- What the first loop gathers: offsets rise, up to 'next'. -/
def Upto (l : List Bat) (x : Int) (d : Bool) : Prop := Up (allRec l) ∧ (∀ p ∈ allRec l, p.1 < x) ∧ 0 ≤ x ∧ x < 4611686018427387904 + 1000 ∧ (d = false → ∀ p ∈ allRec l, p.2.dead = false)
theorem Upto.snoc {l : List Bat} {k : Nat} {x : Int} {d : Bool} (h : Upto (l.take k) x d) (hk : k < l.length) (hb : x ≤ (l[k]'hk).base) (hb2 : (l[k]'hk).base ≤ 4611686018427387903) (hc : 1 ≤ (l[k]'hk).count ∧ (l[k]'hk).count ≤ 32) (hr : Rise (l[k]'hk).count (l[k]'hk).records)
    (hd0 : ∀ r ∈ (l[k]'hk).records, 0 ≤ r.delta) : Upto (l.take (k + 1)) (wrap64 ((l[k]'hk).base + (l[k]'hk).count)) (d || (l[k]'hk).records.any fun r => r.dead) := by
  obtain ⟨h1, h2, h3, h4, h5⟩ := h
  obtain ⟨b, hbe⟩ : ∃ b, b = l[k]'hk := ⟨_, rfl⟩
  rw [← hbe] at hb hb2 hc hr hd0 ⊢
  have hw : wrap64 (b.base + b.count) = b.base + b.count := by unfold wrap64; omega
  have hat : ∀ r ∈ b.records, atOf b r = b.base + r.delta ∧ r.delta < b.count := fun r hm => by
    obtain ⟨i, hi, rfl⟩ := List.getElem_of_mem hm
    have h6 := (hr i _ (List.getElem?_eq_getElem hi)).1
    have h7 := hd0 _ hm
    refine ⟨?_, h6⟩
    unfold atOf wrap64
    omega
  have hal : allRec (l.take (k + 1)) = allRec (l.take k) ++ b.records.map fun r => (atOf b r, r) := by rw [allRec_snoc l k hk, ← hbe]
  rw [hw]
  unfold Upto
  rw [hal]
  have hlast : ∀ p ∈ b.records.map (fun r => (atOf b r, r)), b.base ≤ p.1 ∧ p.1 < b.base + b.count := by
    intro p hp
    obtain ⟨r, hm, rfl⟩ := List.mem_map.1 hp
    have := hat r hm
    have := hd0 r hm
    simp only
    omega
  refine ⟨?_, ?_, by omega, by omega, ?_⟩
  · unfold Up
    rw [List.pairwise_append]
    refine ⟨h1, ?_, fun p hp q hq => by have := h2 p hp; have := (hlast q hq).1; omega⟩
    rw [List.pairwise_map, List.pairwise_iff_getElem]
    intro i j hi hj hij
    have h6 := (hr j _ (List.getElem?_eq_getElem hj)).2 i _ hij (List.getElem?_eq_getElem hi)
    have h7 := (hat _ (List.getElem_mem hi)).1
    have h8 := (hat _ (List.getElem_mem hj)).1
    simp only
    omega
  · intro p hp
    rcases List.mem_append.1 hp with hp | hp
    · have := h2 p hp; omega
    · exact (hlast p hp).2
  · intro hd p hp
    simp only [Bool.or_eq_false_iff] at hd
    rcases List.mem_append.1 hp with hp | hp
    · exact h5 hd.1 p hp
    · obtain ⟨r, hm, rfl⟩ := List.mem_map.1 hp
      have := List.any_eq_false.1 hd.2 r hm
      simpa using this
theorem any_snoc (rs : List Rec) (j : Nat) (h : j < rs.length) : ((rs.take (j + 1)).any fun r => r.dead) = (((rs.take j).any fun r => r.dead) || (rs[j]'h).dead) := by
  rw [List.take_succ_eq_append_getElem h, List.any_append]
  simp

theorem keysP_append (a b : List (Int × Rec)) : keysP (a ++ b) = keysP a ++ keysP b := by simp [keysP]
def keysR (rs : List Rec) : List ByteArray := (rs.filter fun r => r.keyed).map fun r => r.key
theorem keysP_map (b : Bat) (rs : List Rec) : keysP (rs.map fun r => (atOf b r, r)) = keysR rs := by
  unfold keysP keysR
  rw [List.filter_map, List.map_map]
  rfl
theorem keysP_snoc (C : List Bat) (i : Nat) (h : i < C.length) : keysP (allRec (C.take (i + 1))) = keysP (allRec (C.take i)) ++ keysR (C[i]'h).records := by
  rw [allRec_snoc C i h, keysP_append, keysP_map]
theorem keysR_snoc (rs : List Rec) (j : Nat) (h : j < rs.length) : keysR (rs.take (j + 1)) = keysR (rs.take j) ++ (if (rs[j]'h).keyed then [(rs[j]'h).key] else []) := by
  unfold keysR
  rw [filter_take_snoc _ _ _ h, List.map_append]
  congr 1
  split <;> rfl
theorem allRec_len (C : List Bat) (h : ∀ b ∈ C, b.records.length ≤ 40) : (allRec C).length ≤ 40 * C.length := by
  induction C with
  | nil => simp [allRec]
  | cons b C ih =>
    have e : allRec (b :: C) = (b.records.map fun r => (atOf b r, r)) ++ allRec C := by simp [allRec]
    have := ih (fun c hc => h c (List.mem_cons_of_mem _ hc))
    have := h b List.mem_cons_self
    rw [e, List.length_append, List.length_map, List.length_cons]
    omega
theorem keys_len (C : List Bat) (k : Nat) (h : Few C) (rs : List Rec) (hr : rs.length ≤ 40) : (keysP (allRec (C.take k)) ++ keysR rs).length ≤ 700 := by
  have h1 := allRec_len (C.take k) (fun b hb => h.r b (List.mem_of_mem_take hb))
  have h2 : (C.take k).length ≤ 16 := by have := h.n; rw [List.length_take]; omega
  have h3 : (keysP (allRec (C.take k))).length ≤ (allRec (C.take k)).length := by
    unfold keysP
    rw [List.length_map]
    exact List.length_filter_le _ _
  have h4 : (keysR rs).length ≤ rs.length := by
    unfold keysR
    rw [List.length_map]
    exact List.length_filter_le _ _
  rw [List.length_append]
  omega
/-- What is gathered so far stands ahead of the rest; so the next key is none of it. -/
theorem keys_fresh (C : List Bat) (hn : (keysP (allRec C)).Nodup) (i : Nat) (h : i < C.length) (j : Nat) (hj : j < (C[i]'h).records.length) (hk : ((C[i]'h).records[j]'hj).keyed = true) :
    ((C[i]'h).records[j]'hj).key ∉ keysP (allRec (C.take i)) ++ keysR ((C[i]'h).records.take j) := by
  have e1 : C = C.take (i + 1) ++ C.drop (i + 1) := (List.take_append_drop _ _).symm
  have e2 : (C[i]'h).records = (C[i]'h).records.take (j + 1) ++ (C[i]'h).records.drop (j + 1) := (List.take_append_drop _ _).symm
  have e3 : keysP (allRec C) = (keysP (allRec (C.take i)) ++ keysR ((C[i]'h).records.take j)) ++ (((C[i]'h).records[j]'hj).key :: (keysR ((C[i]'h).records.drop (j + 1)) ++ keysP (allRec (C.drop (i + 1))))) := by
    conv => lhs; rw [e1, allRec_append, keysP_append, keysP_snoc C i h]
    have e4 : keysR (C[i]'h).records = keysR ((C[i]'h).records.take (j + 1)) ++ keysR ((C[i]'h).records.drop (j + 1)) := by
      have e5 : ∀ a b : List Rec, keysR (a ++ b) = keysR a ++ keysR b := fun a b => by simp [keysR]
      rw [← e5, ← e2]
    rw [e4, keysR_snoc _ j hj, if_pos hk]
    simp
  rw [e3] at hn
  intro hm
  exact (List.nodup_append.1 hn).2.2 _ hm _ (by simp) rfl

theorem run_len_map {κ β : Type} [DecidableEq κ] {P : Program} {w : World} {ek : κ → Value} {ev : β → Value} {b T ty k e : Nat} {l : List (κ × β)} (h : MapIs ek ev w b l) (ht : P.underlying T = some (.map k e)) :
    (Builtin.len_ #[T] ty #[.map (some b)]).run P w = .ok (.int .i64 (l.length : Int)) w := by
  obtain ⟨es, clock, hb, hs⟩ := h.run_len
  simp [Builtin.len_, run_underlying ht, run_getObj_map' hb, hs]
  rfl
theorem str_info : (Try.prog.info? 9).map (fun i => (i.zero, i.size, i.bytes)) = some (some (.string ByteArray.empty), 1, 16) := by kernel_rfl
set_option maxRecDepth 10000 in
set_option maxHeartbeats 2000000 in
theorem lawOnce_calls (l : List Bat) (A : Option Addr) (c : Nat) (now grace : Int) (w : World) (ok : Nat → Prop) (h : batK.At w ok A c l) :
    Calls Try.prog 6 #[.slice A l.length c, .int .i64 now, .int .i64 grace] w fun e w' => e = .returned (.bool true) ∧ Below w.heap.size w w' := by
  have hh := hid h
  go_enter Try.func6, Try.ntmps6
  go_wp2_with (first | (go_at_call 7; refine (light_calls l _ c _ ok hh.out).mono ?_; rintro e w1 ⟨bb, rfl, hbb, hb1⟩; cases bb) | (go_at_call 8; refine (awake_calls _).mono ?_; rintro e w2 ⟨rfl, hb2⟩))
  · go_ret
    exact ⟨rfl, (by repeat (first | exact Below.refl _ _ | assumption | apply balloc | apply bdN | apply bdrew | refine bthen ?_ (by assumption)))⟩
  · have hlight := hid (hbb (by first | rfl | trivial))
    have hfew := hid (few_of_light hlight.out)
    have hm : l.length ≤ 16 := hfew.out.n
    clear hbb h
    go_loopw [7, 8, 9] (fun x d i wr => ∃ (k : Nat) (xx : Int) (dd : Bool), k ≤ l.length ∧ i = .int .i64 k ∧ x = .int .i64 xx ∧ d = .bool dd ∧ Hid (Upto (l.take k) xx dd) ∧ Below w.heap.size w wr) (fun _ _ i _ => l.length - (intOf i).toNat)
    case atStart => exact ⟨0, 0, false, Nat.zero_le _, rfl, rfl, rfl, hid ⟨by simp [Up, allRec], by simp [allRec], by omega, by omega, by simp [allRec]⟩, hb1⟩
    case round =>
      obtain ⟨k, xx, dd, hk, rfl, rfl, rfl, HU, hbw⟩ := hrel
      clear hb1
      by_cases hlt : k < l.length
      · obtain ⟨g, off, RA, rc, rfl, hg, hok, hr, q0, q1, q2, q3, q4, q5⟩ := bat_in hh.out hbw hlt
        have hgw : g < wr.heap.size := cell_lt q0
        have hrm : l[k].records.length ≤ 40 := hfew.out.r _ (List.getElem_mem hlt)
        have hsm : ∀ r ∈ l[k].records, r.key.size ≤ 1000 ∧ r.value.size ≤ 1000 := fun r hm => by
          obtain ⟨i, hi, rfl⟩ := List.getElem_of_mem hm
          have := (hlight.out.1.2 k _ (List.getElem?_eq_getElem hlt)).2 i _ (List.getElem?_eq_getElem hi)
          exact ⟨by have := this.1; omega, by have := this.2; omega⟩
        have hnums := hid (hlight.out.2 k _ (List.getElem?_eq_getElem hlt))
        have hsnoc := hid (fun h1 h2 h3 h4 h5 => Upto.snoc HU.out hlt h1 h2 h3 h4 h5)
        have hrr := hid hr
        clear hr
        have hfa : ∀ r ∈ l[k].records, 0 ≤ r.delta := fun r hm => by
          obtain ⟨i, hi, rfl⟩ := List.getElem_of_mem hm
          exact (hnums.out.2 i _ (List.getElem?_eq_getElem hi)).1
        have HFA := hid hfa
        have HSM := hid hsm
        clear hfa hsm
        obtain ⟨b, hbe⟩ : ∃ b, b = l[k] := ⟨_, rfl⟩
        rw [← hbe] at hsnoc hnums HFA HSM hrr hrm hok q0 q1 q2 q3 q4 q5
        have HB := hid hbe
        clear hbe
        go_wp2_with fail
        refine (bCheck_calls b.base b.count b.producer b.epoch b.seq b.records RA rc _ ok (hrr.out.below hbw) hrm HSM.out).mono ?_
        rintro e wp ⟨e1, rfl, hq, hbp⟩
        replace q0 := ck hbp q0; replace q1 := ck hbp q1; replace q2 := ck hbp q2; replace q3 := ck hbp q3; replace q4 := ck hbp q4; replace q5 := ck hbp q5
        have hgw' := cell_lt q0
        have hbw' := bthen hbw hbp
        clear hbp
        by_cases he : e1 = 0
        · have hq' := hq he
          clear hq
          subst he
          by_cases hbx : b.base < xx
          · go_wp2_with (go_at_call 8; refine (awake_calls _).mono ?_; rintro e w2 ⟨rfl, hb2⟩)
            go_ret
            exact ⟨rfl, bthen hbw' hb2⟩
          · have hU := hid (hsnoc.out (by omega) hnums.out.1.2 ⟨hq'.1, hq'.2.1⟩ hq'.2.2 HFA.out)
            clear hq' hsnoc
            go_wp2_with fail
            refine (next_calls b.base b.count b.producer b.epoch b.seq RA b.records.length rc _).mono ?_
            rintro e wn ⟨rfl, hbn⟩
            replace q5 := ck hbn q5
            have hgn := cell_lt q5
            replace hbw' := bthen hbw' hbn
            clear hbn q0 q1 q2 q3 q4
            go_wp2_with fail
            go_loopw [8, 10] (fun d i wr => ∃ (j : Nat) (d2 : Bool), j ≤ b.records.length ∧ i = .int .i64 j ∧ d = .bool d2 ∧ Hid (d2 = (dd || (b.records.take j).any fun r => r.dead)) ∧ wr = wn) (fun _ i _ => b.records.length - (intOf i).toNat)
            case atStart => exact ⟨0, dd, Nat.zero_le _, rfl, rfl, hid (by simp), rfl⟩
            case round =>
              obtain ⟨j, d2, hj, rfl, rfl, HD, rfl⟩ := hrel
              by_cases hjl : j < b.records.length
              · obtain ⟨g3, off3, rfl, hg3, hok3, y0, y1, y2, y3, y4, y5⟩ := rec_in hrr.out hbw' hjl
                have hg3l := cell_lt y0
                have hsn := hid (any_snoc b.records j hjl)
                obtain ⟨r, hr'⟩ : ∃ r, r = b.records[j] := ⟨_, rfl⟩
                rw [← hr'] at hsn y0 y1 y2 y3 y4 y5
                clear hr'
                cases d2
                · go_wp2
                  go_roundw
                  case rel => exact ⟨j + 1, r.dead, by omega, by go_num, rfl, hid (by rw [hsn.out, ← Bool.or_assoc, ← HD.out]; simp), trivial⟩
                  case measure => simp [intOf]; omega
                · go_wp2
                  go_roundw
                  case rel => exact ⟨j + 1, true, by omega, by go_num, rfl, hid (by rw [hsn.out, ← Bool.or_assoc, ← HD.out]; simp), trivial⟩
                  case measure => simp [intOf]; omega
              · have hjj : j = b.records.length := by omega
                rw [hjj, List.take_length] at HD
                clear hjj
                rw [← HD.out] at hU
                go_wp2
                go_roundw
                case rel => exact ⟨k + 1, _, d2, by omega, by go_num, rfl, rfl, hU, hbw'⟩
                case measure => simp [intOf]; omega
        · clear hq
          go_wp2_with (go_at_call 8; refine (awake_calls _).mono ?_; rintro e w2 ⟨rfl, hb2⟩)
          go_ret
          exact ⟨rfl, bthen hbw' hb2⟩
      · have hkl : k = l.length := by omega
        rw [hkl, List.take_length] at HU
        clear hkl
        obtain ⟨L, hL⟩ : ∃ L, L = mapOf l [] := ⟨_, rfl⟩
        have HL := hid hL
        clear hL
        go_wp2_with fail
        refine (clean_calls l _ c now grace _ ok (hh.out.below hbw) hfew.out).mono ?_
        rw [← HL.out]
        obtain ⟨C, hC⟩ : ∃ C, C = cleanOf L now grace l := ⟨_, rfl⟩
        rw [← hC]
        have HC := hid hC
        have hfc := few_clean L now grace l hfew.out
        rw [← hC] at hfc
        clear hC
        rintro e w2 ⟨v, rfl, hO, hb2⟩
        obtain ⟨A2, c2, rfl⟩ := hO.form
        have hA := hid hO.at_
        clear hO
        have hbw2 := bthen hbw hb2
        clear hbw hb2
        have hnd : (keysP (allRec C)).Nodup := by
          rw [HC.out, HL.out, allRec_clean]
          exact keys_nodup _ HU.out.1 now grace
        have HND := hid hnd
        clear hnd
        have hmC : C.length ≤ 16 := hfc.n
        have HFC := hid hfc
        clear hfc
        go_wp2_with fail
        go_loopw [12, 13] (fun v i wr => ∃ (k : Nat), k ≤ C.length ∧ i = .int .i64 k ∧ Hid (Own Rp.str 9 wr w2.heap.size (fun _ => False) v (keysP (allRec (C.take k)))) ∧ Below w2.heap.size w2 wr) (fun _ i _ => C.length - (intOf i).toNat)
        case atStart => exact ⟨0, Nat.zero_le _, rfl, hid (Own.nil _ _ _ _ _), Below.refl _ _⟩
        case round =>
          obtain ⟨k, hk, rfl, HK, hbr⟩ := hrel
          by_cases hkl : k < C.length
          · obtain ⟨g, off, RA, rc, rfl, hg, -, hr, q0, q1, q2, q3, q4, q5⟩ := bat_in hA.out (Below.refl _ _) hkl
            have hrm : C[k].records.length ≤ 40 := HFC.out.r _ (List.getElem_mem hkl)
            have hfr := hid (fun j hj hk => keys_fresh C HND.out k hkl j hj hk)
            have hsn := hid (keysP_snoc C k hkl)
            obtain ⟨b, hbe⟩ : ∃ b, b = C[k] := ⟨_, rfl⟩
            have hfr' := hid (show ∀ (j : Nat) (hj : j < b.records.length), (b.records[j]'hj).keyed = true → (b.records[j]'hj).key ∉ keysP (allRec (C.take k)) ++ keysR (b.records.take j) by subst hbe; exact hfr.out)
            clear hfr
            rw [← hbe] at hsn hrm hr q0 q1 q2 q3 q4 q5
            clear hbe q0 q1 q2 q3 q4
            obtain ⟨wo, rfl⟩ : ∃ wo : World, wo = wr := ⟨_, rfl⟩
            go_wp2
            go_loopw [12, 14] (fun v i wr => ∃ (j : Nat), j ≤ b.records.length ∧ i = .int .i64 j ∧ Hid (Own Rp.str 9 wr w2.heap.size (fun _ => False) v (keysP (allRec (C.take k)) ++ keysR (b.records.take j))) ∧ Below w2.heap.size w2 wr) (fun _ i _ => b.records.length - (intOf i).toNat)
            case atStart => exact ⟨0, Nat.zero_le _, rfl, hid (by have := HK.out; simpa [keysR] using this), hbr⟩
            case round =>
              obtain ⟨j, hj, rfl, HJ, hbj⟩ := hrel
              have q5' := ck hbj q5
              have hgw' := cell_lt q5'
              clear q5
              obtain ⟨A3, c3, rfl⟩ := HJ.out.form
              have hkl700 := keys_len C k HFC.out (b.records.take j) (by rw [List.length_take]; omega)
              obtain ⟨K, hK⟩ : ∃ K, K = keysP (allRec (C.take k)) ++ keysR (b.records.take j) := ⟨_, rfl⟩
              rw [← hK] at HJ hkl700 ⊢
              have HKK := hid hK
              clear hK
              by_cases hjl : j < b.records.length
              · obtain ⟨g3, off3, rfl, hg3, hok3, y0, y1, y2, y3, y4, y5⟩ := rec_in hr hbj hjl
                have hg3l := cell_lt y0
                have hfj := hid (hfr'.out j hjl)
                have hsj := hid (keysR_snoc b.records j hjl)
                obtain ⟨r, hr'⟩ : ∃ r, r = b.records[j] := ⟨_, rfl⟩
                rw [← hr'] at hfj hsj hok3 y0 y1 y2 y3 y4 y5
                rw [← HKK.out] at hfj
                clear hr'
                obtain ⟨wq, rfl⟩ : ∃ wq : World, wq = wr := ⟨_, rfl⟩
                have hok3k : r.key.size ≤ maxLen := hok3.key
                cases hkd : r.keyed
                · rw [hkd] at y2 hsj
                  have hbx : Below wq.heap.size wq (wq.alloc (.cells #[.int .i64 r.delta, .int .i64 r.time, .bool false, .string r.key, .bool r.dead, .string r.value] 32)) := balloc (Below.refl _ _)
                  go_wp2
                  go_loopw [16] (fun i wr => i = .int .i64 0 ∧ wr = (wq.alloc (.cells #[.int .i64 r.delta, .int .i64 r.time, .bool false, .string r.key, .bool r.dead, .string r.value] 32))) (fun _ _ => 0)
                  case atStart => exact ⟨rfl, rfl⟩
                  case round =>
                    obtain ⟨rfl, rfl⟩ := hrel
                    by_cases hK0 : 0 < K.length
                    all_goals
                      go_wp2
                      go_roundw
                      case rel => exact ⟨j + 1, by omega, by go_num, hid (by rw [hsj.out]; simp only [Bool.false_eq_true, if_false, List.append_nil]; rw [← HKK.out]; exact HJ.out.below hbx), bthen hbj hbx⟩
                      case measure => simp [intOf]; omega
                · have hne := hid (hfj.out hkd)
                  rw [hkd] at y2 hsj
                  have hbx : Below wq.heap.size wq (wq.alloc (.cells #[.int .i64 r.delta, .int .i64 r.time, .bool true, .string r.key, .bool r.dead, .string r.value] 32)) := balloc (Below.refl _ _)
                  go_wp2
                  go_loopw [16] (fun i wr => ∃ m : Nat, m ≤ K.length ∧ i = .int .i64 m ∧ Below (wq.alloc (.cells #[.int .i64 r.delta, .int .i64 r.time, .bool true, .string r.key, .bool r.dead, .string r.value] 32)).heap.size (wq.alloc (.cells #[.int .i64 r.delta, .int .i64 r.time, .bool true, .string r.key, .bool r.dead, .string r.value] 32)) wr) (fun i _ => K.length - (intOf i).toNat)
                  case atStart => exact ⟨0, Nat.zero_le _, rfl, Below.refl _ _⟩
                  case round =>
                    obtain ⟨m, hmK, rfl, hbm⟩ := hrel
                    have v2 : wr.cell? ⟨wq.heap.size, 2, none⟩ = some (.bool true) := (bnew hbm 2).trans rfl
                    have v3 : wr.cell? ⟨wq.heap.size, 3, none⟩ = some (.string r.key) := (bnew hbm 3).trans rfl
                    have hvl := cell_lt v2
                    by_cases hml : m < K.length
                    · obtain ⟨g4, off4, cs4, rfl, hg4, hR4, hc4⟩ := (HJ.out.at_.below (bthen hbx hbm)).get hml
                      obtain ⟨rfl, -⟩ := hR4
                      have z0 : wr.cell? ⟨g4, off4 + m, none⟩ = some (.string K[m]) := by
                        have := hc4 0 _ rfl
                        simpa [Rp.str, Rp.scalar] using this
                      have hz := cell_lt z0
                      have hneq : (K[m].toList == r.key.toList) = false := by
                        rw [beq_eq_false_iff_ne]
                        intro e
                        rw [toList_iff] at e
                        exact hne.out (by rw [← e]; exact List.getElem_mem hml)
                      clear hc4
                      go_wp2
                      (refine wp_region_ext_lit (by kernel_rfl) (by kernel_rfl) ?_; (repeat (go_big_quiet_step (fail))); refine wpQuiet_nil ?_; rintro _ ⟨⟨wx, hx⟩, rfl⟩)
                      go_wp2
                      go_roundw
                      case rel => exact ⟨m + 1, by omega, by go_num, bthen hbm (by assumption)⟩
                      case measure => simp [intOf]; omega
                    · go_wp2_with (at_builtin; go_must (refine wpList_append_Own rfl _ _ 62 rfl w2.heap.size 9 (.string ByteArray.empty) 16 Try.underlying62 str_info rfl (by decide) (fun _ => False) (.slice A3 K.length c3) K rfl (HJ.out.below (bthen (bthen hbx hbm) (balloc (Below.refl _ _)))) ⟨wr.heap.size, 0, none⟩ 1 [r.key] [.string r.key] rfl (Chunks.one ⟨rfl, hok3.key⟩) (fun q u hu => by rw [Addr.add_mid, Nat.zero_add, World.cell?_alloc_new]; simpa using hu) (by unfold maxLen; simp; omega) (by simp; omega) (by have := hbj.size; have := hbx.size; have := hbm.size; simp; omega) ?_); intro v5 w5 hO5 hg5 hv5 hn5)
                      go_roundw
                      case rel => exact ⟨j + 1, by omega, by go_num, hid (by rw [hsj.out]; simp only [if_true]; rw [← List.append_assoc, ← HKK.out]; exact hO5), bgrown (balloc (bthen (bthen hbj hbx) hbm)) hg5 (fun x hx => HJ.out.ge hx)⟩
                      case measure => simp [intOf]; omega
              · go_wp2
                go_roundw
                case rel => exact ⟨k + 1, by omega, by go_num, hid (by rw [hsn.out]; have := HJ.out; rw [HKK.out, show j = b.records.length by omega, List.take_length] at this; rw [HKK.out, show j = b.records.length by omega, List.take_length]; exact this), hbj⟩
                case measure => simp [intOf]; omega
          · have hkk : k = C.length := by omega
            rw [hkk, List.take_length] at HK
            clear hkk
            obtain ⟨A3, c3, rfl⟩ := HK.out.form
            have hkeys := keys_le l now grace HU.out.1
            have hfin := hid (fun h => not_dirty l now grace (HU.out.2.2.2.2 h))
            have hdd := HU.out.2.2.2.2
            rw [← HL.out, ← HC.out] at hkeys
            rw [← HL.out, ← HC.out] at hfin
            obtain ⟨n, hn⟩ : ∃ n, n = (keysP (allRec C)).length := ⟨_, rfl⟩
            rw [← hn] at hkeys ⊢
            have hkH := hid hkeys
            clear hkeys hn HK HND
            go_wp2_with fail
            refine (compLast_calls l _ c _ ok (hh.out.below (bthen hbw2 hbr)) hfew.out).mono ?_
            rw [← HL.out]
            rintro e w3 ⟨gm, rfl, hge, hM, hb3⟩
            have hlm := run_len_map (T := 26) (ty := 3) hM Try.underlying26
            have hle := hkH.out hM.1
            have hb3' := bthen (bthen hbw2 hbr) hb3
            have hle1 := hle.1
            cases dd
            · have heq := hle.2 (hdd rfl)
              have hnd := hid (hfin.out rfl)
              go_wp2_with fail
              refine (compLast_calls l _ c _ ok (hh.out.below hb3') hfew.out).mono ?_
              rw [← HL.out]
              rintro e w4 ⟨gm2, rfl, hge2, hM2, hb4⟩
              have hlm2 := run_len_map (T := 26) (ty := 3) hM2 Try.underlying26
              have hb4' := bthen hb3' hb4
              go_wp2_with fail
              refine (dirty_calls C _ c2 now grace _ _ (hA.out.below (bthen (bthen hbr hb3) hb4)) HFC.out).mono ?_
              rw [hnd.out]
              rintro e w5 ⟨rfl, hb5⟩
              go_wp2_with fail
              refine (awake_calls _).mono ?_
              rintro e w6 ⟨rfl, hb6⟩
              go_wp2_with fail
              go_ret
              exact ⟨by simp, bthen (bthen hb4' hb5) hb6⟩
            · go_wp2_with fail
              refine (awake_calls _).mono ?_
              rintro e w6 ⟨rfl, hb6⟩
              go_wp2_with fail
              go_ret
              exact ⟨by simp, bthen hb3' hb6⟩
end Go.Proofs.Ytoinkagmhcojlaa
