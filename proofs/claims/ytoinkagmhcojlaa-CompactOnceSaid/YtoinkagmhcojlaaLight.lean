/- Which batches are light: few, of few records, with small numbers. -/
import Derived.Test.YtoinkagmhcojlaaLate
namespace Go.Proofs.Ytoinkagmhcojlaa
open Go.RowKit
set_option linter.unusedVariables false
set_option linter.unusedSimpArgs false
def SmallRec (r : Rec) : Prop := r.key.size ≤ 200 ∧ r.value.size ≤ 700
def SmallBat (b : Bat) : Prop := b.records.length ≤ 40 ∧ ∀ (j : Nat) (r : Rec), b.records[j]? = some r → SmallRec r
def SmallAll (l : List Bat) (most : Int) : Prop := (l.length : Int) ≤ most ∧ ∀ (i : Nat) (b : Bat), l[i]? = some b → SmallBat b
def NumsOk (b : Bat) : Prop := (0 ≤ b.base ∧ b.base ≤ 4611686018427387903) ∧ ∀ (j : Nat) (r : Rec), b.records[j]? = some r → 0 ≤ r.delta ∧ r.delta ≤ 1000
def LightL (l : List Bat) : Prop := SmallAll l 16 ∧ ∀ (i : Nat) (b : Bat), l[i]? = some b → NumsOk b
def Tells (P : Prop) (w : World) (e : Ending) (w' : World) : Prop := ∃ bb : Bool, e = .returned (.bool bb) ∧ (bb = true → P) ∧ Below w.heap.size w w'

set_option maxHeartbeats 400000 in
theorem ref03Light_calls (d t : Int) (ky : Bool) (key : ByteArray) (dd : Bool) (v : ByteArray) (w : World) :
    Calls Try.prog 66 #[.agg #[.int .i64 d, .int .i64 t, .bool ky, .string key, .bool dd, .string v]] w (Tells (key.size ≤ 200 ∧ v.size ≤ 700) w) := by
  go_enter Try.func66, Try.ntmps66
  go_wp2
  all_goals
    go_ret
    refine ⟨_, rfl, ?_, (by repeat (first | exact Below.refl _ _ | assumption | apply balloc | apply bdN | apply bdrew | refine bthen ?_ (by assumption)))⟩
    intro hbb
    simp_all
    try omega

set_option maxHeartbeats 400000 in
theorem ref04Light_calls (b : Bat) (A : Option Addr) (c : Nat) (w : World) (ok : Nat → Prop) (h : recK.At w ok A c b.records) :
    Calls Try.prog 55 #[batV b A c] w (Tells (SmallBat b) w) := by
  have hm : b.records.length ≤ 9223372036854775807 := by have := h.1; have := h.2.1; unfold maxLen at *; omega
  go_enter Try.func55, Try.ntmps55
  by_cases h40 : b.records.length ≤ 40
  · go_wp2
    go_loopw [3] (fun i wr => ∃ k : Nat, k ≤ b.records.length ∧ i = .int .i64 k ∧ Hid (∀ (j : Nat) (r : Rec), j < k → b.records[j]? = some r → SmallRec r) ∧ wr.cell? ⟨w.heap.size, 5, none⟩ = some (.slice A b.records.length c) ∧ Below w.heap.size w wr) (fun i _ => b.records.length - (intOf i).toNat)
    case atStart => exact ⟨0, Nat.zero_le _, rfl, hid (fun j r hj => by omega), World.cell?_alloc_new _ _ _ _, (by repeat (first | exact Below.refl _ _ | assumption | apply balloc | apply bdN | apply bdrew | refine bthen ?_ (by assumption)))⟩
    case round =>
      obtain ⟨k, hk, rfl, hS, hn5, hbw⟩ := hrel
      by_cases hlt : k < b.records.length
      · obtain ⟨g2, off2, rfl, hg2, hok2, y0, y1, y2, y3, y4, y5⟩ := rec_in h hbw hlt
        go_wp2_with (go_at_call 66; refine (ref03Light_calls _ _ _ _ _ _ _).mono ?_; rintro e w1 ⟨bb, rfl, hbb, hb1⟩)
        · go_ret
          exact ⟨_, rfl, by simp, (by repeat (first | exact Below.refl _ _ | assumption | apply balloc | apply bdN | apply bdrew | refine bthen ?_ (by assumption)))⟩
        · go_roundw
          case rel =>
            refine ⟨k + 1, by omega, by go_num, hid (fun j r hj hx => ?_), ck hb1 hn5, (by repeat (first | exact Below.refl _ _ | assumption | apply balloc | apply bdN | apply bdrew | refine bthen ?_ (by assumption)))⟩
            by_cases e : j = k
            · subst e
              rw [List.getElem?_eq_getElem hlt] at hx
              cases hx
              exact hbb (by simp_all)
            · exact hS.out j r (by omega) hx
          case measure => simp [intOf]; omega
      · go_wp2
        go_ret
        refine ⟨_, rfl, fun _ => ⟨h40, fun j r hj => hS.out j r ?_ hj⟩, hbw⟩
        have := (List.getElem?_eq_some_iff.1 hj).1
        omega
  · go_wp2
    go_ret
    exact ⟨_, rfl, by simp, (by repeat (first | exact Below.refl _ _ | assumption | apply balloc | apply bdN | apply bdrew | refine bthen ?_ (by assumption)))⟩

set_option maxHeartbeats 400000 in
theorem lightAll_calls (l : List Bat) (A : Option Addr) (c : Nat) (most : Int) (w : World) (ok : Nat → Prop) (h : batK.At w ok A c l) :
    Calls Try.prog 32 #[.slice A l.length c, .int .i64 most] w (Tells (SmallAll l most) w) := by
  have hm : l.length ≤ 9223372036854775807 := by have := h.1; have := h.2.1; unfold maxLen at *; omega
  go_enter Try.func32, Try.ntmps32
  by_cases h16 : (l.length : Int) ≤ most
  · go_wp2
    go_loopw [5] (fun i wr => ∃ k : Nat, k ≤ l.length ∧ i = .int .i64 k ∧ Hid (∀ (j : Nat) (b : Bat), j < k → l[j]? = some b → SmallBat b) ∧ Below w.heap.size w wr) (fun i _ => l.length - (intOf i).toNat)
    case atStart => exact ⟨0, Nat.zero_le _, rfl, hid (fun j r hj => by omega), (by repeat (first | exact Below.refl _ _ | assumption | apply balloc | apply bdN | apply bdrew | refine bthen ?_ (by assumption)))⟩
    case round =>
      obtain ⟨k, hk, rfl, hS, hbw⟩ := hrel
      by_cases hlt : k < l.length
      · obtain ⟨g, off, RA, rc, rfl, hg, hok, hr, q0, q1, q2, q3, q4, q5⟩ := bat_in h hbw hlt
        go_wp2_with (go_at_call 55; refine (ref04Light_calls l[k] _ rc _ ok (hr.below hbw)).mono ?_; rintro e w1 ⟨bb, rfl, hbb, hb1⟩)
        · go_ret
          exact ⟨_, rfl, by simp, (by repeat (first | exact Below.refl _ _ | assumption | apply balloc | apply bdN | apply bdrew | refine bthen ?_ (by assumption)))⟩
        · go_roundw
          case rel =>
            refine ⟨k + 1, by omega, by go_num, hid (fun j r hj hx => ?_), (by repeat (first | exact Below.refl _ _ | assumption | apply balloc | apply bdN | apply bdrew | refine bthen ?_ (by assumption)))⟩
            by_cases e : j = k
            · subst e
              rw [List.getElem?_eq_getElem hlt] at hx
              cases hx
              exact hbb (by simp_all)
            · exact hS.out j r (by omega) hx
          case measure => simp [intOf]; omega
      · go_wp2
        go_ret
        refine ⟨_, rfl, fun _ => ⟨h16, fun j r hj => hS.out j r ?_ hj⟩, hbw⟩
        have := (List.getElem?_eq_some_iff.1 hj).1
        omega
  · go_wp2
    go_ret
    exact ⟨_, rfl, by simp, (by repeat (first | exact Below.refl _ _ | assumption | apply balloc | apply bdN | apply bdrew | refine bthen ?_ (by assumption)))⟩

set_option maxHeartbeats 1000000 in
theorem light_calls (l : List Bat) (A : Option Addr) (c : Nat) (w : World) (ok : Nat → Prop) (h : batK.At w ok A c l) :
    Calls Try.prog 7 #[.slice A l.length c] w (Tells (LightL l) w) := by
  have hm : l.length ≤ 9223372036854775807 := by have := h.1; have := h.2.1; unfold maxLen at *; omega
  go_enter Try.func7, Try.ntmps7
  go_wp2_with (go_at_call 32; refine (lightAll_calls l _ c _ _ ok h).mono ?_; rintro e w1 ⟨bb, rfl, hbb, hb1⟩; cases bb)
  · go_ret
    exact ⟨_, rfl, by simp, (by repeat (first | exact Below.refl _ _ | assumption | apply balloc | apply bdN | apply bdrew | refine bthen ?_ (by assumption)))⟩
  · have hsm : SmallAll l 16 := hbb (by first | rfl | trivial)
    have hs := hid hsm
    clear hbb hsm
    go_loopw [3] (fun i wr => ∃ k : Nat, k ≤ l.length ∧ i = .int .i64 k ∧ Hid (∀ (j : Nat) (b : Bat), j < k → l[j]? = some b → NumsOk b) ∧ Below w.heap.size w wr) (fun i _ => l.length - (intOf i).toNat)
    case atStart => exact ⟨0, Nat.zero_le _, rfl, hid (fun j r hj => by omega), (by repeat (first | exact Below.refl _ _ | assumption | apply balloc | apply bdN | apply bdrew | refine bthen ?_ (by assumption)))⟩
    case round =>
      obtain ⟨k, hk, rfl, hS, hbw⟩ := hrel
      by_cases hlt : k < l.length
      · obtain ⟨g, off, RA, rc, rfl, hg, hok, hr, q0, q1, q2, q3, q4, q5⟩ := bat_in h hbw hlt
        have hrm : l[k].records.length ≤ 9223372036854775807 := by have := hr.1; have := hr.2.1; unfold maxLen at *; omega
        obtain ⟨wo, rfl⟩ : ∃ wo : World, wo = wr := ⟨_, rfl⟩
        by_cases hB : 0 ≤ l[k].base ∧ l[k].base ≤ 4611686018427387903
        · obtain ⟨hB1, hB2⟩ := hB
          go_wp2
          go_loopw [4] (fun i wr => ∃ j : Nat, j ≤ l[k].records.length ∧ i = .int .i64 j ∧ Hid (∀ (m : Nat) (r : Rec), m < j → l[k].records[m]? = some r → 0 ≤ r.delta ∧ r.delta ≤ 1000) ∧ wr = wo) (fun i _ => l[k].records.length - (intOf i).toNat)
          case atStart => exact ⟨0, Nat.zero_le _, rfl, hid (fun j r hj => by omega), rfl⟩
          case round =>
            obtain ⟨j, hj, rfl, hT, rfl⟩ := hrel
            by_cases hjlt : j < l[k].records.length
            · obtain ⟨g2, off2, rfl, hg2, hok2, y0, y1, y2, y3, y4, y5⟩ := rec_in hr hbw hjlt
              by_cases hD : 0 ≤ l[k].records[j].delta ∧ l[k].records[j].delta ≤ 1000
              · obtain ⟨hD1, hD2⟩ := hD
                go_wp2
                go_roundw
                case rel =>
                  refine ⟨j + 1, by omega, by go_num, hid (fun m r hm2 hx => ?_), by first | rfl | trivial⟩
                  by_cases e : m = j
                  · subst e
                    rw [List.getElem?_eq_getElem hjlt] at hx
                    cases hx
                    exact ⟨hD1, hD2⟩
                  · exact hT.out m r (by omega) hx
                case measure => simp [intOf]; omega
              · by_cases hD1 : l[k].records[j].delta < 0
                all_goals
                  go_wp2
                  go_ret
                  exact ⟨_, rfl, by simp, (by repeat (first | exact Below.refl _ _ | assumption | apply balloc | apply bdN | apply bdrew | refine bthen ?_ (by assumption)))⟩
            · go_wp2
              go_roundw
              case rel =>
                refine ⟨k + 1, by omega, by go_num, hid (fun m b hm2 hx => ?_), hbw⟩
                by_cases e : m = k
                · subst e
                  rw [List.getElem?_eq_getElem hlt] at hx
                  cases hx
                  refine ⟨⟨hB1, hB2⟩, fun j2 r2 hx2 => hT.out j2 r2 ?_ hx2⟩
                  have := (List.getElem?_eq_some_iff.1 hx2).1
                  omega
                · exact hS.out m b (by omega) hx
              case measure => simp [intOf]; omega
        · by_cases hB1 : l[k].base < 0
          all_goals
            go_wp2
            go_ret
            exact ⟨_, rfl, by simp, (by repeat (first | exact Below.refl _ _ | assumption | apply balloc | apply bdN | apply bdrew | refine bthen ?_ (by assumption)))⟩
      · go_wp2
        go_ret
        refine ⟨_, rfl, fun _ => ⟨hs.out, fun j r hj => hS.out j r ?_ hj⟩, hbw⟩
        have := (List.getElem?_eq_some_iff.1 hj).1
        omega
end Go.Proofs.Ytoinkagmhcojlaa
