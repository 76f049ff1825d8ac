/- Keeps, of compact and of its reference. -/
import Derived.Test.YtoinkagmhcojlaaLate
import Derived.Deep.RegionHeld3
namespace Go.Proofs.Ytoinkagmhcojlaa
open Go.RowKit
set_option linter.unusedVariables false
set_option linter.unusedSimpArgs false

theorem keepsAt_in (l : List Bat) (ni nk : Nat) (now grace : Int) (hi : ni < l.length) (hk : nk < (l[ni]'hi).records.length) :
    keepsAt l ni nk now grace = keepsB (l[ni]'hi) ((l[ni]'hi).records[nk]'hk) (lastOf ((l[ni]'hi).records[nk]'hk).key l (0, false)).1 now grace := by
  unfold keepsAt
  rw [if_pos (by omega)]
  simp [hi, hk]
theorem keepsAt_out (l : List Bat) (i k now grace : Int) (h : i < 0 ∨ (l.length : Int) ≤ i ∨ k < 0) : keepsAt l i k now grace = false := by
  unfold keepsAt
  split
  · have : l[i.toNat]? = none := List.getElem?_eq_none (by omega)
    simp [this]
  · rfl
theorem keepsAt_out2 (l : List Bat) (ni : Nat) (k now grace : Int) (hi : ni < l.length) (hk : ((l[ni]'hi).records.length : Int) ≤ k) : keepsAt l ni k now grace = false := by
  unfold keepsAt
  rw [if_pos (by omega)]
  simp only [Int.toNat_natCast, List.getElem?_eq_getElem hi]
  rw [List.getElem?_eq_none (by omega)]

set_option maxHeartbeats 400000 in
theorem refKeeps_calls (l : List Bat) (A : Option Addr) (c : Nat) (i k now grace : Int) (w : World) (ok : Nat → Prop) (h : batK.At w ok A c l) :
    Calls Try.prog 12 #[.slice A l.length c, .int .i64 i, .int .i64 k, .int .i64 now, .int .i64 grace] w fun e w' =>
      e = .returned (.bool (keepsAt l i k now grace)) ∧ Below w.heap.size w w' := by
  by_cases h1 : i < 0
  · have hf := hid (keepsAt_out l i k now grace (.inl h1))
    go_enter Try.func12, Try.ntmps12
    go_wp2
    go_ret
    exact ⟨by rw [hf.out]; rfl, Below.refl _ _⟩
  by_cases h2 : (l.length : Int) ≤ i
  · have hf := hid (keepsAt_out l i k now grace (.inr (.inl h2)))
    go_enter Try.func12, Try.ntmps12
    go_wp2
    go_ret
    exact ⟨by rw [hf.out]; rfl, Below.refl _ _⟩
  by_cases h3 : k < 0
  · have hf := hid (keepsAt_out l i k now grace (.inr (.inr h3)))
    go_enter Try.func12, Try.ntmps12
    go_wp2
    go_ret
    exact ⟨by rw [hf.out]; rfl, Below.refl _ _⟩
  obtain ⟨ni, rfl⟩ := Int.eq_ofNat_of_zero_le (Int.not_lt.1 h1)
  obtain ⟨nk, rfl⟩ := Int.eq_ofNat_of_zero_le (Int.not_lt.1 h3)
  have hi : ni < l.length := by omega
  obtain ⟨g, off, RA, rc, rfl, hg, hok, hr, q0, q1, q2, q3, q4, q5⟩ := bat_in h (Below.refl _ _) hi
  by_cases h4 : nk < l[ni].records.length
  · obtain ⟨g2, off2, rfl, hg2, hok2, y0, y1, y2, y3, y4, y5⟩ := rec_in hr (Below.refl _ _) h4
    have hf := hid (keepsAt_in l ni nk now grace hi h4)
    obtain ⟨r, hr'⟩ : ∃ r, r = l[ni].records[nk] := ⟨_, rfl⟩
    rw [← hr'] at hf y0 y1 y2 y3 y4 y5
    clear hr' hok2
    by_cases hkey : r.keyed = true
    · go_enter Try.func12, Try.ntmps12
      go_wp2_with (go_at_call 10; refine (refLast_calls l r.key _ c _ ok (h.below (by repeat (first | exact Below.refl _ _ | assumption | apply balloc | apply bdN | apply bdrew | refine bthen ?_ (by assumption))))).mono ?_; rintro e w1 ⟨rfl, hb1⟩)
      have hbw : Below w.heap.size w w1 := bthen (by repeat (first | exact Below.refl _ _ | assumption | apply balloc | apply bdN | apply bdrew | refine bthen ?_ (by assumption))) hb1
      have hn1 := bnew hb1
      have z0 := ck hbw q0
      by_cases hat : wrap64 (l[ni].base + r.delta) = (lastOf r.key l (0, false)).1
      · have hat' : (wrap64 (l[ni].base + r.delta) == (lastOf r.key l (0, false)).1) = true := beq_iff_eq.2 hat
        have hd := hid hat
        clear hat
        (refine wp_region_ext_lit (by kernel_rfl) (by kernel_rfl) ?_; (repeat (go_big_quiet_step ((go_at_call 36; exact ext_of (refLate_calls _ _ _ _ _ _ _ _ _))))); refine wpQuiet_nil ?_; rintro _ ⟨⟨wx, hx⟩, rfl⟩)
        go_wp2
        go_ret
        refine ⟨?_, bthen (bthen (by repeat (first | exact Below.refl _ _ | assumption | apply balloc | apply bdN | apply bdrew | refine bthen ?_ (by assumption))) hb1) hx⟩
        rw [hf.out]
        simp [keepsB, hkey, atOf, hd.out, lateB]
      · have hat' : (wrap64 (l[ni].base + r.delta) == (lastOf r.key l (0, false)).1) = false := beq_eq_false_iff_ne.2 hat
        have hd := hid hat
        clear hat
        (refine wp_region_ext_lit (by kernel_rfl) (by kernel_rfl) ?_; (repeat (go_big_quiet_step (fail))); refine wpQuiet_nil ?_; rintro _ ⟨⟨wx, hx⟩, rfl⟩)
        go_wp2
        go_ret
        refine ⟨?_, bthen (bthen (by repeat (first | exact Below.refl _ _ | assumption | apply balloc | apply bdN | apply bdrew | refine bthen ?_ (by assumption))) hb1) hx⟩
        rw [hf.out]
        simp [keepsB, hkey, atOf, hd.out]
    · go_enter Try.func12, Try.ntmps12
      go_wp2
      go_ret
      refine ⟨?_, (by repeat (first | exact Below.refl _ _ | assumption | apply balloc | apply bdN | apply bdrew | refine bthen ?_ (by assumption)))⟩
      rw [hf.out]
      simp [keepsB, hkey]
  · have hf := hid (keepsAt_out2 l ni nk now grace hi (by omega))
    go_enter Try.func12, Try.ntmps12
    go_wp2
    go_ret
    exact ⟨by rw [hf.out]; rfl, Below.refl _ _⟩
end Go.Proofs.Ytoinkagmhcojlaa
