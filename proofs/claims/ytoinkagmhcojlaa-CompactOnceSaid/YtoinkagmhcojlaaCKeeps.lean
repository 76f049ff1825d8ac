/- Keeps of compact. -/
import Derived.Test.YtoinkagmhcojlaaKeeps
namespace Go.Proofs.Ytoinkagmhcojlaa
open Go.RowKit
set_option linter.unusedVariables false
set_option linter.unusedSimpArgs false
set_option maxHeartbeats 400000 in
theorem compKeeps_calls (l : List Bat) (A : Option Addr) (c : Nat) (i k now grace : Int) (w : World) (ok : Nat → Prop) (h : batK.At w ok A c l) (hfew : Few l) :
    Calls Try.prog 11 #[.slice A l.length c, .int .i64 i, .int .i64 k, .int .i64 now, .int .i64 grace] w fun e w' =>
      e = .returned (.bool (keepsAt l i k now grace)) ∧ Below w.heap.size w w' := by
  by_cases h1 : i < 0
  · have hf := hid (keepsAt_out l i k now grace (.inl h1))
    go_enter Try.func11, Try.ntmps11
    go_wp2
    go_ret
    exact ⟨by rw [hf.out]; rfl, Below.refl _ _⟩
  by_cases h2 : (l.length : Int) ≤ i
  · have hf := hid (keepsAt_out l i k now grace (.inr (.inl h2)))
    go_enter Try.func11, Try.ntmps11
    go_wp2
    go_ret
    exact ⟨by rw [hf.out]; rfl, Below.refl _ _⟩
  by_cases h3 : k < 0
  · have hf := hid (keepsAt_out l i k now grace (.inr (.inr h3)))
    go_enter Try.func11, Try.ntmps11
    go_wp2
    go_ret
    exact ⟨by rw [hf.out]; rfl, Below.refl _ _⟩
  obtain ⟨ni, rfl⟩ := Int.eq_ofNat_of_zero_le (Int.not_lt.1 h1)
  obtain ⟨nk, rfl⟩ := Int.eq_ofNat_of_zero_le (Int.not_lt.1 h3)
  have hi : ni < l.length := by omega
  obtain ⟨g, off, RA, rc, rfl, hg, hok, hr, q0, q1, q2, q3, q4, q5⟩ := bat_in h (Below.refl _ _) hi
  by_cases h4 : nk < l[ni].records.length
  · obtain ⟨g2, off2, rfl, hg2, hok2, y0, y1, y2, y3, y4, y5⟩ := rec_in hr (Below.refl _ _) h4
    have hf := hid (keepsAt_in l ni nk now grace hi h4)
    have hf2 := hid (mapOf_last l l[ni].records[nk].key)
    obtain ⟨r, hr'⟩ : ∃ r, r = l[ni].records[nk] := ⟨_, rfl⟩
    rw [← hr'] at hf hf2 y0 y1 y2 y3 y4 y5
    clear hr' hok2
    have hh := hid h
    have hfw := hid hfew
    clear h hfew
    have b1 : (0 : Int) ≤ (ni : Int) := by omega
    have b2 : (ni : Int) < (l.length : Int) := by omega
    have b3 : (0 : Int) ≤ (nk : Int) := by omega
    have b4 : (nk : Int) < (l[ni].records.length : Int) := by omega
    go_enter Try.func11, Try.ntmps11
    go_wp2
    go_region_held3 (fun w' => w'.cell? ⟨g, off + ni * 6, none⟩ = some (.int .i64 l[ni].base) ∧ w'.cell? ⟨g, off + ni * 6 + 1, none⟩ = some (.int .i64 l[ni].count) ∧ w'.cell? ⟨g, off + ni * 6 + 2, none⟩ = some (.int .i64 l[ni].producer) ∧ w'.cell? ⟨g, off + ni * 6 + 3, none⟩ = some (.int .i64 l[ni].epoch) ∧ w'.cell? ⟨g, off + ni * 6 + 4, none⟩ = some (.int .i64 l[ni].seq) ∧ w'.cell? ⟨g, off + ni * 6 + 5, none⟩ = some (.slice (some ⟨g2, off2, none⟩) l[ni].records.length rc) ∧ w'.cell? ⟨g2, off2 + nk * 6, none⟩ = some (.int .i64 r.delta) ∧ w'.cell? ⟨g2, off2 + nk * 6 + 1, none⟩ = some (.int .i64 r.time) ∧ w'.cell? ⟨g2, off2 + nk * 6 + 2, none⟩ = some (.bool r.keyed) ∧ w'.cell? ⟨g2, off2 + nk * 6 + 3, none⟩ = some (.string r.key) ∧ w'.cell? ⟨g2, off2 + nk * 6 + 4, none⟩ = some (.bool r.dead) ∧ w'.cell? ⟨g2, off2 + nk * 6 + 5, none⟩ = some (.string r.value))
      (refine ⟨?_, ?_, ?_, ?_, ?_, ?_, ?_, ?_, ?_, ?_, ?_, ?_⟩ <;> first | assumption | exact ck (by assumption) (by assumption) | exact ck (by assumption) (ck (by assumption) (by assumption)))
      (first | (go_at_call 9; refine (compLast_calls l _ c _ ok (hh.out.below (bdrew (Below.refl _ _))) hfw.out).mono ?_; rintro e w1 ⟨g3, rfl, hge, hM, hb1⟩) | (go_at_call 35; refine (keeps_calls l[ni] _ rc r (mapOf l []) now grace g3 _ hM).mono ?_; rintro e w2 ⟨rfl, hb2⟩))
    go_wp2
    go_ret
    refine ⟨?_, bthen (bthen (bdrew (Below.refl _ _)) hb1) hb2⟩
    rw [hf.out, ← hf2.out, asPair_fst]
    rfl
  · have hf := hid (keepsAt_out2 l ni nk now grace hi (by omega))
    go_enter Try.func11, Try.ntmps11
    go_wp2
    go_ret
    exact ⟨by rw [hf.out]; rfl, Below.refl _ _⟩
end Go.Proofs.Ytoinkagmhcojlaa
