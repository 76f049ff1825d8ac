/- Count and Dirty of compact; of. -/
import Derived.Test.YtoinkagmhcojlaaClean
namespace Go.Proofs.Ytoinkagmhcojlaa
open Go.RowKit
set_option linter.unusedVariables false
set_option linter.unusedSimpArgs false
def countOf (l : List Bat) : Nat := (l.map fun b => b.records.length).sum
theorem countOf_snoc (l : List Bat) (k : Nat) (h : k < l.length) : countOf (l.take (k + 1)) = countOf (l.take k) + (l[k]'h).records.length := by
  unfold countOf
  rw [List.take_succ_eq_append_getElem h]
  simp only [List.map_append, List.sum_append, List.map_cons, List.map_nil, List.sum_cons, List.sum_nil, Nat.add_zero]
theorem countOf_le (l : List Bat) (h : ∀ b ∈ l, b.records.length ≤ 40) : countOf l ≤ 40 * l.length := by
  unfold countOf
  induction l with
  | nil => simp
  | cons b l ih =>
    have := ih (fun c hc => h c (List.mem_cons_of_mem _ hc))
    have := h b List.mem_cons_self
    simp only [List.map_cons, List.sum_cons, List.length_cons]
    omega

set_option maxHeartbeats 400000 in
theorem count_calls (l : List Bat) (A : Option Addr) (c : Nat) (w : World) (ok : Nat → Prop) (h : batK.At w ok A c l) (hfew : Few l) :
    Calls Try.prog 34 #[.slice A l.length c] w fun e w' => e = .returned (.int .i64 (countOf l : Int)) ∧ Below w.heap.size w w' := by
  have hm : l.length ≤ 16 := hfew.n
  go_enter Try.func34, Try.ntmps34
  go_wp2
  go_loopw [3, 8] (fun n i wr => ∃ k : Nat, k ≤ l.length ∧ i = .int .i64 k ∧ n = .int .i64 (countOf (l.take k) : Int) ∧ Below w.heap.size w wr) (fun _ i _ => l.length - (intOf i).toNat)
  case atStart => exact ⟨0, Nat.zero_le _, rfl, rfl, (by repeat (first | exact Below.refl _ _ | assumption | apply balloc | apply bdN | apply bdrew | refine bthen ?_ (by assumption)))⟩
  case round =>
    obtain ⟨k, hk, rfl, rfl, hbw⟩ := hrel
    by_cases hlt : k < l.length
    · obtain ⟨g, off, RA, rc, rfl, hg, hok, hr, q0, q1, q2, q3, q4, q5⟩ := bat_in h hbw hlt
      have hrm : l[k].records.length ≤ 40 := hfew.r _ (List.getElem_mem hlt)
      have hcl : countOf (l.take k) ≤ 640 := by
        have h1 := countOf_le (l.take k) (fun b hb => hfew.r b (List.mem_of_mem_take hb))
        have h2 : (l.take k).length ≤ 16 := by rw [List.length_take]; omega
        omega
      have hs := hid (countOf_snoc l k hlt)
      go_wp2
      go_roundw
      case rel => exact ⟨k + 1, by omega, by go_num, by rw [hs.out]; go_num, (by repeat (first | exact Below.refl _ _ | assumption | apply balloc | apply bdN | apply bdrew | refine bthen ?_ (by assumption)))⟩
      case measure => simp [intOf]; omega
    · go_wp2
      go_ret
      obtain rfl : k = l.length := by omega
      rw [List.take_length]
      exact ⟨rfl, hbw⟩

theorem few_clean (L : List (ByteArray × Int)) (now grace : Int) (l : List Bat) (h : Few l) : Few (cleanOf L now grace l) := by
  refine ⟨?_, fun b hb => ?_⟩
  · unfold cleanOf
    rw [List.length_map]
    exact Nat.le_trans (List.length_filter_le _ _) h.n
  · unfold cleanOf at hb
    obtain ⟨c, hc, rfl⟩ := List.mem_map.1 hb
    exact Nat.le_trans (List.length_filter_le _ _) (h.r c (List.mem_filter.1 hc).1)

def dirtyOf (l : List Bat) (now grace : Int) : Bool := decide ((cleanOf (mapOf l []) now grace l).length ≠ l.length) || decide (countOf (cleanOf (mapOf l []) now grace l) ≠ countOf l)

set_option maxHeartbeats 400000 in
theorem dirty_calls (l : List Bat) (A : Option Addr) (c : Nat) (now grace : Int) (w : World) (ok : Nat → Prop) (h : batK.At w ok A c l) (hfew : Few l) :
    Calls Try.prog 31 #[.slice A l.length c, .int .i64 now, .int .i64 grace] w fun e w' => e = .returned (.bool (dirtyOf l now grace)) ∧ Below w.heap.size w w' := by
  have hf2 := few_clean (mapOf l []) now grace l hfew
  have hh := hid h
  have hd := hid (show dirtyOf l now grace = (decide ((cleanOf (mapOf l []) now grace l).length ≠ l.length) || decide (countOf (cleanOf (mapOf l []) now grace l) ≠ countOf l)) from rfl)
  obtain ⟨cl, hcl⟩ : ∃ cl, cl = cleanOf (mapOf l []) now grace l := ⟨_, rfl⟩
  rw [← hcl] at hd hf2
  have HC := hid hcl
  clear hcl h
  by_cases hne : cl.length = l.length
  · have hneb : ((cl.length : Int) != (l.length : Int)) = false := by simp [hne]
    have hneH := hid hne
    clear hne
    go_enter Try.func31, Try.ntmps31
    go_wp2_with (first | (go_at_call 13; refine (clean_calls l _ c _ _ _ ok hh.out hfew).mono ?_; rw [← HC.out]; rintro e w1 ⟨v, rfl, hO, hb1⟩; obtain ⟨A2, c2, rfl⟩ := hO.form))
    have hA := hid hO.at_
    refine (count_calls cl _ c2 _ _ hO.at_ hf2).mono ?_
    rintro e w2 ⟨rfl, hb2⟩
    go_wp2_with fail
    refine (count_calls l _ c _ ok (hh.out.below (by repeat (first | exact Below.refl _ _ | assumption | apply balloc | apply bdN | apply bdrew | refine bthen ?_ (by assumption)))) hfew).mono ?_
    rintro e w3 ⟨rfl, hb3⟩
    go_wp2
    go_ret
    refine ⟨?_, (by repeat (first | exact Below.refl _ _ | assumption | apply balloc | apply bdN | apply bdrew | refine bthen ?_ (by assumption)))⟩
    rw [hd.out]
    simp only [hneH.out]
    show Ending.returned (.bool ((countOf cl : Int) != (countOf l : Int))) = _
    congr 2
    rw [Bool.eq_iff_iff]
    simp
    omega
  · have hneb : ((cl.length : Int) != (l.length : Int)) = true := by simp; omega
    have hneH := hid hne
    clear hne
    go_enter Try.func31, Try.ntmps31
    go_wp2_with (first | (go_at_call 13; refine (clean_calls l _ c _ _ _ ok hh.out hfew).mono ?_; rw [← HC.out]; rintro e w1 ⟨v, rfl, hO, hb1⟩; obtain ⟨A2, c2, rfl⟩ := hO.form))
    go_ret
    refine ⟨?_, (by repeat (first | exact Below.refl _ _ | assumption | apply balloc | apply bdN | apply bdrew | refine bthen ?_ (by assumption)))⟩
    rw [hd.out]
    simp [hneH.out]
end Go.Proofs.Ytoinkagmhcojlaa
