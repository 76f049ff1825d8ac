/- The document's Get, Unfixed, and its reader: Num, Fixed, Text, Done. -/
import Derived.Test.YtoinkagmhcojlaaVOwn
import Derived.Deep.RegionHeld3
import Derived.IntWalk
namespace Go.Proofs.Ytoinkagmhcojlaa
open Go.RowKit
set_option linter.unusedVariables false
set_option linter.unusedSimpArgs false

theorem valN_step (l : List Int) (j : Nat) (y : Int) : ((128 * y % 18446744073709551616 + Go.Proofs.YtoinkagmhcojlaaW.PrintWords.rd l j % 128) % 18446744073709551616 * 128 ^ j + valN l j) % 18446744073709551616 = (y * 128 ^ (j + 1) + valN l (j + 1)) % 18446744073709551616 := by
  rw [show valN l (j + 1) = valN l j + Go.Proofs.YtoinkagmhcojlaaW.PrintWords.rd l j % 128 * 128 ^ j from rfl, Int.pow_succ]
  generalize (128 : Int) ^ j = p
  generalize valN l j = v
  generalize Go.Proofs.YtoinkagmhcojlaaW.PrintWords.rd l j % 128 = c
  rw [Int.add_emod, Int.mul_emod, Int.emod_emod_of_dvd _ (Int.dvd_refl _)]
  rw [show (128 * y % 18446744073709551616 + c) % 18446744073709551616 = (128 * y + c) % 18446744073709551616 by omega]
  rw [← Int.mul_emod, ← Int.add_emod]
  congr 1
  rw [Int.add_mul, Int.mul_comm 128 y, Int.mul_assoc, Int.mul_comm 128 p]
  omega

theorem u64w (n : Int) : IntKind.u64.wrap n = n % 18446744073709551616 := by simp [IntKind.wrap, IntKind.bits, IntKind.signed]
theorem convB {w w' : World} {ok : Nat → Prop} {A : Option Addr} {c n : Nat} {xs : List Int} (h : BR w ok A c (xs.take n)) (hn : n ≤ xs.length) (hb : Below w.heap.size w w') : (convert 40 9 (.slice A n c)).run Try.prog w' = .ok (.string (strOfNums (xs.take n))) w' := by
  have := (h.below hb).str
  rwa [List.length_take, Nat.min_eq_left hn] at this
set_option maxRecDepth 10000 in
set_option maxHeartbeats 1000000 in
theorem rget_calls (w : World) (ok : Nat → Prop) (A : Option Addr) (c : Nat) (xs : List Int) (h : BR w ok A c xs) (hl : xs.length ≤ 300) :
    Calls Try.prog 46 #[.slice A xs.length c] w fun e w' => e = .returned (.tuple #[.int .i64 (getS xs).1, .int .i64 ((getS xs).2.1 : Int), .int .i64 (getS xs).2.2]) ∧ Below w.heap.size w w' := by
  have HB := hid h
  have hcap := h.1
  clear h
  go_enter Try.func46, Try.ntmps46
  go_wp2
  go_loop [5] (fun i => ∃ n : Nat, i = .int .i64 n ∧ n ≤ 10 ∧ n ≤ xs.length ∧ Hid (∀ i : Nat, i < n → 128 ≤ Go.Proofs.YtoinkagmhcojlaaW.PrintWords.rd xs i)) (fun i => 10 - (intOf i).toNat)
  case atStart => exact ⟨0, rfl, by omega, by omega, hid (fun i hi => by omega)⟩
  case round =>
    obtain ⟨n, rfl, hn1, hn2, hge⟩ := hrel
    by_cases hn10 : n = 10
    · have hS := hid (getS_eq (l := xs) hn1 hn2 hge.out (.inl hn10))
      subst hn10
      by_cases hlt : (10 : Nat) < xs.length
      all_goals
        go_wp2
        go_ret3
        exact ⟨by rw [hS.out]; rfl, Below.refl _ _⟩
    · by_cases hlen : n = xs.length
      · have hS := hid ((getS_eq (l := xs) hn1 hn2 hge.out (.inr (.inl hlen))).trans (by rw [if_neg hn10, if_pos hlen]))
        have hlt10 : (n : Int) < 10 := by omega
        have hge2 : ¬ n < xs.length := by omega
        obtain ⟨m, hm⟩ : ∃ m, m = xs.length := ⟨_, rfl⟩
        rw [← hm] at hlen hge2 ⊢
        subst hlen
        go_wp2
        go_ret3
        exact ⟨by rw [hS.out]; rfl, Below.refl _ _⟩
      · have hlt : n < xs.length := by omega
        have hlt10 : n < 10 := by omega
        obtain ⟨g, off, rfl, hg, hc⟩ := HB.out.2.2.2 (by rintro rfl; simp at hlt)
        have hcell := hc n _ (List.getElem?_eq_getElem hlt)
        have hrd : Go.Proofs.YtoinkagmhcojlaaW.PrintWords.rd xs n = xs[n] := by simp [Go.Proofs.YtoinkagmhcojlaaW.PrintWords.rd, List.getD_eq_getElem?_getD, List.getElem?_eq_getElem hlt]
        have hxb := HB.out.bs _ (List.getElem_mem hlt)
        have HX := hid hrd
        have HC := hid hc
        clear hrd hc
        obtain ⟨x, hx⟩ : ∃ x, x = xs[n] := ⟨_, rfl⟩
        rw [← hx] at hcell hxb HX
        clear hx
        by_cases hx : 128 ≤ x
        · go_wp2
          go_round
          case rel => exact ⟨n + 1, by go_num, by omega, by omega, hid (fun i hi => by
            by_cases h : i = n
            · subst h; rw [HX.out]; exact hx
            · exact hge.out i (by omega))⟩
          case measure => simp [intOf]; omega
        · go_wp2
          have hS := hid ((getS_eq (l := xs) hn1 hn2 hge.out (.inr (.inr (by rw [HX.out]; omega)))).trans (by rw [if_neg hn10, if_neg hlen]))
          have hv0 := val64_bd xs (n + 1)
          go_loop [6, 7] (fun u i => ∃ (j : Nat) (y : Int), i = .int .i64 ((j : Int) - 1) ∧ j ≤ n + 1 ∧ u = .int .u64 y ∧ 0 ≤ y ∧ y < 18446744073709551616 ∧ Hid ((y * 128 ^ j + valN xs j) % 18446744073709551616 = val64 xs (n + 1))) (fun _ i => (intOf i + 1).toNat)
          case atStart => exact ⟨n + 1, 0, by go_num, by omega, rfl, by omega, by omega, hid (by simp [val64])⟩
          case round =>
            obtain ⟨j, y, rfl, hj, rfl, hy0, hy1, hval⟩ := hrel
            by_cases hjp : 0 < j
            · obtain ⟨j, rfl⟩ : ∃ q, j = q + 1 := ⟨j - 1, by omega⟩
              have hjl : j < xs.length := by omega
              have hcell2 := HC.out j _ (List.getElem?_eq_getElem hjl)
              have hxb2 := HB.out.bs _ (List.getElem_mem hjl)
              have hrd2 : Go.Proofs.YtoinkagmhcojlaaW.PrintWords.rd xs j = xs[j] := by simp [Go.Proofs.YtoinkagmhcojlaaW.PrintWords.rd, List.getD_eq_getElem?_getD, List.getElem?_eq_getElem hjl]
              have hst := hid (valN_step xs j y)
              obtain ⟨z, hz⟩ : ∃ z, z = xs[j] := ⟨_, rfl⟩
              rw [← hz] at hcell2 hxb2 hrd2
              have HRD := hid hrd2
              clear hz hrd2
              have hji : (((j + 1 : Nat) : Int) - 1) = (j : Int) := by omega
              rw [hji]
              clear hji
              have hj0 : (0 : Int) ≤ (j : Int) := by omega
              go_wp2
              go_round
              case rel =>
                refine ⟨j, _, rfl, by omega, rfl, ?_, ?_, hid ?_⟩
                rotate_left 2
                · have h2 := hval.out
                  rw [← hst.out, HRD.out] at h2
                  rw [u64w, u64w]
                  exact h2
                · rw [u64w]; omega
                · rw [u64w]; omega
              case measure => simp [intOf]
            · obtain rfl : j = 0 := by omega
              have hyv : y = val64 xs (n + 1) := by
                have h2 := hval.out
                simp [valN] at h2
                omega
              have hS2 := hid hyv
              clear hyv hval
              have hle : n + 1 ≤ xs.length := by omega
              have hsh := fun w2 => slice_hd w2 (some ⟨g, off, none⟩) xs.length c (n + 1) hle HB.out.1
              have hcn : ((n + 1 : Nat) : Int) = (n : Int) + 1 := by omega
              rw [hcn] at hsh
              clear hcn
              have hbt := (HB.out.head hle)
              have HBT := hid hbt
              have hcv := hbt.str
              rw [List.length_take, Nat.min_eq_left hle] at hcv
              clear hbt
              have hwn : IntKind.i64.wrap ((n : Int) + 1) = (n : Int) + 1 := IntWalk.i64_in _ ⟨by omega, by omega⟩
              have hwn0 : (0 : Int) ≤ (n : Int) + 1 := by omega
              have hwm : wrap64 ((n : Int) + 1) = (n : Int) + 1 := by unfold wrap64; omega
              cases hsm : sameB y xs (n + 1)
              · have HS3 := hid (And.intro hsm hS2.out)
                unfold sameB at hsm
                go_wp2
                have hcv3 := convB HBT.out hle (bdrew (Below.refl _ _))
                go_region_with (go_at_call 59; refine (rbytes_calls y hy0 hy1 _).mono ?_; rintro e w2 ⟨v, rfl, hB2, hb2⟩; have hcv2 := hB2.str; have hcv3 := convB HBT.out hle (bthen (bdrew (Below.refl _ _)) hb2))
                all_goals
                  go_wp2
                  go_ret3
                  exact ⟨by rw [hS.out, ← HS3.out.2, HS3.out.1]; rfl, bthen (bdrew (Below.refl _ _)) hb2⟩
              · have HS3 := hid (And.intro hsm hS2.out)
                unfold sameB at hsm
                go_wp2
                have hcv3 := convB HBT.out hle (bdrew (Below.refl _ _))
                go_region_with (go_at_call 59; refine (rbytes_calls y hy0 hy1 _).mono ?_; rintro e w2 ⟨v, rfl, hB2, hb2⟩; have hcv2 := hB2.str; have hcv3 := convB HBT.out hle (bthen (bdrew (Below.refl _ _)) hb2))
                all_goals
                  go_wp2_with fail
                  refine (rzag_calls y hy0 hy1 _).mono ?_
                  rintro e w3 ⟨rfl, rfl⟩
                  go_wp2
                  go_ret3
                  exact ⟨by rw [hS.out, ← HS3.out.2, HS3.out.1]; rfl, bthen (bdrew (Below.refl _ _)) hb2⟩
end Go.Proofs.Ytoinkagmhcojlaa
