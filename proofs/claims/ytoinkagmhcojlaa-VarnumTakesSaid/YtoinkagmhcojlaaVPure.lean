/- The numbers of few bytes: what lay, Get, Unfixed, Text of varnum tell, in plain Lean, by the document's own words. -/
import Derived.Test.YtoinkagmhcojlaaPVarnumTakesx1
import Derived.Laws.BitsLemmas
namespace Go.Proofs.Ytoinkagmhcojlaa
open Go.RowKit Go.Proofs.YtoinkagmhcojlaaW.PrintWords Go.Proofs.YtoinkagmhcojlaaW.PrintLast Go.Proofs.YtoinkagmhcojlaaW.PrintMore Go.Proofs.Ytoinkagmhcojlaa.PVarnumTakes
set_option linter.unusedVariables false
set_option linter.unusedSimpArgs false

theorem w64 (x : Int) (h0 : -9223372036854775808 ≤ x) (h1 : x < 9223372036854775808) : wrap64 x = x := by unfold wrap64; omega
/-- The bytes of a number without a sign. -/
def layF : Nat → Int → List Int
  | 0, x => [x % 256]
  | m + 1, x => if 127 < x then (x % 128 + 128) :: layF m (x / 128) else [x % 256]
def layL (x : Int) : List Int := layF 10 x

theorem or128 (c : Int) (h0 : 0 ≤ c) (h1 : c < 256) : Go.bits .or .u8 c 128 = c % 128 + 128 := by
  obtain ⟨n, rfl⟩ := Int.eq_ofNat_of_zero_le h0
  have h : ∀ m : Fin 256, Go.bits .or .u8 (m.val : Int) 128 = (m.val : Int) % 128 + 128 := by decide +kernel
  exact h ⟨n, by omega⟩
theorem and128 (c : Int) (h0 : 0 ≤ c) (h1 : c < 256) : (Go.bits .and .u8 c 128 = 0) ↔ c < 128 := by
  obtain ⟨n, rfl⟩ := Int.eq_ofNat_of_zero_le h0
  have h : ∀ m : Fin 256, (Go.bits .and .u8 (m.val : Int) 128 = 0) ↔ (m.val : Int) < 128 := by decide +kernel
  exact h ⟨n, by omega⟩
theorem and127 (c : Int) (h0 : 0 ≤ c) (h1 : c < 256) : Go.bits .and .u8 c 127 = c % 128 := by
  obtain ⟨n, rfl⟩ := Int.eq_ofNat_of_zero_le h0
  have h : ∀ m : Fin 256, Go.bits .and .u8 (m.val : Int) 127 = (m.val : Int) % 128 := by decide +kernel
  exact h ⟨n, by omega⟩

theorem layF_len (m : Nat) : ∀ x, (layF m x).length ≤ m + 1 := by
  induction m with
  | zero => intro x; simp [layF]
  | succ m ih =>
    intro x
    unfold layF
    split
    · have := ih (x / 128); simp; omega
    · simp

theorem lay_l0 (m : Nat) : ∀ (k : Nat) (x : Int) (acc : List Int), m < k → 0 ≤ x → x < 128 ^ (m + 1) → acc.length + m < 1000000 → varnum_lay.l0 k x acc = some (acc ++ layF m x) := by
  induction m with
  | zero =>
    intro k x acc hk h0 h1 hl
    obtain ⟨k, rfl⟩ : ∃ j, k = j + 1 := ⟨k - 1, by omega⟩
    simp only [varnum_lay.l0, layF]
    rw [if_neg (by simp at h1; omega), if_pos (by omega)]
  | succ m ih =>
    intro k x acc hk h0 h1 hl
    obtain ⟨k, rfl⟩ : ∃ j, k = j + 1 := ⟨k - 1, by omega⟩
    simp only [varnum_lay.l0, layF]
    by_cases hx : 127 < x
    · rw [if_pos hx, if_pos hx, if_pos (by omega), or128 _ (by omega) (by omega), ih k (x / 128) _ (by omega) (by omega) (by rw [Int.pow_succ] at h1; omega) (by simp; omega)]
      rw [List.append_assoc, show x % 256 % 128 = x % 128 by omega]
      rfl
    · rw [if_neg (by omega), if_neg hx, if_pos (by omega)]
theorem lay_f (k : Nat) (x : Int) (hk : 10 < k) (h0 : 0 ≤ x) (h1 : x < 18446744073709551616) : varnum_lay.f k x = some (layL x) := by
  unfold varnum_lay.f
  rw [lay_l0 10 k x [] hk h0 (by omega) (by simp)]
  rfl

/-- The value of the first n bytes, the least first. -/
def valN (l : List Int) : Nat → Int
  | 0 => 0
  | n + 1 => valN l n + rd l n % 128 * 128 ^ n
theorem valN_bd (l : List Int) (n : Nat) : 0 ≤ valN l n ∧ valN l n < 128 ^ n := by
  induction n with
  | zero => simp [valN]
  | succ n ih =>
    unfold valN
    have hp : (0 : Int) < 128 ^ n := Int.pow_pos (by decide)
    rw [Int.pow_succ]
    generalize (128 : Int) ^ n = p at *
    have h1 : 0 ≤ rd l n % 128 := by omega
    have h2 : rd l n % 128 ≤ 127 := by omega
    have h3 := Int.mul_nonneg h1 (Int.le_of_lt hp)
    have h4 := Int.mul_le_mul_of_nonneg_right h2 (Int.le_of_lt hp)
    omega

/-- How many bytes, of the first m, are not a last one. -/
def lead : Nat → List Int → Nat
  | 0, _ => 0
  | _ + 1, [] => 0
  | m + 1, x :: xs => if 128 ≤ x then lead m xs + 1 else 0
theorem lead_eq (m : Nat) : ∀ (l : List Int) (n : Nat), n ≤ m → n ≤ l.length → (∀ i, i < n → 128 ≤ rd l i) → (n = m ∨ n = l.length ∨ rd l n < 128) → lead m l = n := by
  induction m with
  | zero => intro l n h1 _ _ _; unfold lead; omega
  | succ m ih =>
    intro l n h1 h2 h3 h4
    cases l with
    | nil => simp at h2; subst h2; rfl
    | cons x xs =>
      unfold lead
      cases n with
      | zero =>
        rw [if_neg]
        rcases h4 with h | h | h
        · omega
        · simp at h
        · have h : x < 128 := h
          omega
      | succ n =>
        have hx : 128 ≤ x := h3 0 (by omega)
        rw [if_pos hx, ih xs n (by omega) (by simp at h2; omega) (fun i hi => by have := h3 (i + 1) (by omega); simpa [rd] using this) ?_]
        rcases h4 with h | h | h
        · exact .inl (by omega)
        · exact .inr (.inl (by simp at h; omega))
        · exact .inr (.inr (by simpa [rd] using h))

def zag (u : Int) : Int := if u % 2 = 0 then u / 2 else -(u / 2) - 1
/-- Whether a number's own bytes are the first n. -/
def sameB (u : Int) (l : List Int) (n : Nat) : Bool := (strOfNums (layL u)).toList == (strOfNums (l.take n)).toList
def val64 (l : List Int) (n : Nat) : Int := valN l n % 18446744073709551616
/-- A number, its bytes, and an error. -/
def getS (l : List Int) : Int × Nat × Int :=
  if lead 10 l = 10 then (0, 0, 4) else if lead 10 l = l.length then (0, 0, 3) else
  if sameB (val64 l (lead 10 l + 1)) l (lead 10 l + 1) then (zag (val64 l (lead 10 l + 1)), lead 10 l + 1, 0) else (0, 0, 4)

theorem or_shift (i : Nat) (hi : i ≤ 9) (u c : Int) (hu0 : 0 ≤ u) (hu : u < 128 ^ i) (hc0 : 0 ≤ c) (hc : c < 128) : Go.bits .or .u64 u (shl .u64 (IntKind.u64.wrap c) (wrap64 (7 * (i : Int)))) = (u + c * 128 ^ i) % 18446744073709551616 := by
  have hcm : ∀ x y : Int, Go.bits .or .u64 x y = Go.bits .or .u64 y x := fun x y => by unfold Go.bits; simp only [BitVec.or_comm]
  have hw : ∀ n : Int, 0 ≤ n → n < 2 ^ 64 → IntKind.u64.wrap n = n := fun n h1 h2 => by
    simp [IntKind.wrap, IntKind.bits, IntKind.signed]; omega
  have hm : ∀ n : Int, IntKind.u64.wrap n = n % 18446744073709551616 := fun n => by simp [IntKind.wrap, IntKind.bits, IntKind.signed]
  rw [hcm]
  have hwi : wrap64 (7 * (i : Int)) = 7 * (i : Int) := by unfold wrap64; omega
  rw [hwi, hw c hc0 (by omega)]
  unfold shl
  rw [hm]
  rcases (show i = 0 ∨ i = 1 ∨ i = 2 ∨ i = 3 ∨ i = 4 ∨ i = 5 ∨ i = 6 ∨ i = 7 ∨ i = 8 ∨ i = 9 by omega) with rfl | rfl | rfl | rfl | rfl | rfl | rfl | rfl | rfl | rfl
  · rw [bits_join .u64 64 (by decide) hw 0 _ u (by omega) (by simp [Int.emod_one]) (by omega) hu0 (by omega) (by omega)]
    simp [IntKind.bits]
    omega
  all_goals simp only [IntKind.bits] at *
  · rw [bits_join .u64 64 (by decide) hw 7 _ u (by omega) (by simp) (by omega) hu0 (by omega) (by omega)]; simp at *; omega
  · rw [bits_join .u64 64 (by decide) hw 14 _ u (by omega) (by simp) (by omega) hu0 (by omega) (by omega)]; simp at *; omega
  · rw [bits_join .u64 64 (by decide) hw 21 _ u (by omega) (by simp) (by omega) hu0 (by omega) (by omega)]; simp at *; omega
  · rw [bits_join .u64 64 (by decide) hw 28 _ u (by omega) (by simp) (by omega) hu0 (by omega) (by omega)]; simp at *; omega
  · rw [bits_join .u64 64 (by decide) hw 35 _ u (by omega) (by simp) (by omega) hu0 (by omega) (by omega)]; simp at *; omega
  · rw [bits_join .u64 64 (by decide) hw 42 _ u (by omega) (by simp) (by omega) hu0 (by omega) (by omega)]; simp at *; omega
  · rw [bits_join .u64 64 (by decide) hw 49 _ u (by omega) (by simp) (by omega) hu0 (by omega) (by omega)]; simp at *; omega
  · rw [bits_join .u64 64 (by decide) hw 56 _ u (by omega) (by simp) (by omega) hu0 (by omega) (by omega)]; simp at *; omega
  · rw [bits_join .u64 64 (by decide) hw 63 _ u (by omega) (by simp) (by omega) hu0 (by omega) (by omega)]; simp at *; omega

theorem lead_spec (m : Nat) : ∀ (l : List Int), lead m l ≤ m ∧ lead m l ≤ l.length ∧ (∀ i, i < lead m l → 128 ≤ rd l i) ∧ (lead m l = m ∨ lead m l = l.length ∨ rd l (lead m l) < 128) := by
  induction m with
  | zero => intro l; simp [lead]
  | succ m ih =>
    intro l
    cases l with
    | nil => simp [lead]
    | cons x xs =>
      unfold lead
      obtain ⟨h1, h2, h3, h4⟩ := ih xs
      by_cases hx : 128 ≤ x
      · rw [if_pos hx]
        refine ⟨by omega, by simp; omega, fun i hi => ?_, ?_⟩
        · cases i with
          | zero => exact hx
          | succ i => have := h3 i (by omega); simpa [rd] using this
        · rcases h4 with h | h | h
          · exact .inl (by omega)
          · exact .inr (.inl (by simp; omega))
          · exact .inr (.inr (by simpa [rd] using h))
      · rw [if_neg hx]
        exact ⟨by omega, by omega, fun i hi => by omega, .inr (.inr (by show x < 128; omega))⟩

def Bs (l : List Int) : Prop := ∀ x ∈ l, 0 ≤ x ∧ x < 256
theorem rd_bd {l : List Int} (hb : Bs l) (i : Int) : 0 ≤ rd l i ∧ rd l i < 256 := by
  unfold rd
  rw [List.getD_eq_getElem?_getD]
  cases h : l[i.toNat]? with
  | none => simp
  | some x => exact hb x (List.mem_of_getElem? h)
theorem zag_f (u : Int) (h0 : 0 ≤ u) (h1 : u < 18446744073709551616) : varnum_Zagzig.f u = some (zag u) := by
  have hw : ∀ n : Int, 0 ≤ n → n < 2 ^ 64 → IntKind.u64.wrap n = n := fun n h1 h2 => by
    simp [IntKind.wrap, IntKind.bits, IntKind.signed]; omega
  unfold varnum_Zagzig.f
  have ha : Go.bits .and .u64 u 1 = u % 2 := by
    have := bits_mask .u64 64 (by decide) hw 1 (by decide) u h0 (by omega)
    simpa using this
  rw [ha]
  have hx0 : ∀ x : Int, -9223372036854775808 ≤ x → x < 9223372036854775808 → Go.bits .xor .i64 x 0 = x := fun x h0 h1 => by
    unfold Go.bits
    simp only [BitVec.ofInt_ofNat]
    have : (BitVec.ofInt IntKind.i64.bits x ^^^ 0#IntKind.i64.bits) = BitVec.ofInt IntKind.i64.bits x := by simp
    rw [this, BitVec.toNat_ofInt]
    simp [IntKind.bits, IntKind.wrap, IntKind.signed]
    omega
  have hx1 : ∀ x : Int, 0 ≤ x → x < 9223372036854775808 → Go.bits .xor .i64 x (-1) = -x - 1 := fun x h0 h1 => by
    unfold Go.bits
    have e1 : BitVec.ofInt IntKind.i64.bits (-1) = BitVec.allOnes _ := by decide
    simp only [e1, BitVec.xor_allOnes, BitVec.toNat_not, BitVec.toNat_ofInt]
    simp [IntKind.bits, IntKind.wrap, IntKind.signed]
    omega
  unfold zag
  congr 1
  have e1 : wrap64 (u / 2) = u / 2 := by unfold wrap64; omega
  rw [e1]
  by_cases h : u % 2 = 0
  · rw [if_pos h, h, show wrap64 (-wrap64 0) = 0 by decide +kernel]
    exact hx0 _ (by omega) (by omega)
  · rw [if_neg h, show u % 2 = 1 by omega, show wrap64 (-wrap64 1) = -1 by decide +kernel, hx1 _ (by omega) (by omega)]

theorem val64_small {l : List Int} {i : Nat} (hi : i ≤ 9) : val64 l i = valN l i := by
  have h := valN_bd l i
  have : (128 : Int) ^ i ≤ 128 ^ 9 := by
    have := Nat.pow_le_pow_right (n := 128) (by decide) hi
    exact_mod_cast this
  unfold val64
  omega
theorem val64_bd (l : List Int) (i : Nat) : 0 ≤ val64 l i ∧ val64 l i < 18446744073709551616 := by unfold val64; omega
theorem val64_step {l : List Int} (hb : Bs l) {i : Nat} (hi : i ≤ 9) : Go.bits .or .u64 (val64 l i) (shl .u64 (IntKind.u64.wrap (Go.bits .and .u8 (rd l i) 127)) (wrap64 (7 * (i : Int)))) = val64 l (i + 1) := by
  have h1 := rd_bd hb i
  rw [and127 _ h1.1 h1.2, val64_small hi, or_shift i hi _ _ (valN_bd l i).1 (valN_bd l i).2 (by omega) (by omega)]
  rfl
theorem equal_f (u : Int) (l : List Int) (n : Nat) : bytes_Equal.f (layL u) (l.take n) = some (sameB u l n) := rfl

theorem get_l0 (l : List Int) (hl : l.length ≤ 300) (hb : Bs l) : ∀ (d i k : Nat), i + d = lead 10 l → d + 12 ≤ k →
    varnum_Get.l0 k l (val64 l i) (mn (l.length : Int) 10) i = some ((getS l).1, ((getS l).2.1 : Int), (getS l).2.2) := by
  obtain ⟨hn1, hn2, hn3, hn4⟩ := lead_spec 10 l
  have hw7 : ∀ i : Nat, i ≤ 10 → (0 : Int) ≤ wrap64 (7 * (i : Int)) := fun i hi => by rw [w64 _ (by omega) (by omega)]; omega
  have hw1 : ∀ i : Nat, i ≤ 10 → wrap64 ((i : Int) + 1) = ((i + 1 : Nat) : Int) := fun i hi => by unfold wrap64; omega
  have hmn : mn (l.length : Int) 10 = ((min l.length 10 : Nat) : Int) := by unfold mn; split <;> omega
  intro d
  induction d with
  | zero =>
    intro i k hi hk
    obtain rfl : i = lead 10 l := by omega
    obtain ⟨k, rfl⟩ : ∃ j, k = j + 1 := ⟨k - 1, by omega⟩
    unfold getS
    generalize lead 10 l = n at *
    simp only [varnum_Get.l0]
    by_cases h10 : n = 10
    · subst h10
      rw [if_neg (by rw [hmn]; omega), if_neg (by omega), if_pos rfl]
      rfl
    · by_cases hlen : n = l.length
      · rw [if_neg (by rw [hmn]; omega), if_pos (by omega), if_neg h10, if_pos hlen]
        rfl
      · have hlt : rd l n < 128 := by
          rcases hn4 with h | h | h
          · omega
          · omega
          · exact h
        have hr := rd_bd hb n
        rw [if_pos (by rw [hmn]; omega), if_pos (by omega), if_pos (by omega), if_pos (hw7 n (by omega)), if_pos ((and128 _ hr.1 hr.2).2 hlt)]
        rw [val64_step hb (by omega), lay_f k _ (by omega) (val64_bd _ _).1 (val64_bd _ _).2, hw1 n (by omega)]
        simp only [Option.bind_some]
        rw [if_pos (by omega), if_pos (by omega), Int.toNat_natCast, equal_f, zag_f _ (val64_bd _ _).1 (val64_bd _ _).2, if_neg h10, if_neg hlen]
        simp only [Option.bind_some]
        split <;> rfl
  | succ d ih =>
    intro i k hi hk
    obtain ⟨k, rfl⟩ : ∃ j, k = j + 1 := ⟨k - 1, by omega⟩
    simp only [varnum_Get.l0]
    have hr := rd_bd hb i
    have hge := hn3 i (by omega)
    rw [if_pos (by rw [hmn]; omega), if_pos (by omega), if_pos (by omega), if_pos (hw7 i (by omega)), if_neg (fun h => by have := (and128 _ hr.1 hr.2).1 h; omega)]
    rw [val64_step hb (by omega), hw1 i (by omega)]
    exact ih (i + 1) k (by omega) (by omega)
theorem get_f (l : List Int) (hl : l.length ≤ 300) (hb : Bs l) : varnum_Get.f 22 l = some ((getS l).1, ((getS l).2.1 : Int), (getS l).2.2) := by
  have := get_l0 l hl hb (lead 10 l) 0 22 (by omega) (by have := (lead_spec 10 l).1; omega)
  exact this
/-- What Get's answer is like. -/
theorem getS_fits (l : List Int) : (getS l).2.1 ≤ l.length ∧ ((getS l).2.2 ≠ 0 → (getS l).1 = 0 ∧ (getS l).2.1 = 0) ∧ 0 ≤ (getS l).2.2 ∧ (getS l).2.2 ≤ 4 ∧ -9223372036854775808 ≤ (getS l).1 ∧ (getS l).1 < 9223372036854775808 := by
  obtain ⟨hn1, hn2, hn3, hn4⟩ := lead_spec 10 l
  have hv := val64_bd l (lead 10 l + 1)
  unfold getS
  split
  · simp
  · split
    · simp
    · split
      · simp [zag]
        split <;> omega
      · simp
/-- How the document finds it. -/
theorem getS_eq {l : List Int} {n : Nat} (h1 : n ≤ 10) (h2 : n ≤ l.length) (h3 : ∀ i : Nat, i < n → 128 ≤ rd l i) (h4 : n = 10 ∨ n = l.length ∨ rd l n < 128) :
    getS l = if n = 10 then (0, 0, 4) else if n = l.length then (0, 0, 3) else if sameB (val64 l (n + 1)) l (n + 1) then (zag (val64 l (n + 1)), n + 1, 0) else (0, 0, 4) := by
  unfold getS
  rw [lead_eq 10 l n h1 h2 h3 h4]

/-- Bytes, the greatest first. -/
def unfS (l : List Int) : Int := l.foldl (fun u x => (256 * u + x) % 18446744073709551616) 0
theorem foldl_bd (l : List Int) : ∀ u : Int, 0 ≤ u ∧ u < 18446744073709551616 → 0 ≤ l.foldl (fun u x => (256 * u + x) % 18446744073709551616) u ∧ l.foldl (fun u x => (256 * u + x) % 18446744073709551616) u < 18446744073709551616 := by
  induction l with
  | nil => exact fun u h => h
  | cons x xs ih => exact fun u h => ih _ (by dsimp only; omega)
theorem unfS_bd (l : List Int) : 0 ≤ unfS l ∧ unfS l < 18446744073709551616 := foldl_bd l 0 (by omega)
theorem unf_l0 (l : List Int) (hl : l.length ≤ 300) (hb : Bs l) : ∀ (d i k : Nat), i + d = l.length → d < k → varnum_Unfixed.l0 k (unfS (l.take i)) l (l.length : Int) i = some (unfS l) := by
  intro d
  induction d with
  | zero =>
    intro i k hi hk
    obtain ⟨k, rfl⟩ : ∃ j, k = j + 1 := ⟨k - 1, by omega⟩
    simp only [varnum_Unfixed.l0]
    rw [if_neg (by omega), List.take_of_length_le (by omega)]
  | succ d ih =>
    intro i k hi hk
    obtain ⟨k, rfl⟩ : ∃ j, k = j + 1 := ⟨k - 1, by omega⟩
    simp only [varnum_Unfixed.l0]
    have hr := rd_bd hb i
    have hw1 : wrap64 ((i : Int) + 1) = ((i + 1 : Nat) : Int) := by unfold wrap64; omega
    rw [if_pos (by omega), if_pos (by omega), if_pos (by omega), hw1]
    have hs : Go.bits .or .u64 (IntKind.u64.wrap (unfS (l.take i) * 256)) (IntKind.u64.wrap (rd l i)) = unfS (l.take (i + 1)) := by
      have hwb : ∀ n : Int, 0 ≤ n → n < 2 ^ 64 → IntKind.u64.wrap n = n := fun n h1 h2 => by
        simp [IntKind.wrap, IntKind.bits, IntKind.signed]; omega
      have hm : ∀ n : Int, IntKind.u64.wrap n = n % 18446744073709551616 := fun n => by simp [IntKind.wrap, IntKind.bits, IntKind.signed]
      have ht : l.take (i + 1) = l.take i ++ [rd l i] := by
        rw [List.take_succ_eq_append_getElem (by omega)]
        simp [rd, List.getD_eq_getElem?_getD, List.getElem?_eq_getElem (show i < l.length by omega)]
      have hu := unfS_bd (l.take i)
      rw [ht]
      unfold unfS at hu ⊢
      rw [List.foldl_append]
      generalize List.foldl (fun u x => (256 * u + x) % 18446744073709551616) 0 (l.take i) = u at *
      simp only [List.foldl_cons, List.foldl_nil]
      rw [hwb _ hr.1 (by omega), hm]
      rw [bits_join .u64 64 (by decide) hwb 8 _ (rd l i) (by omega) (by simp) (by omega) hr.1 (by omega) (by omega)]
      omega
    rw [hs]
    exact ih (i + 1) k (by omega) (by omega)
theorem unf_f (l : List Int) (hl : l.length ≤ 300) (hb : Bs l) : varnum_Unfixed.f 301 l = some (unfS l) := unf_l0 l hl hb l.length 0 301 (by omega) (by omega)

def zig (n : Int) : Int := if 0 ≤ n then 2 * n else -2 * n - 1
theorem zig_f (n : Int) (h0 : -9223372036854775808 ≤ n) (h1 : n < 9223372036854775808) : varnum_Zigzag.f n = some (zig n) := by
  have hm : ∀ n : Int, IntKind.u64.wrap n = n % 18446744073709551616 := fun n => by simp [IntKind.wrap, IntKind.bits, IntKind.signed]
  unfold varnum_Zigzag.f zig
  rw [hm, hm, hm]
  congr 1
  by_cases h : 0 ≤ n
  · rw [if_pos h, show n / 9223372036854775808 % 18446744073709551616 = 0 by omega]
    unfold Go.bits
    have : (BitVec.ofInt IntKind.u64.bits (n % 18446744073709551616 * 2 % 18446744073709551616) ^^^ BitVec.ofInt IntKind.u64.bits 0) = BitVec.ofInt IntKind.u64.bits (n % 18446744073709551616 * 2 % 18446744073709551616) := by simp
    simp only [this, BitVec.toNat_ofInt, hm]
    simp [IntKind.bits]
    omega
  · rw [if_neg h, show n / 9223372036854775808 % 18446744073709551616 = 18446744073709551615 by omega]
    unfold Go.bits
    have e1 : BitVec.ofInt IntKind.u64.bits 18446744073709551615 = BitVec.allOnes _ := by decide
    simp only [e1, BitVec.xor_allOnes, BitVec.toNat_not, BitVec.toNat_ofInt, hm]
    simp [IntKind.bits]
    omega
theorem put_f (n : Int) (h0 : -9223372036854775808 ≤ n) (h1 : n < 9223372036854775808) : varnum_Put.f 11 n = some (layL (zig n)) := by
  unfold varnum_Put.f
  rw [zig_f n h0 h1]
  simp only [Option.bind_some]
  rw [lay_f 11 _ (by omega) (by unfold zig; split <;> omega) (by unfold zig; split <;> omega)]
  rfl
def txtS (s : ByteArray) : List Int := layL (zig s.size) ++ bytesOf s
theorem text_f (s : ByteArray) (hs : s.size ≤ 300) : varnum_Text.f 11 s = some (txtS s) := by
  unfold varnum_Text.f
  rw [put_f _ (by omega) (by omega)]
  simp only [Option.bind_some]
  have := layF_len 10 (zig s.size)
  rw [if_pos (by unfold layL; omega)]
  rfl
end Go.Proofs.Ytoinkagmhcojlaa
