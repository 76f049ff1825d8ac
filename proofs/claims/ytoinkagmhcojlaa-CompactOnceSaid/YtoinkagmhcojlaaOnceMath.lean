/- CompactOnce: the plain law: of offsets that rise no key stands twice in what stays. -/
import Derived.Test.YtoinkagmhcojlaaStays
namespace Go.Proofs.Ytoinkagmhcojlaa
open Go.RowKit
set_option linter.unusedVariables false
set_option linter.unusedSimpArgs false

/-- All records, each with its offset. -/
def allRec (l : List Bat) : List (Int × Rec) := l.flatMap fun b => b.records.map fun r => (atOf b r, r)
theorem allRec_append (a b : List Bat) : allRec (a ++ b) = allRec a ++ allRec b := by simp [allRec]
theorem allRec_snoc (l : List Bat) (k : Nat) (h : k < l.length) : allRec (l.take (k + 1)) = allRec (l.take k) ++ (l[k]'h).records.map fun r => (atOf (l[k]'h) r, r) := by
  rw [List.take_succ_eq_append_getElem h, allRec_append]
  simp [allRec]

/-- Where a key stands last, over all records. -/
def stepP (key : ByteArray) (s : Int × Bool) (p : Int × Rec) : Int × Bool := if p.2.keyed = true ∧ p.2.key = key ∧ (s.2 = false ∨ s.1 < p.1) then (p.1, true) else s
def lastP (key : ByteArray) (X : List (Int × Rec)) (s : Int × Bool) : Int × Bool := X.foldl (stepP key) s
theorem lastOf_all (key : ByteArray) (l : List Bat) : ∀ s, lastOf key l s = lastP key (allRec l) s := by
  induction l with
  | nil => intro s; rfl
  | cons b l ih =>
    intro s
    have e : allRec (b :: l) = (b.records.map fun r => (atOf b r, r)) ++ allRec l := by simp [allRec]
    show lastOf key l (lastIn key b b.records s) = _
    rw [ih, e]
    unfold lastP
    rw [List.foldl_append]
    congr 1
    unfold lastIn
    rw [List.foldl_map]
    rfl
theorem lastP_at (key : ByteArray) (X : List (Int × Rec)) : ∀ s, (lastP key X s).2 = true → lastP key X s = s ∨ ∃ r, ((lastP key X s).1, r) ∈ X ∧ r.keyed = true ∧ r.key = key := by
  induction X with
  | nil => intro s _; exact .inl rfl
  | cons p X ih =>
    intro s h
    have e : lastP key (p :: X) s = lastP key X (stepP key s p) := rfl
    rw [e] at h ⊢
    rcases ih _ h with h' | ⟨r, hm, hk⟩
    · rw [h']
      unfold stepP
      by_cases hc : p.2.keyed = true ∧ p.2.key = key ∧ (s.2 = false ∨ s.1 < p.1)
      · rw [if_pos hc]
        exact .inr ⟨p.2, by simp, hc.1, hc.2.1⟩
      · rw [if_neg hc]
        exact .inl rfl
    · exact .inr ⟨r, List.mem_cons_of_mem _ hm, hk⟩
theorem lastP_mono (key : ByteArray) (X : List (Int × Rec)) : ∀ s, leS s (lastP key X s) := by
  induction X with
  | nil => exact fun s => leS.refl s
  | cons p X ih =>
    intro s
    refine leS.trans ?_ (ih _)
    intro hs
    unfold stepP
    split
    · rename_i h
      refine ⟨rfl, ?_⟩
      rcases h.2.2 with h' | h'
      · rw [hs] at h'; cases h'
      · exact Int.le_of_lt h'
    · exact ⟨hs, Int.le_refl _⟩
theorem lastP_ge (X : List (Int × Rec)) (p : Int × Rec) (hp : p ∈ X) (hk : p.2.keyed = true) : ∀ s, (lastP p.2.key X s).2 = true ∧ p.1 ≤ (lastP p.2.key X s).1 := by
  induction X with
  | nil => simp at hp
  | cons q X ih =>
    intro s
    by_cases hx : p ∈ X
    · exact ih hx _
    · have : p = q := by simpa [hx] using hp
      subst this
      have h1 : (stepP p.2.key s p).2 = true ∧ p.1 ≤ (stepP p.2.key s p).1 := by
        unfold stepP
        by_cases h : s.2 = false ∨ s.1 < p.1
        · rw [if_pos ⟨hk, rfl, h⟩]; exact ⟨rfl, Int.le_refl _⟩
        · rw [if_neg (fun h' => h h'.2.2)]
          have h2 : s.2 = true := by
            cases hs : s.2
            · exact absurd (.inl hs) h
            · rfl
          exact ⟨h2, by have := fun h' => h (.inr h'); omega⟩
      have h3 := lastP_mono p.2.key X (stepP p.2.key s p) h1.1
      exact ⟨h3.1, Int.le_trans h1.2 h3.2⟩

/-- Offsets rise. -/
def Up (X : List (Int × Rec)) : Prop := X.Pairwise fun p q => p.1 < q.1
theorem Up.inj {X : List (Int × Rec)} (h : Up X) {p q : Int × Rec} (hp : p ∈ X) (hq : q ∈ X) (he : p.1 = q.1) : p = q := by
  induction X with
  | nil => simp at hp
  | cons x X ih =>
    unfold Up at h ih
    rw [List.pairwise_cons] at h
    rcases List.mem_cons.1 hp with rfl | hp'
    · rcases List.mem_cons.1 hq with rfl | hq'
      · rfl
      · have := h.1 q hq'; omega
    · rcases List.mem_cons.1 hq with rfl | hq'
      · have := h.1 p hp'; omega
      · exact ih h.2 hp' hq'

def lastsP (X : List (Int × Rec)) (key : ByteArray) : Int := (lastP key X (0, false)).1
/-- What stays, of all records. -/
def staysP (X : List (Int × Rec)) (now grace : Int) (p : Int × Rec) : Bool := !p.2.keyed || (decide (p.1 = lastsP X p.2.key) && !lateB p.2 now grace)
theorem lastsP_map (l : List Bat) (key : ByteArray) : (get (mapOf l []) key).getD 0 = lastsP (allRec l) key := by
  rw [lastsP, ← lastOf_all, ← mapOf_last, asPair_fst]
theorem allRec_clean (l : List Bat) (now grace : Int) : ∀ m : List Bat, allRec (cleanOf (mapOf l []) now grace m) = (allRec m).filter (staysP (allRec l) now grace) := by
  intro m
  induction m with
  | nil => rfl
  | cons b m ih =>
    have e : allRec (b :: m) = (b.records.map fun r => (atOf b r, r)) ++ allRec m := by simp [allRec]
    rw [e, List.filter_append, ← ih]
    have hk : (b.records.map fun r => (atOf b r, r)).filter (staysP (allRec l) now grace) = (keptOf (mapOf l []) now grace b).map fun r => (atOf b r, r) := by
      rw [List.filter_map]
      congr 1
      unfold keptOf
      congr 1
      funext r
      simp only [Function.comp, staysP, keepsB, lastsP_map]
    rw [hk]
    unfold cleanOf
    by_cases hs : staysB (mapOf l []) now grace b = true
    · rw [List.filter_cons_of_pos hs, List.map_cons]
      show allRec (batOf (mapOf l []) now grace b :: _) = _
      have e2 : allRec (batOf (mapOf l []) now grace b :: List.map (batOf (mapOf l []) now grace) (List.filter (staysB (mapOf l []) now grace) m)) = ((batOf (mapOf l []) now grace b).records.map fun r => (atOf (batOf (mapOf l []) now grace b) r, r)) ++ allRec (List.map (batOf (mapOf l []) now grace) (List.filter (staysB (mapOf l []) now grace) m)) := by simp [allRec]
      rw [e2]
      rfl
    · rw [List.filter_cons_of_neg hs]
      have : keptOf (mapOf l []) now grace b = [] := by
        have h0 : staysB (mapOf l []) now grace b = false := by simpa using hs
        simp [staysB] at h0
        exact h0.1
      rw [this]
      rfl
/-- The keys, in order. -/
def keysP (X : List (Int × Rec)) : List ByteArray := (X.filter fun p => p.2.keyed).map fun p => p.2.key

theorem stays_iff {X : List (Int × Rec)} {now grace : Int} {p : Int × Rec} (h : p ∈ X.filter (staysP X now grace)) (hk : p.2.keyed = true) : p.1 = lastsP X p.2.key := by
  have := (List.mem_filter.1 h).2
  simp [staysP, hk] at this
  exact this.1
theorem keys_nodup (X : List (Int × Rec)) (hX : Up X) (now grace : Int) : (keysP (X.filter (staysP X now grace))).Nodup := by
  unfold keysP List.Nodup
  rw [List.pairwise_map]
  have h1 : ((X.filter (staysP X now grace)).filter fun p => p.2.keyed).Pairwise fun p q => p.1 < q.1 := (hX.filter _).filter _
  refine List.Pairwise.imp_of_mem (fun {p q} hp hq hlt he => ?_) h1
  have hp' := List.mem_filter.1 hp
  have hq' := List.mem_filter.1 hq
  have e1 := stays_iff hp'.1 hp'.2
  have e2 := stays_iff hq'.1 hq'.2
  rw [he] at e1
  omega
theorem nodup_le {α : Type} [DecidableEq α] (a : List α) : ∀ b : List α, a.Nodup → (∀ x ∈ a, x ∈ b) → a.length ≤ b.length := by
  induction a with
  | nil => intro b _ _; simp
  | cons x a ih =>
    intro b hn hs
    rw [List.nodup_cons] at hn
    have hx := hs x (by simp)
    have := ih (b.erase x) hn.2 (fun y hy => (List.mem_erase_of_ne (fun e => by rw [e] at hy; exact hn.1 hy)).2 (hs y (by simp [hy])))
    rw [List.length_erase_of_mem hx] at this
    have hpos := List.length_pos_of_mem hx
    simp
    omega
theorem get_mem {κ β : Type} [DecidableEq κ] (l : List (κ × β)) (k : κ) : (get l k).isSome = true ↔ k ∈ l.map (·.1) := by
  induction l with
  | nil => simp [get]
  | cons p l ih =>
    simp only [get, List.map_cons, List.mem_cons]
    by_cases h : k = p.1
    · simp [h]
    · simp only [h, if_false, false_or]
      exact ih
theorem last_some (l : List Bat) (key : ByteArray) : (get (mapOf l []) key).isSome = (lastP key (allRec l) (0, false)).2 := by
  rw [← lastOf_all, ← mapOf_last, asPair_snd]
theorem keys_in (l : List Bat) (now grace : Int) : ∀ k ∈ keysP ((allRec l).filter (staysP (allRec l) now grace)), k ∈ (mapOf l []).map (·.1) := by
  intro k hk
  unfold keysP at hk
  obtain ⟨p, hp, rfl⟩ := List.mem_map.1 hk
  have hp' := List.mem_filter.1 hp
  rw [← get_mem, last_some]
  exact (lastP_ge _ p (List.mem_filter.1 hp'.1).1 hp'.2 _).1
theorem keys_all (l : List Bat) (now grace : Int) (hd : ∀ p ∈ allRec l, p.2.dead = false) : ∀ k ∈ (mapOf l []).map (·.1), k ∈ keysP ((allRec l).filter (staysP (allRec l) now grace)) := by
  intro k hk
  rw [← get_mem, last_some] at hk
  rcases lastP_at k (allRec l) (0, false) hk with h | ⟨r, hm, hr, rfl⟩
  · rw [h] at hk; cases hk
  · unfold keysP
    refine List.mem_map.2 ⟨(_, r), List.mem_filter.2 ⟨List.mem_filter.2 ⟨hm, ?_⟩, hr⟩, rfl⟩
    have hdd := hd _ hm
    simp [staysP, lastsP, lateB, lateF, show r.dead = false from hdd]
theorem stays_again (X : List (Int × Rec)) (now grace : Int) (hd : ∀ p ∈ X, p.2.dead = false) : ∀ p ∈ X.filter (staysP X now grace), staysP (X.filter (staysP X now grace)) now grace p = true := by
  intro p hp
  have hdd := hd p (List.mem_filter.1 hp).1
  show (!p.2.keyed || (decide (p.1 = lastsP (X.filter (staysP X now grace)) p.2.key) && !lateB p.2 now grace)) = true
  cases hk : p.2.keyed
  · rfl
  · have h1 := lastP_ge _ p hp hk (0, false)
    rcases lastP_at p.2.key (X.filter (staysP X now grace)) (0, false) h1.1 with h | ⟨r, hm, hr, hkey⟩
    · rw [h] at h1; cases h1.1
    · have e1 := stays_iff hp hk
      have e2 := stays_iff hm hr
      simp only [hkey] at e2
      have : p.1 = lastsP (X.filter (staysP X now grace)) p.2.key := by
        unfold lastsP
        rw [e2, e1]
      have hl : lateB p.2 now grace = false := by simp [lateB, lateF, hdd]
      rw [← this, hl]
      simp
theorem clean_again (l : List Bat) (now grace : Int) (hd : ∀ p ∈ allRec l, p.2.dead = false) : cleanOf (mapOf (cleanOf (mapOf l []) now grace l) []) now grace (cleanOf (mapOf l []) now grace l) = cleanOf (mapOf l []) now grace l := by
  obtain ⟨C, hC⟩ : ∃ C, C = cleanOf (mapOf l []) now grace l := ⟨_, rfl⟩
  rw [← hC]
  have hall : allRec C = (allRec l).filter (staysP (allRec l) now grace) := by rw [hC, allRec_clean]
  have hkept : ∀ b ∈ C, keptOf (mapOf C []) now grace b = b.records := by
    intro b hb
    unfold keptOf
    rw [List.filter_eq_self]
    intro r hr
    have hm : (atOf b r, r) ∈ allRec C := List.mem_flatMap.2 ⟨b, hb, List.mem_map.2 ⟨r, hr, rfl⟩⟩
    have h1 := stays_again (allRec l) now grace hd (atOf b r, r) (by rw [← hall]; exact hm)
    rw [← hall] at h1
    rw [← h1, lastsP_map]
    rfl
  have hst : ∀ b ∈ C, staysB (mapOf C []) now grace b = true := by
    intro b hb
    have hb' := hb
    rw [hC] at hb'
    unfold cleanOf at hb'
    obtain ⟨b0, h0, rfl⟩ := List.mem_map.1 hb'
    have h2 := (List.mem_filter.1 h0).2
    unfold staysB
    rw [hkept _ hb]
    exact h2
  unfold cleanOf
  rw [List.filter_eq_self.2 hst]
  conv => rhs; rw [← List.map_id C]
  refine List.map_congr_left fun b hb => ?_
  show batOf (mapOf C []) now grace b = b
  unfold batOf
  rw [hkept b hb]
theorem not_dirty (l : List Bat) (now grace : Int) (hd : ∀ p ∈ allRec l, p.2.dead = false) : dirtyOf (cleanOf (mapOf l []) now grace l) now grace = false := by
  unfold dirtyOf
  rw [clean_again l now grace hd]
  simp
theorem keys_le (l : List Bat) (now grace : Int) (hX : Up (allRec l)) (hn : ((mapOf l []).map (·.1)).Nodup) :
    (keysP (allRec (cleanOf (mapOf l []) now grace l))).length ≤ (mapOf l []).length ∧ ((∀ p ∈ allRec l, p.2.dead = false) → (keysP (allRec (cleanOf (mapOf l []) now grace l))).length = (mapOf l []).length) := by
  rw [allRec_clean]
  have h1 := nodup_le _ _ (keys_nodup (allRec l) hX now grace) (keys_in l now grace)
  rw [List.length_map] at h1
  refine ⟨h1, fun hd => ?_⟩
  have h2 := nodup_le _ _ hn (keys_all l now grace hd)
  rw [List.length_map] at h2
  omega
end Go.Proofs.Ytoinkagmhcojlaa
