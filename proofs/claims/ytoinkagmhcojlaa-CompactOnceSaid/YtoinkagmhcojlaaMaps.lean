/- Maps as lists of entries, in their order: read, written, made shorter. -/
import Derived.Test.YtoinkagmhcojlaaLib
namespace Go.Proofs.Ytoinkagmhcojlaa
open Go.RowKit
set_option linter.unusedVariables false
set_option linter.unusedSimpArgs false

section
variable {κ β : Type} [DecidableEq κ]
def get : List (κ × β) → κ → Option β
  | [], _ => none
  | p :: r, x => if x = p.1 then some p.2 else get r x
def put : List (κ × β) → κ → β → List (κ × β)
  | [], x, v => [(x, v)]
  | p :: r, x, v => if x = p.1 then (x, v) :: r else p :: put r x v
def del : List (κ × β) → κ → List (κ × β)
  | [], _ => []
  | p :: r, x => if x = p.1 then r else p :: del r x
def lkp : List (κ × β) → κ → Nat → Option (Nat × β)
  | [], _, _ => none
  | p :: r, x, i => if x = p.1 then some (i, p.2) else lkp r x (i + 1)

theorem get_put (l : List (κ × β)) (x y : κ) (v : β) : get (put l x v) y = if y = x then some v else get l y := by
  induction l with
  | nil => simp [put, get]
  | cons p r ih =>
    simp only [put]
    by_cases h : x = p.1
    · simp only [h, if_true, get]
      by_cases h2 : y = p.1 <;> simp [h2]
    · simp only [h, if_false, get, ih]
      by_cases h2 : y = p.1
      · have : ¬ y = x := fun e => h (e ▸ h2)
        simp [h2, this]
        intro e
        exact absurd e.symm h
      · simp [h2]

theorem get_none_iff (l : List (κ × β)) (x : κ) : get l x = none ↔ x ∉ l.map (·.1) := by
  induction l with
  | nil => simp [get]
  | cons p r ih =>
    simp only [get, List.map_cons, List.mem_cons, not_or]
    by_cases h : x = p.1 <;> simp [h, ih]

theorem put_keys (l : List (κ × β)) (x : κ) (v : β) : (put l x v).map (·.1) = if x ∈ l.map (·.1) then l.map (·.1) else l.map (·.1) ++ [x] := by
  induction l with
  | nil => simp [put]
  | cons p r ih =>
    simp only [put]
    by_cases h : x = p.1
    · simp [h]
    · simp only [h, if_false, List.map_cons, ih, List.mem_cons, false_or]
      split <;> simp

theorem put_nodup {l : List (κ × β)} (h : (l.map (·.1)).Nodup) (x : κ) (v : β) : ((put l x v).map (·.1)).Nodup := by
  rw [put_keys]
  split
  · exact h
  · rename_i hx
    rw [List.nodup_append]
    exact ⟨h, by simp, fun a ha b hb e => by simp at hb; subst hb; exact hx (e ▸ ha)⟩

theorem del_sub (l : List (κ × β)) (x : κ) : (del l x).Sublist l := by
  induction l with
  | nil => exact List.Sublist.slnil
  | cons p r ih =>
    simp only [del]
    split
    · exact List.Sublist.cons _ (List.Sublist.refl _)
    · exact List.Sublist.cons_cons _ ih

theorem del_nodup {l : List (κ × β)} (h : (l.map (·.1)).Nodup) (x : κ) : ((del l x).map (·.1)).Nodup := h.sublist ((del_sub l x).map _)

theorem get_del {l : List (κ × β)} (h : (l.map (·.1)).Nodup) (x y : κ) : get (del l x) y = if y = x then none else get l y := by
  induction l with
  | nil => simp [del, get]
  | cons p r ih =>
    simp only [List.map_cons, List.nodup_cons] at h
    simp only [del]
    by_cases hx : x = p.1
    · simp only [hx, if_true, get]
      by_cases hy : y = p.1
      · subst hx
        subst hy
        simp only [if_true]
        exact (get_none_iff _ _).2 h.1
      · simp [hy]
    · simp only [hx, if_false, get, ih h.2]
      by_cases hy : y = p.1
      · have : ¬ y = x := fun e => hx (e ▸ hy)
        simp [hy, this]
        intro e
        exact absurd e.symm hx
      · simp [hy]

theorem lkp_get (l : List (κ × β)) (x : κ) (i : Nat) : (lkp l x i).map (·.2) = get l x := by
  induction l generalizing i with
  | nil => rfl
  | cons p r ih =>
    simp only [lkp, get]
    split
    · rfl
    · exact ih _

theorem lkp_none {l : List (κ × β)} {x : κ} {i : Nat} (h : lkp l x i = none) (v : β) : put l x v = l ++ [(x, v)] ∧ del l x = l ∧ x ∉ l.map (·.1) := by
  induction l generalizing i with
  | nil => simp [put, del]
  | cons p r ih =>
    simp only [lkp] at h
    by_cases hx : x = p.1
    · simp [hx] at h
    · simp only [hx, if_false] at h
      have := ih h
      simp [put, del, hx, this.1, this.2.1]
      simpa using this.2.2

theorem lkp_some {l : List (κ × β)} {x : κ} {i j : Nat} {u : β} (h : lkp l x i = some (j, u)) (v : β) : i ≤ j ∧ j - i < l.length ∧ l[j - i]? = some (x, u) ∧ put l x v = l.set (j - i) (x, v) ∧ del l x = l.eraseIdx (j - i) := by
  induction l generalizing i with
  | nil => simp [lkp] at h
  | cons p r ih =>
    simp only [lkp] at h
    by_cases hx : x = p.1
    · simp only [hx, if_true, Option.some.injEq, Prod.mk.injEq] at h
      obtain ⟨rfl, rfl⟩ := h
      simp [put, del, hx]
    · simp only [hx, if_false] at h
      obtain ⟨h1, h2, h3, h4, h5⟩ := ih h
      have e : j - i = (j - (i + 1)) + 1 := by omega
      rw [e]
      refine ⟨by omega, by simp; omega, by simpa using h3, by simp [put, hx, h4], by simp [del, hx, h5]⟩
end

/-- What a look-up hands back: the entry's value, or the zero value. -/
def valOr {β : Type} (ev : β → Value) (z : Value) : Option β → Value
  | some v => ev v
  | none => z
@[simp] theorem valOr_some {β : Type} (ev : β → Value) (z : Value) (v : β) : valOr ev z (some v) = ev v := rfl
@[simp] theorem valOr_none {β : Type} (ev : β → Value) (z : Value) : valOr ev z none = z := rfl
theorem valOr_int (q : IntKind) (o : Option Int) : valOr (Value.int q) (.int q 0) o = .int q (o.getD 0) := by cases o <;> rfl
theorem valOr_bool (o : Option Bool) : valOr Value.bool (.bool false) o = .bool (o.getD false) := by cases o <;> rfl

/-- Block b is a map with just these entries, in their order; no key twice. -/
def MapIs {κ β : Type} [DecidableEq κ] (ek : κ → Value) (ev : β → Value) (w : World) (b : Nat) (l : List (κ × β)) : Prop :=
  (l.map (·.1)).Nodup ∧ l.length ≤ maxLen ∧ ∃ es clock, w.heap[b]? = some (.map es clock) ∧ es.toList.map (fun e => (e.key, e.val)) = l.map (fun p => (ek p.1, ev p.2))

/-- What the laws ask of the type of a key. -/
structure KeyOk (P : Program) (k : TypeId) {κ : Type} [DecidableEq κ] (ek : κ → Value) : Prop where
  chk : ∀ (x : κ) (em : Bool) (w : World), (Instr.checkKey em 10000 k (ek x)).run P w = .ok () w
  find : ∀ {β : Type} (ev : β → Value) (x : κ) (w : World) (es : List MapEntry) (l : List (κ × β)), es.map (fun e => (e.key, e.val)) = l.map (fun p => (ek p.1, ev p.2)) →
    (Instr.findKey k (ek x) es).run P w = .ok ((lkp l x 0).map fun p => (p.1, ev p.2)) w
  bits : ∀ x : κ, Instr.sameBits 10000 (ek x) (ek x) = true

theorem findNow_of {κ β : Type} [DecidableEq κ] {ek : κ → Value} {ev : β → Value} {kd : TypeDesc} (hs : ∀ x y : κ, Instr.sameNow kd (ek x) (ek y) = some (decide (x = y))) (x : κ) :
    ∀ (es : List MapEntry) (l : List (κ × β)) (i : Nat), es.map (fun e => (e.key, e.val)) = l.map (fun p => (ek p.1, ev p.2)) → Instr.findNow kd (ek x) es i = some ((lkp l x i).map fun p => (p.1, ev p.2))
  | [], [], i, _ => rfl
  | [], _ :: _, _, h => by simp at h
  | _ :: _, [], _, h => by simp at h
  | e :: es, p :: l, i, h => by
    simp only [List.map_cons, List.cons.injEq, Prod.mk.injEq] at h
    obtain ⟨⟨h1, h2⟩, h3⟩ := h
    simp only [Instr.findNow, h1, hs, lkp]
    by_cases hx : x = p.1
    · simp [hx, h2]
    · simp only [hx, decide_false, if_false]
      exact findNow_of hs x es l (i + 1) h3

theorem KeyOk.of_now {P : Program} {k : TypeId} {κ : Type} [DecidableEq κ] {ek : κ → Value} {kd : TypeDesc} (hk : P.underlying k = some kd)
    (hs : ∀ x y : κ, Instr.sameNow kd (ek x) (ek y) = some (decide (x = y))) (hc : ∀ (x : κ) (em : Bool) (w : World), (Instr.checkKey em 10000 k (ek x)).run P w = .ok () w)
    (hb : ∀ x : κ, Instr.sameBits 10000 (ek x) (ek x) = true) : KeyOk P k ek where
  chk := hc
  bits := hb
  find ev x w es l h := by
    simp [Instr.findKey, run_underlying hk, findNow_of hs x es l 0 h]

theorem bytes_beq {x y : ByteArray} : (x == y) = true ↔ x = y := by
  rw [beq_toListBytes, beq_iff_eq, toList_iff]
theorem chk_plain {P : Program} {k : TypeId} (hk : P.underlying k = some .string ∨ ∃ q, P.underlying k = some (.int q)) (em : Bool) (n : Nat) (w : World) (v : Value) : (Instr.checkKey em (n + 1) k v).run P w = .ok () w := by
  rcases hk with hk | ⟨q, hk⟩ <;> simp only [Instr.checkKey, Sem.run_bind, run_underlying hk, Result.andThen_ok, Sem.run_pure]
theorem KeyOk.str {P : Program} {k : TypeId} (hk : P.underlying k = some .string) : KeyOk P k Value.string :=
  KeyOk.of_now hk (fun x y => by simp only [Instr.sameNow, Option.some.injEq]; rw [Bool.eq_iff_iff, decide_eq_true_iff]; exact bytes_beq)
    (fun x em w => by exact chk_plain (.inl hk) em 9999 w _) (fun x => by show (x == x) = true; exact bytes_beq.2 rfl)

theorem KeyOk.int {P : Program} {k : TypeId} {q : IntKind} (hk : P.underlying k = some (.int q)) : KeyOk P k (Value.int q) :=
  KeyOk.of_now hk (fun x y => by simp only [Instr.sameNow, if_true, Option.some.injEq]; rw [Bool.eq_iff_iff]; simp)
    (fun x em w => by exact chk_plain (.inr ⟨_, hk⟩) em 9999 w _) (fun x => by show (q == q && x == x) = true; simp)

section
variable {κ β : Type} [DecidableEq κ] {P : Program} {w w' : World} {ek : κ → Value} {ev : β → Value} {b T k e : Nat} {l : List (κ × β)}

theorem MapIs.lt (h : MapIs ek ev w b l) : b < w.heap.size := by
  obtain ⟨_, _, es, clock, hb, _⟩ := h
  exact (Array.getElem?_eq_some_iff.1 hb).1
theorem MapIs.move (h : MapIs ek ev w b l) (hs : w'.heap[b]? = w.heap[b]?) : MapIs ek ev w' b l := by
  obtain ⟨h1, h2, es, clock, hb, he⟩ := h
  exact ⟨h1, h2, es, clock, by rw [hs]; exact hb, he⟩
theorem MapIs.below (h : MapIs ek ev w b l) (hb : Below w.heap.size w w') : MapIs ek ev w' b l := h.move (hb.block b h.lt)
theorem MapIs.alloc (h : MapIs ek ev w b l) (o : Obj) : MapIs ek ev (w.alloc o) b l := h.move (Below.heap_alloc _ _ _ h.lt)
theorem MapIs.drew (h : MapIs ek ev w b l) : MapIs ek ev w.drew b l := h
theorem MapIs.drewN (h : MapIs ek ev w b l) (n : Nat) : MapIs ek ev (w.drewN n) b l := h
theorem MapIs.made (ek : κ → Value) (ev : β → Value) (w : World) : MapIs ek ev (w.alloc (.map #[] 0)) w.heap.size [] :=
  ⟨by simp, Nat.zero_le _, #[], 0, (MapKept.heap_alloc w _).1, rfl⟩

theorem run_getObj_map' {es : Array MapEntry} {clock : Nat} (hb : w.heap[b]? = some (.map es clock)) : (getObj b).run P w = .ok (.map es clock) w := MapKept.run_getObj_map hb

theorem MapIs.run_get (h : MapIs ek ev w b l) (K : KeyOk P k ek) (ht : P.underlying T = some (.map k e)) {z : Value} (hz : (zeroValue e).run P w = .ok z w) (x : κ) :
    (Instr.lookup T (.map (some b)) (ek x) false).run P w = .ok (valOr ev z (get l x)) w := by
  obtain ⟨_, _, es, clock, hb, he⟩ := h
  simp only [Instr.lookup, Sem.run_bind, run_underlying ht, Result.andThen_ok, run_getObj_map' hb, K.chk, ← lkp_get l x 0]
  rw [Sem.run_pure]
  simp only [Result.andThen_ok, K.chk]
  rw [K.find ev x w es.toList l he]
  cases lkp l x 0 with
  | none => simp [hz, valOr]
  | some p => simp [valOr]

theorem MapIs.run_get_ok (h : MapIs ek ev w b l) (K : KeyOk P k ek) (ht : P.underlying T = some (.map k e)) {z : Value} (hz : (zeroValue e).run P w = .ok z w) (x : κ) :
    (Instr.lookup T (.map (some b)) (ek x) true).run P w = .ok (.tuple #[valOr ev z (get l x), .bool (get l x).isSome]) w := by
  obtain ⟨_, _, es, clock, hb, he⟩ := h
  simp only [Instr.lookup, Sem.run_bind, run_underlying ht, Result.andThen_ok, run_getObj_map' hb, K.chk, ← lkp_get l x 0]
  rw [Sem.run_pure]
  simp only [Result.andThen_ok, K.chk]
  rw [K.find ev x w es.toList l he]
  cases lkp l x 0 with
  | none => simp [hz, valOr]
  | some p => simp [valOr]

/-- A block that is no row of cells, set. -/
def setObjW (w : World) (b : Nat) (o : Obj) : World := { w with heap := w.heap.setIfInBounds b o }
theorem setObjW_grown (w : World) (b : Nat) (o : Obj) : w.grownBy (setObjW w b o) (some b) :=
  ⟨rfl, rfl, rfl, by simp [setObjW], fun k _ hk => by
    simp only [setObjW, Array.getElem?_setIfInBounds]
    rw [if_neg (fun e => hk (by rw [e]))]⟩

theorem MapIs.run_put (h : MapIs ek ev w b l) (K : KeyOk P k ek) (ht : P.underlying T = some (.map k e)) (x : κ) (v : β) (hroom : l.length < maxLen) :
    ∃ w', (Instr.mapUpdate T (.map (some b)) (ek x) (ev v)).run P w = .ok () w' ∧ MapIs ek ev w' b (put l x v) ∧ w.grownBy w' (some b) := by
  obtain ⟨hn, hl, es, clock, hb, he⟩ := h
  have hlt : b < w.heap.size := (Array.getElem?_eq_some_iff.1 hb).1
  have hset : ∀ o : Obj, (setObjW w b o).heap[b]? = some o := fun o => by simp [setObjW, hlt]
  have hlen : es.size = l.length := by have := congrArg List.length he; simpa using this
  have hrs : ∀ o : Obj, (setObj b o).run P w = .ok () (setObjW w b o) := fun o => by simp [setObj, Sem.run, hb, setObjW]
  cases hk : lkp l x 0 with
  | none =>
    obtain ⟨e1, _, hx⟩ := lkp_none hk v
    refine ⟨setObjW w b (.map (es.push { key := ek x, val := ev v, born := clock }) (clock + 1)), ?_, ⟨put_nodup hn _ _, ?_, _, _, hset _, ?_⟩, setObjW_grown _ _ _⟩
    · simp only [Instr.mapUpdate, Sem.run_bind, run_underlying ht, Result.andThen_ok, run_getObj_map' hb, K.chk, K.find ev x w es.toList l he, hk, Option.map_none, hrs]
    · rw [e1]; simp; omega
    · rw [e1]; simp [he]
  | some p =>
    obtain ⟨j, u⟩ := p
    obtain ⟨_, h2, h3, h4, _⟩ := lkp_some hk v
    simp only [Nat.sub_zero] at h2 h3 h4
    have hj : j < es.size := by omega
    have hkey : es[j].key = ek x ∧ es[j].val = ev u := by
      have := congrArg (fun t : List (Value × Value) => t[j]?) he
      simp [h3, hj] at this
      exact this
    refine ⟨setObjW w b (.map (es.modify j fun e => { e with key := ek x, val := ev v }) clock), ?_, ⟨put_nodup hn _ _, ?_, _, _, hset _, ?_⟩, setObjW_grown _ _ _⟩
    · simp only [Instr.mapUpdate, Sem.run_bind, run_underlying ht, Result.andThen_ok, run_getObj_map' hb, K.chk, K.find ev x w es.toList l he, hk, Option.map_some, Instr.keyThatStays]
      simp [hj, hkey.1, K.bits, hrs]
    · rw [h4]; simp; exact hl
    · rw [h4]
      apply List.ext_getElem?
      intro i
      have := congrArg (fun t : List (Value × Value) => t[i]?) he
      simp only [List.getElem?_map, Array.getElem?_toList] at this
      simp only [List.getElem?_map, Array.getElem?_toList, Array.getElem?_modify, List.getElem?_set, h2, if_true]
      by_cases hij : j = i
      · subst hij; simp [hj]
      · simp [hij, this]

theorem MapIs.run_len (h : MapIs ek ev w b l) : ∃ es clock, w.heap[b]? = some (.map es clock) ∧ es.size = l.length := by
  obtain ⟨_, _, es, clock, hb, he⟩ := h
  exact ⟨es, clock, hb, by have := congrArg List.length he; simpa using this⟩
end

/-! ### At the operation -/
section
variable {κ β : Type} [DecidableEq κ] {P : Program} {w : World} {ops : Array Oper} {rest : List Oper} {o : Oper} {a : Act} {Q : Exit → Act → World → Prop} {ek : κ → Value} {ev : β → Value}

theorem wpList_get (hg : o.guard = none) (m x : Operand) (T : TypeId) (hop : o.op = Op.lookup T m x false) (k e : TypeId) (K : KeyOk P k ek) (ht : P.underlying T = some (.map k e)) (z : Value) (hz : (zeroValue e).run P w = .ok z w)
    (b : Nat) (l : List (κ × β)) (hm : a.eval m = .map (some b)) (h : MapIs ek ev w b l) (key : κ) (hx : a.eval x = ek key)
    (hK : wpList P ops Q rest (a.put o.dst (valOr ev z (get l key))) w) : wpList P ops Q (o :: rest) a w := by
  refine wpList_plain hg fun K' hK' => ?_
  unfold Oper.wp
  simp only [execOp, hop, hm, hx, Sem.run_bind, h.run_get K ht hz key, Result.andThen_ok, Sem.run_pure, Oper.upon, Sem.run_map]
  exact hK' _ _ hK

theorem wpList_get_ok (hg : o.guard = none) (m x : Operand) (T : TypeId) (hop : o.op = Op.lookup T m x true) (k e : TypeId) (K : KeyOk P k ek) (ht : P.underlying T = some (.map k e)) (z : Value) (hz : (zeroValue e).run P w = .ok z w)
    (b : Nat) (l : List (κ × β)) (hm : a.eval m = .map (some b)) (h : MapIs ek ev w b l) (key : κ) (hx : a.eval x = ek key)
    (hK : wpList P ops Q rest (a.put o.dst (.tuple #[valOr ev z (get l key), .bool (get l key).isSome])) w) : wpList P ops Q (o :: rest) a w := by
  refine wpList_plain hg fun K' hK' => ?_
  unfold Oper.wp
  simp only [execOp, hop, hm, hx, Sem.run_bind, h.run_get_ok K ht hz key, Result.andThen_ok, Sem.run_pure, Oper.upon, Sem.run_map]
  exact hK' _ _ hK

theorem wpList_put (hg : o.guard = none) (m x v : Operand) (T : TypeId) (hop : o.op = Op.mapUpdate T m x v) (k e : TypeId) (K : KeyOk P k ek) (ht : P.underlying T = some (.map k e))
    (b : Nat) (l : List (κ × β)) (hm : a.eval m = .map (some b)) (h : MapIs ek ev w b l) (hroom : l.length < maxLen) (key : κ) (hx : a.eval x = ek key) (val : β) (hv : a.eval v = ev val)
    (hK : ∀ w', MapIs ek ev w' b (put l key val) → w.grownBy w' (some b) → wpList P ops Q rest (a.put o.dst undef) w') : wpList P ops Q (o :: rest) a w := by
  refine wpList_plain hg fun K' hK' => ?_
  obtain ⟨w', hrun, h1, h2⟩ := h.run_put K ht key val hroom
  unfold Oper.wp
  simp only [execOp, hop, hm, hx, hv, Sem.run_bind, hrun, Result.andThen_ok, Sem.run_pure, Oper.upon, Sem.run_map]
  exact hK' _ _ (hK w' h1 h2)
end
end Go.Proofs.Ytoinkagmhcojlaa
