/- The data of layer 17: records and batches; where a key stands last, by definition. -/
import Derived.Test.YtoinkagmhcojlaaMaps
namespace Go.Proofs.Ytoinkagmhcojlaa
open Go.RowKit
set_option linter.unusedVariables false
set_option linter.unusedSimpArgs false

structure Rec where
  delta : Int
  time : Int
  keyed : Bool
  key : ByteArray
  dead : Bool
  value : ByteArray
  deriving DecidableEq

structure Bat where
  base : Int
  count : Int
  producer : Int
  epoch : Int
  seq : Int
  records : List Rec
  deriving DecidableEq

abbrev in64 (n : Int) : Prop := (Lit.int .i64 n).wf = true

def recK : Rp Rec := (Rp.pair (Rp.int .i64) (Rp.pair (Rp.int .i64) (Rp.pair Rp.bool (Rp.pair Rp.str (Rp.pair Rp.bool Rp.str))))).iso fun r => (r.delta, r.time, r.keyed, r.key, r.dead, r.value)
def batK : Rp Bat := (Rp.pair (Rp.int .i64) (Rp.pair (Rp.int .i64) (Rp.pair (Rp.int .i64) (Rp.pair (Rp.int .i64) (Rp.pair (Rp.int .i64) (Rp.slice recK)))))).iso fun b => (b.base, b.count, b.producer, b.epoch, b.seq, b.records)

def recCells (r : Rec) : List Value := [.int .i64 r.delta, .int .i64 r.time, .bool r.keyed, .string r.key, .bool r.dead, .string r.value]
def batCells (b : Bat) (A : Option Addr) (c : Nat) : List Value := [.int .i64 b.base, .int .i64 b.count, .int .i64 b.producer, .int .i64 b.epoch, .int .i64 b.seq, .slice A b.records.length c]

structure RecOk (r : Rec) : Prop where
  delta : in64 r.delta
  time : in64 r.time
  key : r.key.size ≤ maxLen
  value : r.value.size ≤ maxLen

structure BatOk (b : Bat) : Prop where
  base : in64 b.base
  count : in64 b.count
  producer : in64 b.producer
  epoch : in64 b.epoch
  seq : in64 b.seq

theorem recK_sz : recK.sz = 6 := rfl
theorem batK_sz : batK.sz = 6 := rfl

theorem recK_iff {w : World} {ok : Nat → Prop} {r : Rec} {cs : List Value} : recK.R w ok r cs ↔ cs = recCells r ∧ RecOk r := by
  constructor
  · rintro ⟨c1, _, rfl, ⟨rfl, h1⟩, c2, _, rfl, ⟨rfl, h2⟩, c3, _, rfl, ⟨rfl, _⟩, c4, _, rfl, ⟨rfl, h4⟩, c5, _, rfl, ⟨rfl, _⟩, rfl, h6⟩
    exact ⟨rfl, h1, h2, h4, h6⟩
  · rintro ⟨rfl, h⟩
    exact ⟨[_], _, rfl, ⟨rfl, h.delta⟩, [_], _, rfl, ⟨rfl, h.time⟩, [_], _, rfl, ⟨rfl, trivial⟩, [_], _, rfl, ⟨rfl, h.key⟩, [_], _, rfl, ⟨rfl, trivial⟩, rfl, h.value⟩

theorem batK_iff {w : World} {ok : Nat → Prop} {b : Bat} {cs : List Value} : batK.R w ok b cs ↔ ∃ A c, cs = batCells b A c ∧ BatOk b ∧ recK.At w ok A c b.records := by
  constructor
  · rintro ⟨c1, _, rfl, ⟨rfl, h1⟩, c2, _, rfl, ⟨rfl, h2⟩, c3, _, rfl, ⟨rfl, h3⟩, c4, _, rfl, ⟨rfl, h4⟩, c5, _, rfl, ⟨rfl, h5⟩, A, c, rfl, h6⟩
    exact ⟨A, c, rfl, ⟨h1, h2, h3, h4, h5⟩, h6⟩
  · rintro ⟨A, c, rfl, h, h6⟩
    exact ⟨[_], _, rfl, ⟨rfl, h.base⟩, [_], _, rfl, ⟨rfl, h.count⟩, [_], _, rfl, ⟨rfl, h.producer⟩, [_], _, rfl, ⟨rfl, h.epoch⟩, [_], _, rfl, ⟨rfl, h.seq⟩, A, c, rfl, h6⟩

/-- Element i of a row of batches: its six cells. -/
theorem bat_at {w : World} {ok : Nat → Prop} {A : Option Addr} {c : Nat} {l : List Bat} (h : batK.At w ok A c l) {i : Nat} (hi : i < l.length) :
    ∃ g off RA rc, A = some ⟨g, off, none⟩ ∧ ok g ∧ BatOk (l[i]'hi) ∧ recK.At w ok RA rc (l[i]'hi).records ∧
      w.cell? ⟨g, off + i * 6, none⟩ = some (.int .i64 (l[i]'hi).base) ∧ w.cell? ⟨g, off + i * 6 + 1, none⟩ = some (.int .i64 (l[i]'hi).count) ∧
      w.cell? ⟨g, off + i * 6 + 2, none⟩ = some (.int .i64 (l[i]'hi).producer) ∧ w.cell? ⟨g, off + i * 6 + 3, none⟩ = some (.int .i64 (l[i]'hi).epoch) ∧
      w.cell? ⟨g, off + i * 6 + 4, none⟩ = some (.int .i64 (l[i]'hi).seq) ∧ w.cell? ⟨g, off + i * 6 + 5, none⟩ = some (.slice RA (l[i]'hi).records.length rc) := by
  obtain ⟨g, off, cs, hA, hg, hR, hc⟩ := h.get hi
  obtain ⟨RA, rc, rfl, hok, hr⟩ := batK_iff.1 hR
  exact ⟨g, off, RA, rc, hA, hg.1, hok, hr, hc 0 _ rfl, hc 1 _ rfl, hc 2 _ rfl, hc 3 _ rfl, hc 4 _ rfl, hc 5 _ rfl⟩

theorem rec_at {w : World} {ok : Nat → Prop} {A : Option Addr} {c : Nat} {l : List Rec} (h : recK.At w ok A c l) {i : Nat} (hi : i < l.length) :
    ∃ g off, A = some ⟨g, off, none⟩ ∧ ok g ∧ RecOk (l[i]'hi) ∧
      w.cell? ⟨g, off + i * 6, none⟩ = some (.int .i64 (l[i]'hi).delta) ∧ w.cell? ⟨g, off + i * 6 + 1, none⟩ = some (.int .i64 (l[i]'hi).time) ∧
      w.cell? ⟨g, off + i * 6 + 2, none⟩ = some (.bool (l[i]'hi).keyed) ∧ w.cell? ⟨g, off + i * 6 + 3, none⟩ = some (.string (l[i]'hi).key) ∧
      w.cell? ⟨g, off + i * 6 + 4, none⟩ = some (.bool (l[i]'hi).dead) ∧ w.cell? ⟨g, off + i * 6 + 5, none⟩ = some (.string (l[i]'hi).value) := by
  obtain ⟨g, off, cs, hA, hg, hR, hc⟩ := h.get hi
  obtain ⟨rfl, hok⟩ := recK_iff.1 hR
  exact ⟨g, off, hA, hg.1, hok, hc 0 _ rfl, hc 1 _ rfl, hc 2 _ rfl, hc 3 _ rfl, hc 4 _ rfl, hc 5 _ rfl⟩

/-- The same in a later world, in which nothing of it has turned. -/
theorem bat_in {w w' : World} {ok : Nat → Prop} {A : Option Addr} {c : Nat} {l : List Bat} (h : batK.At w ok A c l) (hb : Below w.heap.size w w') {i : Nat} (hi : i < l.length) :
    ∃ g off RA rc, A = some ⟨g, off, none⟩ ∧ g < w.heap.size ∧ BatOk (l[i]'hi) ∧ recK.At w ok RA rc (l[i]'hi).records ∧
      w'.cell? ⟨g, off + i * 6, none⟩ = some (.int .i64 (l[i]'hi).base) ∧ w'.cell? ⟨g, off + i * 6 + 1, none⟩ = some (.int .i64 (l[i]'hi).count) ∧
      w'.cell? ⟨g, off + i * 6 + 2, none⟩ = some (.int .i64 (l[i]'hi).producer) ∧ w'.cell? ⟨g, off + i * 6 + 3, none⟩ = some (.int .i64 (l[i]'hi).epoch) ∧
      w'.cell? ⟨g, off + i * 6 + 4, none⟩ = some (.int .i64 (l[i]'hi).seq) ∧ w'.cell? ⟨g, off + i * 6 + 5, none⟩ = some (.slice RA (l[i]'hi).records.length rc) := by
  obtain ⟨g, off, RA, rc, hA, hg, hok, hr, q0, q1, q2, q3, q4, q5⟩ := bat_at h hi
  have hlt := cell_lt q0
  have key : ∀ o, w'.cell? ⟨g, o, none⟩ = w.cell? ⟨g, o, none⟩ := fun o => hb.cell (p := ⟨g, o, none⟩) hlt
  exact ⟨g, off, RA, rc, hA, hlt, hok, hr, by rw [key]; exact q0, by rw [key]; exact q1, by rw [key]; exact q2, by rw [key]; exact q3, by rw [key]; exact q4, by rw [key]; exact q5⟩

theorem rec_in {w w' : World} {ok : Nat → Prop} {A : Option Addr} {c : Nat} {l : List Rec} (h : recK.At w ok A c l) (hb : Below w.heap.size w w') {i : Nat} (hi : i < l.length) :
    ∃ g off, A = some ⟨g, off, none⟩ ∧ g < w.heap.size ∧ RecOk (l[i]'hi) ∧
      w'.cell? ⟨g, off + i * 6, none⟩ = some (.int .i64 (l[i]'hi).delta) ∧ w'.cell? ⟨g, off + i * 6 + 1, none⟩ = some (.int .i64 (l[i]'hi).time) ∧
      w'.cell? ⟨g, off + i * 6 + 2, none⟩ = some (.bool (l[i]'hi).keyed) ∧ w'.cell? ⟨g, off + i * 6 + 3, none⟩ = some (.string (l[i]'hi).key) ∧
      w'.cell? ⟨g, off + i * 6 + 4, none⟩ = some (.bool (l[i]'hi).dead) ∧ w'.cell? ⟨g, off + i * 6 + 5, none⟩ = some (.string (l[i]'hi).value) := by
  obtain ⟨g, off, hA, hg, hok, q0, q1, q2, q3, q4, q5⟩ := rec_at h hi
  have hlt := cell_lt q0
  have key : ∀ o, w'.cell? ⟨g, o, none⟩ = w.cell? ⟨g, o, none⟩ := fun o => hb.cell (p := ⟨g, o, none⟩) hlt
  exact ⟨g, off, hA, hlt, hok, by rw [key]; exact q0, by rw [key]; exact q1, by rw [key]; exact q2, by rw [key]; exact q3, by rw [key]; exact q4, by rw [key]; exact q5⟩

/-! ### Where a key stands last -/
def atOf (b : Bat) (r : Rec) : Int := wrap64 (b.base + r.delta)
def lastStep (key : ByteArray) (b : Bat) (s : Int × Bool) (r : Rec) : Int × Bool :=
  if r.keyed = true ∧ r.key = key ∧ (s.2 = false ∨ s.1 < atOf b r) then (atOf b r, true) else s
def lastIn (key : ByteArray) (b : Bat) (rs : List Rec) (s : Int × Bool) : Int × Bool := rs.foldl (lastStep key b) s
def lastOf (key : ByteArray) (l : List Bat) (s : Int × Bool) : Int × Bool := l.foldl (fun s b => lastIn key b b.records s) s

theorem lastIn_snoc (key : ByteArray) (b : Bat) (rs : List Rec) (s : Int × Bool) (k : Nat) (h : k < rs.length) :
    lastIn key b (rs.take (k + 1)) s = lastStep key b (lastIn key b (rs.take k) s) (rs[k]'h) := by
  unfold lastIn
  rw [List.take_succ_eq_append_getElem h, List.foldl_append]
  rfl
theorem lastOf_snoc (key : ByteArray) (l : List Bat) (s : Int × Bool) (i : Nat) (h : i < l.length) :
    lastOf key (l.take (i + 1)) s = lastIn key (l[i]'h) (l[i]'h).records (lastOf key (l.take i) s) := by
  unfold lastOf
  rw [List.take_succ_eq_append_getElem h, List.foldl_append]
  rfl

/-! The same, for all keys at once, as a map. -/
def mapStep (b : Bat) (m : List (ByteArray × Int)) (r : Rec) : List (ByteArray × Int) :=
  if r.keyed = true then (match get m r.key with | none => put m r.key (atOf b r) | some old => if old < atOf b r then put m r.key (atOf b r) else m) else m
def mapIn (b : Bat) (rs : List Rec) (m : List (ByteArray × Int)) : List (ByteArray × Int) := rs.foldl (mapStep b) m
def mapOf (l : List Bat) (m : List (ByteArray × Int)) : List (ByteArray × Int) := l.foldl (fun m b => mapIn b b.records m) m

theorem mapIn_snoc (b : Bat) (rs : List Rec) (m : List (ByteArray × Int)) (k : Nat) (h : k < rs.length) : mapIn b (rs.take (k + 1)) m = mapStep b (mapIn b (rs.take k) m) (rs[k]'h) := by
  unfold mapIn
  rw [List.take_succ_eq_append_getElem h, List.foldl_append]
  rfl
theorem mapOf_snoc (l : List Bat) (m : List (ByteArray × Int)) (i : Nat) (h : i < l.length) : mapOf (l.take (i + 1)) m = mapIn (l[i]'h) (l[i]'h).records (mapOf (l.take i) m) := by
  unfold mapOf
  rw [List.take_succ_eq_append_getElem h, List.foldl_append]
  rfl

theorem put_length {κ β : Type} [DecidableEq κ] (l : List (κ × β)) (x : κ) (v : β) : (put l x v).length ≤ l.length + 1 := by
  induction l with
  | nil => simp [put]
  | cons p r ih =>
    simp only [put]
    split
    · simp
    · simp; omega
theorem mapStep_length (b : Bat) (m : List (ByteArray × Int)) (r : Rec) : (mapStep b m r).length ≤ m.length + 1 := by
  unfold mapStep
  have := put_length m r.key (atOf b r)
  split
  · split
    · exact this
    · split
      · exact this
      · omega
  · omega
theorem mapIn_length (b : Bat) (rs : List Rec) (m : List (ByteArray × Int)) : (mapIn b rs m).length ≤ m.length + rs.length := by
  unfold mapIn
  induction rs generalizing m with
  | nil => simp
  | cons r rs ih =>
    simp only [List.foldl_cons, List.length_cons]
    have := ih (mapStep b m r)
    have := mapStep_length b m r
    omega
theorem mapOf_length (l : List Bat) (m : List (ByteArray × Int)) (h : ∀ b ∈ l, b.records.length ≤ 40) : (mapOf l m).length ≤ m.length + 40 * l.length := by
  unfold mapOf
  induction l generalizing m with
  | nil => simp
  | cons b l ih =>
    simp only [List.foldl_cons, List.length_cons]
    have := ih (mapIn b b.records m) (fun c hc => h c (List.mem_cons_of_mem _ hc))
    have := mapIn_length b b.records m
    have := h b List.mem_cons_self
    omega

/-- What the map has of a key is where it stands last. -/
def asPair : Option Int → Int × Bool
  | none => (0, false)
  | some n => (n, true)
theorem mapStep_get (b : Bat) (m : List (ByteArray × Int)) (r : Rec) (key : ByteArray) : asPair (get (mapStep b m r) key) = lastStep key b (asPair (get m key)) r := by
  unfold mapStep lastStep
  by_cases hk : r.keyed = true
  · simp only [hk, if_true, true_and]
    by_cases he : r.key = key
    · subst he
      cases hg : get m r.key with
      | none => simp [get_put, asPair]
      | some old =>
        by_cases ho : old < atOf b r
        · simp [ho, get_put, asPair]
        · simp [ho, asPair, hg]
    · have he' : ¬ key = r.key := fun e => he e.symm
      simp only [he, false_and, if_false]
      cases hg : get m r.key with
      | none => simp [get_put, he']
      | some old =>
        by_cases ho : old < atOf b r
        · simp [ho, get_put, he']
        · simp [ho]
  · simp [hk]
theorem mapIn_get (b : Bat) (rs : List Rec) (m : List (ByteArray × Int)) (key : ByteArray) : asPair (get (mapIn b rs m) key) = lastIn key b rs (asPair (get m key)) := by
  unfold mapIn lastIn
  induction rs generalizing m with
  | nil => rfl
  | cons r rs ih => simp only [List.foldl_cons]; rw [ih, mapStep_get]
theorem mapOf_get (l : List Bat) (m : List (ByteArray × Int)) (key : ByteArray) : asPair (get (mapOf l m) key) = lastOf key l (asPair (get m key)) := by
  unfold mapOf lastOf
  induction l generalizing m with
  | nil => rfl
  | cons b l ih => simp only [List.foldl_cons]; rw [ih, mapIn_get]
theorem mapOf_last (l : List Bat) (key : ByteArray) : asPair (get (mapOf l []) key) = lastOf key l (0, false) := mapOf_get l [] key

/-- Is a dead record late? -/
def lateF (time : Int) (dead : Bool) (now grace : Int) : Bool := dead && decide (0 ≤ now) && decide (0 ≤ time) && decide (mx 0 grace < wrap64 (now - time))
def lateB (r : Rec) (now grace : Int) : Bool := lateF r.time r.dead now grace
/-- Does a record stay? (m: where its key stands last) -/
def keepsB (b : Bat) (r : Rec) (last now grace : Int) : Bool := !r.keyed || (decide (atOf b r = last) && !lateB r now grace)
/-- .. by place. -/
def keepsAt (l : List Bat) (i k now grace : Int) : Bool :=
  if 0 ≤ i ∧ 0 ≤ k then (match l[i.toNat]? with | none => false | some b => match b.records[k.toNat]? with | none => false | some r => keepsB b r (lastOf r.key l (0, false)).1 now grace) else false

/-- Few batches of few records. -/
structure Few (l : List Bat) : Prop where
  n : l.length ≤ 16
  r : ∀ b ∈ l, b.records.length ≤ 40

end Go.Proofs.Ytoinkagmhcojlaa
