/- Words of our own over any program: how a value reads as plain data (with the blocks that it leads to), what a call may change, slices of the call's own. -/
import Derived.WalkKit
import Derived.WalkSpells
import Derived.WalkLawsBesides
import Derived.Deep.LoopGhost
import Derived.Deep.QuietTactic
import Derived.BigQuiet
namespace Go.Proofs.Ytoinkagmhcojlaa
open Go.RowKit
set_option linter.unusedVariables false
set_option linter.unusedSimpArgs false

theorem dN {B : Nat} {a w : World} (h : Below B a w) (n : Nat) : Below B a (w.drewN n) := ⟨h.os, h.tape, h.output, h.size, h.block⟩

/-- Over calls that only make. -/
theorem bthen {w w1 w2 : World} (h : Below w.heap.size w w1) (h' : Below w1.heap.size w1 w2) : Below w.heap.size w w2 := h.trans (h'.mono h.size)
theorem balloc {w w1 : World} {o : Obj} (h : Below w.heap.size w w1) : Below w.heap.size w (w1.alloc o) := h.alloc h.size o
theorem bdrew {w w1 : World} (h : Below w.heap.size w w1) : Below w.heap.size w w1.drew := h.drew
theorem bdN {w w1 : World} {n : Nat} (h : Below w.heap.size w w1) : Below w.heap.size w (w1.drewN n) := dN h n
theorem bset {w w1 : World} {p : Addr} {u : Value} (h : Below w.heap.size w w1) (hp : w.heap.size ≤ p.block) : Below w.heap.size w (w1.setCell p u) := h.setCell hp u
theorem bgrown {w w1 w2 : World} {row : Option Nat} (h : Below w.heap.size w w1) (hg : w1.grownBy w2 row) (hr : ∀ k, row = some k → w.heap.size ≤ k) : Below w.heap.size w w2 := h.grown hg h.size hr

/-! A region that draws its order, whose operations read or make: one walk, in a class of worlds that the region may come to. -/
/-- A world behind w in which nothing of w has turned. -/
structure Ext (w : World) where
  val : World
  below : Below w.heap.size w val
instance (w : World) : Nonempty (Ext w) := ⟨⟨w, Below.refl _ _⟩⟩
@[go_sem] theorem Ext.cell {w : World} (x : Ext w) (p : Addr) (h : (w.cell? p).isSome = true) : x.val.cell? p = w.cell? p := by
  obtain ⟨v, hv⟩ := Option.isSome_iff_exists.1 h
  exact x.below.cell (World.block_lt_of_cell? (w := w) (a := p) hv)
/-- What a later world has of a cell: a rule for the walk. -/
theorem bcell {W w1 : World} (hb : Below W.heap.size W w1) : ∀ p : Addr, (W.cell? p).isSome = true → w1.cell? p = W.cell? p := fun p h => by
  obtain ⟨v, hv⟩ := Option.isSome_iff_exists.1 h
  exact hb.cell (World.block_lt_of_cell? (w := W) (a := p) hv)
theorem ck {W w1 : World} {p : Addr} {v : Value} (hb : Below W.heap.size W w1) (h : W.cell? p = some v) : w1.cell? p = some v := (hb.cell (World.block_lt_of_cell? (w := W) (a := p) h)).trans h
/-- The cells of the block that was made last before a call. -/
theorem bnew {w w1 : World} {c : Array Value} {t : TypeId} (hb : Below (w.alloc (.cells c t)).heap.size (w.alloc (.cells c t)) w1) : ∀ j, w1.cell? ⟨w.heap.size, j, none⟩ = c[j]? := fun j => by
  rw [← World.cell?_alloc_new w c t j]
  exact hb.cell (p := ⟨w.heap.size, j, none⟩) (by simp)
theorem wp_region_ext_lit {P : Program} {id : Nat} {Q : Exit → Act → World → Prop} {a : Act} {w : World} {l : List Oper} (hm : P.follows .mixedOrders = true) (hB : Region.lexB .any l.toArray = true)
    (h : wpQuiet P l.toArray (fun w' => ∃ x : Ext w, w' = x.val) (fun a' => ∀ w', (∃ x : Ext w, w' = x.val) → Q .normal a' w') l a) : (Code.region id l.toArray true).wp P Q a w :=
  wp_region_quiet (C := fun w' => ∃ x : Ext w, w' = x.val) hm hB ⟨⟨_, (Below.refl _ w).drew⟩, rfl⟩ (by simpa using h)
theorem ext_of {P : Program} {f : FuncId} {args : Array Value} {w : World} {x : Ext w} {v : Value} (h : Calls P f args x.val fun e w' => e = .returned v ∧ Below x.val.heap.size x.val w') :
    Calls P f args x.val fun e w'' => e = .returned v ∧ ∃ y : Ext w, w'' = y.val :=
  h.mono fun _ w' ⟨he, hb⟩ => ⟨he, ⟨w', bthen x.below hb⟩, rfl⟩

/-- The greater, the smaller of two whole numbers, as Go's max and min tell it. -/
def mx (a b : Int) : Int := if a < b then b else a
def mn (a b : Int) : Int := if b < a then b else a
@[go_sem] theorem max2_int (k k' : IntKind) (x y : Int) : Builtin.max2 (.int k x) (.int k' y) = pure (.int k (mx x y)) := by simp only [Builtin.max2, mx, gt_iff_lt]
@[go_sem] theorem min2_int (k k' : IntKind) (x y : Int) : Builtin.min2 (.int k x) (.int k' y) = pure (.int k (mn x y)) := by simp only [Builtin.min2, mn]
@[go_sem] theorem max_two (ats : Array TypeId) (ty : TypeId) (a b : Value) : Builtin.max_ ats ty #[a, b] = (Builtin.max2 a b >>= fun s => pure s) := by simp only [Builtin.max_, List.foldlM_cons, List.foldlM_nil]
@[go_sem] theorem min_two (ats : Array TypeId) (ty : TypeId) (a b : Value) : Builtin.min_ ats ty #[a, b] = (Builtin.min2 a b >>= fun s => pure s) := by simp only [Builtin.min_, List.foldlM_cons, List.foldlM_nil]
@[go_sem] theorem max_three (ats : Array TypeId) (ty : TypeId) (a b c : Value) : Builtin.max_ ats ty #[a, b, c] = (Builtin.max2 a b >>= fun s => Builtin.max2 s c >>= fun s => pure s) := by simp only [Builtin.max_, List.foldlM_cons, List.foldlM_nil]
@[go_sem] theorem min_three (ats : Array TypeId) (ty : TypeId) (a b c : Value) : Builtin.min_ ats ty #[a, b, c] = (Builtin.min2 a b >>= fun s => Builtin.min2 s c >>= fun s => pure s) := by simp only [Builtin.min_, List.foldlM_cons, List.foldlM_nil]

/-- A kind of data: how many cells, and what it is that cells read as it; 'ok': the blocks that the cells may lead to. -/
structure Rp (α : Type) where
  sz : Nat
  R : World → (Nat → Prop) → α → List Value → Prop
  len : ∀ {w ok x cs}, R w ok x cs → cs.length = sz
  one : ∀ {w ok x cs}, R w ok x cs → ∀ u ∈ cs, u.oneCell' = true
  mono : ∀ {w ok ok' x cs}, (∀ k, ok k → ok' k) → R w ok x cs → R w ok' x cs
  move : ∀ {w w' : World} {ok x cs}, (∀ k, ok k → k < w.heap.size → w'.heap[k]? = w.heap[k]?) → R w ok x cs → R w' ok x cs
  bound : ∀ {w : World} {ok x cs}, R w ok x cs → R w (fun k => ok k ∧ k < w.heap.size) x cs

theorem cell_lt {w : World} {g o : Nat} {u : Value} (h : w.cell? ⟨g, o, none⟩ = some u) : g < w.heap.size := World.block_lt_of_cell? (w := w) (a := ⟨g, o, none⟩) h
theorem cell_same {w w' : World} {g o : Nat} (h : w'.heap[g]? = w.heap[g]?) : w'.cell? ⟨g, o, none⟩ = w.cell? ⟨g, o, none⟩ := World.cell?_of_block (w := w) (a := ⟨g, o, none⟩) h

theorem hid {p : Prop} (h : p) : Hid p := h
theorem toList_iff {a b : ByteArray} : a.toList = b.toList ↔ a = b := by
  rw [ByteArray.toList_eq, ByteArray.toList_eq]
  exact ⟨fun h => by cases a; cases b; congr; exact Array.toList_inj.1 h, fun h => by rw [h]⟩

theorem lt_of_same {w w' : World} {g : Nat} (h : w'.heap[g]? = w.heap[g]?) (hg : g < w.heap.size) : g < w'.heap.size := by
  rw [Array.getElem?_eq_getElem hg] at h
  exact (Array.getElem?_eq_some_iff.1 h).1

namespace Rp

def scalar {α : Type} (enc : α → Value) (good : α → Prop) (h1 : ∀ x, (enc x).oneCell' = true) : Rp α where
  sz := 1
  R _ _ x cs := cs = [enc x] ∧ good x
  len h := by rw [h.1]; rfl
  one h := by rw [h.1]; simp [h1]
  mono _ h := h
  move _ h := h
  bound h := h

/-- A whole number of a kind, within its bounds. -/
def int (k : IntKind) : Rp Int := scalar (Value.int k) (fun n => (Lit.int k n).wf = true) (fun _ => rfl)
def bool : Rp Bool := scalar Value.bool (fun _ => True) (fun _ => rfl)
def str : Rp ByteArray := scalar Value.string (fun s => s.size ≤ maxLen) (fun _ => rfl)

/-- The elements of a slice lie at A. -/
def At {α : Type} (d : Rp α) (w : World) (ok : Nat → Prop) (A : Option Addr) (c : Nat) (xs : List α) : Prop :=
  xs.length ≤ c ∧ c ≤ maxLen ∧ (A = none → c = 0) ∧
  ∀ i x, xs[i]? = some x → ∃ g off cs, A = some ⟨g, off, none⟩ ∧ (ok g ∧ g < w.heap.size) ∧ d.R w ok x cs ∧ ∀ j u, cs[j]? = some u → w.cell? ⟨g, off + i * d.sz + j, none⟩ = some u

theorem At.mono {α : Type} {d : Rp α} {w : World} {ok ok' : Nat → Prop} {A : Option Addr} {c : Nat} {xs : List α} (hm : ∀ k, ok k → ok' k) (h : d.At w ok A c xs) : d.At w ok' A c xs :=
  ⟨h.1, h.2.1, h.2.2.1, fun i x hx => let ⟨g, off, cs, hA, hg, hR, hc⟩ := h.2.2.2 i x hx; ⟨g, off, cs, hA, ⟨hm _ hg.1, hg.2⟩, d.mono hm hR, hc⟩⟩

theorem At.move {α : Type} {d : Rp α} {w w' : World} {ok : Nat → Prop} {A : Option Addr} {c : Nat} {xs : List α} (hs : ∀ k, ok k → k < w.heap.size → w'.heap[k]? = w.heap[k]?) (h : d.At w ok A c xs) : d.At w' ok A c xs :=
  ⟨h.1, h.2.1, h.2.2.1, fun i x hx => let ⟨g, off, cs, hA, hg, hR, hc⟩ := h.2.2.2 i x hx
    ⟨g, off, cs, hA, ⟨hg.1, lt_of_same (hs g hg.1 hg.2) hg.2⟩, d.move hs hR, fun j u hu => by
      rw [cell_same (hs g hg.1 hg.2)]
      exact hc j u hu⟩⟩

theorem At.bound {α : Type} {d : Rp α} {w : World} {ok : Nat → Prop} {A : Option Addr} {c : Nat} {xs : List α} (h : d.At w ok A c xs) : d.At w (fun k => ok k ∧ k < w.heap.size) A c xs :=
  ⟨h.1, h.2.1, h.2.2.1, fun i x hx => let ⟨g, off, cs, hA, hg, hR, hc⟩ := h.2.2.2 i x hx; ⟨g, off, cs, hA, ⟨⟨hg.1, hg.2⟩, hg.2⟩, d.bound hR, hc⟩⟩

/-- A slice. -/
def slice {α : Type} (d : Rp α) : Rp (List α) where
  sz := 1
  R w ok xs cs := ∃ A c, cs = [.slice A xs.length c] ∧ d.At w ok A c xs
  len h := by obtain ⟨A, c, rfl, _⟩ := h; rfl
  one h := by obtain ⟨A, c, rfl, _⟩ := h; simp [Value.oneCell']
  mono hm h := by obtain ⟨A, c, e, h⟩ := h; exact ⟨A, c, e, h.mono hm⟩
  move hs h := by obtain ⟨A, c, e, h⟩ := h; exact ⟨A, c, e, h.move hs⟩
  bound h := by obtain ⟨A, c, e, h⟩ := h; exact ⟨A, c, e, h.bound⟩

/-- Two things side by side. -/
def pair {α β : Type} (a : Rp α) (b : Rp β) : Rp (α × β) where
  sz := a.sz + b.sz
  R w ok x cs := ∃ cs1 cs2, cs = cs1 ++ cs2 ∧ a.R w ok x.1 cs1 ∧ b.R w ok x.2 cs2
  len h := by obtain ⟨c1, c2, rfl, h1, h2⟩ := h; rw [List.length_append, a.len h1, b.len h2]
  one h := by
    obtain ⟨c1, c2, rfl, h1, h2⟩ := h
    intro u hu
    rcases List.mem_append.1 hu with h' | h'
    · exact a.one h1 u h'
    · exact b.one h2 u h'
  mono hm h := by obtain ⟨c1, c2, e, h1, h2⟩ := h; exact ⟨c1, c2, e, a.mono hm h1, b.mono hm h2⟩
  move hs h := by obtain ⟨c1, c2, e, h1, h2⟩ := h; exact ⟨c1, c2, e, a.move hs h1, b.move hs h2⟩
  bound h := by obtain ⟨c1, c2, e, h1, h2⟩ := h; exact ⟨c1, c2, e, a.bound h1, b.bound h2⟩

/-- The same, told otherwise. -/
def iso {α β : Type} (d : Rp α) (f : β → α) : Rp β where
  sz := d.sz
  R w ok x cs := d.R w ok (f x) cs
  len h := d.len h
  one h := d.one h
  mono hm h := d.mono hm h
  move hs h := d.move hs h
  bound h := d.bound h

section
variable {α β : Type} {d : Rp α} {w w' : World} {ok ok' : Nat → Prop}

theorem int_iff {k : IntKind} {n : Int} {cs : List Value} : (int k).R w ok n cs ↔ cs = [.int k n] ∧ (Lit.int k n).wf = true := Iff.rfl
theorem bool_iff {b : Bool} {cs : List Value} : bool.R w ok b cs ↔ cs = [.bool b] := ⟨fun h => h.1, fun h => ⟨h, trivial⟩⟩
theorem str_iff {s : ByteArray} {cs : List Value} : str.R w ok s cs ↔ cs = [.string s] ∧ s.size ≤ maxLen := Iff.rfl
theorem slice_iff {xs : List α} {cs : List Value} : (slice d).R w ok xs cs ↔ ∃ A c, cs = [.slice A xs.length c] ∧ d.At w ok A c xs := Iff.rfl
theorem pair_iff {a : Rp α} {b : Rp β} {x : α × β} {cs : List Value} : (pair a b).R w ok x cs ↔ ∃ cs1 cs2, cs = cs1 ++ cs2 ∧ a.R w ok x.1 cs1 ∧ b.R w ok x.2 cs2 := Iff.rfl

/-- Element i of a slice: where its cells lie, and what they are. -/
theorem At.get {A : Option Addr} {c : Nat} {xs : List α} (h : d.At w ok A c xs) {i : Nat} (hi : i < xs.length) :
    ∃ g off cs, A = some ⟨g, off, none⟩ ∧ (ok g ∧ g < w.heap.size) ∧ d.R w ok (xs[i]'hi) cs ∧ ∀ j u, cs[j]? = some u → w.cell? ⟨g, off + i * d.sz + j, none⟩ = some u := h.2.2.2 i _ (List.getElem?_eq_getElem hi)

/-- Over a call that only makes. -/
theorem below (d : Rp α) {x : α} {cs : List Value} (h : d.R w ok x cs) (hb : Below w.heap.size w w') : d.R w' ok x cs := d.move (fun k _ hk => hb.block k hk) h
theorem At.below {A : Option Addr} {c : Nat} {xs : List α} (h : d.At w ok A c xs) (hb : Below w.heap.size w w') : d.At w' ok A c xs := h.move (fun k _ hk => hb.block k hk)

theorem At.nil : d.At w ok none 0 [] := ⟨Nat.le_refl _, Nat.zero_le _, fun _ => rfl, fun i x h => by simp at h⟩
theorem slice_nil : (slice d).R w ok [] [.slice none 0 0] := ⟨none, 0, rfl, At.nil⟩
end
end Rp

/-! ### A slice of the call's own -/
/-- v is a slice of the call's own (its block from 'base' on), of elements of type e; they lead to blocks that are 'ok', none of these its own. -/
def Own {α : Type} (d : Rp α) (e : TypeId) (w : World) (base : Nat) (ok : Nat → Prop) (v : Value) (xs : List α) : Prop :=
  (v = .slice none 0 0 ∧ xs = []) ∨
  ∃ g cap cur, v = .slice (some ⟨g, 0, none⟩) xs.length cap ∧ base ≤ g ∧ w.heap[g]? = some (.cells cur e (0, 0)) ∧ xs.length ≤ cap ∧ cap ≤ maxLen ∧ cur.size = cap * d.sz ∧
    ∀ i x, xs[i]? = some x → ∃ cs, d.R w (fun k => ok k ∧ k ≠ g) x cs ∧ ∀ j u, cs[j]? = some u → cur[i * d.sz + j]? = some u

theorem cell_of_block {w : World} {g : Nat} {cur : Array Value} {e : TypeId} {fr : Nat × Nat} (h : w.heap[g]? = some (.cells cur e fr)) (j : Nat) : w.cell? ⟨g, j, none⟩ = cur[j]? := by simp [World.cell?, h]

namespace Own
variable {α : Type} {d : Rp α} {e : TypeId} {w w' : World} {base : Nat} {ok ok' : Nat → Prop} {v : Value} {xs : List α}

theorem nil (d : Rp α) (e : TypeId) (w : World) (base : Nat) (ok : Nat → Prop) : Own d e w base ok (.slice none 0 0) [] := .inl ⟨rfl, rfl⟩

theorem lt (h : Own d e w base ok v xs) {k : Nat} (hk : v.ownBlock = some k) : k < w.heap.size := by
  rcases h with ⟨rfl, _⟩ | ⟨g, cap, cur, rfl, hb, hh, _⟩
  · simp [Value.ownBlock] at hk
  · have : g = k := by simpa [Value.ownBlock] using hk
    subst this
    exact (Array.getElem?_eq_some_iff.1 hh).1

theorem ge (h : Own d e w base ok v xs) {k : Nat} (hk : v.ownBlock = some k) : base ≤ k := by
  rcases h with ⟨rfl, _⟩ | ⟨g, cap, cur, rfl, hb, hh, _⟩
  · simp [Value.ownBlock] at hk
  · have : g = k := by simpa [Value.ownBlock] using hk
    omega

theorem form (h : Own d e w base ok v xs) : ∃ A c, v = .slice A xs.length c := by
  rcases h with ⟨rfl, rfl⟩ | ⟨g, cap, cur, rfl, _⟩
  · exact ⟨none, 0, rfl⟩
  · exact ⟨_, cap, rfl⟩

/-- It stays what it is where its block, and the blocks that it leads to, stay. -/
theorem move (h : Own d e w base ok v xs) (hs : ∀ k, (ok k ∨ v.ownBlock = some k) → k < w.heap.size → w'.heap[k]? = w.heap[k]?) : Own d e w' base ok v xs := by
  rcases h with h' | ⟨g, cap, cur, rfl, hb, hh, hl, hm, hcs, hx⟩
  · exact .inl h'
  · refine .inr ⟨g, cap, cur, rfl, hb, by rw [hs g (.inr (by simp [Value.ownBlock])) (Array.getElem?_eq_some_iff.1 hh).1]; exact hh, hl, hm, hcs, fun i x hi => ?_⟩
    obtain ⟨cs, hR, hc⟩ := hx i x hi
    exact ⟨cs, d.move (fun k hk => hs k (.inl hk.1)) hR, hc⟩

theorem below (h : Own d e w base ok v xs) (hb : Below w.heap.size w w') : Own d e w' base ok v xs := h.move fun k _ hk => hb.block k hk

theorem mono (h : Own d e w base ok v xs) (hm : ∀ k, ok k → ok' k) : Own d e w base ok' v xs := by
  rcases h with h' | ⟨g, cap, cur, rfl, hb, hh, hl, hm', hcs, hx⟩
  · exact .inl h'
  · refine .inr ⟨g, cap, cur, rfl, hb, hh, hl, hm', hcs, fun i x hi => ?_⟩
    obtain ⟨cs, hR, hc⟩ := hx i x hi
    exact ⟨cs, d.mono (fun k hk => ⟨hm k hk.1, hk.2⟩) hR, hc⟩

/-- Lent to whoever reads. -/
theorem reads (h : Own d e w base ok v xs) : (Rp.slice d).R w (fun k => ok k ∨ v.ownBlock = some k) xs [v] := by
  rcases h with ⟨rfl, rfl⟩ | ⟨g, cap, cur, rfl, hb, hh, hl, hm, hcs, hx⟩
  · exact Rp.slice_nil
  · refine ⟨_, cap, rfl, hl, hm, (fun h => by cases h), fun i x hi => ?_⟩
    obtain ⟨cs, hR, hc⟩ := hx i x hi
    refine ⟨g, 0, cs, rfl, ⟨.inr rfl, (Array.getElem?_eq_some_iff.1 hh).1⟩, d.mono (fun k hk => .inl hk.1) hR, fun j u hu => ?_⟩
    rw [cell_of_block hh, Nat.zero_add]
    exact hc j u hu

/-- As the append's law has it. -/
theorem rows (h : Own d e w base ok v xs) : ∃ cells, w.ownsRow base e d.sz v xs.length cells ∧ ∀ i x, xs[i]? = some x → ∃ cs, d.R w (fun k => ok k ∧ some k ≠ v.ownBlock) x cs ∧ ∀ j u, cs[j]? = some u → cells[i * d.sz + j]? = some u := by
  rcases h with ⟨rfl, rfl⟩ | ⟨g, cap, cur, rfl, hb, hh, hl, hm, hcs, hx⟩
  · exact ⟨[], ⟨by simp, .inl ⟨rfl, rfl⟩⟩, fun i x h => by simp at h⟩
  · refine ⟨cur.toList.take (xs.length * d.sz), ⟨?_, .inr ⟨g, cap, cur, rfl, hb, hh, hl, hm, hcs, rfl⟩⟩, fun i x hi => ?_⟩
    · have hcl : cur.toList.length = cap * d.sz := by simpa using hcs
      rw [List.length_take, hcl]
      exact Nat.min_eq_left (Nat.mul_le_mul_right _ hl)
    · obtain ⟨cs, hR, hc⟩ := hx i x hi
      refine ⟨cs, d.mono (fun k hk => ⟨hk.1, fun e => hk.2 (by simpa [Value.ownBlock] using e)⟩) hR, fun j u hu => ?_⟩
      have hj : j < d.sz := by rw [← d.len hR]; exact (List.getElem?_eq_some_iff.1 hu).1
      have hi' : i < xs.length := (List.getElem?_eq_some_iff.1 hi).1
      have : (i + 1) * d.sz ≤ xs.length * d.sz := Nat.mul_le_mul_right _ hi'
      rw [Nat.add_mul, Nat.one_mul] at this
      rw [List.getElem?_take_of_lt (by omega)]
      simpa using hc j u hu

/-- Behind an append of one element. -/
theorem appended {w' : World} {v' : Value} {x : α} {cs : List Value} {cells : List Value} (h : ∀ i x, xs[i]? = some x → ∃ cs, d.R w (fun k => ok k ∧ some k ≠ v.ownBlock) x cs ∧ ∀ j u, cs[j]? = some u → cells[i * d.sz + j]? = some u)
    (hlen : cells.length = xs.length * d.sz) (hx : d.R w (fun k => ok k ∧ some k ≠ v.ownBlock) x cs) (hown : w'.ownsRow base e d.sz v' (xs.length + 1) (cells ++ cs)) (hg : w.grownBy w' v.ownBlock)
    (hv : ∀ k, v'.ownBlock = some k → v.ownBlock = some k ∨ w.heap.size ≤ k) : Own d e w' base ok v' (xs ++ [x]) := by
  rcases hown.2 with ⟨_, h0⟩ | ⟨g, cap, cur, rfl, hb, hh, hl, hm, hcs, htk⟩
  · omega
  · refine .inr ⟨g, cap, cur, by simp, hb, hh, by simpa using hl, hm, hcs, fun i y hi => ?_⟩
    have far : ∀ k, (ok k ∧ some k ≠ v.ownBlock) → k < w.heap.size → w'.heap[k]? = w.heap[k]? := fun k hk hlt => hg.block k hlt hk.2
    have ne : ∀ k, ((ok k ∧ some k ≠ v.ownBlock) ∧ k < w.heap.size) → ok k ∧ k ≠ g := fun k hk => ⟨hk.1.1, fun e => by
      rcases hv g (by simp [Value.ownBlock]) with h1 | h1
      · exact hk.1.2 (by rw [e]; exact h1.symm)
      · have := hk.2; omega⟩
    have at_ : ∀ m u, (cells ++ cs)[m]? = some u → cur[m]? = some u := fun m u hu => by
      rw [← htk] at hu
      rw [List.getElem?_take] at hu
      split at hu
      · simpa using hu
      · cases hu
    by_cases hlt : i < xs.length
    · rw [List.getElem?_append_left hlt] at hi
      obtain ⟨ds, hR, hc⟩ := h i y hi
      refine ⟨ds, d.mono ne (d.move (fun k hk => far k hk.1) (d.bound hR)), fun j u hu => at_ _ _ ?_⟩
      rw [List.getElem?_append_left ?_]
      · exact hc j u hu
      · have := hc j u hu
        exact (List.getElem?_eq_some_iff.1 this).1
    · have hie : i = xs.length := by
        have := (List.getElem?_eq_some_iff.1 hi).1
        simp at this
        omega
      subst hie
      simp at hi
      subst hi
      refine ⟨cs, d.mono ne (d.move (fun k hk => far k hk.1) (d.bound hx)), fun j u hu => at_ _ _ ?_⟩
      rw [List.getElem?_append_right (by omega), hlen]
      simpa using hu
end Own

/-- Nothing that was there has turned, but for these blocks. -/
structure Chg (S : List Nat) (w w' : World) : Prop where
  os : w'.os = w.os
  tape : w'.tape = w.tape
  output : w'.output = w.output
  size : w.heap.size ≤ w'.heap.size
  block : ∀ k, k < w.heap.size → k ∉ S → w'.heap[k]? = w.heap[k]?

namespace Chg
variable {S T : List Nat} {w w1 w' : World}
theorem refl (S : List Nat) (w : World) : Chg S w w := ⟨rfl, rfl, rfl, Nat.le_refl _, fun _ _ _ => rfl⟩
theorem of_below (S : List Nat) (h : Below w.heap.size w w') : Chg S w w' := ⟨h.os, h.tape, h.output, h.size, fun k hk _ => h.block k hk⟩
theorem below (h : Chg [] w w') : Below w.heap.size w w' := ⟨h.os, h.tape, h.output, h.size, fun k hk => h.block k hk (by simp)⟩
theorem trans (h : Chg S w w1) (h' : Chg T w1 w') (hT : ∀ k, k ∈ T → k ∈ S ∨ w.heap.size ≤ k) : Chg S w w' :=
  ⟨h'.os.trans h.os, h'.tape.trans h.tape, h'.output.trans h.output, Nat.le_trans h.size h'.size, fun k hk hn =>
    (h'.block k (Nat.lt_of_lt_of_le hk h.size) (fun hm => by rcases hT k hm with h1 | h1 <;> first | exact hn h1 | omega)).trans (h.block k hk hn)⟩
theorem mono (h : Chg S w w') (hS : ∀ k, k ∈ S → k ∈ T) : Chg T w w' := ⟨h.os, h.tape, h.output, h.size, fun k hk hn => h.block k hk fun hm => hn (hS k hm)⟩
theorem alloc (h : Chg S w w1) (o : Obj) : Chg S w (w1.alloc o) := h.trans (T := []) (of_below [] ((Below.refl _ _).alloc (Nat.le_refl _) o)) (by simp)
theorem drew (h : Chg S w w1) : Chg S w w1.drew := ⟨h.os, h.tape, h.output, h.size, h.block⟩
theorem drewN (h : Chg S w w1) (n : Nat) : Chg S w (w1.drewN n) := ⟨h.os, h.tape, h.output, h.size, h.block⟩
theorem set (h : Chg S w w1) {p : Addr} (hp : p.block ∈ S ∨ w.heap.size ≤ p.block) (u : Value) : Chg S w (w1.setCell p u) :=
  h.trans (T := [p.block]) ⟨rfl, rfl, rfl, by simp, fun k _ hn => Below.heap_setCell _ _ _ _ (fun e => hn (by simp [e]))⟩ (by simpa using hp)
theorem grown (h : Chg S w w1) {row : Option Nat} (hg : w1.grownBy w' row) (hr : ∀ k, row = some k → k ∈ S ∨ w.heap.size ≤ k) : Chg S w w' :=
  h.trans (T := row.toList) ⟨hg.os, hg.tape, hg.output, hg.size, fun k hk hn => hg.block k hk (fun e => hn (by simp [← e]))⟩ (fun k hk => hr k (by simpa using hk))
end Chg

end Go.Proofs.Ytoinkagmhcojlaa
