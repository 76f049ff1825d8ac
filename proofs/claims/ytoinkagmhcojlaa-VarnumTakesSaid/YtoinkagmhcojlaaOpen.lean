/- How an argument is opened: what a statement's datum says of the cells, as our kinds tell it. -/
import Derived.Test.YtoinkagmhcojlaaLib
import Derived.WalkKit
import Derived.ProofKit
import Derived.OpenShut
import Derived.ShutString
import Derived.ChangeOld
import Derived.Below
import Derived.SizedLaws
import Derived.Deep.Slices
import Derived.DataReads
import Derived.Deep.MidRow
namespace Go.Proofs.Ytoinkagmhcojlaa
open Go.ChangeShapes Go.WideShapes Go.ChangeAt Go.RowKit
open Go.ChangeMaps (open_string shut_string)
set_option linter.unusedVariables false
set_option linter.unusedSimpArgs false

/-- Whatever is read at type t reads as d. -/
structure Opens (P : Program) (t : TypeId) {α : Type} (d : Rp α) : Prop where
  sz : P.cellsOf t = d.sz
  get : ∀ {H : Type} {enc : TypeId × Value → H} {w : World} {base : Nat} {spare : Nat → Bool} {held : Bool} {fuel : Nat} {cs : List Value} {x : DataW H × List MemPlace},
    DataW.trod enc P w base spare held fuel t cs = some x → ∃ y, d.R w (fun _ => True) y cs

/-- The same for fields in a row, from 'off' on. -/
def OpensF (P : Program) (fs : List Field) (off : Nat) {α : Type} (d : Rp α) : Prop :=
  ∀ {H : Type} {enc : TypeId × Value → H} {w : World} {base : Nat} {spare : Nat → Bool} {held : Bool} {n : Nat} {cs : List Value},
    (∀ f, f ∈ fs → ∃ x, DataW.trod enc P w base spare held n f.type ((cs.drop f.offset).take (P.cellsOf f.type)) = some x) → off + d.sz ≤ cs.length → ∃ y, d.R w (fun _ => True) y ((cs.drop off).take d.sz)

section
variable {P : Program} {t e : TypeId} {α β : Type} {d : Rp α} {b : Rp β}

theorem Opens.int {k : IntKind} (ht : P.underlying t = some (.int k)) (hc : P.cellsOf t = 1) : Opens P t (Rp.int k) :=
  ⟨hc, fun h => by obtain ⟨n, rfl, _, hw⟩ := DataW.trod_int ht h; exact ⟨n, rfl, hw⟩⟩
theorem Opens.bool (ht : P.underlying t = some .bool) (hc : P.cellsOf t = 1) : Opens P t Rp.bool :=
  ⟨hc, fun h => by obtain ⟨n, rfl, _⟩ := DataW.trod_bool ht h; exact ⟨n, rfl, trivial⟩⟩
theorem Opens.str (ht : P.underlying t = some .string) (hc : P.cellsOf t = 1) : Opens P t Rp.str :=
  ⟨hc, fun h => by obtain ⟨n, rfl, _, hs⟩ := DataW.trod_string ht h; exact ⟨n, rfl, hs⟩⟩

theorem cells_get {w : World} {base : Nat} {a : Addr} {n : Nat} {cs : List Value} (h : w.cells? base a n = some cs) : cs.length = n ∧ ∀ j u, cs[j]? = some u → w.cell? (a.add j) = some u := by
  obtain ⟨hb, hl, hc⟩ := World.cells?_some h
  refine ⟨hl, fun j u hu => ?_⟩
  rw [hc j (by have := (List.getElem?_eq_some_iff.1 hu).1; omega)]
  exact hu

theorem Opens.slice (ht : P.underlying t = some (.slice e)) (hc : P.cellsOf t = 1) (he : Opens P e d) (hd : 0 < d.sz) : Opens P t (Rp.slice d) :=
  ⟨hc, fun {H enc w base spare held fuel cs x} h => by
    rcases Go.Deep.open_slice ht h with ⟨rfl, _⟩ | ⟨a, len, cap, m, n, D, Pl, rfl, hb, hl, hm, hme, hxe, hx⟩
    · exact ⟨[], Rp.slice_nil⟩
    · have hlm : len ≤ m := by rw [hme]; split <;> omega
      have key : ∀ i, i < len → ∃ y, ∃ cs', (w.cells? base (a.add (i * P.cellsOf e)) (P.cellsOf e) = some cs') ∧ d.R w (fun _ => True) y cs' := fun i hi => by
        obtain ⟨cs', h1, h2⟩ := hx i (by omega)
        obtain ⟨y, hy⟩ := he.get h2
        exact ⟨y, cs', h1, hy⟩
      obtain ⟨ys, hys, hl'⟩ : ∃ ys : List α, (∀ i y, ys[i]? = some y → ∃ cs', (w.cells? base (a.add (i * P.cellsOf e)) (P.cellsOf e) = some cs') ∧ d.R w (fun _ => True) y cs') ∧ ys.length = len := by
        clear hxe hx hlm hme hl h ht
        induction len with
        | zero => exact ⟨[], fun i y h => by simp at h, rfl⟩
        | succ k ih =>
          obtain ⟨ys, h1, h2⟩ := ih (fun i hi => key i (by omega))
          obtain ⟨y, hy⟩ := key k (by omega)
          refine ⟨ys ++ [y], fun i z hz => ?_, by simp [h2]⟩
          by_cases hi : i < ys.length
          · rw [List.getElem?_append_left hi] at hz
            exact h1 i z hz
          · rw [List.getElem?_append_right (by omega)] at hz
            have : i - ys.length = 0 := by
              rcases Nat.eq_zero_or_pos (i - ys.length) with h' | h'
              · exact h'
              · rw [List.getElem?_eq_none (by simp; omega)] at hz; cases hz
            rw [this] at hz
            simp at hz
            subst hz
            rw [show i = k by omega]
            exact hy
      refine ⟨ys, some a, cap, by rw [hl'], by omega, hm, (fun h => by cases h), fun i y hy => ?_⟩
      obtain ⟨cs', h1, h2⟩ := hys i y hy
      have hpos : 0 < len := by have := (List.getElem?_eq_some_iff.1 hy).1; omega
      obtain ⟨cs0, h3, h4⟩ := hx 0 (by omega)
      have hsp : a.spot = none ∧ a.block < w.heap.size := by
        obtain ⟨hl0, hc0⟩ := cells_get h3
        have : 0 < cs0.length := by rw [hl0, he.sz]; exact hd
        have := hc0 0 _ (List.getElem?_eq_getElem this)
        simp only [Nat.zero_mul, Addr.add, if_true] at this
        refine ⟨?_, World.block_lt_of_cell? (w := w) (a := a) this⟩
        unfold World.cell? at this
        split at this
        · split at this
          · cases this
          · rename_i hs; simpa using hs
        · cases this
      obtain ⟨g, off, sp⟩ := a
      obtain ⟨rfl, hg⟩ := hsp
      refine ⟨g, off, cs', rfl, ⟨trivial, hg⟩, h2, fun j u hu => ?_⟩
      have := (cells_get h1).2 j u hu
      rw [Addr.add_mid, Addr.add_mid, he.sz] at this
      exact this⟩

theorem OpensF.last {f : Field} {off : Nat} (ho : f.offset = off) (hf : Opens P f.type d) : OpensF P [f] off d := fun {H enc w base spare held n cs} h hl => by
  obtain ⟨x, hx⟩ := h f (by simp)
  rw [ho, hf.sz] at hx
  exact hf.get hx
theorem OpensF.cons {f : Field} {fs : List Field} {off : Nat} (ho : f.offset = off) (hf : Opens P f.type d) (hfs : OpensF P fs (off + d.sz) b) : OpensF P (f :: fs) off (Rp.pair d b) := fun {H enc w base spare held n cs} h hl => by
  have hl' : off + (d.sz + b.sz) ≤ cs.length := hl
  obtain ⟨x, hx⟩ := h f (by simp)
  rw [ho, hf.sz] at hx
  obtain ⟨y, hy⟩ := hf.get hx
  obtain ⟨z, hz⟩ := hfs (fun g hg => h g (by simp [hg])) (by omega)
  refine ⟨(y, z), _, _, ?_, hy, hz⟩
  show (cs.drop off).take (d.sz + b.sz) = _
  rw [List.take_add, List.drop_drop]
theorem Opens.struct {fs : Array Field} (ht : P.underlying t = some (.struct fs)) (hc : P.cellsOf t = d.sz) (hf : OpensF P fs.toList 0 d) : Opens P t d :=
  ⟨hc, fun {H enc w base spare held fuel cs x} h => by
    obtain ⟨xs, n, _, _, hl, hxl, hx⟩ := DataW.trod_struct ht h
    obtain ⟨y, hy⟩ := hf (enc := enc) (w := w) (base := base) (spare := spare) (held := held) (n := n) (cs := cs) (fun f hm => by
      obtain ⟨i, hi, rfl⟩ := List.getElem_of_mem hm
      have hi' : i < fs.size := by simpa using hi
      have := hx i fs[i] (by simp [hi'])
      rw [List.getElem?_eq_getElem (by omega)] at this
      exact ⟨_, by simpa using this⟩) (by omega)
    rw [List.drop_zero, List.take_of_length_le (by omega)] at hy
    exact ⟨y, hy⟩⟩
theorem Opens.iso {f : β → α} (g : α → β) (hg : ∀ a, f (g a) = a) (h : Opens P t d) : Opens P t (d.iso f) :=
  ⟨h.sz, fun hx => by obtain ⟨y, hy⟩ := h.get hx; exact ⟨g y, by show d.R _ _ (f (g y)) _; rw [hg]; exact hy⟩⟩
theorem Opens.array2 (ht : P.underlying t = some (.array 2 e)) (hc : P.cellsOf t = d.sz + d.sz) (he : Opens P e d) : Opens P t (Rp.pair d d) :=
  ⟨hc, fun {H enc w base spare held fuel cs x} h => by
    obtain ⟨xs, n, _, _, hl, hxl, hx⟩ := DataW.trod_array ht h
    have h0 := hx 0 (by omega)
    have h1 := hx 1 (by omega)
    rw [List.getElem?_eq_getElem (by omega)] at h0 h1
    obtain ⟨y, hy⟩ := he.get h0
    obtain ⟨z, hz⟩ := he.get h1
    refine ⟨(y, z), _, _, ?_, hy, hz⟩
    rw [he.sz]
    simp only [Nat.zero_mul, List.drop_zero, Nat.one_mul]
    have : ((cs.drop d.sz).take d.sz) = cs.drop d.sz := List.take_of_length_le (by simp; omega)
    rw [this, List.take_append_drop]⟩

/-- An argument. -/
theorem Opens.slice_arg {H : Type} {enc : TypeId × Value → H} {w : World} {base : Nat} {spare : Nat → Bool} {held : Bool} {r : Reach} {b0 : Nat} {v : Value} {x : DataW H} {ps : List MemPlace}
    (ht : P.underlying t = some (.slice e)) (ho : Opens P t (Rp.slice d)) (hval : Value.okWide P w r b0 t v) (h : DataW.Trod enc P w base spare held t v x ps) : ∃ (xs : List α) (A : Option Addr) (c : Nat), v = .slice A xs.length c ∧ d.At w (fun _ => True) A c xs := by
  obtain ⟨a, len, cap, rfl⟩ := okWide_slice ht hval
  obtain ⟨fuel, hf⟩ := h
  obtain ⟨xs, A, c, hcs, hAt⟩ := ho.get hf
  simp [Value.cells] at hcs
  obtain ⟨rfl, rfl, rfl⟩ := hcs
  exact ⟨xs, a, cap, rfl, hAt⟩
theorem Opens.agg_arg {H : Type} {enc : TypeId × Value → H} {w : World} {base : Nat} {spare : Nat → Bool} {held : Bool} {r : Reach} {b0 : Nat} {v : Value} {x : DataW H} {ps : List MemPlace}
    (ht : (∃ fs, P.underlying t = some (.struct fs)) ∨ (∃ n e, P.underlying t = some (.array n e))) (ho : Opens P t d) (hval : Value.okWide P w r b0 t v) (h : DataW.Trod enc P w base spare held t v x ps) : ∃ (y : α) (cs : List Value), v = .agg cs.toArray ∧ d.R w (fun _ => True) y cs := by
  obtain ⟨cs, rfl⟩ : ∃ cs, v = .agg cs := by
    unfold Value.okWide at hval
    rcases ht with ⟨fs, ht⟩ | ⟨n, e, ht⟩ <;> rw [ht] at hval <;> exact ⟨_, hval.choose_spec.1⟩
  obtain ⟨fuel, hf⟩ := h
  obtain ⟨y, hy⟩ := ho.get hf
  exact ⟨y, cs.toList, by simp, by simpa [Value.cells] using hy⟩
end
end Go.Proofs.Ytoinkagmhcojlaa
