/- Laws on slices of whatever kind: append onto one of the call's own; a function value that is called; where the elements of a slice lie. -/
import Derived.Test.YtoinkagmhcojlaaLib
import Derived.Maps.AppendAt
import Derived.Deep.DeepMust
import Derived.Deep.MidRow
namespace Go.Proofs.Ytoinkagmhcojlaa
open Go.RowKit
set_option linter.unusedVariables false
set_option linter.unusedSimpArgs false

/-- Cells that hold elements, one behind the other. -/
def Chunks {α : Type} (d : Rp α) (w : World) (ok : Nat → Prop) (xs : List α) (cells : List Value) : Prop :=
  cells.length = xs.length * d.sz ∧ (∀ u ∈ cells, u.oneCell' = true) ∧ ∀ i x, xs[i]? = some x → ∃ cs, d.R w ok x cs ∧ ∀ j u, cs[j]? = some u → cells[i * d.sz + j]? = some u

theorem chunk_lt {n sz i j : Nat} (hi : i < n) (hj : j < sz) : i * sz + j < n * sz := by
  have : (i + 1) * sz ≤ n * sz := Nat.mul_le_mul_right _ hi
  rw [Nat.add_mul, Nat.one_mul] at this
  omega

section
variable {α : Type} {d : Rp α} {w : World} {ok : Nat → Prop}
theorem Chunks.one {x : α} {cs : List Value} (h : d.R w ok x cs) : Chunks d w ok [x] cs :=
  ⟨by rw [d.len h]; simp, d.one h, fun i y hy => by
    cases i with
    | zero => simp at hy; subst hy; exact ⟨cs, h, fun j u hu => by simpa using hu⟩
    | succ i => simp at hy⟩

theorem Chunks.move {w' : World} {xs : List α} {cells : List Value} (h : Chunks d w ok xs cells) (hs : ∀ k, ok k → k < w.heap.size → w'.heap[k]? = w.heap[k]?) : Chunks d w' ok xs cells :=
  ⟨h.1, h.2.1, fun i x hx => let ⟨cs, hR, hc⟩ := h.2.2 i x hx; ⟨cs, d.move hs hR, hc⟩⟩
theorem Chunks.mono {ok' : Nat → Prop} {xs : List α} {cells : List Value} (h : Chunks d w ok xs cells) (hm : ∀ k, ok k → ok' k) : Chunks d w ok' xs cells :=
  ⟨h.1, h.2.1, fun i x hx => let ⟨cs, hR, hc⟩ := h.2.2 i x hx; ⟨cs, d.mono hm hR, hc⟩⟩
theorem Own.empty (d : Rp α) (e : TypeId) (w : World) (ok : Nat → Prop) : Own d e (w.alloc (.cells #[] e)) w.heap.size ok (.slice (some ⟨w.heap.size, 0, none⟩) 0 0) [] :=
  .inr ⟨w.heap.size, 0, #[], rfl, Nat.le_refl _, heap_alloc_new w _, Nat.le_refl _, Nat.zero_le _, by simp, fun i x h => by simp at h⟩

/-- The cells of a slice that is read. -/
theorem Rp.At.chunks {A : Option Addr} {c : Nat} {xs : List α} (h : d.At w ok A c xs) (hne : xs ≠ []) : ∃ g off cells, A = some ⟨g, off, none⟩ ∧ ok g ∧ g < w.heap.size ∧ Chunks d w ok xs cells ∧ w.rangeAt g off cells := by
  have h0 : 0 < xs.length := List.length_pos_iff.2 hne
  obtain ⟨g, off, cs0, rfl, hg, _, _⟩ := h.get h0
  have key : ∀ m, m < xs.length * d.sz → ∃ u, w.cell? ⟨g, off + m, none⟩ = some u ∧ u.oneCell' = true := fun m hm => by
    have hsz : 0 < d.sz := by
      rcases Nat.eq_zero_or_pos d.sz with h' | h'
      · rw [h'] at hm; omega
      · exact h'
    have hi : m / d.sz < xs.length := Nat.div_lt_of_lt_mul (by rw [Nat.mul_comm]; exact hm)
    obtain ⟨g', off', cs, hA, _, hR, hc⟩ := h.get hi
    injection hA with hA
    injection hA with e1 e2 _
    subst e1; subst e2
    have hj : m % d.sz < cs.length := by rw [d.len hR]; exact Nat.mod_lt _ hsz
    refine ⟨cs[m % d.sz], ?_, d.one hR _ (List.getElem_mem hj)⟩
    have := hc (m % d.sz) _ (List.getElem?_eq_getElem hj)
    rw [Nat.add_assoc, Nat.mul_comm, Nat.div_add_mod] at this
    exact this
  refine ⟨g, off, (List.range (xs.length * d.sz)).map fun m => (w.cell? ⟨g, off + m, none⟩).getD undef, rfl, hg.1, hg.2, ⟨by simp, fun u hu => ?_, fun i x hx => ?_⟩, fun j v hv => ?_⟩
  · obtain ⟨m, hm, rfl⟩ := List.mem_map.1 hu
    obtain ⟨u, hu, h1⟩ := key m (by simpa using hm)
    simp [hu, h1]
  · obtain ⟨g', off', cs, hA, _, hR, hc⟩ := h.2.2.2 i x hx
    injection hA with hA
    injection hA with e1 e2 _
    subst e1; subst e2
    refine ⟨cs, hR, fun j u hu => ?_⟩
    have hj : j < d.sz := by rw [← d.len hR]; exact (List.getElem?_eq_some_iff.1 hu).1
    have hi : i < xs.length := (List.getElem?_eq_some_iff.1 hx).1
    have := hc j u hu
    rw [Nat.add_assoc] at this
    rw [List.getElem?_map, List.getElem?_range (chunk_lt hi hj)]
    simp [this]
  · rw [List.getElem?_map] at hv
    obtain ⟨m, hm, rfl⟩ := Option.map_eq_some_iff.1 hv
    have hm' := List.getElem?_eq_some_iff.1 hm
    obtain ⟨hlt, he⟩ := hm'
    simp at he
    subst he
    obtain ⟨u, hu, _⟩ := key j (by simpa using hlt)
    simp [hu]
end

theorem Rp.At.chunksAt {α : Type} {d : Rp α} {w : World} {ok : Nat → Prop} {ad : Addr} {c : Nat} {xs : List α} (h : d.At w ok (some ad) c xs) : ∃ cells, Chunks d w (fun k => ok k ∧ k < w.heap.size) xs cells ∧ ∀ j u, cells[j]? = some u → w.cell? (ad.add j) = some u := by
  by_cases hne : xs = []
  · subst hne
    exact ⟨[], ⟨by simp, by simp, fun i x h => by simp at h⟩, fun j u h => by simp at h⟩
  · obtain ⟨g, off, cells, hA, hg, hgl, hch, hrg⟩ := h.bound.chunks hne
    injection hA with hA
    subst hA
    exact ⟨cells, hch, fun j u hu => by rw [Addr.add_mid]; exact hrg j u hu⟩

namespace Own
variable {α : Type} {d : Rp α} {e : TypeId} {w w' : World} {base : Nat} {ok : Nat → Prop} {v : Value} {xs : List α}
/-- Behind an append of elements. -/
theorem appendedAll {v' : Value} {ys : List α} {cs : List Value} {cells : List Value} (h : ∀ i x, xs[i]? = some x → ∃ cs, d.R w (fun k => ok k ∧ some k ≠ v.ownBlock) x cs ∧ ∀ j u, cs[j]? = some u → cells[i * d.sz + j]? = some u)
    (hlen : cells.length = xs.length * d.sz) (hx : Chunks d w (fun k => ok k ∧ some k ≠ v.ownBlock) ys cs) (hown : w'.ownsRow base e d.sz v' (xs.length + ys.length) (cells ++ cs)) (hg : w.grownBy w' v.ownBlock)
    (hv : ∀ k, v'.ownBlock = some k → v.ownBlock = some k ∨ w.heap.size ≤ k) : Own d e w' base ok v' (xs ++ ys) := by
  rcases hown.2 with ⟨h1, h0⟩ | ⟨g, cap, cur, rfl, hb, hh, hl, hm, hcs, htk⟩
  · have e1 : xs = [] := List.eq_nil_of_length_eq_zero (by omega)
    have e2 : ys = [] := List.eq_nil_of_length_eq_zero (by omega)
    exact .inl ⟨h1, by rw [e1, e2]; rfl⟩
  · refine .inr ⟨g, cap, cur, by simp, hb, hh, by simpa using hl, hm, hcs, fun i y hi => ?_⟩
    have far : ∀ k, (ok k ∧ some k ≠ v.ownBlock) → k < w.heap.size → w'.heap[k]? = w.heap[k]? := fun k hk hlt => hg.block k hlt hk.2
    have ne : ∀ k, ((ok k ∧ some k ≠ v.ownBlock) ∧ k < w.heap.size) → ok k ∧ k ≠ g := fun k hk => ⟨hk.1.1, fun e => by
      rcases hv g (by simp [Value.ownBlock]) with h1 | h1
      · exact hk.1.2 (by rw [e]; exact h1.symm)
      · have := hk.2; omega⟩
    have at_ : ∀ m u, (cells ++ cs)[m]? = some u → cur[m]? = some u := fun m u hu => by
      rw [← htk] at hu
      rw [List.getElem?_take] at hu
      split at hu
      · simpa using hu
      · cases hu
    by_cases hlt : i < xs.length
    · rw [List.getElem?_append_left hlt] at hi
      obtain ⟨ds, hR, hc⟩ := h i y hi
      refine ⟨ds, d.mono ne (d.move (fun k hk => far k hk.1) (d.bound hR)), fun j u hu => at_ _ _ ?_⟩
      rw [List.getElem?_append_left ?_]
      · exact hc j u hu
      · have := hc j u hu
        exact (List.getElem?_eq_some_iff.1 this).1
    · rw [List.getElem?_append_right (by omega)] at hi
      obtain ⟨ds, hR, hc⟩ := hx.2.2 _ _ hi
      refine ⟨ds, d.mono ne (d.move (fun k hk => far k hk.1) (d.bound hR)), fun j u hu => at_ _ _ ?_⟩
      have e1 : i * d.sz = xs.length * d.sz + (i - xs.length) * d.sz := by rw [← Nat.add_mul]; congr 1; omega
      rw [List.getElem?_append_right (by omega), hlen, e1]
      have := hc j u hu
      rwa [show xs.length * d.sz + (i - xs.length) * d.sz + j - xs.length * d.sz = (i - xs.length) * d.sz + j by omega]
end Own

section
variable {P : Program} {w : World} {ops : Array Oper} {rest : List Oper} {o : Oper} {a : Act} {Q : Exit → Act → World → Prop}

/-- append onto a slice of the call's own. -/
theorem wpList_append_Own {α : Type} {d : Rp α} (hgd : o.guard = none) (s x : Operand) (t : TypeId) (ho : o.op = .call { callee := .builtin .append, args := #[s, x], argTypes := #[t, t] })
    (base : Nat) (e : TypeId) (z : Value) (bytes : Nat) (ht : P.underlying t = some (.slice e)) (hinfo : (P.info? e).map (fun i => (i.zero, i.size, i.bytes)) = some (some z, d.sz, bytes)) (hzs : z.cells.size = d.sz) (hsz : 0 < d.sz)
    (ok : Nat → Prop) (v : Value) (xs : List α) (hs : a.eval s = v) (hown : Own d e w base ok v xs)
    (ad : Addr) (c : Nat) (ys : List α) (cs : List Value) (hx : a.eval x = .slice (some ad) ys.length c) (hcs : Chunks d w (fun k => ok k ∧ some k ≠ v.ownBlock) ys cs) (hnews : ∀ j u, cs[j]? = some u → w.cell? (ad.add j) = some u)
    (h63 : xs.length + ys.length ≤ maxLen) (hbytes : (xs.length + ys.length) * bytes ≤ 140737488355328) (hbase : base ≤ w.heap.size)
    (h : ∀ v' w', Own d e w' base ok v' (xs ++ ys) → w.grownBy w' v.ownBlock → (∀ k, v'.ownBlock = some k → v.ownBlock = some k ∨ w.heap.size ≤ k) → (v' = .slice none 0 0 ↔ v = .slice none 0 0 ∧ ys.length = 0) → wpList P ops Q rest (a.put o.dst v') w') : wpList P ops Q (o :: rest) a w := by
  obtain ⟨i, hi, hz, hs1, hs2⟩ := info_parts hinfo
  obtain ⟨cells, hrow, hr⟩ := hown.rows
  refine wpList_append_own_at w hgd s x t ho base e i z d.sz bytes ht hi hz hs1 hs2 hzs hsz v xs.length cells hs hrow ad ys.length c cs hx hcs.1 hnews hcs.2.1 h63 hbytes hbase (fun v' w' h1 h2 h3 h4 => ?_)
  have hb : ∀ k, v'.ownBlock = some k → v.ownBlock = some k ∨ w.heap.size ≤ k := fun k hk => by
    rcases h4 with h4 | h4
    · exact .inl (by rw [← h4]; exact hk)
    · rw [h4] at hk; cases hk; exact .inr (Nat.le_refl _)
  exact h v' w' (Own.appendedAll hr hrow.1 hcs h1 h2 hb) h2 hb h3

/-- An index, or -1. -/
def idxOf : Option Nat → Int
  | some i => i
  | none => -1
theorem findIdx_at {α : Type} {xs : List α} {p : α → Bool} {k : Nat} (hk : k < xs.length) (hP : ∀ j x, j < k → xs[j]? = some x → p x = false) (hp : p (xs[k]'hk) = true) : xs.findIdx? p = some k := by
  rw [List.findIdx?_eq_some_iff_getElem]
  exact ⟨hk, hp, fun j hj => by simpa using hP j _ hj (List.getElem?_eq_getElem (by omega))⟩
theorem findIdx_none {α : Type} {xs : List α} {p : α → Bool} {k : Nat} (hk : k = xs.length) (hP : ∀ j x, j < k → xs[j]? = some x → p x = false) : xs.findIdx? p = none := by
  rw [List.findIdx?_eq_none_iff]
  intro x hx
  obtain ⟨j, hj, rfl⟩ := List.getElem_of_mem hx
  exact hP j _ (by omega) (List.getElem?_eq_getElem hj)

theorem findIdx_at_all {α : Type} {xs : List α} {p : α → Bool} {k : Nat} (h : xs.findIdx? p = some k) : ∃ hk : k < xs.length, p (xs[k]'hk) = true ∧ ∀ j (hj : j < xs.length), j < k → p (xs[j]'hj) = false := by
  obtain ⟨h1, h2, h3⟩ := List.findIdx?_eq_some_iff_getElem.1 h
  exact ⟨h1, h2, fun j hj hlt => by simpa using h3 j hlt⟩

/-- What a function value needs to be called: a function with a body. -/
def Callable (P : Program) (f : FuncId) : Prop := ∃ fn, P.funcs[f]? = some fn ∧ (fn.name == "runtime.NumGoroutine") = false ∧ fn.body.isNone = false

theorem wpList_callfn (hgd : o.guard = none) (x : Operand) (args : Array Operand) (ats : Array TypeId) (ho : o.op = .call { callee := .value x, args := args, argTypes := ats })
    (f : FuncId) (first captured : Array Value) (hx : a.eval x = .func (.func f) first captured) (hf : Callable P f) (vs : Array Value) (hvs : args.map a.eval = vs)
    (h : Calls P f (first ++ vs ++ captured) w fun e w' => ∃ v, e = .returned v ∧ wpList P ops Q rest (a.put o.dst v) w') : wpList P ops Q (o :: rest) a w := by
  refine wpList_plain hgd fun K hK => ?_
  obtain ⟨fn, h1, h2, h3⟩ := hf
  unfold Oper.wp
  have hrun : (execOp a.eval o).run P w = .ok (.enter f (first ++ vs ++ captured)) w := by
    simp only [execOp, ho, resolve, hx, Deferred.ofValue, Sem.run_bind, Sem.run_pure, Result.andThen_ok, invoke, callFunc, run_program, h1, h2, h3, hvs]
    simp
  rw [hrun]
  show Calls P f (first ++ vs ++ captured) w _
  refine h.mono fun e w' ⟨v, he, hk⟩ => ?_
  subst he
  exact hK _ _ hk
end
/-! ### Cells set in a row; clear -/
theorem setCells_heap {g : Nat} {e : TypeId} (vs : List Value) : ∀ (o : Nat) (w : World) (cur : Array Value), w.heap[g]? = some (.cells cur e (0, 0)) → ∃ cur', (w.setCells g o vs).heap[g]? = some (.cells cur' e (0, 0)) ∧ cur'.size = cur.size := by
  induction vs with
  | nil => exact fun o w cur h => ⟨cur, h, rfl⟩
  | cons v vs ih =>
    intro o w cur h
    obtain ⟨cur', h1, h2⟩ := ih (o + 1) (w.setCell ⟨g, o, none⟩ v) _ (heap_setCell_same w g o cur e v h)
    exact ⟨cur', h1, by rw [h2]; simp⟩
theorem setCells_chg {g : Nat} (vs : List Value) : ∀ (o : Nat) (w : World), Chg [g] w (w.setCells g o vs) := by
  induction vs with
  | nil => exact fun o w => Chg.refl _ _
  | cons v vs ih => exact fun o w => ((Chg.refl [g] w).set (p := ⟨g, o, none⟩) (.inl (by simp)) v).trans (ih (o + 1) _) (fun k hk => .inl hk)
theorem there_of_block {w : World} {g : Nat} {cur : Array Value} {e : TypeId} (h : w.heap[g]? = some (.cells cur e (0, 0))) {o n : Nat} (hn : o + n ≤ cur.size) : w.there g o n := fun j hj =>
  ⟨by rw [cell_of_block h, Array.getElem?_eq_getElem (by omega)]; rfl, by simp [World.frozen?, h]⟩
theorem rk {W w1 : World} {b o : Nat} {cs : List Value} (hb : ∀ k, k = b → w1.heap[k]? = W.heap[k]?) (h : W.rangeAt b o cs) : w1.rangeAt b o cs := fun j v hv => by
  rw [cell_same (hb b rfl)]
  exact h j v hv
theorem rangeAt_new (w : World) (c : Array Value) (t : TypeId) : (w.alloc (.cells c t)).there w.heap.size 0 c.size := there_of_block (heap_alloc_new w _) (by omega)

theorem run_clear_row {P : Program} (w : World) (t e ty : TypeId) (z : Value) (ht : P.underlying t = some (.slice e)) (hv : ∀ w, (zeroValue e).run P w = .ok z w) (h1 : ∀ u ∈ z.cells, u.oneCell' = true) (b o n c : Nat) (hn : 0 < n)
    (hc : w.there b o (n * z.cells.size)) :
    (Builtin.clear_ #[t] ty #[.slice (some ⟨b, o, none⟩) n c]).run P w = .ok (.tuple #[]) (w.setCells b o (Builtin.zeroCells z.cells n).toList) := by
  have hsz : (Builtin.zeroCells z.cells n).toList.length = n * z.cells.size := by simp [Builtin.zeroCells]
  have hst := run_storeCells_cells (P := P) b o (Builtin.zeroCells z.cells n).toList 0 w (fun j hj => by rw [hsz] at hj; exact (hc j hj).1) (fun j hj => by rw [hsz] at hj; exact (hc j hj).2)
    (fun v hv' => by
      simp [Builtin.zeroCells] at hv'
      obtain ⟨i, hi, rfl⟩ := hv'
      have hz : 0 < z.cells.size := by
        rcases Nat.eq_zero_or_pos z.cells.size with h' | h'
        · rw [h'] at hi; omega
        · exact h'
      have hm : i % z.cells.size < z.cells.size := Nat.mod_lt _ hz
      first
        | exact h1 _ (Array.getElem_mem hm)
        | (rw [Array.getElem?_eq_getElem hm]; exact h1 _ (Array.getElem_mem hm))
        | (simp [hm]; exact h1 _ (Array.getElem_mem hm)))
  simp only [Nat.add_zero] at hst
  obtain ⟨m, rfl⟩ : ∃ m, n = m + 1 := ⟨n - 1, by omega⟩
  simp [Builtin.clear_, run_underlying ht, hv, hst]

theorem wpList_clear {P : Program} {w : World} {ops : Array Oper} {rest : List Oper} {o : Oper} {a : Act} {Q : Exit → Act → World → Prop} (hgd : o.guard = none) (x : Operand) (t e : TypeId) (ho : o.op = .call { callee := .builtin .clear, args := #[x], argTypes := #[t] })
    (z : Value) (ht : P.underlying t = some (.slice e)) (hv : ∀ w, (zeroValue e).run P w = .ok z w) (h1 : ∀ u ∈ z.cells, u.oneCell' = true) (b off n c : Nat) (hx : a.eval x = .slice (some ⟨b, off, none⟩) n c) (hn : 0 < n) (hc : w.there b off (n * z.cells.size))
    (h : wpList P ops Q rest (a.put o.dst (.tuple #[])) (w.setCells b off (Builtin.zeroCells z.cells n).toList)) : wpList P ops Q (o :: rest) a w := by
  refine wpList_plain hgd fun K hK => ?_
  unfold Oper.wp
  have hrun : (execOp a.eval o).run P w = .ok (.value (.tuple #[])) (w.setCells b off (Builtin.zeroCells z.cells n).toList) := by
    simp only [execOp, ho, resolve, Sem.run_bind, Sem.run_pure, Result.andThen_ok, invoke, builtin, List.map_toArray, List.map_cons, List.map_nil, hx, run_clear_row w t e _ z ht hv h1 b off n c hn hc]
  rw [hrun]
  exact hK _ _ h

theorem Own.base_ge {α : Type} {d : Rp α} {e : TypeId} {w : World} {base base' : Nat} {ok : Nat → Prop} {v : Value} {xs : List α} (h : Own d e w base ok v xs) (hb : base' ≤ base) : Own d e w base' ok v xs := by
  rcases h with h' | ⟨g, cap, cur, hv, hg, r⟩
  · exact .inl h'
  · exact .inr ⟨g, cap, cur, hv, by omega, r⟩
theorem chg_own {v : Value} {w w' : World} {k : Nat} (h : Chg v.ownBlock.toList w w') (hk : k < w.heap.size) (hne : v.ownBlock ≠ some k) : w'.heap[k]? = w.heap[k]? :=
  h.block k hk (fun hm => hne (by simpa using hm))

theorem below_of_chg {S : List Nat} {w w' : World} {B : Nat} (h : Chg S w w') (hB : B ≤ w.heap.size) (hS : ∀ k, k ∈ S → B ≤ k) : Below B w w' :=
  ⟨h.os, h.tape, h.output, h.size, fun k hk => h.block k (by omega) (fun hm => by have := hS k hm; omega)⟩

theorem Own.at_ {α : Type} {d : Rp α} {e : TypeId} {w : World} {base n c : Nat} {ok : Nat → Prop} {A : Option Addr} {xs : List α} (h : Own d e w base ok (.slice A n c) xs) : d.At w (fun k => ok k ∨ (Value.slice A n c).ownBlock = some k) A c xs := by
  obtain ⟨A', c', e, hAt⟩ := h.reads
  simp only [List.cons.injEq, and_true] at e
  injection e with e1 e2 e3
  subst e1; subst e3
  exact hAt

/-- A slice over a block that is known whole. -/
theorem at_of_block {α : Type} {d : Rp α} {w : World} {ok : Nat → Prop} {g off c : Nat} {cur : Array Value} {e : TypeId} {fr : Nat × Nat} {xs : List α} (hb : w.heap[g]? = some (.cells cur e fr)) (hg : ok g) (hc : xs.length ≤ c) (hm : c ≤ maxLen)
    (hx : ∀ i x, xs[i]? = some x → ∃ cs, d.R w ok x cs ∧ ∀ j u, cs[j]? = some u → cur[off + i * d.sz + j]? = some u) : d.At w ok (some ⟨g, off, none⟩) c xs :=
  ⟨hc, hm, (fun h => by cases h), fun i x hi => let ⟨cs, hR, hcs⟩ := hx i x hi; ⟨g, off, cs, rfl, ⟨hg, (Array.getElem?_eq_some_iff.1 hb).1⟩, hR, fun j u hu => by rw [cell_of_block hb]; exact hcs j u hu⟩⟩

/-- One choice for all elements. -/
theorem choose_all {α β : Type} (xs : List α) : ∀ (Q : Nat → α → β → Prop), (∀ i x, xs[i]? = some x → ∃ c, Q i x c) → ∃ ps : List (α × β), ps.map (·.1) = xs ∧ ∀ i q, ps[i]? = some q → Q i q.1 q.2 := by
  induction xs with
  | nil => exact fun Q _ => ⟨[], rfl, fun i q h => by simp at h⟩
  | cons x xs ih =>
    intro Q h
    obtain ⟨c, hc⟩ := h 0 x (by simp)
    obtain ⟨ps, h1, h2⟩ := ih (fun i => Q (i + 1)) (fun i y hy => h (i + 1) y (by simpa using hy))
    refine ⟨(x, c) :: ps, by simp [h1], fun i q hq => ?_⟩
    cases i with
    | zero => simp at hq; subst hq; exact hc
    | succ i => exact h2 i q (by simpa using hq)
theorem filter_take_snoc {γ : Type} (ps : List γ) (q : γ → Bool) (j : Nat) (h : j < ps.length) : (ps.take (j + 1)).filter q = (ps.take j).filter q ++ (if q (ps[j]'h) then [ps[j]'h] else []) := by
  rw [List.take_succ_eq_append_getElem h, List.filter_append]
  congr 1
  by_cases hq : q (ps[j]'h) = true <;> simp [hq]
theorem filter_map_fst {α β : Type} (ps : List (α × β)) (q : α → Bool) : (ps.filter fun p => q p.1).map (·.1) = (ps.map (·.1)).filter q := by
  induction ps with
  | nil => rfl
  | cons p ps ih => by_cases h : q p.1 = true <;> simp [h, ih]
end Go.Proofs.Ytoinkagmhcojlaa
