/- slices' functions at records. -/
import Derived.Test.YtoinkagmhcojlaaKinds
import Derived.Test.YtoinkagmhcojlaaSl
import Derived.Test.YtoinkagmhcojlaaProg
namespace Go.Proofs.Ytoinkagmhcojlaa
open Go.RowKit
set_option linter.unusedVariables false
set_option linter.unusedSimpArgs false
theorem rec_info : (Try.prog.info? 32).map (fun i => (i.zero, i.size, i.bytes)) = some (some (.agg #[.int .i64 0, .int .i64 0, .bool false, .string ⟨#[]⟩, .bool false, .string ⟨#[]⟩]), 6, 64) := by kernel_rfl

set_option maxHeartbeats 400000 in
theorem rec_clone (xs : List Rec) (A : Option Addr) (c : Nat) (w : World) (ok : Nat → Prop) (h : recK.At w ok A c xs) (hroom : xs.length * 64 ≤ 140737488355328) :
    Calls Try.prog 38 #[.slice A xs.length c] w fun e w' =>
      ∃ v, e = .returned v ∧ Own recK 32 w' w.heap.size ok v xs ∧ Below w.heap.size w w' := by
  cases A with
  | none =>
    have hc : c = 0 := h.2.2.1 rfl
    have hx : xs = [] := List.eq_nil_of_length_eq_zero (by have := h.1; omega)
    subst hx
    subst hc
    have hn := fun w => Lib.run_eql_slice_nil (P := Try.prog) w 28 32 none 0 0 0 0 Try.underlying28
    go_enter Try.func38, Try.ntmps38
    go_wp2
    go_ret
    exact ⟨_, rfl, Own.nil _ _ _ _ _, Below.refl _ _⟩
  | some ad =>
    have hn := fun w => Lib.run_eql_slice_nil (P := Try.prog) w 28 32 (some ad) xs.length c 0 0 Try.underlying28
    obtain ⟨cells, hch, hrg⟩ := h.chunksAt
    have hmax : Hid (xs.length ≤ maxLen) := hid (Nat.le_trans h.1 h.2.1)
    have hh := hid hrg
    have hr := hid hroom
    clear hrg hroom h
    go_enter Try.func38, Try.ntmps38
    go_wp2_with (at_builtin; go_must (refine wpList_append_Own rfl _ _ 28 rfl w.heap.size 32 (.agg #[.int .i64 0, .int .i64 0, .bool false, .string ⟨#[]⟩, .bool false, .string ⟨#[]⟩]) 64 Try.underlying28 rec_info rfl (by decide) (fun k => ok k ∧ k < w.heap.size) (.slice (some ⟨w.heap.size, 0, none⟩) 0 0) [] rfl (Own.empty _ _ _ _) ad c xs cells rfl ((hch.move (fun k hk _ => Below.heap_alloc _ _ _ hk.2)).mono (fun k hk => ⟨hk, by have := hk.2; show some k ≠ some w.heap.size; intro e; cases e; omega⟩)) (fun j u hu => (World.cell?_alloc_lt _ _ _ (World.block_lt_of_cell? (w := w) _ (hh.out j u hu))).trans (hh.out j u hu)) (by have := hmax.out; simpa using this) (by have := hr.out; simpa using this) (by simp) ?_); intro v' w1 hO hg hv hnil)
    go_ret
    exact ⟨_, rfl, (by simpa using hO.mono (fun k hk => hk.1)), bgrown (by repeat (first | exact Below.refl _ _ | assumption | apply balloc | apply bdN | apply bdrew | refine bthen ?_ (by assumption))) hg (fun k hk => by simp [Value.ownBlock] at hk; omega)⟩

theorem rec_size : (Try.prog.info? 32).map (·.size) = some 6 := by kernel_rfl

set_option maxRecDepth 10000 in
set_option maxHeartbeats 400000 in
theorem rec_indexFunc (xs : List Rec) (A : Option Addr) (c : Nat) (w : World) (ok : Nat → Prop) (h : recK.At w ok A c xs) (f : FuncId) (first cap : Array Value) (hf : Callable Try.prog f) (p : Rec → Bool)
    (hclo : ∀ (w' : World) (x : Rec) (cs : List Value), Below w.heap.size w w' → recK.R w ok x cs → Calls Try.prog f (first ++ #[.agg cs.toArray] ++ cap) w' fun e w'' => e = .returned (.bool (p x)) ∧ Below w'.heap.size w' w'') :
    Calls Try.prog 57 #[.slice A xs.length c, .func (.func f) first cap] w fun e w' => e = .returned (.int .i64 (idxOf (xs.findIdx? p))) ∧ Below w.heap.size w w' := by
  have hm : xs.length ≤ 9223372036854775807 := by have := h.1; have := h.2.1; unfold maxLen at *; omega
  have hC := hid hclo
  clear hclo
  go_enter Try.func57, Try.ntmps57
  go_wp2
  go_loopw [8] (fun i wr => ∃ k : Nat, k ≤ xs.length ∧ i = .int .i64 k ∧ Hid (∀ j x, j < k → xs[j]? = some x → p x = false) ∧ Below w.heap.size w wr) (fun i _ => xs.length - (intOf i).toNat)
  case atStart => exact ⟨0, Nat.zero_le _, rfl, hid (fun j x hj => by omega), Below.refl _ _⟩
  case round =>
    obtain ⟨k, hk, rfl, hP, hb⟩ := hrel
    by_cases hlt : k < xs.length
    · obtain ⟨g, off, cs, rfl, hg, hR, hc⟩ := h.get hlt
      have hcl : cs.length = 6 := recK.len hR
      have hsz : (Try.prog.info? 32).map (·.size) = some cs.length := by rw [hcl]; exact rec_size
      have hrange : wr.rangeAt g (off + k * 6) cs := fun j u hu => ck hb (hc j u hu)
      have hR1 := hid hrange
      have hS1 := hid hsz
      clear hrange hsz hcl hc
      by_cases hp : p xs[k] = true
      · have hfin := hid (findIdx_at hlt hP.out hp)
        have hcall := fun W hW => hC.out W xs[k] cs hW hR
        rw [hp] at hcall
        have hC2 := hid hcall
        clear hcall hp
        go_wp2_with (first | (refine wpList_load_mid rfl 32 _ rfl g _ rfl cs _ hR1.out Try.underlying32 rfl hS1.out ?_) | (refine wpList_callfn rfl _ _ _ rfl f first cap rfl hf #[.agg cs.toArray] (by simp only [List.map_toArray, List.map_cons, List.map_nil]; rfl) ?_; refine (hC2.out _ hb).mono ?_; rintro e w1 ⟨rfl, hb1⟩; refine ⟨_, rfl, ?_⟩))
        go_ret
        exact ⟨by rw [hfin.out]; rfl, bthen hb hb1⟩
      · have hp' : p xs[k] = false := by simpa using hp
        clear hp
        have hcall := fun W hW => hC.out W xs[k] cs hW hR
        rw [hp'] at hcall
        have hC2 := hid hcall
        have hp2 := hid hp'
        clear hcall hp'
        go_wp2_with (first | (refine wpList_load_mid rfl 32 _ rfl g _ rfl cs _ hR1.out Try.underlying32 rfl hS1.out ?_) | (refine wpList_callfn rfl _ _ _ rfl f first cap rfl hf #[.agg cs.toArray] (by simp only [List.map_toArray, List.map_cons, List.map_nil]; rfl) ?_; refine (hC2.out _ hb).mono ?_; rintro e w1 ⟨rfl, hb1⟩; refine ⟨_, rfl, ?_⟩))
        go_roundw
        case rel =>
          refine ⟨k + 1, by omega, by go_num, hid (fun j x hj hx => ?_), bthen hb hb1⟩
          by_cases e : j = k
          · subst e
            rw [List.getElem?_eq_getElem hlt] at hx
            cases hx
            exact hp2.out
          · exact hP.out j x (by omega) hx
        case measure => simp [intOf]; omega
    · have hfin := hid (findIdx_none (p := p) (show k = xs.length by omega) hP.out)
      go_wp2
      go_ret
      exact ⟨by rw [hfin.out]; rfl, hb⟩

theorem rec_zero (w : World) : (zeroValue 32).run Try.prog w = .ok (.agg #[.int .i64 0, .int .i64 0, .bool false, .string ⟨#[]⟩, .bool false, .string ⟨#[]⟩]) w := by kernel_rfl
theorem rec_zeroOne : ∀ u ∈ ((.agg #[.int .i64 0, .int .i64 0, .bool false, .string ⟨#[]⟩, .bool false, .string ⟨#[]⟩]) : Value).cells, u.oneCell' = true := by decide

set_option maxRecDepth 10000 in
set_option maxHeartbeats 1000000 in
theorem rec_deleteFunc_some (ps : List (Rec × List Value)) (g n cap : Nat) (cur : Array Value) (w : World) (hn : n = ps.length) (hcap : n ≤ cap) (hmax : cap ≤ maxLen) (hcur : cur.size = cap * 6)
    (hg : w.heap[g]? = some (.cells cur 32 (0, 0))) (hR : ∀ (t : Nat) (q : Rec × List Value), ps[t]? = some q → q.2.length = 6 ∧ ∀ u ∈ q.2, u.oneCell' = true) (hAt : ∀ (t : Nat) (q : Rec × List Value), ps[t]? = some q → w.rangeAt g (t * 6) q.2)
    (f : FuncId) (first clo : Array Value) (hf : Callable Try.prog f) (p : Rec → Bool)
    (hclo : ∀ (w' : World) (t : Nat) (q : Rec × List Value), ps[t]? = some q → Chg [g] w w' → Calls Try.prog f (first ++ #[.agg q.2.toArray] ++ clo) w' fun e w'' => e = .returned (.bool (p q.1)) ∧ Below w'.heap.size w' w'')
    (i0 : Nat) (hi0n : i0 < n) (hi0 : ∀ q, ps[i0]? = some q → p q.1 = true) (hpre : ∀ (j : Nat) (q : Rec × List Value), j < i0 → ps[j]? = some q → p q.1 = false)
    (hidx : Calls Try.prog 57 #[.slice (some ⟨g, 0, none⟩) n cap, .func (.func f) first clo] w fun e w' => e = .returned (.int .i64 i0) ∧ Below w.heap.size w w') :
    Calls Try.prog 37 #[.slice (some ⟨g, 0, none⟩) n cap, .func (.func f) first clo] w fun e w' =>
      ∃ m cur', m = (ps.filter fun q => !p q.1).length ∧ e = .returned (.slice (some ⟨g, 0, none⟩) m cap) ∧ w'.heap[g]? = some (.cells cur' 32 (0, 0)) ∧ cur'.size = cur.size ∧
        (∀ (s : Nat) (q : Rec × List Value), (ps.filter fun q => !p q.1)[s]? = some q → w'.rangeAt g (s * 6) q.2) ∧ Chg [g] w w' := by
  have hnm : n ≤ 9223372036854775807 := by unfold maxLen at hmax; omega
  have hcm : cap ≤ 9223372036854775807 := by unfold maxLen at hmax; omega
  have hP0 := hid hi0
  have hP1 := hid hpre
  have hC := hid hclo
  have hA := hid hAt
  have hRR := hid hR
  have hG := hid hg
  have hS := hid hcur
  have hN := hid hn
  have hgl : g < w.heap.size := (Array.getElem?_eq_some_iff.1 hg).1
  clear hclo hAt hR hcur hn hi0 hpre
  clear hg
  have hm1 : ((i0 : Int) == -1) = false := by rw [beq_eq_false_iff_ne]; omega
  go_enter Try.func37, Try.ntmps37
  go_wp2_with (go_at_call 57; refine hidx.mono ?_; rintro e w0 ⟨rfl, hb0⟩)
  go_loopw [5, 6] (fun iv jv wr => ∃ j i : Nat, i0 < j ∧ j ≤ n ∧ i < j ∧ iv = .int .i64 i ∧ jv = .int .i64 j ∧ Hid (i = ((ps.take j).filter fun q => !p q.1).length) ∧
      Hid (∀ (s : Nat) (q : Rec × List Value), ((ps.take j).filter fun q => !p q.1)[s]? = some q → wr.rangeAt g (s * 6) q.2) ∧
      Hid (∀ (t : Nat) (q : Rec × List Value), j ≤ t → ps[t]? = some q → wr.rangeAt g (t * 6) q.2) ∧ Hid (∃ cur', wr.heap[g]? = some (.cells cur' 32 (0, 0)) ∧ cur'.size = cur.size) ∧ Chg [g] w wr) (fun _ jv _ => n - (intOf jv).toNat)
  case atStart =>
    have hb0c := Chg.of_below [g] hb0
    have hfl : (ps.take (i0 + 1)).filter (fun q => !p q.1) = ps.take i0 := by
      have h1 : i0 < ps.length := by rw [← hN.out]; exact hi0n
      rw [filter_take_snoc _ _ _ h1]
      have h2 : p (ps[i0]'h1).1 = true := hP0.out _ (List.getElem?_eq_getElem h1)
      simp only [h2, Bool.not_true, Bool.false_eq_true, if_false, List.append_nil]
      rw [List.filter_eq_self]
      intro q hq
      obtain ⟨m, hm, rfl⟩ := List.getElem_of_mem hq
      simp only [List.length_take] at hm
      rw [List.getElem_take]
      rw [hP1.out m _ (by omega) (List.getElem?_eq_getElem (by omega))]
      rfl
    refine ⟨i0 + 1, i0, by omega, by omega, by omega, rfl, by go_num, hid ?_, hid ?_, hid ?_, hid ?_, hb0c⟩
    · rw [hfl, List.length_take, ← hN.out]; omega
    · intro s q hq
      rw [hfl] at hq
      have hs : s < i0 := by
        have := (List.getElem?_eq_some_iff.1 hq).1
        simp only [List.length_take] at this
        omega
      rw [List.getElem?_take_of_lt hs] at hq
      exact rk (fun k hk => by subst hk; exact hb0.block _ hgl) (hA.out s q hq)
    · intro t q _ hq
      exact rk (fun k hk => by subst hk; exact hb0.block _ hgl) (hA.out t q hq)
    · exact ⟨cur, (hb0.block _ hgl).trans hG.out, rfl⟩
  case round =>
    obtain ⟨j, i, hj0, hjn, hij, rfl, rfl, hI, hK, hT, hB, hch⟩ := hrel
    by_cases hlt : j < n
    · have hjl : j < ps.length := by rw [← hN.out]; exact hlt
      obtain ⟨q, hq⟩ : ∃ q, ps[j]? = some q := ⟨_, List.getElem?_eq_getElem hjl⟩
      have hqe : ps[j]'hjl = q := (List.getElem?_eq_some_iff.1 hq).2
      have hst := hid (filter_take_snoc ps (fun q => !p q.1) j hjl)
      rw [hqe] at hst
      have hql := hid (hRR.out j q hq)
      have hrj := hid (hT.out j q (Nat.le_refl _) hq)
      have hsz := hid (show (Try.prog.info? 32).map (·.size) = some q.2.toArray.size by rw [List.size_toArray, hql.out.1]; exact rec_size)
      have hsl := hid (show (Try.prog.info? 32).map (·.size) = some q.2.length by rw [hql.out.1]; exact rec_size)
      have hone := hid (all_oneCell_toArray hql.out.2)
      have hgr : g < wr.heap.size := Nat.lt_of_lt_of_le hgl hch.size
      obtain ⟨cur1, hB1, hB2⟩ := hB.out
      have hB1' := hid hB1
      have hB2' := hid hB2
      have hcall := fun W hW => hC.out W j q hq hW
      clear hB1 hB2 hq hqe hjl
      -- the new block that holds the element
      have hnewt : ∀ Z : Array Value, Z.size = 6 → (wr.alloc (.cells Z 32)).there wr.heap.size 0 q.2.toArray.size := fun Z hZ => by
        have hqs : q.2.toArray.size = Z.size := by rw [hZ]; simp [hql.out.1]
        rw [hqs]; exact rangeAt_new _ _ _
      obtain ⟨Z, hZ⟩ : ∃ Z : Array Value, Z = ((.agg #[.int .i64 0, .int .i64 0, .bool false, .string ⟨#[]⟩, .bool false, .string ⟨#[]⟩]) : Value).cells := ⟨_, rfl⟩
      have hZs : Z.size = 6 := by rw [hZ]; rfl
      have hW2 : Chg [g] w ((wr.alloc (.cells Z 32)).setCells wr.heap.size 0 q.2) := (hch.alloc _).trans (setCells_chg _ _ _) (fun k hk => .inr (by simp at hk; subst hk; exact hch.size))
      have hrn : ((wr.alloc (.cells Z 32)).setCells wr.heap.size 0 q.2).rangeAt wr.heap.size 0 q.2 := World.rangeAt_setCells_same _ _ _ _ (by have := hnewt Z hZs; simpa using this)
      have hnt := hid (hnewt Z hZs)
      have hrn' := hid hrn
      have hW2' := hid hW2
      have hbk : ((wr.alloc (.cells Z 32)).setCells wr.heap.size 0 q.2).heap[g]? = wr.heap[g]? := by
        rw [(setCells_chg (g := wr.heap.size) q.2 0 (wr.alloc (.cells Z 32))).block g (by simp; omega) (by simp; omega)]
        exact Below.heap_alloc _ _ _ hgr
      have hbk' := hid hbk
      clear hnewt hW2 hrn hZs hbk
      subst hZ
      by_cases hp : p q.1 = true
      · have hcl := hcall _ hW2'.out
        rw [hp] at hcl hst
        have hcl' := hid hcl
        clear hcl hcall hp
        go_wp2_with (first | (refine wpList_load_mid rfl 32 _ rfl g _ rfl q.2 _ hrj.out Try.underlying32 rfl hsl.out ?_) | (refine wpList_store_mid rfl 32 _ _ rfl wr.heap.size 0 q.2.toArray rfl rfl hnt.out hsz.out hone.out ?_) | (refine wpList_load_mid rfl 32 _ rfl wr.heap.size 0 rfl q.2 _ hrn'.out Try.underlying32 rfl hsl.out ?_) | (refine wpList_callfn rfl _ _ _ rfl f first clo rfl hf #[.agg q.2.toArray] (by simp only [List.map_toArray, List.map_cons, List.map_nil]; rfl) ?_; refine hcl'.out.mono ?_; rintro e w1 ⟨rfl, hb1⟩; refine ⟨_, rfl, ?_⟩))
        have hnew : w1.heap[g]? = wr.heap[g]? := (hb1.block g (Nat.lt_of_lt_of_le hgl hW2'.out.size)).trans hbk'.out
        simp only [Bool.not_true, Bool.false_eq_true, if_false, List.append_nil] at hst
        go_roundw
        case rel =>
          refine ⟨j + 1, i, by omega, by omega, by omega, rfl, by go_num, hid ?_, hid ?_, hid ?_, hid ?_, hW2'.out.trans (Chg.of_below [] hb1) (by simp)⟩
          · rw [hst.out]; exact hI.out
          · rw [hst.out]; exact fun s q hq => rk (fun k hk => by subst hk; exact hnew) (hK.out s q hq)
          · exact fun t q ht hq => rk (fun k hk => by subst hk; exact hnew) (hT.out t q (by omega) hq)
          · exact ⟨cur1, hnew.trans hB1'.out, hB2'.out⟩
        case measure => simp [intOf]; omega
      · have hp' : p q.1 = false := by simpa using hp
        clear hp
        have hcl := hcall _ hW2'.out
        rw [hp'] at hcl hst
        have hcl' := hid hcl
        clear hcl hcall hp'
        have hib : (i : Int) < (n : Int) := by omega
        have hiz : i * 6 + 6 ≤ cap * 6 := by omega
        go_wp2_with (first | (refine wpList_load_mid rfl 32 _ rfl g _ rfl q.2 _ hrj.out Try.underlying32 rfl hsl.out ?_) | (refine wpList_store_mid rfl 32 _ _ rfl wr.heap.size 0 q.2.toArray rfl rfl hnt.out hsz.out hone.out ?_) | (refine wpList_load_mid rfl 32 _ rfl wr.heap.size 0 rfl q.2 _ hrn'.out Try.underlying32 rfl hsl.out ?_) | (refine wpList_callfn rfl _ _ _ rfl f first clo rfl hf #[.agg q.2.toArray] (by simp only [List.map_toArray, List.map_cons, List.map_nil]; rfl) ?_; refine hcl'.out.mono ?_; rintro e w1 ⟨rfl, hb1⟩; refine ⟨_, rfl, ?_⟩) | (refine wpList_load_mid rfl 32 _ rfl wr.heap.size 0 rfl q.2 _ (rk (fun k hk => by subst hk; exact hb1.block _ (cell_lt (hrn'.out 0 _ (List.getElem?_eq_getElem (by rw [hql.out.1]; decide))))) hrn'.out) Try.underlying32 rfl hsl.out ?_) | (refine wpList_store_mid rfl 32 _ _ rfl g (i * 6) q.2.toArray rfl rfl (there_of_block (((hb1.block g (Nat.lt_of_lt_of_le hgl hW2'.out.size)).trans hbk'.out).trans hB1'.out) (by rw [hB2'.out, hS.out, List.size_toArray, hql.out.1]; exact hiz)) hsz.out hone.out ?_))
        have hnew : w1.heap[g]? = wr.heap[g]? := (hb1.block g (Nat.lt_of_lt_of_le hgl hW2'.out.size)).trans hbk'.out
        have hth : w1.there g (i * 6) q.2.length := there_of_block (hnew.trans hB1'.out) (by rw [hB2'.out, hS.out, hql.out.1]; exact hiz)
        simp only [Bool.not_false, if_true] at hst
        go_roundw
        case rel =>
          refine ⟨j + 1, i + 1, by omega, by omega, by omega, by go_num, by go_num, hid ?_, hid ?_, hid ?_, hid ?_, (hW2'.out.trans (Chg.of_below [] hb1) (by simp)).trans (setCells_chg _ _ _) (fun k hk => .inl hk)⟩
          · rw [hst.out, List.length_append, ← hI.out]; rfl
          · rw [hst.out]
            intro s q2 hq2
            by_cases hs : s < i
            · rw [List.getElem?_append_left (by rw [← hI.out]; exact hs)] at hq2
              refine World.rangeAt_setCells_apart (rk (fun k hk => by subst hk; exact hnew) (hK.out s q2 hq2)) g _ _ (.inr (.inl ?_))
              have : q2.2.length = 6 := by
                have hm := List.mem_of_getElem? hq2
                rw [List.mem_filter] at hm
                obtain ⟨m, hm2⟩ := List.mem_iff_getElem?.1 (List.mem_of_mem_take hm.1)
                exact (hRR.out m q2 hm2).1
              omega
            · have hsi : s = i := by
                have := (List.getElem?_eq_some_iff.1 hq2).1
                rw [List.length_append, ← hI.out] at this
                simp at this
                omega
              subst hsi
              rw [List.getElem?_append_right (by rw [← hI.out]; exact Nat.le_refl _), ← hI.out, Nat.sub_self] at hq2
              simp at hq2
              subst hq2
              exact World.rangeAt_setCells_same _ _ _ _ hth
          · intro t q2 ht hq2
            exact World.rangeAt_setCells_apart (rk (fun k hk => by subst hk; exact hnew) (hT.out t q2 (by omega) hq2)) g _ _ (.inr (.inr (by have := hql.out.1; omega)))
          · obtain ⟨cur2, h1, h2⟩ := setCells_heap q.2 (i * 6) w1 cur1 (hnew.trans hB1'.out)
            exact ⟨cur2, by simpa using h1, h2.trans hB2'.out⟩
        case measure => simp [intOf]; omega
    · have hjn' : j = ps.length := by have := hN.out; omega
      obtain ⟨cur1, hB1, hB2⟩ := hB.out
      have hB1' := hid hB1
      have hB2' := hid hB2
      clear hB1 hB2
      have b1 : (0 : Int) ≤ (i : Int) := by omega
      have b2 : (i : Int) ≤ (n : Int) := by omega
      have b3 : i < cap := by omega
      have b4 : i < n := by omega
      have hjh := hid hjn'
      clear hjn'
      have hcz : wr.there g (i * 6) ((n - i) * ((.agg #[.int .i64 0, .int .i64 0, .bool false, .string ⟨#[]⟩, .bool false, .string ⟨#[]⟩]) : Value).cells.size) := there_of_block hB1'.out (by
        rw [hB2'.out, hS.out]
        show i * 6 + (n - i) * 6 ≤ cap * 6
        omega)
      have hcz' := hid hcz
      clear hcz
      go_wp2_with (refine wpList_clear rfl _ 28 32 rfl (.agg #[.int .i64 0, .int .i64 0, .bool false, .string ⟨#[]⟩, .bool false, .string ⟨#[]⟩]) Try.underlying28 rec_zero rec_zeroOne g (i * 6) (n - i) (cap - i) rfl (by omega) hcz'.out ?_)
      have hzl : (Builtin.zeroCells ((.agg #[.int .i64 0, .int .i64 0, .bool false, .string ⟨#[]⟩, .bool false, .string ⟨#[]⟩]) : Value).cells (n - i)).toList.length = (n - i) * 6 := by simp [Builtin.zeroCells, Value.cells]
      obtain ⟨cur2, h1, h2⟩ := setCells_heap (Builtin.zeroCells ((.agg #[.int .i64 0, .int .i64 0, .bool false, .string ⟨#[]⟩, .bool false, .string ⟨#[]⟩]) : Value).cells (n - i)).toList (i * 6) wr cur1 hB1'.out
      have hall : ps.take j = ps := by rw [hjh.out, List.take_length]
      go_ret
      refine ⟨i, cur2, by rw [hI.out, hall], rfl, h1, h2.trans hB2'.out, fun s q hq => ?_, hch.trans (setCells_chg _ _ _) (fun k hk => .inl hk)⟩
      have hs : s < i := by
        have := (List.getElem?_eq_some_iff.1 hq).1
        rw [hI.out, hall]; exact this
      have hql : q.2.length = 6 := by
        obtain ⟨m, hm2⟩ := List.mem_iff_getElem?.1 (List.mem_filter.1 (List.mem_of_getElem? hq)).1
        exact (hRR.out m q hm2).1
      exact World.rangeAt_setCells_apart (hK.out s q (by rw [hall]; exact hq)) g _ _ (.inr (.inl (by rw [hql]; omega)))

theorem rec_deleteFunc_none (v : Value) (n : Nat) (A : Option Addr) (c : Nat) (w : World) (hv : v = .slice A n c) (f : FuncId) (first clo : Array Value)
    (hidx : Calls Try.prog 57 #[.slice A n c, .func (.func f) first clo] w fun e w' => e = .returned (.int .i64 (-1)) ∧ Below w.heap.size w w') :
    Calls Try.prog 37 #[v, .func (.func f) first clo] w fun e w' => e = .returned v ∧ Below w.heap.size w w' := by
  subst hv
  go_enter Try.func37, Try.ntmps37
  go_wp2_with (go_at_call 57; refine hidx.mono ?_; rintro e w0 ⟨rfl, hb0⟩)
  go_ret
  exact ⟨rfl, hb0⟩

theorem rec_deleteFunc (xs : List Rec) (v : Value) (w : World) (base : Nat) (ok : Nat → Prop) (hO : Own recK 32 w base ok v xs) (f : FuncId) (first clo : Array Value) (hf : Callable Try.prog f) (p : Rec → Bool)
    (hclo : ∀ (w' : World) (okk : Nat → Prop) (x : Rec) (cs : List Value), Chg v.ownBlock.toList w w' → recK.R w' okk x cs → Calls Try.prog f (first ++ #[.agg cs.toArray] ++ clo) w' fun e w'' => e = .returned (.bool (p x)) ∧ Below w'.heap.size w' w'') :
    Calls Try.prog 37 #[v, .func (.func f) first clo] w fun e w' =>
      ∃ v', e = .returned v' ∧ Own recK 32 w' base ok v' (xs.filter fun x => !p x) ∧ Chg v.ownBlock.toList w w' ∧ ∀ k, v'.ownBlock = some k → v.ownBlock = some k := by
  obtain ⟨A, c, rfl, hAt⟩ : ∃ A c, v = .slice A xs.length c ∧ recK.At w (fun k => ok k ∨ v.ownBlock = some k) A c xs := by
    obtain ⟨A, c, e, hAt⟩ := hO.reads
    simp only [List.cons.injEq, and_true] at e
    exact ⟨A, c, e, hAt⟩
  have hidx := rec_indexFunc xs A c w _ hAt f first clo hf p (fun w' x cs hb hR => by
    exact hclo w' _ x cs (Chg.of_below _ hb) (recK.below hR hb))
  cases hfi : xs.findIdx? p with
  | none =>
    rw [hfi] at hidx
    refine (rec_deleteFunc_none _ xs.length A c w rfl f first clo hidx).mono ?_
    rintro e w' ⟨rfl, hb⟩
    refine ⟨_, rfl, ?_, Chg.of_below _ hb, fun k hk => hk⟩
    have : xs.filter (fun x => !p x) = xs := by
      rw [List.filter_eq_self]
      intro x hx
      rw [List.findIdx?_eq_none_iff] at hfi
      rw [hfi x hx]
      rfl
    rw [this]
    exact hO.below hb
  | some i0 =>
    rw [hfi] at hidx
    obtain ⟨h1, h2, h3⟩ := findIdx_at_all hfi
    rcases hO with ⟨_, hx⟩ | ⟨g, cap, cur, hv, hb, hh, hl, hm, hcs, hx⟩
    · subst hx; simp at h1
    · injection hv with e1 e2 e3
      subst e1
      subst e3
      obtain ⟨ps, hps1, hps2⟩ := choose_all xs (fun i x cs => recK.R w (fun k => ok k ∧ k ≠ g) x cs ∧ ∀ j u, cs[j]? = some u → cur[i * recK.sz + j]? = some u) hx
      have hlen : ps.length = xs.length := by rw [← hps1, List.length_map]
      have hmem : ∀ (t : Nat) (q : Rec × List Value), ps[t]? = some q → xs[t]? = some q.1 := fun t q hq => by rw [← hps1, List.getElem?_map, hq]; rfl
      refine (rec_deleteFunc_some ps g xs.length c cur w hlen.symm hl hm hcs hh (fun t q hq => ⟨recK.len (hps2 t q hq).1, recK.one (hps2 t q hq).1⟩)
        (fun t q hq j u hu => by rw [cell_of_block hh]; exact (hps2 t q hq).2 j u hu) f first clo hf p ?_ i0 h1 ?_ ?_ hidx).mono ?_
      · intro w' t q hq hch
        refine hclo w' _ q.1 q.2 hch (recK.move (fun k hk hlt => hch.block k hlt (by simp; exact hk.2)) (hps2 t q hq).1)
      · intro q hq
        have := hmem _ q hq
        rw [List.getElem?_eq_getElem h1] at this
        rw [← Option.some.inj this]
        exact h2
      · intro j q hj hq
        have := hmem _ q hq
        rw [List.getElem?_eq_getElem (by omega)] at this
        rw [← Option.some.inj this]
        exact h3 j (by omega) hj
      · rintro e w' ⟨m, cur', rfl, rfl, hh', hsz, hA, hch⟩
        have hfm := filter_map_fst ps (fun x => !p x)
        rw [hps1] at hfm
        have hfl : (xs.filter fun x => !p x).length = (ps.filter fun q => !p q.1).length := by rw [← hfm, List.length_map]
        refine ⟨_, rfl, .inr ⟨g, c, cur', by rw [hfl], hb, hh', ?_, hm, hsz.trans hcs, fun i x hi => ?_⟩, hch, fun k hk => hk⟩
        · have := List.length_filter_le (fun x => !p x) xs
          omega
        · rw [← hfm, List.getElem?_map] at hi
          obtain ⟨q, hq, rfl⟩ := Option.map_eq_some_iff.1 hi
          have hqm := (List.mem_filter.1 (List.mem_of_getElem? hq)).1
          obtain ⟨t, ht⟩ := List.mem_iff_getElem?.1 hqm
          refine ⟨q.2, recK.move (fun k hk hlt => hch.block k hlt (by simp; exact hk.2)) (hps2 t q ht).1, fun j u hu => ?_⟩
          have := hA i q hq j u hu
          rwa [cell_of_block hh'] at this


/-- Records of one's own, read: they lie in that one block. -/
theorem recAt_own {w : World} {base : Nat} {ok P : Nat → Prop} {A : Option Addr} {n c : Nat} {l : List Rec} (h : Own recK 32 w base ok (.slice A n c) l) (hP : ∀ k, (Value.slice A n c).ownBlock = some k → P k) : recK.At w P A c l := by
  rcases h with ⟨hv, rfl⟩ | ⟨g, cap, cur, hv, hb, hh, hl, hm, hcs, hx⟩
  · injection hv with e1 e2 e3
    subst e1; subst e3
    exact Rp.At.nil
  · injection hv with e1 e2 e3
    subst e1; subst e3
    refine ⟨hl, hm, (fun h => by cases h), fun i x hi => ?_⟩
    obtain ⟨cs, hR, hc⟩ := hx i x hi
    refine ⟨g, 0, cs, rfl, ⟨hP g rfl, (Array.getElem?_eq_some_iff.1 hh).1⟩, recK_iff.2 (recK_iff.1 hR), fun j u hu => ?_⟩
    rw [cell_of_block hh, Nat.zero_add]
    exact hc j u hu
end Go.Proofs.Ytoinkagmhcojlaa
