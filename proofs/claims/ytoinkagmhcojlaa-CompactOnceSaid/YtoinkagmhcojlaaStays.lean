/- The law CompactStays: its walk. -/
import Derived.Test.YtoinkagmhcojlaaReg10
import Derived.Test.YtoinkagmhcojlaaLawKeeps
import Derived.Test.YtoinkagmhcojlaaLex
import Derived.Deep.CutRange
import Derived.Deep.DeepCutAuto
namespace Go.Proofs.Ytoinkagmhcojlaa
open Go.RowKit
set_option linter.unusedVariables false
set_option linter.unusedSimpArgs false

/-! Where a key stands last is behind each record of it. -/
def leS (s t : Int × Bool) : Prop := s.2 = true → t.2 = true ∧ s.1 ≤ t.1
theorem leS.refl (s : Int × Bool) : leS s s := fun h => ⟨h, Int.le_refl _⟩
theorem leS.trans {s t u : Int × Bool} (h : leS s t) (h' : leS t u) : leS s u := fun hs => ⟨(h' (h hs).1).1, Int.le_trans (h hs).2 (h' (h hs).1).2⟩
theorem leS_step (key : ByteArray) (b : Bat) (s : Int × Bool) (r : Rec) : leS s (lastStep key b s r) := by
  intro hs
  unfold lastStep
  split
  · rename_i h
    refine ⟨rfl, ?_⟩
    rcases h.2.2 with h' | h'
    · rw [hs] at h'; cases h'
    · exact Int.le_of_lt h'
  · exact ⟨hs, Int.le_refl _⟩
theorem leS_in (key : ByteArray) (b : Bat) (rs : List Rec) : ∀ s, leS s (lastIn key b rs s) := by
  induction rs with
  | nil => exact fun s => leS.refl s
  | cons r rs ih => exact fun s => (leS_step key b s r).trans (ih _)
theorem leS_of (key : ByteArray) (l : List Bat) : ∀ s, leS s (lastOf key l s) := by
  induction l with
  | nil => exact fun s => leS.refl s
  | cons b l ih => exact fun s => (leS_in key b b.records s).trans (ih _)
theorem step_ge (b : Bat) (s : Int × Bool) (r : Rec) (hk : r.keyed = true) : (lastStep r.key b s r).2 = true ∧ atOf b r ≤ (lastStep r.key b s r).1 := by
  unfold lastStep
  by_cases h : s.2 = false ∨ s.1 < atOf b r
  · rw [if_pos ⟨hk, rfl, h⟩]; exact ⟨rfl, Int.le_refl _⟩
  · rw [if_neg (fun h' => h h'.2.2)]
    have h1 : s.2 = true := by
      cases hs : s.2
      · exact absurd (.inl hs) h
      · rfl
    exact ⟨h1, by have := fun h' => h (.inr h'); omega⟩
theorem in_ge (b : Bat) (r : Rec) (hk : r.keyed = true) (rs : List Rec) (hr : r ∈ rs) : ∀ s, (lastIn r.key b rs s).2 = true ∧ atOf b r ≤ (lastIn r.key b rs s).1 := by
  induction rs with
  | nil => simp at hr
  | cons x rs ih =>
    intro s
    by_cases hx : r ∈ rs
    · exact ih hx _
    · have : r = x := by simpa [hx] using hr
      subst this
      have h1 := step_ge b s r hk
      have h2 := leS_in r.key b rs (lastStep r.key b s r) h1.1
      exact ⟨h2.1, Int.le_trans h1.2 h2.2⟩
theorem of_ge (b : Bat) (r : Rec) (hk : r.keyed = true) (hr : r ∈ b.records) (l : List Bat) (hb : b ∈ l) : ∀ s, (lastOf r.key l s).2 = true ∧ atOf b r ≤ (lastOf r.key l s).1 := by
  induction l with
  | nil => simp at hb
  | cons x l ih =>
    intro s
    by_cases hx : b ∈ l
    · exact ih hx _
    · have : b = x := by simpa [hx] using hb
      subst this
      have h1 := in_ge b r hk b.records hr s
      have h2 := leS_of r.key l (lastIn r.key b b.records s) h1.1
      exact ⟨h2.1, Int.le_trans h1.2 h2.2⟩
theorem last_ge (l : List Bat) (b : Bat) (hb : b ∈ l) (r : Rec) (hr : r ∈ b.records) (hk : r.keyed = true) : ∃ v, get (mapOf l []) r.key = some v ∧ atOf b r ≤ v := by
  have h := of_ge b r hk hr l hb (0, false)
  rw [← mapOf_last] at h
  cases hg : get (mapOf l []) r.key with
  | none => rw [hg] at h; cases h.1
  | some v => rw [hg] at h; exact ⟨v, rfl, h.2⟩

/-- A record that goes had a later one of its key, or was dead. -/
theorem goes (l : List Bat) (b : Bat) (hb : b ∈ l) (r : Rec) (hr : r ∈ b.records) (now grace : Int) (h : keepsB b r ((get (mapOf l []) r.key).getD 0) now grace = false) :
    r.keyed = true ∧ (r.dead = true ∨ atOf b r < (get (mapOf l []) r.key).getD 0) := by
  unfold keepsB at h
  cases hk : r.keyed
  · rw [hk] at h; simp at h
  · refine ⟨rfl, ?_⟩
    obtain ⟨v, hv, hle⟩ := last_ge l b hb r hr hk
    rw [hv] at h ⊢
    rw [hk] at h
    cases hd : r.dead
    · right
      simp only [Option.getD_some] at h ⊢
      simp [lateB, lateF, hd] at h
      omega
    · exact .inl rfl

theorem clean_split (L : List (ByteArray × Int)) (now grace : Int) (l : List Bat) (k : Nat) (h : k < l.length) :
    cleanOf L now grace l = cleanOf L now grace (l.take k) ++ ((if staysB L now grace (l[k]'h) then [batOf L now grace (l[k]'h)] else []) ++ cleanOf L now grace (l.drop (k + 1))) := by
  have e : l = l.take (k + 1) ++ l.drop (k + 1) := (List.take_append_drop _ _).symm
  have hap : ∀ a b : List Bat, cleanOf L now grace (a ++ b) = cleanOf L now grace a ++ cleanOf L now grace b := fun a b => by unfold cleanOf; rw [List.filter_append, List.map_append]
  conv => lhs; rw [e]
  rw [hap, cleanOf_snoc L now grace l k h, List.append_assoc]
theorem clean_at (L : List (ByteArray × Int)) (now grace : Int) (l : List Bat) (k : Nat) (h : k < l.length) (hs : staysB L now grace (l[k]'h) = true) :
    ∃ hn : (cleanOf L now grace (l.take k)).length < (cleanOf L now grace l).length, (cleanOf L now grace l)[(cleanOf L now grace (l.take k)).length]'hn = batOf L now grace (l[k]'h) := by
  have e := clean_split L now grace l k h
  rw [if_pos hs] at e
  have hq : (cleanOf L now grace l)[(cleanOf L now grace (l.take k)).length]? = some (batOf L now grace (l[k]'h)) := by
    rw [e, List.getElem?_append_right (Nat.le_refl _), Nat.sub_self]
    rfl
  obtain ⟨hn, hv⟩ := List.getElem?_eq_some_iff.1 hq
  exact ⟨hn, hv⟩
theorem kept_base (L : List (ByteArray × Int)) (now grace : Int) (b b' : Bat) (h : b'.base = b.base) (r : Rec) (v : Int) : keepsB b' r v now grace = keepsB b r v now grace := by
  unfold keepsB atOf
  rw [h]
/-- A batch that goes whole is not told as another that stays. -/
theorem clean_no (L : List (ByteArray × Int)) (now grace : Int) (l : List Bat) (b b' : Bat) (hs : staysB L now grace b = false) (hm : b' ∈ cleanOf L now grace l) (hb : b'.base = b.base) (hp : partN b'.records b.records = b'.records.length) : b'.records.length = 0 := by
  unfold cleanOf at hm
  obtain ⟨c, hc, rfl⟩ := List.mem_map.1 hm
  have hk : (keptOf L now grace b).length = 0 := by
    simp [staysB] at hs
    simp [hs.1]
  rcases hr : (batOf L now grace c).records with _ | ⟨r, rs⟩
  · rfl
  · exfalso
    have h1 : r ∈ (batOf L now grace c).records := by rw [hr]; simp
    have h2 := partN_sub _ _ hp r h1
    have h3 := (List.mem_filter.1 h1).2
    have h4 : r ∈ keptOf L now grace b := List.mem_filter.2 ⟨h2, by rw [← h3]; exact kept_base L now grace c b hb.symm r _⟩
    rw [List.length_eq_zero_iff.1 hk] at h4
    cases h4
theorem kept_at (p : Rec → Bool) (rs : List Rec) (j : Nat) (h : j < rs.length) (hp : p (rs[j]'h) = true) : (rs.filter p)[((rs.take j).filter p).length]? = some (rs[j]'h) := by
  have e : rs.filter p = (rs.take j).filter p ++ (rs.drop j).filter p := by rw [← List.filter_append, List.take_append_drop]
  rw [e, List.getElem?_append_right (Nat.le_refl _), Nat.sub_self, List.drop_eq_getElem_cons h, List.filter_cons_of_pos hp]
  rfl

set_option maxRecDepth 10000 in
set_option maxHeartbeats 2000000 in
theorem lawStays_calls (l : List Bat) (A : Option Addr) (c : Nat) (now grace : Int) (w : World) (ok : Nat → Prop) (h : batK.At w ok A c l) :
    Calls Try.prog 4 #[.slice A l.length c, .int .i64 now, .int .i64 grace] w fun e w' => e = .returned (.bool true) ∧ Below w.heap.size w w' := by
  have hh := hid h
  go_enter Try.func4, Try.ntmps4
  go_wp2_with (first | (go_at_call 7; refine (light_calls l _ c _ ok hh.out).mono ?_; rintro e w1 ⟨bb, rfl, hbb, hb1⟩; cases bb) | (go_at_call 8; refine (awake_calls _).mono ?_; rintro e w2 ⟨rfl, hb2⟩))
  · go_ret
    exact ⟨rfl, (by repeat (first | exact Below.refl _ _ | assumption | apply balloc | apply bdN | apply bdrew | refine bthen ?_ (by assumption)))⟩
  · have hfew := hid (few_of_light (hbb (by first | rfl | trivial)))
    have hm : l.length ≤ 16 := hfew.out.n
    clear hbb h
    refine (clean_calls l _ c now grace _ ok (hh.out.below hb1) hfew.out).mono ?_
    obtain ⟨L, hL⟩ : ∃ L, L = mapOf l [] := ⟨_, rfl⟩
    rw [← hL]
    have HL := hid hL
    clear hL
    obtain ⟨C, hC⟩ : ∃ C, C = cleanOf L now grace l := ⟨_, rfl⟩
    rw [← hC]
    have HC := hid hC
    clear hC
    rintro e w2 ⟨v, rfl, hO, hb2⟩
    obtain ⟨A2, c2, rfl⟩ := hO.form
    have hA := hO.at_
    clear hO
    go_wp2_with fail
    refine (compLast_calls l _ c _ ok (hh.out.below (bthen hb1 hb2)) hfew.out).mono ?_
    rintro e w3 ⟨gm, rfl, hge, hM, hb3⟩
    rw [← HL.out] at hM
    replace hA := hA.below hb3
    have hB3 : Below w.heap.size w w3 := bthen (bthen hb1 hb2) hb3
    clear hb1 hb2 hb3
    go_wp2_with fail
    go_loopw [9, 10] (fun n i wr => ∃ k : Nat, k ≤ l.length ∧ i = .int .i64 k ∧ n = .int .i64 ((cleanOf L now grace (l.take k)).length : Int) ∧ Below w3.heap.size w3 wr) (fun _ i _ => l.length - (intOf i).toNat)
    case atStart => exact ⟨0, Nat.zero_le _, rfl, rfl, Below.refl _ _⟩
    case round =>
      obtain ⟨k, hk, rfl, rfl, hbw⟩ := hrel
      by_cases hlt : k < l.length
      · obtain ⟨g, off, RA, rc, rfl, hg, hok, hr, q0, q1, q2, q3, q4, q5⟩ := bat_in hh.out (bthen hB3 hbw) hlt
        have hgw : g < wr.heap.size := cell_lt q0
        obtain ⟨b, hbe⟩ : ∃ b, b = l[k] := ⟨_, rfl⟩
        have hrm : b.records.length ≤ 40 := by rw [hbe]; exact hfew.out.r _ (List.getElem_mem hlt)
        have hst := hid (clean_at L now grace l k hlt)
        have hsn := hid (show (cleanOf L now grace (l.take (k + 1))).length = (cleanOf L now grace (l.take k)).length + (if staysB L now grace l[k] = true then 1 else 0) by rw [cleanOf_snoc L now grace l k hlt, List.length_append]; congr 1; split <;> rfl)
        rw [← hbe] at hst hsn hok hr q0 q1 q2 q3 q4 q5
        rw [← HC.out] at hst
        have HB := hid hbe
        clear hbe
        obtain ⟨n, hn⟩ : ∃ n, n = (cleanOf L now grace (l.take k)).length := ⟨_, rfl⟩
        have hn16 : n ≤ 16 := by
          rw [hn]
          unfold cleanOf
          rw [List.length_map]
          refine Nat.le_trans (List.length_filter_le _ _) ?_
          rw [List.length_take]
          omega
        rw [← hn] at hst ⊢
        have HN := hid hn
        rw [← hn] at hsn
        clear hn
        have hmC : C.length ≤ 9223372036854775807 := by have := hA.1; have := hA.2.1; unfold maxLen at *; omega
        have hAw := hid (hA.below hbw)
        have hrr := hid (hr.below (bthen hB3 hbw))
        go_upto_region 10 with fail
        go_cut [129] from 25 to 202 (fun s wx => s = .bool (staysB L now grace b) ∧ Below (wr.alloc (.cells #[.int .i64 0, .int .i64 0, .int .i64 0, .int .i64 0, .int .i64 0, .slice none 0 0] 30)).heap.size (wr.alloc (.cells #[.int .i64 0, .int .i64 0, .int .i64 0, .int .i64 0, .int .i64 0, .slice none 0 0] 30)) wx)
        case first =>
          have hw0 : Below wr.heap.size wr (wr.alloc (.cells #[.int .i64 0, .int .i64 0, .int .i64 0, .int .i64 0, .int .i64 0, .slice none 0 0] 30)) := balloc (Below.refl _ _)
          by_cases hn : n < C.length
          · obtain ⟨g2, off2, RB, rcb, rfl, hg2, -, hrB, z0, z1, z2, z3, z4, z5⟩ := bat_in hA (bthen hbw hw0) hn
            have hrm' : C[n].records.length ≤ 9223372036854775807 := by have := hrB.1; have := hrB.2.1; unfold maxLen at *; omega
            have ht : tells b C[n] = staysB L now grace b := by
              cases hs : staysB L now grace b
              · cases htt : tells b C[n]
                · rfl
                · exfalso
                  simp [tells] at htt
                  obtain ⟨h1, _, _, _, _, h6, h7⟩ := htt
                  have h8 := clean_no L now grace l b C[n] hs (by rw [← HC.out]; exact List.getElem_mem hn) h1 h6
                  have h9 : b.producer = 0 := by simp [staysB] at hs; exact hs.2
                  rcases h7 with h7 | h7
                  · omega
                  · exact h7 h9
              · obtain ⟨_, he⟩ := hst.out hs
                rw [he]
                have hpp : partN (batOf L now grace b).records b.records = (batOf L now grace b).records.length := partN_filter (fun r => keepsB b r ((get L r.key).getD 0) now grace) b.records
                have hs' : (decide (0 < (batOf L now grace b).records.length) || (b.producer != 0)) = true := by
                  have : (decide (0 < (keptOf L now grace b).length) || decide (b.producer ≠ 0)) = true := hs
                  simp only [Bool.or_eq_true, decide_eq_true_eq] at this ⊢
                  rcases this with h | h
                  · exact .inl h
                  · exact .inr (by simpa using h)
                simp only [tells, hpp, hs', decide_true, Bool.and_true, Bool.and_eq_true, beq_iff_eq]
                exact ⟨rfl, rfl, rfl, rfl, rfl⟩
            show Code.wp Try.prog code10 _ _ _
            refine reg10_some _ _ g off l.length c g2 off2 C.length c2 n k rc rcb RA RB b C[n] _ _ hmC (by omega) hlt hn (by omega) hrm' (hid (hrr.out.below hw0)) (hid (hrB.below (bthen hbw hw0))) (ck hw0 q0) (ck hw0 q1) (ck hw0 q2) (ck hw0 q3) (ck hw0 q4) (ck hw0 q5) z0 z1 z2 z3 z4 z5 _ _ _ _ _ _ _ _ _ _ _ _ _ _ _ _ _ _ _ _ _ _ _ _ _ _ _ _ _ _ _ _ _ _ _ _ _ _ _ _ _ _ _ _ _ _ _ _ _ _ _ _ _ _ _ _ _ _ _ _ _ _ _ _ _ _ _ _ _ _ _ _ _ _ _ _ _ _ _ _ _ _ _ _ _ _ _ _ _ _ _ _ _ _ _ _ _ _ _ _ _ _ _ _ _ _ _ _ _ _ _ _ _ _ _ _ _ _ _ _ _ _ _ _ _ _ _ _ _ _ _ _ _ _ _ _ _ _ _ _ _ _ _ _ _ _ _ _ _ _ _ _ _ _ _ _ _ _ _ _ _ _ _ _ _ _ _ _ _ _ _ _ _ _ _ _ _ _ _ _ _ _ _ _ _ _ _ _ _ _ _ _ _ _ _ _ _ _ _ _ _ _ _ _ _ _ (fun _ _ _ _ _ _ _ _ _ _ _ _ _ _ _ _ _ _ _ _ _ _ _ _ _ _ _ _ _ _ _ _ _ _ _ _ _ _ _ _ _ _ _ _ _ _ _ _ _ _ _ _ _ _ _ _ _ _ _ _ _ _ _ _ _ _ _ _ _ _ _ _ _ _ _ _ _ _ _ _ _ _ _ _ _ _ _ _ _ _ _ _ _ _ _ _ _ _ w' hb => ?_)
            rw [ht]
            dsimp only []
            go_wp2_with fail
            go_meet
            case rel => exact ⟨rfl, hb⟩
          · have hs' : staysB L now grace b = false := by
              cases hs : staysB L now grace b
              · rfl
              · exact absurd (hst.out hs).choose hn
            show Code.wp Try.prog code10 _ _ _
            refine reg10_none _ _ g off l.length c C.length c2 n k A2 hmC (by omega) hlt hn _ _ _ _ _ _ _ _ _ _ _ _ _ _ _ _ _ _ _ _ _ _ _ _ _ _ _ _ _ _ _ _ _ _ _ _ _ _ _ _ _ _ _ _ _ _ _ _ _ _ _ _ _ _ _ _ _ _ _ _ _ _ _ _ _ _ _ _ _ _ _ _ _ _ _ _ _ _ _ _ _ _ _ _ _ _ _ _ _ _ _ _ _ _ _ _ _ _ _ _ _ _ _ _ _ _ _ _ _ _ _ _ _ _ _ _ _ _ _ _ _ _ _ _ _ _ _ _ _ _ _ _ _ _ _ _ _ _ _ _ _ _ _ _ _ _ _ _ _ _ _ _ _ _ _ _ _ _ _ _ _ _ _ _ _ _ _ _ _ _ _ _ _ _ _ _ _ _ _ _ _ _ _ _ _ _ _ _ _ _ _ _ _ _ _ _ _ _ _ _ _ _ _ _ _ _ (fun _ _ _ _ _ _ _ _ _ _ _ _ _ _ _ _ _ _ _ _ _ _ _ _ _ _ _ _ _ _ _ _ _ _ _ _ _ _ _ _ _ _ _ _ _ _ _ _ _ _ _ _ _ _ _ _ _ _ _ _ _ _ _ _ _ _ _ _ _ _ _ _ _ _ _ _ _ _ _ _ _ _ _ _ _ _ _ _ _ _ _ _ _ _ _ _ _ _ w' hb => ?_)
            dsimp only []
            go_wp2_with fail
            go_meet
            case rel => exact ⟨by rw [hs'], hb⟩
        case rest =>
          obtain ⟨rfl, hb0⟩ := hcut
          have hbc : Below wr.heap.size wr wc := bthen (balloc (Below.refl _ _)) hb0
          have p0 : wc.cell? ⟨wr.heap.size, 0, none⟩ = some (.int .i64 0) := (bnew hb0 0).trans rfl
          have p1 : wc.cell? ⟨wr.heap.size, 1, none⟩ = some (.int .i64 0) := (bnew hb0 1).trans rfl
          have p2 : wc.cell? ⟨wr.heap.size, 2, none⟩ = some (.int .i64 0) := (bnew hb0 2).trans rfl
          have p3 : wc.cell? ⟨wr.heap.size, 3, none⟩ = some (.int .i64 0) := (bnew hb0 3).trans rfl
          have p4 : wc.cell? ⟨wr.heap.size, 4, none⟩ = some (.int .i64 0) := (bnew hb0 4).trans rfl
          have p5 : wc.cell? ⟨wr.heap.size, 5, none⟩ = some (.slice none 0 0) := (bnew hb0 5).trans rfl
          have hpl := cell_lt p0
          have hblk := (hb0.block wr.heap.size (by simp)).trans (heap_alloc_new _ _)
          have hfz : ∀ j, wc.frozen? ⟨wr.heap.size, j, none⟩ = false := fun j => by simp [World.frozen?, hblk]
          clear hb0 hblk
          go_upto_if 129 with fail
          go_cut [] from 25 to 202 (fun wx => ∃ RB cb, wx.cell? ⟨wr.heap.size, 5, none⟩ = some (.slice RB (keptOf L now grace b).length cb) ∧ recK.At wx (fun _ => True) RB cb (keptOf L now grace b) ∧ Below wr.heap.size wr wx)
          case first =>
            cases hs : staysB L now grace b
            · have hk0 : keptOf L now grace b = [] := by simp [staysB] at hs; simp [hs.1]
              go_wp2_with fail
              go_meet
              case rel => exact ⟨none, 0, by rw [hk0]; exact p5, by rw [hk0]; exact Rp.At.nil, hbc⟩
            · obtain ⟨hn, he⟩ := hst.out hs
              obtain ⟨g2, off2, RB, rcb, rfl, hg2, -, hrB, z0, z1, z2, z3, z4, z5⟩ := bat_in hA (bthen hbw hbc) hn
              rw [he] at hrB z0 z1 z2 z3 z4 z5
              have hgw2 : g2 < wc.heap.size := cell_lt z0
              clear hst he hs
              go_wp2_with fail
              go_meet
              case rel =>
                have hbf := bset (u := .slice RB (batOf L now grace b).records.length rcb) (p := ⟨wr.heap.size, 5, none⟩) (bset (u := .int .i64 (batOf L now grace b).seq) (p := ⟨wr.heap.size, 4, none⟩) (bset (u := .int .i64 (batOf L now grace b).epoch) (p := ⟨wr.heap.size, 3, none⟩) (bset (u := .int .i64 (batOf L now grace b).producer) (p := ⟨wr.heap.size, 2, none⟩) (bset (u := .int .i64 (batOf L now grace b).count) (p := ⟨wr.heap.size, 1, none⟩) (bset (u := .int .i64 (batOf L now grace b).base) (p := ⟨wr.heap.size, 0, none⟩) hbc (Nat.le_refl _)) (Nat.le_refl _)) (Nat.le_refl _)) (Nat.le_refl _)) (Nat.le_refl _)) (Nat.le_refl _)
                exact ⟨RB, rcb, by go_simp; rfl, (hrB.below (bthen hbw hbf)).mono (fun _ _ => trivial), hbf⟩
          case rest =>
            obtain ⟨RB, cb, p5, hF, hbx⟩ := hcut
            clear hst hA hAw hrr hok
            obtain ⟨F, hFe⟩ : ∃ F, F = keptOf L now grace b := ⟨_, rfl⟩
            rw [← hFe] at p5 hF
            have HF := hid hFe
            clear hFe
            have hFm : F.length ≤ 40 := by rw [HF.out]; exact Nat.le_trans (List.length_filter_le _ _) hrm
            have hpl := cell_lt p5
            go_wp2_with fail
            go_loopw [12, 13] (fun kk m wy => ∃ j q : Nat, j ≤ b.records.length ∧ m = .int .i64 j ∧ kk = .int .i64 q ∧ Hid (q = ((b.records.take j).filter fun r => keepsB b r ((get L r.key).getD 0) now grace).length) ∧ Below wc.heap.size wc wy) (fun _ m _ => b.records.length - (intOf m).toNat)
            case atStart => exact ⟨0, 0, Nat.zero_le _, rfl, rfl, hid rfl, Below.refl _ _⟩
            case round =>
              obtain ⟨j, q, hj, rfl, rfl, HQ, hby⟩ := hrel
              have q5' := ck (bthen hbx hby) q5
              have q0' := ck (bthen hbx hby) q0
              have q2' := ck (bthen hbx hby) q2
              have p5' := ck hby p5
              have hq40 : q ≤ 40 := by
                rw [HQ.out]
                refine Nat.le_trans (List.length_filter_le _ _) ?_
                rw [List.length_take]
                omega
              have hgw' := cell_lt q0'
              have hpl' := cell_lt p5'
              clear q0 q1 q2 q3 q4 q5 p5
              by_cases hjl : j < b.records.length
              · obtain ⟨g3, off3, rfl, hg3, hok3, y0, y1, y2, y3, y4, y5⟩ := rec_in hr (bthen (bthen (bthen hB3 hbw) hbx) hby) hjl
                have hgo := hid (show keepsB b b.records[j] ((get (mapOf l []) b.records[j].key).getD 0) now grace = false → b.records[j].keyed = true ∧ (b.records[j].dead = true ∨ atOf b b.records[j] < (get (mapOf l []) b.records[j].key).getD 0) from fun h => goes l b (by rw [HB.out]; exact List.getElem_mem hlt) b.records[j] (List.getElem_mem hjl) now grace h)
                have hsnoc := hid (filter_take_snoc b.records (fun r => keepsB b r ((get L r.key).getD 0) now grace) j hjl)
                have hkat := hid (kept_at (fun r => keepsB b r ((get L r.key).getD 0) now grace) b.records j hjl)
                rw [← HL.out] at hgo
                obtain ⟨r, hr'⟩ : ∃ r, r = b.records[j] := ⟨_, rfl⟩
                rw [← hr'] at hgo hsnoc hkat y0 y1 y2 y3 y4 y5
                rw [← HQ.out] at hkat
                clear hr' hok3
                have hg3w := cell_lt y0
                have hbl : ∀ (bb : Bool), keepsB b r ((get L r.key).getD 0) now grace = bb → Hid (((b.records.take (j + 1)).filter fun r => keepsB b r ((get L r.key).getD 0) now grace).length = q + (if bb then 1 else 0)) := fun bb h => hid (by
                  rw [hsnoc.out, List.length_append, ← HQ.out]
                  simp only [h]
                  cases bb <;> simp)
                cases hkp : keepsB b r ((get L r.key).getD 0) now grace
                · have hlen := hbl false hkp
                  replace hgo := hid (hgo.out hkp)
                  simp only [Bool.false_eq_true, if_false, Nat.add_zero] at hlen
                  by_cases hqF : q < F.length
                  · have hys : keepsB b F[q] ((get L F[q].key).getD 0) now grace = true := by
                      have hall : ∀ y, y ∈ F → keepsB b y ((get L y.key).getD 0) now grace = true := fun y hm => by
                        rw [HF.out] at hm
                        exact (List.mem_filter.1 hm).2
                      exact hall _ (List.getElem_mem hqF)
                    obtain ⟨g4, off4, rfl, hg4, -, x0, x1, x2, x3, x4, x5⟩ := rec_in hF hby hqF
                    have hg4w := cell_lt x0
                    obtain ⟨y, hy⟩ : ∃ y, y = F[q] := ⟨_, rfl⟩
                    rw [← hy] at x0 x1 x2 x3 x4 x5 hys
                    clear hy
                    have hne : ¬ y = r := fun e => by rw [e, hkp] at hys; cases hys
                    have heq := fun w => run_eq_rec y.delta y.time y.keyed y.key y.dead y.value r.delta r.time r.keyed r.key r.dead r.value w
                    simp only [show (decide ((⟨y.delta, y.time, y.keyed, y.key, y.dead, y.value⟩ : Rec) = ⟨r.delta, r.time, r.keyed, r.key, r.dead, r.value⟩)) = false from decide_eq_false hne] at heq
                    clear hys hne hkat hsnoc hbl hkp
                    go_wp2
                    (refine wp_region_ext_lit (by kernel_rfl) (by kernel_rfl) ?_; (repeat (go_big_quiet_step (fail))); refine wpQuiet_nil ?_; rintro _ ⟨⟨wx, hx⟩, rfl⟩)
                    have hxx := bthen (balloc (Below.refl _ _)) hx
                    have v2 : _ = some (Value.bool r.keyed) := (bnew hx 2).trans rfl
                    have v4 : _ = some (Value.bool r.dead) := (bnew hx 4).trans rfl
                    have v0 : _ = some (Value.int .i64 r.delta) := (bnew hx 0).trans rfl
                    have v3 : _ = some (Value.string r.key) := (bnew hx 3).trans rfl
                    have v6 := ck hxx q0'
                    have v7 := ck hxx q5'
                    have hlk := fun x => ((hM.below (bthen (bthen (bthen hbw hbx) hby) hxx)).below (Ext.below x)).run_get (T := 26) (KeyOk.str Try.underlying9) Try.underlying26 (zero_int _) r.key
                    simp only [valOr_int] at hlk
                    have hl1 := cell_lt v2
                    have hl2 := cell_lt v6
                    rw [hgo.out.1] at v2
                    rcases hgo.out.2 with hd | hd
                    · rw [hd] at v4
                      clear hx
                      go_wp2
                      (refine wp_region_ext_lit (by kernel_rfl) (by kernel_rfl) ?_; (repeat (go_big_quiet_step (fail))); refine wpQuiet_nil ?_; rintro _ ⟨⟨wx, hx⟩, rfl⟩)
                      go_wp2
                      exact ⟨⟨j + 1, q, by omega, by go_num, rfl, hid hlen.out.symm, bthen (bthen hby hxx) (by assumption)⟩, by simp [intOf]; omega⟩
                    · cases hdd : r.dead
                      · rw [hdd] at v4
                        have hbf : decide ((get L r.key).getD 0 ≤ wrap64 (b.base + r.delta)) = false := by
                          have : wrap64 (b.base + r.delta) < (get L r.key).getD 0 := hd
                          simp; omega
                        clear hx
                        go_wp2
                        (refine wp_region_ext_lit (by kernel_rfl) (by kernel_rfl) ?_; (repeat (go_big_quiet_step (fail))); refine wpQuiet_nil ?_; rintro _ ⟨⟨wx, hx⟩, rfl⟩)
                        go_wp2
                        exact ⟨⟨j + 1, q, by omega, by go_num, rfl, hid hlen.out.symm, bthen (bthen hby hxx) (by assumption)⟩, by simp [intOf]; omega⟩
                      · rw [hdd] at v4
                        clear hx
                        go_wp2
                        (refine wp_region_ext_lit (by kernel_rfl) (by kernel_rfl) ?_; (repeat (go_big_quiet_step (fail))); refine wpQuiet_nil ?_; rintro _ ⟨⟨wx, hx⟩, rfl⟩)
                        go_wp2
                        exact ⟨⟨j + 1, q, by omega, by go_num, rfl, hid hlen.out.symm, bthen (bthen hby hxx) (by assumption)⟩, by simp [intOf]; omega⟩
                  · clear hkat hsnoc hbl hkp
                    go_wp2
                    (refine wp_region_ext_lit (by kernel_rfl) (by kernel_rfl) ?_; (repeat (go_big_quiet_step (fail))); refine wpQuiet_nil ?_; rintro _ ⟨⟨wx, hx⟩, rfl⟩)
                    have hxx := bthen (balloc (Below.refl _ _)) hx
                    have v2 : _ = some (Value.bool r.keyed) := (bnew hx 2).trans rfl
                    have v4 : _ = some (Value.bool r.dead) := (bnew hx 4).trans rfl
                    have v0 : _ = some (Value.int .i64 r.delta) := (bnew hx 0).trans rfl
                    have v3 : _ = some (Value.string r.key) := (bnew hx 3).trans rfl
                    have v6 := ck hxx q0'
                    have v7 := ck hxx q5'
                    have hlk := fun x => ((hM.below (bthen (bthen (bthen hbw hbx) hby) hxx)).below (Ext.below x)).run_get (T := 26) (KeyOk.str Try.underlying9) Try.underlying26 (zero_int _) r.key
                    simp only [valOr_int] at hlk
                    have hl1 := cell_lt v2
                    have hl2 := cell_lt v6
                    rw [hgo.out.1] at v2
                    rcases hgo.out.2 with hd | hd
                    · rw [hd] at v4
                      clear hx
                      go_wp2
                      (refine wp_region_ext_lit (by kernel_rfl) (by kernel_rfl) ?_; (repeat (go_big_quiet_step (fail))); refine wpQuiet_nil ?_; rintro _ ⟨⟨wx, hx⟩, rfl⟩)
                      go_wp2
                      exact ⟨⟨j + 1, q, by omega, by go_num, rfl, hid hlen.out.symm, bthen (bthen hby hxx) (by assumption)⟩, by simp [intOf]; omega⟩
                    · cases hdd : r.dead
                      · rw [hdd] at v4
                        have hbf : decide ((get L r.key).getD 0 ≤ wrap64 (b.base + r.delta)) = false := by
                          have : wrap64 (b.base + r.delta) < (get L r.key).getD 0 := hd
                          simp; omega
                        clear hx
                        go_wp2
                        (refine wp_region_ext_lit (by kernel_rfl) (by kernel_rfl) ?_; (repeat (go_big_quiet_step (fail))); refine wpQuiet_nil ?_; rintro _ ⟨⟨wx, hx⟩, rfl⟩)
                        go_wp2
                        exact ⟨⟨j + 1, q, by omega, by go_num, rfl, hid hlen.out.symm, bthen (bthen hby hxx) (by assumption)⟩, by simp [intOf]; omega⟩
                      · rw [hdd] at v4
                        clear hx
                        go_wp2
                        (refine wp_region_ext_lit (by kernel_rfl) (by kernel_rfl) ?_; (repeat (go_big_quiet_step (fail))); refine wpQuiet_nil ?_; rintro _ ⟨⟨wx, hx⟩, rfl⟩)
                        go_wp2
                        exact ⟨⟨j + 1, q, by omega, by go_num, rfl, hid hlen.out.symm, bthen (bthen hby hxx) (by assumption)⟩, by simp [intOf]; omega⟩
                · have hlen := hbl true hkp
                  have hq := hkat.out hkp
                  rw [show (b.records.filter fun r => keepsB b r ((get L r.key).getD 0) now grace) = F from HF.out.symm] at hq
                  obtain ⟨hqF, hFq⟩ := List.getElem?_eq_some_iff.1 hq
                  obtain ⟨g4, off4, rfl, hg4, -, x0, x1, x2, x3, x4, x5⟩ := rec_in hF hby hqF
                  rw [hFq] at x0 x1 x2 x3 x4 x5
                  have hg4w := cell_lt x0
                  have heq := fun w => run_eq_rec r.delta r.time r.keyed r.key r.dead r.value r.delta r.time r.keyed r.key r.dead r.value w
                  simp only [decide_true] at heq
                  clear hq hFq hkp hbl hgo hkat hsnoc
                  go_wp2
                  (refine wp_region_ext_lit (by kernel_rfl) (by kernel_rfl) ?_; (repeat (go_big_quiet_step (fail))); refine wpQuiet_nil ?_; rintro _ ⟨⟨wx, hx⟩, rfl⟩)
                  go_wp2
                  exact ⟨⟨j + 1, q + 1, by omega, by go_num, by go_num, hid hlen.out.symm, bthen hby (bthen (balloc (Below.refl _ _)) hx)⟩, by simp [intOf]; omega⟩
              · have hqF : q = F.length := by
                  rw [HQ.out, HF.out, show j = b.records.length by omega, List.take_length]
                  rfl
                have hstb : staysB L now grace b = (decide (0 < q) || decide (b.producer ≠ 0)) := by rw [hqF, HF.out]; rfl
                by_cases hq0 : 0 < q
                · have hs2 : (cleanOf L now grace (l.take (k + 1))).length = n + 1 := by rw [hsn.out, hstb]; simp [hq0]
                  have HS2 := hid hs2
                  clear hs2 hstb hqF HQ
                  go_wp2
                  exact ⟨⟨k + 1, by omega, by go_num, by rw [HS2.out]; go_num, bthen (bthen hbw hbx) hby⟩, by simp [intOf]; omega⟩
                · have hqz : q = 0 := by omega
                  clear HQ hqF
                  subst hqz
                  cases hp : (b.producer != 0)
                  · have hs2 : (cleanOf L now grace (l.take (k + 1))).length = n := by rw [hsn.out, hstb]; simp at hp; simp [hp]
                    have HS2 := hid hs2
                    clear hs2 hstb
                    go_wp2
                    exact ⟨⟨k + 1, by omega, by go_num, by rw [HS2.out], bthen (bthen hbw hbx) hby⟩, by simp [intOf]; omega⟩
                  · have hs2 : (cleanOf L now grace (l.take (k + 1))).length = n + 1 := by rw [hsn.out, hstb]; simp at hp; simp [hp]
                    have HS2 := hid hs2
                    clear hs2 hstb
                    go_wp2
                    exact ⟨⟨k + 1, by omega, by go_num, by rw [HS2.out]; go_num, bthen (bthen hbw hbx) hby⟩, by simp [intOf]; omega⟩
      · have hkl : k = l.length := by omega
        have hCl : cleanOf L now grace (l.take k) = C := by rw [hkl, List.take_length, ← HC.out]
        rw [hCl]
        go_wp2_with (go_at_call 8; refine (awake_calls _).mono ?_; rintro e w2 ⟨rfl, hb2⟩)
        go_ret
        exact ⟨rfl, bthen (bthen hB3 hbw) hb2⟩
end Go.Proofs.Ytoinkagmhcojlaa
