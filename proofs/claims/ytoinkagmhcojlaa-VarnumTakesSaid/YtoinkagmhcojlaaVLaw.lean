/- VarnumTakes: the law's walk. -/
import Derived.Test.YtoinkagmhcojlaaVAwake
import Derived.Laws.AppendOwnNone
namespace Go.Proofs.Ytoinkagmhcojlaa
open Go.RowKit
set_option linter.unusedVariables false
set_option linter.unusedSimpArgs false
theorem RD.mono {w : World} {rb : Nat} {ok ok' : Nat → Prop} {xs : List Int} {e : Int} (h : RD w rb ok xs e) (hm : ∀ k, ok k → k < w.heap.size → ok' k) : RD w rb ok' xs e := by
  obtain ⟨A, c, hb, hB⟩ := h
  exact ⟨A, c, hb, hB.mono fun k hk hl => ⟨hm k hk.1 hl, hk.2⟩⟩
theorem wpList_append_BR {w : World} {ops : Array Oper} {rest : List Oper} {o : Oper} {a : Act} {Q : Exit → Act → World → Prop} (hgd : o.guard = none) (s x : Operand) (ho : o.op = .call { callee := .builtin .append, args := #[s, x], argTypes := #[40, 40] })
    (base : Nat) (b0 c0 : Nat) (xs : List Int) (hs : a.eval s = .slice (some ⟨b0, 0, none⟩) xs.length c0) (hown : OwnB w base (.slice (some ⟨b0, 0, none⟩) xs.length c0) xs) (A : Option Addr) (c : Nat) (ok : Nat → Prop) (ys : List Int) (hx : a.eval x = .slice A ys.length c) (hAc : A = none → c = 0) (hy : BR w ok A c ys) (hlen : xs.length + ys.length ≤ 1000000) (hbase : base ≤ w.heap.size)
    (h : ∀ g cap w', OwnB w' base (.slice (some ⟨g, 0, none⟩) (xs ++ ys).length cap) (xs ++ ys) → w.grownBy w' (some b0) → wpList Try.prog ops Q rest (a.put o.dst (.slice (some ⟨g, 0, none⟩) (xs ++ ys).length cap)) w') : wpList Try.prog ops Q (o :: rest) a w := by
  cases A with
  | none =>
    have hc0 := hAc rfl
    subst hc0
    have hy0 : ys = [] := List.eq_nil_of_length_eq_zero (by have := hy.1; omega)
    subst hy0
    obtain ⟨i, hi, hz, hs1, hs2⟩ := vinfo_parts vbyt_info
    refine wpList_append_own_none hgd s x 40 ho base 5 i 1 Try.underlying40 hi _ xs.length (numsB xs) hs hown hx ?_
    have := h b0 c0 w (by rw [List.append_nil]; exact hown) ⟨rfl, rfl, rfl, Nat.le_refl _, fun _ _ _ => rfl⟩
    rwa [List.append_nil] at this
  | some ad =>
    refine wpList_append_B hgd s x ho base _ xs hs hown ad ys.length c ys hx rfl (fun j y hj => ?_) hlen hbase fun v' w' h1 h2 h3 h4 => ?_
    · obtain ⟨g, off, hA, hg, hc⟩ := hy.2.2.2 (by rintro rfl; simp at hj)
      cases hA
      rw [Addr.add_mid]
      exact hc j y hj
    · obtain ⟨hl, ⟨rfl, h0⟩ | ⟨g, cap, cur, rfl, r⟩⟩ := h1
      · exact absurd (h3.1 rfl).1 (by simp)
      · exact h g cap w' ⟨hl, .inr ⟨g, cap, cur, rfl, r⟩⟩ h2

/-- A narrower class serves. -/
theorem wpAnyH_mono {P : Program} {md : Region.Mode} {ops : Array Oper} {Q : Exit → Act → World → Prop} {S S' : World → Prop} (hS : ∀ w, S' w → S w) : ∀ (fuel : Nat) (listed : Array Bool) (a : Act) (w : World), wpAnyH P md ops Q S' fuel listed a w → wpAnyH P md ops Q S fuel listed a w
  | 0, _, _, _, h => h
  | fuel + 1, _, _, _, h => ⟨h.1, fun i hi => wpOp_mono (fun a' w' h' => ⟨hS w' h'.1, wpAnyH_mono hS fuel _ a' w' h'.2⟩) (h.2 i hi)⟩
section
variable {P : Program} {md : Region.Mode} {Q : Exit → Act → World → Prop} {S : World → Prop}
theorem getL {l r : List Oper} {i : Nat} {oi : Oper} (hl : l.drop i = oi :: r) : l.toArray[i]? = some oi := by
  have : (l.drop i)[0]? = some oi := by rw [hl]; rfl
  rw [List.getElem?_drop] at this
  simpa using this
theorem wpAnyH_takeL {l r : List Oper} {i : Nat} {oi : Oper} {v : Value} {fuel : Nat} {listed : Array Bool} {a : Act} {w : World} (hl : l.drop i = oi :: r)
    (hs : Region.noSelect l.toArray = true) (hf : Region.free md l.toArray listed i = true) (hr : (Region.ready md l.toArray listed).contains i = true)
    (hQ : ∀ c a w, Q (.panic c) (a.put oi.dst v) w → Q (.panic c) a w) (hy : YieldsIf P l.toArray S oi v a) (hS : S w)
    (h : wpAnyH P md l.toArray Q S fuel (listed.setIfInBounds i true) (a.put oi.dst v) w) : wpAnyH P md l.toArray Q S (fuel + 1) listed a w :=
  wpAnyH_take (getL hl) hs hf hr hQ hy hS h
theorem AllReadyH_consL {l r : List Oper} {fuel : Nat} {listed : Array Bool} {a : Act} {w : World} {i : Nat} {o : Oper} {rs : List Nat} (hl : l.drop i = o :: r)
    (h : ∀ K' : Act → World → Prop, Shut (∀ a w, S w → (S w → wpAnyH P md l.toArray Q S fuel (listed.setIfInBounds i true) a w) → K' a w) → if Region.wanted o (yielded l.toArray a.tmps) = true then Oper.wp P o a w K' Q else K' (a.put o.dst undef) w)
    (hs : AllReadyH P md l.toArray Q S fuel listed a w rs) : AllReadyH P md l.toArray Q S fuel listed a w (i :: rs) := AllReadyH.cons (getL hl) h hs
end
/-- A block of n bytes. -/
def Raw (w : World) (g n : Nat) : Prop := ∃ cur, w.heap[g]? = some (.cells cur 5 (0, 0)) ∧ ∀ j, j < n → ∃ z : Int, cur[j]? = some (.int .u8 z) ∧ 0 ≤ z ∧ z < 256
theorem OwnB.raw {w : World} {base g cap : Nat} {xs : List Int} (h : OwnB w base (.slice (some ⟨g, 0, none⟩) xs.length cap) xs) (hx : Bs xs) : base ≤ g ∧ g < w.heap.size ∧ Raw w g xs.length := by
  obtain ⟨hl, ⟨h0, _⟩ | ⟨g', cap', cur, hv, hb, hh, h2, h3, h4, h5⟩⟩ := h
  · cases h0
  · cases hv
    refine ⟨hb, (Array.getElem?_eq_some_iff.1 hh).1, cur, hh, fun j hj => ⟨xs[j], ?_, hx _ (List.getElem_mem hj)⟩⟩
    have : (numsB xs)[j]? = some (.int .u8 xs[j]) := by simp [numsB, Go.Proofs.YtoinkagmhcojlaaW.PrintWords.nums, hj]
    rw [← h5, List.getElem?_take] at this
    split at this
    · simpa using this
    · cases this
theorem Raw.set {w : World} {g n : Nat} (h : Raw w g n) (j : Nat) (z : Int) (h0 : 0 ≤ z) (h1 : z < 256) : Raw (w.setCell ⟨g, j, none⟩ (.int .u8 z)) g n := by
  obtain ⟨cur, hb, hc⟩ := h
  refine ⟨_, block_set hb j _, fun i hi => ?_⟩
  obtain ⟨y, hy, hyb⟩ := hc i hi
  by_cases hij : j = i
  · subst hij
    exact ⟨z, by rw [Array.getElem?_setIfInBounds_self]; simp [(Array.getElem?_eq_some_iff.1 hy).1], h0, h1⟩
  · exact ⟨y, by rw [Array.getElem?_setIfInBounds_ne hij]; exact hy, hyb⟩
theorem Raw.move {w w' : World} {g n : Nat} (h : Raw w g n) (hs : w'.heap[g]? = w.heap[g]?) : Raw w' g n := by
  obtain ⟨cur, hb, hc⟩ := h
  exact ⟨cur, hs.trans hb, hc⟩

/-- What a round keeps: the reader at rb, the document's at xb. -/
def VI (w wr : World) (b0 rb xb : Nat) (xs : List Int) (e : Int) : Prop :=
  RD wr rb (fun g => b0 ≤ g ∧ g < xb) xs e ∧ (∃ A c, wr.heap[xb]? = some (.cells #[.slice A xs.length c, .int .i64 e] 45 (0, 0)) ∧ BR wr (fun g => g < w.heap.size) A c xs) ∧ Below w.heap.size w wr

theorem VI.below {w wr w' : World} {b0 rb xb : Nat} {xs : List Int} {e : Int} (h : VI w wr b0 rb xb xs e) (hb : Below wr.heap.size wr w') : VI w w' b0 rb xb xs e := by
  obtain ⟨h1, ⟨A, c, hx, hB⟩, h3⟩ := h
  exact ⟨h1.below hb, ⟨A, c, (hb.block xb (Array.getElem?_eq_some_iff.1 hx).1).trans hx, hB.below hb⟩, bthen h3 hb⟩
theorem fixS_len (xs : List Int) (e c : Int) : (fixS xs e c).2.1.length ≤ xs.length := by
  unfold fixS; repeat' split
  all_goals simp
theorem texS_len (xs : List Int) (e c : Int) : (texS xs e c).2.1.length ≤ xs.length := by
  have := numS_len xs e
  unfold texS; repeat' split
  all_goals simp
  all_goals omega
set_option maxRecDepth 10000 in
set_option maxHeartbeats 4000000 in
theorem lawV_calls (w : World) (ok2 : Nat → Prop) (A : Option Addr) (c : Nat) (bs : List Int) (hB : BR w (fun g => g < w.heap.size) A c bs) (hAc : A = none → c = 0) (A2 : Option Addr) (c2 : Nat) (cl : List Int) (hC : (Rp.int .i64).At w ok2 A2 c2 cl) (s : ByteArray) (hs64 : s.size ≤ maxLen) :
    Calls Try.prog 5 #[.slice A bs.length c, .slice A2 cl.length c2, .string s] w fun e w' => e = .returned (.bool true) ∧ Below w.heap.size w w' := by
  have HB := hid hB
  have HC := hid hC
  have HA := hid hAc
  have hbc := hB.1
  have hcm := hB.2.1
  have hcl := hC.1
  have hcl2 := hC.2.1
  clear hB hC hAc
  unfold maxLen at hs64 hcm hcl2
  by_cases h1 : 300 < bs.length
  · go_enter Try.func5, Try.ntmps5
    go_wp2_with fail
    refine (vawake_calls _).mono ?_
    rintro e w' ⟨rfl, hb⟩
    go_wp2
    go_ret
    exact ⟨rfl, hb⟩
  by_cases h2 : 40 < cl.length
  · go_enter Try.func5, Try.ntmps5
    go_wp2_with fail
    refine (vawake_calls _).mono ?_
    rintro e w' ⟨rfl, hb⟩
    go_wp2
    go_ret
    exact ⟨rfl, hb⟩
  by_cases h3 : 300 < s.size
  · go_enter Try.func5, Try.ntmps5
    go_wp2_with fail
    refine (vawake_calls _).mono ?_
    rintro e w' ⟨rfl, hb⟩
    go_wp2
    go_ret
    exact ⟨rfl, hb⟩
  have e1 : decide ((300 : Int) < (bs.length : Int)) = false := decide_eq_false (by omega)
  have e2 : decide ((40 : Int) < (cl.length : Int)) = false := decide_eq_false (by omega)
  have e3 : decide ((300 : Int) < (s.size : Int)) = false := decide_eq_false (by omega)
  go_enter Try.func5, Try.ntmps5
  go_wp2_with (at_builtin; go_must (refine wpList_append_BR rfl _ _ rfl w.heap.size w.heap.size 0 [] rfl ⟨rfl, .inr ⟨w.heap.size, 0, #[], rfl, Nat.le_refl _, heap_alloc_new _ _, Nat.le_refl _, by unfold maxLen; omega, rfl, rfl⟩⟩ A c (fun g => g < w.heap.size) bs rfl HA.out (HB.out.below (balloc (Below.refl _ _))) (by simp; omega) (by simp) ?_); intro gi ci w0 hO hg0)
  have hraw := hO.raw HB.out.bs
  obtain ⟨A', c', hAe, hbr⟩ := hO.br HB.out.bs
  cases hAe
  rw [List.nil_append] at hraw hbr
  have HBR := hid hbr
  have hb0 : Below w.heap.size w w0 := bgrown (balloc (Below.refl _ _)) hg0 (fun k hk => by simp at hk; omega)
  clear hO hg0 hbr
  refine (new_calls w0 _ ⟨gi, 0, none⟩ ci bs HBR.out (by omega)).mono ?_
  rintro e w1 ⟨rb, rfl, hrb, hR1, hb1⟩
  have hR1' := hid (hR1.mono (ok' := fun g => w0.heap.size ≤ g ∧ g < w1.heap.size) fun k hk hl => ⟨hk, hl⟩)
  have hrl := hR1.lt
  have hb01 := bthen hb0 hb1
  have hw0 := hb0.size
  have hw1 := hb1.size
  have hraw1 := hid (hraw.2.2.move (hb1.block gi hraw.2.1))
  have hgi := hraw.1
  have hgi2 := hraw.2.1
  clear hR1 hraw HBR
  have f0 : (w1.alloc (.cells #[.slice none 0 0, .int .i64 0] 45)).frozen? ⟨w1.heap.size, 0, none⟩ = false := frozen_of_block (heap_alloc_new _ _) 0
  have f1 : (w1.alloc (.cells #[.slice none 0 0, .int .i64 0] 45)).frozen? ⟨w1.heap.size, 1, none⟩ = false := frozen_of_block (heap_alloc_new _ _) 1
  go_wp2
  go_loopw [10] (fun i wr => ∃ j : Nat, i = .int .i64 j ∧ j ≤ bs.length ∧ Hid (VI w wr w0.heap.size rb w1.heap.size bs 0) ∧ Hid (Raw wr gi bs.length)) (fun i _ => bs.length - (intOf i).toNat)
  case atStart =>
    refine ⟨0, rfl, by omega, hid ⟨hR1'.out.below (balloc (Below.refl _ _)), ⟨A, c, heap_alloc_new _ _, HB.out.below (balloc hb01)⟩, balloc hb01⟩, hid (hraw1.out.move ?_)⟩
    rw [Below.heap_alloc _ _ _ (by omega)]
  case round =>
    obtain ⟨j, rfl, hj, HV, HW⟩ := hrel
    by_cases hjl : j < bs.length
    · obtain ⟨cur, hcb, hcc⟩ := HW.out
      obtain ⟨z, hz, hz0, hz1⟩ := hcc j hjl
      have cj : wr.cell? ⟨gi, j, none⟩ = some (.int .u8 z) := (cell_of_block hcb j).trans hz
      have fj := frozen_of_block hcb j
      have HV' := hid (⟨HV.out.1, HV.out.2.1, HV.out.2.2⟩ : VI w wr w0.heap.size rb w1.heap.size bs 0)
      clear hcb hcc hz HV f0 f1
      go_wp2
      go_roundw
      case rel =>
        refine ⟨j + 1, by go_num, by omega, hid ?_, hid (HW.out.set j _ ?_ ?_)⟩
        · obtain ⟨hRD, ⟨A3, c3, hx, hb3⟩, hbw⟩ := HV'.out
          refine ⟨hRD.move fun k hk hl => Below.heap_setCell _ _ _ _ (by show k ≠ gi; omega), ⟨A3, c3, ?_, hb3.move fun k hk hl => Below.heap_setCell _ _ _ _ (by show k ≠ gi; omega)⟩, bset hbw hgi⟩
          rw [Below.heap_setCell _ _ _ _ (by show w1.heap.size ≠ gi; omega)]
          exact hx
        · omega
        · omega
      case measure => simp [intOf]; omega
    · clear f0 f1 HW
      go_wp2
      have hxb : w.heap.size ≤ w1.heap.size := by omega
      have hxr : rb < w1.heap.size := hrl
      have hwr : w.heap.size ≤ rb := by omega
      have hb0l : w.heap.size ≤ w0.heap.size := hw0
      obtain ⟨xb, hxbe⟩ : ∃ xb, xb = w1.heap.size := ⟨_, rfl⟩
      obtain ⟨b0, hb0e⟩ : ∃ b0, b0 = w0.heap.size := ⟨_, rfl⟩
      rw [← hxbe] at hxb hxr HV ⊢
      rw [← hb0e] at hb0l HV
      clear hxbe hb0e hR1' hrb hb1 hrl hb01 hw0 hw1 hraw1 hgi hgi2 hb0
      go_loopw [11, 12] (fun o i wr => ∃ (k : Nat) (xs : List Int) (e : Int), i = .int .i64 k ∧ o = .bool true ∧ k ≤ cl.length ∧ xs.length ≤ 300 ∧ Hid (VI w wr b0 rb xb xs e)) (fun _ i _ => cl.length - (intOf i).toNat)
      case atStart => exact ⟨0, bs, 0, rfl, rfl, by omega, by omega, HV⟩
      case round =>
        obtain ⟨k, xs, e, rfl, rfl, hk, hxl, HV⟩ := hrel
        by_cases hkl : k < cl.length
        · obtain ⟨g2, off2, cs2, rfl, hg2, hR2, hc2⟩ := HC.out.get hkl
          obtain ⟨rfl, -⟩ := hR2
          have ck0 : wr.cell? ⟨g2, off2 + k, none⟩ = some (.int .i64 cl[k]) := by
            have := ck HV.out.2.2 (hc2 0 _ rfl)
            simpa [Rp.int, Rp.scalar] using this
          obtain ⟨cv, hcv⟩ : ∃ cv, cv = cl[k] := ⟨_, rfl⟩
          rw [← hcv] at ck0
          obtain ⟨A3, c3, hx3, hB3⟩ := HV.out.2.1
          have x0 : wr.cell? ⟨xb, 0, none⟩ = some (.slice A3 xs.length c3) := cell_of_block hx3 0
          have x1 : wr.cell? ⟨xb, 1, none⟩ = some (.int .i64 e) := cell_of_block hx3 1
          have hxlt := cell_lt x0
          have HX := hid hx3
          have HB3 := hid hB3
          clear hc2 hcv hx3 hB3
          by_cases hm1 : cv = -1
          · subst hm1
            have hlS := numS_len xs e
            have href := hid (rnum_calls wr _ A3 c3 xs e HB3.out hxl)
            have hprg := hid (fun wz (hz : RD wz rb (fun g => b0 ≤ g ∧ g < xb) xs e) => num_calls hz hxl)
            obtain ⟨n, ys, f, hn⟩ : ∃ n ys f, numS xs e = (n, ys, f) := ⟨_, _, _, rfl⟩
            rw [hn] at hlS href hprg
            simp only at hlS href hprg
            clear hn
            go_wp2_with fail
            refine href.out.mono ?_
            rintro v w2 ⟨A4, c4, rfl, hB4, hb4⟩
            have hx2 := (hb4.block xb hxlt).trans HX.out
            have d0 := cell_of_block hx2 0
            have d1 := cell_of_block hx2 1
            have f0 := frozen_of_block hx2 0
            have f1 := frozen_of_block hx2 1
            simp only [List.getElem?_toArray, List.getElem?_cons_zero, List.getElem?_cons_succ] at d0 d1
            have HX2 := hid (And.intro hx2 (And.intro hB4 hb4))
            clear hx2 hB4 hb4 x0 x1
            go_wp2_with fail
            refine (hprg.out _ ((HV.out.1.below HX2.out.2.2).move fun q hq hl => by rw [Below.heap_setCell _ _ _ _ (by show q ≠ xb; omega), Below.heap_setCell _ _ _ _ (by show q ≠ xb; omega)])).mono ?_
            rintro v w3 ⟨rfl, hR3, hC3⟩
            have hx3 := (hC3.block xb (by simp; have := HX2.out.2.2.size; omega) (by simp; omega)).trans (block_set (block_set HX2.out.1 0 (.slice A4 ys.length c4)) 1 (.int .i64 f))
            have x0 : w3.cell? ⟨xb, 0, none⟩ = some (.slice A4 ys.length c4) := cell_of_block hx3 0
            have x1 : w3.cell? ⟨xb, 1, none⟩ = some (.int .i64 f) := cell_of_block hx3 1
            have hbw3 : Below w.heap.size w w3 := below_chg (bset (bset (bthen HV.out.2.2 HX2.out.2.2) hxb) hxb) hC3 hwr
            have HV3 := hid (⟨hR3, ⟨A4, c4, hx3, HX2.out.2.1.move fun q hq hl => (hbw3.block q hq).trans ((bthen HV.out.2.2 HX2.out.2.2).block q hq).symm⟩, hbw3⟩ : VI w w3 b0 rb xb ys f)
            clear hR3 hC3 hx3 d0 d1 f0 f1 HX2 hbw3 hprg href
            go_wp2_with fail
            (refine wp_region_ext_lit (by kernel_rfl) (by kernel_rfl) ?_; (repeat (go_big_quiet_step ((first | (go_at_call 23; exact ext_of ((left_calls (HV3.out.1.below (Ext.below _))).mono fun _ _ h => ⟨h.1, h.2 ▸ Below.refl _ _⟩)) | (go_at_call 24; exact ext_of ((err_calls (HV3.out.1.below (Ext.below _))).mono fun _ _ h => ⟨h.1, h.2 ▸ Below.refl _ _⟩)) | (go_at_call 25; exact ext_of ((done_calls (HV3.out.1.below (Ext.below _))).mono fun _ _ h => ⟨h.1, h.2 ▸ Below.refl _ _⟩)) | (go_at_call 26; exact ext_of (rdone_calls _ _ _ _ _)))))); refine wpQuiet_nil ?_; rintro _ ⟨⟨wx, hx⟩, rfl⟩)
            clear x0 x1
            go_wp2
            go_roundw
            case rel => exact ⟨k + 1, ys, f, by go_num, rfl, by omega, by omega, hid (VI.below HV3.out hx)⟩
            case measure => simp [intOf]; omega
          · by_cases hm8 : cv ≤ 8
            · have hlS := fixS_len xs e cv
              have href := hid (rfixed_calls wr _ A3 c3 xs e HB3.out hxl cv)
              have hprg := hid (fun wz (hz : RD wz rb (fun g => b0 ≤ g ∧ g < xb) xs e) => fixed_calls hz hxl cv)
              obtain ⟨n, ys, f, hn⟩ : ∃ n ys f, fixS xs e cv = (n, ys, f) := ⟨_, _, _, rfl⟩
              rw [hn] at hlS href hprg
              simp only at hlS href hprg
              clear hn
              go_wp2_with fail
              refine href.out.mono ?_
              rintro v w2 ⟨A4, c4, rfl, hB4, hb4⟩
              have hx2 := (hb4.block xb hxlt).trans HX.out
              have d0 := cell_of_block hx2 0
              have d1 := cell_of_block hx2 1
              have f0 := frozen_of_block hx2 0
              have f1 := frozen_of_block hx2 1
              simp only [List.getElem?_toArray, List.getElem?_cons_zero, List.getElem?_cons_succ] at d0 d1
              have HX2 := hid (And.intro hx2 (And.intro hB4 hb4))
              clear hx2 hB4 hb4 x0 x1
              go_wp2_with fail
              refine (hprg.out _ ((HV.out.1.below HX2.out.2.2).move fun q hq hl => by rw [Below.heap_setCell _ _ _ _ (by show q ≠ xb; omega), Below.heap_setCell _ _ _ _ (by show q ≠ xb; omega)])).mono ?_
              rintro v w3 ⟨rfl, hR3, hC3⟩
              have hx3 := (hC3.block xb (by simp; have := HX2.out.2.2.size; omega) (by simp; omega)).trans (block_set (block_set HX2.out.1 0 (.slice A4 ys.length c4)) 1 (.int .i64 f))
              have x0 : w3.cell? ⟨xb, 0, none⟩ = some (.slice A4 ys.length c4) := cell_of_block hx3 0
              have x1 : w3.cell? ⟨xb, 1, none⟩ = some (.int .i64 f) := cell_of_block hx3 1
              have hbw3 : Below w.heap.size w w3 := below_chg (bset (bset (bthen HV.out.2.2 HX2.out.2.2) hxb) hxb) hC3 hwr
              have HV3 := hid (⟨hR3, ⟨A4, c4, hx3, HX2.out.2.1.move fun q hq hl => (hbw3.block q hq).trans ((bthen HV.out.2.2 HX2.out.2.2).block q hq).symm⟩, hbw3⟩ : VI w w3 b0 rb xb ys f)
              clear hR3 hC3 hx3 d0 d1 f0 f1 HX2 hbw3 hprg href
              go_wp2_with fail
              (refine wp_region_ext_lit (by kernel_rfl) (by kernel_rfl) ?_; (repeat (go_big_quiet_step ((first | (go_at_call 23; exact ext_of ((left_calls (HV3.out.1.below (Ext.below _))).mono fun _ _ h => ⟨h.1, h.2 ▸ Below.refl _ _⟩)) | (go_at_call 24; exact ext_of ((err_calls (HV3.out.1.below (Ext.below _))).mono fun _ _ h => ⟨h.1, h.2 ▸ Below.refl _ _⟩)) | (go_at_call 25; exact ext_of ((done_calls (HV3.out.1.below (Ext.below _))).mono fun _ _ h => ⟨h.1, h.2 ▸ Below.refl _ _⟩)) | (go_at_call 26; exact ext_of (rdone_calls _ _ _ _ _)))))); refine wpQuiet_nil ?_; rintro _ ⟨⟨wx, hx⟩, rfl⟩)
              clear x0 x1
              go_wp2
              go_roundw
              case rel => exact ⟨k + 1, ys, f, by go_num, rfl, by omega, by omega, hid (VI.below HV3.out hx)⟩
              case measure => simp [intOf]; omega
            · have hlS := texS_len xs e cv
              have href := hid (rtext_calls' wr _ A3 c3 xs e HB3.out (fun q hq => Nat.lt_of_lt_of_le hq HV.out.2.2.size) hxl cv)
              have hprg := hid (fun wz (hz : RD wz rb (fun g => b0 ≤ g ∧ g < xb) xs e) => text_calls' hz hxl cv)
              obtain ⟨n, ys, f, hn⟩ : ∃ n ys f, texS xs e cv = (n, ys, f) := ⟨_, _, _, rfl⟩
              rw [hn] at hlS href hprg
              simp only at hlS href hprg
              clear hn
              go_wp2_with fail
              refine href.out.mono ?_
              rintro v w2 ⟨A4, c4, rfl, hB4, hb4⟩
              have hx2 := (hb4.block xb hxlt).trans HX.out
              have d0 := cell_of_block hx2 0
              have d1 := cell_of_block hx2 1
              have f0 := frozen_of_block hx2 0
              have f1 := frozen_of_block hx2 1
              simp only [List.getElem?_toArray, List.getElem?_cons_zero, List.getElem?_cons_succ] at d0 d1
              have HX2 := hid (And.intro hx2 (And.intro hB4 hb4))
              clear hx2 hB4 hb4 x0 x1
              go_wp2_with fail
              refine (hprg.out _ ((HV.out.1.below HX2.out.2.2).move fun q hq hl => by rw [Below.heap_setCell _ _ _ _ (by show q ≠ xb; omega), Below.heap_setCell _ _ _ _ (by show q ≠ xb; omega)])).mono ?_
              rintro v w3 ⟨rfl, hR3, hC3⟩
              have hx3 := (hC3.block xb (by simp; have := HX2.out.2.2.size; omega) (by simp; omega)).trans (block_set (block_set HX2.out.1 0 (.slice A4 ys.length c4)) 1 (.int .i64 f))
              have x0 : w3.cell? ⟨xb, 0, none⟩ = some (.slice A4 ys.length c4) := cell_of_block hx3 0
              have x1 : w3.cell? ⟨xb, 1, none⟩ = some (.int .i64 f) := cell_of_block hx3 1
              have hbw3 : Below w.heap.size w w3 := below_chg (bset (bset (bthen HV.out.2.2 HX2.out.2.2) hxb) hxb) hC3 hwr
              have HV3 := hid (⟨hR3, ⟨A4, c4, hx3, HX2.out.2.1.move fun q hq hl => (hbw3.block q hq).trans ((bthen HV.out.2.2 HX2.out.2.2).block q hq).symm⟩, hbw3⟩ : VI w w3 b0 rb xb ys f)
              clear hR3 hC3 hx3 d0 d1 f0 f1 HX2 hbw3 hprg href
              go_wp2_with fail
              (refine wp_region_ext_lit (by kernel_rfl) (by kernel_rfl) ?_; (repeat (go_big_quiet_step ((first | (go_at_call 23; exact ext_of ((left_calls (HV3.out.1.below (Ext.below _))).mono fun _ _ h => ⟨h.1, h.2 ▸ Below.refl _ _⟩)) | (go_at_call 24; exact ext_of ((err_calls (HV3.out.1.below (Ext.below _))).mono fun _ _ h => ⟨h.1, h.2 ▸ Below.refl _ _⟩)) | (go_at_call 25; exact ext_of ((done_calls (HV3.out.1.below (Ext.below _))).mono fun _ _ h => ⟨h.1, h.2 ▸ Below.refl _ _⟩)) | (go_at_call 26; exact ext_of (rdone_calls _ _ _ _ _)))))); refine wpQuiet_nil ?_; rintro _ ⟨⟨wx, hx⟩, rfl⟩)
              clear x0 x1
              go_wp2
              go_roundw
              case rel => exact ⟨k + 1, ys, f, by go_num, rfl, by omega, by omega, hid (VI.below HV3.out hx)⟩
              case measure => simp [intOf]; omega
        · have hs3 : s.size ≤ 300 := by omega
          have hbw := HV.out.2.2
          obtain ⟨S, hS⟩ : ∃ S, S = strOfNums (txtS s) := ⟨_, rfl⟩
          have ht := hid (fun wz => hS ▸ text_str s hs3 wz)
          have hrt := hid (fun wz => hS ▸ rtext_str s hs3 wz)
          clear hS HV
          go_wp2
          refine wp_region_held_drew (S := fun w' => Below wr.heap.size wr w') (by kernel_rfl) (bdrew (Below.refl _ _)) (fun hHeld => ?_)
          ((refine wpAnyH_takeL (i := 0) (v := ?zv1) rfl (by kernel_rfl) (by kernel_rfl) (by kernel_rfl) (fun _ _ _ h => h) (Or.inl ⟨by rfl, ?zy1⟩) hHeld ?zr1; (case zy1 => (intro wz hz; (try dsimp only at hz); go_simp; first | done | with_reducible rfl)); simp only [Act.put, List.setIfInBounds_toArray, List.set_cons_zero, List.set_cons_succ]); (refine wpAnyH_takeL (i := 1) (v := ?zv2) rfl (by kernel_rfl) (by kernel_rfl) (by kernel_rfl) (fun _ _ _ h => h) (Or.inl ⟨by rfl, ?zy2⟩) hHeld ?zr2; (case zy2 => (intro wz hz; (try dsimp only at hz); go_simp; first | done | with_reducible rfl)); simp only [Act.put, List.setIfInBounds_toArray, List.set_cons_zero, List.set_cons_succ]); (refine wpAnyH_takeL (i := 2) (v := ?zv3) rfl (by kernel_rfl) (by kernel_rfl) (by kernel_rfl) (fun _ _ _ h => h) (Or.inl ⟨by rfl, ?zy3⟩) hHeld ?zr3; (case zy3 => (intro wz hz; (try dsimp only at hz); go_simp; first | done | with_reducible rfl)); simp only [Act.put, List.setIfInBounds_toArray, List.set_cons_zero, List.set_cons_succ]); (refine wpAnyH_takeL (i := 5) (v := ?zv4) rfl (by kernel_rfl) (by kernel_rfl) (by kernel_rfl) (fun _ _ _ h => h) (Or.inl ⟨by rfl, ?zy4⟩) hHeld ?zr4; (case zy4 => (intro wz hz; (try dsimp only at hz); go_simp; first | done | with_reducible rfl)); simp only [Act.put, List.setIfInBounds_toArray, List.set_cons_zero, List.set_cons_succ]))
          (refine wpAnyH_ready (rs := [3]) (by kernel_rfl) (by simp) ?_; refine AllReadyH_consL rfl (fun K hK => ?_) AllReadyH.nil; go_simp; (refine (ht.out _).mono ?_; rintro v w2 ⟨v2, rfl, hs2, hb2⟩); go_wp2_with fail; refine hK.out _ _ (by exact bthen (bdrew (Below.refl _ _)) hb2) (fun hHeld => ?_); clear hK K; (try simp only [Act.put, List.setIfInBounds_toArray, List.set_cons_zero, List.set_cons_succ]))
          have hr2 := hHeld
          clear hHeld
          refine wpAnyH_mono (S' := fun w' => Below w2.heap.size w2 w') (fun w' hw => bthen hr2 hw) _ _ _ _ ?_
          have hc2 := hs2
          unfold StrV at hc2
          ((refine wpAnyH_takeL (i := 4) (v := ?zv5) rfl (by kernel_rfl) (by kernel_rfl) (by kernel_rfl) (fun _ _ _ h => h) (Or.inl ⟨by rfl, ?zy5⟩) (Below.refl _ _) ?zr5; (case zy5 => (intro wz hz; (try dsimp only at hz); go_simp; first | done | with_reducible rfl)); simp only [Act.put, List.setIfInBounds_toArray, List.set_cons_zero, List.set_cons_succ]))
          (refine wpAnyH_ready (rs := [6]) (by kernel_rfl) (by simp) ?_; refine AllReadyH_consL rfl (fun K hK => ?_) AllReadyH.nil; go_simp; (refine (hrt.out _).mono ?_; rintro v w3 ⟨v3, rfl, hs3, hb3⟩); go_wp2_with fail; refine hK.out _ _ (by exact hb3) (fun hHeld => ?_); clear hK K; (try simp only [Act.put, List.setIfInBounds_toArray, List.set_cons_zero, List.set_cons_succ]))
          have hr3 := hHeld
          clear hHeld
          refine wpAnyH_mono (S' := fun w' => Below w3.heap.size w3 w') (fun w' hw => bthen hr3 hw) _ _ _ _ ?_
          have hc3 := hs3
          unfold StrV at hc3
          ((refine wpAnyH_takeL (i := 7) (v := ?zv6) rfl (by kernel_rfl) (by kernel_rfl) (by kernel_rfl) (fun _ _ _ h => h) (Or.inl ⟨by rfl, ?zy6⟩) (Below.refl _ _) ?zr6; (case zy6 => (intro wz hz; (try dsimp only at hz); go_simp; first | done | with_reducible rfl)); simp only [Act.put, List.setIfInBounds_toArray, List.set_cons_zero, List.set_cons_succ]))
          have hHeld : Below w3.heap.size w3 w3 := Below.refl _ _
          ((refine wpAnyH_takeL (i := 8) (v := ?zv7) rfl (by kernel_rfl) (by kernel_rfl) (by kernel_rfl) (fun _ _ _ h => h) (Or.inl ⟨by rfl, ?zy7⟩) hHeld ?zr7; (case zy7 => (intro wz hz; (try dsimp only at hz); go_simp; first | done | with_reducible rfl)); simp only [Act.put, List.setIfInBounds_toArray, List.set_cons_zero, List.set_cons_succ]); (refine wpAnyH_takeL (i := 9) (v := ?zv8) rfl (by kernel_rfl) (by kernel_rfl) (by kernel_rfl) (fun _ _ _ h => h) (Or.inl ⟨by rfl, ?zy8⟩) hHeld ?zr8; (case zy8 => (intro wz hz; (try dsimp only at hz); go_simp; first | done | with_reducible rfl)); simp only [Act.put, List.setIfInBounds_toArray, List.set_cons_zero, List.set_cons_succ]); (refine wpAnyH_takeL (i := 10) (v := ?zv9) rfl (by kernel_rfl) (by kernel_rfl) (by kernel_rfl) (fun _ _ _ h => h) (Or.inl ⟨by rfl, ?zy9⟩) hHeld ?zr9; (case zy9 => (intro wz hz; (try dsimp only at hz); go_simp; first | done | with_reducible rfl)); simp only [Act.put, List.setIfInBounds_toArray, List.set_cons_zero, List.set_cons_succ]); (refine wpAnyH_takeL (i := 11) (v := ?zv10) rfl (by kernel_rfl) (by kernel_rfl) (by kernel_rfl) (fun _ _ _ h => h) (Or.inl ⟨by rfl, ?zy10⟩) hHeld ?zr10; (case zy10 => (intro wz hz; (try dsimp only at hz); go_simp; first | done | with_reducible rfl)); simp only [Act.put, List.setIfInBounds_toArray, List.set_cons_zero, List.set_cons_succ]); (refine wpAnyH_takeL (i := 13) (v := ?zv11) rfl (by kernel_rfl) (by kernel_rfl) (by kernel_rfl) (fun _ _ _ h => h) (Or.inl ⟨by rfl, ?zy11⟩) hHeld ?zr11; (case zy11 => (intro wz hz; (try dsimp only at hz); go_simp; first | done | with_reducible rfl)); simp only [Act.put, List.setIfInBounds_toArray, List.set_cons_zero, List.set_cons_succ]); (refine wpAnyH_takeL (i := 16) (v := ?zv12) rfl (by kernel_rfl) (by kernel_rfl) (by kernel_rfl) (fun _ _ _ h => h) (Or.inl ⟨by rfl, ?zy12⟩) hHeld ?zr12; (case zy12 => (intro wz hz; (try dsimp only at hz); go_simp; first | done | with_reducible rfl)); simp only [Act.put, List.setIfInBounds_toArray, List.set_cons_zero, List.set_cons_succ]); (refine wpAnyH_takeL (i := 20) (v := ?zv13) rfl (by kernel_rfl) (by kernel_rfl) (by kernel_rfl) (fun _ _ _ h => h) (Or.inl ⟨by rfl, ?zy13⟩) hHeld ?zr13; (case zy13 => (intro wz hz; (try dsimp only at hz); go_simp; first | done | with_reducible rfl)); simp only [Act.put, List.setIfInBounds_toArray, List.set_cons_zero, List.set_cons_succ]))
          (refine wpAnyH_ready (rs := [12]) (by kernel_rfl) (by simp) ?_; refine AllReadyH_consL rfl (fun K hK => ?_) AllReadyH.nil; go_simp; (refine (num_nil _).mono ?_; rintro v w4 ⟨rfl, rfl⟩); go_wp2_with fail; refine hK.out _ _ (by exact hHeld) (fun hHeld => ?_); clear hK K; (try simp only [Act.put, List.setIfInBounds_toArray, List.set_cons_zero, List.set_cons_succ]))
          (refine wpAnyH_ready (rs := [14]) (by kernel_rfl) (by simp) ?_; refine AllReadyH_consL rfl (fun K hK => ?_) AllReadyH.nil; go_simp; (refine (left_nil _).mono ?_; rintro v w4 ⟨rfl, rfl⟩); go_wp2_with fail; refine hK.out _ _ (by exact hHeld) (fun hHeld => ?_); clear hK K; (try simp only [Act.put, List.setIfInBounds_toArray, List.set_cons_zero, List.set_cons_succ]))
          ((refine wpAnyH_takeL (i := 15) (v := ?zv14) rfl (by kernel_rfl) (by kernel_rfl) (by kernel_rfl) (fun _ _ _ h => h) (Or.inl ⟨by rfl, ?zy14⟩) hHeld ?zr14; (case zy14 => (intro wz hz; (try dsimp only at hz); go_simp; first | done | with_reducible rfl)); simp only [Act.put, List.setIfInBounds_toArray, List.set_cons_zero, List.set_cons_succ]))
          (refine wpAnyH_ready (rs := [17]) (by kernel_rfl) (by simp) ?_; refine AllReadyH_consL rfl (fun K hK => ?_) AllReadyH.nil; go_simp; (refine (text_nil _ _).mono ?_; rintro v w4 ⟨rfl, rfl⟩); go_wp2_with fail; refine hK.out _ _ (by exact hHeld) (fun hHeld => ?_); clear hK K; (try simp only [Act.put, List.setIfInBounds_toArray, List.set_cons_zero, List.set_cons_succ]))
          ((refine wpAnyH_takeL (i := 18) (v := ?zv15) rfl (by kernel_rfl) (by kernel_rfl) (by kernel_rfl) (fun _ _ _ h => h) (Or.inl ⟨by rfl, ?zy15⟩) hHeld ?zr15; (case zy15 => (intro wz hz; (try dsimp only at hz); go_simp; first | done | with_reducible rfl)); simp only [Act.put, List.setIfInBounds_toArray, List.set_cons_zero, List.set_cons_succ]); (refine wpAnyH_takeL (i := 19) (v := ?zv16) rfl (by kernel_rfl) (by kernel_rfl) (by kernel_rfl) (fun _ _ _ h => h) (Or.inl ⟨by rfl, ?zy16⟩) hHeld ?zr16; (case zy16 => (intro wz hz; (try dsimp only at hz); go_simp; first | done | with_reducible rfl)); simp only [Act.put, List.setIfInBounds_toArray, List.set_cons_zero, List.set_cons_succ]))
          (refine wpAnyH_ready (rs := [21]) (by kernel_rfl) (by simp) ?_; refine AllReadyH_consL rfl (fun K hK => ?_) AllReadyH.nil; go_simp; (refine (fixed_nil _ _).mono ?_; rintro v w4 ⟨rfl, rfl⟩); go_wp2_with fail; refine hK.out _ _ (by exact hHeld) (fun hHeld => ?_); clear hK K; (try simp only [Act.put, List.setIfInBounds_toArray, List.set_cons_zero, List.set_cons_succ]))
          ((refine wpAnyH_takeL (i := 22) (v := ?zv17) rfl (by kernel_rfl) (by kernel_rfl) (by kernel_rfl) (fun _ _ _ h => h) (Or.inl ⟨by rfl, ?zy17⟩) hHeld ?zr17; (case zy17 => (intro wz hz; (try dsimp only at hz); go_simp; first | done | with_reducible rfl)); simp only [Act.put, List.setIfInBounds_toArray, List.set_cons_zero, List.set_cons_succ]); (refine wpAnyH_takeL (i := 23) (v := ?zv18) rfl (by kernel_rfl) (by kernel_rfl) (by kernel_rfl) (fun _ _ _ h => h) (Or.inl ⟨by rfl, ?zy18⟩) hHeld ?zr18; (case zy18 => (intro wz hz; (try dsimp only at hz); go_simp; first | done | with_reducible rfl)); simp only [Act.put, List.setIfInBounds_toArray, List.set_cons_zero, List.set_cons_succ]); (refine wpAnyH_takeL (i := 24) (v := ?zv19) rfl (by kernel_rfl) (by kernel_rfl) (by kernel_rfl) (fun _ _ _ h => h) (Or.inl ⟨by rfl, ?zy19⟩) hHeld ?zr19; (case zy19 => (intro wz hz; (try dsimp only at hz); go_simp; first | done | with_reducible rfl)); simp only [Act.put, List.setIfInBounds_toArray, List.set_cons_zero, List.set_cons_succ]); (refine wpAnyH_takeL (i := 25) (v := ?zv20) rfl (by kernel_rfl) (by kernel_rfl) (by kernel_rfl) (fun _ _ _ h => h) (Or.inl ⟨by rfl, ?zy20⟩) hHeld ?zr20; (case zy20 => (intro wz hz; (try dsimp only at hz); go_simp; first | done | with_reducible rfl)); simp only [Act.put, List.setIfInBounds_toArray, List.set_cons_zero, List.set_cons_succ]); (refine wpAnyH_takeL (i := 26) (v := ?zv21) rfl (by kernel_rfl) (by kernel_rfl) (by kernel_rfl) (fun _ _ _ h => h) (Or.inl ⟨by rfl, ?zy21⟩) hHeld ?zr21; (case zy21 => (intro wz hz; (try dsimp only at hz); go_simp; first | done | with_reducible rfl)); simp only [Act.put, List.setIfInBounds_toArray, List.set_cons_zero, List.set_cons_succ]); (refine wpAnyH_takeL (i := 27) (v := ?zv22) rfl (by kernel_rfl) (by kernel_rfl) (by kernel_rfl) (fun _ _ _ h => h) (Or.inl ⟨by rfl, ?zy22⟩) hHeld ?zr22; (case zy22 => (intro wz hz; (try dsimp only at hz); go_simp; first | done | with_reducible rfl)); simp only [Act.put, List.setIfInBounds_toArray, List.set_cons_zero, List.set_cons_succ]))
          (refine wpAnyH_ready (rs := [28]) (by kernel_rfl) (by simp) ?_; refine AllReadyH_consL rfl (fun K hK => ?_) AllReadyH.nil; go_simp; (refine (err_nil _).mono ?_; rintro v w4 ⟨rfl, rfl⟩); go_wp2_with fail; refine hK.out _ _ (by exact hHeld) (fun hHeld => ?_); clear hK K; (try simp only [Act.put, List.setIfInBounds_toArray, List.set_cons_zero, List.set_cons_succ]))
          ((refine wpAnyH_takeL (i := 29) (v := ?zv23) rfl (by kernel_rfl) (by kernel_rfl) (by kernel_rfl) (fun _ _ _ h => h) (Or.inl ⟨by rfl, ?zy23⟩) hHeld ?zr23; (case zy23 => (intro wz hz; (try dsimp only at hz); go_simp; first | done | with_reducible rfl)); simp only [Act.put, List.setIfInBounds_toArray, List.set_cons_zero, List.set_cons_succ]); (refine wpAnyH_takeL (i := 30) (v := ?zv24) rfl (by kernel_rfl) (by kernel_rfl) (by kernel_rfl) (fun _ _ _ h => h) (Or.inl ⟨by rfl, ?zy24⟩) hHeld ?zr24; (case zy24 => (intro wz hz; (try dsimp only at hz); go_simp; first | done | with_reducible rfl)); simp only [Act.put, List.setIfInBounds_toArray, List.set_cons_zero, List.set_cons_succ]); (refine wpAnyH_takeL (i := 31) (v := ?zv25) rfl (by kernel_rfl) (by kernel_rfl) (by kernel_rfl) (fun _ _ _ h => h) (Or.inl ⟨by rfl, ?zy25⟩) hHeld ?zr25; (case zy25 => (intro wz hz; (try dsimp only at hz); go_simp; first | done | with_reducible rfl)); simp only [Act.put, List.setIfInBounds_toArray, List.set_cons_zero, List.set_cons_succ]); (refine wpAnyH_takeL (i := 32) (v := ?zv26) rfl (by kernel_rfl) (by kernel_rfl) (by kernel_rfl) (fun _ _ _ h => h) (Or.inl ⟨by rfl, ?zy26⟩) hHeld ?zr26; (case zy26 => (intro wz hz; (try dsimp only at hz); go_simp; first | done | with_reducible rfl)); simp only [Act.put, List.setIfInBounds_toArray, List.set_cons_zero, List.set_cons_succ]))
          (refine wpAnyH_ready (rs := [33]) (by kernel_rfl) (by simp) ?_; refine AllReadyH_consL rfl (fun K hK => ?_) AllReadyH.nil; go_simp; (refine (done_nil _).mono ?_; rintro v w4 ⟨rfl, rfl⟩); go_wp2_with fail; refine hK.out _ _ (by exact hHeld) (fun hHeld => ?_); clear hK K; (try simp only [Act.put, List.setIfInBounds_toArray, List.set_cons_zero, List.set_cons_succ]))
          ((refine wpAnyH_takeL (i := 34) (v := ?zv27) rfl (by kernel_rfl) (by kernel_rfl) (by kernel_rfl) (fun _ _ _ h => h) (Or.inl ⟨by rfl, ?zy27⟩) hHeld ?zr27; (case zy27 => (intro wz hz; (try dsimp only at hz); go_simp; first | done | with_reducible rfl)); simp only [Act.put, List.setIfInBounds_toArray, List.set_cons_zero, List.set_cons_succ]); (refine wpAnyH_takeL (i := 35) (v := ?zv28) rfl (by kernel_rfl) (by kernel_rfl) (by kernel_rfl) (fun _ _ _ h => h) (Or.inl ⟨by rfl, ?zy28⟩) hHeld ?zr28; (case zy28 => (intro wz hz; (try dsimp only at hz); go_simp; first | done | with_reducible rfl)); simp only [Act.put, List.setIfInBounds_toArray, List.set_cons_zero, List.set_cons_succ]); (refine wpAnyH_takeL (i := 36) (v := ?zv29) rfl (by kernel_rfl) (by kernel_rfl) (by kernel_rfl) (fun _ _ _ h => h) (Or.inl ⟨by rfl, ?zy29⟩) hHeld ?zr29; (case zy29 => (intro wz hz; (try dsimp only at hz); go_simp; first | done | with_reducible rfl)); simp only [Act.put, List.setIfInBounds_toArray, List.set_cons_zero, List.set_cons_succ]))
          (refine wpAnyH_ready (rs := [37]) (by kernel_rfl) (by simp) ?_; refine AllReadyH_consL rfl (fun K hK => ?_) AllReadyH.nil; go_simp; (refine (vawake_calls _).mono ?_; rintro v w5 ⟨rfl, hb5⟩); go_wp2_with fail; refine hK.out _ _ (by exact hb5) (fun hHeld => ?_); clear hK K; (try simp only [Act.put, List.setIfInBounds_toArray, List.set_cons_zero, List.set_cons_succ]))
          ((refine wpAnyH_takeL (i := 38) (v := ?zv30) rfl (by kernel_rfl) (by kernel_rfl) (by kernel_rfl) (fun _ _ _ h => h) (Or.inl ⟨by rfl, ?zy30⟩) hHeld ?zr30; (case zy30 => (intro wz hz; (try dsimp only at hz); go_simp; first | done | with_reducible rfl)); simp only [Act.put, List.setIfInBounds_toArray, List.set_cons_zero, List.set_cons_succ]); (refine wpAnyH_takeL (i := 39) (v := ?zv31) rfl (by kernel_rfl) (by kernel_rfl) (by kernel_rfl) (fun _ _ _ h => h) (Or.inl ⟨by rfl, ?zy31⟩) hHeld ?zr31; (case zy31 => (intro wz hz; (try dsimp only at hz); go_simp; first | done | with_reducible rfl)); simp only [Act.put, List.setIfInBounds_toArray, List.set_cons_zero, List.set_cons_succ]))
          refine wpAnyH_done (by kernel_rfl) ?_ _
          go_wp2
          go_ret
          exact ⟨rfl, bthen (bthen (bthen hbw hr2) hr3) hb5⟩
end Go.Proofs.Ytoinkagmhcojlaa
