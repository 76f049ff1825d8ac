/- CompactKeeps, proved: whether any record of any batches stays, and where any key stands last, is told as the document says; for every input, without a condition. -/
import Derived.Test.YtoinkagmhcojlaaRows
import Derived.Test.YtoinkagmhcojlaaOpen
import Derived.Test.YtoinkagmhcojlaaLawKeeps
namespace Go.Proofs.Ytoinkagmhcojlaa
open Go.ChangeShapes Go.WideShapes Go.ChangeAt Go.RowKit
open Go.ChangeMaps (open_string shut_string)
set_option linter.unusedVariables false
set_option linter.unusedSimpArgs false

theorem opens_rec : Opens Try.prog 32 recK :=
  .iso (fun a => ⟨a.1, a.2.1, a.2.2.1, a.2.2.2.1, a.2.2.2.2.1, a.2.2.2.2.2⟩) (fun _ => rfl)
    (.struct Try.underlying32 (by kernel_rfl) (OpensF.cons rfl (.int Try.underlying3 (by kernel_rfl)) (OpensF.cons rfl (.int Try.underlying3 (by kernel_rfl)) (OpensF.cons rfl (.bool Try.underlying4 (by kernel_rfl)) (OpensF.cons rfl (.str Try.underlying9 (by kernel_rfl)) (OpensF.cons rfl (.bool Try.underlying4 (by kernel_rfl)) (OpensF.last rfl (.str Try.underlying9 (by kernel_rfl)))))))))
theorem opens_bat : Opens Try.prog 30 batK :=
  .iso (fun a => ⟨a.1, a.2.1, a.2.2.1, a.2.2.2.1, a.2.2.2.2.1, a.2.2.2.2.2⟩) (fun _ => rfl)
    (.struct Try.underlying30 (by kernel_rfl) (OpensF.cons rfl (.int Try.underlying3 (by kernel_rfl)) (OpensF.cons rfl (.int Try.underlying3 (by kernel_rfl)) (OpensF.cons rfl (.int Try.underlying3 (by kernel_rfl)) (OpensF.cons rfl (.int Try.underlying3 (by kernel_rfl)) (OpensF.cons rfl (.int Try.underlying3 (by kernel_rfl)) (OpensF.last rfl (.slice Try.underlying28 (by kernel_rfl) opens_rec (by decide)))))))))
theorem opens_bats : Opens Try.prog 22 (Rp.slice batK) := .slice Try.underlying22 (by kernel_rfl) opens_bat (by decide)
theorem opens_two : Opens Try.prog 23 (Rp.pair (Rp.int .i64) (Rp.int .i64)) := .array2 Try.underlying23 (by kernel_rfl) (.int Try.underlying3 (by kernel_rfl))

theorem own : ownKnob Try.prog.godebug = none := by kernel_rfl
theorem laidOut : laidOutB Try.prog = true := by kernel_rfl

namespace compactKeeps
set_option maxRecDepth 100000 in
theorem lifted (os : Os) (started : os.Started) (H : Type) (enc : TypeId × Value → H) :
    ReturnsInHanded {} Try.checked os 3 .any (Rows.compactKeepsSpec.pre6 enc Try.prog Try.f3 Rows.compactKeepsRow.domain false) (Rows.compactKeepsSpec.post enc Try.prog Try.f3 false true false false) := by
  refine returnsInHanded_of_change_sized (C := Try.checked) own started (by kernel_rfl) Try.func3
    (ChangeSpec.witness6 (enc := enc) (C := Try.checked) false ⟨#[], #[.slice none 0 0, .agg #[.int .i64 0, .int .i64 0], .agg #[.int .i64 0, .int .i64 0]], []⟩ 8 (by kernel_rfl) (by kernel_rfl) (by kernel_rfl) (by kernel_rfl)) ?_
  intro W base args ds gs before hval0 hW hcnd hsz0 _
  have hval : ∀ (j : Nat) t v, Try.f3.params[j]? = some t → args[j]? = some v → Value.okWide Try.prog W .any base t v := hval0
  have hW' := hW
  obtain ⟨p, q, hA0, hV, rfl, hfz, hnd⟩ := hW
  have hA : DataW.TrodAll enc Try.prog W 0 (fun _ => true) true Try.f3.params.toList args.toList ds p := hA0
  obtain ⟨v0, vs0, d0, ds0, p0, q0, hargs, rfl, rfl, h0, r0⟩ := trodAll_cons hA
  obtain ⟨v1, vs1, d1, ds1, p1, q1, rfl, rfl, rfl, h1, r1⟩ := trodAll_cons r0
  obtain ⟨v2, vs2, d2, ds2, p2, q2, rfl, rfl, rfl, h2, r2⟩ := trodAll_cons r1
  obtain ⟨rfl, rfl, rfl⟩ := trodAll_nil r2
  obtain rfl : args = #[v0, v1, v2] := by cases args; simp_all
  obtain ⟨rfl, rfl⟩ := trodVars_none hV
  obtain ⟨l, A, c, rfl, hAt⟩ := Opens.slice_arg Try.underlying22 opens_bats (hval 0 22 v0 rfl rfl) h0
  obtain ⟨⟨a0, a1⟩, cs1, rfl, _, _, rfl, ⟨rfl, _⟩, ⟨rfl, _⟩⟩ := Opens.agg_arg (.inr ⟨_, _, Try.underlying23⟩) opens_two (hval 1 23 v1 rfl rfl) h1
  obtain ⟨⟨t0, t1⟩, cs2, rfl, _, _, rfl, ⟨rfl, _⟩, ⟨rfl, _⟩⟩ := Opens.agg_arg (.inr ⟨_, _, Try.underlying23⟩) opens_two (hval 2 23 v2 rfl rfl) h2
  have lt0 : ∀ x ∈ p0, x.block < W.heap.size := by obtain ⟨m, hm⟩ := h0; exact DataW.trod_lt m _ _ _ hm
  have lt1 : ∀ x ∈ p1, x.block < W.heap.size := by obtain ⟨m, hm⟩ := h1; exact DataW.trod_lt m _ _ _ hm
  have lt2 : ∀ x ∈ p2, x.block < W.heap.size := by obtain ⟨m, hm⟩ := h2; exact DataW.trod_lt m _ _ _ hm
  clear hA0 hval0 hsz0
  refine (lawKeeps_calls l A c a0 a1 t0 t1 W _ hAt).mono fun e W' ⟨he, bel⟩ => ?_
  subst he
  exact ⟨_, rfl, _, _, _, [], _, [], hW', trodAll_mk1 (shut_bool Try.underlying4 _),
    (trodAll_cons_mk (Below.trod laidOut (by kernel_rfl) (of_decide_eq_true (by kernel_rfl)) h0 bel lt0) (trodAll_cons_mk (Below.trod laidOut (by kernel_rfl) (of_decide_eq_true (by kernel_rfl)) h1 bel lt1) (trodAll_cons_mk (Below.trod laidOut (by kernel_rfl) (of_decide_eq_true (by kernel_rfl)) h2 bel lt2) trodAll_mk0))), rfl, bel.frame _, fun h => by cases h⟩
theorem over : Rows.compactKeepsRow.holds Try.pinned (OpenSpec.ofChange Rows.compactKeepsSpec) :=
  OpenClaim.holds_of_wide 3 Try.f3 rfl rfl rfl rfl rfl rfl rfl ⟨rfl, rfl, rfl, rfl, rfl⟩ rfl rfl rfl rfl rfl (by kernel_rfl) Try.func3 (by kernel_rfl)
    (of_decide_eq_true (by kernel_rfl)) (by unfold Func.isWrapper; first | (rw [if_pos (by decide +kernel)]; kernel_rfl) | (rw [if_neg (by decide +kernel)]; exact ⟨rfl, rfl⟩))
    (fun os started H enc _ => lifted os started H enc)
end compactKeeps
theorem compactKeeps_holds : Rows.CompactKeepsSaid := compactKeeps.over
end Go.Proofs.Ytoinkagmhcojlaa
