/- Bytes, and whole numbers, as VarnumTakes is given them. -/
import Derived.Test.YtoinkagmhcojlaaOpen
import Derived.Test.YtoinkagmhcojlaaVLaw
namespace Go.Proofs.Ytoinkagmhcojlaa
open Go.ChangeShapes Go.WideShapes Go.ChangeAt Go.RowKit
set_option linter.unusedVariables false
set_option linter.unusedSimpArgs false
theorem opens_u8s : Opens Try.prog 40 (Rp.slice (Rp.int .u8)) := .slice Try.underlying40 (by kernel_rfl) (.int Try.underlying5 (by kernel_rfl)) (by decide)
theorem opens_ints' : Opens Try.prog 41 (Rp.slice (Rp.int .i64)) := .slice Try.underlying41 (by kernel_rfl) (.int Try.underlying3 (by kernel_rfl)) (by decide)
theorem own : ownKnob Try.prog.godebug = none := by kernel_rfl
theorem laidOut : laidOutB Try.prog = true := by kernel_rfl
theorem at_br {w : World} {ok : Nat → Prop} {A : Option Addr} {c : Nat} {xs : List Int} (h : (Rp.int .u8).At w ok A c xs) : BR w (fun g => g < w.heap.size) A c xs := by
  refine ⟨h.1, h.2.1, fun x hx => ?_, fun hn => ?_⟩
  · obtain ⟨i, hi, rfl⟩ := List.getElem_of_mem hx
    obtain ⟨g, off, cs, _, _, hR, _⟩ := h.get hi
    have := hR.2
    simp [Lit.wf, IntKind.min, IntKind.max, IntKind.signed, IntKind.bits] at this
    omega
  · obtain ⟨g, off, cs, hA, hg, hR, hc⟩ := h.get (i := 0) (List.length_pos_iff.2 hn)
    refine ⟨g, off, hA, ⟨hg.2, hg.2⟩, fun i x hx => ?_⟩
    have hi := (List.getElem?_eq_some_iff.1 hx).1
    obtain ⟨g2, off2, cs2, hA2, _, hR2, hc2⟩ := h.get hi
    rw [hA] at hA2
    cases hA2
    have := hc2 0 (.int .u8 xs[i]) (by rw [hR2.1]; rfl)
    have hx' : xs[i] = x := (List.getElem?_eq_some_iff.1 hx).2
    rw [hx'] at this
    simpa [Rp.int, Rp.scalar] using this
end Go.Proofs.Ytoinkagmhcojlaa
