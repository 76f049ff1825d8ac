/- Small functions of compact and its reference: late, keeps. -/
import Derived.Test.YtoinkagmhcojlaaRefLast
import Derived.Test.YtoinkagmhcojlaaCompLast
namespace Go.Proofs.Ytoinkagmhcojlaa
open Go.RowKit
set_option linter.unusedVariables false
set_option linter.unusedSimpArgs false
abbrev recV (r : Rec) : Value := .agg #[.int .i64 r.delta, .int .i64 r.time, .bool r.keyed, .string r.key, .bool r.dead, .string r.value]
abbrev batV (b : Bat) (A : Option Addr) (c : Nat) : Value := .agg #[.int .i64 b.base, .int .i64 b.count, .int .i64 b.producer, .int .i64 b.epoch, .int .i64 b.seq, .slice A b.records.length c]

set_option maxHeartbeats 400000 in
theorem refLate_calls (d t : Int) (ky : Bool) (key : ByteArray) (dd : Bool) (v : ByteArray) (now grace : Int) (w : World) :
    Calls Try.prog 36 #[.agg #[.int .i64 d, .int .i64 t, .bool ky, .string key, .bool dd, .string v], .int .i64 now, .int .i64 grace] w fun e w' => e = .returned (.bool (lateF t dd now grace)) ∧ Below w.heap.size w w' := by
  go_enter Try.func36, Try.ntmps36
  go_wp2
  all_goals
    go_ret
    refine ⟨?_, (Below.refl _ _).alloc (Nat.le_refl _) _⟩
    simp_all [lateF]
    all_goals (intros; omega)

set_option maxHeartbeats 400000 in
theorem compLate_calls (d t : Int) (ky : Bool) (key : ByteArray) (dd : Bool) (v : ByteArray) (now grace : Int) (g : Nat) (w : World) :
    Calls Try.prog 56 #[.agg #[.map (some g), .int .i64 now, .int .i64 grace], (.agg #[.int .i64 d, .int .i64 t, .bool ky, .string key, .bool dd, .string v])] w fun e w' => e = .returned (.bool (lateF t dd now grace)) ∧ Below w.heap.size w w' := by
  go_enter Try.func56, Try.ntmps56
  go_wp2
  all_goals
    go_ret
    refine ⟨?_, ((Below.refl _ _).alloc (Nat.le_refl _) _).alloc (by simp) _⟩
    simp_all [lateF]
    all_goals (intros; omega)

theorem asPair_fst (o : Option Int) : (asPair o).1 = o.getD 0 := by cases o <;> rfl

set_option maxHeartbeats 400000 in
theorem keeps_calls (b : Bat) (A : Option Addr) (c : Nat) (r : Rec) (L : List (ByteArray × Int)) (now grace : Int) (g : Nat) (w : World) (hM : MapIs .string (.int .i64) w g L) :
    Calls Try.prog 35 #[.agg #[.map (some g), .int .i64 now, .int .i64 grace], batV b A c, recV r] w fun e w' => e = .returned (.bool (keepsB b r ((get L r.key).getD 0) now grace)) ∧ Below w.heap.size w w' := by
  have hl := fun o1 o2 o3 => (((hM.alloc o1).alloc o2).alloc o3).run_get (T := 26) (KeyOk.str Try.underlying9) Try.underlying26 (zero_int _) r.key
  simp only [valOr_int] at hl
  go_enter Try.func35, Try.ntmps35
  go_wp2_with (go_at_call 56; refine (compLate_calls _ _ _ _ _ _ _ _ _ _).mono ?_; rintro e w1 ⟨rfl, hb1⟩)
  all_goals
    go_ret
    refine ⟨?_, (by repeat (first | exact Below.refl _ _ | assumption | apply balloc | apply bdN | apply bdrew | refine bthen ?_ (by assumption)))⟩
    simp_all [keepsB, lateB, atOf]
end Go.Proofs.Ytoinkagmhcojlaa
