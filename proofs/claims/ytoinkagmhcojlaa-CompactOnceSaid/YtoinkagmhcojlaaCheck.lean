/- record.Check, record.Put, batch.Check, batch.Next: what CompactOnce needs of them. -/
import Derived.Test.YtoinkagmhcojlaaBytes
import Derived.Test.YtoinkagmhcojlaaLight
import Derived.Laws.AppendOwnNone
namespace Go.Proofs.Ytoinkagmhcojlaa
open Go.RowKit
set_option linter.unusedVariables false
set_option linter.unusedSimpArgs false

/-- It tells a whole number, of which this is so. -/
def Says (Q : Int → Prop) (w : World) (e : Ending) (w' : World) : Prop := ∃ c : Int, e = .returned (.int .i64 c) ∧ Q c ∧ Below w.heap.size w w'

set_option maxHeartbeats 1000000 in
theorem recCheck_calls (d t : Int) (ky : Bool) (key : ByteArray) (dd : Bool) (v : ByteArray) (hk : key.size ≤ 1000) (hv : v.size ≤ 1000) (w : World) : Calls Try.prog 53 #[.agg #[.int .i64 d, .int .i64 t, .bool ky, .string key, .bool dd, .string v]] w (Says (fun _ => True) w) := by
  go_enter Try.func53, Try.ntmps53
  go_wp2
  all_goals
    go_ret
    exact ⟨_, rfl, trivial, (by repeat (first | exact Below.refl _ _ | assumption | apply balloc | apply bdN | apply bdrew | refine bthen ?_ (by assumption)))⟩

theorem within_calls (n m : Int) (w : World) : Calls Try.prog 63 #[.int .i64 n, .int .i64 m] w fun e w' => e = .returned (.bool (decide (0 ≤ n) && decide (n ≤ m))) ∧ Below w.heap.size w w' := by
  go_enter Try.func63, Try.ntmps63
  go_wp2
  all_goals
    go_ret
    refine ⟨?_, (by repeat (first | exact Below.refl _ _ | assumption | apply balloc | apply bdN | apply bdrew | refine bthen ?_ (by assumption)))⟩
    simp_all
    all_goals omega

set_option maxHeartbeats 2000000 in
theorem numbers_calls (b0 b1 b2 b3 b4 : Int) (A : Option Addr) (n c : Nat) (hn : n ≤ 40) (w : World) :
    Calls Try.prog 52 #[.agg #[.int .i64 b0, .int .i64 b1, .int .i64 b2, .int .i64 b3, .int .i64 b4, .slice A n c]] w (Says (fun c => c = 0 → 1 ≤ b1 ∧ b1 ≤ 32) w) := by
  go_enter Try.func52, Try.ntmps52
  have f0 : (w.alloc (.cells #[.int .i64 b0, .int .i64 b1, .int .i64 b2, .int .i64 b3, .int .i64 b4, .slice A n c] 30)).cell? ⟨w.heap.size, 0, none⟩ = some (.int .i64 b0) := World.cell?_alloc_new _ _ _ _
  have f1 : (w.alloc (.cells #[.int .i64 b0, .int .i64 b1, .int .i64 b2, .int .i64 b3, .int .i64 b4, .slice A n c] 30)).cell? ⟨w.heap.size, 1, none⟩ = some (.int .i64 b1) := World.cell?_alloc_new _ _ _ _
  have f2 : (w.alloc (.cells #[.int .i64 b0, .int .i64 b1, .int .i64 b2, .int .i64 b3, .int .i64 b4, .slice A n c] 30)).cell? ⟨w.heap.size, 2, none⟩ = some (.int .i64 b2) := World.cell?_alloc_new _ _ _ _
  have f3 : (w.alloc (.cells #[.int .i64 b0, .int .i64 b1, .int .i64 b2, .int .i64 b3, .int .i64 b4, .slice A n c] 30)).cell? ⟨w.heap.size, 3, none⟩ = some (.int .i64 b3) := World.cell?_alloc_new _ _ _ _
  have f4 : (w.alloc (.cells #[.int .i64 b0, .int .i64 b1, .int .i64 b2, .int .i64 b3, .int .i64 b4, .slice A n c] 30)).cell? ⟨w.heap.size, 4, none⟩ = some (.int .i64 b4) := World.cell?_alloc_new _ _ _ _
  have f5 : (w.alloc (.cells #[.int .i64 b0, .int .i64 b1, .int .i64 b2, .int .i64 b3, .int .i64 b4, .slice A n c] 30)).cell? ⟨w.heap.size, 5, none⟩ = some (.slice A n c) := World.cell?_alloc_new _ _ _ _
  have fb : Below w.heap.size w (w.alloc (.cells #[.int .i64 b0, .int .i64 b1, .int .i64 b2, .int .i64 b3, .int .i64 b4, .slice A n c] 30)) := balloc (Below.refl _ _)
  go_wp2_with (first | (go_at_call 63; refine (within_calls _ _ _).mono ?_; rintro e wz ⟨rfl, hbz⟩; replace f0 := ck hbz f0; replace f1 := ck hbz f1; replace f2 := ck hbz f2; replace f3 := ck hbz f3; replace f4 := ck hbz f4; replace f5 := ck hbz f5; replace fb := bthen fb hbz; have fl := cell_lt f0; clear hbz))
  all_goals
    go_ret
    refine ⟨_, rfl, ?_, fb⟩
    first
      | exact fun h => absurd h (by decide)
      | (intro _; refine ⟨?_, ?_⟩ <;> omega)
end Go.Proofs.Ytoinkagmhcojlaa
