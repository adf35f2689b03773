/- What soliton.New does. -/
import Derived.Test.YtlbfgihnmkcgbaaWeight
namespace Go.Proofs.Ytlbfgihnmkcgbaa
open Go.RowKit

theorem new_none (n : Int) (h : n < 1 ∨ 80 < n) (w : World) : Calls Try.prog 10 #[.int .i64 n] w fun e w' => e = .returned (.pointer none) ∧ w = w' := by
  by_cases h0 : n < 1
  · go_enter Try.func10, Try.ntmps10
    go_wp2_with fail
    go_ret
    exact ⟨rfl, rfl⟩
  · have h1 : 80 < n := by omega
    go_enter Try.func10, Try.ntmps10
    go_wp2_with fail
    go_ret
    exact ⟨rfl, rfl⟩
theorem new_some (n : Nat) (h0 : 1 ≤ n) (h1 : n ≤ 80) (w : World) : Calls Try.prog 10 #[.int .i64 n] w fun e w' => e = .returned (.pointer (some ⟨w.heap.size, 0, none⟩)) ∧ w' = w.alloc (.cells #[.int .i64 (n : Int), .int .u32 0, .int .i32 0, .int .u32 0, .slice none 0 0] 49) := by
  have h0' : (1 : Int) ≤ (n : Int) := by omega
  have h1' : (n : Int) ≤ 80 := by omega
  go_enter Try.func10, Try.ntmps10
  go_wp2_with fail
  go_ret
  exact ⟨rfl, rfl⟩
end Go.Proofs.Ytlbfgihnmkcgbaa
