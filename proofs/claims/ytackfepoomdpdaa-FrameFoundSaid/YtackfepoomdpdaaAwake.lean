/- What downpourlaw1.awake does: it returns true, in whatever world; and the remainder that a law takes of a number. -/
import Derived.Test.YtackfepoomdpdaaRight
namespace Go.Proofs.Ytackfepoomdpdaa
open Go.RowKit

def nine : List UInt8 := [49, 50, 51, 52, 53, 54, 55, 56, 57]
theorem nine_sum : (V (CrcP.sum nine) == 3421780262) = true := by decide +kernel

set_option maxHeartbeats 400000 in
theorem awake_any (w : World) : Calls Try.prog 14 #[] w fun e w' => e = .returned (.bool true) ∧ Below w.heap.size w w' := by
  have kc := fun (w : World) (C : Array Value) (n c : Nat) => Lib.run_convert_bytes_const (P := Try.prog) w 22 5 C n c Try.underlying22 Try.underlying5
  have h9 := nine_sum
  go_enter Try.func14, Try.ntmps14
  go_wp2_with (go_at_call 16; refine (sum_any _ _ _ nine _ (Rd.newFr _ _ _ _ rfl (by decide))).mono ?_; rintro e w' ⟨rfl, rfl⟩)
  go_ret
  exact ⟨rfl, (Below.refl _ _).alloc (Nat.le_refl _) _⟩

theorem rem_nat (x : Int) (m : Nat) (hm : 0 < m) (hs : m ≤ 1000000) : ∃ k : Nat, k < m ∧ wrap64 ((IntKind.u64.wrap x).tmod (m : Int)) = (k : Int) := by
  have h0 : 0 ≤ IntKind.u64.wrap x := wrap_u64_nonneg x
  rw [Int.tmod_eq_emod_of_nonneg h0]
  have h1 := Int.emod_nonneg (IntKind.u64.wrap x) (b := (m : Int)) (by omega)
  have h2 := Int.emod_lt_of_pos (IntKind.u64.wrap x) (b := (m : Int)) (by omega)
  refine ⟨(IntKind.u64.wrap x % (m : Int)).toNat, by omega, ?_⟩
  unfold wrap64
  omega
end Go.Proofs.Ytackfepoomdpdaa
