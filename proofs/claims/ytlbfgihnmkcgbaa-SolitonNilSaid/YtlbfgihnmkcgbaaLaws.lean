/- The walks of the laws SolitonNil and SolitonRoots: they return true for every input; no condition. -/
import Derived.Test.YtlbfgihnmkcgbaaAwake
import Derived.OpenShut
namespace Go.Proofs.Ytlbfgihnmkcgbaa
open Go.RowKit

set_option maxHeartbeats 1000000 in
theorem nil_walk (x : Int) (w : World) : Calls Try.prog 3 #[.int .u32 x] w fun e w' => e = .returned (.bool true) ∧ Below w.heap.size w w' := by
  go_enter Try.func3, Try.ntmps3
  go_wp2_with fail
  refine (weights_nil w).mono ?_
  rintro e w1 ⟨rfl, rfl⟩
  go_wp2_with fail
  refine (degree_nil x w).mono ?_
  rintro e w2 ⟨rfl, hb2⟩
  go_wp2_with fail
  refine (new_none 0 (by omega) w2).mono ?_
  rintro e w3 ⟨rfl, rfl⟩
  go_wp2_with fail
  refine (new_none 81 (by omega) w2).mono ?_
  rintro e w3 ⟨rfl, rfl⟩
  go_wp2_with fail
  refine (awake_any w2).mono ?_
  rintro e w3 ⟨rfl, hb3⟩
  go_wp2_with fail
  go_ret
  exact ⟨rfl, below_next hb2 hb3⟩

set_option maxHeartbeats 1000000 in
theorem roots_walk (n : Int) (hn : (Lit.int .i64 n).wf = true) (w : World) : Calls Try.prog 6 #[.int .i64 n] w fun e w' => e = .returned (.bool true) ∧ Below w.heap.size w w' := by
  have hb := bounds_i64 hn
  clear hn
  by_cases h0 : n < 1
  · go_enter Try.func6, Try.ntmps6
    go_wp2_with fail
    refine (root_low n h0 w).mono ?_
    rintro e w1 ⟨rfl, rfl⟩
    go_wp2_with fail
    refine (awake_any w).mono ?_
    rintro e w3 ⟨rfl, hb3⟩
    go_wp2_with fail
    go_ret
    exact ⟨rfl, hb3⟩
  · obtain ⟨k, rfl⟩ : ∃ k : Nat, n = (k : Int) := ⟨n.toNat, by omega⟩
    have hk : 1 ≤ k := by omega
    have hk' : (1 : Int) ≤ (k : Int) := by omega
    go_enter Try.func6, Try.ntmps6
    go_wp2_with fail
    refine (root_any k hk (by omega) w).mono ?_
    rintro e w1 ⟨r, rfl, ⟨hr1, hr2, hr3⟩, hr4, rfl⟩
    obtain ⟨q, hq⟩ : ∃ q : Nat, q = k / r := ⟨_, rfl⟩
    have hqq : (k : Int) / (r : Int) = (q : Int) := by rw [hq]; simp
    have hqr : r ≤ q := by rw [hq, Nat.le_div_iff_mul_le (by omega)]; exact hr2
    have hqk : q ≤ k := by rw [hq]; exact Nat.div_le_self _ _
    obtain ⟨p, hp⟩ : ∃ p : Nat, p = k / (r + 1) := ⟨_, rfl⟩
    have hpp : (k : Int) / ((r : Int) + 1) = (p : Int) := by rw [hp]; simp
    have hpr : p < r + 1 := by rw [hp, Nat.div_lt_iff_lt_mul (by omega)]; exact hr3
    have j1 : (1 : Int) ≤ (r : Int) := by omega
    have j2 : (r : Int) ≤ (q : Int) := by omega
    have j3 : (p : Int) < (r : Int) + 1 := by omega
    have j4 : (q : Int) ≤ 9223372036854775807 := by omega
    have j5 : (r : Int) ≤ 4294967295 := by omega
    clear hq hp hr2 hr3
    go_wp2_with fail
    refine (awake_any w).mono ?_
    rintro e w3 ⟨rfl, hb3⟩
    go_wp2_with fail
    go_ret
    exact ⟨rfl, hb3⟩
end Go.Proofs.Ytlbfgihnmkcgbaa
