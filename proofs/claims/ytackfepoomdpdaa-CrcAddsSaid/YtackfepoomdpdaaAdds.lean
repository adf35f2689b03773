/- The walk of the law CrcAdds: it returns true for every slice of bytes and every cut; no condition. -/
import Derived.Test.YtackfepoomdpdaaAwake
namespace Go.Proofs.Ytackfepoomdpdaa
open Go.RowKit

theorem sub_self_rd {w : World} {A : Option Addr} {n c : Nat} {l : List UInt8} (h : Rd w A n (c - c) l) : Rd w A n 0 l := by rwa [Nat.sub_self] at h

set_option maxHeartbeats 2000000 in
theorem adds_walk (A : Option Addr) (n c : Nat) (l : List UInt8) (cut : Int) (w : World) (hr : Rd w A n c l) :
    Calls Try.prog 3 #[.slice A n c, .int .i64 cut] w fun e w' => e = .returned (.bool true) ∧ Below w.heap.size w w' := by
  by_cases hn : 2000 < n
  · have hn' : (2000 : Int) < (n : Int) := by omega
    go_enter Try.func3, Try.ntmps3
    go_wp2_with (go_at_call 14; refine (awake_any _).mono ?_; rintro e w1 ⟨rfl, hb1⟩)
    go_ret
    exact ⟨rfl, hb1⟩
  · have hn' : (n : Int) ≤ 2000 := by omega
    go_enter Try.func3, Try.ntmps3
    go_wp2_with fail
    obtain ⟨k, hk, ek⟩ := rem_nat cut (n + 1) (by omega) (by omega)
    have hk' : k ≤ n := by omega
    clear hk
    simp only [Int.natCast_add, Int.natCast_one] at ek
    simp only [ek]
    have Ek := hide ek
    clear ek
    have Hll := hide hr.1
    go_loop [6, 22] (fun x i => ∃ j : Nat, j ≤ n ∧ i = .int .i64 j ∧ x = .int .u32 (V (CrcP.add 0#32 (l.take j)))) (fun _ i => n - (intOf i).toNat)
    case atStart => exact ⟨0, Nat.zero_le _, rfl, by rw [List.take_zero, CrcP.add_nil, ← V_zero]⟩
    case round =>
      obtain ⟨j, hj, rfl, rfl⟩ := hrel
      by_cases hlt : j < n
      · have hc := hr.2.1
        have b0 : (0 : Int) ≤ (j : Int) := by omega
        have b1 : (j : Int) ≤ (j : Int) + 1 := by omega
        have b2 : (j : Int) + 1 ≤ (c : Int) := by omega
        go_wp2_with (go_at_call 15; refine (add_any _ _ _ _ _ _ (hr.mid (k := j) (m := 1) (by omega) (by omega))).mono ?_; rintro e w1 ⟨rfl, rfl⟩)
        go_round
        case rel => exact ⟨j + 1, by omega, by go_num, by rw [CrcP.add_append, ← List.take_add]⟩
        case measure => simp [intOf]; omega
      · obtain rfl : j = n := by omega
        have eT : List.take j l = l := by rw [← Hll.out, List.take_length]
        have eS : CrcP.add 0#32 l = CrcP.sum l := rfl
        have eK : CrcP.add (CrcP.sum (List.take k l)) (List.drop k l) = CrcP.sum l := by
          unfold CrcP.sum; rw [CrcP.add_append, List.take_append_drop]
        have eN : CrcP.add (CrcP.sum l) [] = CrcP.sum l := CrcP.add_nil _
        have eZ : V (CrcP.sum []) = 0 := by decide
        simp only [eT, eS]
        clear eT eS
        have b0 : (0 : Int) ≤ (k : Int) := by omega
        have b1 : (k : Int) ≤ (j : Int) := by omega
        have b2 : (k : Int) ≤ (c : Int) := by have := hr.2.1; omega
        by_cases hck : c = k
        · subst hck
          go_wp2_with fail
          go_region_held (fun w' => Rd w' A j c l) (first | exact hr | exact Rd.below (w := w.drew) hr hb1)
            ((first
              | (go_at_call 16; refine (sum_any _ _ _ _ _ (by first | assumption | exact Rd.hi (by assumption) (by omega) | exact Rd.nil _ _ (by decide))).mono ?_; rintro e w1 ⟨rfl, rfl⟩)
              | (go_at_call 15; refine (add_any _ _ _ _ _ _ (by first | exact sub_self_rd (Rd.lo_eq (by assumption) (by omega) rfl) | exact Rd.nil _ _ (by decide))).mono ?_; rintro e w1 ⟨rfl, rfl⟩)
              | (go_at_call 14; refine (awake_any _).mono ?_; rintro e w1 ⟨rfl, hb1⟩)))
          go_wp2_with fail
          go_ret
          exact ⟨rfl, undrew hb1⟩
        · go_wp2_with fail
          go_region_held (fun w' => Rd w' A j c l) (first | exact hr | exact Rd.below (w := w.drew) hr hb1)
            ((first
              | (go_at_call 16; refine (sum_any _ _ _ _ _ (by first | assumption | exact Rd.hi (by assumption) (by omega) | exact Rd.nil _ _ (by decide))).mono ?_; rintro e w1 ⟨rfl, rfl⟩)
              | (go_at_call 15; refine (add_any _ _ _ _ _ _ (by first | exact Rd.lo_ne (by assumption) (by omega) (by assumption) | exact Rd.nil _ _ (by decide))).mono ?_; rintro e w1 ⟨rfl, rfl⟩)
              | (go_at_call 14; refine (awake_any _).mono ?_; rintro e w1 ⟨rfl, hb1⟩)))
          go_wp2_with fail
          go_ret
          exact ⟨rfl, undrew hb1⟩
end Go.Proofs.Ytackfepoomdpdaa
