/- The walk of the law CrcPuts: it returns true for every slice of bytes; no condition. -/
import Derived.Test.YtackfepoomdpdaaAwake
import Derived.Test.YtackfepoomdpdaaTold
namespace Go.Proofs.Ytackfepoomdpdaa
open Go.RowKit

set_option maxHeartbeats 1000000 in
theorem puts_walk (A : Option Addr) (n c : Nat) (l : List UInt8) (w : World) (hr : Rd w A n c l) :
    Calls Try.prog 8 #[.slice A n c] w fun e w' => e = .returned (.bool true) ∧ Below w.heap.size w w' := by
  by_cases hn : 2000 < n
  · have hn' : (2000 : Int) < (n : Int) := by omega
    go_enter Try.func8, Try.ntmps8
    go_wp2_with (go_at_call 14; refine (awake_any _).mono ?_; rintro e w1 ⟨rfl, hb1⟩)
    go_ret
    exact ⟨rfl, hb1⟩
  · have hn' : (n : Int) ≤ 2000 := by omega
    have hll := hr.1
    have Hll := hide hll
    clear hll
    go_enter Try.func8, Try.ntmps8
    go_wp2_with fail
    refine (put_any _ _ _ _ _ hr (by omega)).mono ?_
    rintro e w1 ⟨A1, c1, rfl, ho1, hb1⟩
    go_wp2_with fail
    refine (put_any _ _ _ _ _ ho1.rd (by omega)).mono ?_
    rintro e w2 ⟨A2, c2, rfl, ho2, hb2⟩
    go_wp2_with fail
    refine (right_put _ _ _ (n + 4) _ _ ho2.rd (by rw [putL_len, Hll.out]) (by omega)).mono ?_
    rintro e w3 ⟨A3, c3, rfl, ho3, hb3⟩
    go_wp2_with fail
    refine (right_put _ _ _ n _ _ ho3.rd (by rw [Hll.out]) (by omega)).mono ?_
    rintro e w4 ⟨A4, c4, rfl, ho4, hb4⟩
    have hnc : (n : Int) ≤ (c : Int) := by have := hr.2.1; omega
    have hr4 : Rd w4 A n c l := (((hr.below hb1).below hb2).below hb3).below hb4
    have hbb : Below w.heap.size w w4 := ((hb1.trans (hb2.mono hb1.size)).trans (hb3.mono (Nat.le_trans hb1.size hb2.size))).trans (hb4.mono (Nat.le_trans (Nat.le_trans hb1.size hb2.size) hb3.size))
    have hcv4 := fun (w5 : World) (hb5 : Below w4.heap.size w4 w5) => conv22 (ho4.rd.below hb5)
    have hcvb := fun (w5 : World) (hb5 : Below w4.heap.size w4 w5) => conv22 (hr4.below hb5)
    by_cases h3 : 3 < n
    · have h3' : (3 : Int) < (n : Int) := by omega
      have h3c : (3 : Int) ≤ (c : Int) := by omega
      go_wp2_with fail
      refine (right_short _ _ _ _ (by omega)).mono ?_
      rintro e w5 ⟨rfl, hb5⟩
      have k1 := hcv4 w5 hb5
      have k2 := hcvb w5 hb5
      clear hcv4 hcvb
      go_wp2_with fail
      refine (awake_any _).mono ?_
      rintro e w6 ⟨rfl, hb6⟩
      go_wp2_with fail
      go_ret
      exact ⟨rfl, (hbb.trans (hb5.mono hbb.size)).trans (hb6.mono (Nat.le_trans hbb.size hb5.size))⟩
    · have h3' : (n : Int) ≤ 3 := by omega
      go_wp2_with fail
      refine (right_short _ _ _ _ (by omega)).mono ?_
      rintro e w5 ⟨rfl, hb5⟩
      have k1 := hcv4 w5 hb5
      have k2 := hcvb w5 hb5
      clear hcv4 hcvb
      go_wp2_with fail
      refine (awake_any _).mono ?_
      rintro e w6 ⟨rfl, hb6⟩
      go_wp2_with fail
      go_ret
      exact ⟨rfl, (hbb.trans (hb5.mono hbb.size)).trans (hb6.mono (Nat.le_trans hbb.size hb5.size))⟩
end Go.Proofs.Ytackfepoomdpdaa
