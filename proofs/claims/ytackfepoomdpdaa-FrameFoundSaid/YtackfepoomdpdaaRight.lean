/- What crc.Right does, for every slice of at most 1,000,000 bytes. -/
import Derived.Test.YtackfepoomdpdaaAdd
namespace Go.Proofs.Ytackfepoomdpdaa
open Go.RowKit

theorem conv22 {w : World} {A : Option Addr} {n c : Nat} {l : List UInt8} (h : Rd w A n c l) : (convert 22 9 (.slice A n c)).run Try.prog w = .ok (.string (str l)) w :=
  h.conv 22 9 5 Try.underlying22 Try.underlying5 Try.underlying9

set_option maxHeartbeats 400000 in
theorem right_short (A : Option Addr) (n c : Nat) (w : World) (hn : n < 4) :
    Calls Try.prog 17 #[.slice A n c] w fun e w' => e = .returned (.tuple #[.slice none 0 0, .bool false]) ∧ Below w.heap.size w w' := by
  have h4 : (n : Int) < 4 := by omega
  have hd : decide ((n : Int) - 4 < 0) = true := by simp; omega
  go_enter Try.func17, Try.ntmps17
  go_wp2_with fail
  go_quiet (fail)
  go_wp2_with fail
  go_ret2
  exact ⟨rfl, below_drewN (Below.refl _ _) _⟩

set_option maxHeartbeats 400000 in
theorem right_no (A : Option Addr) (n c : Nat) (l : List UInt8) (w : World) (hr : Rd w A n c l) (hn : 4 ≤ n) (hn2 : n ≤ 1000000) (he : putL (l.take (n - 4)) ≠ l) :
    Calls Try.prog 17 #[.slice A n c] w fun e w' => e = .returned (.tuple #[.slice none 0 0, .bool false]) ∧ Below w.heap.size w w' := by
  have h4 : (0 : Int) ≤ (n : Int) - 4 := by omega
  have h5 : (n : Int) - 4 ≤ (c : Int) := by have := hr.2.1; omega
  have hd : decide ((n : Int) - 4 < 0) = false := by simp; omega
  have hs := str_other he
  go_enter Try.func17, Try.ntmps17
  go_wp2_with fail
  have Hc : ∀ w', Rd w' A n c l → (convert 22 9 (.slice A n c)).run Try.prog w' = .ok (.string (str l)) w' := fun w' h => conv22 h
  go_region_held (fun w' => Rd w' A n c l) (first | exact hr | exact Rd.below (w := w.drew) hr hb1)
    ((go_at_call 20; refine (put_any _ _ _ _ _ (Rd.hi (w := w.drew) hr (by omega)) (by omega)).mono ?_; rintro e w1 ⟨A1, c1, rfl, ho1, hb1⟩; have hcv : (convert 22 9 (.slice A1 n c1)).run Try.prog w1 = _ := conv22 (n := n) (by have hq := ho1.rd; rwa [Nat.sub_add_cancel hn] at hq)))
  go_wp2_with fail
  go_ret2
  exact ⟨rfl, undrew hb1⟩

set_option maxHeartbeats 400000 in
theorem right_yes (A : Option Addr) (n c : Nat) (l : List UInt8) (w : World) (hr : Rd w A n c l) (hn : 4 ≤ n) (hn2 : n ≤ 1000000) (he : putL (l.take (n - 4)) = l) :
    Calls Try.prog 17 #[.slice A n c] w fun e w' => ∃ A' c', e = .returned (.tuple #[.slice A' (n - 4) c', .bool true]) ∧ Own w' w.heap.size 5 A' (n - 4) c' (l.take (n - 4)) ∧ Below w.heap.size w w' := by
  have h4 : (0 : Int) ≤ (n : Int) - 4 := by omega
  have h5 : (n : Int) - 4 ≤ (c : Int) := by have := hr.2.1; omega
  have hd : decide ((n : Int) - 4 < 0) = false := by simp; omega
  have hs := str_same he
  have He := hide he
  clear he
  go_enter Try.func17, Try.ntmps17
  go_wp2_with fail
  have Hc : ∀ w', Rd w' A n c l → (convert 22 9 (.slice A n c)).run Try.prog w' = .ok (.string (str l)) w' := fun w' h => conv22 h
  go_region_held (fun w' => Rd w' A n c l) (first | exact hr | exact Rd.below (w := w.drew) hr hb1)
    ((go_at_call 20; refine (put_any _ _ _ _ _ (Rd.hi (w := w.drew) hr (by omega)) (by omega)).mono ?_; rintro e w1 ⟨A1, c1, rfl, ho1, hb1⟩; have hcv : (convert 22 9 (.slice A1 n c1)).run Try.prog w1 = _ := conv22 (n := n) (by have hq := ho1.rd; rwa [Nat.sub_add_cancel hn] at hq)))
  have hb1' : Below w.heap.size w w1 := undrew hb1
  go_wp2_with (at_builtin
               refine wpList_append8 _ rfl _ _ _ rfl w.heap.size 5 Try.underlying22 isByte none 0 0 [] rfl (Own.nil _ _ _) A (n - 4) c _ rfl (Rd.hi (Rd.below (w := w) hr hb1') (by omega)) (by omega) hb1'.size ?_
               intro A3 c3 w3 ho3 hb3 _ _)
  go_ret2
  exact ⟨A3, c3, by simp, by simpa using ho3, hb1'.trans hb3⟩
end Go.Proofs.Ytackfepoomdpdaa
