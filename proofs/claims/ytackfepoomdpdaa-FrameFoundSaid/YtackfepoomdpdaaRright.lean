/- What the reference's Right does, for slices of at most 1,000,000 bytes: just what the program's does. -/
import Derived.Test.YtackfepoomdpdaaRef
namespace Go.Proofs.Ytackfepoomdpdaa
open Go.RowKit

set_option maxHeartbeats 400000 in
theorem rright_short (A : Option Addr) (n c : Nat) (w : World) (hn : n < 4) :
    Calls Try.prog 18 #[.slice A n c] w fun e w' => e = .returned (.tuple #[.slice none 0 0, .bool false]) ∧ Below w.heap.size w w' := by
  have h4 : (n : Int) < 4 := by omega
  have hd : decide ((n : Int) - 4 < 0) = true := by simp; omega
  go_enter Try.func18, Try.ntmps18
  go_wp2_with fail
  go_quiet (fail)
  go_wp2_with fail
  go_ret2
  exact ⟨rfl, below_drewN (Below.refl _ _) _⟩

theorem rt_split (l : List UInt8) (m : Nat) (h : l.length = m + 4) : Rt l ↔ four (CrcP.sum (l.take m)) = l.drop m := by
  have := rt_iff (l.take m) (l.drop m) (by simp [h])
  rwa [List.take_append_drop] at this

set_option maxHeartbeats 400000 in
theorem rright_not (A : Option Addr) (m c : Nat) (l : List UInt8) (w : World) (hr : Rd w A (m + 4) c l) (hn2 : m ≤ 900000) (he : ¬ Rt l) :
    Calls Try.prog 18 #[.slice A (m + 4) c] w fun e w' => e = .returned (.tuple #[.slice none 0 0, .bool false]) ∧ Below w.heap.size w w' := by
  have hmc : m + 4 ≤ c := hr.2.1
  have h5 : (m : Int) ≤ (c : Int) := by omega
  have h6 : (0 : Int) ≤ (m : Int) := by omega
  have h7 : (m : Int) ≤ (m : Int) + 4 := by omega
  have hcm : ¬ c = m := by omega
  rw [rt_split l m hr.1] at he
  have hs := str_other he
  go_enter Try.func18, Try.ntmps18
  go_wp2_with fail
  have Hc : ∀ w', Rd w' A (m + 4) c l → (convert 22 9 (.slice (A.map fun x => x.add m) 4 (c - m))).run Try.prog w' = .ok (.string (str (l.drop m))) w' :=
    fun w' h => conv22 (by have h8 := h.lo_ne (k := m) (by omega) hcm; rwa [Nat.add_sub_cancel_left] at h8)
  go_region_held (fun w' => Rd w' A (m + 4) c l) (first | exact hr | exact Rd.below (w := w.drew) hr hb1)
    ((first
      | (go_at_call 19; refine (rcrc_any _ _ _ _ _ (Rd.hi (w := w.drew) hr (by omega)) (by omega)).mono ?_; rintro e w1 ⟨rfl, rfl⟩)
      | (go_at_call 30; refine (four_any _ _).mono ?_; rintro e w1 ⟨A1, c1, rfl, ho1, hb1⟩; have hcv := conv22 ho1.rd)))
  go_wp2_with fail
  go_ret2
  exact ⟨rfl, undrew hb1⟩

set_option maxHeartbeats 400000 in
theorem rright_is (A : Option Addr) (m c : Nat) (l : List UInt8) (w : World) (hr : Rd w A (m + 4) c l) (hn2 : m ≤ 900000) (he : Rt l) :
    Calls Try.prog 18 #[.slice A (m + 4) c] w fun e w' => ∃ A' c', e = .returned (.tuple #[.slice A' m c', .bool true]) ∧ Own w' w.heap.size 5 A' m c' (l.take m) ∧ Below w.heap.size w w' := by
  have hmc : m + 4 ≤ c := hr.2.1
  have h5 : (m : Int) ≤ (c : Int) := by omega
  have h6 : (0 : Int) ≤ (m : Int) := by omega
  have h7 : (m : Int) ≤ (m : Int) + 4 := by omega
  have hcm : ¬ c = m := by omega
  rw [rt_split l m hr.1] at he
  have hs := str_same he
  have He := hide he
  clear he
  go_enter Try.func18, Try.ntmps18
  go_wp2_with fail
  have Hc : ∀ w', Rd w' A (m + 4) c l → (convert 22 9 (.slice (A.map fun x => x.add m) 4 (c - m))).run Try.prog w' = .ok (.string (str (l.drop m))) w' :=
    fun w' h => conv22 (by have h8 := h.lo_ne (k := m) (by omega) hcm; rwa [Nat.add_sub_cancel_left] at h8)
  go_region_held (fun w' => Rd w' A (m + 4) c l) (first | exact hr | exact Rd.below (w := w.drew) hr hb1)
    ((first
      | (go_at_call 19; refine (rcrc_any _ _ _ _ _ (Rd.hi (w := w.drew) hr (by omega)) (by omega)).mono ?_; rintro e w1 ⟨rfl, rfl⟩)
      | (go_at_call 30; refine (four_any _ _).mono ?_; rintro e w1 ⟨A1, c1, rfl, ho1, hb1⟩; have hcv := conv22 ho1.rd)))
  have hb1' : Below w.heap.size w w1 := undrew hb1
  go_wp2_with (at_builtin
               refine wpList_append8 _ rfl _ _ _ rfl w.heap.size 5 Try.underlying22 isByte none 0 0 [] rfl (Own.nil _ _ _) A m c _ rfl (Rd.hi (Rd.below (w := w) hr hb1') (by omega)) (by omega) hb1'.size ?_
               intro A3 c3 w3 ho3 hb3 _ _)
  go_ret2
  exact ⟨A3, c3, by simp, by simpa using ho3, hb1'.trans hb3⟩
end Go.Proofs.Ytackfepoomdpdaa
