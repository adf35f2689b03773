/- What the table's Weights does: a new row of the plain weights. -/
import Derived.Test.YtlbfgihnmkcgbaaVal
namespace Go.Proofs.Ytlbfgihnmkcgbaa
open Go.RowKit

def wtf (n i : Nat) : Nat := wt n (i + 1)

theorem weights_nil (w : World) : Calls Try.prog 8 #[.pointer none] w fun e w' => e = .returned (.slice none 0 0) ∧ w = w' := by
  go_enter Try.func8, Try.ntmps8
  go_wp2_with fail
  go_ret
  exact ⟨rfl, rfl⟩

set_option maxHeartbeats 1000000 in
theorem weights_any (g n : Nat) (dn st : Int) (v : Value) (h0 : 1 ≤ n) (h1 : n ≤ 80) (w : World) (ht : Tab w g n dn st v) :
    Calls Try.prog 8 #[.pointer (some ⟨g, 0, none⟩)] w fun e w' => ∃ A c, e = .returned (.slice A n c) ∧ OwnF .u32 22 w' w.heap.size A n c (wtf n) ∧ Below w.heap.size w w' := by
  have hc0 := ht.cells.1
  go_enter Try.func8, Try.ntmps8
  go_wp2_with fail
  go_loopw [3, 4] (fun v3 v4 wr => ∃ k A c, k ≤ n ∧ v4 = .int .i64 ((k : Int) + 1) ∧ v3 = .slice A k c ∧ OwnF .u32 22 wr w.heap.size A k c (wtf n) ∧ Below w.heap.size w wr) (fun _ v4 _ => n + 1 - (intOf v4).toNat)
  case atStart => exact ⟨0, none, 0, Nat.zero_le _, rfl, rfl, OwnF.nil _ _ _ _ _, Below.refl _ _⟩
  case round =>
    obtain ⟨k, A, c, hk, rfl, rfl, ho, hb⟩ := hrel
    have htr := ht.below hb
    have hc := htr.cells.1
    clear hc0
    by_cases hlt : k < n
    · have hlt' : (k : Int) + 1 ≤ (n : Int) := by omega
      have hn80 : (n : Int) ≤ 80 := by omega
      obtain ⟨W, hW⟩ : ∃ W, wtf n k = W := ⟨_, rfl⟩
      have hwt := (wt_pos h0 h1 (d := k + 1) (by omega) hlt).2
      have hwv := weight_any g n (k + 1) h0 h1 (by omega) hlt wr hc
      rw [show wt n (k + 1) = W from hW] at hwt hwv
      rw [show ((k + 1 : Nat) : Int) = (k : Int) + 1 by omega] at hwv
      have HW := hide hW
      clear hW
      go_wp2_with (first
        | (go_at_call 13; refine hwv.mono ?_; rintro e w1 ⟨rfl, rfl⟩)
        | (at_builtin
           refine wpList_appendF _ rfl _ _ _ rfl w.heap.size .u32 22 4 Try.underlying24 isU32 (by omega) A k c (wtf n) rfl (ho.below ((Below.refl _ _).alloc (Nat.le_refl _) _)) ⟨wr.heap.size, 0, none⟩ 1 W HW.out rfl (by simp [World.cell?_alloc_new]) (by omega) (by have := hb.size; simp; omega) ?_
           intro A3 c3 w3 ho3 hb3 _))
      go_roundw
      case rel => exact ⟨k + 1, A3, c3, by omega, by go_num, rfl, ho3, (hb.alloc hb.size _).trans hb3⟩
      case measure => simp [intOf]; omega
    · obtain rfl : k = n := by omega
      have hlt' : (k : Int) < (k : Int) + 1 := by omega
      go_wp2_with fail
      go_ret
      exact ⟨A, c, rfl, ho, hb⟩
end Go.Proofs.Ytlbfgihnmkcgbaa
