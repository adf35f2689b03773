/- What soliton.Root does, for every number. -/
import Derived.Test.YtlbfgihnmkcgbaaSol
import Derived.Test.YtlbfgihnmkcgbaaProg
import Derived.WalkKit
import Derived.WalkSpells
import Derived.WalkLawsBesides
import Derived.Lib.Hide
namespace Go.Proofs.Ytlbfgihnmkcgbaa
open Go.RowKit

theorem hide {p : Prop} (h : p) : Hid p := h

theorem root_low (n : Int) (hn : n < 1) (w : World) : Calls Try.prog 12 #[.int .i64 n] w fun e w' => e = .returned (.int .i64 0) ∧ w = w' := by
  go_enter Try.func12, Try.ntmps12
  go_wp2_with fail
  go_ret
  exact ⟨rfl, rfl⟩

set_option maxHeartbeats 1000000 in
theorem root_any (n : Nat) (hn : 1 ≤ n) (h63 : n ≤ 9223372036854775807) (w : World) : Calls Try.prog 12 #[.int .i64 n] w fun e w' => ∃ r : Nat, e = .returned (.int .i64 r) ∧ IsRoot n r ∧ r ≤ 4294967295 ∧ w = w' := by
  obtain ⟨h, hh⟩ : ∃ h : Nat, (if (4294967295 : Int) < (n : Int) then (4294967295 : Int) else (n : Int)) = (h : Int) := by
    split
    · exact ⟨4294967295, rfl⟩
    · exact ⟨n, rfl⟩
  have hb : Hid (1 ≤ h ∧ h ≤ 4294967295 ∧ n < (h + 1) * (h + 1) ∧ h ≤ n) := hide (by
    split at hh
    · have e : h = 4294967295 := by omega
      subst e
      omega
    · have e : h = n := by omega
      subst e
      refine ⟨hn, by omega, ?_, Nat.le_refl _⟩
      have := Nat.mul_le_mul (show 1 ≤ h + 1 by omega) (Nat.le_refl (h + 1))
      omega)
  have hn' : (1 : Int) ≤ (n : Int) := by omega
  go_enter Try.func12, Try.ntmps12
  go_wp2_with fail
  have hb0 := hb.out
  go_loopw [3, 4] (fun lv hv wr => ∃ lo hi : Nat, lv = .int .i64 (lo : Int) ∧ hv = .int .i64 (hi : Int) ∧ Hid (1 ≤ lo ∧ lo ≤ hi ∧ hi ≤ 4294967295 ∧ lo * lo ≤ n ∧ n < (hi + 1) * (hi + 1)) ∧ w = wr) (fun lv hv _ => (intOf hv).toNat - (intOf lv).toNat)
  case atStart => exact ⟨1, h, rfl, rfl, hide ⟨by omega, hb0.1, hb0.2.1, by omega, hb0.2.2.1⟩, rfl⟩
  case round =>
    obtain ⟨lo, hi, rfl, rfl, I, rfl⟩ := hrel
    clear hb0
    by_cases hlt : lo < hi
    · have hlt' : (lo : Int) < (hi : Int) := by omega
      have hhi : (hi : Int) ≤ 4294967295 := by have := I.out; omega
      obtain ⟨m, hm⟩ : ∃ m : Nat, m = hi - (hi - lo) / 2 := ⟨_, rfl⟩
      have hml : lo < m := by omega
      have hmh : m ≤ hi := by omega
      have hmm : (hi : Int) - ((hi : Int) - (lo : Int)) / 2 = (m : Int) := by omega
      have hm1 : 1 < m := by have := I.out; omega
      obtain ⟨q, hq⟩ : ∃ q : Nat, q = n / m := ⟨_, rfl⟩
      have hqq : (n : Int) / (m : Int) = (q : Int) := by rw [hq]; simp
      have hqi : m ≤ q ↔ m * m ≤ n := by rw [hq, Nat.le_div_iff_mul_le (by omega)]
      have hqn : (q : Int) ≤ 9223372036854775807 := by have := Nat.div_le_self n m; omega
      have Hqi := hide hqi
      have Hm := hide hm
      clear hm hq hqi
      by_cases hc : m ≤ q
      · have hc' : (m : Int) ≤ (q : Int) := by omega
        go_wp2_with fail
        go_roundw
        case rel => exact ⟨m, hi, rfl, rfl, hide ⟨by omega, hmh, by omega, Hqi.out.1 hc, I.out.2.2.2.2⟩, trivial⟩
        case measure => simp [intOf]; omega
      · have hc' : (q : Int) < (m : Int) := by omega
        have hmm1 : (m : Int) - 1 = ((m - 1 : Nat) : Int) := by omega
        go_wp2_with fail
        go_roundw
        case rel => exact ⟨lo, m - 1, rfl, rfl, hide ⟨I.out.1, by omega, by omega, I.out.2.2.2.1, by rw [show m - 1 + 1 = m by omega]; exact Nat.lt_of_not_le fun h => hc (Hqi.out.2 h)⟩, trivial⟩
        case measure => simp [intOf]; omega
    · have e : lo = hi := by have := I.out; omega
      subst e
      have J := I.out
      go_wp2_with fail
      go_ret
      exact ⟨lo, rfl, ⟨J.1, J.2.2.2.1, J.2.2.2.2⟩, J.2.2.1, rfl⟩
end Go.Proofs.Ytlbfgihnmkcgbaa
