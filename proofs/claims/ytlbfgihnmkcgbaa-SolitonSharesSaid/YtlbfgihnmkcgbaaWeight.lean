/- What the table's weight does: the plain weight. -/
import Derived.Test.YtlbfgihnmkcgbaaRoot
namespace Go.Proofs.Ytlbfgihnmkcgbaa
open Go.RowKit

theorem rt_le {n : Nat} (h0 : 1 ≤ n) (h1 : n ≤ 80) : 1 ≤ rt n ∧ rt n ≤ 9 := by
  have := rt_is n (by omega) h0
  refine ⟨this.1, ?_⟩
  rcases Nat.lt_or_ge 9 (rt n) with h | h
  · have := Nat.mul_le_mul (show 10 ≤ rt n from h) (show 10 ≤ rt n from h)
    have := (rt_is n (by omega) h0).2.1
    omega
  · exact h
theorem root_small (n : Nat) (h0 : 1 ≤ n) (h1 : n ≤ 80) (w : World) : Calls Try.prog 12 #[.int .i64 n] w fun e w' => e = .returned (.int .i64 (rt n : Nat)) ∧ w = w' :=
  (root_any n h0 (by omega) w).mono fun _ _ ⟨r, h1', h2, _, h4⟩ => ⟨by rw [h1', h2.same (rt_is n (by omega) h0)], h4⟩
theorem natdiv (a b q : Nat) (h : a / b = q) : (a : Int) / (b : Int) = (q : Int) := by rw [← h]; simp

set_option maxHeartbeats 1000000 in
theorem weight_any (g n d : Nat) (h0 : 1 ≤ n) (h1 : n ≤ 80) (hd0 : 1 ≤ d) (hd : d ≤ n) (w : World) (hc : w.cell? ⟨g, 0, none⟩ = some (.int .i64 (n : Int))) :
    Calls Try.prog 13 #[.pointer (some ⟨g, 0, none⟩), .int .i64 d] w fun e w' => e = .returned (.int .u32 (wt n d : Nat)) ∧ w = w' := by
  have hr := rt_le h0 h1
  have hwt := wt_pos h0 h1 hd0 hd
  have hroot := root_small n h0 h1
  have E : Hid (wt n d = plainW n d + (if d < n / rt n then 262144 * rt n / (d * n) else if d = n / rt n then 524288 * rt n / n else 0)) := hide rfl
  obtain ⟨W, hW⟩ : ∃ W, wt n d = W := ⟨_, rfl⟩
  rw [hW] at E hwt
  rw [hW]
  clear hW
  generalize rt n = r at *
  obtain ⟨top, ht⟩ : ∃ top, n / r = top := ⟨_, rfl⟩
  have i1 := natdiv _ _ _ ht
  rw [ht] at E
  have htn : top ≤ n := by rw [← ht]; exact Nat.div_le_self _ _
  clear ht
  obtain ⟨pn, hpn⟩ : ∃ pn, 1048576 / n = pn := ⟨_, rfl⟩
  have i2 : (1048576 : Int) / (n : Int) = (pn : Int) := natdiv 1048576 n pn hpn
  have hpn2 : pn ≤ 1048576 := by rw [← hpn]; exact Nat.div_le_self _ _
  obtain ⟨dd, hdd⟩ : ∃ dd, d * (d - 1) = dd := ⟨_, rfl⟩
  have i3 : (d : Int) * ((d : Int) - 1) = (dd : Int) := by
    rw [← hdd, Int.natCast_mul, show (((d - 1 : Nat)) : Int) = (d : Int) - 1 by omega]
  have hdd2 : dd ≤ 6400 := by rw [← hdd]; exact Nat.mul_le_mul (show d ≤ 80 by omega) (show d - 1 ≤ 80 by omega)
  have hdd3 : 1 < d → 1 ≤ dd := fun h => by rw [← hdd]; exact Nat.mul_pos (by omega) (by omega)
  obtain ⟨pd, hpd⟩ : ∃ pd, 1048576 / dd = pd := ⟨_, rfl⟩
  have i4 : (1048576 : Int) / (dd : Int) = (pd : Int) := natdiv 1048576 dd pd hpd
  have hpd2 : pd ≤ 1048576 := by rw [← hpd]; exact Nat.div_le_self _ _
  have P : Hid (plainW n d = if 1 < d then pd else pn) := hide (by unfold plainW; rw [hdd, hpd, hpn])
  clear hpn hpd hdd
  obtain ⟨sr, hsr⟩ : ∃ sr, 262144 * r = sr := ⟨_, rfl⟩
  have i5 : (262144 : Int) * (r : Int) = (sr : Int) := by omega
  obtain ⟨dn, hdn⟩ : ∃ dn, d * n = dn := ⟨_, rfl⟩
  have i6 : (d : Int) * (n : Int) = (dn : Int) := by rw [← hdn]; simp
  have hdn2 : dn ≤ 6400 := by rw [← hdn]; exact Nat.mul_le_mul (show d ≤ 80 by omega) h1
  have hdn3 : 1 ≤ dn := by rw [← hdn]; exact Nat.mul_pos hd0 h0
  obtain ⟨e1, he1⟩ : ∃ e1, sr / dn = e1 := ⟨_, rfl⟩
  have i7 := natdiv _ _ _ he1
  have he12 : e1 ≤ sr := by rw [← he1]; exact Nat.div_le_self _ _
  obtain ⟨kr, hkr⟩ : ∃ kr, 524288 * r = kr := ⟨_, rfl⟩
  have i8 : (524288 : Int) * (r : Int) = (kr : Int) := by omega
  obtain ⟨e2, he2⟩ : ∃ e2, kr / n = e2 := ⟨_, rfl⟩
  have i9 := natdiv _ _ _ he2
  have he22 : e2 ≤ kr := by rw [← he2]; exact Nat.div_le_self _ _
  rw [hsr, hdn, he1, hkr, he2] at E
  have hsr2 : sr ≤ 2359296 := by omega
  have hkr2 : kr ≤ 4718592 := by omega
  clear hsr hdn he1 hkr he2
  have j1 : (1 : Int) ≤ (n : Int) := by omega
  have j2 : (n : Int) ≤ 80 := by omega
  have j3 : (1 : Int) ≤ (r : Int) := by omega
  have j5 : (r : Int) ≤ 9 := by omega
  have j4 : (1 : Int) ≤ (dn : Int) := by omega
  have j6 : (1 : Int) ≤ (d : Int) := by omega
  have j7 : (d : Int) ≤ 80 := by omega
  by_cases h1d : 1 < d
  · have hP : Hid (plainW n d = pd) := hide (by rw [P.out, if_pos h1d])
    have j8 : (1 : Int) < (d : Int) := by omega
    have j9 : (1 : Int) ≤ (dd : Int) := by have := hdd3 h1d; omega
    rcases Nat.lt_trichotomy d top with hlt | heq | hgt
    · have k1 : (d : Int) < (top : Int) := by omega
      have F : W = pd + e1 := by rw [E.out, hP.out, if_pos hlt]
      have F2 : (pd : Int) + (e1 : Int) = (W : Int) := by omega
      clear F
      go_enter Try.func13, Try.ntmps13
      go_wp2_with (go_at_call 12; refine (hroot _).mono ?_; rintro e w1 ⟨rfl, rfl⟩)
      go_ret
      exact ⟨rfl, rfl⟩
    · have k1 : (d : Int) = (top : Int) := by omega
      have F : W = pd + e2 := by rw [E.out, hP.out, if_neg (by omega), if_pos heq]
      have F2 : (pd : Int) + (e2 : Int) = (W : Int) := by omega
      clear F
      subst heq
      clear k1
      go_enter Try.func13, Try.ntmps13
      go_wp2_with (go_at_call 12; refine (hroot _).mono ?_; rintro e w1 ⟨rfl, rfl⟩)
      go_ret
      exact ⟨rfl, rfl⟩
    · have k1 : (top : Int) < (d : Int) := by omega
      have k2 : ¬ (d : Int) < (top : Int) := by omega
      have k3 : ¬ (d : Int) = (top : Int) := by omega
      have F : W = pd := by rw [E.out, hP.out, if_neg (by omega), if_neg (by omega)]; rfl
      have F2 : (pd : Int) = (W : Int) := by omega
      clear F
      go_enter Try.func13, Try.ntmps13
      go_wp2_with (go_at_call 12; refine (hroot _).mono ?_; rintro e w1 ⟨rfl, rfl⟩)
      go_ret
      exact ⟨rfl, rfl⟩
  · have hP : Hid (plainW n d = pn) := hide (by rw [P.out, if_neg h1d])
    have j8 : ¬ (1 : Int) < (d : Int) := by omega
    rcases Nat.lt_trichotomy d top with hlt | heq | hgt
    · have k1 : (d : Int) < (top : Int) := by omega
      have F : W = pn + e1 := by rw [E.out, hP.out, if_pos hlt]
      have F2 : (pn : Int) + (e1 : Int) = (W : Int) := by omega
      clear F
      go_enter Try.func13, Try.ntmps13
      go_wp2_with (go_at_call 12; refine (hroot _).mono ?_; rintro e w1 ⟨rfl, rfl⟩)
      go_ret
      exact ⟨rfl, rfl⟩
    · have k1 : (d : Int) = (top : Int) := by omega
      have F : W = pn + e2 := by rw [E.out, hP.out, if_neg (by omega), if_pos heq]
      have F2 : (pn : Int) + (e2 : Int) = (W : Int) := by omega
      clear F
      subst heq
      clear k1
      go_enter Try.func13, Try.ntmps13
      go_wp2_with (go_at_call 12; refine (hroot _).mono ?_; rintro e w1 ⟨rfl, rfl⟩)
      go_ret
      exact ⟨rfl, rfl⟩
    · have k1 : (top : Int) < (d : Int) := by omega
      have k2 : ¬ (d : Int) < (top : Int) := by omega
      have k3 : ¬ (d : Int) = (top : Int) := by omega
      have F : W = pn := by rw [E.out, hP.out, if_neg (by omega), if_neg (by omega)]; rfl
      have F2 : (pn : Int) = (W : Int) := by omega
      clear F
      go_enter Try.func13, Try.ntmps13
      go_wp2_with (go_at_call 12; refine (hroot _).mono ?_; rintro e w1 ⟨rfl, rfl⟩)
      go_ret
      exact ⟨rfl, rfl⟩
end Go.Proofs.Ytlbfgihnmkcgbaa
