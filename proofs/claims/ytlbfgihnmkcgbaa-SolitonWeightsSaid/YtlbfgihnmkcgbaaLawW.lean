/- The walk of the law SolitonWeights: it returns true for every input; no condition. -/
import Derived.Test.YtlbfgihnmkcgbaaRises
import Derived.Deep.Cut
namespace Go.Proofs.Ytlbfgihnmkcgbaa
open Go.RowKit

set_option maxRecDepth 100000 in
set_option maxHeartbeats 2000000 in
theorem lawW_walk (a0 a1 : Int) (w : World) :
    Calls Try.prog 7 #[.int .i64 a0, .int .i64 a1] w fun e w' => e = .returned (.bool true) ∧ Below w.heap.size w w' := by
  obtain ⟨k, hk, ek⟩ := rem_nat a0 80 (by omega) (by omega)
  have ek : wrap64 ((IntKind.u64.wrap a0).tmod 80) = (k : Int) := ek
  obtain ⟨n, hn⟩ : ∃ n, n = k + 1 := ⟨_, rfl⟩
  have hkn : (1 : Int) + (k : Int) = (n : Int) := by omega
  have h0 : 1 ≤ n := by omega
  have h1 : n ≤ 80 := by omega
  clear hn
  obtain ⟨j, hj, ej⟩ := rem_nat a1 n (by omega) (by omega)
  obtain ⟨d, hd⟩ : ∃ d, d = j + 1 := ⟨_, rfl⟩
  have hjd : (1 : Int) + (j : Int) = (d : Int) := by omega
  have hd0 : 1 ≤ d := by omega
  have hdn : d ≤ n := by omega
  have hdj : ((d : Int) - 1).toNat = j := by omega
  have hdn' : (d : Int) - 1 < (n : Int) := by omega
  have hd0' : (0 : Int) ≤ (d : Int) - 1 := by omega
  have hwj : wtf n j = wt n d := by rw [hd]; rfl
  clear hd
  have hr := rt_le h0 h1
  have hroot := root_small n h0 h1
  have hwt := wt_pos h0 h1 hd0 hdn
  have hsp := spike_pos h0 h1
  have E : Hid (wt n d = plainW n d + (if d < n / rt n then 262144 * rt n / (d * n) else if d = n / rt n then 524288 * rt n / n else 0)) := hide rfl
  obtain ⟨W, hW⟩ : ∃ W, wt n d = W := ⟨_, rfl⟩
  rw [hW] at E hwt hwj
  have Hwj := hide hwj
  clear hW hwj
  generalize rt n = r at *
  obtain ⟨m, hm⟩ : ∃ m, n / r = m := ⟨_, rfl⟩
  have i1 := natdiv _ _ _ hm
  rw [hm] at E
  have hmn : m ≤ n := by rw [← hm]; exact Nat.div_le_self _ _
  clear hm
  obtain ⟨pn, hpn⟩ : ∃ pn, 1048576 / n = pn := ⟨_, rfl⟩
  have i2 : (1048576 : Int) / (n : Int) = (pn : Int) := natdiv 1048576 n pn hpn
  have hpn2 : pn ≤ 1048576 := by rw [← hpn]; exact Nat.div_le_self _ _
  obtain ⟨dd, hdd⟩ : ∃ dd, d * (d - 1) = dd := ⟨_, rfl⟩
  have i3 : (d : Int) * ((d : Int) - 1) = (dd : Int) := by
    rw [← hdd, Int.natCast_mul, show (((d - 1 : Nat)) : Int) = (d : Int) - 1 by omega]
  have hdd2 : dd ≤ 6400 := by rw [← hdd]; exact Nat.mul_le_mul (show d ≤ 80 by omega) (show d - 1 ≤ 80 by omega)
  have hdd3 : 1 < d → 1 ≤ dd := fun h => by rw [← hdd]; exact Nat.mul_pos (by omega) (by omega)
  obtain ⟨pd, hpd⟩ : ∃ pd, 1048576 / dd = pd := ⟨_, rfl⟩
  have i4 : (1048576 : Int) / (dd : Int) = (pd : Int) := natdiv 1048576 dd pd hpd
  have hpd2 : pd ≤ 1048576 := by rw [← hpd]; exact Nat.div_le_self _ _
  have P : Hid (plainW n d = if 1 < d then pd else pn) := hide (by unfold plainW; rw [hdd, hpd, hpn])
  clear hpn hpd hdd
  generalize 524288 * r / n = sp at *
  generalize 262144 * r / (d * n) = sh at *
  obtain ⟨p, hp⟩ : ∃ p, plainW n d = p := ⟨_, rfl⟩
  have f1 : (p : Int) ≤ (W : Int) := by have := E.out; rw [hp] at this; omega
  have f2 : m < d → W = p := fun h => by have := E.out; rw [hp, if_neg (by omega), if_neg (by omega)] at this; omega
  have f3 : d = m → p < W := fun h => by have := E.out; rw [hp, if_neg (by omega), if_pos h] at this; omega
  have fp : Hid (p = if 1 < d then pd else pn) := hide (by rw [← hp]; exact P.out)
  clear hp
  have hn0 : (1 : Int) ≤ (n : Int) := by omega
  have hn80 : (n : Int) ≤ 80 := by omega
  have hr1 : (1 : Int) ≤ (r : Int) := by omega
  have hr9 : (r : Int) ≤ 9 := by omega
  have hmax : (if (r : Int) < 1 then (1 : Int) else (r : Int)) = (r : Int) := by rw [if_neg (by omega)]
  have hjn : (j : Int) < (n : Int) := by omega
  have hd1 : (1 : Int) ≤ (d : Int) := by omega
  have hd80 : (d : Int) ≤ 80 := by omega
  have hW3 : (W : Int) < 4294967296 := by omega
  have F : Hid ((p : Int) ≤ (W : Int) ∧ (m < d → W = p) ∧ (d = m → p < W)) := hide ⟨f1, f2, f3⟩
  have hp2 : p ≤ 1048576 := by have := fp.out; split at this <;> omega
  have g1 : (pn : Int) ≤ 1048576 := by omega
  have g2 : (pd : Int) ≤ 1048576 := by omega
  have g3 : (dd : Int) ≤ 6400 := by omega
  have g4 : (m : Int) ≤ 80 := by omega
  have HDD := hide hdd3
  clear f1 f2 f3 hdd3 hdd2 hpd2 hpn2 hmn hsp hp2 hr hwt hd0 hdn
  by_cases h1d : 1 < d
  · have e1 : p = pd := by have := fp.out; rw [if_pos h1d] at this; exact this
    have j8 : (1 : Int) < (d : Int) := by omega
    have j9 : (1 : Int) ≤ (dd : Int) := by have := HDD.out h1d; omega
    subst e1
    clear fp P E h1d HDD
    go_enter Try.func7, Try.ntmps7
    go_wp2_with fail
    refine (new_ok n h0 h1 w).mono ?_
    rintro e w1 ⟨rfl, hs1, hb1⟩
    obtain ⟨dn, v, ht⟩ := hs1.tab
    go_wp2_with fail
    refine (weights_any _ n dn 0 v h0 h1 w1 ht).mono ?_
    rintro e w2 ⟨A, c, rfl, ho, hb2⟩
    have hbb2 := below_next hb1 hb2
    obtain ⟨g, rfl, _, _, hc⟩ := ho.at_ hj
    rw [Hwj.out] at hc
    clear ho ht hs1
    go_wp2_with fail
    refine (hroot _).mono ?_
    rintro e w1 ⟨rfl, rfl⟩
    go_upto_region 10 with fail
    go_upto_region 11 with fail
    clear hkn ek hjd ej i1 i2 i3 i4 hmax hdj hdn' hd0' hc j8
    rcases Nat.lt_trichotomy m d with hmd | hmd | hmd
    · have e2 := F.out.2.1 hmd
      have k1 : (m : Int) < (d : Int) := by omega
      have b1 : ((d : Int) != (m : Int)) = true := by simp; omega
      have b2 : decide ((d : Int) ≤ (m : Int)) = false := by simp; omega
      subst e2
      clear F
      go_wp2_with fail
      refine (awake_any w2).mono ?_
      rintro e w3 ⟨rfl, hb3⟩
      go_wp2_with fail
      go_ret
      exact ⟨rfl, below_next hbb2 hb3⟩
    · have k0 := F.out.2.2 hmd.symm
      have k1 : (p : Int) < (W : Int) := by omega
      have c1 : (p : Int) ≤ (W : Int) := by omega
      have c2 : decide ((p : Int) ≤ (W : Int)) = true := by simp; omega
      have c3 : decide ((W : Int) < (p : Int)) = false := by simp; omega
      have c4 : decide ((p : Int) < (W : Int)) = true := by simp; omega
      subst hmd
      clear F
      go_wp2_with fail
      refine (awake_any w2).mono ?_
      rintro e w3 ⟨rfl, hb3⟩
      go_wp2_with fail
      go_ret
      exact ⟨rfl, below_next hbb2 hb3⟩
    · have k0 := F.out.1
      have c2 : decide ((p : Int) ≤ (W : Int)) = true := by simp; omega
      have c3 : decide ((W : Int) < (p : Int)) = false := by simp; omega
      have c5 : decide ((m : Int) < (d : Int)) = false := by simp; omega
      have c6 : (d : Int) ≤ (m : Int) := by omega
      have c7 : ((d : Int) == (m : Int)) = false := by simp; omega
      have b1 : ((d : Int) != (m : Int)) = true := by simp; omega
      have b2 : decide ((d : Int) ≤ (m : Int)) = true := by simp; omega
      clear F
      go_wp2_with fail
      refine (awake_any w2).mono ?_
      rintro e w3 ⟨rfl, hb3⟩
      go_wp2_with fail
      go_ret
      exact ⟨rfl, below_next hbb2 hb3⟩
  · have e1 : p = pn := by have := fp.out; rw [if_neg h1d] at this; exact this
    have j8 : ¬ (1 : Int) < (d : Int) := by omega
    have j8b : decide ((1 : Int) < (d : Int)) = false := by simp; omega
    have j8c : (d : Int) ≤ 1 := by omega
    subst e1
    clear fp P E h1d HDD
    go_enter Try.func7, Try.ntmps7
    go_wp2_with fail
    refine (new_ok n h0 h1 w).mono ?_
    rintro e w1 ⟨rfl, hs1, hb1⟩
    obtain ⟨dn, v, ht⟩ := hs1.tab
    go_wp2_with fail
    refine (weights_any _ n dn 0 v h0 h1 w1 ht).mono ?_
    rintro e w2 ⟨A, c, rfl, ho, hb2⟩
    have hbb2 := below_next hb1 hb2
    obtain ⟨g, rfl, _, _, hc⟩ := ho.at_ hj
    rw [Hwj.out] at hc
    clear ho ht hs1
    go_wp2_with fail
    refine (hroot _).mono ?_
    rintro e w1 ⟨rfl, rfl⟩
    go_upto_region 10 with fail
    go_upto_region 11 with fail
    clear hkn ek hjd ej i1 i2 i3 i4 hmax hdj hdn' hd0' hc j8
    rcases Nat.lt_trichotomy m d with hmd | hmd | hmd
    · have e2 := F.out.2.1 hmd
      have k1 : (m : Int) < (d : Int) := by omega
      have b1 : ((d : Int) != (m : Int)) = true := by simp; omega
      have b2 : decide ((d : Int) ≤ (m : Int)) = false := by simp; omega
      subst e2
      clear F
      go_wp2_with fail
      refine (awake_any w2).mono ?_
      rintro e w3 ⟨rfl, hb3⟩
      go_wp2_with fail
      go_ret
      exact ⟨rfl, below_next hbb2 hb3⟩
    · have k0 := F.out.2.2 hmd.symm
      have k1 : (p : Int) < (W : Int) := by omega
      have c1 : (p : Int) ≤ (W : Int) := by omega
      have c2 : decide ((p : Int) ≤ (W : Int)) = true := by simp; omega
      have c3 : decide ((W : Int) < (p : Int)) = false := by simp; omega
      have c4 : decide ((p : Int) < (W : Int)) = true := by simp; omega
      subst hmd
      clear F
      go_wp2_with fail
      refine (awake_any w2).mono ?_
      rintro e w3 ⟨rfl, hb3⟩
      go_wp2_with fail
      go_ret
      exact ⟨rfl, below_next hbb2 hb3⟩
    · have k0 := F.out.1
      have c2 : decide ((p : Int) ≤ (W : Int)) = true := by simp; omega
      have c3 : decide ((W : Int) < (p : Int)) = false := by simp; omega
      have c5 : decide ((m : Int) < (d : Int)) = false := by simp; omega
      have c6 : (d : Int) ≤ (m : Int) := by omega
      have c7 : ((d : Int) == (m : Int)) = false := by simp; omega
      have b1 : ((d : Int) != (m : Int)) = true := by simp; omega
      have b2 : decide ((d : Int) ≤ (m : Int)) = true := by simp; omega
      clear F
      go_wp2_with fail
      refine (awake_any w2).mono ?_
      rintro e w3 ⟨rfl, hb3⟩
      go_wp2_with fail
      go_ret
      exact ⟨rfl, below_next hbb2 hb3⟩
end Go.Proofs.Ytlbfgihnmkcgbaa
