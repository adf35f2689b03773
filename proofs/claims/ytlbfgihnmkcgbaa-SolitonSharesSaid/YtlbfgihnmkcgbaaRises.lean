/- The walk of the law SolitonRises: it returns true for every input; no condition. -/
import Derived.Test.YtlbfgihnmkcgbaaAwake
import Derived.OpenShut
namespace Go.Proofs.Ytlbfgihnmkcgbaa
open Go.RowKit

theorem rem_nat (x : Int) (m : Nat) (hm : 0 < m) (hs : m ≤ 1000000) : ∃ k : Nat, k < m ∧ wrap64 ((IntKind.u64.wrap x).tmod (m : Int)) = (k : Int) := by
  have h0 : 0 ≤ IntKind.u64.wrap x := wrap_u64_nonneg x
  rw [Int.tmod_eq_emod_of_nonneg h0]
  have h1 := Int.emod_nonneg (IntKind.u64.wrap x) (b := (m : Int)) (by omega)
  have h2 := Int.emod_lt_of_pos (IntKind.u64.wrap x) (b := (m : Int)) (by omega)
  refine ⟨(IntKind.u64.wrap x % (m : Int)).toNat, by omega, ?_⟩
  unfold wrap64
  omega

set_option maxRecDepth 100000 in
set_option maxHeartbeats 2000000 in
theorem rises_walk (a0 : Int) (x y : Nat) (hx : x < 4294967296) (hy : y < 4294967296) (w : World) :
    Calls Try.prog 4 #[.int .i64 a0, .int .u32 x, .int .u32 y] w fun e w' => e = .returned (.bool true) ∧ Below w.heap.size w w' := by
  obtain ⟨k, hk, ek⟩ := rem_nat a0 80 (by omega) (by omega)
  have ek : wrap64 ((IntKind.u64.wrap a0).tmod 80) = (k : Int) := ek
  obtain ⟨n, hn⟩ : ∃ n, n = k + 1 := ⟨_, rfl⟩
  have hkn : (1 : Int) + (k : Int) = (n : Int) := by omega
  have h0 : 1 ≤ n := by omega
  have h1 : n ≤ 80 := by omega
  clear hn
  rcases Nat.lt_trichotomy x y with hxy | hxy | hxy
  · have hI : (x : Int) < (y : Int) := by omega
    have hlh : x ≤ y := by omega
    have hlb : x < 4294967296 := by omega
    have hhb : y < 4294967296 := by omega
    go_enter Try.func4, Try.ntmps4
    go_wp2_with fail
    refine (new_ok n h0 h1 w).mono ?_
    rintro e w1 ⟨rfl, hs1, hb1⟩
    go_wp2_with fail
    refine (degree_any _ n _ x h0 h1 hlb w1 hs1).mono ?_
    rintro e w2 ⟨a, rfl, hd2, hs2, hb2⟩
    go_wp2_with fail
    refine (degree_any _ n _ y h0 h1 hhb w2 hs2).mono ?_
    rintro e w3 ⟨b, rfl, hd3, hs3, hb3⟩
    have p1 : (1 : Int) ≤ (a : Int) := by have := hd2.1; omega
    have p2 : (a : Int) ≤ (b : Int) := by have := hd2.rises hd3 h0 h1 hlb hlh; omega
    have p3 : (b : Int) ≤ (n : Int) := by have := hd3.le h0 h1 hhb; omega
    go_wp2_with fail
    refine (degree_any _ n _ x h0 h1 hlb w3 hs3).mono ?_
    rintro e w4 ⟨a', rfl, hd4, hs4, hb4⟩
    have p4 : a' = a := hd4.same hd2 h0 h1 hlb
    subst p4
    go_wp2_with fail
    refine (new_ok n h0 h1 w4).mono ?_
    rintro e w5 ⟨rfl, hs5, hb5⟩
    have hs4' := hs4.below hb5
    go_wp2_with fail
    refine (degree_any _ n _ y h0 h1 hhb w5 hs5).mono ?_
    rintro e w6 ⟨b', rfl, hd6, _, hb6⟩
    have p6 : b' = b := hd6.same hd3 h0 h1 hhb
    subst p6
    have hs6 := hs4.below (hb5.trans hb6)
    go_wp2_with fail
    refine (degree_any _ n _ 0 h0 h1 (by omega) w6 hs6).mono ?_
    rintro e w7 ⟨z, rfl, hd7, _, hb7⟩
    have p7 : z = 1 := hd7.zero h0 h1
    subst p7
    have hbb : Below w.heap.size w w7 := ((((hb1.trans hb2).trans hb3).trans hb4).trans ((hb5.trans hb6).mono ((((hb1.trans hb2).trans hb3).trans hb4).size))).trans hb7
    go_wp2_with fail
    refine (awake_any w7).mono ?_
    rintro e w8 ⟨rfl, hb8⟩
    go_wp2_with fail
    go_ret
    exact ⟨rfl, below_next hbb hb8⟩
  · subst hxy
    have hlh : x ≤ x := Nat.le_refl _
    have hlb : x < 4294967296 := by omega
    have hhb : x < 4294967296 := by omega
    go_enter Try.func4, Try.ntmps4
    go_wp2_with fail
    refine (new_ok n h0 h1 w).mono ?_
    rintro e w1 ⟨rfl, hs1, hb1⟩
    go_wp2_with fail
    refine (degree_any _ n _ x h0 h1 hlb w1 hs1).mono ?_
    rintro e w2 ⟨a, rfl, hd2, hs2, hb2⟩
    go_wp2_with fail
    refine (degree_any _ n _ x h0 h1 hhb w2 hs2).mono ?_
    rintro e w3 ⟨b, rfl, hd3, hs3, hb3⟩
    have p1 : (1 : Int) ≤ (a : Int) := by have := hd2.1; omega
    have p2 : (a : Int) ≤ (b : Int) := by have := hd2.rises hd3 h0 h1 hlb hlh; omega
    have p3 : (b : Int) ≤ (n : Int) := by have := hd3.le h0 h1 hhb; omega
    go_wp2_with fail
    refine (degree_any _ n _ x h0 h1 hlb w3 hs3).mono ?_
    rintro e w4 ⟨a', rfl, hd4, hs4, hb4⟩
    have p4 : a' = a := hd4.same hd2 h0 h1 hlb
    subst p4
    go_wp2_with fail
    refine (new_ok n h0 h1 w4).mono ?_
    rintro e w5 ⟨rfl, hs5, hb5⟩
    have hs4' := hs4.below hb5
    go_wp2_with fail
    refine (degree_any _ n _ x h0 h1 hhb w5 hs5).mono ?_
    rintro e w6 ⟨b', rfl, hd6, _, hb6⟩
    have p6 : b' = b := hd6.same hd3 h0 h1 hhb
    subst p6
    have hs6 := hs4.below (hb5.trans hb6)
    go_wp2_with fail
    refine (degree_any _ n _ 0 h0 h1 (by omega) w6 hs6).mono ?_
    rintro e w7 ⟨z, rfl, hd7, _, hb7⟩
    have p7 : z = 1 := hd7.zero h0 h1
    subst p7
    have hbb : Below w.heap.size w w7 := ((((hb1.trans hb2).trans hb3).trans hb4).trans ((hb5.trans hb6).mono ((((hb1.trans hb2).trans hb3).trans hb4).size))).trans hb7
    go_wp2_with fail
    refine (awake_any w7).mono ?_
    rintro e w8 ⟨rfl, hb8⟩
    go_wp2_with fail
    go_ret
    exact ⟨rfl, below_next hbb hb8⟩
  · have hI : (y : Int) < (x : Int) := by omega
    have hlh : y ≤ x := by omega
    have hlb : y < 4294967296 := by omega
    have hhb : x < 4294967296 := by omega
    go_enter Try.func4, Try.ntmps4
    go_wp2_with fail
    refine (new_ok n h0 h1 w).mono ?_
    rintro e w1 ⟨rfl, hs1, hb1⟩
    go_wp2_with fail
    refine (degree_any _ n _ y h0 h1 hlb w1 hs1).mono ?_
    rintro e w2 ⟨a, rfl, hd2, hs2, hb2⟩
    go_wp2_with fail
    refine (degree_any _ n _ x h0 h1 hhb w2 hs2).mono ?_
    rintro e w3 ⟨b, rfl, hd3, hs3, hb3⟩
    have p1 : (1 : Int) ≤ (a : Int) := by have := hd2.1; omega
    have p2 : (a : Int) ≤ (b : Int) := by have := hd2.rises hd3 h0 h1 hlb hlh; omega
    have p3 : (b : Int) ≤ (n : Int) := by have := hd3.le h0 h1 hhb; omega
    go_wp2_with fail
    refine (degree_any _ n _ y h0 h1 hlb w3 hs3).mono ?_
    rintro e w4 ⟨a', rfl, hd4, hs4, hb4⟩
    have p4 : a' = a := hd4.same hd2 h0 h1 hlb
    subst p4
    go_wp2_with fail
    refine (new_ok n h0 h1 w4).mono ?_
    rintro e w5 ⟨rfl, hs5, hb5⟩
    have hs4' := hs4.below hb5
    go_wp2_with fail
    refine (degree_any _ n _ x h0 h1 hhb w5 hs5).mono ?_
    rintro e w6 ⟨b', rfl, hd6, _, hb6⟩
    have p6 : b' = b := hd6.same hd3 h0 h1 hhb
    subst p6
    have hs6 := hs4.below (hb5.trans hb6)
    go_wp2_with fail
    refine (degree_any _ n _ 0 h0 h1 (by omega) w6 hs6).mono ?_
    rintro e w7 ⟨z, rfl, hd7, _, hb7⟩
    have p7 : z = 1 := hd7.zero h0 h1
    subst p7
    have hbb : Below w.heap.size w w7 := ((((hb1.trans hb2).trans hb3).trans hb4).trans ((hb5.trans hb6).mono ((((hb1.trans hb2).trans hb3).trans hb4).size))).trans hb7
    go_wp2_with fail
    refine (awake_any w7).mono ?_
    rintro e w8 ⟨rfl, hb8⟩
    go_wp2_with fail
    go_ret
    exact ⟨rfl, below_next hbb hb8⟩
end Go.Proofs.Ytlbfgihnmkcgbaa
