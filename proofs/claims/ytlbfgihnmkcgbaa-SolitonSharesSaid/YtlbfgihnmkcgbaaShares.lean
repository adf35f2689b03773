/- The walk of the law SolitonShares: it returns true for every input; no condition. -/
import Derived.Test.YtlbfgihnmkcgbaaRises
import Derived.Deep.Cut
namespace Go.Proofs.Ytlbfgihnmkcgbaa
open Go.RowKit

theorem sums_small : ∀ n, n < 81 → 1 ≤ n → sums n n ≤ 4194304 := by decide +kernel
theorem edge_pos {n d : Nat} (h0 : 1 ≤ n) (h1 : n ≤ 80) (hd0 : 1 ≤ d) (hd : d ≤ n) : 1 ≤ edge n d := by
  have hp := sums_pos h0 h1
  have h2 := sums_lt h0 h1 (a := 0) (b := d) (by omega) hd
  unfold edge
  rw [Nat.le_div_iff_mul_le hp]
  simp only [sums] at h2
  omega

set_option maxRecDepth 100000 in
set_option maxHeartbeats 2000000 in
theorem shares_walk (a0 a1 : Int) (w : World) :
    Calls Try.prog 5 #[.int .i64 a0, .int .i64 a1] w fun e w' => e = .returned (.bool true) ∧ Below w.heap.size w w' := by
  obtain ⟨k, hk, ek⟩ := rem_nat a0 80 (by omega) (by omega)
  have ek : wrap64 ((IntKind.u64.wrap a0).tmod 80) = (k : Int) := ek
  obtain ⟨n, hn⟩ : ∃ n, n = k + 1 := ⟨_, rfl⟩
  have hkn : (1 : Int) + (k : Int) = (n : Int) := by omega
  have h0 : 1 ≤ n := by omega
  have h1 : n ≤ 80 := by omega
  clear hn
  obtain ⟨j, hj, ej⟩ := rem_nat a1 n (by omega) (by omega)
  obtain ⟨d, hd⟩ : ∃ d, d = j + 1 := ⟨_, rfl⟩
  have hjd : (1 : Int) + (j : Int) = (d : Int) := by omega
  have hd0 : 1 ≤ d := by omega
  have hdn : d ≤ n := by omega
  clear hd
  have hT := sums_small n (by omega) h0
  have hT0 := sums_pos h0 h1
  have hn0 : (1 : Int) ≤ (n : Int) := by omega
  have hn80 : (n : Int) ≤ 80 := by omega
  go_enter Try.func5, Try.ntmps5
  go_wp2_with fail
  refine (new_ok n h0 h1 w).mono ?_
  rintro e w1 ⟨rfl, hs1, hb1⟩
  obtain ⟨dn, v, ht⟩ := hs1.tab
  go_wp2_with fail
  refine (weights_any _ n dn 0 v h0 h1 w1 ht).mono ?_
  rintro e w2 ⟨A, c, rfl, ho, hb2⟩
  have hbb2 := below_next hb1 hb2
  have hs2 := hs1.below hb2
  go_wp2_with fail
  go_loopw [7, 8, 34] (fun v7 v8 v34 wr => ∃ i : Nat, i ≤ n ∧ v34 = .int .i64 (i : Int) ∧ v7 = .int .u64 (sums n i : Nat) ∧ v8 = .int .u64 (sums n (min i d) : Nat) ∧ w2 = wr) (fun _ _ v34 _ => n - (intOf v34).toNat)
  case atStart => exact ⟨0, Nat.zero_le _, rfl, rfl, by simp [sums], rfl⟩
  case round =>
    obtain ⟨i, hi, rfl, rfl, rfl, rfl⟩ := hrel
    by_cases hlt : i < n
    · have hlt' : (i : Int) < (n : Int) := by omega
      obtain ⟨g, rfl, _, _, hc⟩ := ho.at_ hlt
      have hm := sums_mono n (show i + 1 ≤ n from hlt)
      have e1 : sums n (i + 1) = sums n i + wtf n i := rfl
      obtain ⟨W, hW⟩ : ∃ W, wtf n i = W := ⟨_, rfl⟩
      obtain ⟨S, hS⟩ : ∃ S, sums n i = S := ⟨_, rfl⟩
      rw [hW, hS] at e1
      rw [hW] at hc
      rw [e1] at hm
      have e2 : (S : Int) + (W : Int) = ((S + W : Nat) : Int) := by omega
      have HE := hide e1
      have hW3 : (W : Int) ≤ 4194304 := by omega
      have hS3 : (S : Int) ≤ 4194304 := by omega
      have HS := hide hS
      rw [hS]
      clear e1 hW hS
      by_cases hid : i < d
      · have hid' : (i : Int) < (d : Int) := by omega
        rw [show min i d = i by omega, HS.out]
        have hidb : decide ((i : Int) < (d : Int)) = true := by simp; omega
        clear e2
        go_wp2_with fail
        go_roundw
        case rel => exact ⟨i + 1, by omega, by go_num, by rw [HE.out]; go_num, by rw [show min (i + 1) d = i + 1 by omega, HE.out]; go_num, trivial⟩
        case measure => simp [intOf]; omega
      · have hid' : (d : Int) ≤ (i : Int) := by omega
        have hidb : decide ((i : Int) < (d : Int)) = false := by simp; omega
        rw [show min i d = d by omega]
        generalize hB : sums n d = B
        clear e2
        go_wp2_with fail
        go_roundw
        case rel => exact ⟨i + 1, by omega, by go_num, by rw [HE.out]; go_num, by rw [show min (i + 1) d = d by omega, hB], trivial⟩
        case measure => simp [intOf]; omega
    · obtain rfl : i = n := by omega
      rw [show min i d = d by omega]
      obtain ⟨T, hT2⟩ : ∃ T, sums i i = T := ⟨_, rfl⟩
      obtain ⟨B, hB⟩ : ∃ B, sums i d = B := ⟨_, rfl⟩
      have hBT : B ≤ T := by rw [← hB, ← hT2]; exact sums_mono i hdn
      rw [hT2] at hT hT0
      obtain ⟨E, hE⟩ : ∃ E, edge i d = E := ⟨_, rfl⟩
      have hE1 := edge_pos h0 h1 hd0 hdn
      have hEb := edge_big h0 h1 hdn
      have hEa := edge_at (d := d) h0 h1
      have hEc := edge_ahead (d := d) h0 h1
      have hEE : (B * 4294967296 + T - 1) / T = E := by rw [← hE, ← hT2, ← hB]; rfl
      rw [hE] at hE1 hEb hEa hEc
      obtain ⟨X, hX⟩ : ∃ X, B * 4294967296 + T - 1 = X := ⟨_, rfl⟩
      rw [hX] at hEE
      have q1 := natdiv _ _ _ hEE
      have q2 : (B : Int) * 4294967296 + (T : Int) - 1 = (X : Int) := by omega
      rw [hT2, hB]
      have t1 : (1 : Int) ≤ (T : Int) := by omega
      have t2 : (T : Int) ≤ 4194304 := by omega
      have t3 : (B : Int) ≤ 4194304 := by omega
      have t4 : ((T : Int) == 0) = false := by simp; omega
      have hEX : E ≤ X := by rw [← hEE]; exact Nat.div_le_self _ _
      have hEw : IntKind.u64.wrap (E : Int) = (E : Int) := by rw [IntKind.wrap_u64]; omega
      have HEE := hide (And.intro hEb (And.intro hEa hEc))
      clear hX hEE hE hT2 hB hEb hEa hEc
      go_upto_region 17 with fail
      go_upto_region 18 with fail
      clear q1 q2 t3 hEX hEw ho ht hkn ek hjd ej
      by_cases hbig : 4294967295 < E
      · have hb' : (4294967295 : Int) < (E : Int) := by omega
        obtain rfl := HEE.out.1 hbig
        have hbd : decide ((4294967295 : Int) < (E : Int)) = true := by simp; omega
        go_wp2_with fail
        refine (awake_any w2).mono ?_
        rintro e w3 ⟨rfl, hb3⟩
        go_wp2_with fail
        go_ret
        exact ⟨rfl, below_next hbb2 hb3⟩
      · have hb' : (E : Int) ≤ 4294967295 := by omega
        have hbd : decide ((4294967295 : Int) < (E : Int)) = false := by simp; omega
        have hE0 : ((E : Int) == 0) = false := by simp; omega
        have hE0' : (1 : Int) ≤ (E : Int) := by omega
        obtain ⟨E1, hE1'⟩ : ∃ E1, E1 = E - 1 := ⟨_, rfl⟩
        have hEi : (E : Int) - 1 = (E1 : Int) := by omega
        have hE1b : (E1 : Int) ≤ 4294967295 := by omega
        have HE1 := hide hE1'
        clear hE1'
        go_wp2_with fail
        refine (degree_any _ i _ E h0 h1 (by omega) w2 hs2).mono ?_
        rintro e w3 ⟨r, rfl, hd3, hs3, hb3⟩
        have p1 : d < r := hd3.above hdn HEE.out.2.1
        have p1' : (d : Int) < (r : Int) := by omega
        have p1b : decide ((d : Int) < (r : Int)) = true := by simp; omega
        go_wp2_with fail
        refine (degree_any _ i _ E1 h0 h1 (by omega) w3 hs3).mono ?_
        rintro e w4 ⟨r2, rfl, hd4, hs4, hb4⟩
        have p2 : r2 ≤ d := hd4.below hd0 (by have := HEE.out.2.2 (by omega); rwa [← HE1.out] at this)
        have p2' : (r2 : Int) ≤ (d : Int) := by omega
        have p2b : decide ((r2 : Int) ≤ (d : Int)) = true := by simp; omega
        have hbb4 : Below w.heap.size w w4 := (hbb2.trans hb3).trans hb4
        go_wp2_with fail
        refine (awake_any w4).mono ?_
        rintro e w5 ⟨rfl, hb5⟩
        go_wp2_with fail
        go_ret
        exact ⟨rfl, below_next hbb4 hb5⟩
end Go.Proofs.Ytlbfgihnmkcgbaa
