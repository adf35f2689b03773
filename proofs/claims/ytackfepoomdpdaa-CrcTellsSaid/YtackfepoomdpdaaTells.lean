/- The walk of the law CrcTells: it returns true for every slice of bytes, every place and every two bytes; no condition. -/
import Derived.Test.YtackfepoomdpdaaAwake
import Derived.Test.YtackfepoomdpdaaTold
namespace Go.Proofs.Ytackfepoomdpdaa
open Go.RowKit

set_option maxHeartbeats 1000000 in
theorem tells_walk (A : Option Addr) (n c : Nat) (l : List UInt8) (at' : Int) (x y : UInt8) (w : World) (hr : Rd w A n c l) :
    Calls Try.prog 7 #[.slice A n c, .int .i64 at', .int .u8 x.toNat, .int .u8 y.toNat] w fun e w' => e = .returned (.bool true) ∧ Below w.heap.size w w' := by
  by_cases hn : 4000 < n
  · have hn' : (4000 : Int) < (n : Int) := by omega
    go_enter Try.func7, Try.ntmps7
    go_wp2_with (go_at_call 14; refine (awake_any _).mono ?_; rintro e w1 ⟨rfl, hb1⟩)
    go_ret
    exact ⟨rfl, hb1⟩
  · have hn' : (n : Int) ≤ 4000 := by omega
    have Hll := hide hr.1
    go_enter Try.func7, Try.ntmps7
    go_wp2_with fail
    refine (put_any _ _ _ _ _ hr (by omega)).mono ?_
    rintro e w1 ⟨A1, c1, rfl, ho1, hb1⟩
    go_wp2_with fail
    refine (right_put _ _ _ n _ _ ho1.rd Hll.out.symm (by omega)).mono ?_
    rintro e w2 ⟨A2, c2, rfl, ho2, hb2⟩
    have hbb : Below w.heap.size w w2 := hb1.trans (hb2.mono hb1.size)
    have k1 := conv22 ho2.rd
    have k2 := conv22 (hr.below hbb)
    obtain ⟨g, rfl, hg0, hg1⟩ := ho1.form (by omega)
    have hp : Own w2 w.heap.size 5 (some ⟨g, 0, none⟩) (n + 4) c1 (putL l) := ho1.below hb2
    obtain ⟨k, hk, ek⟩ := rem_nat at' (n + 3) (by omega) (by omega)
    have ek : wrap64 ((IntKind.u64.wrap at').tmod ((n : Int) + 4 - 1)) = (k : Int) := by
      rw [show ((n : Int) + 4 - 1) = ((n + 3 : Nat) : Int) by omega]; exact ek
    have hk0 : (0 : Int) ≤ (k : Int) := by omega
    have hk1 : (k : Int) < (n : Int) + 4 := by omega
    have hk2 : (k : Int) + 1 < (n : Int) + 4 := by omega
    have hlen : (putL l).length = n + 4 := by rw [putL_len, Hll.out]
    have q0 : (putL l)[k]? = some ((putL l).getD k 0) := by rw [List.getD_eq_getElem?_getD, List.getElem?_eq_getElem (by omega)]; rfl
    have q1 : (putL l)[k + 1]? = some ((putL l).getD (k + 1) 0) := by rw [List.getD_eq_getElem?_getD, List.getElem?_eq_getElem (by omega)]; rfl
    have c0 := hp.cell q0
    have c1' := hp.cell q1
    have f0 := hp.frozen k
    have f1 := hp.frozen (k + 1)
    obtain ⟨B, hB⟩ : ∃ B, bend (putL l) k x y = B := ⟨_, rfl⟩
    have HB : Hid (((putL l).set k ((putL l).getD k 0 ^^^ x)).set (k + 1) ((putL l).getD (k + 1) 0 ^^^ y) = B) := hide hB
    have Hrt : Hid (Rt B ↔ x = 0 ∧ y = 0) := hide (by rw [← hB]; exact told l k (by have := Hll.out; omega) x y)
    generalize (putL l).getD k 0 = b0 at *
    generalize (putL l).getD (k + 1) 0 = b1 at *
    clear hB q0 q1 hlen
    go_wp2_with fail
    simp only [xor_u8]
    have hq := (hp.set k (b0 ^^^ x)).set (k + 1) (b1 ^^^ y)
    rw [HB.out] at hq
    have hb3 := (hbb.setCell (p := ⟨g, k, none⟩) hg0 (.int .u8 (b0 ^^^ x).toNat)).setCell (p := ⟨g, k + 1, none⟩) hg0 (.int .u8 (b1 ^^^ y).toNat)
    have kx : x = 0 → ((x.toNat : Int) == 0) = true := by rintro rfl; rfl
    have ky : y = 0 → ((y.toNat : Int) == 0) = true := by rintro rfl; rfl
    have nx : x ≠ 0 → ((x.toNat : Int) == 0) = false := by
      intro h
      have : x.toNat ≠ 0 := fun h0 => h (UInt8.toNat_inj.1 (by simpa using h0))
      simp; omega
    have ny : y ≠ 0 → ((y.toNat : Int) == 0) = false := by
      intro h
      have : y.toNat ≠ 0 := fun h0 => h (UInt8.toNat_inj.1 (by simpa using h0))
      simp; omega
    generalize hW : (w2.setCell ⟨g, k, none⟩ (.int .u8 (b0 ^^^ x).toNat)).setCell ⟨g, k + 1, none⟩ (.int .u8 (b1 ^^^ y).toNat) = W at *
    clear hW
    by_cases hx : x = 0
    · by_cases hy : y = 0
      · have e1 := kx hx
        have e2 := ky hy
        have hB := Hrt.out.2 ⟨hx, hy⟩
        clear kx ky nx ny hx hy
        refine (right_is _ _ _ _ _ hq.rd (by omega) (by omega) hB).mono ?_
        rintro e w4 ⟨A4, c4, rfl, ho4, hb4⟩
        go_wp2_with fail
        refine (awake_any _).mono ?_
        rintro e w5 ⟨rfl, hb5⟩
        go_wp2_with fail
        go_ret
        exact ⟨rfl, (hb3.trans (hb4.mono hb3.size)).trans (hb5.mono (Nat.le_trans hb3.size hb4.size))⟩
      · have e1 := kx hx
        have e2 := ny hy
        have hB : ¬ Rt B := fun h => hy (Hrt.out.1 h).2
        clear kx ky nx ny hx hy
        refine (right_not _ _ _ _ _ hq.rd (by omega) (by omega) hB).mono ?_
        rintro e w4 ⟨rfl, hb4⟩
        go_wp2_with fail
        refine (awake_any _).mono ?_
        rintro e w5 ⟨rfl, hb5⟩
        go_wp2_with fail
        go_ret
        exact ⟨rfl, (hb3.trans (hb4.mono hb3.size)).trans (hb5.mono (Nat.le_trans hb3.size hb4.size))⟩
    · have e1 := nx hx
      have hB : ¬ Rt B := fun h => hx (Hrt.out.1 h).1
      clear kx ky nx ny hx
      refine (right_not _ _ _ _ _ hq.rd (by omega) (by omega) hB).mono ?_
      rintro e w4 ⟨rfl, hb4⟩
      go_wp2_with fail
      refine (awake_any _).mono ?_
      rintro e w5 ⟨rfl, hb5⟩
      go_wp2_with fail
      go_ret
      exact ⟨rfl, (hb3.trans (hb4.mono hb3.size)).trans (hb5.mono (Nat.le_trans hb3.size hb4.size))⟩
end Go.Proofs.Ytackfepoomdpdaa
