/- What is wrapped is unwrapped (plain); what downpourlaw13.awake does: it returns true, in whatever world. -/
import Derived.Test.YtackfepoomdpdaaUnwrapr
namespace Go.Proofs.Ytackfepoomdpdaa
open Go.RowKit

theorem byt_toNat (x : Int) : (byt x).toNat = (x % 256).toNat := by
  have h := byt_val x
  omega
theorem wrapL_drop2 (k : Int) (l : List UInt8) : (wrapL k l).drop 2 = putL (innerL k l) := rfl
theorem wrapL_drop5 (k : Int) (l : List UInt8) : (wrapL k l).drop 5 = l ++ four (CrcP.sum (innerL k l)) := by
  simp [wrapL, putL, innerL]
theorem wrapL_getD (k : Int) (l : List UInt8) : (wrapL k l).getD 2 0 = byt k ∧ (wrapL k l).getD 3 0 = byt ((l.length : Int) / 256) ∧ (wrapL k l).getD 4 0 = byt (l.length : Int) := by
  simp [wrapL, putL, innerL]
theorem wrap_is_good (k : Int) (l : List UInt8) (h2 : l.length ≤ 291) : Good (wrapL k l) l.length := by
  refine ⟨wrapL_len k l, h2, rfl, ?_⟩
  unfold lenOf
  rw [(wrapL_getD k l).2.1, (wrapL_getD k l).2.2, byt_toNat, byt_toNat]
  omega
theorem unw_wrap (k : Int) (l : List UInt8) (h0 : 0 ≤ k) (h1 : k ≤ 255) (h2 : l.length ≤ 291) : unw (wrapL k l) = (k, l, 0) := by
  rw [unw_good (wrap_is_good k l h2), wrapL_drop2, wrapL_drop5, (wrapL_getD k l).1]
  have : rOk (putL (innerL k l)) = true := (rOk_iff _).2 ⟨by rw [putL_len]; omega, rt_put _⟩
  rw [if_pos this, byt_toNat]
  have : (((k % 256).toNat : Nat) : Int) = k := by omega
  rw [this, List.take_left' rfl]

set_option maxRecDepth 100000 in
set_option maxHeartbeats 1000000 in
theorem fawake_any (w : World) : Calls Try.prog 23 #[] w fun e w' => e = .returned (.bool true) ∧ Below w.heap.size w w' := by
  have E := hide (unw_wrap 1 [] (by omega) (by omega) (by simp))
  have Ht : (wrapL 1 []).take 5 = [68, 80, 1, 0, 0] := by decide
  have hpb : ((str ((wrapL 1 []).take 5)).toList == [68, 80, 1, 0, 0]) = true := by rw [str_toList, Ht]; rfl
  clear Ht
  go_enter Try.func23, Try.ntmps23
  go_wp2_with fail
  refine (wrap_good 1 none 0 0 [] w (rd_none w) (by omega) (by omega) (by omega)).mono ?_
  rintro e w1 ⟨A1, c1, rfl, ho1, hb1⟩
  go_wp2_with fail
  refine (unwrap_any _ _ _ _ _ ho1.rd).mono ?_
  rintro e w2 ⟨A2, n2, c2, rfl, hr2, hb2⟩
  rw [E.out] at hr2 ⊢
  have hn2 : n2 = 0 := hr2.1.symm
  subst hn2
  have hcv := conv22 ((ho1.rd.below hb2).hi (k := 5) (by omega))
  have h5 : (5 : Int) ≤ (c1 : Int) := by have := ho1.rd.2.1; omega
  go_wp2_with fail
  go_ret
  exact ⟨rfl, below_next hb1 hb2⟩
end Go.Proofs.Ytackfepoomdpdaa
