/- The walk of the law FrameNone: it returns true for every slice of bytes; no condition. -/
import Derived.Test.YtackfepoomdpdaaAllb
import Derived.Test.YtackfepoomdpdaaFawake
namespace Go.Proofs.Ytackfepoomdpdaa
open Go.RowKit

theorem unw_zero {l : List UInt8} (h : (unw l).2.2 = 0) : l.length ≤ 300 ∧ 9 ≤ l.length ∧ l.take 2 = [68, 80] ∧ lenOf l = l.length ∧ rOk (l.drop 2) = true := by
  unfold unw at h
  split at h
  · simp at h
  · split at h
    · simp at h
    · split at h
      · rename_i h1 h2 h3
        split at h
        · rename_i h4
          exact ⟨by omega, by omega, h3.1, h3.2, h4⟩
        · simp at h
      · simp at h
theorem beg_noD {x : UInt8} {l : List UInt8} (h : x ≠ 68) : beg (x :: l) = none := by
  cases hb : beg (x :: l) with
  | none => rfl
  | some m =>
    exfalso
    have h9 := (beg_some hb).2.2.2
    have hm := (beg_some hb).1
    unfold beg at hb
    split at hb
    · cases hb
    · split at hb
      · rename_i h1 h2
        rw [← hm] at h2
        have h3 := (unw_zero h2).2.2.1
        obtain ⟨k, rfl⟩ : ∃ k, m = k + 2 := ⟨m - 2, by omega⟩
        rw [List.take_take, show min 2 (k + 2) = 2 by omega] at h3
        cases l with
        | nil => simp at h3
        | cons y l => simp at h3; exact h h3.1
      · cases hb
theorem scan_noD : ∀ (l : List UInt8), (∀ x ∈ l, x ≠ 68) → Scan l [] l.length := by
  intro l
  induction l with
  | nil => intro _; exact Scan.nil
  | cons x l ih => intro h; exact Scan.skip (beg_noD (h x (by simp))) (ih fun y hy => h y (by simp [hy]))
theorem byte_eq {x : UInt8} : ((x.toNat : Int) == 68) = true ↔ x = 68 := by
  rw [beq_iff_eq]
  constructor
  · intro h
    exact UInt8.toNat_inj.1 (by show x.toNat = 68; omega)
  · rintro rfl; rfl

set_option maxRecDepth 100000 in
set_option maxHeartbeats 2000000 in
theorem none_walk (A : Option Addr) (n c : Nat) (l : List UInt8) (w : World) (hr : Rd w A n c l) :
    Calls Try.prog 13 #[.slice A n c] w fun e w' => e = .returned (.bool true) ∧ Below w.heap.size w w' := by
  have hn : n ≤ maxLen := by have := hr.2.1; have := hr.2.2.1; omega
  unfold maxLen at hn
  go_enter Try.func13, Try.ntmps13
  go_wp2_with fail
  go_loopw [3, 10] (fun v i wr => ∃ k A' m' c' L, k ≤ n ∧ i = .int .i64 ((k : Nat) : Int) ∧ v = .slice A' m' c' ∧ Own wr w.heap.size 5 A' m' c' L ∧ (∀ x ∈ L, x ≠ 68) ∧ m' ≤ k ∧ m' ≤ 3000 ∧ Below w.heap.size w wr) (fun _ i _ => n - (intOf i).toNat)
  case atStart => exact ⟨0, none, 0, 0, [], Nat.zero_le _, rfl, rfl, Own.nil _ _ _, by simp, Nat.le_refl _, by omega, Below.refl _ _⟩
  case round =>
    obtain ⟨k, A', m', c', L, hk, rfl, rfl, ho, hD, hmk, hm3, hb⟩ := hrel
    have HD := hide hD
    clear hD
    by_cases hlt : k < n
    · obtain ⟨ad, x, rfl, hx, hc⟩ := (hr.below hb).at_ hlt
      clear hx
      by_cases hx : x = 68
      · have hxb := byte_eq.2 hx
        have hxn : ((x.toNat : Int) != 68) = false := by unfold bne; rw [hxb]; rfl
        clear hx
        go_wp2_with fail
        go_roundw
        case rel => exact ⟨k + 1, A', m', c', L, by omega, by go_num, rfl, ho, HD.out, by omega, hm3, hb⟩
        case measure => simp [intOf]; omega
      · have hxb : ((x.toNat : Int) == 68) = false := by
          cases h : ((x.toNat : Int) == 68)
          · rfl
          · exact absurd (byte_eq.1 h) hx
        have hxn : ((x.toNat : Int) != 68) = true := by unfold bne; rw [hxb]; rfl
        have Hx := hide hx
        clear hx
        by_cases h3 : k < 3000
        · have h3' : (k : Int) < 3000 := by omega
          have h1 : (#[Value.int .u8 (x.toNat : Int)] : Array Value).toList = bys [x] := rfl
          have hone := fun (W : World) => Rd.new W 5 #[Value.int .u8 (x.toNat : Int)] h1 (by simp [maxLen])
          clear h1
          go_wp2_with ((at_builtin; refine wpList_append8 _ rfl _ _ _ rfl w.heap.size 5 Try.underlying22 isByte A' m' c' L rfl (ho.alloc _) _ 1 1 [x] rfl (hone wr) (by omega) (by have := hb.size; simp; omega) ?_; intro A3 c3 w3 ho3 hb3 _ _))
          go_roundw
          case rel => exact ⟨k + 1, A3, m' + 1, c3, L ++ [x], by omega, by go_num, rfl, ho3, fun y hy => by
            rcases List.mem_append.1 hy with h | h
            · exact HD.out y h
            · simp at h; subst h; exact Hx.out, by omega, by omega, (hb.alloc hb.size _).trans hb3⟩
          case measure => simp [intOf]; omega
        · have h3' : (3000 : Int) ≤ (k : Int) := by omega
          go_wp2_with fail
          go_roundw
          case rel => exact ⟨k + 1, A', m', c', L, by omega, by go_num, rfl, ho, HD.out, by omega, hm3, hb⟩
          case measure => simp [intOf]; omega
    · go_wp2_with fail
      refine (all_small _ _ _ _ _ ho.rd (by omega)).mono ?_
      rintro e w1 ⟨A1, n1, c1, fs, o, rfl, hol, hs, hb1⟩
      obtain ⟨rfl, rfl⟩ := hs.same (scan_noD L HD.out)
      have hn1 : n1 = 0 := hol.len.symm
      have hL := ho.len
      subst hn1
      subst hL
      go_wp2_with fail
      refine (fawake_any _).mono ?_
      rintro e w2 ⟨rfl, hb2⟩
      go_wp2_with fail
      go_ret
      exact ⟨rfl, below_next (below_next hb hb1) hb2⟩
end Go.Proofs.Ytackfepoomdpdaa
