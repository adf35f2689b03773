/- What the reference's Crc, Four, Put, Right and Join do, for slices of at most 1,000,000 bytes. -/
import Derived.Test.YtackfepoomdpdaaAwake
import Derived.Test.YtackfepoomdpdaaTold
import Derived.Test.YtackfepoomdpdaaMemb
namespace Go.Proofs.Ytackfepoomdpdaa
open Go.RowKit

namespace CrcP
def bst (r : W) (b : Bool) : W := (r >>> 1) ^^^ (if (r.getLsbD 0 ^^ b) then poly else 0#32)
/-- bit j of bytes -/
def bitAt (l : List UInt8) (j : Nat) : Bool := (bw (l.getD (j / 8) 0)).getLsbD (j % 8)
def br (s : W) (l : List UInt8) : Nat → W
  | 0 => s
  | j + 1 => bst (br s l j) (bitAt l j)
theorem bst_st (r v : W) : bst r (v.getLsbD 0) ^^^ (v >>> 1) = st (r ^^^ v) := by
  unfold bst st
  have h : (r ^^^ v).getLsbD 0 = (r.getLsbD 0 ^^ v.getLsbD 0) := by simp
  rw [h, BitVec.ushiftRight_xor_distrib]
  generalize (if (r.getLsbD 0 ^^ v.getLsbD 0) = true then poly else 0#32) = p
  ac_rfl
theorem br_part (s : W) (l : List UInt8) (q : Nat) (hq : q < l.length) : ∀ t, t ≤ 8 → br s l (8 * q + t) ^^^ (bw l[q] >>> t) = stN t (br s l (8 * q) ^^^ bw l[q]) := by
  intro t
  induction t with
  | zero => intro _; simp [stN]
  | succ t ih =>
    intro ht
    have h := ih (by omega)
    show bst (br s l (8 * q + t)) (bitAt l (8 * q + t)) ^^^ _ = st _
    have e1 : (8 * q + t) / 8 = q := by omega
    have e2 : (8 * q + t) % 8 = t := by omega
    have e3 : bitAt l (8 * q + t) = (bw l[q] >>> t).getLsbD 0 := by
      unfold bitAt
      rw [e1, e2, List.getD_eq_getElem?_getD, List.getElem?_eq_getElem hq]
      simp
    rw [e3, ← h, ← bst_st, BitVec.shiftRight_add]
theorem br_byte (s : W) (l : List UInt8) (q : Nat) (hq : q < l.length) : br s l (8 * (q + 1)) = up (br s l (8 * q)) l[q] := by
  have h := br_part s l q hq 8 (Nat.le_refl _)
  have e : bw l[q] >>> 8 = 0#32 := by
    apply BitVec.eq_of_toNat_eq
    rw [BitVec.toNat_ushiftRight, Nat.shiftRight_eq_div_pow, bw_toNat]
    have := l[q].toNat_lt
    simp; omega
  rw [e, BitVec.xor_zero] at h
  rw [show 8 * (q + 1) = 8 * q + 8 by omega, h]
  rfl
theorem br_take (s : W) (l : List UInt8) : ∀ q, q ≤ l.length → br s l (8 * q) = run s (l.take q) := by
  intro q
  induction q with
  | zero => intro _; rfl
  | succ q ih =>
    intro h
    rw [br_byte s l q (by omega), ih (by omega), List.take_add_one, List.getElem?_eq_getElem (by omega), run_append]
    rfl
theorem br_all (s : W) (l : List UInt8) (n : Nat) (h : l.length = n) : br s l (8 * n) = run s l := by
  subst h
  rw [br_take s l l.length (Nat.le_refl _), List.take_length]
end CrcP

theorem and_one (a : BitVec 32) : a &&& 1#32 = if a.getLsbD 0 then 1#32 else 0#32 := by
  apply BitVec.eq_of_getLsbD_eq
  intro i hi
  rw [BitVec.getLsbD_and, BitVec.getLsbD_one]
  rcases Nat.eq_zero_or_pos i with rfl | hp
  · cases a.getLsbD 0 <;> simp
  · have : i ≠ 0 := by omega
    cases a.getLsbD 0 <;> simp [this]
theorem shr_V (x : UInt8) (t : Nat) : (x.toNat : Int) / 2 ^ t % 4294967296 = V (CrcP.bw x >>> t) := by
  unfold V
  rw [BitVec.toNat_ushiftRight, CrcP.bw_toNat, Nat.shiftRight_eq_div_pow]
  have h : ((x.toNat : Int) / 2 ^ t) = ((x.toNat / 2 ^ t : Nat) : Int) := by simp
  have h1 := x.toNat_lt
  have h2 := Nat.div_le_self x.toNat (2 ^ t)
  rw [h]
  generalize x.toNat / 2 ^ t = q at *
  omega
theorem test_val (r : BitVec 32) (x : UInt8) (t : Nat) :
    (bits .xor .u32 (bits .and .u32 (V r) 1) (bits .and .u32 ((x.toNat : Int) / 2 ^ t % 4294967296) 1) == 1) = (r.getLsbD 0 ^^ (CrcP.bw x).getLsbD t) := by
  rw [shr_V, V_one, V_and, V_and, V_xor, and_one, and_one]
  have e : (CrcP.bw x >>> t).getLsbD 0 = (CrcP.bw x).getLsbD t := by simp
  rw [e]
  cases r.getLsbD 0 <;> cases (CrcP.bw x).getLsbD t <;> decide
theorem bst_yes {r : BitVec 32} {b : Bool} (h : (r.getLsbD 0 ^^ b) = true) : bits .xor .u32 (V r / (2 : Int)) 3988292384 = V (CrcP.bst r b) := by
  have e : (3988292384 : Int) = V CrcP.poly := by decide
  rw [V_shr1, e, V_xor]
  unfold CrcP.bst
  rw [if_pos h]
theorem bst_no {r : BitVec 32} {b : Bool} (h : (r.getLsbD 0 ^^ b) = false) : V r / (2 : Int) = V (CrcP.bst r b) := by
  rw [V_shr1]
  unfold CrcP.bst
  rw [h]
  simp
def ones : BitVec 32 := BitVec.allOnes 32
theorem ones_val : (4294967295 : Int) = V ones := by decide

set_option maxHeartbeats 400000 in
theorem rcrc_any (A : Option Addr) (n c : Nat) (l : List UInt8) (w : World) (hr : Rd w A n c l) (hn : n ≤ 1000000) :
    Calls Try.prog 19 #[.slice A n c] w fun e w' => e = .returned (.int .u32 (V (CrcP.sum l))) ∧ w = w' := by
  have Hll := hide hr.1
  go_enter Try.func19, Try.ntmps19
  go_wp2
  simp only [ones_val]
  go_loop [3, 10] (fun x i => ∃ j : Nat, j ≤ 8 * n ∧ i = .int .i64 j ∧ x = .int .u32 (V (CrcP.br ones l j))) (fun _ i => 8 * n - (intOf i).toNat)
  case atStart => exact ⟨0, Nat.zero_le _, rfl, rfl⟩
  case round =>
    obtain ⟨j, hj, rfl, rfl⟩ := hrel
    by_cases hlt : j < 8 * n
    · obtain ⟨ad, x, rfl, hx, hc⟩ := hr.at_ (k := j / 8) (by omega)
      have b1 : (j : Int) / 8 < (n : Int) := by omega
      have b2 : (0 : Int) ≤ (j : Int) / 8 := by omega
      have hbit : CrcP.bitAt l j = (CrcP.bw x).getLsbD (j % 8) := by unfold CrcP.bitAt; rw [List.getD_eq_getElem?_getD, hx]; rfl
      have htest := test_val (CrcP.br ones l j) x (j % 8)
      rw [← hbit] at htest
      have Hs : Hid (CrcP.br ones l (j + 1) = CrcP.bst (CrcP.br ones l j) (CrcP.bitAt l j)) := hide rfl
      clear hx hbit
      by_cases hB : ((CrcP.br ones l j).getLsbD 0 ^^ CrcP.bitAt l j) = true
      · rw [hB] at htest
        have hv := bst_yes hB
        clear hB
        go_wp2_with fail
        go_round
        case rel => exact ⟨j + 1, by omega, by go_num, by rw [Hs.out, ← hv]⟩
        case measure => simp [intOf]; omega
      · have hB' : ((CrcP.br ones l j).getLsbD 0 ^^ CrcP.bitAt l j) = false := by simpa using hB
        rw [hB'] at htest
        have hv := hide (bst_no hB')
        clear hB hB'
        go_wp2_with fail
        go_round
        case rel => exact ⟨j + 1, by omega, by go_num, by rw [Hs.out, ← hv.out]⟩
        case measure => simp [intOf]; omega
    · go_wp2_with fail
      simp only [V_not]
      go_ret
      exact ⟨by rw [show j = 8 * n by omega, CrcP.br_all _ _ _ Hll.out]; rfl, rfl⟩

theorem four_cells (s : BitVec 32) : (#[Value.int .u8 (V s / 16777216 % 256), .int .u8 (V s / 65536 % 256), .int .u8 (V s / 256 % 256), .int .u8 (V s % 256)] : Array Value).toList = bys (four s) := by
  simp [bys, by8, four, byt_val]
set_option maxHeartbeats 400000 in
theorem four_any (s : BitVec 32) (w : World) :
    Calls Try.prog 30 #[.int .u32 (V s)] w fun e w' => ∃ A c, e = .returned (.slice A 4 c) ∧ Own w' w.heap.size 5 A 4 c (four s) ∧ Below w.heap.size w w' := by
  go_enter Try.func30, Try.ntmps30
  go_wp2
  go_ret
  exact ⟨_, _, rfl, Own.lit w w.heap.size 5 _ (four_cells s) (by rw [four_len]; decide) (Nat.le_refl _), (Below.refl _ _).alloc (Nat.le_refl _) _⟩

set_option maxHeartbeats 400000 in
theorem rput_any (A : Option Addr) (n c : Nat) (l : List UInt8) (w : World) (hr : Rd w A n c l) (hn : n ≤ 1000000) :
    Calls Try.prog 21 #[.slice A n c] w fun e w' => ∃ A' c', e = .returned (.slice A' (n + 4) c') ∧ Own w' w.heap.size 5 A' (n + 4) c' (putL l) ∧ Below w.heap.size w w' := by
  go_enter Try.func21, Try.ntmps21
  go_wp2_with (at_builtin
               refine wpList_append8 w rfl _ _ _ rfl w.heap.size 5 Try.underlying22 isByte none 0 0 [] rfl (Own.nil _ _ _) A n c l rfl hr (by omega) (Nat.le_refl _) ?_
               intro A1 c1 w1 ho1 hb1 _ _)
  refine (rcrc_any _ _ _ _ _ (hr.below hb1) hn).mono ?_
  rintro e w2 ⟨rfl, rfl⟩
  go_wp2_with fail
  refine (four_any _ _).mono ?_
  rintro e w2 ⟨A2, c2, rfl, ho2, hb2⟩
  have hb3 : Below w.heap.size w w2 := hb1.trans (hb2.mono hb1.size)
  go_wp2_with (at_builtin
               refine wpList_append8 w2 rfl _ _ _ rfl w.heap.size 5 Try.underlying22 isByte A1 n c1 l rfl (Own.below (by simpa using ho1) hb2) A2 4 c2 _ rfl ho2.rd (by omega) hb3.size ?_
               intro A3 c3 w3 ho3 hb4 _ _)
  go_ret
  refine ⟨A3, c3, by simp, by simpa [putL] using ho3, hb3.trans hb4⟩

set_option maxHeartbeats 400000 in
theorem join_any (A : Option Addr) (n c : Nat) (ls : List (List UInt8)) (w : World) (hr : RdL w A n c ls) (hn : ls.flatten.length ≤ 1000000) :
    Calls Try.prog 22 #[.slice A n c] w fun e w' => ∃ A' c', e = .returned (.slice A' ls.flatten.length c') ∧ Own w' w.heap.size 5 A' ls.flatten.length c' ls.flatten ∧ Below w.heap.size w w' := by
  have hm : n ≤ maxLen := Nat.le_trans hr.2.1 hr.2.2.1
  unfold maxLen at hm
  have Hll := hide hr.1
  go_enter Try.func22, Try.ntmps22
  go_wp2
  go_loopw [3, 8] (fun v i wr => ∃ k A' m c', k ≤ n ∧ i = .int .i64 (k : Nat) ∧ v = .slice A' m c' ∧ Own wr w.heap.size 5 A' m c' (ls.take k).flatten ∧ Below w.heap.size w wr) (fun _ i _ => n - (intOf i).toNat)
  case atStart => exact ⟨0, none, 0, 0, Nat.zero_le _, rfl, rfl, Own.nil _ _ _, Below.refl _ _⟩
  case round =>
    obtain ⟨k, A2, m, c2, hk, rfl, rfl, ho2, hb2⟩ := hrel
    by_cases hlt : k < n
    · obtain ⟨ad, l, A', n', c', rfl, hl, hc, hrl⟩ := (hr.below hb2).at_ hlt
      have Hl := hide hl
      have hsz : m + n' ≤ 140737488355328 := by
        have h1 := ho2.len
        have h2 := hrl.1
        have h3 : (ls.take (k + 1)).flatten = (ls.take k).flatten ++ l := by rw [List.take_add_one, hl]; simp
        have h4 : (ls.take (k + 1)).flatten.length ≤ ls.flatten.length := by
          have h5 : ls.flatten = (ls.take (k + 1)).flatten ++ (ls.drop (k + 1)).flatten := by rw [← List.flatten_append, List.take_append_drop]
          rw [h5, List.length_append]; omega
        rw [h3, List.length_append] at h4
        omega
      clear hl
      go_wp2_with (at_builtin
                   refine wpList_append8 wr rfl _ _ _ rfl w.heap.size 5 Try.underlying22 isByte A2 m c2 _ rfl ho2 A' n' c' l rfl hrl hsz hb2.size ?_
                   intro A3 c3 w3 ho3 hb3 _ _)
      go_roundw
      case rel => exact ⟨k + 1, A3, m + n', c3, by omega, by go_num, rfl, by rw [List.take_add_one, Hl.out]; simpa using ho3, hb2.trans hb3⟩
      case measure => simp [intOf]; omega
    · have ek : ls.take k = ls := by rw [List.take_of_length_le]; rw [Hll.out]; omega
      rw [ek] at ho2
      clear ek
      have hml : m = ls.flatten.length := ho2.len.symm
      subst hml
      go_wp2
      go_ret
      exact ⟨A2, c2, rfl, ho2, hb2⟩
end Go.Proofs.Ytackfepoomdpdaa
