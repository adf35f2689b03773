/- What crc.Add, crc.Sum and crc.Put do, for every slice of bytes (Put: of at most 1,000,000 bytes). -/
import Derived.Test.YtackfepoomdpdaaRows
import Derived.Test.YtackfepoomdpdaaCrc
import Derived.Test.YtackfepoomdpdaaMem
import Derived.Outline
import Derived.Deep.RegionHeld3
import Derived.BigQuiet
import Derived.Deep.QuietTactic
import Derived.Lib.SlBytesConst
namespace Go.Proofs.Ytackfepoomdpdaa
open Go.RowKit

/-- a word as the walk has it -/
def V (c : BitVec 32) : Int := (c.toNat : Int)
theorem V_bd (c : BitVec 32) : 0 ≤ V c ∧ V c < 4294967296 := by
  unfold V; have := c.isLt; omega
theorem ofInt_V (c : BitVec 32) : BitVec.ofInt 32 (V c) = c := by simp [V]
theorem V_wrap (c : BitVec 32) : IntKind.u32.wrap (V c) = V c := by
  have := V_bd c
  rw [IntKind.wrap_u32]; omega
theorem V_xor (a b : BitVec 32) : bits .xor .u32 (V a) (V b) = V (a ^^^ b) := by
  show IntKind.u32.wrap ((BitVec.ofInt 32 (V a) ^^^ BitVec.ofInt 32 (V b)).toNat : Int) = _
  rw [ofInt_V, ofInt_V]; exact V_wrap _
theorem V_and (a b : BitVec 32) : bits .and .u32 (V a) (V b) = V (a &&& b) := by
  show IntKind.u32.wrap ((BitVec.ofInt 32 (V a) &&& BitVec.ofInt 32 (V b)).toNat : Int) = _
  rw [ofInt_V, ofInt_V]; exact V_wrap _
theorem V_not (a : BitVec 32) : bits .xor .u32 IntKind.u32.max (V a) = V (~~~ a) := by
  have e : IntKind.u32.max = V (BitVec.allOnes 32) := by decide
  rw [e, V_xor, BitVec.xor_comm, BitVec.xor_allOnes]
theorem V_shr1 (a : BitVec 32) : V a / (2 : Int) = V (a >>> 1) := by
  unfold V; rw [BitVec.toNat_ushiftRight, Nat.shiftRight_eq_div_pow]; omega
theorem V_one : (1 : Int) = V 1#32 := by decide
theorem V_odd (a : BitVec 32) : (3988292384 * bits .and .u32 (V a) 1) % 4294967296 = V (if a.getLsbD 0 then CrcP.poly else 0#32) := by
  rw [V_one, V_and]
  have h : a &&& 1#32 = if a.getLsbD 0 then 1#32 else 0#32 := by
    apply BitVec.eq_of_getLsbD_eq
    intro i hi
    rw [BitVec.getLsbD_and, BitVec.getLsbD_one]
    rcases Nat.eq_zero_or_pos i with rfl | hp
    · cases a.getLsbD 0 <;> simp
    · have : i ≠ 0 := by omega
      cases a.getLsbD 0 <;> simp [this]
  rw [h]
  cases a.getLsbD 0 <;> decide
theorem V_st (a : BitVec 32) : bits .xor .u32 (V a / (2 : Int)) ((3988292384 * bits .and .u32 (V a) 1) % 4294967296) = V (CrcP.st a) := by
  rw [V_odd, V_shr1, V_xor]; rfl
theorem V_bw (a : BitVec 32) (x : UInt8) : bits .xor .u32 (V a) (x.toNat : Int) = V (a ^^^ CrcP.bw x) := by
  rw [← V_xor]
  have : V (CrcP.bw x) = (x.toNat : Int) := by unfold V; rw [CrcP.bw_toNat]
  rw [this]
/-- j steps -/
def stN : Nat → BitVec 32 → BitVec 32
  | 0, c => c
  | j + 1, c => CrcP.st (stN j c)
theorem stN_8 (c : BitVec 32) : stN 8 c = CrcP.st8 c := rfl
theorem V_in (a : BitVec 32) (x : UInt8) : bits .xor .u32 (V a) ((x.toNat : Int) % 4294967296) = V (a ^^^ CrcP.bw x) := by
  have : (x.toNat : Int) % 4294967296 = (x.toNat : Int) := by have := x.toNat_lt; omega
  rw [this, V_bw]
theorem run_snoc (s : BitVec 32) (l : List UInt8) (k : Nat) (x : UInt8) (h : l[k]? = some x) : CrcP.run s (l.take (k + 1)) = CrcP.st8 (CrcP.run s (l.take k) ^^^ CrcP.bw x) := by
  rw [List.take_add_one, h, CrcP.run_append]; rfl
theorem ret_u32 {a b : Int} (h : a = b) : Ending.returned (.int .u32 a) = .returned (.int .u32 b) := by rw [h]

set_option maxHeartbeats 400000 in
theorem add_any (s : BitVec 32) (A : Option Addr) (n c : Nat) (l : List UInt8) (w : World) (hr : Rd w A n c l) :
    Calls Try.prog 15 #[.int .u32 (V s), .slice A n c] w fun e w' => e = .returned (.int .u32 (V (CrcP.add s l))) ∧ w = w' := by
  have hn : n ≤ maxLen := by have := hr.2.1; have := hr.2.2.1; omega
  unfold maxLen at hn
  have Hll := hide hr.1
  go_enter Try.func15, Try.ntmps15
  go_wp2
  simp only [V_not]
  go_loop [5, 13] (fun x i => ∃ k : Nat, k ≤ n ∧ i = .int .i64 k ∧ x = .int .u32 (V (CrcP.run (~~~ s) (l.take k)))) (fun _ i => n - (intOf i).toNat)
  case atStart => exact ⟨0, Nat.zero_le _, rfl, rfl⟩
  case round =>
    obtain ⟨k, hk, rfl, rfl⟩ := hrel
    by_cases hlt : k < n
    · obtain ⟨ad, x, rfl, hx, hc⟩ := hr.at_ hlt
      have hx' := hide hx
      clear hx
      go_wp2
      simp only [V_in]
      generalize hq : CrcP.run (~~~s) (List.take k l) ^^^ CrcP.bw x = q
      have hq' := hide hq
      clear hq
      go_loop [5, 21] (fun y j => ∃ i : Nat, i ≤ 8 ∧ j = .int .i64 i ∧ y = .int .u32 (V (stN i q))) (fun _ j => 8 - (intOf j).toNat)
      case atStart => exact ⟨0, Nat.zero_le _, rfl, rfl⟩
      case round =>
        obtain ⟨i, hi, rfl, rfl⟩ := hrel
        by_cases h8 : i < 8
        · go_wp2
          go_round
          case rel => exact ⟨i + 1, by omega, by go_num, by rw [V_st]; rfl⟩
          case measure => simp [intOf]; omega
        · go_wp2
          go_round
          case rel => exact ⟨k + 1, by omega, by go_num, by rw [run_snoc _ _ _ _ hx'.out, hq'.out, ← stN_8, show i = 8 by omega]⟩
          case measure => simp [intOf]; omega
    · go_wp2
      simp only [V_not]
      go_ret
      exact ⟨by rw [show k = n by omega, ← Hll.out, List.take_length]; rfl, rfl⟩

theorem V_zero : (0 : Int) = V 0#32 := by decide

set_option maxHeartbeats 400000 in
theorem sum_any (A : Option Addr) (n c : Nat) (l : List UInt8) (w : World) (hr : Rd w A n c l) :
    Calls Try.prog 16 #[.slice A n c] w fun e w' => e = .returned (.int .u32 (V (CrcP.sum l))) ∧ w = w' := by
  go_enter Try.func16, Try.ntmps16
  go_wp2_with (go_at_call 15; rw [V_zero]; refine (add_any _ _ _ _ l _ hr).mono ?_; rintro e w' ⟨rfl, rfl⟩)
  go_ret
  exact ⟨rfl, rfl⟩

theorem isByte : IsByte Try.prog 5 := by unfold IsByte; kernel_rfl

/-- the sum, the highest byte first -/
def four (s : BitVec 32) : List UInt8 := [byt (V s / 16777216), byt (V s / 65536), byt (V s / 256), byt (V s)]
theorem four_snoc (s : BitVec 32) (k : Nat) (h : k < 4) : (four s).take (k + 1) = (four s).take k ++ [byt (V s / 2 ^ (24 - 8 * k))] := by
  match k, h with
  | 0, _ => rfl
  | 1, _ => rfl
  | 2, _ => rfl
  | 3, _ => simp [four]
def putL (l : List UInt8) : List UInt8 := l ++ four (CrcP.sum l)

set_option maxHeartbeats 400000 in
theorem put_any (A : Option Addr) (n c : Nat) (l : List UInt8) (w : World) (hr : Rd w A n c l) (hn : n ≤ 1000000) :
    Calls Try.prog 20 #[.slice A n c] w fun e w' => ∃ A' c', e = .returned (.slice A' (n + 4) c') ∧ Own w' w.heap.size 5 A' (n + 4) c' (putL l) ∧ Below w.heap.size w w' := by
  go_enter Try.func20, Try.ntmps20
  go_wp2_with (first
    | (at_builtin
       refine wpList_append8 w rfl _ _ _ rfl w.heap.size 5 Try.underlying22 isByte none 0 0 [] rfl (Own.nil _ _ _) A n c l rfl hr (by omega) (Nat.le_refl _) ?_
       intro A1 c1 w1 ho1 hb1 _ _)
    | (go_at_call 16; refine (sum_any _ _ _ l _ (hr.below hb1)).mono ?_; rintro e w' ⟨rfl, rfl⟩))
  have hb1' := hb1
  go_loopw [3, 5] (fun v i wr => ∃ k A' c', k ≤ 4 ∧ i = .int .i64 (24 - 8 * (k : Nat)) ∧ v = .slice A' (n + k) c' ∧ Own wr w.heap.size 5 A' (n + k) c' (l ++ (four (CrcP.sum l)).take k) ∧ Below w.heap.size w wr) (fun _ i _ => (intOf i + 8).toNat)
  case atStart => exact ⟨0, A1, c1, by omega, by go_num, rfl, by simpa using ho1, hb1⟩
  case round =>
    obtain ⟨k, A2, c2, hk, rfl, rfl, ho2, hb2⟩ := hrel
    by_cases h4 : k = 4
    · subst h4
      go_wp2
      go_ret
      exact ⟨A2, c2, rfl, ho2, hb2⟩
    · have hk3 : 8 * (k : Int) ≤ 24 := by omega
      go_wp2_with (at_builtin
                   refine wpList_append8 _ rfl _ _ _ rfl w.heap.size 5 Try.underlying22 isByte A2 (n + k) c2 _ rfl (ho2.alloc _) (some ⟨wr.heap.size, 0, none⟩) 1 1 [byt (V (CrcP.sum l) / 2 ^ (24 - 8 * k))] rfl (Rd.one _ _ _) (by omega) (by have := hb2.size; simp; omega) ?_
                   intro A3 c3 w3 ho3 hb3 _ _)
      go_roundw
      case rel => exact ⟨k + 1, A3, c3, by omega, by go_num, rfl, by rw [four_snoc _ _ (by omega), ← List.append_assoc]; exact ho3, (hb2.alloc hb2.size _).trans hb3⟩
      case measure => simp [intOf]; omega
end Go.Proofs.Ytackfepoomdpdaa
