/- Plain facts of bytes with their sum behind them: what is put is right; with two bytes side by side changed it is right just if neither is changed. No condition. -/
import Derived.Test.YtackfepoomdpdaaRight
namespace Go.Proofs.Ytackfepoomdpdaa
open Go.RowKit

theorem V_inj {a b : BitVec 32} (h : V a = V b) : a = b := by
  unfold V at h
  exact BitVec.eq_of_toNat_eq (by omega)
theorem four_inj {s t : BitVec 32} (h : four s = four t) : s = t := by
  unfold four at h
  simp only [List.cons.injEq, and_true] at h
  obtain ⟨h1, h2, h3, h4⟩ := h
  have e1 := congrArg (fun x : UInt8 => (x.toNat : Int)) h1
  have e2 := congrArg (fun x : UInt8 => (x.toNat : Int)) h2
  have e3 := congrArg (fun x : UInt8 => (x.toNat : Int)) h3
  have e4 := congrArg (fun x : UInt8 => (x.toNat : Int)) h4
  simp only [byt_val] at e1 e2 e3 e4
  have := V_bd s
  have := V_bd t
  exact V_inj (by omega)
theorem four_len (s : BitVec 32) : (four s).length = 4 := rfl
theorem putL_len (l : List UInt8) : (putL l).length = l.length + 4 := by simp [putL, four_len]
theorem putL_take (l : List UInt8) : (putL l).take l.length = l := by simp [putL]

/-- right: what stands ahead of the last four bytes has them for its sum -/
def Rt (q : List UInt8) : Prop := putL (q.take (q.length - 4)) = q
theorem rt_iff (a f : List UInt8) (hf : f.length = 4) : Rt (a ++ f) ↔ four (CrcP.sum a) = f := by
  unfold Rt
  have e : (a ++ f).length - 4 = a.length := by simp [hf]
  rw [e, List.take_left]
  unfold putL
  exact List.append_right_inj a
theorem rt_put (l : List UInt8) : Rt (putL l) := (rt_iff l _ (four_len _)).2 rfl

/-- two bytes, one behind the other, are changed -/
def bend (q : List UInt8) (k : Nat) (x y : UInt8) : List UInt8 := (q.set k (q.getD k 0 ^^^ x)).set (k + 1) (q.getD (k + 1) 0 ^^^ y)
theorem bend_split (pre suf : List UInt8) (a b x y : UInt8) : bend (pre ++ a :: b :: suf) pre.length x y = pre ++ (a ^^^ x) :: (b ^^^ y) :: suf := by
  unfold bend
  have h1 : (pre ++ a :: b :: suf).getD pre.length 0 = a := by simp [List.getD_eq_getElem?_getD]
  have h2 : (pre ++ a :: b :: suf).getD (pre.length + 1) 0 = b := by simp [List.getD_eq_getElem?_getD]
  rw [h1, h2, List.set_append_right _ _ (Nat.le_refl _), Nat.sub_self, List.set_cons_zero, List.set_append_right _ _ (by omega), Nat.add_sub_cancel_left, List.set_cons_succ, List.set_cons_zero]
theorem split_at {q : List UInt8} {k : Nat} (h : k + 1 < q.length) : ∃ pre a b suf, q = pre ++ a :: b :: suf ∧ pre.length = k := by
  refine ⟨q.take k, q[k], q[k + 1], q.drop (k + 2), ?_, by simp; omega⟩
  have e1 : q.drop k = q[k] :: q.drop (k + 1) := List.drop_eq_getElem_cons (by omega)
  have e2 : q.drop (k + 1) = q[k + 1] :: q.drop (k + 2) := List.drop_eq_getElem_cons h
  rw [← e2, ← e1, List.take_append_drop]
theorem xor_right_eq {a x : UInt8} : a ^^^ x = a ↔ x = 0 := by
  constructor
  · intro h
    have := congrArg (a ^^^ ·) h
    simpa [← UInt8.xor_assoc] using this
  · rintro rfl; simp
theorem eq_xor_right {a x : UInt8} : a = a ^^^ x ↔ x = 0 := by rw [eq_comm]; exact xor_right_eq

theorem byt_bits (a : BitVec 32) (k : Nat) : byt (V a / 2 ^ k) = UInt8.ofBitVec ((a >>> k).setWidth 8) := by
  apply UInt8.toNat_inj.1
  have h := byt_val (V a / 2 ^ k)
  have e : (UInt8.ofBitVec ((a >>> k).setWidth 8)).toNat = (a.toNat / 2 ^ k) % 256 := by
    simp [Nat.shiftRight_eq_div_pow]
  rw [e]
  unfold V at h ⊢
  have : ((a.toNat : Int) / 2 ^ k) = ((a.toNat / 2 ^ k : Nat) : Int) := by simp
  rw [this] at h ⊢
  omega
theorem four_bits (a : BitVec 32) : four a = [UInt8.ofBitVec ((a >>> 24).setWidth 8), UInt8.ofBitVec ((a >>> 16).setWidth 8), UInt8.ofBitVec ((a >>> 8).setWidth 8), UInt8.ofBitVec (a.setWidth 8)] := by
  unfold four
  rw [← byt_bits, ← byt_bits, ← byt_bits]
  have := byt_bits a 0
  rw [Int.pow_zero, Int.ediv_one, BitVec.ushiftRight_zero] at this
  rw [this]
  rfl
theorem four_top (a : BitVec 32) (y : UInt8) : ∃ f1 f2 f3, four a = [byt (V a / 16777216), f1, f2, f3] ∧ four (a ^^^ CrcP.bw y <<< 24) = [byt (V a / 16777216) ^^^ y, f1, f2, f3] := by
  have e0 : byt (V a / 16777216) = UInt8.ofBitVec ((a >>> 24).setWidth 8) := byt_bits a 24
  refine ⟨_, _, _, four_bits a |>.trans (by rw [e0]), ?_⟩
  rw [four_bits, e0]
  have k (j : Nat) (hj : j + 8 ≤ 24) : ((a ^^^ CrcP.bw y <<< 24) >>> j).setWidth 8 = (a >>> j).setWidth 8 := by
    apply BitVec.eq_of_getLsbD_eq
    intro i hi
    simp only [BitVec.getLsbD_setWidth, BitVec.getLsbD_ushiftRight, BitVec.getLsbD_xor, BitVec.getLsbD_shiftLeft]
    have : j + i < 24 := by omega
    simp [this]
  have k0 := k 0 (by omega)
  rw [BitVec.ushiftRight_zero, BitVec.ushiftRight_zero] at k0
  rw [k 16 (by omega), k 8 (by omega), k0]
  congr 1
  apply UInt8.toBitVec_inj.1
  rw [UInt8.toBitVec_xor]
  show ((a ^^^ CrcP.bw y <<< 24) >>> 24).setWidth 8 = (a >>> 24).setWidth 8 ^^^ y.toBitVec
  apply BitVec.eq_of_getLsbD_eq
  intro i hi
  simp only [BitVec.getLsbD_setWidth, BitVec.getLsbD_ushiftRight, BitVec.getLsbD_xor, BitVec.getLsbD_shiftLeft, CrcP.bw]
  have h1 : 24 + i < 32 := by omega
  have h2 : ¬ 24 + i < 24 := by omega
  have h3 : 24 + i - 24 = i := by omega
  have h4 : i < 32 := by omega
  simp [h1, h3, h4, hi]

/-- a word's sum behind one byte changed -/
theorem sum_last (pre : List UInt8) (b x : UInt8) : CrcP.sum (pre ++ [b ^^^ x]) = CrcP.sum (pre ++ [b]) ^^^ CrcP.run 0#32 [x] := by
  unfold CrcP.sum
  rw [← CrcP.add_append, ← CrcP.add_append]
  generalize CrcP.add 0#32 pre = s
  unfold CrcP.add
  have h := CrcP.run_xor [b] [x] rfl (~~~ s) 0#32
  rw [BitVec.xor_zero] at h
  have e : List.zipWith (· ^^^ ·) [b] [x] = [b ^^^ x] := rfl
  rw [e] at h
  rw [h]
  generalize CrcP.run (~~~ s) [b] = p
  generalize CrcP.run 0#32 [x] = q
  rw [← BitVec.xor_allOnes, ← BitVec.xor_allOnes (x := p), BitVec.xor_assoc, BitVec.xor_assoc, BitVec.xor_comm q]

/-- THE LAW: two bytes side by side changed: it is right just if neither is -/
theorem told (l : List UInt8) (k : Nat) (hk : k < l.length + 3) (x y : UInt8) : Rt (bend (putL l) k x y) ↔ x = 0 ∧ y = 0 := by
  rcases Nat.lt_or_ge (k + 1) l.length with h1 | h1
  · obtain ⟨pre, a, b, suf, rfl, rfl⟩ := split_at h1
    have e : putL (pre ++ a :: b :: suf) = pre ++ a :: b :: (suf ++ four (CrcP.sum (pre ++ a :: b :: suf))) := by simp [putL]
    rw [e, bend_split]
    have e2 : pre ++ (a ^^^ x) :: (b ^^^ y) :: (suf ++ four (CrcP.sum (pre ++ a :: b :: suf))) = (pre ++ [a ^^^ x, b ^^^ y] ++ suf) ++ four (CrcP.sum (pre ++ [a, b] ++ suf)) := by simp
    rw [e2, rt_iff _ _ (four_len _)]
    constructor
    · intro h
      exact (CrcP.two 0#32 pre suf a b x y).1 (four_inj h)
    · intro h
      exact congrArg four ((CrcP.two 0#32 pre suf a b x y).2 h)
  · rcases Nat.lt_or_ge k l.length with h2 | h2
    · obtain ⟨pre, a, rfl, rfl⟩ : ∃ pre a, l = pre ++ [a] ∧ pre.length = k := by
        refine ⟨l.take k, l[k], ?_, by simp; omega⟩
        have e1 : l.drop k = l[k] :: l.drop (k + 1) := List.drop_eq_getElem_cons h2
        have e2 : l.drop (k + 1) = [] := List.drop_of_length_le (by omega)
        rw [← e2, ← e1, List.take_append_drop]
      obtain ⟨f1, f2, f3, hf, hg⟩ := four_top (CrcP.sum (pre ++ [a])) y
      have e : putL (pre ++ [a]) = pre ++ a :: byt (V (CrcP.sum (pre ++ [a])) / 16777216) :: [f1, f2, f3] := by rw [putL, hf]; simp
      rw [e, bend_split]
      have e2 : pre ++ (a ^^^ x) :: (byt (V (CrcP.sum (pre ++ [a])) / 16777216) ^^^ y) :: [f1, f2, f3] = (pre ++ [a ^^^ x]) ++ four (CrcP.sum (pre ++ [a]) ^^^ CrcP.bw y <<< 24) := by rw [hg]; simp
      rw [e2, rt_iff _ _ (four_len _)]
      constructor
      · intro h
        have h := four_inj h
        rw [sum_last] at h
        refine CrcP.edge_zero ?_
        have h2 := congrArg (CrcP.sum (pre ++ [a]) ^^^ ·) h
        simpa only [← BitVec.xor_assoc, BitVec.xor_self, BitVec.zero_xor] using h2
      · rintro ⟨rfl, rfl⟩
        have e3 : CrcP.bw 0 <<< 24 = 0#32 := by decide
        simp [e3]
    · have hlt : k + 1 < (putL l).length := by rw [putL_len]; omega
      obtain ⟨j, hj, hj3⟩ : ∃ j, k = l.length + j ∧ j < 3 := ⟨k - l.length, by omega, by omega⟩
      subst hj
      obtain ⟨p, a, b, s, hf, hp⟩ := split_at (q := four (CrcP.sum l)) (k := j) (by rw [four_len]; omega)
      have e : putL l = (l ++ p) ++ a :: b :: s := by rw [putL, hf]; simp
      have hl : l.length + j = (l ++ p).length := by simp [hp]
      have e2 : bend (putL l) (l.length + j) x y = l ++ (p ++ (a ^^^ x) :: (b ^^^ y) :: s) := by rw [e, hl, bend_split]; simp
      have hlen : (p ++ (a ^^^ x) :: (b ^^^ y) :: s).length = 4 := by
        have := four_len (CrcP.sum l)
        rw [hf] at this
        simpa using this
      rw [e2, rt_iff _ _ hlen, hf, List.append_right_inj]
      simp only [List.cons.injEq, and_true]
      rw [eq_xor_right, eq_xor_right]
theorem right_put (A : Option Addr) (n c m : Nat) (l : List UInt8) (w : World) (hr : Rd w A n c (putL l)) (hm : m = l.length) (hn2 : n ≤ 1000000) :
    Calls Try.prog 17 #[.slice A n c] w fun e w' => ∃ A' c', e = .returned (.tuple #[.slice A' m c', .bool true]) ∧ Own w' w.heap.size 5 A' m c' l ∧ Below w.heap.size w w' := by
  have hl := hr.1
  rw [putL_len] at hl
  have e : n - 4 = l.length := by omega
  have et : (putL l).take (n - 4) = l := by rw [e, putL_take]
  have h := right_yes A n c (putL l) w hr (by omega) hn2 (by rw [et])
  rw [et] at h
  subst hm
  rw [e] at h
  exact h
/-- what is not right -/
theorem right_not (A : Option Addr) (n c : Nat) (l : List UInt8) (w : World) (hr : Rd w A n c l) (hn : 4 ≤ n) (hn2 : n ≤ 1000000) (he : ¬ Rt l) :
    Calls Try.prog 17 #[.slice A n c] w fun e w' => e = .returned (.tuple #[.slice none 0 0, .bool false]) ∧ Below w.heap.size w w' :=
  right_no A n c l w hr hn hn2 (by unfold Rt at he; rw [hr.1] at he; exact he)
theorem right_is (A : Option Addr) (n c : Nat) (l : List UInt8) (w : World) (hr : Rd w A n c l) (hn : 4 ≤ n) (hn2 : n ≤ 1000000) (he : Rt l) :
    Calls Try.prog 17 #[.slice A n c] w fun e w' => ∃ A' c', e = .returned (.tuple #[.slice A' (n - 4) c', .bool true]) ∧ Own w' w.heap.size 5 A' (n - 4) c' (l.take (n - 4)) ∧ Below w.heap.size w w' :=
  right_yes A n c l w hr hn hn2 (by unfold Rt at he; rw [hr.1] at he; exact he)
theorem xor_u8 (a b : UInt8) : bits .xor .u8 (a.toNat : Int) (b.toNat : Int) = ((a ^^^ b).toNat : Int) := by
  rw [u8_xor_nat _ _ a.toNat_lt b.toNat_lt, UInt8.toNat_xor]
end Go.Proofs.Ytackfepoomdpdaa
