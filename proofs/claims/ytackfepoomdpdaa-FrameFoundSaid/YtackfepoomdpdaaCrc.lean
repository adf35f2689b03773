/- Plain facts of CRC-32 over words of 32 bits: it is linear, each step can be taken back, four bytes changed side by side are told. No program in sight; no condition. -/
namespace Go.Proofs.Ytackfepoomdpdaa
namespace CrcP
abbrev W := BitVec 32
def poly : W := 0xedb88320#32
def st (c : W) : W := (c >>> 1) ^^^ (if c.getLsbD 0 then poly else 0#32)
def st8 (c : W) : W := st (st (st (st (st (st (st (st c)))))))
def up (c : W) (x : UInt8) : W := st8 (c ^^^ (x.toBitVec.setWidth 32))
def run (c : W) (l : List UInt8) : W := l.foldl up c
def add (s : W) (l : List UInt8) : W := ~~~ (run (~~~ s) l)
def sum (l : List UInt8) : W := add 0#32 l

theorem st_xor (a b : W) : st (a ^^^ b) = st a ^^^ st b := by
  unfold st
  have h : (a ^^^ b).getLsbD 0 = (a.getLsbD 0 ^^ b.getLsbD 0) := by simp
  rw [h]
  rw [BitVec.ushiftRight_xor_distrib]
  generalize a >>> 1 = x
  generalize b >>> 1 = y
  generalize poly = p
  cases a.getLsbD 0 <;> cases b.getLsbD 0 <;> simp only [Bool.xor_false, Bool.xor_true, Bool.not_true, Bool.not_false, if_true, if_false, BitVec.xor_zero, Bool.false_eq_true]
  · rw [BitVec.xor_assoc]
  · rw [BitVec.xor_assoc, BitVec.xor_assoc, BitVec.xor_comm y p]
  · rw [BitVec.xor_assoc x p, ← BitVec.xor_assoc p y p, BitVec.xor_comm p y, BitVec.xor_assoc y p p, BitVec.xor_self, BitVec.xor_zero]
theorem st8_xor (a b : W) : st8 (a ^^^ b) = st8 a ^^^ st8 b := by simp only [st8, st_xor]
theorem st_msb (c : W) : (st c).getLsbD 31 = c.getLsbD 0 := by
  unfold st
  cases h : c.getLsbD 0 <;> simp [poly]
theorem st_zero {c : W} (h : st c = 0#32) : c = 0#32 := by
  have h0 : c.getLsbD 0 = false := by rw [← st_msb, h]; simp
  unfold st at h
  rw [h0] at h
  simp only [Bool.false_eq_true, if_false, BitVec.xor_zero] at h
  apply BitVec.eq_of_getLsbD_eq
  intro i hi
  rcases Nat.eq_zero_or_pos i with rfl | hp
  · simpa using h0
  · have := congrArg (fun b : W => b.getLsbD (i - 1)) h
    simp only [BitVec.getLsbD_ushiftRight] at this
    rw [show 1 + (i - 1) = i by omega] at this
    simpa using this
theorem st8_zero {c : W} (h : st8 c = 0#32) : c = 0#32 := by
  unfold st8 at h
  exact st_zero (st_zero (st_zero (st_zero (st_zero (st_zero (st_zero (st_zero h)))))))
theorem st_0 : st 0#32 = 0#32 := by decide
theorem st8_0 : st8 0#32 = 0#32 := by decide
example : sum [49,50,51,52,53,54,55,56,57] = 0xcbf43926#32 := by decide +kernel

theorem st_inj {a b : W} (h : st a = st b) : a = b := by
  have : st (a ^^^ b) = 0#32 := by rw [st_xor, h, BitVec.xor_self]
  exact BitVec.xor_eq_zero_iff.1 (st_zero this)
theorem st8_inj {a b : W} (h : st8 a = st8 b) : a = b := by
  have : st8 (a ^^^ b) = 0#32 := by rw [st8_xor, h, BitVec.xor_self]
  exact BitVec.xor_eq_zero_iff.1 (st8_zero this)
theorem xor_cancel_right {a b x : W} (h : a ^^^ x = b ^^^ x) : a = b := by
  have h2 := congrArg (· ^^^ x) h
  simpa only [BitVec.xor_assoc, BitVec.xor_self, BitVec.xor_zero] using h2
theorem up_inj {a b : W} {x : UInt8} (h : up a x = up b x) : a = b := xor_cancel_right (st8_inj h)
theorem run_nil (c : W) : run c [] = c := rfl
theorem run_cons (c : W) (x : UInt8) (l : List UInt8) : run c (x :: l) = run (up c x) l := rfl
theorem run_append (c : W) (a b : List UInt8) : run c (a ++ b) = run (run c a) b := by simp [run, List.foldl_append]
theorem run_inj {l : List UInt8} : ∀ {a b : W}, run a l = run b l → a = b := by
  induction l with
  | nil => intro a b h; exact h
  | cons x l ih => intro a b h; exact up_inj (ih h)
theorem add_append (s : W) (a b : List UInt8) : add (add s a) b = add s (a ++ b) := by
  simp [add, run_append]
theorem add_nil (s : W) : add s [] = s := by simp [add, run_nil]
theorem not_inj {a b : W} (h : ~~~ a = ~~~ b) : a = b := by
  have := congrArg (~~~ ·) h
  simpa using this
theorem add_inj {a b : W} {l : List UInt8} (h : add a l = add b l) : a = b := not_inj (run_inj (not_inj h))
/-- byte to word -/
def bw (x : UInt8) : W := x.toBitVec.setWidth 32
theorem bw_xor (x y : UInt8) : bw (x ^^^ y) = bw x ^^^ bw y := by simp [bw]
theorem up_xor (a b : W) (x y : UInt8) : up (a ^^^ b) (x ^^^ y) = up a x ^^^ up b y := by
  unfold up
  rw [← st8_xor]
  congr 1
  show _ ^^^ bw (x ^^^ y) = (_ ^^^ bw x) ^^^ (_ ^^^ bw y)
  rw [bw_xor]
  ac_rfl
theorem run_xor : ∀ (l m : List UInt8), l.length = m.length → ∀ a b : W, run (a ^^^ b) (List.zipWith (· ^^^ ·) l m) = run a l ^^^ run b m := by
  intro l
  induction l with
  | nil => intro m h a b; cases m with
    | nil => rfl
    | cons => simp at h
  | cons x l ih => intro m h a b; cases m with
    | nil => simp at h
    | cons y m =>
      simp only [List.zipWith_cons_cons, run_cons, up_xor]
      exact ih m (by simpa using h) _ _
/-- three of one length -/
theorem sum_linear (a x y : List UInt8) (hx : x.length = a.length) (hy : y.length = a.length) :
    sum a ^^^ sum x ^^^ sum y = sum (List.zipWith (· ^^^ ·) (List.zipWith (· ^^^ ·) a x) y) := by
  simp only [sum, add, BitVec.not_zero]
  have e : (BitVec.allOnes 32) = (BitVec.allOnes 32 ^^^ BitVec.allOnes 32) ^^^ BitVec.allOnes 32 := by decide
  conv => rhs; rw [e]
  rw [run_xor _ _ (by simp [hx, hy]), run_xor _ _ (by omega)]
  simp only [← BitVec.xor_allOnes]
  generalize BitVec.allOnes 32 = o
  generalize run o a = p
  generalize run o x = q
  generalize run o y = r
  have : (p ^^^ o) ^^^ (q ^^^ o) ^^^ (r ^^^ o) = (p ^^^ q ^^^ r) ^^^ (o ^^^ o) ^^^ o := by ac_rfl
  rw [this, BitVec.xor_self, BitVec.xor_zero]
theorem shl_toNat {v : W} (h : v.toNat < 2 ^ 24) {k : Nat} (hk : k ≤ 8) : (v <<< k).toNat = v.toNat * 2 ^ k := by
  rw [BitVec.toNat_shiftLeft, Nat.shiftLeft_eq]
  apply Nat.mod_eq_of_lt
  have : 2 ^ k ≤ 2 ^ 8 := Nat.pow_le_pow_right (by omega) hk
  calc v.toNat * 2 ^ k < 2 ^ 24 * 2 ^ k := Nat.mul_lt_mul_of_pos_right h (Nat.two_pow_pos k)
    _ ≤ 2 ^ 24 * 2 ^ 8 := Nat.mul_le_mul_left _ this
    _ = 2 ^ 32 := by decide
theorem st_shl {v : W} (h : v.toNat < 2 ^ 24) {k : Nat} (hk : k + 1 ≤ 8) : st (v <<< (k + 1)) = v <<< k := by
  unfold st
  have h0 : (v <<< (k + 1)).getLsbD 0 = false := by simp
  rw [h0]
  simp only [Bool.false_eq_true, if_false, BitVec.xor_zero]
  apply BitVec.eq_of_toNat_eq
  rw [BitVec.toNat_ushiftRight, shl_toNat h hk, shl_toNat h (by omega), Nat.shiftRight_eq_div_pow, Nat.pow_succ, ← Nat.mul_assoc, Nat.pow_one, Nat.mul_div_cancel _ (by omega)]
theorem st8_shl {v : W} (h : v.toNat < 2 ^ 24) : st8 (v <<< 8) = v := by
  unfold st8
  rw [st_shl h (k := 7) (by omega), st_shl h (k := 6) (by omega), st_shl h (k := 5) (by omega), st_shl h (k := 4) (by omega), st_shl h (k := 3) (by omega),
    st_shl h (k := 2) (by omega), st_shl h (k := 1) (by omega), st_shl h (k := 0) (by omega)]
  simp
theorem bw_toNat (x : UInt8) : (bw x).toNat = x.toNat := by
  simp [bw]
theorem bw_lt (x : UInt8) : (bw x).toNat < 2 ^ 8 := by rw [bw_toNat]; exact x.toNat_lt
theorem bw_inj {x : UInt8} (h : bw x = 0#32) : x = 0 := by
  have := bw_toNat x
  rw [h] at this
  exact UInt8.toNat_inj.1 (by simpa using this.symm)
/-- four bytes taken in, from nothing: they are nothing -/
theorem shl_lt {v : W} {n k : Nat} (h : v.toNat < 2 ^ n) (_hn : n + k ≤ 32) : (v <<< k).toNat < 2 ^ (n + k) := by
  rw [BitVec.toNat_shiftLeft, Nat.shiftLeft_eq]
  calc v.toNat * 2 ^ k % 2 ^ 32 ≤ v.toNat * 2 ^ k := Nat.mod_le _ _
    _ < 2 ^ n * 2 ^ k := Nat.mul_lt_mul_of_pos_right h (Nat.two_pow_pos k)
    _ = 2 ^ (n + k) := (Nat.pow_add ..).symm
theorem xor_lt {v u : W} {n : Nat} (h : v.toNat < 2 ^ n) (g : u.toNat < 2 ^ n) : (v ^^^ u).toNat < 2 ^ n := by
  rw [BitVec.toNat_xor]; exact Nat.xor_lt_two_pow h g
theorem lt_mono {v : W} {n m : Nat} (h : v.toNat < 2 ^ n) (g : n ≤ m) : v.toNat < 2 ^ m := Nat.lt_of_lt_of_le h (Nat.pow_le_pow_right (by omega) g)
theorem xor_move {a b c : W} (h : a ^^^ b = c) : a = c ^^^ b := by rw [← h, BitVec.xor_assoc, BitVec.xor_self, BitVec.xor_zero]
/-- one step back: what came to v, and a byte, out of eight steps -/
theorem back {t v : W} {d : UInt8} (h : st8 t ^^^ bw d = v) (hv : v.toNat < 2 ^ 24) : t = v <<< 8 ^^^ bw d <<< 8 := by
  have h1 := xor_move h
  have hl : (v ^^^ bw d).toNat < 2 ^ 24 := xor_lt hv (lt_mono (bw_lt d) (by omega))
  rw [← st8_shl hl] at h1
  have h2 := st8_inj h1
  rw [h2, BitVec.shiftLeft_xor_distrib]
theorem low_split {d : UInt8} {v : W} (h : bw d = v <<< 8) : d = 0 ∧ v <<< 8 = 0#32 := by
  have h1 := congrArg (fun b : W => b.toNat % 2 ^ 8) h
  simp only [bw_toNat, BitVec.toNat_shiftLeft, Nat.shiftLeft_eq] at h1
  have := d.toNat_lt
  have : d.toNat = 0 := by omega
  have hd : d = 0 := UInt8.toNat_inj.1 (by simpa using this)
  refine ⟨hd, ?_⟩
  rw [← h, hd]; rfl
theorem shl8_zero {v : W} (h : v <<< 8 = 0#32) (hv : v.toNat < 2 ^ 24) : v = 0#32 := by
  have := congrArg st8 h
  rwa [st8_shl hv, st8_0] at this
theorem four_zero {d0 d1 d2 d3 : UInt8} (h : run 0#32 [d0, d1, d2, d3] = 0#32) : d0 = 0 ∧ d1 = 0 ∧ d2 = 0 ∧ d3 = 0 := by
  have h3 := st8_zero (show st8 (st8 (st8 (st8 (0#32 ^^^ bw d0) ^^^ bw d1) ^^^ bw d2) ^^^ bw d3) = 0#32 from h)
  have h2 := back h3 (by decide)
  have e2 : (0#32 <<< 8 ^^^ bw d3 <<< 8).toNat < 2 ^ 16 := xor_lt (by decide) (shl_lt (n := 8) (bw_lt d3) (by omega))
  have h1 := back h2 (lt_mono e2 (by omega))
  have e1 : ((0#32 <<< 8 ^^^ bw d3 <<< 8) <<< 8 ^^^ bw d2 <<< 8).toNat < 2 ^ 24 := xor_lt (shl_lt (n := 16) e2 (by omega)) (lt_mono (shl_lt (n := 8) (bw_lt d2) (by omega)) (by omega))
  have h0 := back h1 e1
  rw [BitVec.zero_xor, ← BitVec.shiftLeft_xor_distrib] at h0
  obtain ⟨z0, q0⟩ := low_split h0
  have e0 : ((0#32 <<< 8 ^^^ bw d3 <<< 8) <<< 8 ^^^ bw d2 <<< 8 ^^^ bw d1).toNat < 2 ^ 24 := xor_lt e1 (lt_mono (bw_lt d1) (by omega))
  have q1 := shl8_zero q0 e0
  rw [← BitVec.shiftLeft_xor_distrib] at q1
  obtain ⟨z1, q1⟩ := low_split (xor_move (by rw [BitVec.xor_comm]; exact q1) |>.trans (BitVec.zero_xor))
  have e1' : (0#32 <<< 8 ^^^ bw d3 <<< 8 ^^^ bw d2).toNat < 2 ^ 24 := xor_lt (lt_mono e2 (by omega)) (lt_mono (bw_lt d2) (by omega))
  have q2 := shl8_zero q1 e1'
  rw [BitVec.zero_shiftLeft, BitVec.zero_xor] at q2
  obtain ⟨z2, q2⟩ := low_split (xor_move (by rw [BitVec.xor_comm]; exact q2) |>.trans (BitVec.zero_xor))
  exact ⟨z0, z1, z2, bw_inj (shl8_zero q2 (lt_mono (bw_lt d3) (by omega)))⟩
/-- two texts of one length from one start: the same end iff their sum comes to nothing from nothing -/
theorem run_eq_iff (c : W) (l m : List UInt8) (h : l.length = m.length) : run c l = run c m ↔ run 0#32 (List.zipWith (· ^^^ ·) l m) = 0#32 := by
  have := run_xor l m h c c
  rw [BitVec.xor_self] at this
  rw [this, BitVec.xor_eq_zero_iff]
theorem xor_eq_self {a x : UInt8} (h : a ^^^ (a ^^^ x) = 0) : x = 0 := by
  rwa [← UInt8.xor_assoc, UInt8.xor_self, UInt8.zero_xor] at h
/-- four bytes side by side are changed: the sum is the same just if none is -/
theorem burst (s : W) (pre suf : List UInt8) (b0 b1 b2 b3 x0 x1 x2 x3 : UInt8) :
    add s (pre ++ [b0 ^^^ x0, b1 ^^^ x1, b2 ^^^ x2, b3 ^^^ x3] ++ suf) = add s (pre ++ [b0, b1, b2, b3] ++ suf) ↔ x0 = 0 ∧ x1 = 0 ∧ x2 = 0 ∧ x3 = 0 := by
  constructor
  · intro h
    rw [← add_append, ← add_append, ← add_append, ← add_append] at h
    have h := add_inj h
    have h := not_inj h
    have h := (run_eq_iff _ _ _ (by rfl)).1 h.symm
    obtain ⟨z0, z1, z2, z3⟩ := four_zero h
    exact ⟨xor_eq_self z0, xor_eq_self z1, xor_eq_self z2, xor_eq_self z3⟩
  · rintro ⟨rfl, rfl, rfl, rfl⟩
    simp
theorem two_zero {d0 d1 : UInt8} (h : run 0#32 [d0, d1] = 0#32) : d0 = 0 ∧ d1 = 0 := by
  have := four_zero (d0 := 0) (d1 := 0) (d2 := d0) (d3 := d1) (by
    have e : up (up 0#32 0) 0 = 0#32 := by decide
    simp only [run_cons, e] at *
    exact h)
  exact ⟨this.2.2.1, this.2.2.2⟩
theorem one_zero {d0 : UInt8} (h : run 0#32 [d0] = 0#32) : d0 = 0 := by
  have := two_zero (d0 := 0) (d1 := d0) (by
    have e : up 0#32 0 = 0#32 := by decide
    simp only [run_cons, e] at *
    exact h)
  exact this.2
theorem two (s : W) (pre suf : List UInt8) (b0 b1 x0 x1 : UInt8) :
    add s (pre ++ [b0 ^^^ x0, b1 ^^^ x1] ++ suf) = add s (pre ++ [b0, b1] ++ suf) ↔ x0 = 0 ∧ x1 = 0 := by
  constructor
  · intro h
    rw [← add_append, ← add_append, ← add_append, ← add_append] at h
    have h := (run_eq_iff _ _ _ (by rfl)).1 (not_inj (add_inj h)).symm
    obtain ⟨z0, z1⟩ := two_zero h
    exact ⟨xor_eq_self z0, xor_eq_self z1⟩
  · rintro ⟨rfl, rfl⟩
    simp
/-- one byte's way, its low bits: by trying all -/
theorem low_one : ∀ n : Fin 256, (st8 (BitVec.ofNat 32 n.val)).setWidth 24 = 0#24 → n = 0 := by decide +kernel
theorem edge_zero {d y : UInt8} (h : run 0#32 [d] = bw y <<< 24) : d = 0 ∧ y = 0 := by
  have h0 : st8 (bw d) = bw y <<< 24 := by
    have : run 0#32 [d] = st8 (0#32 ^^^ bw d) := rfl
    rw [← h, this, BitVec.zero_xor]
  have h1 : (st8 (bw d)).setWidth 24 = 0#24 := by
    rw [h0]
    apply BitVec.eq_of_toNat_eq
    simp only [BitVec.toNat_setWidth, BitVec.toNat_shiftLeft, Nat.shiftLeft_eq, BitVec.toNat_ofNat]
    have : (bw y).toNat < 2 ^ 8 := bw_lt y
    omega
  have e : bw d = BitVec.ofNat 32 d.toNat := BitVec.eq_of_toNat_eq (by rw [bw_toNat]; have := d.toNat_lt; simp)
  rw [e] at h1
  have := low_one ⟨d.toNat, d.toNat_lt⟩ h1
  have hd : d = 0 := UInt8.toNat_inj.1 (by simpa using congrArg Fin.val this)
  subst hd
  refine ⟨rfl, ?_⟩
  rw [show bw 0 = 0#32 from rfl, st8_0] at h0
  have := congrArg BitVec.toNat h0
  rw [BitVec.toNat_shiftLeft, bw_toNat, Nat.shiftLeft_eq] at this
  have hy := y.toNat_lt
  have : y.toNat = 0 := by simp at this; omega
  exact UInt8.toNat_inj.1 (by simpa using this)
end CrcP
end Go.Proofs.Ytackfepoomdpdaa
