/- The plain law of the soliton table: roots, weights, their sums, and which number chance picks. No program in sight. -/
namespace Go.Proofs.Ytlbfgihnmkcgbaa

/-- the greatest number whose square is at most n, for n of 1 and more -/
def IsRoot (n r : Nat) : Prop := 1 ≤ r ∧ r * r ≤ n ∧ n < (r + 1) * (r + 1)
theorem IsRoot.same {n r s : Nat} (h : IsRoot n r) (k : IsRoot n s) : r = s := by
  obtain ⟨_, h2, h3⟩ := h
  obtain ⟨_, k2, k3⟩ := k
  have a : r < s + 1 := by
    rcases Nat.lt_or_ge r (s + 1) with h | h
    · exact h
    · have := Nat.mul_le_mul h h
      omega
  have b : s < r + 1 := by
    rcases Nat.lt_or_ge s (r + 1) with h | h
    · exact h
    · have := Nat.mul_le_mul h h
      omega
  omega
/-- the root of a small number -/
def rt (n : Nat) : Nat := (List.range 9).countP fun k => decide ((k + 1) * (k + 1) ≤ n)
theorem rt_is : ∀ n, n < 81 → 1 ≤ n → IsRoot n (rt n) := by unfold IsRoot; decide +kernel

/-- a number's weight -/
def plainW (n d : Nat) : Nat := if 1 < d then 1048576 / (d * (d - 1)) else 1048576 / n
def wt (n d : Nat) : Nat :=
  plainW n d + (if d < n / rt n then 262144 * rt n / (d * n) else if d = n / rt n then 524288 * rt n / n else 0)
/-- the weights' sums -/
def sums (n : Nat) : Nat → Nat
  | 0 => 0
  | k + 1 => sums n k + wt n (k + 1)
def good (n : Nat) : Bool := decide (sums n n ≤ 4294967296) && (List.range n).all fun k => decide (0 < wt n (k + 1) ∧ wt n (k + 1) < 4294967296)
theorem good_all : ∀ n, n < 81 → 1 ≤ n → good n = true := by decide +kernel
theorem sums_le {n : Nat} (h0 : 1 ≤ n) (h1 : n ≤ 80) : sums n n ≤ 4294967296 := by
  have h := good_all n (by omega) h0
  unfold good at h
  simp only [Bool.and_eq_true, decide_eq_true_eq] at h
  exact h.1
theorem wt_pos {n d : Nat} (h0 : 1 ≤ n) (h1 : n ≤ 80) (hd0 : 1 ≤ d) (hd : d ≤ n) : 0 < wt n d ∧ wt n d < 4294967296 := by
  have h := good_all n (by omega) h0
  unfold good at h
  simp only [Bool.and_eq_true, decide_eq_true_eq, List.all_eq_true, List.mem_range] at h
  have := h.2 (d - 1) (by omega)
  rwa [show d - 1 + 1 = d by omega] at this
theorem sums_mono (n : Nat) {a b : Nat} (h : a ≤ b) : sums n a ≤ sums n b := by
  induction b with
  | zero => rw [Nat.le_zero.1 h]; exact Nat.le_refl _
  | succ b ih =>
    rcases Nat.lt_or_ge a (b + 1) with h2 | h2
    · exact Nat.le_trans (ih (by omega)) (by simp [sums])
    · rw [show a = b + 1 by omega]; exact Nat.le_refl _
theorem sums_lt {n a b : Nat} (h0 : 1 ≤ n) (h1 : n ≤ 80) (h : a < b) (hb : b ≤ n) : sums n a < sums n b := by
  have h2 := sums_mono n (show a + 1 ≤ b from h)
  have h3 := (wt_pos h0 h1 (d := a + 1) (by omega) (by omega)).1
  simp only [sums] at h2
  omega
theorem sums_pos {n : Nat} (h0 : 1 ≤ n) (h1 : n ≤ 80) : 0 < sums n n := by
  have := sums_lt h0 h1 (a := 0) (b := n) (by omega) (Nat.le_refl _)
  simpa [sums] using this

/-- where chance's number stands -/
def place (n x : Nat) : Nat := x * sums n n / 4294967296
/-- r is what chance picks: all sums ahead of it are not above the place, those from it on are -/
def IsDeg (n x r : Nat) : Prop := 1 ≤ r ∧ (∀ t, 1 ≤ t → t < r → sums n t ≤ place n x) ∧ (∀ t, r ≤ t → t ≤ n → place n x < sums n t) ∧ r ≤ n + 1
theorem place_lt {n x : Nat} (h0 : 1 ≤ n) (h1 : n ≤ 80) (hx : x < 4294967296) : place n x < sums n n := by
  unfold place
  have := sums_pos h0 h1
  rw [Nat.div_lt_iff_lt_mul (by omega), Nat.mul_comm]
  exact Nat.mul_lt_mul_of_pos_left hx this
theorem IsDeg.le {n x r : Nat} (h : IsDeg n x r) (h0 : 1 ≤ n) (h1 : n ≤ 80) (hx : x < 4294967296) : r ≤ n := by
  rcases Nat.lt_or_ge n r with k | k
  · have a := h.2.1 n h0 k
    have b := place_lt h0 h1 hx
    omega
  · exact k
theorem IsDeg.rises {n x y r s : Nat} (h : IsDeg n x r) (k : IsDeg n y s) (h0 : 1 ≤ n) (h1 : n ≤ 80) (hx : x < 4294967296) (hxy : x ≤ y) : r ≤ s := by
  rcases Nat.lt_or_ge s r with g | g
  · have hr := h.le h0 h1 hx
    have a := h.2.1 s k.1 g
    have b := k.2.2.1 s (Nat.le_refl _) (by omega)
    have c : place n x ≤ place n y := Nat.div_le_div_right (Nat.mul_le_mul_right _ hxy)
    omega
  · exact g
theorem IsDeg.same {n x r s : Nat} (h : IsDeg n x r) (k : IsDeg n x s) (h0 : 1 ≤ n) (h1 : n ≤ 80) (hx : x < 4294967296) : r = s :=
  Nat.le_antisymm (h.rises k h0 h1 hx (Nat.le_refl _)) (k.rises h h0 h1 hx (Nat.le_refl _))
theorem IsDeg.zero {n r : Nat} (h : IsDeg n 0 r) (h0 : 1 ≤ n) (h1 : n ≤ 80) : r = 1 := by
  have h2 := h.1
  rcases Nat.lt_or_ge 1 r with g | g
  · have a := h.2.1 1 (by omega) g
    have b := sums_lt h0 h1 (a := 0) (b := 1) (by omega) h0
    simp [place, sums] at a b
    omega
  · omega
theorem IsDeg.above {n x r d : Nat} (h : IsDeg n x r) (hd : d ≤ n) (hp : sums n d ≤ place n x) : d < r := by
  rcases Nat.lt_or_ge d r with g | g
  · exact g
  · have := h.2.2.1 d g hd; omega
theorem IsDeg.below {n x r d : Nat} (h : IsDeg n x r) (hd0 : 1 ≤ d) (hp : place n x < sums n d) : r ≤ d := by
  rcases Nat.lt_or_ge d r with g | g
  · have := h.2.1 d hd0 g; omega
  · exact g

/-- the edge of a share -/
def edge (n d : Nat) : Nat := (sums n d * 4294967296 + sums n n - 1) / sums n n
theorem edge_big {n d : Nat} (h0 : 1 ≤ n) (h1 : n ≤ 80) (hd : d ≤ n) (he : 4294967295 < edge n d) : d = n := by
  have hp := sums_pos h0 h1
  have hs := sums_le h0 h1
  rcases Nat.lt_or_ge d n with g | g
  · exfalso
    have h2 := sums_lt h0 h1 g (Nat.le_refl _)
    have : edge n d < 4294967296 := by
      unfold edge
      rw [Nat.div_lt_iff_lt_mul hp, Nat.mul_comm 4294967296]
      have h3 : (sums n d + 1) * 4294967296 ≤ sums n n * 4294967296 := Nat.mul_le_mul_right _ h2
      omega
    omega
  · omega
theorem edge_at {n d : Nat} (h0 : 1 ≤ n) (h1 : n ≤ 80) : sums n d ≤ place n (edge n d) := by
  have hp := sums_pos h0 h1
  unfold place
  rw [Nat.le_div_iff_mul_le (by omega)]
  unfold edge
  have h2 := Nat.div_add_mod (sums n d * 4294967296 + sums n n - 1) (sums n n)
  have h3 := Nat.mod_lt (sums n d * 4294967296 + sums n n - 1) hp
  rw [Nat.mul_comm (sums n n)] at h2
  omega
theorem edge_ahead {n d : Nat} (h0 : 1 ≤ n) (h1 : n ≤ 80) (he : edge n d ≠ 0) : place n (edge n d - 1) < sums n d := by
  have hp := sums_pos h0 h1
  unfold place
  rw [Nat.div_lt_iff_lt_mul (by omega)]
  have h2 := Nat.div_mul_le_self (sums n d * 4294967296 + sums n n - 1) (sums n n)
  have h3 : edge n d * sums n n = (edge n d - 1) * sums n n + sums n n := by
    obtain ⟨e, he'⟩ : ∃ e, edge n d = e + 1 := ⟨edge n d - 1, by omega⟩
    rw [he', Nat.add_sub_cancel, Nat.succ_mul]
  unfold edge at h3 ⊢
  omega
theorem spike_pos {n : Nat} (h0 : 1 ≤ n) (h1 : n ≤ 80) : 0 < 524288 * rt n / n := by
  have := (rt_is n (by omega) h0).1
  rw [Nat.div_pos_iff]
  omega
end Go.Proofs.Ytlbfgihnmkcgbaa
