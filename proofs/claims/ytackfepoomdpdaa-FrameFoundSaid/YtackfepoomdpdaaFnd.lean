/- Plain facts of frames one behind the other with quiet noise between; a frame with one byte changed; memory words for them. No condition. -/
import Derived.Test.YtackfepoomdpdaaNone
namespace Go.Proofs.Ytackfepoomdpdaa
open Go.RowKit

theorem set_self (q : List UInt8) (k : Nat) : q.set k (q.getD k 0) = q := by
  apply List.ext_getElem?
  intro i
  rw [List.getElem?_set]
  split
  · rename_i h
    subst h
    split
    · rename_i h2
      rw [List.getD_eq_getElem?_getD, List.getElem?_eq_getElem h2]; rfl
    · rename_i h2
      rw [List.getElem?_eq_none (by omega)]
  · rfl
theorem bend_first (q : List UInt8) (k : Nat) (x : UInt8) : bend q k x 0 = q.set k (q.getD k 0 ^^^ x) := by
  unfold bend
  have h : (q.getD (k + 1) 0 ^^^ (0 : UInt8)) = q.getD (k + 1) 0 := by simp
  rw [h]
  rcases Nat.lt_or_ge (k + 1) q.length with h1 | h1
  · rw [List.set_comm _ _ (by omega), set_self]
  · rw [List.set_eq_of_length_le (by rw [List.length_set]; omega)]
theorem bend_second (q : List UInt8) (k : Nat) (x : UInt8) : bend q k 0 x = q.set (k + 1) (q.getD (k + 1) 0 ^^^ x) := by
  unfold bend
  have h : (q.getD k 0 ^^^ (0 : UInt8)) = q.getD k 0 := by simp
  rw [h, set_self]
/-- one byte changed: right just if it is not changed -/
theorem told_one (l : List UInt8) (k : Nat) (hk : k < l.length + 4) (x : UInt8) : Rt ((putL l).set k ((putL l).getD k 0 ^^^ x)) ↔ x = 0 := by
  rcases Nat.lt_or_ge k (l.length + 3) with h | h
  · rw [← bend_first, told l k h]
    exact ⟨fun h => h.1, fun h => ⟨h, rfl⟩⟩
  · obtain ⟨j, rfl⟩ : ∃ j, k = j + 1 := ⟨k - 1, by omega⟩
    rw [← bend_second, told l j (by omega)]
    exact ⟨fun h => h.2, fun h => ⟨rfl, h⟩⟩
theorem unw_bent (k : Int) (d : List UInt8) (j : Nat) (x : UInt8) (h0 : 0 ≤ k) (h1 : k ≤ 255) (h2 : d.length ≤ 291) (hj : j < d.length + 7) :
    (unw ((wrapL k d).set (2 + j) ((wrapL k d).getD (2 + j) 0 ^^^ x))).2.2 = 0 ↔ x = 0 := by
  constructor
  · intro h
    have h3 := (unw_zero h).2.2.2.2
    have h4 := ((rOk_iff _).1 h3).2
    have e : ((wrapL k d).set (2 + j) ((wrapL k d).getD (2 + j) 0 ^^^ x)).drop 2 = (putL (innerL k d)).set j ((putL (innerL k d)).getD j 0 ^^^ x) := by
      have e2 : (wrapL k d).getD (2 + j) 0 = (putL (innerL k d)).getD j 0 := by
        rw [← wrapL_drop2, List.getD_eq_getElem?_getD, List.getD_eq_getElem?_getD, List.getElem?_drop]
      rw [e2, ← wrapL_drop2]
      rw [List.drop_set, if_neg (by omega), Nat.add_sub_cancel_left]
    rw [e] at h4
    exact (told_one _ _ (by rw [innerL_len]; omega) x).1 h4
  · rintro rfl
    have h : ((wrapL k d).getD (2 + j) 0 ^^^ (0 : UInt8)) = (wrapL k d).getD (2 + j) 0 := by simp
    rw [h, set_self, unw_wrap k d h0 h1 h2]

/-- a frame -/
def IsF (f : List UInt8) : Prop := ∃ k d, f = wrapL k d ∧ 0 ≤ k ∧ k ≤ 255 ∧ d.length ≤ 291
theorem beg_wrap (k : Int) (d r : List UInt8) (h0 : 0 ≤ k) (h1 : k ≤ 255) (h2 : d.length ≤ 291) : beg (wrapL k d ++ r) = some (wrapL k d).length := by
  have hl := wrapL_len k d
  have hg := (wrap_is_good k d h2).says
  have e1 : (wrapL k d ++ r).getD 3 0 = (wrapL k d).getD 3 0 := by simp only [List.getD_eq_getElem?_getD]; rw [List.getElem?_append_left (by omega)]
  have e2 : (wrapL k d ++ r).getD 4 0 = (wrapL k d).getD 4 0 := by simp only [List.getD_eq_getElem?_getD]; rw [List.getElem?_append_left (by omega)]
  have e3 : lenOf (wrapL k d ++ r) = (wrapL k d).length := by rw [hl, ← hg]; unfold lenOf; rw [e1, e2]
  unfold beg
  rw [e3, List.take_left' rfl, if_neg (by rw [List.length_append]; omega), unw_wrap k d h0 h1 h2]
  rfl
theorem scan_skips : ∀ (q : List UInt8) (r : List UInt8) (fs : List (List UInt8)) (o : Nat), (∀ x ∈ q, x ≠ 68) → Scan r fs o → Scan (q ++ r) fs (o + q.length) := by
  intro q
  induction q with
  | nil => intro r fs o _ h; exact h
  | cons x q ih =>
    intro r fs o hq h
    exact Scan.skip (beg_noD (hq x (by simp))) (ih r fs o (fun y hy => hq y (by simp [hy])) h)
def J (fs : List (List UInt8)) (q : List UInt8) : List UInt8 := (fs.map (· ++ q)).flatten
theorem J_snoc (fs : List (List UInt8)) (f q : List UInt8) : J (fs ++ [f]) q = J fs q ++ f ++ q := by simp [J]
theorem J_cons (fs : List (List UInt8)) (f q : List UInt8) : J (f :: fs) q = f ++ (q ++ J fs q) := by simp [J]
theorem scan_join (q : List UInt8) (hq : ∀ x ∈ q, x ≠ 68) : ∀ fs : List (List UInt8), (∀ f ∈ fs, IsF f) → Scan (J fs q) fs (q.length * fs.length) := by
  intro fs
  induction fs with
  | nil => intro _; exact Scan.nil
  | cons f fs ih =>
    intro h
    obtain ⟨k, d, rfl, h0, h1, h2⟩ := h f (by simp)
    have hi := scan_skips q _ _ _ hq (ih fun g hg => h g (by simp [hg]))
    have hb := beg_wrap k d (q ++ J fs q) h0 h1 h2
    rw [J_cons, List.length_cons, Nat.mul_succ]
    have ht := Scan.take (fs := fs) (o := q.length * fs.length + q.length) hb (by rw [List.drop_left' rfl]; exact hi)
    rw [List.take_left' rfl] at ht
    exact ht
theorem J_length (q : List UInt8) : ∀ fs : List (List UInt8), (J fs q).length = fs.flatten.length + q.length * fs.length := by
  intro fs
  induction fs with
  | nil => rfl
  | cons f fs ih =>
    rw [J_cons]
    simp only [List.length_append, List.flatten_cons, List.length_cons, Nat.mul_succ, ih]
    omega

section
variable {te e : TypeId} {w w' : World} {base n c : Nat} {A : Option Addr} {fs : List (List UInt8)}
theorem OwnL.apart {base' n' c' : Nat} {B : Option Addr} {l : List UInt8} {bad : Option Nat} (h : OwnL te e w base A n c fs bad) (ho : Own w base' e B n' c' l) (hne : e ≠ te) : ∀ g, A = some ⟨g, 0, none⟩ → some g ≠ B.map (·.block) := by
  intro g hA
  subst hA
  obtain ⟨vs, h1, _⟩ := h
  exact rows_apart h1 ho (Ne.symm hne)
theorem OwnL.beside {base' n' c' : Nat} {B : Option Addr} {l : List UInt8} {bad : Option Nat} (h : OwnL te e w base A n c fs bad) (ho : Own w base' e B n' c' l) (hne : e ≠ te) (hg : w.grownBy w' (A.map (·.block))) : Own w' base' e B n' c' l := by
  obtain ⟨vs, h1, _⟩ := h
  exact ownsRow_grown ho hg fun g hB => by subst hB; exact rows_apart ho h1 hne
theorem OwnL.step {B B' : Option Addr} (h : OwnL te e w base A n c fs (B.map (·.block))) (hg : w.grownBy w' (B.map (·.block))) (hA : ∀ g, A = some ⟨g, 0, none⟩ → some g ≠ B.map (·.block))
    (hB : B'.map (·.block) = B.map (·.block) ∨ B'.map (·.block) = some w.heap.size) : OwnL te e w' base A n c fs (B'.map (·.block)) := by
  obtain ⟨vs, h1, h2, h3⟩ := h
  refine ⟨vs, ownsRow_grown h1 hg hA, h2, fun j f hj => ?_⟩
  obtain ⟨A', n', c', k1, k2, k3⟩ := h3 j f hj
  refine ⟨A', n', c', k1, ownsRow_grown k2 hg (fun g hgA => ?_), ?_⟩
  · rcases k3 with k3 | k3
    · rw [k3]; intro h; cases h
    · rw [hgA] at k3; exact k3
  · rcases hB with hB | hB
    · rw [hB]; exact k3
    · right
      rw [hB]
      intro hE
      cases A' with
      | none => cases hE
      | some ad =>
        have := (World.ownsRow.lt k2 ad.block rfl).2
        simp at hE
        omega
theorem Own.besideB {B : Option Addr} {l : List UInt8} (h : Own w base e A n c l) (hg : w.grownBy w' (B.map (·.block))) (hfb : B.map (·.block) = none ∨ A.map (·.block) ≠ B.map (·.block)) : Own w' base e A n c l :=
  ownsRow_grown h hg fun g hA => by
    subst hA
    rcases hfb with h | h
    · rw [h]; intro h; cases h
    · exact h
theorem Own.nextB {B B' : Option Addr} {l : List UInt8} (h : Own w base e A n c l) (hfb : B.map (·.block) = none ∨ A.map (·.block) ≠ B.map (·.block)) (hB : B'.map (·.block) = B.map (·.block) ∨ B'.map (·.block) = some w.heap.size) :
    B'.map (·.block) = none ∨ A.map (·.block) ≠ B'.map (·.block) := by
  rcases hB with hB | hB
  · rw [hB]; exact hfb
  · right
    rw [hB]
    intro hE
    cases A with
    | none => cases hE
    | some ad =>
      have := (World.ownsRow.lt h ad.block rfl).2
      simp at hE
      omega
theorem Own.freshB {w0 : World} {base0 n0 c0 : Nat} {B : Option Addr} {l l0 : List UInt8} (h : Own w w0.heap.size e A n c l) (hn : 0 < n) (h0 : Own w0 base0 e B n0 c0 l0) : B.map (·.block) = none ∨ A.map (·.block) ≠ B.map (·.block) := by
  cases B with
  | none => exact .inl rfl
  | some ad =>
    right
    have h1 := (World.ownsRow.lt h0 ad.block rfl).2
    obtain ⟨g, rfl, hg, _⟩ := h.form hn
    intro hE
    simp at hE
    omega
end
end Go.Proofs.Ytackfepoomdpdaa
