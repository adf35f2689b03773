/- The walk of the law CrcForms: it returns true for every two slices of bytes; no condition. -/
import Derived.Test.YtackfepoomdpdaaRright
namespace Go.Proofs.Ytackfepoomdpdaa
open Go.RowKit

def okB (l : List UInt8) : Bool := decide (4 ≤ l.length) && (putL (l.take (l.length - 4)) == l)
def resL (l : List UInt8) : List UInt8 := if okB l then l.take (l.length - 4) else []
theorem okB_iff (l : List UInt8) : okB l = true ↔ 4 ≤ l.length ∧ Rt l := by simp [okB, Rt]

/-- what both Rights come to -/
def Righted (l : List UInt8) (w : World) (e : Ending) (w' : World) : Prop :=
  ∃ A' n' c', e = .returned (.tuple #[.slice A' n' c', .bool (okB l)]) ∧ Rd w' A' n' c' (resL l) ∧ Below w.heap.size w w'

theorem right_any (A : Option Addr) (n c : Nat) (l : List UInt8) (w : World) (hr : Rd w A n c l) (hn : n ≤ 900000) : Calls Try.prog 17 #[.slice A n c] w (Righted l w) := by
  have hl := hr.1
  by_cases h4 : n < 4
  · have e : okB l = false := by unfold okB; simp; omega
    exact (right_short A n c w h4).mono fun e' w' ⟨h1, h2⟩ => ⟨none, 0, 0, by rw [e]; exact h1, by unfold resL; rw [e]; exact Rd.nil _ _ (Nat.zero_le _), h2⟩
  · by_cases hR : Rt l
    · have e : okB l = true := (okB_iff l).2 ⟨by omega, hR⟩
      refine (right_is A n c l w hr (by omega) (by omega) hR).mono fun e' w' ⟨A', c', h1, h2, h3⟩ => ⟨A', n - 4, c', by rw [e]; exact h1, ?_, h3⟩
      unfold resL; rw [if_pos e, hl]; exact h2.rd
    · have e : okB l = false := by
        cases h : okB l
        · rfl
        · exact absurd ((okB_iff l).1 h).2 hR
      exact (right_not A n c l w hr (by omega) (by omega) hR).mono fun e' w' ⟨h1, h2⟩ => ⟨none, 0, 0, by rw [e]; exact h1, by unfold resL; rw [e]; exact Rd.nil _ _ (Nat.zero_le _), h2⟩
theorem rright_any (A : Option Addr) (n c : Nat) (l : List UInt8) (w : World) (hr : Rd w A n c l) (hn : n ≤ 900000) : Calls Try.prog 18 #[.slice A n c] w (Righted l w) := by
  have hl := hr.1
  by_cases h4 : n < 4
  · have e : okB l = false := by unfold okB; simp; omega
    exact (rright_short A n c w h4).mono fun e' w' ⟨h1, h2⟩ => ⟨none, 0, 0, by rw [e]; exact h1, by unfold resL; rw [e]; exact Rd.nil _ _ (Nat.zero_le _), h2⟩
  · obtain ⟨m, rfl⟩ : ∃ m, n = m + 4 := ⟨n - 4, by omega⟩
    by_cases hR : Rt l
    · have e : okB l = true := (okB_iff l).2 ⟨by omega, hR⟩
      refine (rright_is A m c l w hr (by omega) hR).mono fun e' w' ⟨A', c', h1, h2, h3⟩ => ⟨A', m, c', by rw [e]; exact h1, ?_, h3⟩
      unfold resL; rw [if_pos e, hl]; exact h2.rd
    · have e : okB l = false := by
        cases h : okB l
        · rfl
        · exact absurd ((okB_iff l).1 h).2 hR
      exact (rright_not A m c l w hr (by omega) hR).mono fun e' w' ⟨h1, h2⟩ => ⟨none, 0, 0, by rw [e]; exact h1, by unfold resL; rw [e]; exact Rd.nil _ _ (Nat.zero_le _), h2⟩

theorem rdl_two {W : World} {g n m c d : Nat} {A B : Option Addr} {l r : List UInt8} (h0 : W.cell? ⟨g, 0, none⟩ = some (.slice A n c)) (h1 : W.cell? ⟨g, 1, none⟩ = some (.slice B m d)) (hl : Rd W A n c l) (hr : Rd W B m d r) :
    RdL W (some ⟨g, 0, none⟩) 2 2 [l, r] :=
  ⟨rfl, Nat.le_refl _, by decide, fun _ => ⟨_, rfl, fun j x hj => by
    match j, hj with
    | 0, hj => simp at hj; subst hj; exact ⟨A, n, c, by rw [addAt]; exact h0, hl⟩
    | 1, hj => simp at hj; subst hj; exact ⟨B, m, d, by rw [addAt]; exact h1, hr⟩⟩⟩
theorem join_two (A : Option Addr) (n m : Nat) (l r : List UInt8) (w : World) (hL : RdL w A 2 2 [l, r]) (hl : l.length = n) (hr : r.length = m) (hn : n + m ≤ 1000000) :
    Calls Try.prog 22 #[.slice A 2 2] w fun e w' => ∃ A' c', e = .returned (.slice A' (n + m) c') ∧ Own w' w.heap.size 5 A' (n + m) c' (l ++ r) ∧ Below w.heap.size w w' := by
  have e : [l, r].flatten = l ++ r := by simp
  have e2 : [l, r].flatten.length = n + m := by rw [e, List.length_append, hl, hr]
  have h := join_any A 2 2 [l, r] w hL (by rw [e2]; exact hn)
  rw [e2, e] at h
  exact h

theorem below_next {w a b : World} (h : Below w.heap.size w a) (k : Below a.heap.size a b) : Below w.heap.size w b := h.trans (k.mono h.size)

theorem add_sum (l r : List UInt8) : CrcP.add (CrcP.sum l) r = CrcP.sum (l ++ r) := by unfold CrcP.sum; rw [CrcP.add_append]

set_option maxHeartbeats 8000000 in
theorem forms_walk (A B : Option Addr) (n c m d : Nat) (l r : List UInt8) (w : World) (hl : Rd w A n c l) (hr : Rd w B m d r) (hn0 : n ≤ 140737488351232) (hm0 : m ≤ 140737488351232) :
    Calls Try.prog 6 #[.slice A n c, .slice B m d] w fun e w' => e = .returned (.bool true) ∧ Below w.heap.size w w' := by
  by_cases hn : 4000 < n + m
  · have hn' : (4000 : Int) < (n : Int) + (m : Int) := by omega
    go_enter Try.func6, Try.ntmps6
    go_wp2_with (go_at_call 14; refine (awake_any _).mono ?_; rintro e w1 ⟨rfl, hb1⟩)
    go_ret
    exact ⟨rfl, hb1⟩
  · have hn' : (n : Int) + (m : Int) ≤ 4000 := by omega
    have Hl := hide hl.1
    have Hr := hide hr.1
    go_enter Try.func6, Try.ntmps6
    go_wp2_with fail
    refine (right_any _ _ _ _ _ hr (by omega)).mono ?_
    rintro e w1 ⟨X, nx, cx, rfl, hX, hb1⟩
    go_wp2_with fail
    refine (rright_any _ _ _ _ _ (hr.below hb1) (by omega)).mono ?_
    rintro e w2 ⟨Y, ny, cy, rfl, hY, hb2⟩
    have hbb : Below w.heap.size w w2 := below_next hb1 hb2
    go_wp2_with fail
    have hl2 := hl.below hbb
    have hr2 := hr.below hbb
    have hX2 := hX.below hb2
    have HX : ∀ w', Below w2.heap.size w2 w' → (convert 22 9 (.slice X nx cx)).run Try.prog w' = .ok (.string (str (resL r))) w' := fun w' h => conv22 (hX2.below h)
    have HY : ∀ w', Below w2.heap.size w2 w' → (convert 22 9 (.slice Y ny cy)).run Try.prog w' = .ok (.string (str (resL r))) w' := fun w' h => conv22 (hY.below h)
    have hadd := add_sum l r
    clear hl hr hX hY
    go_region_held (fun w' => Below w2.heap.size w2 w')
      (first | exact (Below.refl _ _).drew | assumption | exact below_next (by assumption) hb | exact Below.alloc (by assumption) (Below.size (by assumption)) _)
      ((first
        | (go_at_call 16; refine (sum_any _ _ _ l _ (hl2.below (by assumption))).mono ?_; rintro e w1 ⟨rfl, rfl⟩)
        | (go_at_call_of 19 (Value.slice A n c); refine (rcrc_any _ _ _ l _ (hl2.below (by assumption)) (by omega)).mono ?_; rintro e w1 ⟨rfl, rfl⟩)
        | (go_at_call 20; refine (put_any _ _ _ l _ (hl2.below (by assumption)) (by omega)).mono ?_; rintro e w3 ⟨A3, c3, rfl, ho3, hb⟩; have hcv3 := conv22 ho3.rd; have Hcv3 := fun w' (h : Below w3.heap.size w3 w') => conv22 (ho3.rd.below h))
        | (go_at_call 21; refine (rput_any _ _ _ l _ (hl2.below (by assumption)) (by omega)).mono ?_; rintro e w4 ⟨A4, c4, rfl, ho4, hb⟩; have hcv4 := conv22 ho4.rd; have Hcv4 := fun w' (h : Below w4.heap.size w4 w') => conv22 (ho4.rd.below h))
        | (go_at_call 15; refine (add_any _ _ _ _ r _ (hr2.below (by assumption))).mono ?_; rintro e w1 ⟨rfl, rfl⟩)
        | (go_at_call 22; refine (join_two _ n m l r _ (rdl_two (by simp [World.cell?_alloc_new]) (by simp [World.cell?_alloc_new]) (hl2.below (by assumption)) (hr2.below (by assumption))) Hl.out Hr.out (by omega)).mono ?_; rintro e w5 ⟨A5, c5, rfl, ho5, hb⟩)
        | (go_at_call 19; refine (rcrc_any _ _ _ _ _ ho5.rd (by omega)).mono ?_; rintro e w1 ⟨rfl, rfl⟩)
        | (go_at_call 14; refine (awake_any _).mono ?_; rintro e w6 ⟨rfl, hb⟩)))
    all_goals (go_wp2_with fail; go_ret; exact ⟨rfl, below_next hbb (by assumption)⟩)
end Go.Proofs.Ytackfepoomdpdaa
