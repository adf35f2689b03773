/- What frame.begins, slices.Clone and frame.All do, for every slice of bytes. -/
import Derived.Test.YtackfepoomdpdaaUnwrap
import Derived.Test.YtackfepoomdpdaaMeml
import Derived.Lib.SliceRun
namespace Go.Proofs.Ytackfepoomdpdaa
open Go.RowKit

/-- with how long a frame do bytes begin? -/
def beg (l : List UInt8) : Option Nat :=
  if l.length < 5 ∨ l.length < lenOf l then none else if (unw (l.take (lenOf l))).2.2 = 0 then some (lenOf l) else none
theorem beg_some {l : List UInt8} {m : Nat} (h : beg l = some m) : m = lenOf l ∧ 5 ≤ l.length ∧ m ≤ l.length ∧ 9 ≤ m := by
  unfold beg at h
  split at h
  · cases h
  · split at h
    · cases h
      exact ⟨rfl, by omega, by omega, by unfold lenOf; omega⟩
    · cases h

inductive Scan : List UInt8 → List (List UInt8) → Nat → Prop
  | nil : Scan [] [] 0
  | skip {x : UInt8} {l : List UInt8} {fs : List (List UInt8)} {o : Nat} : beg (x :: l) = none → Scan l fs o → Scan (x :: l) fs (o + 1)
  | take {l : List UInt8} {m : Nat} {fs : List (List UInt8)} {o : Nat} : beg l = some m → Scan (l.drop m) fs o → Scan l (l.take m :: fs) o
theorem Scan.same {l : List UInt8} {fs : List (List UInt8)} {o : Nat} (h : Scan l fs o) : ∀ {fs' o'}, Scan l fs' o' → fs = fs' ∧ o = o' := by
  induction h with
  | nil =>
    intro fs' o' h'
    cases h' with
    | nil => exact ⟨rfl, rfl⟩
    | take hb _ => have := beg_some hb; simp at this
  | skip hb _ ih =>
    intro fs' o' h'
    cases h' with
    | skip _ h2 => obtain ⟨rfl, rfl⟩ := ih h2; exact ⟨rfl, rfl⟩
    | take hb' _ => rw [hb] at hb'; cases hb'
  | take hb _ ih =>
    intro fs' o' h'
    cases h' with
    | nil => have := beg_some hb; simp at this
    | skip hb' _ => rw [hb] at hb'; cases hb'
    | take hb' h2 =>
      rw [hb] at hb'
      cases hb'
      obtain ⟨rfl, rfl⟩ := ih h2
      exact ⟨rfl, rfl⟩

set_option maxHeartbeats 1000000 in
theorem begins_none (A : Option Addr) (n c : Nat) (l : List UInt8) (w : World) (hr : Rd w A n c l) (hb : beg l = none) :
    Calls Try.prog 35 #[.slice A n c] w fun e w' => e = .returned (.slice none 0 0) ∧ Below w.heap.size w w' := by
  have hl := hr.1
  by_cases h5 : n < 5
  · have h5' : (n : Int) < 5 := by omega
    clear hb hl
    go_enter Try.func35, Try.ntmps35
    go_wp2_with fail
    go_ret
    exact ⟨rfl, Below.refl _ _⟩
  · have h5' : (5 : Int) ≤ (n : Int) := by omega
    by_cases hq : n < lenOf l
    · have hq' : (n : Int) < (lenOf l : Nat) := by omega
      clear hb hl
      go_enter Try.func35, Try.ntmps35
      go_wp2_with (go_at_call 33; refine (length_any _ _ _ _ _ hr (by omega)).mono ?_; rintro e w1 ⟨rfl, hb1⟩)
      go_ret
      exact ⟨rfl, hb1⟩
    · have hq' : ((lenOf l : Nat) : Int) ≤ (n : Int) := by omega
      have he : (unw (l.take (lenOf l))).2.2 ≠ 0 := by
        unfold beg at hb
        rw [if_neg (by omega)] at hb
        split at hb
        · cases hb
        · assumption
      have heb : ((unw (l.take (lenOf l))).2.2 == 0) = false := by simpa using he
      have hqc : ((lenOf l : Nat) : Int) ≤ (c : Int) := by have := hr.2.1; omega
      have hq0 : (0 : Int) ≤ ((lenOf l : Nat) : Int) := by omega
      clear hb hl he
      go_enter Try.func35, Try.ntmps35
      go_wp2_with fail
      refine (length_any _ _ _ _ _ hr (by omega)).mono ?_
      rintro e w1 ⟨rfl, hb1⟩
      go_wp2_with fail
      refine (length_any _ _ _ _ _ (hr.below hb1) (by omega)).mono ?_
      rintro e w2 ⟨rfl, hb2⟩
      have hbb := below_next hb1 hb2
      go_wp2_with fail
      refine (unwrap_any _ _ _ _ _ ((hr.below hbb).hi (by omega))).mono ?_
      rintro e w3 ⟨A3, n3, c3, rfl, hr3, hb3⟩
      go_wp2_with fail
      go_ret
      exact ⟨rfl, below_next hbb hb3⟩

set_option maxHeartbeats 1000000 in
theorem begins_some (A : Option Addr) (n c m : Nat) (l : List UInt8) (w : World) (hr : Rd w A n c l) (hb : beg l = some m) :
    Calls Try.prog 35 #[.slice A n c] w fun e w' => e = .returned (.slice A m c) ∧ Below w.heap.size w w' := by
  have hl := hr.1
  obtain ⟨rfl, h5, hq, _⟩ := beg_some hb
  have h5' : (5 : Int) ≤ (n : Int) := by omega
  have hq' : ((lenOf l : Nat) : Int) ≤ (n : Int) := by omega
  have he : (unw (l.take (lenOf l))).2.2 = 0 := by
    unfold beg at hb
    rw [if_neg (by omega)] at hb
    split at hb
    · assumption
    · cases hb
  have heb : ((unw (l.take (lenOf l))).2.2 == 0) = true := by simpa using he
  have hqc : ((lenOf l : Nat) : Int) ≤ (c : Int) := by have := hr.2.1; omega
  have hq0 : (0 : Int) ≤ ((lenOf l : Nat) : Int) := by omega
  clear hb hl he
  go_enter Try.func35, Try.ntmps35
  go_wp2_with fail
  refine (length_any _ _ _ _ _ hr (by omega)).mono ?_
  rintro e w1 ⟨rfl, hb1⟩
  go_wp2_with fail
  refine (length_any _ _ _ _ _ (hr.below hb1) (by omega)).mono ?_
  rintro e w2 ⟨rfl, hb2⟩
  have hbb := below_next hb1 hb2
  go_wp2_with fail
  refine (unwrap_any _ _ _ _ _ ((hr.below hbb).hi (by omega))).mono ?_
  rintro e w3 ⟨A3, n3, c3, rfl, hr3, hb3⟩
  go_wp2_with fail
  go_ret
  exact ⟨rfl, below_next hbb hb3⟩

set_option maxHeartbeats 400000 in
theorem clone_any (ad : Addr) (n c : Nat) (l : List UInt8) (w : World) (hr : Rd w (some ad) n c l) (hn : n ≤ 1000000) :
    Calls Try.prog 36 #[.slice (some ad) n c] w fun e w' => ∃ A' c', e = .returned (.slice A' n c') ∧ Own w' w.heap.size 5 A' n c' l ∧ Below w.heap.size w w' := by
  have hnil := fun (w : World) (a : Option Addr) (n c : Nat) => Lib.run_eql_slice_nil (P := Try.prog) w 22 5 a n c 0 0 Try.underlying22
  have ho0 : Own (w.alloc (.cells #[] 5)) w.heap.size 5 (some ⟨w.heap.size, 0, none⟩) 0 0 [] := Own.lit w w.heap.size 5 #[] (l := []) rfl (by decide) (Nat.le_refl _)
  have hb0 : Below w.heap.size w (w.alloc (.cells #[] 5)) := (Below.refl _ _).alloc (Nat.le_refl _) _
  go_enter Try.func36, Try.ntmps36
  go_wp2_with ((at_builtin; refine wpList_append8 _ rfl _ _ _ rfl w.heap.size 5 Try.underlying22 isByte _ 0 0 [] rfl ho0 (some ad) n c l rfl (hr.below hb0) (by omega) (by simp) ?_; intro A1 c1 w1 ho1 hb1 _ _))
  go_ret
  exact ⟨A1, c1, by simp, by simpa using ho1, hb0.trans hb1⟩
end Go.Proofs.Ytackfepoomdpdaa
