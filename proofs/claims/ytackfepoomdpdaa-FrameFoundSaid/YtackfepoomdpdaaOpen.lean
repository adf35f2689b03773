/- A slice of slices of bytes that came in reads as lists. No program in sight. -/
import Derived.Test.YtackfepoomdpdaaMemb
namespace Go.Proofs.Ytackfepoomdpdaa
open Go.RowKit

theorem rdl_of {w : World} {a : Addr} {len cap base : Nat} {A : Nat → Option Addr} {L C : Nat → Nat} {Z : Nat → List Int} (hlc : len ≤ cap) (hcm : cap ≤ maxLen)
    (h : ∀ r, r < cap → w.cell? (a.add r) = some (.slice (A r) (L r) (C r)) ∧ L r ≤ C r ∧ C r ≤ maxLen ∧ (Z r).length = C r ∧ (∀ n ∈ Z r, (Lit.int .u8 n).wf = true) ∧ (A r = none → C r = 0) ∧
        ∀ a', A r = some a' → base ≤ a'.block ∧ ∀ c, c < C r → w.cell? (a'.add c) = some (.int .u8 ((Z r).getD c 0))) : ∃ ls, RdL w (some a) len cap ls := by
  have each : ∀ r, ∃ l, r < len → Rd w (A r) (L r) (C r) l := by
    intro r
    by_cases hr : r < len
    · obtain ⟨_, h2, h3, h4, h5, h6, h7⟩ := h r (by omega)
      cases hA : A r with
      | none =>
        have hC := h6 hA
        refine ⟨[], fun _ => ?_⟩
        rw [show L r = 0 by omega]
        exact Rd.nil _ _ h3
      | some a' =>
        obtain ⟨l, hl⟩ := Rd.of_row (w := w) (a := some a') (len := L r) (cap := C r) (zs := Z r) (.inr ⟨a', rfl, h2, h3, h4, fun i hi => (h7 a' hA).2 i (by omega), h5⟩)
        exact ⟨l, fun _ => hl⟩
    · exact ⟨[], fun h => absurd h hr⟩
  obtain ⟨f, hf⟩ : ∃ f : Nat → List UInt8, ∀ r, r < len → Rd w (A r) (L r) (C r) (f r) := ⟨fun r => Classical.choose (each r), fun r => Classical.choose_spec (each r)⟩
  refine ⟨(List.range len).map f, by simp, hlc, hcm, fun _ => ⟨a, rfl, fun j l hj => ?_⟩⟩
  have hj' : j < len := by
    have := (List.getElem?_eq_some_iff.1 hj).1
    simpa using this
  simp [hj'] at hj
  subst hj
  exact ⟨A j, L j, C j, (h j (by omega)).1, hf j hj'⟩
end Go.Proofs.Ytackfepoomdpdaa
