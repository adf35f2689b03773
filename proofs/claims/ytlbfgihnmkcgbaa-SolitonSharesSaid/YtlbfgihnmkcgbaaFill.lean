/- What the table's fill does: the sums of the weights stand behind the table. -/
import Derived.Test.YtlbfgihnmkcgbaaWeights
namespace Go.Proofs.Ytlbfgihnmkcgbaa
open Go.RowKit

def sumf (n i : Nat) : Nat := sums n (i + 1)
theorem rows_apart {k k' : IntKind} {e e' : TypeId} {w : World} {base base' n c n' c' : Nat} {A A' : Option Addr} {f f' : Nat → Nat} (h : OwnF k e w base A n c f) (h' : OwnF k' e' w base' A' n' c' f') (hne : e ≠ e') :
    ∀ g, A = some ⟨g, 0, none⟩ → some g ≠ A'.map (·.block) := by
  intro g hA hg
  subst hA
  rcases h.2 with ⟨hv, _⟩ | ⟨g2, cap, cur, hv, _, hgg, _⟩
  · simp at hv
  · simp only [Value.slice.injEq, Option.some.injEq, Addr.mk.injEq, and_true] at hv
    have := h'.apart hgg (Ne.symm hne)
    rw [← hv.1] at this
    exact this hg.symm

/-- all but block g is as it was -/
def But (g : Nat) (w w' : World) : Prop := w.grownBy w' (some g)
theorem But.refl (g : Nat) (w : World) : But g w w := ⟨rfl, rfl, rfl, Nat.le_refl _, fun _ _ _ => rfl⟩
theorem But.trans {g : Nat} {w a b : World} (h : But g w a) (k : But g a b) : But g w b :=
  ⟨k.os.trans h.os, k.tape.trans h.tape, k.output.trans h.output, Nat.le_trans h.size k.size, fun i hi hne => (k.block i (Nat.lt_of_lt_of_le hi h.size) hne).trans (h.block i hi hne)⟩
theorem But.next {g : Nat} {w a b : World} (h : But g w a) (k : Below w.heap.size a b) : But g w b :=
  ⟨k.os.trans h.os, k.tape.trans h.tape, k.output.trans h.output, Nat.le_trans h.size k.size, fun i hi hne => (k.block i hi).trans (h.block i hi hne)⟩
theorem But.set {g : Nat} {w a : World} (h : But g w a) (j : Nat) (u : Value) : But g w (a.setCell ⟨g, j, none⟩ u) :=
  h.trans ⟨rfl, rfl, rfl, by simp [World.setCell], fun i _ hne => Below.heap_setCell _ _ _ _ (fun e => hne (by rw [e]))⟩
theorem But.below {g base : Nat} {w w' : World} (h : But g w w') (hb : base ≤ g) (hw : base ≤ w.heap.size) : Below base w w' :=
  ⟨h.os, h.tape, h.output, h.size, fun k hk => h.block k (by omega) (fun e => by cases e; omega)⟩
theorem But.cell {g : Nat} {w w' : World} (h : But g w w') {a : Addr} {v : Value} (hc : w.cell? a = some v) (hne : a.block ≠ g) : w'.cell? a = some v :=
  World.grownBy.cell h hc (fun e => hne (by cases e; rfl))

set_option maxHeartbeats 1000000 in
theorem fill_any (g n : Nat) (dn st : Int) (h0 : 1 ≤ n) (h1 : n ≤ 80) (w : World) (ht : Tab w g n dn st (.slice none 0 0)) :
    Calls Try.prog 15 #[.pointer (some ⟨g, 0, none⟩)] w fun e w' => e = .returned (.tuple #[]) ∧ ∃ A c, Tab w' g n dn st (.slice A n c) ∧ OwnF .u64 30 w' w.heap.size A n c (sumf n) ∧ But g w w' := by
  go_enter Try.func15, Try.ntmps15
  go_wp2_with fail
  refine (weights_any g n dn st _ h0 h1 w ht).mono ?_
  rintro e w1 ⟨A1, c1, rfl, ho1, hb1⟩
  have ht1 := ht.below hb1
  have hb1' : But g w w1 := (But.refl g w).next hb1
  go_wp2_with fail
  go_loopw [2, 8] (fun v2 v8 wr => ∃ k A c, k ≤ n ∧ v8 = .int .i64 (k : Int) ∧ v2 = .int .u64 (sums n k : Nat) ∧ Tab wr g n dn st (.slice A k c) ∧ OwnF .u64 30 wr w.heap.size A k c (sumf n) ∧ OwnF .u32 22 wr w.heap.size A1 n c1 (wtf n) ∧ But g w wr) (fun _ v8 _ => n - (intOf v8).toNat)
  case atStart => exact ⟨0, none, 0, Nat.zero_le _, rfl, rfl, ht1, OwnF.nil _ _ _ _ _, ho1, hb1'⟩
  case round =>
    obtain ⟨k, A, c, hk, rfl, rfl, htr, ho, how, hb⟩ := hrel
    by_cases hlt : k < n
    · have hlt' : (k : Int) < (n : Int) := by omega
      have hn80 : (n : Int) ≤ 80 := by omega
      have hc4 := htr.cells.2.2.2
      obtain ⟨g1, rfl, hg1, hg1w, hcw⟩ := how.at_ hlt
      have hS : sumf n k = sums n k + wtf n k := rfl
      have hS2 : sumf n k ≤ 4294967296 := Nat.le_trans (sums_mono n (show k + 1 ≤ n by omega)) (sums_le h0 h1)
      obtain ⟨S, hSS⟩ : ∃ S, sumf n k = S := ⟨_, rfl⟩
      obtain ⟨S0, hS0⟩ : ∃ S0, sums n k = S0 := ⟨_, rfl⟩
      obtain ⟨W, hW⟩ : ∃ W, wtf n k = W := ⟨_, rfl⟩
      have hsum : sums n (k + 1) = S := hSS
      rw [hW] at hcw
      rw [hSS] at hS2 hS
      rw [hS0, hW] at hS
      have hsw : (S0 : Int) + (W : Int) = (S : Int) := by omega
      have HSS := hide hSS
      have Hsum := hide hsum
      rw [hS0]
      clear hSS hS0 hW hsum hS
      have hap := ho.apart htr (by decide)
      have hap2 := rows_apart how ho (by decide) g1 rfl
      have hbs := hb.size
      have hal : Below wr.heap.size wr (wr.alloc (.cells #[.int .u64 (S : Int)] 30)) := (Below.refl _ _).alloc (Nat.le_refl _) _
      have hta := htr.below hal
      have hba := hb.next (hal.mono hbs)
      have hwa := how.below hal
      go_wp2_with (first
        | (at_builtin
           refine wpList_appendF _ rfl _ _ _ rfl w.heap.size .u64 30 8 Try.underlying47 isU64 (by omega) A k c (sumf n) rfl (ho.below hal) ⟨wr.heap.size, 0, none⟩ 1 S HSS.out rfl (by simp [World.cell?_alloc_new]) (by omega) (by simp; omega) ?_
           intro A3 c3 w3 ho3 hb3 hg3
           have ht3 := hta.grown hg3 hap
           have hw3 := hwa.grown hg3 (fun g hg => by simp at hg; subst hg; exact hap2)
           have hf3 := ht3.free 4
           have hc34 := ht3.cells.2.2.2))
      go_roundw
      case rel => exact ⟨k + 1, A3, c3, by omega, by go_num, by rw [Hsum.out], ht3.set4 _, ho3.set ht3 (by decide) _ _, hw3.set ht3 (by decide) _ _, (hba.next hb3).set 4 _⟩
      case measure => simp [intOf]; omega
    · obtain rfl : k = n := by omega
      go_wp2_with fail
      go_end0
      exact ⟨rfl, A, c, htr, ho, hb⟩
end Go.Proofs.Ytlbfgihnmkcgbaa
