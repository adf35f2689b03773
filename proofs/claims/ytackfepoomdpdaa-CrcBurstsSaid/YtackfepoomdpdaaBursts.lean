/- The walk of the law CrcBursts: it returns true for every slice of bytes, every place and every four bytes; no condition. -/
import Derived.Test.YtackfepoomdpdaaAwake
import Derived.Test.YtackfepoomdpdaaTold
import Derived.Test.YtackfepoomdpdaaMemb
import Derived.Test.YtackfepoomdpdaaEqa
namespace Go.Proofs.Ytackfepoomdpdaa
open Go.RowKit

/-- four bytes side by side, the first j of them changed -/
def part (pre suf : List UInt8) (b0 b1 b2 b3 x0 x1 x2 x3 : UInt8) : Nat → List UInt8
  | 0 => pre ++ b0 :: b1 :: b2 :: b3 :: suf
  | 1 => pre ++ (b0 ^^^ x0) :: b1 :: b2 :: b3 :: suf
  | 2 => pre ++ (b0 ^^^ x0) :: (b1 ^^^ x1) :: b2 :: b3 :: suf
  | 3 => pre ++ (b0 ^^^ x0) :: (b1 ^^^ x1) :: (b2 ^^^ x2) :: b3 :: suf
  | _ => pre ++ (b0 ^^^ x0) :: (b1 ^^^ x1) :: (b2 ^^^ x2) :: (b3 ^^^ x3) :: suf
theorem split_four {q : List UInt8} {k : Nat} (h : k + 3 < q.length) : ∃ pre b0 b1 b2 b3 suf, q = pre ++ b0 :: b1 :: b2 :: b3 :: suf ∧ pre.length = k := by
  refine ⟨q.take k, q[k], q[k + 1], q[k + 2], q[k + 3], q.drop (k + 4), ?_, by simp; omega⟩
  have e1 : q.drop k = q[k] :: q.drop (k + 1) := List.drop_eq_getElem_cons (by omega)
  have e2 : q.drop (k + 1) = q[k + 1] :: q.drop (k + 2) := List.drop_eq_getElem_cons (by omega)
  have e3 : q.drop (k + 2) = q[k + 2] :: q.drop (k + 3) := List.drop_eq_getElem_cons (by omega)
  have e4 : q.drop (k + 3) = q[k + 3] :: q.drop (k + 4) := List.drop_eq_getElem_cons h
  rw [← e4, ← e3, ← e2, ← e1, List.take_append_drop]
theorem set_at (pre : List UInt8) (r : List UInt8) (k j : Nat) (h : pre.length = k) (v : UInt8) : (pre ++ r).set (k + j) v = pre ++ r.set j v := by
  rw [List.set_append_right _ _ (by omega)]
  congr 2
  omega
theorem get_at (pre : List UInt8) (r : List UInt8) (k j : Nat) (h : pre.length = k) : (pre ++ r)[k + j]? = r[j]? := by
  rw [List.getElem?_append_right (by omega)]
  congr 1
  omega

theorem below_nxt {w a b : World} (h : Below w.heap.size w a) (k : Below a.heap.size a b) : Below w.heap.size w b := h.trans (k.mono h.size)
theorem box4 {W w1 : World} {g B : Nat} {y0 y1 y2 y3 : Value} {t : TypeId} (hx : W.heap[g]? = some (.cells #[y0, y1, y2, y3] t)) (hb : Below B W w1) (hg : g < B) :
    w1.cell? ⟨g, 0, none⟩ = some y0 ∧ w1.cell? ⟨g, 1, none⟩ = some y1 ∧ w1.cell? ⟨g, 2, none⟩ = some y2 ∧ w1.cell? ⟨g, 3, none⟩ = some y3 := by
  have h := (hb.block g hg).trans hx
  exact ⟨cell_of_row w1 g 0 _ t (0, 0) h, cell_of_row w1 g 1 _ t (0, 0) h, cell_of_row w1 g 2 _ t (0, 0) h, cell_of_row w1 g 3 _ t (0, 0) h⟩

set_option maxHeartbeats 1000000 in
theorem bursts_walk (A : Option Addr) (n c : Nat) (l : List UInt8) (at' : Int) (x0 x1 x2 x3 : UInt8) (w : World) (hr : Rd w A n c l) :
    Calls Try.prog 5 #[.slice A n c, .int .i64 at', .agg #[.int .u8 x0.toNat, .int .u8 x1.toNat, .int .u8 x2.toNat, .int .u8 x3.toNat]] w fun e w' => e = .returned (.bool true) ∧ Below w.heap.size w w' := by
  by_cases h4 : n < 4
  · have h4' : (n : Int) < 4 := by omega
    go_enter Try.func5, Try.ntmps5
    go_wp2_with (go_at_call 14; refine (awake_any _).mono ?_; rintro e w1 ⟨rfl, hb1⟩)
    go_ret
    exact ⟨rfl, ((Below.refl _ _).alloc (Nat.le_refl _) _).trans (hb1.mono (by simp))⟩
  · by_cases hn : 2000 < n
    · have h4' : (4 : Int) ≤ (n : Int) := by omega
      have hn' : (2000 : Int) < (n : Int) := by omega
      go_enter Try.func5, Try.ntmps5
      go_wp2_with (go_at_call 14; refine (awake_any _).mono ?_; rintro e w1 ⟨rfl, hb1⟩)
      go_ret
      exact ⟨rfl, ((Below.refl _ _).alloc (Nat.le_refl _) _).trans (hb1.mono (by simp))⟩
    · have h4' : (4 : Int) ≤ (n : Int) := by omega
      have hn' : (n : Int) ≤ 2000 := by omega
      go_enter Try.func5, Try.ntmps5
      have hnc := hr.2.1
      have Hl := hide hr.1
      have ho0 : Own ((w.alloc (.cells #[.int .u8 x0.toNat, .int .u8 x1.toNat, .int .u8 x2.toNat, .int .u8 x3.toNat] 30)).alloc (.cells #[] 5)) (w.heap.size + 1) 5 (some ⟨w.heap.size + 1, 0, none⟩) 0 0 [] := by
        have h := Own.lit (w.alloc (.cells #[.int .u8 x0.toNat, .int .u8 x1.toNat, .int .u8 x2.toNat, .int .u8 x3.toNat] 30)) (w.heap.size + 1) 5 #[] (l := []) rfl (by decide) (by simp)
        simpa using h
      have hb0 : Below w.heap.size w ((w.alloc (.cells #[.int .u8 x0.toNat, .int .u8 x1.toNat, .int .u8 x2.toNat, .int .u8 x3.toNat] 30)).alloc (.cells #[] 5)) := ((Below.refl _ _).alloc (Nat.le_refl _) _).alloc (by simp) _
      have Hx : Hid (((w.alloc (.cells #[.int .u8 x0.toNat, .int .u8 x1.toNat, .int .u8 x2.toNat, .int .u8 x3.toNat] 30)).alloc (.cells #[] 5)).heap[w.heap.size]? = some (.cells #[.int .u8 x0.toNat, .int .u8 x1.toNat, .int .u8 x2.toNat, .int .u8 x3.toNat] 30)) :=
        hide ((Below.heap_alloc _ _ _ (by simp)).trans (heap_alloc_new w _))
      obtain ⟨k, hk, ek⟩ := rem_nat at' (n - 3) (by omega) (by omega)
      have ek : wrap64 ((IntKind.u64.wrap at').tmod ((n : Int) - 3)) = (k : Int) := by
        rw [show ((n : Int) - 3) = ((n - 3 : Nat) : Int) by omega]; exact ek
      have hk0 : (0 : Int) ≤ (k : Int) := by omega
      have hk1 : (k : Int) + 3 < (n : Int) := by omega
      clear hk
      go_wp2_with (at_builtin
                   refine wpList_append8 _ rfl _ _ _ rfl (w.heap.size + 1) 5 Try.underlying22 isByte _ 0 0 [] rfl ho0 A n c l rfl (hr.below hb0) (by omega) (by simp) ?_
                   intro A1 c1 w1 ho1 hb1 _ _
                   obtain ⟨q0, q1, q2, q3⟩ := box4 Hx.out hb1 (Nat.lt_succ_self _))
      have ho1' : Own w1 (w.heap.size + 1) 5 A1 n c1 l := by simpa using ho1
      obtain ⟨g, rfl, hg0, hg1⟩ := ho1'.form (by omega)
      obtain ⟨pre, b0, b1, b2, b3, suf, rfl, hpre⟩ := split_four (q := l) (k := k) (by rw [Hl.out]; omega)
      have i0 : ∀ w, (Instr.index 30 (.agg #[.int .u8 x0.toNat, .int .u8 x1.toNat, .int .u8 x2.toNat, .int .u8 x3.toNat]) (.int .i64 0)).run Try.prog w = .ok (.int .u8 x0.toNat) w := fun _ => by kernel_rfl
      have i1 : ∀ w, (Instr.index 30 (.agg #[.int .u8 x0.toNat, .int .u8 x1.toNat, .int .u8 x2.toNat, .int .u8 x3.toNat]) (.int .i64 1)).run Try.prog w = .ok (.int .u8 x1.toNat) w := fun _ => by kernel_rfl
      have i2 : ∀ w, (Instr.index 30 (.agg #[.int .u8 x0.toNat, .int .u8 x1.toNat, .int .u8 x2.toNat, .int .u8 x3.toNat]) (.int .i64 2)).run Try.prog w = .ok (.int .u8 x2.toNat) w := fun _ => by kernel_rfl
      have i3 : ∀ w, (Instr.index 30 (.agg #[.int .u8 x0.toNat, .int .u8 x1.toNat, .int .u8 x2.toNat, .int .u8 x3.toNat]) (.int .i64 3)).run Try.prog w = .ok (.int .u8 x3.toNat) w := fun _ => by kernel_rfl
      have Hp := hide hpre
      have hb1' := hb1
      clear hpre ho1 q0 q1 q2 q3
      go_loopw [32] (fun iv wr => ∃ j : Nat, j ≤ 4 ∧ iv = .int .i64 j ∧ Own wr (w.heap.size + 1) 5 (some ⟨g, 0, none⟩) n c1 (part pre suf b0 b1 b2 b3 x0 x1 x2 x3 j) ∧ Below (w.heap.size + 1) w1 wr) (fun iv _ => 4 - (intOf iv).toNat)
      case atStart => exact ⟨0, by omega, rfl, ho1', Below.refl _ _⟩
      case round =>
        obtain ⟨j, hj, rfl, hoj, hbj⟩ := hrel
        rcases (by omega : j = 0 ∨ j = 1 ∨ j = 2 ∨ j = 3 ∨ j = 4) with rfl | rfl | rfl | rfl | rfl
        · have cj := hoj.cell (j := k) (x := b0) (by have h := get_at pre (b0 :: b1 :: b2 :: b3 :: suf) k 0 Hp.out; simpa [part] using h)
          have fj := hoj.frozen (k)
          have hs := hoj.set (k) (b0 ^^^ x0)
          have es : (part pre suf b0 b1 b2 b3 x0 x1 x2 x3 0).set (k) (b0 ^^^ x0) = part pre suf b0 b1 b2 b3 x0 x1 x2 x3 1 := by
            have h := set_at pre (b0 :: b1 :: b2 :: b3 :: suf) k 0 Hp.out (b0 ^^^ x0)
            simpa [part] using h
          rw [es] at hs
          clear es
          go_wp2_with fail
          simp only [xor_u8]
          go_roundw
          case rel => exact ⟨1, by omega, rfl, hs, hbj.setCell hg0 _⟩
          case measure => simp [intOf]
        · have cj := hoj.cell (j := k + 1) (x := b1) (by have h := get_at pre ((b0 ^^^ x0) :: b1 :: b2 :: b3 :: suf) k 1 Hp.out; simpa [part] using h)
          have fj := hoj.frozen (k + 1)
          have hs := hoj.set (k + 1) (b1 ^^^ x1)
          have es : (part pre suf b0 b1 b2 b3 x0 x1 x2 x3 1).set (k + 1) (b1 ^^^ x1) = part pre suf b0 b1 b2 b3 x0 x1 x2 x3 2 := by
            have h := set_at pre ((b0 ^^^ x0) :: b1 :: b2 :: b3 :: suf) k 1 Hp.out (b1 ^^^ x1)
            simpa [part] using h
          rw [es] at hs
          clear es
          go_wp2_with fail
          simp only [xor_u8]
          go_roundw
          case rel => exact ⟨2, by omega, rfl, hs, hbj.setCell hg0 _⟩
          case measure => simp [intOf]
        · have cj := hoj.cell (j := k + 2) (x := b2) (by have h := get_at pre ((b0 ^^^ x0) :: (b1 ^^^ x1) :: b2 :: b3 :: suf) k 2 Hp.out; simpa [part] using h)
          have fj := hoj.frozen (k + 2)
          have hs := hoj.set (k + 2) (b2 ^^^ x2)
          have es : (part pre suf b0 b1 b2 b3 x0 x1 x2 x3 2).set (k + 2) (b2 ^^^ x2) = part pre suf b0 b1 b2 b3 x0 x1 x2 x3 3 := by
            have h := set_at pre ((b0 ^^^ x0) :: (b1 ^^^ x1) :: b2 :: b3 :: suf) k 2 Hp.out (b2 ^^^ x2)
            simpa [part] using h
          rw [es] at hs
          clear es
          go_wp2_with fail
          simp only [xor_u8]
          go_roundw
          case rel => exact ⟨3, by omega, rfl, hs, hbj.setCell hg0 _⟩
          case measure => simp [intOf]
        · have cj := hoj.cell (j := k + 3) (x := b3) (by have h := get_at pre ((b0 ^^^ x0) :: (b1 ^^^ x1) :: (b2 ^^^ x2) :: b3 :: suf) k 3 Hp.out; simpa [part] using h)
          have fj := hoj.frozen (k + 3)
          have hs := hoj.set (k + 3) (b3 ^^^ x3)
          have es : (part pre suf b0 b1 b2 b3 x0 x1 x2 x3 3).set (k + 3) (b3 ^^^ x3) = part pre suf b0 b1 b2 b3 x0 x1 x2 x3 4 := by
            have h := set_at pre ((b0 ^^^ x0) :: (b1 ^^^ x1) :: (b2 ^^^ x2) :: b3 :: suf) k 3 Hp.out (b3 ^^^ x3)
            simpa [part] using h
          rw [es] at hs
          clear es
          go_wp2_with fail
          simp only [xor_u8]
          go_roundw
          case rel => exact ⟨4, by omega, rfl, hs, hbj.setCell hg0 _⟩
          case measure => simp [intOf]
        · have hb2 : Below w.heap.size w wr := hb0.trans ((hb1'.mono (by omega)).trans (hbj.mono (by omega)))
          have HQ : ∀ w', Below wr.heap.size wr w' → w'.cell? ⟨w.heap.size, 0, none⟩ = some (.int .u8 x0.toNat) ∧ w'.cell? ⟨w.heap.size, 1, none⟩ = some (.int .u8 x1.toNat) ∧ w'.cell? ⟨w.heap.size, 2, none⟩ = some (.int .u8 x2.toNat) ∧ w'.cell? ⟨w.heap.size, 3, none⟩ = some (.int .u8 x3.toNat) := by
            intro w' h
            have h1 := hbj.size
            have h2 := hb1'.size
            simp at h2
            exact box4 Hx.out (hb1'.trans (hbj.trans (h.mono (by omega)))) (Nat.lt_succ_self _)
          have Q0 := fun w' h => (HQ w' h).1
          have Q1 := fun w' h => (HQ w' h).2.1
          have Q2 := fun w' h => (HQ w' h).2.2.1
          have Q3 := fun w' h => (HQ w' h).2.2.2
          have hl2 := hr.below hb2
          clear HQ
          go_wp2_with fail
          by_cases hz : x0 = 0 ∧ x1 = 0 ∧ x2 = 0 ∧ x3 = 0
          · have hne : (V (CrcP.sum (part pre suf b0 b1 b2 b3 x0 x1 x2 x3 4)) == V (CrcP.sum (pre ++ b0 :: b1 :: b2 :: b3 :: suf))) = true := by
              obtain ⟨rfl, rfl, rfl, rfl⟩ := hz
              simp [part]
            have heq : ∀ W, (Op.equalIn 10000 30 (.agg #[.int .u8 x0.toNat, .int .u8 x1.toNat, .int .u8 x2.toNat, .int .u8 x3.toNat]) (.agg #[.int .u8 0, .int .u8 0, .int .u8 0, .int .u8 0])).run Try.prog W = .ok true W := by
              intro W
              have h := eq_four 9998 x0.toNat x1.toNat x2.toNat x3.toNat 0 0 0 0 W
              obtain ⟨rfl, rfl, rfl, rfl⟩ := hz
              exact h
            clear hz
            go_region_held (fun w' => Below wr.heap.size wr w')
              (first | exact (Below.refl _ _).drew | assumption | exact below_nxt (by assumption) hb | exact Below.alloc (by assumption) (Below.size (by assumption)) _)
              ((first
                | (go_at_call_of 16 (Value.slice A n c); refine (sum_any _ _ _ _ _ (hl2.below (by assumption))).mono ?_; rintro e w1 ⟨rfl, rfl⟩)
                | (go_at_call 16; refine (sum_any _ _ _ _ _ ((Own.below hoj (by assumption)).rd)).mono ?_; rintro e w1 ⟨rfl, rfl⟩)
                | (go_at_call 14; refine (awake_any _).mono ?_; rintro e w6 ⟨rfl, hb⟩)))
            all_goals (go_wp2_with fail; go_ret; exact ⟨rfl, below_nxt hb2 (by assumption)⟩)
          · have hne : (V (CrcP.sum (part pre suf b0 b1 b2 b3 x0 x1 x2 x3 4)) == V (CrcP.sum (pre ++ b0 :: b1 :: b2 :: b3 :: suf))) = false := by
              rw [beq_eq_false_iff_ne]
              intro h
              have h1 := V_inj h
              refine hz ((CrcP.burst 0#32 pre suf b0 b1 b2 b3 x0 x1 x2 x3).1 ?_)
              simpa [part, CrcP.sum] using h1
            have heq : ∀ W, (Op.equalIn 10000 30 (.agg #[.int .u8 x0.toNat, .int .u8 x1.toNat, .int .u8 x2.toNat, .int .u8 x3.toNat]) (.agg #[.int .u8 0, .int .u8 0, .int .u8 0, .int .u8 0])).run Try.prog W = .ok false W := by
              intro W
              have h := eq_four 9998 x0.toNat x1.toNat x2.toNat x3.toNat 0 0 0 0 W
              have hf : ((x0.toNat : Int) == 0 && ((x1.toNat : Int) == 0 && ((x2.toNat : Int) == 0 && (x3.toNat : Int) == 0))) = false := by
                cases hv : ((x0.toNat : Int) == 0 && ((x1.toNat : Int) == 0 && ((x2.toNat : Int) == 0 && (x3.toNat : Int) == 0)))
                · rfl
                · simp only [Bool.and_eq_true, beq_iff_eq] at hv
                  obtain ⟨v0, v1, v2, v3⟩ := hv
                  exact absurd ⟨UInt8.toNat_inj.1 (by simpa using v0), UInt8.toNat_inj.1 (by simpa using v1), UInt8.toNat_inj.1 (by simpa using v2), UInt8.toNat_inj.1 (by simpa using v3)⟩ hz
              rw [hf] at h
              exact h
            clear hz
            go_region_held (fun w' => Below wr.heap.size wr w')
              (first | exact (Below.refl _ _).drew | assumption | exact below_nxt (by assumption) hb | exact Below.alloc (by assumption) (Below.size (by assumption)) _)
              ((first
                | (go_at_call_of 16 (Value.slice A n c); refine (sum_any _ _ _ _ _ (hl2.below (by assumption))).mono ?_; rintro e w1 ⟨rfl, rfl⟩)
                | (go_at_call 16; refine (sum_any _ _ _ _ _ ((Own.below hoj (by assumption)).rd)).mono ?_; rintro e w1 ⟨rfl, rfl⟩)
                | (go_at_call 14; refine (awake_any _).mono ?_; rintro e w6 ⟨rfl, hb⟩)))
            all_goals (go_wp2_with fail; go_ret; exact ⟨rfl, below_nxt hb2 (by assumption)⟩)
end Go.Proofs.Ytackfepoomdpdaa
