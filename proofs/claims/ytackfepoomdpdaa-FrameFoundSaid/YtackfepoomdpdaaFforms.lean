/- The walk of the law FrameForms: it returns true for every kind, every two slices of bytes, every place, byte and cut; no condition. -/
import Derived.Test.YtackfepoomdpdaaFawake
import Derived.Deep.DeepCutAuto
namespace Go.Proofs.Ytackfepoomdpdaa
open Go.RowKit

def badW (k : Int) (l : List UInt8) : Bool := decide (k < 0 ∨ 255 < k ∨ 291 < l.length)
def wrapR (k : Int) (l : List UInt8) : List UInt8 := if badW k l then [] else wrapL k l
def wrapE (k : Int) (l : List UInt8) : Int := if badW k l then 1 else 0
def Wrapd (k : Int) (l : List UInt8) (w : World) (e : Ending) (w' : World) : Prop :=
  ∃ A n c, e = .returned (.tuple #[.slice A n c, .int .i64 (wrapE k l)]) ∧ Own w' w.heap.size 5 A n c (wrapR k l) ∧ Below w.heap.size w w'
theorem wrap_any (k : Int) (A : Option Addr) (n c : Nat) (l : List UInt8) (w : World) (hr : Rd w A n c l) : Calls Try.prog 24 #[.int .i64 k, .slice A n c] w (Wrapd k l w) := by
  have hl := hr.1
  by_cases h : k < 0 ∨ 255 < k ∨ 291 < n
  · have e : badW k l = true := by unfold badW; simp; omega
    exact (wrap_bad k A n c w h).mono fun e' w' ⟨h1, h2⟩ => ⟨none, 0, 0, by unfold wrapE; rw [e]; exact h1, by unfold wrapR; rw [e]; exact Own.nil _ _ _, by rw [h2]; exact Below.refl _ _⟩
  · have e : badW k l = false := by unfold badW; simp; omega
    exact (wrap_good k A n c l w hr (by omega) (by omega) (by omega)).mono fun e' w' ⟨A', c', h1, h2, h3⟩ => ⟨A', n + 9, c', by unfold wrapE; rw [e]; exact h1, by unfold wrapR; rw [e]; exact h2, h3⟩
theorem rwrap_any (k : Int) (A : Option Addr) (n c : Nat) (l : List UInt8) (w : World) (hr : Rd w A n c l) : Calls Try.prog 25 #[.int .i64 k, .slice A n c] w (Wrapd k l w) := by
  have hl := hr.1
  by_cases h : k < 0 ∨ 255 < k ∨ 291 < n
  · have e : badW k l = true := by unfold badW; simp; omega
    exact (rwrap_bad k A n c w h).mono fun e' w' ⟨h1, h2⟩ => ⟨none, 0, 0, by unfold wrapE; rw [e]; exact h1, by unfold wrapR; rw [e]; exact Own.nil _ _ _, by rw [h2]; exact Below.refl _ _⟩
  · have e : badW k l = false := by unfold badW; simp; omega
    exact (rwrap_good k A n c l w hr (by omega) (by omega) (by omega)).mono fun e' w' ⟨A', c', h1, h2, h3⟩ => ⟨A', n + 9, c', by unfold wrapE; rw [e]; exact h1, by unfold wrapR; rw [e]; exact h2, h3⟩
theorem wrapR_len (k : Int) (l : List UInt8) : (wrapR k l).length ≤ 300 := by
  unfold wrapR
  split
  · simp
  · rename_i h
    unfold badW at h
    simp only [decide_eq_true_eq] at h
    rw [wrapL_len]; omega

theorem idx42_0 (a b c : Value) (w : World) : (Instr.index 42 (.agg #[a, b, c]) (.int .i64 0)).run Try.prog w = .ok a w := by kernel_rfl
theorem idx42_1 (a b c : Value) (w : World) : (Instr.index 42 (.agg #[a, b, c]) (.int .i64 1)).run Try.prog w = .ok b w := by kernel_rfl
theorem idx42_2 (a b c : Value) (w : World) : (Instr.index 42 (.agg #[a, b, c]) (.int .i64 2)).run Try.prog w = .ok c w := by kernel_rfl
def Bent (w1 : World) (v : Value) (wx : World) : Prop := ∃ A n c L, v = .slice A n c ∧ Rd wx A n c L ∧ Below w1.heap.size w1 wx

set_option maxRecDepth 100000 in
set_option maxHeartbeats 2000000 in
theorem fforms_walk (k : Int) (A B : Option Addr) (n c m d : Nat) (l r : List UInt8) (at' : Int) (x : UInt8) (cut : Int) (w : World) (hl : Rd w A n c l) (hr : Rd w B m d r) :
    Calls Try.prog 9 #[.int .i64 k, .slice A n c, .slice B m d, .int .i64 at', .int .u8 x.toNat, .int .i64 cut] w fun e w' => e = .returned (.bool true) ∧ Below w.heap.size w w' := by
  by_cases hn : 400 < n
  · have hn' : (400 : Int) < (n : Int) := by omega
    go_enter Try.func9, Try.ntmps9
    go_wp2_with (go_at_call 23; refine (fawake_any _).mono ?_; rintro e w1 ⟨rfl, hb1⟩)
    go_ret
    exact ⟨rfl, hb1⟩
  · have hn' : (n : Int) ≤ 400 := by omega
    by_cases hm : 400 < m
    · have hm' : (400 : Int) < (m : Int) := by omega
      go_enter Try.func9, Try.ntmps9
      go_wp2_with (go_at_call 23; refine (fawake_any _).mono ?_; rintro e w1 ⟨rfl, hb1⟩)
      go_ret
      exact ⟨rfl, hb1⟩
    · have hm' : (m : Int) ≤ 400 := by omega
      go_enter Try.func9, Try.ntmps9
      go_wp2_with fail
      refine (wrap_any _ _ _ _ _ _ hl).mono ?_
      rintro e w1 ⟨A1, n1, c1, rfl, ho1, hb1⟩
      go_wp2_with fail
      refine (rwrap_any _ _ _ _ _ _ (hl.below hb1)).mono ?_
      rintro e w2 ⟨A2, n2, c2, rfl, ho2, hb2⟩
      have hbb2 := below_next hb1 hb2
      have k1 := conv22 (ho1.rd.below hb2)
      have k2 := conv22 ho2.rd
      have hn2 : n2 ≤ 300 := by have := ho2.len; have := wrapR_len k l; omega
      have ho0 : Own (w2.alloc (.cells #[] 5)) w2.heap.size 5 (some ⟨w2.heap.size, 0, none⟩) 0 0 [] := Own.lit w2 w2.heap.size 5 #[] (l := []) rfl (by decide) (Nat.le_refl _)
      have hb20 : Below w2.heap.size w2 (w2.alloc (.cells #[] 5)) := (Below.refl _ _).alloc (Nat.le_refl _) _
      go_upto_if 64 with ((at_builtin; refine wpList_append8 _ rfl _ _ _ rfl w2.heap.size 5 Try.underlying22 isByte _ 0 0 [] rfl ho0 A2 n2 c2 _ rfl (ho2.rd.below hb20) (by omega) (by simp) ?_; intro A3 c3 w3 ho3 hb3 _ _))
      have ho3' : Own w3 w2.heap.size 5 A3 n2 c3 (wrapR k l) := by simpa using ho3
      have hb3' := hb20.trans hb3
      clear k1 k2
      go_cut [17] (fun v wx => Bent w2 v wx)
      case first =>
        by_cases h0 : 0 < n2
        · have h0' : (0 : Int) < (n2 : Int) := by omega
          obtain ⟨j, hj, ej⟩ := rem_nat at' n2 (by omega) (by omega)
          obtain ⟨t, ht, et⟩ := rem_nat cut n2 (by omega) (by omega)
          obtain ⟨g, rfl, hg0, hg1⟩ := ho3'.form h0
          have hj0 : (0 : Int) ≤ (j : Int) := by omega
          have hj1 : (j : Int) < (n2 : Int) := by omega
          have ht0 : (0 : Int) ≤ (n2 : Int) - (t : Int) := by omega
          have hcap := ho3'.rd.2.1
          have ht1 : (n2 : Int) - (t : Int) ≤ (c3 : Int) := by omega
          have htt : ((n2 : Int) - (t : Int)).toNat = n2 - t := by omega
          have hv : (wrapR k l)[j]? = some ((wrapR k l).getD j 0) := by rw [List.getD_eq_getElem?_getD, List.getElem?_eq_getElem (by rw [ho3'.len]; exact hj)]; rfl
          have hcell := ho3'.cell hv
          have hfr := ho3'.frozen j
          generalize (wrapR k l).getD j 0 = y at *
          have hset := ho3'.set j (y ^^^ x)
          have hrd := hset.rd.hi (k := n2 - t) (by omega)
          have hbl := hb3'.setCell (p := ⟨g, j, none⟩) hg0 (.int .u8 (y ^^^ x).toNat)
          have Hrd := hide hrd
          have Htt := hide htt
          clear hv hset hrd htt
          go_wp2_with fail
          go_meet
          case rel => rw [xor_u8]; exact ⟨_, _, _, _, rfl, Hrd.out, hbl⟩
        · have h0' : ¬ (0 : Int) < (n2 : Int) := by omega
          go_wp2_with fail
          go_meet
          case rel => exact ⟨_, _, _, _, rfl, ho3'.rd, hb3'⟩
      case rest =>
        obtain ⟨A4, n4, c4, L4, rfl, hr4, hb4⟩ := hcut
        have hb5 := below_next hbb2 hb4
        have hrr := hr.below hb5
        have hqq := ho2.rd.below hb4
        have i0 := idx42_0 (.slice A4 n4 c4) (.slice B m d) (.slice A2 n2 c2)
        have i1 := idx42_1 (.slice A4 n4 c4) (.slice B m d) (.slice A2 n2 c2)
        have i2 := idx42_2 (.slice A4 n4 c4) (.slice B m d) (.slice A2 n2 c2)
        go_wp2_with fail
        go_loopw [91] (fun iv wr => ∃ j : Nat, j ≤ 3 ∧ iv = .int .i64 j ∧ Below wc.heap.size wc wr) (fun iv _ => 3 - (intOf iv).toNat)
        case atStart => exact ⟨0, by omega, rfl, Below.refl _ _⟩
        case round =>
          obtain ⟨j, hj, rfl, hbr⟩ := hrel
          rcases (by omega : j = 0 ∨ j = 1 ∨ j = 2 ∨ j = 3) with rfl | rfl | rfl | rfl
          · go_wp2_with fail
            refine (unwrap_any _ _ _ _ _ (hr4.below hbr)).mono ?_
            rintro e w5 ⟨A5, n5, c5, rfl, h5, hb5'⟩
            go_wp2_with fail
            refine (runwrap_any _ _ _ _ _ ((hr4.below hbr).below hb5')).mono ?_
            rintro e w6 ⟨A6, n6, c6, rfl, h6, hb6'⟩
            have kz := conv22 (h5.below hb6')
            have kw := conv22 h6
            go_wp2_with fail
            go_roundw
            case rel => exact ⟨1, by omega, rfl, below_next (below_next hbr hb5') hb6'⟩
            case measure => simp [intOf]
          · go_wp2_with fail
            refine (unwrap_any _ _ _ _ _ (hrr.below hbr)).mono ?_
            rintro e w5 ⟨A5, n5, c5, rfl, h5, hb5'⟩
            go_wp2_with fail
            refine (runwrap_any _ _ _ _ _ ((hrr.below hbr).below hb5')).mono ?_
            rintro e w6 ⟨A6, n6, c6, rfl, h6, hb6'⟩
            have kz := conv22 (h5.below hb6')
            have kw := conv22 h6
            go_wp2_with fail
            go_roundw
            case rel => exact ⟨2, by omega, rfl, below_next (below_next hbr hb5') hb6'⟩
            case measure => simp [intOf]
          · go_wp2_with fail
            refine (unwrap_any _ _ _ _ _ (hqq.below hbr)).mono ?_
            rintro e w5 ⟨A5, n5, c5, rfl, h5, hb5'⟩
            go_wp2_with fail
            refine (runwrap_any _ _ _ _ _ ((hqq.below hbr).below hb5')).mono ?_
            rintro e w6 ⟨A6, n6, c6, rfl, h6, hb6'⟩
            have kz := conv22 (h5.below hb6')
            have kw := conv22 h6
            go_wp2_with fail
            go_roundw
            case rel => exact ⟨3, by omega, rfl, below_next (below_next hbr hb5') hb6'⟩
            case measure => simp [intOf]
          · go_wp2_with fail
            refine (fawake_any _).mono ?_
            rintro e w5 ⟨rfl, hb5'⟩
            go_wp2_with fail
            go_ret
            exact ⟨rfl, below_next (below_next hb5 hbr) hb5'⟩
end Go.Proofs.Ytackfepoomdpdaa
