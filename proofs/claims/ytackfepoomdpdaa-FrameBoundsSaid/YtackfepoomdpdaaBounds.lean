/- The walk of the law FrameBounds: it returns true for every number and every slice of bytes; no condition. -/
import Derived.Test.YtackfepoomdpdaaFawake
namespace Go.Proofs.Ytackfepoomdpdaa
open Go.RowKit

def zc (n : Nat) : Array Value := madeCells #[Value.int .u8 0] n
theorem zc_list (n : Nat) : (zc n).toList = bys (List.replicate n 0) := by
  unfold zc
  rw [toList_madeCells_one]
  simp [bys, by8]
theorem make8 (n : Nat) (hn : n ≤ 1000000) (w : World) : (Instr.makeSlice 22 (.int .i64 (n : Int)) (.int .i64 (n : Int))).run Try.prog w = .ok (.slice (some ⟨w.heap.size, 0, none⟩) n n) (w.alloc (.cells (zc n) 5)) := by
  obtain ⟨i, hi, hz0, hz1, hz2⟩ := info_parts isByte
  have := run_make (P := Try.prog) w 22 5 i _ Try.underlying22 hi hz0 .i64 .i64 n n (by omega) (by omega) (by rw [hz2]; omega) (by omega)
  rw [this, hz1]
  simp only [Int.toNat_natCast, Nat.mul_one]
  rfl
theorem unw_long (l r : List UInt8) (m : Nat) (hg : Good l m) (hr : 0 < r.length) (hs : r.length < 20) : (unw (l ++ r)).2.2 = 3 := by
  have h1 := hg.len
  have h2 := hg.short
  have e1 : (l ++ r).getD 3 0 = l.getD 3 0 := by simp only [List.getD_eq_getElem?_getD]; rw [List.getElem?_append_left (by omega)]
  have e2 : (l ++ r).getD 4 0 = l.getD 4 0 := by simp only [List.getD_eq_getElem?_getD]; rw [List.getElem?_append_left (by omega)]
  have e3 : lenOf (l ++ r) = m + 9 := by rw [← hg.says]; unfold lenOf; rw [e1, e2]
  have e4 : (l ++ r).length = m + 9 + r.length := by rw [List.length_append, h1]
  unfold unw
  split
  · rfl
  · rw [if_neg (by omega), if_neg (by omega)]

theorem unw_short (l : List UInt8) (h : l.length < 9) : unw l = (0, [], 2) := by
  unfold unw
  rw [if_neg (by omega), if_pos h]

set_option maxRecDepth 100000 in
set_option maxHeartbeats 1000000 in
theorem bounds_walk (x : Int) (A : Option Addr) (m d : Nat) (l : List UInt8) (w : World) (hr : Rd w A m d l) :
    Calls Try.prog 10 #[.int .i64 x, .slice A m d] w fun e w' => e = .returned (.bool true) ∧ Below w.heap.size w w' := by
  obtain ⟨k, hk, ek⟩ := rem_nat x 12 (by omega) (by omega)
  have ek : wrap64 ((IntKind.u64.wrap x).tmod 12) = (k : Int) := ek
  have hk0 : (0 : Int) ≤ (k : Int) := by omega
  have hk1 : (k : Int) < 12 := by omega
  obtain ⟨n, hn⟩ : ∃ n : Nat, n = 285 + k := ⟨_, rfl⟩
  have hkn : (285 : Int) + (k : Int) = (n : Int) := by omega
  have hmk := make8 n (by omega)
  have hz : Rd (w.alloc (.cells (zc n) 5)) (some ⟨w.heap.size, 0, none⟩) (List.replicate n (0 : UInt8)).length (List.replicate n (0 : UInt8)).length (List.replicate n 0) := Rd.new w 5 _ (zc_list n) (by simp [maxLen]; omega)
  rw [List.length_replicate] at hz
  have hba : Below w.heap.size w (w.alloc (.cells (zc n) 5)) := (Below.refl _ _).alloc (Nat.le_refl _) _
  have hmd : (m : Int) ≤ (d : Int) := by have := hr.2.1; omega
  by_cases hb : 291 < n
  · have hb' : (291 : Int) < (n : Int) := by omega
    clear hn
    go_enter Try.func10, Try.ntmps10
    go_wp2_with fail
    refine (wrap_bad 2 _ _ _ _ (.inr (.inr hb))).mono ?_
    rintro e w1 ⟨rfl, rfl⟩
    go_wp2_with fail
    refine (fawake_any _).mono ?_
    rintro e w1 ⟨rfl, hb1⟩
    go_wp2_with fail
    go_ret
    exact ⟨rfl, below_next hba hb1⟩
  · have hb' : (n : Int) ≤ 291 := by omega
    clear hn
    go_enter Try.func10, Try.ntmps10
    go_wp2_with fail
    refine (wrap_good 2 _ _ _ _ _ hz (by omega) (by omega) (by omega)).mono ?_
    rintro e w1 ⟨A1, c1, rfl, ho1, hb1⟩
    have hbb1 := below_next hba hb1
    have hg := wrap_is_good 2 (List.replicate n 0) (by simp; omega)
    rw [List.length_replicate] at hg
    have E := hide (unw_wrap 2 (List.replicate n 0) (by omega) (by omega) (by simp; omega))
    go_wp2_with fail
    refine (unwrap_any _ _ _ _ _ ho1.rd).mono ?_
    rintro e w2 ⟨A2, n2, c2, rfl, hr2, hb2⟩
    rw [E.out] at hr2 ⊢
    have hn2 : n2 = n := by have := hr2.1; simpa using this.symm
    subst hn2
    have hbb2 := below_next hbb1 hb2
    have ho0 : Own (w2.alloc (.cells #[] 5)) w2.heap.size 5 (some ⟨w2.heap.size, 0, none⟩) 0 0 [] := Own.lit w2 w2.heap.size 5 #[] (l := []) rfl (by decide) (Nat.le_refl _)
    have hb20 : Below w2.heap.size w2 (w2.alloc (.cells #[] 5)) := (Below.refl _ _).alloc (Nat.le_refl _) _
    go_wp2_with (first
      | (at_builtin
         refine wpList_append8 _ rfl _ _ _ rfl w2.heap.size 5 Try.underlying22 isByte _ 0 0 [] rfl ho0 A1 _ c1 _ rfl ((ho1.rd.below hb2).below hb20) (by omega) (by simp) ?_
         intro A3 c3 w3 ho3 hb3 _ _
         have ho3' : Own w3 w2.heap.size 5 A3 (n2 + 9) c3 (wrapL 2 (List.replicate n2 0)) := by simpa using ho3
         have hb3' := hb20.trans hb3
         have hz1 : Rd (w3.alloc (.cells #[.int .u8 0] 5)) (some ⟨w3.heap.size, 0, none⟩) 1 1 [0] := Rd.new w3 5 _ (l := [0]) rfl (by decide))
      | (at_builtin
         refine wpList_append8 _ rfl _ _ _ rfl w2.heap.size 5 Try.underlying22 isByte A3 (n2 + 9) c3 _ rfl (ho3'.alloc _) _ 1 1 [0] rfl hz1 (by omega) (by have := hb3'.size; simp; omega) ?_
         intro A4 c4 w4 ho4 hb4 _ _
         have hb4' := (hb3'.alloc hb3'.size _).trans hb4))
    refine (unwrap_any _ _ _ _ _ ho4.rd).mono ?_
    rintro e w5 ⟨A5, n5, c5, rfl, hr5, hb5⟩
    rw [unw_long _ [0] n2 hg (by simp) (by simp)]
    generalize (unw (wrapL 2 (List.replicate n2 0) ++ [0])).1 = z5
    have hbb5 := below_next (hbb2.trans (hb4'.mono hbb2.size)) hb5
    by_cases h8 : 8 < m
    · have h8' : (8 : Int) < (m : Int) := by omega
      have h8d : (8 : Int) ≤ (d : Int) := by omega
      go_wp2_with fail
      refine (unwrap_any _ _ _ _ _ ((hr.below hbb5).hi (k := 8) (by omega))).mono ?_
      rintro e w6 ⟨A6, n6, c6, rfl, hr6, hb6⟩
      rw [unw_short _ (by rw [List.length_take]; omega)]
      go_wp2_with fail
      refine (fawake_any _).mono ?_
      rintro e w7 ⟨rfl, hb7⟩
      go_wp2_with fail
      go_ret
      exact ⟨rfl, below_next (below_next hbb5 hb6) hb7⟩
    · have h8' : (m : Int) ≤ 8 := by omega
      go_wp2_with fail
      refine (unwrap_any _ _ _ _ _ ((hr.below hbb5).hi (k := m) (by omega))).mono ?_
      rintro e w6 ⟨A6, n6, c6, rfl, hr6, hb6⟩
      rw [unw_short _ (by rw [List.length_take]; omega)]
      go_wp2_with fail
      refine (fawake_any _).mono ?_
      rintro e w7 ⟨rfl, hb7⟩
      go_wp2_with fail
      go_ret
      exact ⟨rfl, below_next (below_next hbb5 hb6) hb7⟩
end Go.Proofs.Ytackfepoomdpdaa
