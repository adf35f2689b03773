/- What frame.Unwrap does, for every slice of bytes. -/
import Derived.Test.YtackfepoomdpdaaFrame
namespace Go.Proofs.Ytackfepoomdpdaa
open Go.RowKit

def rOk (l : List UInt8) : Bool := decide (4 ≤ l.length) && (putL (l.take (l.length - 4)) == l)
def rRes (l : List UInt8) : List UInt8 := if rOk l then l.take (l.length - 4) else []
theorem rOk_iff (l : List UInt8) : rOk l = true ↔ 4 ≤ l.length ∧ Rt l := by simp [rOk, Rt]

/-- what both Rights come to -/
def Rights (l : List UInt8) (w : World) (e : Ending) (w' : World) : Prop :=
  ∃ A' c', e = .returned (.tuple #[.slice A' (rRes l).length c', .bool (rOk l)]) ∧ Own w' w.heap.size 5 A' (rRes l).length c' (rRes l) ∧ Below w.heap.size w w'

theorem rights_any (A : Option Addr) (n c : Nat) (l : List UInt8) (w : World) (hr : Rd w A n c l) (hn : n ≤ 900000) : Calls Try.prog 17 #[.slice A n c] w (Rights l w) := by
  have hl := hr.1
  by_cases h4 : n < 4
  · have e : rOk l = false := by unfold rOk; simp; omega
    have e2 : rRes l = [] := by unfold rRes; rw [e]; rfl
    exact (right_short A n c w h4).mono fun e' w' ⟨h1, h2⟩ => ⟨none, 0, by rw [e, e2]; exact h1, by rw [e2]; exact Own.nil _ _ _, h2⟩
  · by_cases hR : Rt l
    · have e : rOk l = true := (rOk_iff l).2 ⟨by omega, hR⟩
      have e2 : rRes l = l.take (n - 4) := by unfold rRes; rw [if_pos e, hl]
      have e3 : (l.take (n - 4)).length = n - 4 := by rw [List.length_take]; omega
      refine (right_is A n c l w hr (by omega) (by omega) hR).mono fun e' w' ⟨A', c', h1, h2, h3⟩ => ⟨A', c', by rw [e, e2, e3]; exact h1, by rw [e2, e3]; exact h2, h3⟩
    · have e : rOk l = false := by
        cases h : rOk l
        · rfl
        · exact absurd ((rOk_iff l).1 h).2 hR
      have e2 : rRes l = [] := by unfold rRes; rw [e]; rfl
      exact (right_not A n c l w hr (by omega) (by omega) hR).mono fun e' w' ⟨h1, h2⟩ => ⟨none, 0, by rw [e, e2]; exact h1, by rw [e2]; exact Own.nil _ _ _, h2⟩

/-- what a frame has in it -/
def unw (l : List UInt8) : Int × List UInt8 × Int :=
  if 300 < l.length then (0, [], 3)
  else if l.length < 9 then (0, [], 2)
  else if l.take 2 = [68, 80] ∧ lenOf l = l.length then (if rOk (l.drop 2) then ((l.getD 2 0).toNat, (l.drop 5).take (l.length - 9), 0) else (0, [], 4))
  else (0, [], 3)
def Unw (l : List UInt8) (w : World) (e : Ending) (w' : World) : Prop :=
  ∃ A n c, e = .returned (.tuple #[.int .i64 (unw l).1, .slice A n c, .int .i64 (unw l).2.2]) ∧ Rd w' A n c (unw l).2.1 ∧ Below w.heap.size w w'

theorem rd_none (w : World) : Rd w none 0 0 [] := Rd.nil _ _ (Nat.zero_le _)

theorem right_at (A : Option Addr) (m c : Nat) (l : List UInt8) (w : World) (hr : Rd w A (m + 4) c l) (hn2 : m ≤ 900000) (he : Rt l) :
    Calls Try.prog 17 #[.slice A (m + 4) c] w fun e w' => ∃ A' c', e = .returned (.tuple #[.slice A' m c', .bool true]) ∧ Own w' w.heap.size 5 A' m c' (l.take m) ∧ Below w.heap.size w w' := by
  have h := right_is A (m + 4) c l w hr (by omega) (by omega) he
  simpa only [Nat.add_sub_cancel] using h

/-- a good frame of m bytes -/
structure Good (l : List UInt8) (m : Nat) : Prop where
  len : l.length = m + 9
  short : m ≤ 291
  mark : l.take 2 = [68, 80]
  says : lenOf l = m + 9
theorem unw_good {l : List UInt8} {m : Nat} (h : Good l m) : unw l = if rOk (l.drop 2) then (((l.getD 2 0).toNat : Int), (l.drop 5).take m, 0) else (0, [], 4) := by
  have h1 := h.len
  have h2 := h.short
  have h3 := h.says
  unfold unw
  rw [if_neg (by omega), if_neg (by omega), if_pos ⟨h.mark, by omega⟩, h1, Nat.add_sub_cancel]
theorem inner_drop (l : List UInt8) (m : Nat) : ((l.drop 2).take (m + 3)).drop 3 = (l.drop 5).take m := by
  rw [List.drop_take, List.drop_drop, Nat.add_sub_cancel]
theorem inner_first (l : List UInt8) (m : Nat) (h : 2 < l.length) : ((l.drop 2).take (m + 3))[0]? = some (l.getD 2 0) := by
  rw [List.getElem?_take, if_pos (by omega), List.getElem?_drop, List.getD_eq_getElem?_getD, List.getElem?_eq_getElem h]
  rfl

set_option maxRecDepth 100000 in
set_option maxHeartbeats 1000000 in
theorem unwrap_good (A : Option Addr) (m c : Nat) (l : List UInt8) (w : World) (hr : Rd w A (m + 9) c l) (hg : Good l m) : Calls Try.prog 26 #[.slice A (m + 9) c] w (Unw l w) := by
  have kc := fun (w : World) (C : Array Value) (n c : Nat) => Lib.run_convert_bytes_const (P := Try.prog) w 22 5 C n c Try.underlying22 Try.underlying5
  have h1 := hg.short
  have h1' : (m : Int) + 9 ≤ 300 := by omega
  have h2' : (9 : Int) ≤ (m : Int) + 9 := by omega
  have hnc : (m : Int) + 9 ≤ (c : Int) := by have := hr.2.1; omega
  have hnc2 : (2 : Int) ≤ (c : Int) := by omega
  have hc2 : ¬ c = 2 := by have := hr.2.1; omega
  have hmk : Rd (w.alloc (.cells #[.int .u8 68, .int .u8 80] 5 (2, 3))) (some ⟨w.heap.size, 0, none⟩) 2 2 [68, 80] := Rd.newFr w 5 _ _ rfl (by decide)
  have hba : Below w.heap.size w (w.alloc (.cells #[.int .u8 68, .int .u8 80] 5 (2, 3))) := (Below.refl _ _).alloc (Nat.le_refl _) _
  have hr1 := hr.below hba
  have hpb := str_same hg.mark
  have hqb : (((lenOf l : Nat) : Int) == (m : Int) + 9) = true := by rw [hg.says]; simp
  have E := hide (unw_good hg)
  have Hl := hide hg.len
  go_enter Try.func26, Try.ntmps26
  go_wp2_with (first
    | (go_at_call 32; refine (hasPrefix_any _ _ _ _ _ _ _ _ _ hr1 hmk (by omega)).mono ?_; rintro e w' ⟨rfl, rfl⟩)
    | (go_at_call 33; refine (length_any _ _ _ _ _ hr1 (by omega)).mono ?_; rintro e w1 ⟨rfl, hb1⟩))
  have hbb := below_next hba hb1
  have hr2 := (hr.below hbb).lo_ne (k := 2) (by omega) hc2
  by_cases hR : Rt (l.drop 2)
  · have hok : rOk (l.drop 2) = true := (rOk_iff _).2 ⟨by rw [List.length_drop, Hl.out]; omega, hR⟩
    have E2 : Hid (unw l = (((l.getD 2 0).toNat : Int), (l.drop 5).take m, 0)) := hide (by rw [E.out, if_pos hok])
    clear hok E hpb hqb hr1 hmk
    refine (right_at _ (m + 3) _ _ _ hr2 (by omega) hR).mono ?_
    rintro e w2 ⟨A2, c2, rfl, ho2, hb2⟩
    obtain ⟨g, rfl, _, _⟩ := ho2.form (by omega)
    have hcell := ho2.cell (inner_first l m (by rw [Hl.out]; omega))
    have hb3 := below_next hbb hb2
    have hc3 : (m : Int) + 3 ≤ (c2 : Int) := by have := ho2.rd.2.1; omega
    have hc3' : (3 : Int) ≤ (c2 : Int) := by omega
    have p0 : (0 : Int) < (m : Int) + 3 := by omega
    have p3 : (3 : Int) ≤ (m : Int) + 3 := by omega
    generalize l.getD 2 0 = y at *
    have hlt := y.toNat_lt
    by_cases hc : c2 = 3
    · subst hc
      have hrd := ho2.rd.lo_eq (k := 3) (by omega) rfl
      rw [inner_drop, Nat.add_sub_cancel] at hrd
      go_wp2_with fail
      go_quiet (fail)
      go_wp2_with fail
      go_ret3
      exact ⟨_, _, _, by rw [E2.out]; rfl, by rw [E2.out]; exact hrd.drewN _, below_drewN hb3 _⟩
    · have hrd := ho2.rd.lo_ne (k := 3) (by omega) hc
      rw [inner_drop, Nat.add_sub_cancel] at hrd
      go_wp2_with fail
      go_quiet (fail)
      go_wp2_with fail
      go_ret3
      exact ⟨_, _, _, by rw [E2.out]; rfl, by rw [E2.out]; exact hrd.drewN _, below_drewN hb3 _⟩
  · have hok : ¬ rOk (l.drop 2) = true := fun h => hR ((rOk_iff _).1 h).2
    have E2 : Hid (unw l = (0, [], 4)) := hide (by rw [E.out, if_neg hok])
    clear hok E hpb hqb hr1 hmk
    refine (right_not _ _ _ _ _ hr2 (by omega) (by omega) hR).mono ?_
    rintro e w2 ⟨rfl, hb2⟩
    go_wp2_with fail
    go_ret3
    exact ⟨none, 0, 0, by rw [E2.out]; rfl, by rw [E2.out]; exact rd_none _, below_next hbb hb2⟩

set_option maxHeartbeats 1000000 in
theorem unwrap_any (A : Option Addr) (n c : Nat) (l : List UInt8) (w : World) (hr : Rd w A n c l) : Calls Try.prog 26 #[.slice A n c] w (Unw l w) := by
  have hl := hr.1
  have kc := fun (w : World) (C : Array Value) (n c : Nat) => Lib.run_convert_bytes_const (P := Try.prog) w 22 5 C n c Try.underlying22 Try.underlying5
  by_cases h1 : 300 < n
  · have e : unw l = (0, [], 3) := by unfold unw; rw [if_pos (by omega)]
    have h1' : (300 : Int) < (n : Int) := by omega
    clear hl
    have E := hide e
    clear e
    go_enter Try.func26, Try.ntmps26
    go_wp2_with fail
    go_ret3
    exact ⟨none, 0, 0, by rw [E.out]; rfl, by rw [E.out]; exact rd_none _, Below.refl _ _⟩
  · by_cases h2 : n < 9
    · have e : unw l = (0, [], 2) := by unfold unw; rw [if_neg (by omega), if_pos (by omega)]
      have h1' : (n : Int) ≤ 300 := by omega
      have h2' : (n : Int) < 9 := by omega
      clear hl
      have E := hide e
      clear e
      go_enter Try.func26, Try.ntmps26
      go_wp2_with fail
      go_ret3
      exact ⟨none, 0, 0, by rw [E.out]; rfl, by rw [E.out]; exact rd_none _, Below.refl _ _⟩
    · have h1' : (n : Int) ≤ 300 := by omega
      have h2' : (9 : Int) ≤ (n : Int) := by omega
      have hmk : Rd (w.alloc (.cells #[.int .u8 68, .int .u8 80] 5 (2, 3))) (some ⟨w.heap.size, 0, none⟩) 2 2 [68, 80] := Rd.newFr w 5 _ _ rfl (by decide)
      have hba : Below w.heap.size w (w.alloc (.cells #[.int .u8 68, .int .u8 80] 5 (2, 3))) := (Below.refl _ _).alloc (Nat.le_refl _) _
      have hr1 := hr.below hba
      by_cases hp : l.take 2 = [68, 80]
      · by_cases hq : lenOf l = n
        · obtain ⟨m, rfl⟩ : ∃ m, n = m + 9 := ⟨n - 9, by omega⟩
          exact unwrap_good A m c l w hr ⟨hl, by omega, hp, hq⟩
        · have hpb := str_same hp
          have hqb : (((lenOf l : Nat) : Int) == (n : Int)) = false := by simp; omega
          have E : Hid (unw l = (0, [], 3)) := hide (by unfold unw; rw [if_neg (by omega), if_neg (by omega), if_neg (by omega)])
          clear hl hp hq
          go_enter Try.func26, Try.ntmps26
          go_wp2_with (first
            | (go_at_call 32; refine (hasPrefix_any _ _ _ _ _ _ _ _ _ hr1 hmk (by omega)).mono ?_; rintro e w' ⟨rfl, rfl⟩)
            | (go_at_call 33; refine (length_any _ _ _ _ _ hr1 (by omega)).mono ?_; rintro e w1 ⟨rfl, hb1⟩))
          go_ret3
          exact ⟨none, 0, 0, by rw [E.out]; rfl, by rw [E.out]; exact rd_none _, below_next hba hb1⟩
      · have hpb := str_other hp
        have E : Hid (unw l = (0, [], 3)) := hide (by unfold unw; rw [if_neg (by omega), if_neg (by omega), if_neg (fun h => hp h.1)])
        clear hl hp
        go_enter Try.func26, Try.ntmps26
        go_wp2_with (go_at_call 32; refine (hasPrefix_any _ _ _ _ _ _ _ _ _ hr1 hmk (by omega)).mono ?_; rintro e w' ⟨rfl, rfl⟩)
        go_ret3
        exact ⟨none, 0, 0, by rw [E.out]; rfl, by rw [E.out]; exact rd_none _, hba⟩
end Go.Proofs.Ytackfepoomdpdaa
