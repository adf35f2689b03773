/- What the reference's Unwrap does, for every slice of bytes: just what the program's does. -/
import Derived.Test.YtackfepoomdpdaaUnwrap
namespace Go.Proofs.Ytackfepoomdpdaa
open Go.RowKit

theorem or_byte (a b : UInt8) : bits .or .u32 ((a.toNat : Int) * 256) (b.toNat : Int) = (a.toNat : Int) * 256 + (b.toNat : Int) := by
  have ha := a.toNat_lt
  have hb := b.toNat_lt
  show IntKind.u32.wrap ((BitVec.ofInt 32 ((a.toNat : Int) * 256) ||| BitVec.ofInt 32 (b.toNat : Int)).toNat : Int) = _
  have e1 : ((a.toNat : Int) * 256) = ((a.toNat * 256 : Nat) : Int) := by omega
  rw [e1, BitVec.ofInt_natCast, BitVec.ofInt_natCast, BitVec.toNat_or, BitVec.toNat_ofNat, BitVec.toNat_ofNat, Nat.mod_eq_of_lt (by omega), Nat.mod_eq_of_lt (by omega)]
  have e2 : a.toNat * 256 ||| b.toNat = a.toNat * 256 + b.toNat := by
    have := Nat.shiftLeft_add_eq_or_of_lt (b := b.toNat) (i := 8) (by omega) a.toNat
    rw [Nat.shiftLeft_eq] at this
    exact this.symm
  rw [e2, IntKind.wrap_u32]
  omega
theorem or_first (a : UInt8) : bits .or .u32 0 (a.toNat : Int) = (a.toNat : Int) := by
  have := or_byte 0 a
  simpa using this

set_option maxHeartbeats 400000 in
theorem number_two (A : Option Addr) (c : Nat) (x y : UInt8) (w : World) (hr : Rd w A 2 c [x, y]) :
    Calls Try.prog 34 #[.slice A 2 c] w fun e w' => e = .returned (.int .u32 ((x.toNat : Int) * 256 + (y.toNat : Int))) ∧ w = w' := by
  have hx := x.toNat_lt
  have hy := y.toNat_lt
  obtain ⟨ad, x', rfl, h0, hc0⟩ := hr.at_ (k := 0) (by omega)
  obtain ⟨ad', y', e, h1, hc1⟩ := hr.at_ (k := 1) (by omega)
  cases e
  simp at h0 h1
  subst h0 h1
  have hc0 : w.cell? ad = some (.int .u8 x.toNat) := hc0
  have hc1 : w.cell? ⟨ad.block, ad.off + 1, none⟩ = some (.int .u8 y.toNat) := hc1
  have o1 := or_first x
  have o2 := or_byte x y
  go_enter Try.func34, Try.ntmps34
  go_wp2
  go_loop [3, 8] (fun v i => (i = .int .i64 0 ∧ v = .int .u32 0) ∨ (i = .int .i64 1 ∧ v = .int .u32 (x.toNat : Int)) ∨ (i = .int .i64 2 ∧ v = .int .u32 ((x.toNat : Int) * 256 + (y.toNat : Int)))) (fun _ i => 2 - (intOf i).toNat)
  case atStart => exact .inl ⟨rfl, rfl⟩
  case round =>
    rcases hrel with ⟨rfl, rfl⟩ | ⟨rfl, rfl⟩ | ⟨rfl, rfl⟩
    · go_wp2
      go_round
      case rel => right; left; exact ⟨rfl, by simp⟩
      case measure => simp [intOf]
    · go_wp2
      go_round
      case rel => right; right; exact ⟨rfl, by simp⟩
      case measure => simp [intOf]
    · go_wp2
      go_ret
      exact ⟨rfl, rfl⟩

theorem two_of (l : List UInt8) (h : 5 ≤ l.length) : (l.drop 3).take 2 = [l.getD 3 0, l.getD 4 0] := by
  match l, h with
  | a :: b :: c :: d :: e :: r, _ => rfl

set_option maxRecDepth 100000 in
set_option maxHeartbeats 2000000 in
theorem runwrap_good (A : Option Addr) (m c : Nat) (l : List UInt8) (w : World) (hr : Rd w A (m + 9) c l) (hg : Good l m) : Calls Try.prog 27 #[.slice A (m + 9) c] w (Unw l w) := by
  have h1 := hg.short
  have h1' : (m : Int) + 9 ≤ 300 := by omega
  have h2' : (9 : Int) ≤ (m : Int) + 9 := by omega
  have hnc : (m : Int) + 9 ≤ (c : Int) := by have := hr.2.1; omega
  have hnc2 : (2 : Int) ≤ (c : Int) := by omega
  have hnc5 : (5 : Int) ≤ (c : Int) := by omega
  have hc2 : ¬ c = 2 := by have := hr.2.1; omega
  have hc3 : ¬ c = 3 := by have := hr.2.1; omega
  have hmark := conv22 (hr.hi (k := 2) (by omega))
  have hpb : ((str (l.take 2)).toList == [68, 80]) = true := by rw [str_toList, hg.mark]; rfl
  have hmid := hr.mid (k := 3) (m := 2) (by omega) (by omega)
  rw [two_of l (by rw [hg.len]; omega)] at hmid
  have hqb : (((l.getD 3 0).toNat : Int) * 256 + ((l.getD 4 0).toNat : Int) == (m : Int)) = true := by
    have := hg.says
    unfold lenOf at this
    simp only [beq_iff_eq]
    omega
  have E := hide (unw_good hg)
  have Hl := hide hg.len
  generalize l.getD 3 0 = x3 at *
  generalize l.getD 4 0 = x4 at *
  have hx3 := x3.toNat_lt
  have hx4 := x4.toNat_lt
  go_enter Try.func27, Try.ntmps27
  go_wp2_with (go_at_call 34; refine (number_two _ _ _ _ _ hmid).mono ?_; rintro e w' ⟨rfl, rfl⟩)
  have hr2 := hr.lo_ne (k := 2) (by omega) hc2
  by_cases hR : Rt (l.drop 2)
  · have hok : rOk (l.drop 2) = true := (rOk_iff _).2 ⟨by rw [List.length_drop, Hl.out]; omega, hR⟩
    have E2 : Hid (unw l = (((l.getD 2 0).toNat : Int), (l.drop 5).take m, 0)) := hide (by rw [E.out, if_pos hok])
    have hfirst := inner_first l m (by rw [Hl.out]; omega)
    have Hlen : Hid (((l.drop 5).take m).length = m) := hide (by rw [List.length_take, List.length_drop, Hl.out]; omega)
    clear hok E hpb hqb hmark hmid
    refine (rright_is _ (m + 3) _ _ _ hr2 (by omega) hR).mono ?_
    rintro e w2 ⟨A2, c2, rfl, ho2, hb2⟩
    obtain ⟨g, rfl, _, _⟩ := ho2.form (by omega)
    have hcell := ho2.cell hfirst
    clear hfirst
    have HC : ∀ w', Below w2.heap.size w2 w' → w'.cell? ⟨g, 0, none⟩ = some (.int .u8 (l.getD 2 0).toNat) := fun w' h => (h.cell (World.block_lt_of_cell? w2 _ hcell)).trans hcell
    have hc3 : (m : Int) + 3 ≤ (c2 : Int) := by have := ho2.rd.2.1; omega
    have hc3' : (3 : Int) ≤ (c2 : Int) := by omega
    have p0 : (0 : Int) < (m : Int) + 3 := by omega
    have p3 : (3 : Int) ≤ (m : Int) + 3 := by omega
    generalize l.getD 2 0 = y at *
    have hlt := y.toNat_lt
    have hwr : IntKind.i64.wrap (y.toNat : Int) = (y.toNat : Int) := by rw [IntKind.wrap_i64]; omega
    by_cases hc : c2 = 3
    · subst hc
      have hrd := ho2.rd.lo_eq (k := 3) (by omega) rfl
      rw [inner_drop, Nat.add_sub_cancel] at hrd
      go_wp2_with fail
      go_region_held (fun w' => Below w2.heap.size w2 w')
        (first | exact (Below.refl _ _).drew | assumption | exact below_next (by assumption) hb | exact Below.alloc (by assumption) (Below.size (by assumption)) _)
        ((go_at_call 22; refine (join_as _ 1 1 m [(l.drop 5).take m] ((l.drop 5).take m) _ (by simp) Hlen.out (rdl_one (by simp [World.cell?_alloc_new]) (hrd.below (by assumption))) (by omega)).mono ?_; rintro e w5 ⟨A5, c5, rfl, ho5, hb⟩))
      all_goals (go_wp2_with fail; go_ret3; exact ⟨A5, _, c5, by rw [E2.out]; rfl, by rw [E2.out]; exact ho5.rd, below_next hb2 (by assumption)⟩)
    · have hrd := ho2.rd.lo_ne (k := 3) (by omega) hc
      rw [inner_drop, Nat.add_sub_cancel, Option.map_some, addAt] at hrd
      go_wp2_with fail
      go_region_held (fun w' => Below w2.heap.size w2 w')
        (first | exact (Below.refl _ _).drew | assumption | exact below_next (by assumption) hb | exact Below.alloc (by assumption) (Below.size (by assumption)) _)
        ((go_at_call 22; refine (join_as _ 1 1 m [(l.drop 5).take m] ((l.drop 5).take m) _ (by simp) Hlen.out (rdl_one (by simp [World.cell?_alloc_new]) (hrd.below (by assumption))) (by omega)).mono ?_; rintro e w5 ⟨A5, c5, rfl, ho5, hb⟩))
      all_goals (go_wp2_with fail; go_ret3; exact ⟨A5, _, c5, by rw [E2.out]; rfl, by rw [E2.out]; exact ho5.rd, below_next hb2 (by assumption)⟩)
  · have hok : ¬ rOk (l.drop 2) = true := fun h => hR ((rOk_iff _).1 h).2
    have E2 : Hid (unw l = (0, [], 4)) := hide (by rw [E.out, if_neg hok])
    clear hok E hpb hqb hmark hmid
    refine (rright_not _ (m + 3) _ _ _ hr2 (by omega) hR).mono ?_
    rintro e w2 ⟨rfl, hb2⟩
    go_wp2_with fail
    go_ret3
    exact ⟨none, 0, 0, by rw [E2.out]; rfl, by rw [E2.out]; exact rd_none _, hb2⟩

set_option maxHeartbeats 1000000 in
theorem runwrap_any (A : Option Addr) (n c : Nat) (l : List UInt8) (w : World) (hr : Rd w A n c l) : Calls Try.prog 27 #[.slice A n c] w (Unw l w) := by
  have hl := hr.1
  by_cases h1 : 300 < n
  · have e : unw l = (0, [], 3) := by unfold unw; rw [if_pos (by omega)]
    have h1' : (300 : Int) < (n : Int) := by omega
    clear hl
    have E := hide e
    clear e
    go_enter Try.func27, Try.ntmps27
    go_wp2_with fail
    go_ret3
    exact ⟨none, 0, 0, by rw [E.out]; rfl, by rw [E.out]; exact rd_none _, Below.refl _ _⟩
  · by_cases h2 : n < 9
    · have e : unw l = (0, [], 2) := by unfold unw; rw [if_neg (by omega), if_pos (by omega)]
      have h1' : (n : Int) ≤ 300 := by omega
      have h2' : (n : Int) < 9 := by omega
      clear hl
      have E := hide e
      clear e
      go_enter Try.func27, Try.ntmps27
      go_wp2_with fail
      go_ret3
      exact ⟨none, 0, 0, by rw [E.out]; rfl, by rw [E.out]; exact rd_none _, Below.refl _ _⟩
    · have h1' : (n : Int) ≤ 300 := by omega
      have h2' : (9 : Int) ≤ (n : Int) := by omega
      have hnc2 : (2 : Int) ≤ (c : Int) := by have := hr.2.1; omega
      have hnc5 : (5 : Int) ≤ (c : Int) := by have := hr.2.1; omega
      have hc3 : ¬ c = 3 := by have := hr.2.1; omega
      have hmark := conv22 (hr.hi (k := 2) (by omega))
      by_cases hp : l.take 2 = [68, 80]
      · by_cases hq : lenOf l = n
        · obtain ⟨m, rfl⟩ : ∃ m, n = m + 9 := ⟨n - 9, by omega⟩
          exact runwrap_good A m c l w hr ⟨hl, by omega, hp, hq⟩
        · have hpb : ((str (l.take 2)).toList == [68, 80]) = true := by rw [str_toList, hp]; rfl
          have hmid := hr.mid (k := 3) (m := 2) (by omega) (by omega)
          rw [two_of l (by omega)] at hmid
          have hqb : (((l.getD 3 0).toNat : Int) * 256 + ((l.getD 4 0).toNat : Int) == (n : Int) - 9) = false := by
            unfold lenOf at hq
            simp only [beq_eq_false_iff_ne]
            omega
          have E : Hid (unw l = (0, [], 3)) := hide (by unfold unw; rw [if_neg (by omega), if_neg (by omega), if_neg (by omega)])
          generalize l.getD 3 0 = x3 at *
          generalize l.getD 4 0 = x4 at *
          have hx3 := x3.toNat_lt
          have hx4 := x4.toNat_lt
          clear hl hp hq
          go_enter Try.func27, Try.ntmps27
          go_wp2_with (go_at_call 34; refine (number_two _ _ _ _ _ hmid).mono ?_; rintro e w' ⟨rfl, rfl⟩)
          go_ret3
          exact ⟨none, 0, 0, by rw [E.out]; rfl, by rw [E.out]; exact rd_none _, Below.refl _ _⟩
      · have hpb : ((str (l.take 2)).toList == [68, 80]) = false := by rw [str_toList]; simpa using hp
        have E : Hid (unw l = (0, [], 3)) := hide (by unfold unw; rw [if_neg (by omega), if_neg (by omega), if_neg (fun h => hp h.1)])
        clear hl hp
        go_enter Try.func27, Try.ntmps27
        go_wp2_with fail
        go_ret3
        exact ⟨none, 0, 0, by rw [E.out]; rfl, by rw [E.out]; exact rd_none _, Below.refl _ _⟩
end Go.Proofs.Ytackfepoomdpdaa
