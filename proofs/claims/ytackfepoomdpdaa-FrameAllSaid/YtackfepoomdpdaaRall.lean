/- What the reference's All does, for every slice of bytes: just what the program's does. -/
import Derived.Test.YtackfepoomdpdaaAllb
import Derived.Test.YtackfepoomdpdaaUnwrapr
namespace Go.Proofs.Ytackfepoomdpdaa
open Go.RowKit

theorem beg_short {l : List UInt8} (h : l.length < 9) : beg l = none := by
  unfold beg
  rw [if_pos]
  by_cases h5 : l.length < 5
  · exact .inl h5
  · exact .inr (by unfold lenOf; omega)
theorem Far.skip' {l r : List UInt8} {fs : List (List UInt8)} {o : Nat} (h : Far l r fs o) (hr : 0 < r.length) (hb : beg r = none) : Far l (r.drop 1) fs (o + 1) := by
  cases r with
  | nil => simp at hr
  | cons x r => exact h.skip hb
theorem lenOf_drop (l : List UInt8) (i : Nat) : lenOf (l.drop i) = 9 + (l.getD (i + 3) 0).toNat * 256 + (l.getD (i + 4) 0).toNat := by
  unfold lenOf
  simp [List.getD_eq_getElem?_getD, List.getElem?_drop]
theorem two_at (l : List UInt8) (i : Nat) (h : i + 5 ≤ l.length) : (l.drop (i + 3)).take 2 = [l.getD (i + 3) 0, l.getD (i + 4) 0] := by
  have e1 : l.drop (i + 3) = l[i + 3] :: l.drop (i + 4) := List.drop_eq_getElem_cons (by omega)
  have e2 : l.drop (i + 4) = l[i + 4] :: l.drop (i + 5) := List.drop_eq_getElem_cons (by omega)
  rw [e1, e2]
  simp only [List.take_succ_cons, List.take_zero, List.getD_eq_getElem?_getD]
  rw [List.getElem?_eq_getElem (by omega), List.getElem?_eq_getElem (by omega)]
  rfl

set_option maxRecDepth 100000 in
set_option maxHeartbeats 2000000 in
theorem rall_small (A : Option Addr) (n c : Nat) (l : List UInt8) (w : World) (hr : Rd w A n c l) (hn : n ≤ 20000) : Calls Try.prog 29 #[.slice A n c] w (Alled l w) := by
  have hn' : (n : Int) ≤ 20000 := by omega
  have Hl := hide hr.1
  have hnc := hr.2.1
  go_enter Try.func29, Try.ntmps29
  go_wp2_with fail
  go_loopw [4, 5, 6] (fun out other iv wr => ∃ i Ao no co fs o, i ≤ n ∧ iv = .int .i64 ((i : Nat) : Int) ∧ out = .slice Ao no co ∧ OwnL 22 5 wr w.heap.size Ao no co fs none ∧ other = .int .i64 ((o : Nat) : Int) ∧ Far l (l.drop i) fs o ∧ Below w.heap.size w wr) (fun _ _ iv _ => n - (intOf iv).toNat)
  case atStart => exact ⟨0, none, 0, 0, [], 0, Nat.zero_le _, rfl, rfl, OwnL.nil _ _ _ _ _, rfl, Far.start l, Below.refl _ _⟩
  case round =>
    obtain ⟨i, Ao, no, co, fs, o, hi, rfl, rfl, hol, rfl, hF, hbr⟩ := hrel
    have hfit := hF.fit
    have hol2 := hol.len
    have hdl : (l.drop i).length = n - i := by rw [List.length_drop, Hl.out]
    have hno : no + o + (n - i) ≤ n := by have := Hl.out; omega
    have Hdl := hide hdl
    clear hfit hol2 hdl
    by_cases h0 : i < n
    · by_cases h9 : i + 9 ≤ n
      · have h9' : (i : Int) + 9 ≤ (n : Int) := by omega
        have hm := lenOf_drop l i
        obtain ⟨m, hme⟩ : ∃ m, lenOf (l.drop i) = m := ⟨_, rfl⟩
        have hmid := hr.mid (k := i + 3) (m := 2) (by omega) (by omega)
        rw [two_at l i (by rw [Hl.out]; omega)] at hmid
        have Hme := hide hme
        rw [hme] at hm
        generalize l.getD (i + 3) 0 = x at *
        generalize l.getD (i + 4) 0 = y at *
        have hx := x.toNat_lt
        have hy := y.toNat_lt
        have hmv : (x.toNat : Int) * 256 + (y.toNat : Int) + 9 = (m : Int) := by omega
        have hm9 : 9 ≤ m := by omega
        have hmx : m ≤ 70000 := by omega
        clear hme hm
        have b1 : (0 : Int) ≤ (i : Int) + 3 := by omega
        have b2 : (i : Int) + 5 ≤ (c : Int) := by omega
        have b3 : (i : Int) + 3 ≤ (i : Int) + 5 := by omega
        go_wp2_with fail
        refine (number_two _ _ _ _ _ (hmid.below hbr)).mono ?_
        rintro e w0 ⟨rfl, rfl⟩
        by_cases hf : i + m ≤ n
        · have hf' : (i : Int) + (m : Int) ≤ (n : Int) := by omega
          have hic : ¬ c = i := by omega
          have b4 : (i : Int) ≤ (i : Int) + (m : Int) := by omega
          have b5 : (i : Int) + (m : Int) ≤ (c : Int) := by omega
          have b6 : (0 : Int) ≤ (i : Int) := by omega
          have hsub := hr.mid (k := i) (m := m) (by omega) (by omega)
          go_wp2_with fail
          refine (runwrap_any _ _ _ _ _ (hsub.below hbr)).mono ?_
          rintro e w3 ⟨A3, n3, c3, rfl, hr3, hb3⟩
          have hbb3 := below_next hbr hb3
          have hsl : ((l.drop i).take m).length = m := hsub.1
          have Hsl := hide hsl
          clear hsl
          by_cases he : (unw ((l.drop i).take m)).2.2 = 0
          · have heb : ((unw ((l.drop i).take m)).2.2 == 0) = true := by simpa using he
            have hbn : beg (l.drop i) = some m := by
              unfold beg
              rw [if_neg (by rw [Hme.out, Hdl.out]; omega), Hme.out, if_pos he]
            have hs := hF.take hbn
            rw [List.drop_drop] at hs
            have Hs := hide hs
            have hsub3 := hsub.below hbb3
            have hol3 := hol.below hb3
            have hq : Below w3.heap.size w3 (w3.alloc (.cells #[.slice (A.map fun x => x.add i) m (c - i)] 22)) := (Below.refl _ _).alloc (Nat.le_refl _) _
            clear he hbn hs
            go_wp2_with fail
            refine (join_as _ 1 1 m [(l.drop i).take m] ((l.drop i).take m) _ (by simp) Hsl.out (rdl_one (by simp [World.cell?_alloc_new]) (hsub3.below hq)) (by omega)).mono ?_
            rintro e w4 ⟨A4, c4, rfl, ho4, hb4⟩
            have hbb4 := below_next (below_next hbb3 hq) hb4
            have hol4 := (hol3.below hq).below hb4
            have hq5 : Below w4.heap.size w4 (w4.alloc (.cells #[.slice A4 m c4] 22)) := (Below.refl _ _).alloc (Nat.le_refl _) _
            go_wp2_with ((at_builtin; refine wpList_appendL _ rfl _ _ _ rfl w.heap.size 22 5 (by decide) Try.underlying47 isRef Ao no co fs none rfl (hol4.below hq5) ⟨w4.heap.size, 0, none⟩ 1 A4 m c4 _ rfl (by simp [World.cell?_alloc_new]) ((ho4.mono (below_next hbb3 hq).size).below hq5) (.inl rfl) (by omega) (by have := hbb4.size; simp; omega) ?_; intro A6 c6 w6 ho6 hb6 _))
            go_roundw
            case rel => exact ⟨i + m, A6, no + 1, c6, _, o, by omega, by go_num, rfl, ho6, rfl, Hs.out, (hbb4.trans (hq5.mono hbb4.size)).trans hb6⟩
            case measure => simp [intOf]; omega
          · have heb : ((unw ((l.drop i).take m)).2.2 == 0) = false := by simpa using he
            have hbn : beg (l.drop i) = none := by
              unfold beg
              rw [if_neg (by rw [Hme.out, Hdl.out]; omega), Hme.out, if_neg he]
            have hs := hF.skip' (by rw [Hdl.out]; omega) hbn
            rw [List.drop_drop] at hs
            clear hbn he
            go_wp2_with fail
            go_roundw
            case rel => exact ⟨i + 1, Ao, no, co, fs, o + 1, by omega, by go_num, rfl, hol.below hb3, by go_num, hs, hbb3⟩
            case measure => simp [intOf]; omega
        · have hf' : (n : Int) < (i : Int) + (m : Int) := by omega
          have hbn : beg (l.drop i) = none := by
            unfold beg
            rw [if_pos (.inr (by rw [Hme.out, Hdl.out]; omega))]
          have hs := hF.skip' (by rw [Hdl.out]; omega) hbn
          rw [List.drop_drop] at hs
          clear hbn
          go_wp2_with fail
          go_roundw
          case rel => exact ⟨i + 1, Ao, no, co, fs, o + 1, by omega, by go_num, rfl, hol, by go_num, hs, hbr⟩
          case measure => simp [intOf]; omega
      · have hs := hF.skip' (by rw [Hdl.out]; omega) (beg_short (by rw [Hdl.out]; omega))
        rw [List.drop_drop] at hs
        have h9' : (n : Int) < (i : Int) + 9 := by omega
        go_wp2_with fail
        go_roundw
        case rel => exact ⟨i + 1, Ao, no, co, fs, o + 1, by omega, by go_num, rfl, hol, by go_num, hs, hbr⟩
        case measure => simp [intOf]; omega
    · have hr0 : l.drop i = [] := List.eq_nil_of_length_eq_zero (by have := Hdl.out; omega)
      rw [hr0] at hF
      have hscan := hF.end_
      clear hr0
      have h0' : (n : Int) ≤ (i : Int) := by omega
      go_wp2_with fail
      go_ret2
      exact ⟨Ao, no, co, fs, o, rfl, hol, hscan, hbr⟩
end Go.Proofs.Ytackfepoomdpdaa
