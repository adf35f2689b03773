/- The walk of the law FrameFound: it returns true for every slice of slices of bytes, every noise, every place and every byte; no condition. -/
import Derived.Test.YtackfepoomdpdaaFnd
import Derived.Test.YtackfepoomdpdaaFforms
namespace Go.Proofs.Ytackfepoomdpdaa
open Go.RowKit

theorem bx_not (b : Bool) : (b != b) = false := by cases b <;> rfl

set_option maxRecDepth 100000 in
set_option maxHeartbeats 4000000 in
theorem found_walk (A B : Option Addr) (n c m d : Nat) (ls : List (List UInt8)) (l : List UInt8) (at' : Int) (x : UInt8) (w : World) (hr : RdL w A n c ls) (hl : Rd w B m d l) :
    Calls Try.prog 12 #[.slice A n c, .slice B m d, .int .i64 at', .int .u8 x.toNat] w fun e w' => e = .returned (.bool true) ∧ Below w.heap.size w w' := by
  by_cases hn : 20 < n
  · have hn' : (20 : Int) < (n : Int) := by omega
    go_enter Try.func12, Try.ntmps12
    go_wp2_with (go_at_call 23; refine (fawake_any _).mono ?_; rintro e w1 ⟨rfl, hb1⟩)
    go_ret
    exact ⟨rfl, hb1⟩
  · have hn' : (n : Int) ≤ 20 := by omega
    by_cases hm : 100 < m
    · have hm' : (100 : Int) < (m : Int) := by omega
      go_enter Try.func12, Try.ntmps12
      go_wp2_with (go_at_call 23; refine (fawake_any _).mono ?_; rintro e w1 ⟨rfl, hb1⟩)
      go_ret
      exact ⟨rfl, hb1⟩
    · have hm' : (m : Int) ≤ 100 := by omega
      obtain ⟨bx, hbx⟩ : ∃ bx, ((x.toNat : Int) == 0) = bx := ⟨_, rfl⟩
      have Hbx : Hid (bx = true ↔ x = 0) := hide (by
        rw [← hbx, beq_iff_eq]
        constructor
        · intro h
          exact UInt8.toNat_inj.1 (by show x.toNat = 0; omega)
        · rintro rfl; rfl)
      have Hbx2 := hide hbx
      clear hbx
      go_enter Try.func12, Try.ntmps12
      go_wp2_with fail
      go_loopw [9, 39] (fun v i wr => ∃ k A' m' c' L, k ≤ m ∧ i = .int .i64 ((k : Nat) : Int) ∧ v = .slice A' m' c' ∧ Own wr w.heap.size 5 A' m' c' L ∧ (∀ x ∈ L, x ≠ 68) ∧ m' ≤ k ∧ Below w.heap.size w wr) (fun _ i _ => m - (intOf i).toNat)
      case atStart => exact ⟨0, none, 0, 0, [], Nat.zero_le _, rfl, rfl, Own.nil _ _ _, by simp, Nat.le_refl _, Below.refl _ _⟩
      case round =>
        obtain ⟨k, Aq, m', cq, L, hk, rfl, rfl, ho, hD, hmk, hb⟩ := hrel
        have HD := hide hD
        clear hD
        by_cases hlt : k < m
        · obtain ⟨ad, y, rfl, hx, hc⟩ := (hl.below hb).at_ hlt
          clear hx
          by_cases hx : y = 68
          · have hxb := byte_eq.2 hx
            have hxn : ((y.toNat : Int) != 68) = false := by unfold bne; rw [hxb]; rfl
            clear hx
            go_wp2_with fail
            go_roundw
            case rel => exact ⟨k + 1, Aq, m', cq, L, by omega, by go_num, rfl, ho, HD.out, by omega, hb⟩
            case measure => simp [intOf]; omega
          · have hxb : ((y.toNat : Int) == 68) = false := by
              cases h : ((y.toNat : Int) == 68)
              · rfl
              · exact absurd (byte_eq.1 h) hx
            have hxn : ((y.toNat : Int) != 68) = true := by unfold bne; rw [hxb]; rfl
            have Hx := hide hx
            clear hx
            have h1 : (#[Value.int .u8 (y.toNat : Int)] : Array Value).toList = bys [y] := rfl
            have hone := fun (W : World) => Rd.new W 5 #[Value.int .u8 (y.toNat : Int)] h1 (by simp [maxLen])
            clear h1
            go_wp2_with ((at_builtin; refine wpList_append8 _ rfl _ _ _ rfl w.heap.size 5 Try.underlying22 isByte Aq m' cq L rfl (ho.alloc _) _ 1 1 [y] rfl (hone wr) (by omega) (by have := hb.size; simp; omega) ?_; intro A3 c3 w3 ho3 hb3 _ _))
            go_roundw
            case rel => exact ⟨k + 1, A3, m' + 1, c3, L ++ [y], by omega, by go_num, rfl, ho3, fun z hz => by
              rcases List.mem_append.1 hz with h | h
              · exact HD.out z h
              · simp at h; subst h; exact Hx.out, by omega, (hb.alloc hb.size _).trans hb3⟩
            case measure => simp [intOf]; omega
        · have hq := ho.rd
          have hm100 : m' ≤ 100 := by omega
          clear ho
          have HL := hide hq.1
          obtain ⟨W0, hW0⟩ : ∃ W0, W0 = wr := ⟨_, rfl⟩
          subst hW0
          go_wp2_with fail
          go_loopw [10, 13, 52] (fun bv fv iv wy => ∃ i Ab nb cb Af cf fs, i ≤ n ∧ iv = .int .i64 ((i : Nat) : Int) ∧ bv = .slice Ab nb cb ∧ Own wy W0.heap.size 5 Ab nb cb (J fs L) ∧ nb ≤ i * 400 ∧
            fv = .slice Af i cf ∧ OwnL 22 5 wy W0.heap.size Af i cf fs (Ab.map (·.block)) ∧ (∀ f ∈ fs, IsF f) ∧ Below W0.heap.size W0 wy) (fun _ _ iv _ => n - (intOf iv).toNat)
          case atStart => exact ⟨0, none, 0, 0, none, 0, [], Nat.zero_le _, rfl, rfl, Own.nil _ _ _, by omega, rfl, OwnL.nil _ _ _ _ _, by simp, Below.refl _ _⟩
          case round =>
            obtain ⟨i, Ab, nb, cb, Af, cf, fs, hi, rfl, rfl, hob, hnb, rfl, hol, hF, hby⟩ := hrel
            have HF := hide hF
            clear hF
            by_cases hlt2 : i < n
            · obtain ⟨ad, dd, A', n', c', rfl, hx, hc, hrx⟩ := (hr.below (hb.trans (hby.mono hb.size))).at_ hlt2
              clear hx
              by_cases h3 : 291 < n'
              · have h3' : (291 : Int) < (n' : Int) := by omega
                go_wp2_with fail
                refine (fawake_any _).mono ?_
                rintro e w1 ⟨rfl, hb1⟩
                go_wp2_with fail
                go_ret
                exact ⟨rfl, below_next (below_next hb hby) hb1⟩
              · have h3' : (n' : Int) ≤ 291 := by omega
                have Hdd := hide hrx.1
                go_wp2_with fail
                refine (wrap_good (i : Int) _ _ _ dd _ hrx (by omega) (by omega) (by omega)).mono ?_
                rintro e w1 ⟨A1, c1, rfl, ho1, hb1⟩
                have E := hide (unw_wrap (i : Int) dd (by omega) (by omega) (by have := Hdd.out; omega))
                go_wp2_with fail
                refine (unwrap_any _ _ _ _ _ ho1.rd).mono ?_
                rintro e w2 ⟨A2, n2, c2, rfl, hr2, hb2⟩
                rw [E.out] at hr2 ⊢
                have hn2 : n2 = n' := by have h1 := hr2.1; have h2 := Hdd.out; simp only at h1; omega
                subst hn2
                have k1 := conv22 hr2
                have k2 := conv22 ((hrx.below hb1).below hb2)
                have hb12 := below_next hb1 hb2
                obtain ⟨W1, hW1⟩ : ∃ W1, W1 = wr := ⟨_, rfl⟩
                subst hW1
                clear E
                obtain ⟨j, hj, ek⟩ := rem_nat at' (n2 + 7) (by omega) (by omega)
                have ek : wrap64 ((IntKind.u64.wrap at').tmod ((n2 : Int) + 9 - 2)) = (j : Int) := by
                  rw [show ((n2 : Int) + 9 - 2) = ((n2 + 7 : Nat) : Int) by omega]; exact ek
                obtain ⟨q, hq0⟩ : ∃ q, q = 2 + j := ⟨_, rfl⟩
                have hqq : (2 : Int) + (j : Int) = (q : Int) := by omega
                have hq1 : (q : Int) < (n2 : Int) + 9 := by omega
                have hq2 : (0 : Int) ≤ (q : Int) := by omega
                have hqn : q < n2 + 9 := by omega
                have Hwl := hide (wrapL_len (i : Int) dd)
                obtain ⟨f, hf⟩ : ∃ f, f = wrapL (i : Int) dd := ⟨_, rfl⟩
                have HIsF : Hid (IsF f) := hide ⟨_, _, hf, by omega, by omega, by have := Hdd.out; omega⟩
                have hfl : f.length = n2 + 9 := by rw [hf, Hwl.out]; have := Hdd.out; omega
                obtain ⟨y0, hy0⟩ : ∃ y0, f.getD q 0 = y0 := ⟨_, rfl⟩
                have hv : f[q]? = some y0 := by rw [← hy0, List.getD_eq_getElem?_getD, List.getElem?_eq_getElem (by omega)]; rfl
                obtain ⟨B0, hB0⟩ : ∃ B0, f.set q (y0 ^^^ x) = B0 := ⟨_, rfl⟩
                have Htell : Hid (((unw B0).2.2 == 0) = bx) := hide (by
                  rw [Bool.eq_iff_iff, beq_iff_eq, Hbx.out, ← hB0, ← hy0, hf, hq0]
                  exact unw_bent (i : Int) dd j x (by omega) (by omega) (by have := Hdd.out; omega) (by have := Hdd.out; omega))
                have HB0 := hide hB0
                have Hv := hide hv
                rw [← hf] at ho1
                clear hf hfl hy0 hv hB0 hq0 hj Hwl
                have hfb := ho1.freshB (by omega) hob
                have hb20 : Below w2.heap.size w2 (w2.alloc (.cells #[.slice A1 (n2 + 9) c1] 22)) := (Below.refl _ _).alloc (Nat.le_refl _) _
                have holB := (hol.below hb12).below hb20
                have hobB := (hob.below hb12).below hb20
                have hf1 := ((ho1.mono hby.size).below hb2).below hb20
                have hb02 := below_next hby hb12
                have hba2 := hb02.alloc hb02.size (.cells #[.slice A1 (n2 + 9) c1] 22)
                go_wp2_with (first
                  | (at_builtin
                     refine wpList_appendL _ rfl _ _ _ rfl W0.heap.size 22 5 (by decide) Try.underlying47 isRef Af i cf fs (Ab.map (·.block)) rfl holB ⟨w2.heap.size, 0, none⟩ 1 A1 (n2 + 9) c1 f rfl (by simp [World.cell?_alloc_new]) hf1 hfb (by omega) hba2.size ?_
                     intro A4 c4 w4 ho4 hb4 hg4
                     have hob4 := holB.beside hobB (by decide) hg4
                     have hA14 := holB.beside hf1 (by decide) hg4
                     have hb04 := hba2.trans hb4)
                  | (at_builtin
                     refine wpList_append8 _ rfl _ _ _ rfl W0.heap.size 5 Try.underlying22 isByte Ab nb cb (J fs L) rfl hob4 A1 (n2 + 9) c1 f rfl hA14.rd (by omega) hb04.size ?_
                     intro A5 c5 w5 ho5 hb5 hg5 hs5
                     have hA15 := hA14.besideB hg5 hfb
                     have hfb5 := hA14.nextB hfb hs5
                     have hol5 := ho4.step hg5 (ho4.apart hob4 (by decide)) hs5
                     have hb05 := hb04.trans hb5)
                  | (at_builtin
                     refine wpList_append8 _ rfl _ _ _ rfl W0.heap.size 5 Try.underlying22 isByte A5 _ c5 _ rfl ho5 Aq m' cq L rfl (hq.below hb05) (by omega) hb05.size ?_
                     intro A6 c6 w6 ho6 hb6 hg6 hs6
                     have hA16 := hA15.besideB hg6 hfb5
                     have hol6 := hol5.step hg6 (hol5.apart ho5 (by decide)) hs6
                     have hb06 := hb05.trans hb6
                     have ho0 : Own (w6.alloc (.cells #[] 5)) w6.heap.size 5 (some ⟨w6.heap.size, 0, none⟩) 0 0 [] := Own.lit w6 w6.heap.size 5 #[] (l := []) rfl (by decide) (Nat.le_refl _)
                     have hb60 : Below w6.heap.size w6 (w6.alloc (.cells #[] 5)) := (Below.refl _ _).alloc (Nat.le_refl _) _)
                  | (at_builtin
                     refine wpList_append8 _ rfl _ _ _ rfl w6.heap.size 5 Try.underlying22 isByte _ 0 0 [] rfl ho0 A1 (n2 + 9) c1 f rfl (hA16.rd.below hb60) (by omega) (by simp) ?_
                     intro A7 c7 w7 ho7 hb7 _ _
                     have ho7' : Own w7 w6.heap.size 5 A7 (n2 + 9) c7 f := by simpa using ho7
                     have hb67 := hb60.trans hb7
                     clear ho7
                     obtain ⟨g, rfl, hg0, hg1⟩ := ho7'.form (by omega)
                     have hcell := ho7'.cell Hv.out
                     have hfr := ho7'.frozen q))
                simp only [xor_u8]
                have hset := ho7'.set q (y0 ^^^ x)
                rw [HB0.out] at hset
                have hb68 := hb67.setCell (p := ⟨g, q, none⟩) hg0 (.int .u8 (y0 ^^^ x).toNat)
                refine (unwrap_any _ _ _ _ _ hset.rd).mono ?_
                rintro e w8 ⟨A8, n8, c8, rfl, hr8, hb8⟩
                have hb69 := below_next hb68 hb8
                have ht := Htell.out
                have hbx := Hbx2.out
                generalize (unw B0).2.2 = u2 at *
                generalize (unw B0).1 = u1 at *
                go_wp2_with fail
                go_roundw
                case rel => exact ⟨i + 1, A6, _, c6, A4, c4, fs ++ [f], by omega, by go_num, rfl, by rw [J_snoc]; exact ho6.below hb69, by omega, rfl, hol6.below hb69, fun z hz => by
                  rcases List.mem_append.1 hz with h | h
                  · exact HF.out z h
                  · simp at h; subst h; exact HIsF.out, below_next hb06 hb69⟩
                case measure => simp [intOf]; omega
            · have hnb2 : nb ≤ 20000 := by omega
              have hi20 : i ≤ 20 := by omega
              have hbw := below_next hb hby
              obtain ⟨P, hP⟩ : ∃ P, m' * i = P := ⟨_, rfl⟩
              have hPle : P ≤ 2000 := by rw [← hP]; exact Nat.mul_le_mul hm100 hi20
              have hmul : (m' : Int) * (i : Int) = (P : Int) := by rw [← hP]; simp
              obtain ⟨F, hFl⟩ : ∃ F, fs.flatten.length = F := ⟨_, rfl⟩
              have hsum : (F : Int) + (P : Int) = (nb : Int) := by
                have h1 := hob.len
                rw [J_length, hFl, HL.out, hol.len, hP] at h1
                omega
              have HFl := hide hFl
              have HP := hide hP
              have Hsum := hide hsum
              clear hP hFl hsum
              go_wp2_with fail
              refine (all_small _ _ _ _ _ hob.rd hnb2).mono ?_
              rintro e w1 ⟨A1, n1, c1, fs1, o, rfl, hol1, hs1, hb1⟩
              obtain ⟨e1, e2⟩ := hs1.same (scan_join L HD.out fs HF.out)
              have e1 := e1.symm
              subst e1
              have e3 : o = P := by rw [e2, HL.out, hol.len, HP.out]
              subst e3
              have e4 : n1 = i := by rw [← hol1.len, hol.len]
              subst e4
              clear e2 hs1
              have hmx : (n1 : Int) ≤ 20 := by omega
              have holw := hol.below hb1
              have hbw1 := below_next hbw hb1
              obtain ⟨W2, hW2⟩ : ∃ W2, W2 = w1 := ⟨_, rfl⟩
              subst hW2
              go_wp2_with fail
              go_loopw [156] (fun iv wz => ∃ k, k ≤ n1 ∧ iv = .int .i64 ((k : Nat) : Int) ∧ Below W2.heap.size W2 wz) (fun iv _ => n1 - (intOf iv).toNat)
              case atStart => exact ⟨0, Nat.zero_le _, rfl, Below.refl _ _⟩
              case round =>
                obtain ⟨k, hk1, rfl, hbq⟩ := hrel
                by_cases hkn : k < n1
                · have hk0 : (0 : Int) ≤ (k : Int) := by omega
                  have hk2 : (k : Int) < (n1 : Int) := by omega
                  obtain ⟨g1, f1, P1, p1, q1, rfl, hf1, hc1, hp1⟩ := (hol1.below hbq).at_ hkn
                  obtain ⟨g2, f2, P2, p2, q2, rfl, hf2, hc2, hp2⟩ := (holw.below hbq).at_ hkn
                  rw [hf1] at hf2
                  cases hf2
                  have v1 := fun m => conv22 (hp1.rd.drewN m)
                  have v2 := fun m => conv22 (hp2.rd.drewN m)
                  clear hf1
                  go_wp2_with fail
                  go_quiet (fail)
                  go_wp2_with fail
                  go_roundw
                  case rel => exact ⟨k + 1, by omega, by go_num, below_drewN hbq _⟩
                  case measure => simp [intOf]; omega
                · go_wp2_with fail
                  refine (join_as _ _ _ F fs _ _ rfl HFl.out (holw.below hbq).rdl (by have := Hsum.out; omega)).mono ?_
                  rintro e w3 ⟨A9, c9, rfl, ho9, hb9⟩
                  have hsum := Hsum.out
                  go_wp2_with fail
                  refine (fawake_any _).mono ?_
                  rintro e w4 ⟨rfl, hb4⟩
                  go_wp2_with fail
                  go_ret
                  exact ⟨rfl, below_next (below_next (below_next hbw1 hbq) hb9) hb4⟩
end Go.Proofs.Ytackfepoomdpdaa
