/- The walk of the law FrameAll: it returns true for every slice of slices of bytes and every slice of numbers; no condition. -/
import Derived.Test.YtackfepoomdpdaaFforms
import Derived.Test.YtackfepoomdpdaaRall
namespace Go.Proofs.Ytackfepoomdpdaa
open Go.RowKit

/-- a slice of numbers that came in, as far as it is read -/
def RdI (w : World) (A : Option Addr) (n : Nat) (zs : Nat → Int) : Prop := ∀ k, k < n → ∃ ad, A = some ad ∧ w.cell? (ad.add k) = some (.int .i64 (zs k))
theorem RdI.below {w w' : World} {A : Option Addr} {n : Nat} {zs : Nat → Int} (h : RdI w A n zs) (hb : Below w.heap.size w w') : RdI w' A n zs := fun k hk => by
  obtain ⟨ad, e, hc⟩ := h k hk
  exact ⟨ad, e, (hb.cell (World.block_lt_of_cell? w _ hc)).trans hc⟩

set_option maxRecDepth 100000 in
set_option maxHeartbeats 4000000 in
theorem fall_walk (A K : Option Addr) (n c nk ck : Nat) (ls : List (List UInt8)) (zs : Nat → Int) (w : World) (hr : RdL w A n c ls) (hk : RdI w K nk zs) :
    Calls Try.prog 11 #[.slice A n c, .slice K nk ck] w fun e w' => e = .returned (.bool true) ∧ Below w.heap.size w w' := by
  by_cases hn : 30 < n
  · have hn' : (30 : Int) < (n : Int) := by omega
    go_enter Try.func11, Try.ntmps11
    go_wp2_with (go_at_call 23; refine (fawake_any _).mono ?_; rintro e w1 ⟨rfl, hb1⟩)
    go_ret
    exact ⟨rfl, hb1⟩
  · have hn' : (n : Int) ≤ 30 := by omega
    go_enter Try.func11, Try.ntmps11
    go_wp2_with fail
    go_loopw [5, 21] (fun v iv wr => ∃ i Ab nb cb b, i ≤ n ∧ iv = .int .i64 ((i : Nat) : Int) ∧ v = .slice Ab nb cb ∧ Own wr w.heap.size 5 Ab nb cb b ∧ nb ≤ i * 300 ∧ Below w.heap.size w wr) (fun _ iv _ => n - (intOf iv).toNat)
    case atStart => exact ⟨0, none, 0, 0, [], Nat.zero_le _, rfl, rfl, Own.nil _ _ _, by omega, Below.refl _ _⟩
    case round =>
      obtain ⟨i, Ab, nb, cb, b, hi, rfl, rfl, hob, hnb, hbr⟩ := hrel
      by_cases hlt : i < n
      · obtain ⟨ad, x, A', n', c', rfl, hx, hc, hrx⟩ := (hr.below hbr).at_ hlt
        clear hx
        by_cases h3 : 300 < n'
        · have h3' : (300 : Int) < (n' : Int) := by omega
          go_wp2_with fail
          refine (fawake_any _).mono ?_
          rintro e w1 ⟨rfl, hb1⟩
          go_wp2_with fail
          go_ret
          exact ⟨rfl, below_next hbr hb1⟩
        · have h3' : (n' : Int) ≤ 300 := by omega
          go_wp2_with fail
          refine (rwrap_any _ _ _ _ x _ hrx).mono ?_
          rintro e w1 ⟨A5, n5, c5, rfl, ho5, hb1⟩
          have hbb := below_next hbr hb1
          have hob1 := hob.below hb1
          have hrx1 := hrx.below hb1
          have hn5 : n5 ≤ 300 := by have := ho5.len; have := wrapR_len (bits .and .i64 (i : Int) 1) x; omega
          have hbase := hbb.size
          generalize wrapE (bits .and .i64 (i : Int) 1) x = ee at *
          generalize wrapR (bits .and .i64 (i : Int) 1) x = yy at *
          by_cases hik : i < nk
          · have hik' : (i : Int) < (nk : Int) := by omega
            obtain ⟨kd, rfl, hkc⟩ := (hk.below hbb) i hik
            go_wp2_with (first
              | (at_builtin; refine wpList_append8 _ rfl _ _ _ rfl w.heap.size 5 Try.underlying22 isByte Ab nb cb b rfl hob1 A5 n5 c5 yy rfl ho5.rd (by omega) hbase ?_; intro A6 c6 w6 ho6 hb6 _ _; have hn6 : nb + n5 ≤ (i + 1) * 300 := by omega)
              | (at_builtin; refine wpList_append8 _ rfl _ _ _ rfl w.heap.size 5 Try.underlying22 isByte Ab nb cb b rfl hob1 A' n' c' x rfl hrx1 (by omega) hbase ?_; intro A6 c6 w6 ho6 hb6 _ _; have hn6 : nb + n' ≤ (i + 1) * 300 := by omega))
            all_goals
              go_roundw
              case rel => exact ⟨i + 1, A6, _, c6, _, by omega, by go_num, rfl, ho6, hn6, hbb.trans hb6⟩
              case measure => simp [intOf]; omega
          · have hik' : (nk : Int) ≤ (i : Int) := by omega
            have hik2 : decide ((i : Int) < (nk : Int)) = false := by simp; omega
            go_wp2_with ((at_builtin; refine wpList_append8 _ rfl _ _ _ rfl w.heap.size 5 Try.underlying22 isByte Ab nb cb b rfl hob1 A' n' c' x rfl hrx1 (by omega) hbase ?_; intro A6 c6 w6 ho6 hb6 _ _; have hn6 : nb + n' ≤ (i + 1) * 300 := by omega))
            go_roundw
            case rel => exact ⟨i + 1, A6, _, c6, _, by omega, by go_num, rfl, ho6, hn6, hbb.trans hb6⟩
            case measure => simp [intOf]; omega
      · have hnb2 : nb ≤ 20000 := by omega
        go_wp2_with fail
        refine (all_small _ _ _ _ _ hob.rd hnb2).mono ?_
        rintro e w1 ⟨A1, n1, c1, fs, o, rfl, hol1, hs1, hb1⟩
        go_wp2_with fail
        refine (rall_small _ _ _ _ _ (hob.rd.below hb1) hnb2).mono ?_
        rintro e w2 ⟨A2, n2, c2, fs2, o2, rfl, hol2, hs2, hb2⟩
        obtain ⟨rfl, rfl⟩ := hs1.same hs2
        have e1 := hol1.len
        have e2 := hol2.len
        rw [e1] at e2
        subst e2
        clear e1 hs1 hs2
        have hol1' := hol1.below hb2
        have hmx : n1 ≤ 9223372036854775807 := by
          have h1 := hol2.rdl.2.1
          have h2 := hol2.rdl.2.2.1
          simp only [maxLen] at h2
          omega
        have hbb2 := below_next (below_next hbr hb1) hb2
        go_wp2_with fail
        go_loopw [82] (fun iv wr => ∃ k, k ≤ n1 ∧ iv = .int .i64 ((k : Nat) : Int) ∧ Below w2.heap.size w2 wr) (fun iv _ => n1 - (intOf iv).toNat)
        case atStart => exact ⟨0, Nat.zero_le _, rfl, Below.refl _ _⟩
        case round =>
          rename_i wq _
          obtain ⟨k, hk1, rfl, hbq⟩ := hrel
          by_cases hkn : k < n1
          · have hk0 : (0 : Int) ≤ (k : Int) := by omega
            have hk2 : (k : Int) < (n1 : Int) := by omega
            obtain ⟨g1, f1, P1, p1, q1, rfl, hf1, hc1, hp1⟩ := (hol1'.below hbq).at_ hkn
            obtain ⟨g2, f2, P2, p2, q2, rfl, hf2, hc2, hp2⟩ := (hol2.below hbq).at_ hkn
            rw [hf1] at hf2
            cases hf2
            have v1 := fun m => conv22 (hp1.rd.drewN m)
            have v2 := fun m => conv22 (hp2.rd.drewN m)
            clear hf1
            go_wp2_with fail
            go_quiet (fail)
            go_wp2_with fail
            go_roundw
            case rel => exact ⟨k + 1, by omega, by go_num, below_drewN hbq _⟩
            case measure => simp [intOf]; omega
          · go_wp2_with fail
            refine (fawake_any _).mono ?_
            rintro e w3 ⟨rfl, hb3⟩
            go_wp2_with fail
            go_ret
            exact ⟨rfl, below_next (below_next hbb2 hbq) hb3⟩
end Go.Proofs.Ytackfepoomdpdaa
