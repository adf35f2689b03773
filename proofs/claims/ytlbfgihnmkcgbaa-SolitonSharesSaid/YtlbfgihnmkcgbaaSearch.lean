/- sort.Search with the closure of the table's Degree: where the sums rise above the place. -/
import Derived.Test.YtlbfgihnmkcgbaaDo
import Derived.BigQuiet
namespace Go.Proofs.Ytlbfgihnmkcgbaa
open Go.RowKit

/-- what the closure asks of the world -/
structure Ask (w : World) (g n base bt ba : Nat) (P : Nat) : Prop where
  made : Made w g n base
  t : w.cell? ⟨bt, 0, none⟩ = some (.pointer (some ⟨g, 0, none⟩))
  p : w.cell? ⟨ba, 0, none⟩ = some (.int .u64 (P : Nat))
theorem Ask.below {w w' : World} {g n base bt ba P : Nat} (h : Ask w g n base bt ba P) (hb : Below w.heap.size w w') : Ask w' g n base bt ba P :=
  ⟨h.made.below hb, (hb.cell (World.block_lt_of_cell? w _ h.t)).trans h.t, (hb.cell (World.block_lt_of_cell? w _ h.p)).trans h.p⟩

set_option maxHeartbeats 1000000 in
theorem closure_any (g n base bt ba P i : Nat) (hi : i < n) (w : World) (h : Ask w g n base bt ba P) :
    Calls Try.prog 17 #[.int .i64 i, .pointer (some ⟨bt, 0, none⟩), .pointer (some ⟨ba, 0, none⟩)] w fun e w' => e = .returned (.bool (decide (P < sumf n i))) ∧ Below w.heap.size w w' := by
  obtain ⟨⟨A, c, ht, ho⟩, h1, h2⟩ := h
  have h4 := ht.cells.2.2.2
  obtain ⟨g1, rfl, _, _, hc⟩ := ho.at_ hi
  have hi' : (i : Int) < (n : Int) := by omega
  have e : decide ((P : Int) < ((sumf n i : Nat) : Int)) = decide (P < sumf n i) := by simp
  have E := hide e
  clear e
  generalize sumf n i = S at *
  go_enter Try.func17, Try.ntmps17
  go_wp2_with fail
  go_quiet (fail)
  go_wp2_with fail
  go_ret
  exact ⟨by rw [← E.out]; rfl, below_drewN (Below.refl _ _) _⟩

theorem sumf_mono (n : Nat) {a b : Nat} (h : a ≤ b) : sumf n a ≤ sumf n b := sums_mono n (by omega)

set_option maxHeartbeats 2000000 in
theorem search_any (g n base bt ba P : Nat) (h1 : n ≤ 80) (w : World) (h : Ask w g n base bt ba P) :
    Calls Try.prog 16 #[.int .i64 n, .func (.func 17) #[] #[.pointer (some ⟨bt, 0, none⟩), .pointer (some ⟨ba, 0, none⟩)]] w fun e w' =>
      ∃ j : Nat, e = .returned (.int .i64 j) ∧ j ≤ n ∧ (∀ t, t < j → sumf n t ≤ P) ∧ (∀ t, j ≤ t → t < n → P < sumf n t) ∧ Below w.heap.size w w' := by
  have hn80 : (n : Int) ≤ 80 := by omega
  have hnot : ∀ (x : Bool) (w : World), (Op.unary .not (.bool x)).run Try.prog w = .ok (.bool (!x)) w := fun _ _ => rfl
  go_enter Try.func16, Try.ntmps16
  go_wp2_with fail
  go_loopw [5, 6] (fun v5 v6 wr => ∃ lo hi : Nat, v5 = .int .i64 (lo : Int) ∧ v6 = .int .i64 (hi : Int) ∧ lo ≤ hi ∧ hi ≤ n ∧ Hid ((∀ t, t < lo → sumf n t ≤ P) ∧ (∀ t, hi ≤ t → t < n → P < sumf n t)) ∧ Below w.heap.size w wr) (fun v5 v6 _ => (intOf v6).toNat - (intOf v5).toNat)
  case atStart => exact ⟨0, n, rfl, rfl, Nat.zero_le _, Nat.le_refl _, hide ⟨fun t ht => absurd ht (Nat.not_lt_zero _), fun t h1 h2 => by omega⟩, Below.refl _ _⟩
  case round =>
    obtain ⟨lo, hi, rfl, rfl, hlh, hin, I, hb⟩ := hrel
    by_cases hlt : lo < hi
    · have hlt' : (lo : Int) < (hi : Int) := by omega
      have hhi : (hi : Int) ≤ 80 := by omega
      obtain ⟨m, hm⟩ : ∃ m, (lo + hi) / 2 = m := ⟨_, rfl⟩
      have hm1 : lo ≤ m := by omega
      have hm2 : m < hi := by omega
      have hmm : ((lo : Int) + (hi : Int)) / 2 = (m : Int) := by omega
      have hcl := closure_any g n base bt ba P m (by omega) _ (h.below hb)
      clear hm
      by_cases hp : P < sumf n m
      · have HP := hide hp
        have hd : decide (P < sumf n m) = true := by simp [hp]
        rw [hd] at hcl
        clear hp hd
        go_wp2_with (go_at_call 17; refine hcl.mono ?_; rintro e w1 ⟨rfl, hb1⟩)
        go_roundw
        case rel => exact ⟨lo, m, rfl, rfl, hm1, by omega, hide ⟨I.out.1, fun t h1 _ => Nat.lt_of_lt_of_le HP.out (sumf_mono n h1)⟩, below_next hb hb1⟩
        case measure => simp [intOf]; omega
      · have HP := hide (Nat.le_of_not_lt hp)
        have hd : decide (P < sumf n m) = false := by simp [hp]
        rw [hd] at hcl
        clear hp hd
        go_wp2_with (go_at_call 17; refine hcl.mono ?_; rintro e w1 ⟨rfl, hb1⟩)
        go_roundw
        case rel => exact ⟨m + 1, hi, by go_num, rfl, by omega, hin, hide ⟨fun t h1 => Nat.le_trans (sumf_mono n (show t ≤ m by omega)) HP.out, I.out.2⟩, below_next hb hb1⟩
        case measure => simp [intOf]; omega
    · obtain rfl : lo = hi := by omega
      have J := I.out
      go_wp2_with fail
      go_ret
      exact ⟨lo, rfl, hin, J.1, J.2, hb⟩
end Go.Proofs.Ytlbfgihnmkcgbaa
