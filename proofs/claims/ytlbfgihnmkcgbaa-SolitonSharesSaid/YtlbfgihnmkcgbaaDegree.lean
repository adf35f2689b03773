/- What the table's Degree does: the number that chance picks. -/
import Derived.Test.YtlbfgihnmkcgbaaSearch
import Derived.Deep.CutRange
import Derived.Deep.DeepCutAuto
import Derived.Deep.RegionWith
import Derived.Laws.NewBlocks
namespace Go.Proofs.Ytlbfgihnmkcgbaa
open Go.RowKit

theorem degree_nil (x : Int) (w : World) : Calls Try.prog 9 #[.pointer none, .int .u32 x] w fun e w' => e = .returned (.int .i64 0) ∧ Below w.heap.size w w' := by
  go_enter Try.func9, Try.ntmps9
  go_wp2_with fail
  go_ret
  exact ⟨rfl, (Below.refl _ _).alloc (Nat.le_refl _) _⟩

theorem deg_of {n x j : Nat} (hj : j ≤ n) (h1 : ∀ t, t < j → sumf n t ≤ place n x) (h2 : ∀ t, j ≤ t → t < n → place n x < sumf n t) : IsDeg n x (j + 1) := by
  refine ⟨by omega, fun t ht0 ht => ?_, fun t ht htn => ?_, by omega⟩
  · have := h1 (t - 1) (by omega)
    unfold sumf at this
    rwa [show t - 1 + 1 = t by omega] at this
  · have := h2 (t - 1) (by omega) (by omega)
    unfold sumf at this
    rwa [show t - 1 + 1 = t by omega] at this

set_option maxRecDepth 100000 in
set_option maxHeartbeats 2000000 in
theorem degree_any (g n base x : Nat) (h0 : 1 ≤ n) (h1 : n ≤ 80) (hx : x < 4294967296) (w : World) (h : Stands w g n base) :
    Calls Try.prog 9 #[.pointer (some ⟨g, 0, none⟩), .int .u32 x] w fun e w' => ∃ r : Nat, e = .returned (.int .i64 r) ∧ IsDeg n x r ∧ Stands w' g n base ∧ Below base w w' := by
  have hmf : ∀ (fn : Fn) (first cap : Array Value) (w : World), (Instr.makeFunc fn first cap).run Try.prog w = .ok (.func fn first cap) w := fun _ _ _ _ => rfl
  have hbg := h.1
  obtain ⟨dn0, v0, htab⟩ := h.tab
  have hgw := htab.lt
  have hbw : base ≤ w.heap.size := by omega
  have ha : Below w.heap.size w (w.alloc (.cells #[.pointer (some ⟨g, 0, none⟩)] 23)) := (Below.refl _ _).alloc (Nat.le_refl _) _
  have hst := h.below ha
  have hstd : Stands (w.alloc (.cells #[.pointer (some ⟨g, 0, none⟩)] 23)).drew g n base := hst
  have hbt : (w.alloc (.cells #[.pointer (some ⟨g, 0, none⟩)] 23)).cell? ⟨w.heap.size, 0, none⟩ = some (.pointer (some ⟨g, 0, none⟩)) := by simp [World.cell?_alloc_new]
  have hx0 : (0 : Int) ≤ (x : Int) := by omega
  have hx1 : (x : Int) ≤ 4294967295 := by omega
  go_enter Try.func9, Try.ntmps9
  go_wp2_with fail
  go_cut [13] (fun _ wx => Made wx g n base ∧ wx.cell? ⟨w.heap.size, 0, none⟩ = some (.pointer (some ⟨g, 0, none⟩)) ∧ Below base w wx)
  case first =>
    go_region_with (first | (go_at_call 14; refine (do_any g n base h0 h1 _ hstd).mono ?_; rintro e w1 ⟨rfl, hm, hb1⟩))
    all_goals
      go_wp2_with fail
      go_meet
      have hbt' : (w.alloc (.cells #[.pointer (some ⟨g, 0, none⟩)] 23)).drew.cell? ⟨w.heap.size, 0, none⟩ = some (.pointer (some ⟨g, 0, none⟩)) := hbt
      exact ⟨hm, hb1.cell hbt' (by simp; omega), ((ha.mono hbw).drew).trans (hb1.below hbg (by simp; omega))⟩
  case rest =>
    obtain ⟨hm, hct, hbc⟩ := hcut
    have hmade := hm
    obtain ⟨A, c, ht, ho⟩ := hm
    obtain ⟨m, rfl⟩ : ∃ m, n = m + 1 := ⟨n - 1, by omega⟩
    have hn0 := ht.cells.1
    have hn4 := ht.cells.2.2.2
    obtain ⟨g1, rfl, hg1, hg1w, hcs⟩ := ho.at_ (i := m) (by omega)
    have hS : sumf (m + 1) m = sums (m + 1) (m + 1) := rfl
    have hS2 := sums_le h0 h1
    obtain ⟨S, hSS⟩ : ∃ S, sums (m + 1) (m + 1) = S := ⟨_, rfl⟩
    rw [hS, hSS] at hcs
    rw [hSS] at hS2
    obtain ⟨Q, hQ⟩ : ∃ Q, x * S = Q := ⟨_, rfl⟩
    have hQ2 : Q ≤ 4294967295 * 4294967296 := by rw [← hQ]; exact Nat.mul_le_mul (by omega) hS2
    have hQi : (x : Int) * (S : Int) = (Q : Int) := by rw [← hQ]; simp
    have hQ3 : (Q : Int) ≤ 18446744069414584320 := by omega
    obtain ⟨P, hP⟩ : ∃ P, Q / 4294967296 = P := ⟨_, rfl⟩
    have hPi : (Q : Int) / 4294967296 = (P : Int) := by omega
    have HP : Hid (place (m + 1) x = P) := hide (by unfold place; rw [hSS, hQ, hP])
    have hm80 : (m : Int) + 1 ≤ 80 := by omega
    have hS3 : (S : Int) ≤ 4294967296 := by omega
    have hwc := hbc.size
    clear hS hSS hQ hP ho ht
    have q1 : (wc.alloc (.cells #[.int .u64 0] 30)).cell? ⟨w.heap.size, 0, none⟩ = some (.pointer (some ⟨g, 0, none⟩)) := (World.cell?_alloc_past _ _ _ (World.block_lt_of_cell? wc _ hct)).trans hct
    have q2 : (wc.alloc (.cells #[.int .u64 0] 30)).cell? ⟨g, 0, none⟩ = some (.int .i64 ((m + 1 : Nat) : Int)) := (World.cell?_alloc_past _ _ _ (World.block_lt_of_cell? wc _ hn0)).trans hn0
    have q3 : (wc.alloc (.cells #[.int .u64 0] 30)).cell? ⟨g, 4, none⟩ = some _ := (World.cell?_alloc_past _ _ _ (World.block_lt_of_cell? wc _ hn4)).trans hn4
    have q4 : (wc.alloc (.cells #[.int .u64 0] 30)).cell? ⟨g1, m, none⟩ = some _ := (World.cell?_alloc_past _ _ _ (World.block_lt_of_cell? wc _ hcs)).trans hcs
    have e1 : IntKind.i64.wrap (m : Int) = (m : Int) := by rw [IntKind.wrap_i64]; omega
    have e2 : IntKind.u64.wrap (Q : Int) = (Q : Int) := by rw [IntKind.wrap_u64]; omega
    go_wp2_with fail
    go_cut [5] (fun v wx => ∃ ba, v = .pointer (some ⟨ba, 0, none⟩) ∧ Ask wx g (m + 1) base w.heap.size ba P ∧ Below wc.heap.size wc wx)
    case first =>
      go_region
      all_goals
        go_wp2_with fail
        go_meet
        have hal : Below wc.heap.size wc (wc.alloc (.cells #[.int .u64 (P : Int)] 30)) := (Below.refl _ _).alloc (Nat.le_refl _) _
        have hal2 : Below wc.heap.size wc (wc.alloc (.cells #[.int .u64 (P : Int)] 30)).drew := hal.drew
        refine ⟨wc.heap.size, rfl, ⟨hmade.below hal2, (World.cell?_alloc_past _ _ _ (World.block_lt_of_cell? wc _ hct)).trans hct, ?_⟩, hal2⟩
        show (wc.alloc (.cells #[.int .u64 (P : Int)] 30)).cell? ⟨wc.heap.size, 0, none⟩ = _
        simp [World.cell?_alloc_new]
    case rest =>
      obtain ⟨ba, rfl, hask, hb3⟩ := hcut
      clear q1 q2 q3 q4 hn0 hn4 hcs e1 e2
      have hmd := hask.made
      obtain ⟨A2, c2, ht2, _⟩ := hask.made
      have r0 := ht2.cells.1
      have r1 := hask.t
      have hs := search_any g (m + 1) base w.heap.size ba P h1 _ hask
      go_wp2_with (go_at_call 16; refine hs.mono ?_; rintro e w3 ⟨j, rfl, hj, hj1, hj2, hb4⟩; have hjb : (j : Int) ≤ 80 := by omega)
      go_ret
      exact ⟨j + 1, by simp [Int.add_comm], deg_of hj (by rw [HP.out]; exact hj1) (by rw [HP.out]; exact hj2), ⟨hbg, .inr (hmd.below hb4)⟩, (hbc.trans (hb3.mono (by omega))).trans (hb4.mono (by have := hb3.size; omega))⟩
end Go.Proofs.Ytlbfgihnmkcgbaa
