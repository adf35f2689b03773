/- What downpourlaw7.awake does: it returns true, in whatever world. -/
import Derived.Test.YtlbfgihnmkcgbaaDegree
namespace Go.Proofs.Ytlbfgihnmkcgbaa
open Go.RowKit

theorem new_ok (n : Nat) (h0 : 1 ≤ n) (h1 : n ≤ 80) (w : World) : Calls Try.prog 10 #[.int .i64 n] w fun e w' => e = .returned (.pointer (some ⟨w.heap.size, 0, none⟩)) ∧ Stands w' w.heap.size n w.heap.size ∧ Below w.heap.size w w' :=
  (new_some n h0 h1 w).mono fun _ _ ⟨h1, h2⟩ => ⟨h1, by rw [h2]; exact ⟨Nat.le_refl _, .inl (Tab.new w n)⟩, by rw [h2]; exact (Below.refl _ _).alloc (Nat.le_refl _) _⟩

set_option maxRecDepth 100000 in
set_option maxHeartbeats 1000000 in
theorem awake_any (w : World) : Calls Try.prog 11 #[] w fun e w' => e = .returned (.bool true) ∧ Below w.heap.size w w' := by
  have hw4 : wtf 4 0 = 393216 := by decide +kernel
  have hr4 : IsRoot 17 4 := by unfold IsRoot; decide
  have Hr := hide hr4
  have Hw := hide hw4
  clear hr4 hw4
  go_enter Try.func11, Try.ntmps11
  go_wp2_with fail
  refine (new_ok 4 (by omega) (by omega) w).mono ?_
  rintro e w1 ⟨rfl, hs1, hb1⟩
  obtain ⟨dn, v, ht⟩ := hs1.tab
  go_wp2_with fail
  refine (weights_any w.heap.size 4 dn 0 v (by omega) (by omega) w1 ht).mono ?_
  rintro e w2 ⟨A, c, rfl, ho, hb2⟩
  have hbb2 := below_next hb1 hb2
  obtain ⟨g, rfl, _, _, hc⟩ := ho.at_ (i := 0) (by omega)
  rw [Hw.out] at hc
  go_wp2_with fail
  refine (new_ok 1 (by omega) (by omega) w2).mono ?_
  rintro e w3 ⟨rfl, hs3, hb3⟩
  have hbb3 := below_next hbb2 hb3
  go_wp2_with fail
  refine (degree_any w2.heap.size 1 w2.heap.size 7 (by omega) (by omega) (by omega) w3 hs3).mono ?_
  rintro e w4 ⟨r, rfl, hd, _, hb4⟩
  have hr1 : r = 1 := by have := hd.1; have := hd.le (by omega) (by omega) (by omega); omega
  subst hr1
  have hbb4 := hbb3.trans (hb4.mono hbb2.size)
  go_wp2_with fail
  refine (root_any 17 (by omega) (by omega) w4).mono ?_
  rintro e w5 ⟨r5, rfl, h5, _, rfl⟩
  have hr5 : r5 = 4 := h5.same Hr.out
  subst hr5
  go_wp2_with fail
  go_ret
  exact ⟨rfl, hbb4⟩
end Go.Proofs.Ytlbfgihnmkcgbaa
