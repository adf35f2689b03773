/- (*sync.Once).Do over the table's fill. (Turned from the kit's worked proof Lazy.) -/
import Derived.Test.YtlbfgihnmkcgbaaOnce
namespace Go.Proofs.Ytlbfgihnmkcgbaa
open Go.RowKit

theorem But.drew {g : Nat} {w a : World} (h : But g w a) : But g w a.drew := ⟨h.os, h.tape, h.output, h.size, h.block⟩
/-- the table's sums are made -/
def Made (w : World) (g n base : Nat) : Prop := ∃ A c, Tab w g n 1 0 (.slice A n c) ∧ OwnF .u64 30 w base A n c (sumf n)

set_option maxRecDepth 100000 in
set_option maxHeartbeats 1600000 in
theorem slow_any (g n base : Nat) (h0 : 1 ≤ n) (h1 : n ≤ 80) (w : World) (hbg : base ≤ g) (ht : Tab w g n 0 0 (.slice none 0 0)) :
    Calls Try.prog 19 #[.pointer (some ⟨g, 1, none⟩), .func (.func 15) #[.pointer (some ⟨g, 0, none⟩)] #[]] w fun e w' => e = .returned (.tuple #[]) ∧ Made w' g n base ∧ But g w w' := by
  have c2 := ht.cells.2.2.1
  have f2 := ht.free 2
  have ht1 := ht.set2 1
  have hl := run_call_load (P := Try.prog) Try.func20 (by kernel_rfl) (by kernel_rfl) (by kernel_rfl) .u32 (by kernel_rfl) (w := w.setCell ⟨g, 2, none⟩ (.int .i32 1)) (a := ⟨g, 1, none⟩) (x := 0) ht1.cells.2.1
  have hnot : ∀ (x : Bool) (w : World), (Op.unary .not (.bool x)).run Try.prog w = .ok (.bool (!x)) w := fun _ _ => rfl
  have hb1 : But g w (w.setCell ⟨g, 2, none⟩ (.int .i32 1)) := (But.refl g w).set 2 _
  have hgw := ht.lt
  have hsz : (w.setCell ⟨g, 2, none⟩ (.int .i32 1)).heap.size = w.heap.size := by simp [World.setCell]
  go_enter_defers Try.func19, Try.ntmps19
  go_wp2_with (go_at_call 21; refine (lock_free ⟨g, 2, none⟩ _ c2 f2).mono ?_; rintro e w' ⟨rfl, rfl⟩)
  go_wp2_with (first
    | (go_at_call 18; go_in)
    | (go_at_call 15; refine (fill_any g n 0 1 h0 h1 _ ht1).mono ?_; rintro e w2 ⟨rfl, A, c, ht2, ho2, hb2⟩))
  have ht2' : Tab w2.drew g n 0 1 (.slice A n c) := ht2
  have ht3 := ht2'.set1 1
  have ho3 : OwnF .u64 30 w2.drew base A n c (sumf n) := ho2.mono (by omega)
  have hb3 : But g w w2.drew := (hb1.trans hb2).drew
  refine leaves_cons (f := 23) (args := #[.pointer (some ⟨g, 1, none⟩), .bool true]) (by simp) (by simp [go_sem]) ?_
  refine (store_deferred ⟨g, 1, none⟩ (.int .u32 0) .returning _ ht2.cells.2.1 (ht2.free 1)).mono ?_
  rintro e u' w'' ⟨rfl, rfl, rfl⟩
  refine leaves_cons (f := 22) (args := #[.pointer (some ⟨g, 2, none⟩)]) (by simp [settle]) (by simp [go_sem]) ?_
  refine (unlock_deferred ⟨g, 2, none⟩ _ _ ht3.cells.2.2.1 (ht3.free 2)).mono ?_
  rintro e u' w'' ⟨rfl, rfl, rfl⟩
  simp [Leaves, settle, results, Try.results19]
  exact ⟨⟨A, c, ht3.set2 0, (ho3.set ht2' (by decide) 1 _).set ht3 (by decide) 2 _⟩, (hb3.set 1 _).set 2 _⟩

set_option maxRecDepth 100000 in
set_option maxHeartbeats 1600000 in
theorem do_first (g n base : Nat) (h0 : 1 ≤ n) (h1 : n ≤ 80) (w : World) (hbg : base ≤ g) (ht : Tab w g n 0 0 (.slice none 0 0)) :
    Calls Try.prog 14 #[.pointer (some ⟨g, 1, none⟩), .func (.func 15) #[.pointer (some ⟨g, 0, none⟩)] #[]] w fun e w' => e = .returned (.tuple #[]) ∧ Made w' g n base ∧ But g w w' := by
  have hl := run_call_load (P := Try.prog) Try.func20 (by kernel_rfl) (by kernel_rfl) (by kernel_rfl) .u32 (by kernel_rfl) ht.cells.2.1
  have hnot : ∀ (x : Bool) (w : World), (Op.unary .not (.bool x)).run Try.prog w = .ok (.bool (!x)) w := fun _ _ => rfl
  go_enter Try.func14, Try.ntmps14
  go_wp2_with (first | (go_at_call 19; refine (slow_any g n base h0 h1 _ hbg ht).mono ?_; rintro e w' ⟨rfl, hm, hb⟩) | (go_at_call 18; go_in))
  go_end0
  exact ⟨rfl, hm, hb⟩

theorem do_done (a : Addr) (fv : Value) (w : World) (hc : w.cell? a = some (.int .u32 1)) :
    Calls Try.prog 14 #[.pointer (some a), fv] w fun e w' => e = .returned (.tuple #[]) ∧ w' = w := by
  have hl := run_call_load (P := Try.prog) Try.func20 (by kernel_rfl) (by kernel_rfl) (by kernel_rfl) .u32 (by kernel_rfl) hc
  have hnot : ∀ (x : Bool) (w : World), (Op.unary .not (.bool x)).run Try.prog w = .ok (.bool (!x)) w := fun _ _ => rfl
  go_enter Try.func14, Try.ntmps14
  go_wp2
  go_end0
  exact ⟨rfl, rfl⟩

/-- the table as it stands between two calls: fresh, or its sums made -/
def Stands (w : World) (g n base : Nat) : Prop := base ≤ g ∧ (Tab w g n 0 0 (.slice none 0 0) ∨ Made w g n base)
theorem Made.below {w w' : World} {g n base : Nat} (h : Made w g n base) (hb : Below w.heap.size w w') : Made w' g n base := by
  obtain ⟨A, c, ht, ho⟩ := h
  exact ⟨A, c, ht.below hb, ho.below hb⟩
theorem Stands.below {w w' : World} {g n base : Nat} (h : Stands w g n base) (hb : Below w.heap.size w w') : Stands w' g n base :=
  ⟨h.1, h.2.imp (fun h => h.below hb) fun h => h.below hb⟩
theorem Stands.tab {w : World} {g n base : Nat} (h : Stands w g n base) : ∃ dn v, Tab w g n dn 0 v := by
  rcases h.2 with h | ⟨A, c, h, _⟩
  · exact ⟨_, _, h⟩
  · exact ⟨_, _, h⟩

theorem do_any (g n base : Nat) (h0 : 1 ≤ n) (h1 : n ≤ 80) (w : World) (h : Stands w g n base) :
    Calls Try.prog 14 #[.pointer (some ⟨g, 1, none⟩), .func (.func 15) #[.pointer (some ⟨g, 0, none⟩)] #[]] w fun e w' => e = .returned (.tuple #[]) ∧ Made w' g n base ∧ But g w w' := by
  rcases h.2 with ht | hm
  · exact do_first g n base h0 h1 w h.1 ht
  · have hm' := hm
    obtain ⟨A, c, ht, _⟩ := hm'
    exact (do_done ⟨g, 1, none⟩ _ w ht.cells.2.1).mono fun e w' ⟨h1, h2⟩ => ⟨h1, by rw [h2]; exact hm, by rw [h2]; exact But.refl _ _⟩
end Go.Proofs.Ytlbfgihnmkcgbaa
