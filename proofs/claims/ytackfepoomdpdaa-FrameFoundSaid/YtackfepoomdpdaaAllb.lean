/- What frame.All does, for every slice of bytes. -/
import Derived.Test.YtackfepoomdpdaaAll
namespace Go.Proofs.Ytackfepoomdpdaa
open Go.RowKit

theorem isRef : IsRef Try.prog 22 := by unfold IsRef; kernel_rfl
def lenOfV : Value → Nat | .slice _ n _ => n | _ => 0

/-- what both Alls come to -/
def Alled (l : List UInt8) (w : World) (e : Ending) (w' : World) : Prop :=
  ∃ A n c fs o, e = .returned (.tuple #[.slice A n c, .int .i64 ((o : Nat) : Int)]) ∧ OwnL 22 5 w' w.heap.size A n c fs none ∧ Scan l fs o ∧ Below w.heap.size w w'

/-- how far a scan has come -/
structure Far (l r : List UInt8) (fs : List (List UInt8)) (o : Nat) : Prop where
  goes : ∀ fs' o', Scan r fs' o' → Scan l (fs ++ fs') (o + o')
  fit : fs.length + o + r.length ≤ l.length
theorem Far.start (l : List UInt8) : Far l l [] 0 := ⟨fun fs' o' h => by simpa using h, by simp⟩
theorem Far.skip {l : List UInt8} {x : UInt8} {r : List UInt8} {fs : List (List UInt8)} {o : Nat} (h : Far l (x :: r) fs o) (hb : beg (x :: r) = none) : Far l r fs (o + 1) :=
  ⟨fun fs' o' hs => by have := h.goes fs' (o' + 1) (Scan.skip hb hs); rwa [show o + 1 + o' = o + (o' + 1) by omega], by have := h.fit; simp at this; omega⟩
theorem Far.take {l r : List UInt8} {m : Nat} {fs : List (List UInt8)} {o : Nat} (h : Far l r fs o) (hb : beg r = some m) : Far l (r.drop m) (fs ++ [r.take m]) o :=
  ⟨fun fs' o' hs => by have := h.goes (r.take m :: fs') o' (Scan.take hb hs); simpa using this, by have h1 := h.fit; have h2 := beg_some hb; simp; omega⟩
theorem Far.end_ {l : List UInt8} {fs : List (List UInt8)} {o : Nat} (h : Far l [] fs o) : Scan l fs o := by
  have := h.goes [] 0 Scan.nil
  simpa using this

set_option maxRecDepth 100000 in
set_option maxHeartbeats 2000000 in
theorem all_small (A : Option Addr) (n c : Nat) (l : List UInt8) (w : World) (hr : Rd w A n c l) (hn : n ≤ 20000) : Calls Try.prog 28 #[.slice A n c] w (Alled l w) := by
  have hn' : (n : Int) ≤ 20000 := by omega
  have hnil := fun (w : World) (a : Option Addr) (n c : Nat) => Lib.run_eql_slice_nil (P := Try.prog) w 22 5 a n c 0 0 Try.underlying22
  have Hl := hide hr.1
  go_enter Try.func28, Try.ntmps28
  go_wp2_with fail
  go_loopw [0, 4, 5] (fun b out other wr => ∃ Ar nr cr r Ao no co fs o, b = .slice Ar nr cr ∧ Rd w Ar nr cr r ∧ out = .slice Ao no co ∧ OwnL 22 5 wr w.heap.size Ao no co fs none ∧ other = .int .i64 ((o : Nat) : Int) ∧ Far l r fs o ∧ Below w.heap.size w wr) (fun b _ _ _ => lenOfV b)
  case atStart => exact ⟨A, n, c, l, none, 0, 0, [], 0, rfl, hr, rfl, OwnL.nil _ _ _ _ _, rfl, Far.start l, Below.refl _ _⟩
  case round =>
    obtain ⟨Ar, nr, cr, r, Ao, no, co, fs, o, rfl, hrd, rfl, hol, rfl, hF, hbr⟩ := hrel
    have hfit := hF.fit
    have hrl := hrd.1
    have hol2 := hol.len
    have hno : no + o + nr ≤ n := by have := Hl.out; omega
    have Hrl := hide hrl
    clear hfit hrl hol2
    by_cases h0 : 0 < nr
    · have h0' : (0 : Int) < (nr : Int) := by omega
      have hcr := hrd.2.1
      obtain ⟨ad, rfl, _⟩ := hrd.ptr h0
      cases hb : beg r with
      | none =>
        have Hb := hide hb
        clear hb
        have h1c : (1 : Int) ≤ (nr : Int) := by omega
        obtain ⟨x, r', rfl⟩ : ∃ x r', r = x :: r' := by
          cases r with
          | nil => have := Hrl.out; simp at this; omega
          | cons x r' => exact ⟨x, r', rfl⟩
        by_cases hc1 : cr = 1
        · subst hc1
          obtain rfl : nr = 1 := by omega
          go_wp2_with ((go_at_call 35; refine (begins_none _ _ _ _ _ (hrd.below hbr) Hb.out).mono ?_; rintro e w1 ⟨rfl, hb1⟩))
          have hlo := hrd.lo_eq (k := 1) (by omega) rfl
          go_roundw
          case rel => exact ⟨_, _, _, r', _, _, _, fs, o + 1, rfl, hlo, rfl, hol.below hb1, by go_num, hF.skip Hb.out, below_next hbr hb1⟩
          case measure => simp [lenOfV]
        · go_wp2_with ((go_at_call 35; refine (begins_none _ _ _ _ _ (hrd.below hbr) Hb.out).mono ?_; rintro e w1 ⟨rfl, hb1⟩))
          have hlo := hrd.lo_ne (k := 1) (by omega) hc1
          go_roundw
          case rel => exact ⟨_, _, _, r', _, _, _, fs, o + 1, rfl, hlo, rfl, hol.below hb1, by go_num, hF.skip Hb.out, below_next hbr hb1⟩
          case measure => simp [lenOfV]; omega
      | some m =>
        have Hb := hide hb
        have hm1 := (beg_some hb).2.2.1
        have hm9 := (beg_some hb).2.2.2
        have hm2 : m ≤ nr := by have := Hrl.out; omega
        clear hb
        have hmr : (m : Int) ≤ (nr : Int) := by omega
        have hmc : (m : Int) ≤ (cr : Int) := by omega
        have hm0 : (0 : Int) ≤ (m : Int) := by omega
        by_cases hc1 : cr = m
        · subst hc1
          obtain rfl : nr = cr := by omega
          have hlo := hrd.lo_eq (k := nr) (by omega) rfl
          rw [Nat.sub_self] at hlo
          go_wp2_with fail
          refine (begins_some _ _ _ _ _ _ (hrd.below hbr) Hb.out).mono ?_
          rintro e w1 ⟨rfl, hb1⟩
          go_wp2_with fail
          refine (clone_any _ _ _ _ _ (((hrd.below hbr).below hb1).hi (k := nr) hm2) (by omega)).mono ?_
          rintro e w2 ⟨A2, c2, rfl, ho2, hb2⟩
          have hb12 := below_next hb1 hb2
          have hsz := (below_next hbr hb12).size
          have hb3 : Below w2.heap.size w2 (w2.alloc (.cells #[.slice A2 nr c2] 22)) := (Below.refl _ _).alloc (Nat.le_refl _) _
          go_wp2_with ((at_builtin; refine wpList_appendL _ rfl _ _ _ rfl w.heap.size 22 5 (by decide) Try.underlying47 isRef Ao no co fs none rfl ((hol.below hb12).below hb3) ⟨w2.heap.size, 0, none⟩ 1 A2 nr c2 _ rfl (by simp [World.cell?_alloc_new]) ((ho2.mono (Nat.le_trans hbr.size hb1.size)).below hb3) (.inl rfl) (by omega) (by simp; omega) ?_; intro A4 c4 w4 ho4 hb4 _))
          go_roundw
          case rel => exact ⟨_, _, _, _, _, _, _, _, o, rfl, hlo, rfl, ho4, rfl, hF.take Hb.out, ((below_next hbr hb12).trans (hb3.mono hsz)).trans hb4⟩
          case measure => simp [lenOfV]; omega
        · have hlo := hrd.lo_ne (k := m) (by omega) hc1
          go_wp2_with fail
          refine (begins_some _ _ _ _ _ _ (hrd.below hbr) Hb.out).mono ?_
          rintro e w1 ⟨rfl, hb1⟩
          go_wp2_with fail
          refine (clone_any _ _ _ _ _ (((hrd.below hbr).below hb1).hi (k := m) hm2) (by omega)).mono ?_
          rintro e w2 ⟨A2, c2, rfl, ho2, hb2⟩
          have hb12 := below_next hb1 hb2
          have hsz := (below_next hbr hb12).size
          have hb3 : Below w2.heap.size w2 (w2.alloc (.cells #[.slice A2 m c2] 22)) := (Below.refl _ _).alloc (Nat.le_refl _) _
          go_wp2_with ((at_builtin; refine wpList_appendL _ rfl _ _ _ rfl w.heap.size 22 5 (by decide) Try.underlying47 isRef Ao no co fs none rfl ((hol.below hb12).below hb3) ⟨w2.heap.size, 0, none⟩ 1 A2 m c2 _ rfl (by simp [World.cell?_alloc_new]) ((ho2.mono (Nat.le_trans hbr.size hb1.size)).below hb3) (.inl rfl) (by omega) (by simp; omega) ?_; intro A4 c4 w4 ho4 hb4 _))
          go_roundw
          case rel => exact ⟨_, _, _, _, _, _, _, _, o, rfl, hlo, rfl, ho4, rfl, hF.take Hb.out, ((below_next hbr hb12).trans (hb3.mono hsz)).trans hb4⟩
          case measure => simp [lenOfV]; omega
    · have hr0 : r = [] := List.eq_nil_of_length_eq_zero (by have := Hrl.out; omega)
      subst hr0
      have h0' : ¬ (0 : Int) < (nr : Int) := by omega
      have hscan := hF.end_
      go_wp2_with fail
      go_ret2
      exact ⟨Ao, no, co, fs, o, rfl, hol, hscan, hbr⟩
end Go.Proofs.Ytackfepoomdpdaa
