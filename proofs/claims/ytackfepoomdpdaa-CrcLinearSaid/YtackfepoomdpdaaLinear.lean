/- The walk of the law CrcLinear: it returns true for every slice of bytes and every two bytes; no condition. -/
import Derived.Test.YtackfepoomdpdaaAwake
import Derived.Test.YtackfepoomdpdaaTold
import Derived.Deep.DeepCutAuto
import Derived.BigRegion
namespace Go.Proofs.Ytackfepoomdpdaa
open Go.RowKit

theorem Own.setFar {w : World} {base : Nat} {e : TypeId} {g n c : Nat} {l : List UInt8} (h : Own w base e (some ⟨g, 0, none⟩) n c l) {p : Addr} (hp : g ≠ p.block) (u : Value) : Own (w.setCell p u) base e (some ⟨g, 0, none⟩) n c l := by
  refine ⟨h.1, ?_⟩
  rcases h.2 with h2 | ⟨g', cap, cur, hv, hbg, hgg, r⟩
  · exact .inl h2
  · have hv' := hv
    simp only [Value.slice.injEq, Option.some.injEq, Addr.mk.injEq, and_true, true_and] at hv
    refine .inr ⟨g', cap, cur, hv', hbg, ?_, r⟩
    rw [← hv.1] at hgg ⊢
    exact (Below.heap_setCell w p u g hp).trans hgg

/-- zeros -/
def zc (n : Nat) : Array Value := madeCells #[Value.int .u8 0] n
theorem zc_list (n : Nat) : (zc n).toList = bys (List.replicate n 0) := by
  unfold zc
  rw [toList_madeCells_one]
  simp [bys, by8]
theorem zc_size (n : Nat) : (zc n).size = n := size_madeCells _ _
theorem make8 (n : Nat) (hn : n ≤ 1000000) (w : World) : (Instr.makeSlice 22 (.int .i64 (n : Int)) (.int .i64 (n : Int))).run Try.prog w = .ok (.slice (some ⟨w.heap.size, 0, none⟩) n n) (w.alloc (.cells (zc n) 5)) := by
  obtain ⟨i, hi, hz0, hz1, hz2⟩ := info_parts isByte
  have := run_make (P := Try.prog) w 22 5 i _ Try.underlying22 hi hz0 .i64 .i64 n n (by omega) (by omega) (by rw [hz2]; omega) (by omega)
  rw [this, hz1]
  simp only [Int.toNat_natCast, Nat.mul_one]
  rfl
theorem Own.zeros (w : World) (n base : Nat) (hn : n ≤ 1000000) (hb : base ≤ w.heap.size) : Own (w.alloc (.cells (zc n) 5)) base 5 (some ⟨w.heap.size, 0, none⟩) n n (List.replicate n 0) := by
  have := World.ownsRow_lit (base := base) (e := 5) (size := 1) w (zc n) n hb (by simp only [maxLen]; omega) (by rw [zc_size, Nat.mul_one])
  rw [zc_list] at this
  exact this

def fill (n i : Nat) (f : Nat → UInt8) : List UInt8 := (List.range n).map fun j => if j < i then f j else 0
theorem fill_zero (n : Nat) (f : Nat → UInt8) : fill n 0 f = List.replicate n 0 := by
  apply List.ext_getElem <;> simp [fill]
theorem fill_set (n i : Nat) (f : Nat → UInt8) : (fill n i f).set i (f i) = fill n (i + 1) f := by
  apply List.ext_getElem
  · simp [fill]
  · intro j h1 h2
    simp only [fill, List.getElem_set, List.getElem_map, List.getElem_range]
    by_cases e : i = j
    · subst e; simp
    · have : (j < i + 1) = (j < i) := by simp; omega
      simp [e, this]
theorem fill_all (n : Nat) (f : Nat → UInt8) : fill n n f = (List.range n).map f := by
  unfold fill
  apply List.map_congr_left
  intro j hj
  simp at hj
  simp [hj]
theorem fill_at (n i : Nat) (f : Nat → UInt8) (h : i < n) : (fill n (i + 1) f)[i]? = some (f i) := by simp [fill, h]
theorem fill_here (n i : Nat) (f : Nat → UInt8) (h : i < n) : (fill n i f)[i]? = some 0 := by simp [fill, h]

/-- what the three makes leave -/
def Three (w : World) (n : Nat) (x y z : Value) (wx : World) : Prop :=
  ∃ gx gy gz, x = .slice (some ⟨gx, 0, none⟩) n n ∧ y = .slice (some ⟨gy, 0, none⟩) n n ∧ z = .slice (some ⟨gz, 0, none⟩) n n ∧ gx ≠ gy ∧ gx ≠ gz ∧ gy ≠ gz ∧ w.heap.size ≤ gx ∧ w.heap.size ≤ gy ∧ w.heap.size ≤ gz ∧
    Own wx w.heap.size 5 (some ⟨gx, 0, none⟩) n n (List.replicate n 0) ∧ Own wx w.heap.size 5 (some ⟨gy, 0, none⟩) n n (List.replicate n 0) ∧ Own wx w.heap.size 5 (some ⟨gz, 0, none⟩) n n (List.replicate n 0) ∧ Below w.heap.size w wx

theorem own_of_three (w : World) (n : Nat) (hn : n ≤ 1000000) (g : Nat) (h0 : w.heap.size ≤ g) (h1 : g < w.heap.size + 3) :
    Own (((w.alloc (.cells (zc n) 5)).alloc (.cells (zc n) 5)).alloc (.cells (zc n) 5)) w.heap.size 5 (some ⟨g, 0, none⟩) n n (List.replicate n 0) := by
  have k0 := (((Own.zeros w n w.heap.size hn (Nat.le_refl _)).alloc (.cells (zc n) 5)).alloc (.cells (zc n) 5))
  have k1 := ((Own.zeros (w.alloc (.cells (zc n) 5)) n w.heap.size hn (by simp)).alloc (.cells (zc n) 5))
  have k2 := (Own.zeros ((w.alloc (.cells (zc n) 5)).alloc (.cells (zc n) 5)) n w.heap.size hn (by simp; omega))
  have e1 : (w.alloc (.cells (zc n) 5)).heap.size = w.heap.size + 1 := by simp
  have e2 : ((w.alloc (.cells (zc n) 5)).alloc (.cells (zc n) 5)).heap.size = w.heap.size + 2 := by simp
  rw [e1] at k1
  rw [e2] at k2
  rcases (by omega : g = w.heap.size ∨ g = w.heap.size + 1 ∨ g = w.heap.size + 2) with rfl | rfl | rfl
  · exact k0
  · exact k1
  · exact k2
theorem three_made (w : World) (n : Nat) (hn : n ≤ 1000000) (gx gy gz : Nat) (hx : w.heap.size ≤ gx ∧ gx < w.heap.size + 3) (hy : w.heap.size ≤ gy ∧ gy < w.heap.size + 3) (hz : w.heap.size ≤ gz ∧ gz < w.heap.size + 3)
    (h1 : gx ≠ gy) (h2 : gx ≠ gz) (h3 : gy ≠ gz) :
    Three w n (.slice (some ⟨gx, 0, none⟩) n n) (.slice (some ⟨gy, 0, none⟩) n n) (.slice (some ⟨gz, 0, none⟩) n n) (((w.alloc (.cells (zc n) 5)).alloc (.cells (zc n) 5)).alloc (.cells (zc n) 5)).drew :=
  ⟨gx, gy, gz, rfl, rfl, rfl, h1, h2, h3, hx.1, hy.1, hz.1, own_of_three w n hn gx hx.1 hx.2, own_of_three w n hn gy hy.1 hy.2, own_of_three w n hn gz hz.1 hz.2,
    ((((Below.refl _ _).alloc (Nat.le_refl _) _).alloc (by simp) _).alloc (by simp; omega) _).drew⟩

def xf (b : UInt8) (j : Nat) : UInt8 := byt ((b.toNat : Int) + 3 * (j : Int))
def yf (d : UInt8) (j : Nat) : UInt8 := d ^^^ byt (j : Int)
def zf (l : List UInt8) (b d : UInt8) (j : Nat) : UInt8 := l.getD j 0 ^^^ xf b j ^^^ yf d j
/-- what the loop has done -/
def Filled (w : World) (gx gy gz n i : Nat) (l : List UInt8) (b d : UInt8) (wr : World) : Prop :=
  Own wr w.heap.size 5 (some ⟨gx, 0, none⟩) n n (fill n i (xf b)) ∧ Own wr w.heap.size 5 (some ⟨gy, 0, none⟩) n n (fill n i (yf d)) ∧ Own wr w.heap.size 5 (some ⟨gz, 0, none⟩) n n (fill n i (zf l b d)) ∧ Below w.heap.size w wr
theorem xf_val (b : UInt8) (j : Nat) : ((xf b j).toNat : Int) = ((b.toNat : Int) + 3 * (j : Int)) % 256 := byt_val _

theorem yf_val (d : UInt8) (j : Nat) : bits .xor .u8 (d.toNat : Int) ((j : Int) % 256) = ((yf d j).toNat : Int) := by
  rw [← byt_val, xor_u8]; rfl
theorem linear_sum (l : List UInt8) (n : Nat) (b d : UInt8) (h : l.length = n) :
    CrcP.sum l ^^^ CrcP.sum ((List.range n).map (xf b)) ^^^ CrcP.sum ((List.range n).map (yf d)) = CrcP.sum ((List.range n).map (zf l b d)) := by
  rw [CrcP.sum_linear _ _ _ (by simp [h]) (by simp [h])]
  congr 1
  apply List.ext_getElem
  · simp [h]
  · intro j h1 h2
    simp at h1
    have h3 : j < l.length := by omega
    simp [zf, List.getD_eq_getElem?_getD, h3]

set_option maxHeartbeats 1000000 in
theorem linear_walk (A : Option Addr) (n c : Nat) (l : List UInt8) (b d : UInt8) (w : World) (hr : Rd w A n c l) :
    Calls Try.prog 4 #[.slice A n c, .int .u8 b.toNat, .int .u8 d.toNat] w fun e w' => e = .returned (.bool true) ∧ Below w.heap.size w w' := by
  by_cases hn : 2000 < n
  · have hn' : (2000 : Int) < (n : Int) := by omega
    go_enter Try.func4, Try.ntmps4
    go_wp2_with (go_at_call 14; refine (awake_any _).mono ?_; rintro e w1 ⟨rfl, hb1⟩)
    go_ret
    exact ⟨rfl, hb1⟩
  · have hn' : (n : Int) ≤ 2000 := by omega
    have hmk := make8 n (by omega)
    go_enter Try.func4, Try.ntmps4
    go_upto_region 3 with fail
    go_cut [7, 8, 9] (fun x y z wx => Three w n x y z wx)
    case first =>
      go_region
      all_goals (go_wp2_with fail; go_meet; exact three_made w n (by omega) _ _ _ (by omega) (by omega) (by omega) (by omega) (by omega) (by omega))
    case rest =>
      obtain ⟨gx, gy, gz, rfl, rfl, rfl, hxy, hxz, hyz, hx0, hy0, hz0, ox, oy, oz, hb0⟩ := hcut
      clear hmk
      have H0 : Filled w gx gy gz n 0 l b d wc := by unfold Filled; rw [fill_zero, fill_zero, fill_zero]; exact ⟨ox, oy, oz, hb0⟩
      go_wp2_with fail
      go_loopw [26] (fun iv wr => ∃ i : Nat, i ≤ n ∧ iv = .int .i64 i ∧ Filled w gx gy gz n i l b d wr) (fun iv _ => n - (intOf iv).toNat)
      case atStart => exact ⟨0, Nat.zero_le _, rfl, H0⟩
      case round =>
        obtain ⟨i, hi, rfl, hF⟩ := hrel
        by_cases hlt : i < n
        · obtain ⟨kx, ky, kz, kb⟩ := hF
          have b0 : (0 : Int) ≤ (i : Int) := by omega
          have b1 : (i : Int) < (n : Int) := by omega
          have cx := kx.cell (fill_here n i _ hlt)
          have fx := kx.frozen i
          have cy := ky.cell (fill_here n i _ hlt)
          have fy := ky.frozen i
          go_wp2_with fail
          simp only [← xf_val, yf_val]
          have k2x := (kx.set i (xf b i)).setFar (p := ⟨gy, i, none⟩) hxy (.int .u8 (yf d i).toNat)
          have k2y := (ky.setFar (p := ⟨gx, i, none⟩) (Ne.symm hxy) (.int .u8 (xf b i).toNat)).set i (yf d i)
          have k2z := (kz.setFar (p := ⟨gx, i, none⟩) (Ne.symm hxz) (.int .u8 (xf b i).toNat)).setFar (p := ⟨gy, i, none⟩) (Ne.symm hyz) (.int .u8 (yf d i).toNat)
          have kb2 := (kb.setCell (p := ⟨gx, i, none⟩) hx0 (.int .u8 (xf b i).toNat)).setCell (p := ⟨gy, i, none⟩) hy0 (.int .u8 (yf d i).toNat)
          rw [fill_set] at k2x k2y
          generalize (wr.setCell ⟨gx, i, none⟩ (.int .u8 (xf b i).toNat)).setCell ⟨gy, i, none⟩ (.int .u8 (yf d i).toNat) = W at *
          clear cx fx cy fy
          have cx := k2x.cell (fill_at n i _ hlt)
          have cy := k2y.cell (fill_at n i _ hlt)
          have fz := k2z.frozen i
          have cz := k2z.cell (fill_here n i _ hlt)
          obtain ⟨ad, u, hA, hu, hc⟩ := (hr.below kb2).at_ hlt
          have hv : zf l b d i = u ^^^ xf b i ^^^ yf d i := by simp [zf, List.getD_eq_getElem?_getD, hu]
          have k3z := k2z.set i (zf l b d i)
          rw [fill_set] at k3z
          have k3x := k2x.setFar (p := ⟨gz, i, none⟩) hxz (.int .u8 (zf l b d i).toNat)
          have k3y := k2y.setFar (p := ⟨gz, i, none⟩) hyz (.int .u8 (zf l b d i).toNat)
          have kb3 := kb2.setCell (p := ⟨gz, i, none⟩) hz0 (.int .u8 (zf l b d i).toNat)
          have Hv := hide hv
          have K3 := hide (And.intro k3x (And.intro k3y (And.intro k3z kb3)))
          subst hA
          clear hv k3x k3y k3z kb3 hu kx ky kz k2x k2y k2z kb kb2
          go_region
          go_wp2_with fail
          go_roundw
          case rel =>
            refine ⟨i + 1, by omega, by go_num, ?_⟩
            rw [xor_u8, xor_u8, ← Hv.out]
            obtain ⟨p1, p2, p3, p4⟩ := K3.out
            exact ⟨p1, p2, p3, p4.drew⟩
          case measure => simp [intOf]; omega
        · have hll := hr.1
          obtain rfl : i = n := by omega
          obtain ⟨kx, ky, kz, kb⟩ := hF
          rw [fill_all] at kx ky kz
          have hls := linear_sum l i b d hll
          have Hll := hide hll
          clear hll
          go_wp2_with fail
          refine (sum_any _ _ _ _ _ (hr.below kb)).mono ?_
          rintro e w1 ⟨rfl, rfl⟩
          go_wp2_with fail
          refine (sum_any _ _ _ _ _ kx.rd).mono ?_
          rintro e w1 ⟨rfl, rfl⟩
          have e1 := V_xor (CrcP.sum l) (CrcP.sum ((List.range i).map (xf b)))
          go_wp2_with fail
          refine (sum_any _ _ _ _ _ ky.rd).mono ?_
          rintro e w1 ⟨rfl, rfl⟩
          have e2 := V_xor (CrcP.sum l ^^^ CrcP.sum ((List.range i).map (xf b))) (CrcP.sum ((List.range i).map (yf d)))
          rw [hls] at e2
          go_wp2_with fail
          refine (sum_any _ _ _ _ _ kz.rd).mono ?_
          rintro e w1 ⟨rfl, rfl⟩
          go_wp2_with fail
          refine (awake_any _).mono ?_
          rintro e w5 ⟨rfl, hb5⟩
          go_wp2_with fail
          go_ret
          exact ⟨rfl, kb.trans (hb5.mono kb.size)⟩
end Go.Proofs.Ytackfepoomdpdaa
