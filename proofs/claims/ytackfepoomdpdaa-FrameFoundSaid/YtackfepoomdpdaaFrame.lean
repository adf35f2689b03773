/- What frame.Wrap and frame.Unwrap do, for every slice of bytes; and their callees. -/
import Derived.Test.YtackfepoomdpdaaRright
import Derived.ArgAppend
namespace Go.Proofs.Ytackfepoomdpdaa
open Go.RowKit

theorem below_next {w a b : World} (h : Below w.heap.size w a) (k : Below a.heap.size a b) : Below w.heap.size w b := h.trans (k.mono h.size)

/-- append on a slice that is full: a new one, of the call's own -/
theorem wpList_appendFull8 {P : Program} (w : World) {ops : Array Oper} {rest : List Oper} {o : Oper} {a : Act} {Q : Exit → Act → World → Prop} (hgd : o.guard = none) (s x : Operand) (t : TypeId)
    (hop : o.op = .call { callee := .builtin .append, args := #[s, x], argTypes := #[t, t] })
    (e : TypeId) (ht : P.underlying t = some (.slice e)) (hi : IsByte P e)
    (A : Option Addr) (n : Nat) (l : List UInt8) (hs : a.eval s = .slice A n n) (ho : Rd w A n n l) (hn : 0 < n) (X : Option Addr) (m d : Nat) (r : List UInt8) (hx : a.eval x = .slice X m d) (hr : Rd w X m d r) (hm : 0 < m)
    (hsz : n + m ≤ 140737488355328)
    (h : ∀ A' c' w', Own w' w.heap.size e A' (n + m) c' (l ++ r) → Below w.heap.size w w' → wpList P ops Q rest (a.put o.dst (.slice A' (n + m) c')) w') : wpList P ops Q (o :: rest) a w := by
  obtain ⟨i, hi, hz0, hz1, hz2⟩ := info_parts hi
  obtain ⟨h1, _, _, h4⟩ := ho
  obtain ⟨ad, rfl, hc⟩ := h4 hn
  obtain ⟨k1, _, _, k4⟩ := hr
  obtain ⟨bd, rfl, kc⟩ := k4 hm
  refine wpList_append_grows w hgd s x t hop e i _ 1 1 ht hi hz0 hz1 hz2 rfl (by omega) (some ad) n n (bys l) hs (fun h => by cases h) (by rw [bys_len]; omega)
    (fun b hb j u hu => ?_) bd m d (bys r) hx (by rw [bys_len]; omega) (fun j u hu => ?_) (bys_one r) (by omega) (by simp only [maxLen]; omega) (by omega) (fun v' w' hown hg => ?_)
  · cases hb
    rw [bys_get, Option.map_eq_some_iff] at hu
    obtain ⟨y, hy, rfl⟩ := hu
    exact hc j y hy
  · rw [bys_get, Option.map_eq_some_iff] at hu
    obtain ⟨y, hy, rfl⟩ := hu
    exact kc j y hy
  · have h2 := hown
    obtain ⟨g, cap, rfl, _, _⟩ := hown.form (by omega)
    exact h _ cap w' (by unfold Own; rw [bys_app]; exact h2) ((Below.refl _ _).grown hg (Nat.le_refl _) (fun k hk => by cases hk))

set_option maxHeartbeats 400000 in
theorem equal_any (A B : Option Addr) (n c m d : Nat) (l r : List UInt8) (w : World) (hl : Rd w A n c l) (hr : Rd w B m d r) :
    Calls Try.prog 37 #[.slice A n c, .slice B m d] w fun e w' => e = .returned (.bool ((str l).toList == (str r).toList)) ∧ w = w' := by
  have k1 := conv22 hl
  have k2 := conv22 hr
  go_enter Try.func37, Try.ntmps37
  go_wp2_with fail
  go_ret
  exact ⟨rfl, rfl⟩

set_option maxHeartbeats 400000 in
theorem hasPrefix_any (A B : Option Addr) (n c m d : Nat) (l r : List UInt8) (w : World) (hl : Rd w A n c l) (hr : Rd w B m d r) (hmn : m ≤ n) :
    Calls Try.prog 32 #[.slice A n c, .slice B m d] w fun e w' => e = .returned (.bool ((str (l.take m)).toList == (str r).toList)) ∧ w = w' := by
  have h1 : (m : Int) ≤ (n : Int) := by omega
  have h2 : (m : Int) ≤ (c : Int) := by have := hl.2.1; omega
  go_enter Try.func32, Try.ntmps32
  go_wp2_with (go_at_call 37; refine (equal_any _ _ _ _ _ _ _ _ _ (hl.hi hmn) hr).mono ?_; rintro e w' ⟨rfl, rfl⟩)
  go_ret
  exact ⟨rfl, rfl⟩

/-- how long a frame says it is -/
def lenOf (l : List UInt8) : Nat := 9 + (l.getD 3 0).toNat * 256 + (l.getD 4 0).toNat

set_option maxHeartbeats 400000 in
theorem length_any (A : Option Addr) (n c : Nat) (l : List UInt8) (w : World) (hr : Rd w A n c l) (hn : 5 ≤ n) :
    Calls Try.prog 33 #[.slice A n c] w fun e w' => e = .returned (.int .i64 (lenOf l : Nat)) ∧ Below w.heap.size w w' := by
  obtain ⟨ad, x, rfl, hx, hc3⟩ := hr.at_ (k := 3) (by omega)
  obtain ⟨ad', y, e, hy, hc4⟩ := hr.at_ (k := 4) (by omega)
  cases e
  have hc3 : w.cell? ⟨ad.block, ad.off + 3, none⟩ = some (.int .u8 x.toNat) := hc3
  have hc4 : w.cell? ⟨ad.block, ad.off + 4, none⟩ = some (.int .u8 y.toNat) := hc4
  have b3 : (3 : Int) < (n : Int) := by omega
  have b4 : (4 : Int) < (n : Int) := by omega
  have v3 : ((l.getD 3 0).toNat : Int) = (x.toNat : Int) := by rw [List.getD_eq_getElem?_getD, hx]; rfl
  have v4 : ((l.getD 4 0).toNat : Int) = (y.toNat : Int) := by rw [List.getD_eq_getElem?_getD, hy]; rfl
  have hv : ((lenOf l : Nat) : Int) = 9 + (x.toNat : Int) * 256 + (y.toNat : Int) := by unfold lenOf; omega
  have Hv := hide hv
  have l3 := x.toNat_lt
  have l4 := y.toNat_lt
  clear hx hy v3 v4 hv
  go_enter Try.func33, Try.ntmps33
  go_wp2_with fail
  go_quiet (fail)
  go_wp2_with fail
  go_ret
  refine ⟨?_, below_drewN (Below.refl _ _) _⟩
  rw [Hv.out]
  rfl

/-- a frame's bytes -/
def innerL (k : Int) (l : List UInt8) : List UInt8 := [byt k, byt ((l.length : Int) / 256), byt (l.length : Int)] ++ l
def wrapL (k : Int) (l : List UInt8) : List UInt8 := [68, 80] ++ putL (innerL k l)
theorem innerL_len (k : Int) (l : List UInt8) : (innerL k l).length = 3 + l.length := by simp [innerL]; omega
theorem wrapL_len (k : Int) (l : List UInt8) : (wrapL k l).length = l.length + 9 := by simp [wrapL, putL_len, innerL_len]; omega

set_option maxHeartbeats 400000 in
theorem wrap_bad (k : Int) (A : Option Addr) (n c : Nat) (w : World) (h : k < 0 ∨ 255 < k ∨ 291 < n) :
    Calls Try.prog 24 #[.int .i64 k, .slice A n c] w fun e w' => e = .returned (.tuple #[.slice none 0 0, .int .i64 1]) ∧ w = w' := by
  by_cases h0 : k < 0
  · go_enter Try.func24, Try.ntmps24
    go_wp2_with fail
    go_ret2
    exact ⟨rfl, rfl⟩
  · have h0' : 0 ≤ k := by omega
    by_cases h1 : 255 < k
    · go_enter Try.func24, Try.ntmps24
      go_wp2_with fail
      go_ret2
      exact ⟨rfl, rfl⟩
    · have h1' : k ≤ 255 := by omega
      have h2 : (291 : Int) < (n : Int) := by omega
      go_enter Try.func24, Try.ntmps24
      go_wp2_with fail
      go_ret2
      exact ⟨rfl, rfl⟩

theorem head_cells (k : Int) (n : Nat) (h0 : 0 ≤ k) (h1 : k ≤ 255) (h2 : n ≤ 291) : (#[Value.int .u8 k, .int .u8 ((n : Int) / 256), .int .u8 ((n : Int) % 256)] : Array Value).toList = bys [byt k, byt ((n : Int) / 256), byt (n : Int)] := by
  have e1 : k % 256 = k := by omega
  have e2 : (n : Int) / 256 % 256 = (n : Int) / 256 := by omega
  simp [bys, by8, byt_val, e1, e2]

set_option maxHeartbeats 400000 in
theorem wrap_good (k : Int) (A : Option Addr) (n c : Nat) (l : List UInt8) (w : World) (hr : Rd w A n c l) (h0 : 0 ≤ k) (h1 : k ≤ 255) (h2 : n ≤ 291) :
    Calls Try.prog 24 #[.int .i64 k, .slice A n c] w fun e w' => ∃ A' c', e = .returned (.tuple #[.slice A' (n + 9) c', .int .i64 0]) ∧ Own w' w.heap.size 5 A' (n + 9) c' (wrapL k l) ∧ Below w.heap.size w w' := by
  have h2' : (n : Int) ≤ 291 := by omega
  have Hl := hide hr.1
  have kc := fun (w : World) (C : Array Value) (n c : Nat) => Lib.run_convert_bytes_const (P := Try.prog) w 22 5 C n c Try.underlying22 Try.underlying5
  have hb0 : Below w.heap.size w (w.alloc (.cells #[.int .u8 k, .int .u8 ((n : Int) / 256), .int .u8 ((n : Int) % 256)] 5)) := (Below.refl _ _).alloc (Nat.le_refl _) _
  have ho0 := Own.lit w w.heap.size 5 _ (head_cells k n h0 h1 h2) (by simp [maxLen]) (Nat.le_refl _)
  go_enter Try.func24, Try.ntmps24
  go_wp2_with (at_builtin
               refine wpList_append8 _ rfl _ _ _ rfl w.heap.size 5 Try.underlying22 isByte _ 3 3 _ rfl ho0 A n c l rfl (hr.below hb0) (by omega) (by simp) ?_
               intro A1 c1 w1 ho1 hb1 _ _)
  have ho1' : Own w1 w.heap.size 5 A1 (3 + n) c1 (innerL k l) := by unfold innerL; rw [Hl.out]; exact ho1
  have hbb1 := hb0.trans hb1
  have hmk : Rd (w1.alloc (.cells #[.int .u8 68, .int .u8 80] 5 (2, 3))) (some ⟨w1.heap.size, 0, none⟩) 2 2 [68, 80] := Rd.newFr w1 5 _ _ rfl (by decide)
  have hba : Below w1.heap.size w1 (w1.alloc (.cells #[.int .u8 68, .int .u8 80] 5 (2, 3))) := (Below.refl _ _).alloc (Nat.le_refl _) _
  refine (put_any _ _ _ _ _ (ho1'.rd.below hba) (by omega)).mono ?_
  rintro e w2 ⟨A2, c2, rfl, ho2, hb2⟩
  have hbb2 : Below w.heap.size w w2 := below_next (below_next hbb1 hba) hb2
  clear ho1
  go_wp2_with (at_builtin
               refine wpList_appendFull8 _ rfl _ _ _ rfl 5 Try.underlying22 isByte _ 2 _ rfl (hmk.below hb2) (by omega) A2 (3 + n + 4) c2 _ rfl ho2.rd (by omega) (by omega) ?_
               intro A3 c3 w3 ho3 hb3)
  have e9 : 2 + (3 + n + 4) = n + 9 := by omega
  rw [e9] at ho3 ⊢
  go_wp2_with fail
  go_ret2
  exact ⟨A3, c3, rfl, ho3.mono hbb2.size, below_next hbb2 hb3⟩

set_option maxHeartbeats 400000 in
theorem two_any (n : Nat) (w : World) (hn : n ≤ 291) :
    Calls Try.prog 31 #[.int .i64 n] w fun e w' => ∃ A c, e = .returned (.slice A 2 c) ∧ Own w' w.heap.size 5 A 2 c [byt ((n : Int) / 256), byt (n : Int)] ∧ Below w.heap.size w w' := by
  have hn' : (n : Int) ≤ 291 := by omega
  have e := hide (show (#[Value.int .u8 ((n : Int) / 256), .int .u8 ((n : Int) % 256)] : Array Value).toList = bys [byt ((n : Int) / 256), byt (n : Int)] by
    have e2 : (n : Int) / 256 % 256 = (n : Int) / 256 := by omega
    simp [bys, by8, byt_val, e2])
  go_enter Try.func31, Try.ntmps31
  go_wp2
  go_ret
  exact ⟨_, _, rfl, Own.lit w w.heap.size 5 _ e.out (by simp [maxLen]) (Nat.le_refl _), (Below.refl _ _).alloc (Nat.le_refl _) _⟩

theorem join_as (A : Option Addr) (n c N : Nat) (ls : List (List UInt8)) (L : List UInt8) (w : World) (hL : ls.flatten = L) (hN : L.length = N) (hr : RdL w A n c ls) (hn : N ≤ 1000000) :
    Calls Try.prog 22 #[.slice A n c] w fun e w' => ∃ A' c', e = .returned (.slice A' N c') ∧ Own w' w.heap.size 5 A' N c' L ∧ Below w.heap.size w w' := by
  subst hL
  have h := join_any A n c ls w hr (by omega)
  rw [hN] at h
  exact h
theorem rdl_three {W : World} {g n m k c d e : Nat} {A B C : Option Addr} {l r s : List UInt8} (h0 : W.cell? ⟨g, 0, none⟩ = some (.slice A n c)) (h1 : W.cell? ⟨g, 1, none⟩ = some (.slice B m d)) (h2 : W.cell? ⟨g, 2, none⟩ = some (.slice C k e))
    (hl : Rd W A n c l) (hr : Rd W B m d r) (hs : Rd W C k e s) : RdL W (some ⟨g, 0, none⟩) 3 3 [l, r, s] :=
  ⟨rfl, Nat.le_refl _, by decide, fun _ => ⟨_, rfl, fun j x hj => by
    match j, hj with
    | 0, hj => simp at hj; subst hj; exact ⟨A, n, c, by rw [addAt]; exact h0, hl⟩
    | 1, hj => simp at hj; subst hj; exact ⟨B, m, d, by rw [addAt]; exact h1, hr⟩
    | 2, hj => simp at hj; subst hj; exact ⟨C, k, e, by rw [addAt]; exact h2, hs⟩⟩⟩
theorem rdl_two' {W : World} {g n m c d : Nat} {A B : Option Addr} {l r : List UInt8} (h0 : W.cell? ⟨g, 0, none⟩ = some (.slice A n c)) (h1 : W.cell? ⟨g, 1, none⟩ = some (.slice B m d)) (hl : Rd W A n c l) (hr : Rd W B m d r) :
    RdL W (some ⟨g, 0, none⟩) 2 2 [l, r] :=
  ⟨rfl, Nat.le_refl _, by decide, fun _ => ⟨_, rfl, fun j x hj => by
    match j, hj with
    | 0, hj => simp at hj; subst hj; exact ⟨A, n, c, by rw [addAt]; exact h0, hl⟩
    | 1, hj => simp at hj; subst hj; exact ⟨B, m, d, by rw [addAt]; exact h1, hr⟩⟩⟩
theorem rdl_one {W : World} {g n c : Nat} {A : Option Addr} {l : List UInt8} (h0 : W.cell? ⟨g, 0, none⟩ = some (.slice A n c)) (hl : Rd W A n c l) : RdL W (some ⟨g, 0, none⟩) 1 1 [l] :=
  ⟨rfl, Nat.le_refl _, by decide, fun _ => ⟨_, rfl, fun j x hj => by
    match j, hj with
    | 0, hj => simp at hj; subst hj; exact ⟨A, n, c, by rw [addAt]; exact h0, hl⟩⟩⟩

set_option maxHeartbeats 400000 in
theorem rwrap_bad (k : Int) (A : Option Addr) (n c : Nat) (w : World) (h : k < 0 ∨ 255 < k ∨ 291 < n) :
    Calls Try.prog 25 #[.int .i64 k, .slice A n c] w fun e w' => e = .returned (.tuple #[.slice none 0 0, .int .i64 1]) ∧ w = w' := by
  by_cases h0 : k < 0
  · go_enter Try.func25, Try.ntmps25
    go_wp2_with fail
    go_ret2
    exact ⟨rfl, rfl⟩
  · have h0' : 0 ≤ k := by omega
    by_cases h1 : 255 < k
    · go_enter Try.func25, Try.ntmps25
      go_wp2_with fail
      go_ret2
      exact ⟨rfl, rfl⟩
    · have h1' : k ≤ 255 := by omega
      have h2 : (291 : Int) < (n : Int) := by omega
      go_enter Try.func25, Try.ntmps25
      go_wp2_with fail
      go_ret2
      exact ⟨rfl, rfl⟩

set_option maxHeartbeats 400000 in
theorem rwrap_good (k : Int) (A : Option Addr) (n c : Nat) (l : List UInt8) (w : World) (hr : Rd w A n c l) (h0 : 0 ≤ k) (h1 : k ≤ 255) (h2 : n ≤ 291) :
    Calls Try.prog 25 #[.int .i64 k, .slice A n c] w fun e w' => ∃ A' c', e = .returned (.tuple #[.slice A' (n + 9) c', .int .i64 0]) ∧ Own w' w.heap.size 5 A' (n + 9) c' (wrapL k l) ∧ Below w.heap.size w w' := by
  have h2' : (n : Int) ≤ 291 := by omega
  have Hl := hide hr.1
  have kc := fun (w : World) (C : Array Value) (n c : Nat) => Lib.run_convert_bytes_const (P := Try.prog) w 22 5 C n c Try.underlying22 Try.underlying5
  have hk : (#[Value.int .u8 k] : Array Value).toList = bys [byt k] := by
    have e1 : k % 256 = k := by omega
    simp [bys, by8, byt_val, e1]
  have hr0 := Rd.new w 5 _ hk (by simp [maxLen])
  clear hk
  have hb0 : Below w.heap.size w (w.alloc (.cells #[.int .u8 k] 5)) := (Below.refl _ _).alloc (Nat.le_refl _) _
  go_enter Try.func25, Try.ntmps25
  go_wp2_with fail
  refine (two_any n _ h2).mono ?_
  rintro e w1 ⟨A1, c1, rfl, ho1, hb1⟩
  have hbb1 := below_next hb0 hb1
  go_wp2_with fail
  have hq : Below w1.heap.size w1 (w1.alloc (.cells #[.slice (some ⟨w.heap.size, 0, none⟩) 1 1, .slice A1 2 c1, .slice A n c] 22)) := (Below.refl _ _).alloc (Nat.le_refl _) _
  refine (join_as _ 3 3 (3 + n) [[byt k], [byt ((n : Int) / 256), byt (n : Int)], l] (innerL k l) _ (by unfold innerL; rw [Hl.out]; simp) (by rw [innerL_len, Hl.out])
    (rdl_three (by simp [World.cell?_alloc_new]) (by simp [World.cell?_alloc_new]) (by simp [World.cell?_alloc_new]) ((hr0.below hb1).below hq) (ho1.rd.below hq) ((hr.below hbb1).below hq)) (by omega)).mono ?_
  rintro e w2 ⟨A2, c2, rfl, ho2, hb2⟩
  have hbb2 := below_next (below_next hbb1 hq) hb2
  go_wp2_with fail
  have hmk : Rd (w2.alloc (.cells #[.int .u8 68, .int .u8 80] 5 (2, 3))) (some ⟨w2.heap.size, 0, none⟩) 2 2 [68, 80] := Rd.newFr w2 5 _ _ rfl (by decide)
  have hba : Below w2.heap.size w2 (w2.alloc (.cells #[.int .u8 68, .int .u8 80] 5 (2, 3))) := (Below.refl _ _).alloc (Nat.le_refl _) _
  refine (rput_any _ _ _ _ _ (ho2.rd.below hba) (by omega)).mono ?_
  rintro e w3 ⟨A3, c3, rfl, ho3, hb3⟩
  have hbb3 := below_next (below_next hbb2 hba) hb3
  have hmk3 := hmk.below hb3
  go_wp2_with fail
  have hs : Below w3.heap.size w3 (w3.alloc (.cells #[.slice (some ⟨w2.heap.size, 0, none⟩) 2 2, .slice A3 (3 + n + 4) c3] 22)) := (Below.refl _ _).alloc (Nat.le_refl _) _
  refine (join_as _ 2 2 (n + 9) [[68, 80], putL (innerL k l)] (wrapL k l) _ (by simp [wrapL]) (by rw [wrapL_len, Hl.out])
    (rdl_two' (by simp [World.cell?_alloc_new]) (by simp [World.cell?_alloc_new]) (hmk3.below hs) (ho3.rd.below hs)) (by omega)).mono ?_
  rintro e w4 ⟨A4, c4, rfl, ho4, hb4⟩
  have hbb4 := below_next (below_next hbb3 hs) hb4
  go_wp2_with fail
  go_ret2
  exact ⟨A4, c4, rfl, ho4.mono (below_next hbb3 hs).size, hbb4⟩

/-- the number of bytes -/
def numL (l : List UInt8) : Nat := l.foldl (fun n x => n * 256 + x.toNat) 0

end Go.Proofs.Ytackfepoomdpdaa
