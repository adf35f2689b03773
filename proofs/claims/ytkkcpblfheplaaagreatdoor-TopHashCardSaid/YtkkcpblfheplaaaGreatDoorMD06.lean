/- Contracts of functions that the laws of downpourtop reach, and plain facts; no condition beyond what each theorem states. -/
import Derived.Test.YtkkcpblfheplaaaGreatDoorMD05
import Derived.Laws.LoneSync
set_option maxRecDepth 100000
set_option maxHeartbeats 8000000
set_option linter.all false
namespace Go.Proofs.YtkkcpblfheplaaaGreatDoor
open Go.RowKit
def Row8 (w : World) (g : Nat) (l : List UInt8) : Prop := ∃ cur : Array Value,w.heap[g]? = some (.cells cur 5 (0,0)) ∧ cur.toList.take l.length = bys l
section
variable {w a : World} {g : Nat} {l : List UInt8}
theorem Row8.lt (h : Row8 w g l) : g < w.heap.size := by obtain ⟨_,h,_⟩ := h; exact lt_of_block h
theorem Row8.cell (h : Row8 w g l) {j : Nat} {x : UInt8} (hj : l[j]? = some x) : w.cell? ⟨g,j,none⟩ = some (.int .u8 x.toNat) := by
 obtain ⟨cur,h1,h2⟩ := h
 have hlt := (List.getElem?_eq_some_iff.1 hj).1
 rw [cell_of_row w g j _ _ _ h1]
 have := congrArg (fun x => x[j]?) h2
 simp only [List.getElem?_take,bys_get,hj,if_pos hlt,Option.map_some] at this
 simpa [by8] using this
theorem Row8.free (h : Row8 w g l) (j : Nat) : w.frozen? ⟨g,j,none⟩ = false := by
 obtain ⟨cur,h1,_⟩ := h
 simp [World.frozen?,h1]
theorem Row8.of (h : a.heap[g]? = w.heap[g]?) (k : Row8 w g l) : Row8 a g l := by
 obtain ⟨cur,h1,h2⟩ := k
 exact ⟨cur,h.trans h1,h2⟩
theorem Row8.below (h : Row8 w g l) (hb : Below w.heap.size w a) : Row8 a g l := .of (hb.block g h.lt) h
theorem Row8.fr {S : Nat → Prop} (h : Row8 w g l) (hb : Fr S w a) (hn : ¬ S g) : Row8 a g l := .of (hb.block g h.lt hn) h
theorem Row8.other (h : Row8 w g l) {p : Addr} (hp : g ≠ p.block) (v : Value) : Row8 (w.setCell p v) g l := .of (Below.heap_setCell _ _ _ _ hp) h
theorem Row8.set (h : Row8 w g l) (j : Nat) (x : UInt8) : Row8 (w.setCell ⟨g,j,none⟩ (.int .u8 x.toNat)) g (l.set j x) := by
 obtain ⟨cur,h1,h2⟩ := h
 have hb : Blk w g cur 5 := h1
 refine ⟨_,hb.set j _,?_⟩
 rw [List.length_set,Array.toList_setIfInBounds,List.take_set,h2]
 simp [bys,by8]
theorem Row8.rd (h : Row8 w g l) (hl : l.length ≤ maxLen) {n : Nat} (hn : l.length = n) : Rd w (some ⟨g,0,none⟩) n n l := by
 subst hn
 exact ⟨rfl,Nat.le_refl _,hl,fun _ => ⟨_,rfl,fun j x hx => by rw [addAt]; exact h.cell hx⟩⟩
theorem Row8.part (h : Row8 w g l) {n at_ k : Nat} (hn : l.length = n) (hl : n ≤ maxLen) (hk : at_ + k ≤ n) : Rd w (some ⟨g,at_,none⟩) k (n - at_) ((l.drop at_).take k) :=
 ⟨by rw [List.length_take,List.length_drop]; omega,by omega,by omega,fun _ => ⟨_,rfl,fun j x hx => by
   rw [List.getElem?_take] at hx
   split at hx
   · rw [List.getElem?_drop] at hx
     have := h.cell hx
     unfold Addr.add
     split
     · rename_i hj; subst hj; simpa [by8] using this
     · exact this
   · cases hx⟩⟩
theorem Row8.ne {cs : Array Value} {t : TypeId} {g' : Nat} (h : Row8 w g l) (h' : Blk w g' cs t) (ht : t ≠ 5) : g ≠ g' := by
 obtain ⟨cur,h1,_⟩ := h
 exact Blk.ne (show Blk w g cur 5 from h1) h' (Ne.symm ht)
end
def flashC (b : Value) (er : Nat → Int) (wear left steps : Int) : Array Value :=
 #[b,.int .i64 (er 0),.int .i64 (er 1),.int .i64 (er 2),.int .i64 (er 3),.int .i64 (er 4),.int .i64 (er 5),.int .i64 (er 6),.int .i64 (er 7),.int .i64 (er 8),.int .i64 (er 9),.int .i64 (er 10),.int .i64 (er 11),.int .i64 (er 12),.int .i64 (er 13),
   .int .i64 wear,.bool false,.bool false,.int .i64 left,.int .i64 0,.int .i64 steps]
def FlashAt (w : World) (f bb : Nat) (l : List UInt8) (er : Nat → Int) (wear : Int) : Prop :=
 (∃ left steps,Blk w f (flashC (.slice (some ⟨bb,0,none⟩) 3584 3584) er wear left steps) 130) ∧ Row8 w bb l ∧ l.length = 3584
theorem aadd_any (f i : Nat) (x d : Int) (w : World) (hc : w.cell? ⟨f,i,none⟩ = some (.int .i64 x)) (hz : w.frozen? ⟨f,i,none⟩ = false) :
   Calls Tryz.prog 155 #[.pointer (some ⟨f,i,none⟩),.int .i64 d] w fun e w' => e = .returned (.int .i64 (IntKind.i64.wrap (x + d))) ∧ w' = w.setCell ⟨f,i,none⟩ (.int .i64 (IntKind.i64.wrap (x + d))) := by
 have hadd := run_call_add (P := Tryz.prog) Tryz.func205 (by kernel_rfl) (by kernel_rfl) (by kernel_rfl) .i64 (by kernel_rfl) (y := d) (s := IntKind.i64.wrap (x + d)) hc hz (by simp [go_sem])
 generalize IntKind.i64.wrap (x + d) = y at *
 go_enter Tryz.func155,Tryz.ntmps155
 go_wp2_with fail
 go_ret
 exact ⟨rfl,rfl⟩
theorem aload_any (f i : Nat) (x : Int) (w : World) (hc : w.cell? ⟨f,i,none⟩ = some (.int .i64 x)) :
   Calls Tryz.prog 216 #[.pointer (some ⟨f,i,none⟩)] w fun e w' => e = .returned (.int .i64 x) ∧ w' = w := by
 have hl := run_call_load (P := Tryz.prog) Tryz.func235 (by kernel_rfl) (by kernel_rfl) (by kernel_rfl) .i64 (by kernel_rfl) hc
 go_enter Tryz.func216,Tryz.ntmps216
 go_wp2_with fail
 go_ret
 exact ⟨rfl,rfl⟩
theorem step_any (f : Nat) (b : Value) (er : Nat → Int) (wear left steps : Int) (w : World) (h : Blk w f (flashC b er wear left steps) 130) :
   Calls Tryz.prog 95 #[.pointer (some ⟨f,0,none⟩)] w fun e w' => e = .returned (.bool true) ∧ (∃ left' steps',Blk w' f (flashC b er wear left' steps') 130) ∧ Fr (· = f) w w' := by
 have c20 := h.cell (i := 20) (v := .int .i64 steps) rfl
 have f20 := h.free 20
 go_enter Tryz.func95,Tryz.ntmps95
 go_wp2_with fail
 refine (aadd_any f 20 steps 1 w c20 f20).mono ?_
 rintro e w' ⟨rfl,rfl⟩
 generalize IntKind.i64.wrap (steps + 1) = y at *
 have hB1 : Blk (w.setCell ⟨f,20,none⟩ (.int .i64 y)) f (flashC b er wear left y) 130 := h.set 20 _
 have hF1 : Fr (· = f) w (w.setCell ⟨f,20,none⟩ (.int .i64 y)) := Fr.set (S := (· = f)) (Fr.refl _ _) (p := ⟨f,20,none⟩) (fun _ => rfl) _
 generalize w.setCell ⟨f,20,none⟩ (.int .i64 y) = w1 at *
 clear c20 f20 h
 have c18 := hB1.cell (i := 18) (v := .int .i64 left) rfl
 have f18 := hB1.free 18
 have hB2 : ∀ z,Blk (w1.setCell ⟨f,18,none⟩ (.int .i64 z)) f (flashC b er wear z y) 130 := fun z => hB1.set 18 _
 have hF2 : ∀ z,Fr (· = f) w (w1.setCell ⟨f,18,none⟩ (.int .i64 z)) := fun z => Fr.set (S := (· = f)) hF1 (p := ⟨f,18,none⟩) (fun _ => rfl) _
 go_upto_region 3 with fail
 generalize wrap64 (left - 1) = z
 have hB3 := hB2 z
 have hF3 := hF2 z
 generalize w1.setCell ⟨f,18,none⟩ (.int .i64 z) = w2 at *
 clear hB2 hF2 c18 f18 hB1 hF1
 have c16 := hB3.cell (i := 16) (v := .bool false) rfl
 have c17 := hB3.cell (i := 17) (v := .bool false) rfl
 go_wp2_with fail
 go_ret
 exact ⟨rfl,⟨z,y,hB3⟩,hF3⟩
theorem ready_any (f at_ n : Nat) (b : Value) (er : Nat → Int) (wear left steps : Int) (w : World) (h : Blk w f (flashC b er wear left steps) 130) (hn : at_ + n ≤ 3584) :
   Calls Tryz.prog 94 #[.pointer (some ⟨f,0,none⟩),.int .i64 at_,.int .i64 n] w fun e w' => e = .returned (.int .i64 0) ∧ w = w' := by
 have c16 := h.cell (i := 16) (v := .bool false) rfl
 have d1 : decide ((n : Int) < 0) = false := by simp
 have d2 : decide (3584 < (n : Int)) = false := by simp; omega
 have d3 : decide ((at_ : Int) < 0) = false := by simp
 have d4 : decide (3584 - (n : Int) < (at_ : Int)) = false := by simp; omega
 have hn' : (n : Int) ≤ 3584 := by omega
 clear h
 go_enter Tryz.func94,Tryz.ntmps94
 go_wp2_with fail
 go_ret
 exact ⟨rfl,rfl⟩
theorem FlashAt.blk {w : World} {f bb : Nat} {l : List UInt8} {er : Nat → Int} {wear : Int} (h : FlashAt w f bb l er wear) : ∃ left steps,Blk w f (flashC (.slice (some ⟨bb,0,none⟩) 3584 3584) er wear left steps) 130 := h.1
theorem FlashAt.below {w a : World} {f bb : Nat} {l : List UInt8} {er : Nat → Int} {wear : Int} (h : FlashAt w f bb l er wear) (hb : Below w.heap.size w a) : FlashAt a f bb l er wear := by
 obtain ⟨⟨left,steps,h1⟩,h2,h3⟩ := h
 exact ⟨⟨left,steps,h1.below hb⟩,h2.below hb,h3⟩
theorem FlashAt.fr {w a : World} {f bb : Nat} {l : List UInt8} {er : Nat → Int} {wear : Int} {S : Nat → Prop} (h : FlashAt w f bb l er wear) (hb : Fr S w a) (hf : ¬ S f) (hbb : ¬ S bb) : FlashAt a f bb l er wear := by
 obtain ⟨⟨left,steps,h1⟩,h2,h3⟩ := h
 exact ⟨⟨left,steps,h1.fr hb hf⟩,h2.fr hb hbb,h3⟩
theorem FlashAt.ne {w : World} {f bb : Nat} {l : List UInt8} {er : Nat → Int} {wear : Int} (h : FlashAt w f bb l er wear) : bb ≠ f := by
 obtain ⟨⟨left,steps,h1⟩,h2,h3⟩ := h
 exact h2.ne h1 (by decide)
theorem fread_any (f bb at_ n : Nat) (l : List UInt8) (er : Nat → Int) (wear : Int) (w : World) (h : FlashAt w f bb l er wear) (hn : at_ + n ≤ 3584) :
   Calls Tryz.prog 103 #[.pointer (some ⟨f,0,none⟩),.int .i64 at_,.int .i64 n] w fun e w' => ∃ A c,e = .returned (.tuple #[.slice A n c,.int .i64 0]) ∧ Own w' w.heap.size 5 A n c ((l.drop at_).take n) ∧ Below w.heap.size w w' := by
 obtain ⟨⟨left,steps,hB⟩,hR,hl⟩ := h
 have c0 := hB.cell (i := 0) (v := .slice (some ⟨bb,0,none⟩) 3584 3584) rfl
 have hp := hR.part hl (by decide) hn
 have b1 : (0 : Int) ≤ (at_ : Int) := by omega
 have b2 : (at_ : Int) + (n : Int) ≤ 3584 := by omega
 have b3 : (0 : Int) ≤ (n : Int) := by omega
 have b4 : (at_ : Int) ≤ (at_ : Int) + (n : Int) := by omega
 have e1 : ((at_ : Int) + (n : Int)).toNat = at_ + n := by omega
 have e2 : ((at_ : Int) + (n : Int) - (at_ : Int)) = (n : Int) := by omega
 go_enter Tryz.func103,Tryz.ntmps103
 go_wp2_with fail
 refine (ready_any f at_ n _ er wear left steps w hB hn).mono ?_
 rintro e w1 ⟨rfl,rfl⟩
 by_cases hc : at_ = 3584
 · have hn0 : n = 0 := by omega
   subst hn0
   subst hc
   go_wp2_with fail
   refine (clone_any (some ⟨bb,0,none⟩) 0 0 [] w (Rd.nil _ _ (by decide)) (by omega)).mono ?_
   rintro e w1 ⟨A,c,rfl,ho,hb⟩
   go_wp2_with fail
   go_ret2
   exact ⟨A,c,rfl,by simpa using ho,hb⟩
 · go_wp2_with fail
   refine (clone_any (some ⟨bb,at_,none⟩) n (3584 - at_) _ w hp (by omega)).mono ?_
   rintro e w1 ⟨A,c,rfl,ho,hb⟩
   go_wp2_with fail
   go_ret2
   exact ⟨A,c,rfl,ho,hb⟩
theorem fbytes_any (f bb : Nat) (l : List UInt8) (er : Nat → Int) (wear : Int) (w : World) (h : FlashAt w f bb l er wear) :
   Calls Tryz.prog 42 #[.pointer (some ⟨f,0,none⟩)] w fun e w' => ∃ A c,e = .returned (.slice A 3584 c) ∧ Own w' w.heap.size 5 A 3584 c l ∧ Below w.heap.size w w' := by
 obtain ⟨⟨left,steps,hB⟩,hR,hl⟩ := h
 have c0 := hB.cell (i := 0) (v := .slice (some ⟨bb,0,none⟩) 3584 3584) rfl
 have hp := hR.rd (by rw [hl]; decide) hl
 go_enter Tryz.func42,Tryz.ntmps42
 go_wp2_with fail
 refine (clone_any (some ⟨bb,0,none⟩) 3584 3584 _ w hp (by omega)).mono ?_
 rintro e w1 ⟨A,c,rfl,ho,hb⟩
 go_wp2_with fail
 go_ret
 exact ⟨A,c,rfl,ho,hb⟩
theorem down_any (f bb : Nat) (l : List UInt8) (er : Nat → Int) (wear : Int) (w : World) (h : FlashAt w f bb l er wear) :
   Calls Tryz.prog 64 #[.pointer (some ⟨f,0,none⟩)] w fun e w' => e = .returned (.bool false) ∧ w = w' := by
 obtain ⟨⟨left,steps,hB⟩,hR,hl⟩ := h
 have c16 := hB.cell (i := 16) (v := .bool false) rfl
 go_enter Tryz.func64,Tryz.ntmps64
 go_wp2_with fail
 go_ret
 exact ⟨rfl,rfl⟩
def progN (l : List UInt8) (at_ : Nat) (b : List UInt8) : Nat → List UInt8
 | 0 => l
 | k + 1 => (progN l at_ b k).set (at_ + k) ((progN l at_ b k).getD (at_ + k) 0 &&& b.getD k 0)
theorem progN_len (l : List UInt8) (at_ : Nat) (b : List UInt8) : ∀ k,(progN l at_ b k).length = l.length := by
 intro k
 induction k with
 | zero => rfl
 | succ k ih => simp [progN,ih]
theorem and_u8 (a b : UInt8) : bits .and .u8 (a.toNat : Int) (b.toNat : Int) = ((a &&& b).toNat : Int) := by
 rw [u8_and_nat _ _ a.toNat_lt b.toNat_lt,UInt8.toNat_and]
theorem program_any (f bb at_ m d : Nat) (X : Option Addr) (b l : List UInt8) (er : Nat → Int) (wear : Int) (w : World) (h : FlashAt w f bb l er wear) (hr : Rd w X m d b) (hm : at_ + m ≤ 3584)
   (hX : ∀ ad,X = some ad → ad.block ≠ f ∧ ad.block ≠ bb) :
   Calls Tryz.prog 41 #[.pointer (some ⟨f,0,none⟩),.int .i64 at_,.slice X m d] w fun e w' => e = .returned (.int .i64 0) ∧ FlashAt w' f bb (progN l at_ b m) er wear ∧ Fr (fun g => g = f ∨ g = bb) w w' := by
 obtain ⟨left,steps,hB⟩ := h.1
 have hm' : (m : Int) ≤ 3584 := by omega
 have hat' : (at_ : Int) ≤ 3584 := by omega
 go_enter Tryz.func41,Tryz.ntmps41
 go_wp2_with fail
 refine (ready_any f at_ m _ er wear left steps w hB hm).mono ?_
 rintro e w1 ⟨rfl,rfl⟩
 clear hB
 go_wp2_with fail
 go_loopw [20] (fun v wr => ∃ k : Nat,k ≤ m ∧ v = .int .i64 (k : Int) ∧ FlashAt wr f bb (progN l at_ b k) er wear ∧ Fr (fun g => g = f ∨ g = bb) w wr) (fun v _ => m - (intOf v).toNat)
 case atStart => exact ⟨0,Nat.zero_le _,rfl,h,Fr.refl _ _⟩
 case round =>
   clear h
   obtain ⟨k,hk,rfl,h,hF⟩ := hrel
   by_cases hlt : k < m
   · have hrw := hr.fr hF (fun _ ad hA hq => by
       rcases hq with hq | hq
       · exact (hX ad hA).1 hq
       · exact (hX ad hA).2 hq)
     obtain ⟨ad,x,rfl,hx,hcx⟩ := hrw.at_ hlt
     have hlt' : (k : Int) < (m : Int) := by omega
     have hk0 : (0 : Int) ≤ (k : Int) := by omega
     have hxb := hX ad rfl
     go_upto_region 7 with fail
     have hne := h.ne
     obtain ⟨⟨left,steps,hB⟩,hR,hl⟩ := h
     have hl0 := progN_len l at_ b k
     go_wp2_with fail
     refine (step_any f _ er wear left steps wr hB).mono ?_
     rintro e w1 ⟨rfl,⟨left',steps',hB1⟩,hF1⟩
     have hR1 := hR.fr hF1 hne
     have hFF : Fr (fun g => g = f ∨ g = bb) w w1 := hF.step hF1 (fun g _ hg => .inl hg)
     have c0 := hB1.cell (i := 0) (v := .slice (some ⟨bb,0,none⟩) 3584 3584) rfl
     have hj : at_ + k < (progN l at_ b k).length := by omega
     have hy : (progN l at_ b k)[at_ + k]? = some ((progN l at_ b k).getD (at_ + k) 0) := by rw [List.getD_eq_getElem?_getD,List.getElem?_eq_getElem hj]; rfl
     have cb := hR1.cell hy
     have fb := hR1.free (at_ + k)
     have hset := hR1.set (at_ + k) ((progN l at_ b k).getD (at_ + k) 0 &&& x)
     have hP : Hid (progN l at_ b (k + 1) = (progN l at_ b k).set (at_ + k) ((progN l at_ b k).getD (at_ + k) 0 &&& x)) := hide (by
       show List.set _ _ (_ &&& b.getD k 0) = _
       rw [List.getD_eq_getElem?_getD (l := b),hx]
       rfl)
     have hand := and_u8 ((progN l at_ b k).getD (at_ + k) 0) x
     rw [← hP.out] at hset
     have Hset := hide hset
     generalize (progN l at_ b k).getD (at_ + k) 0 = y at *
     have bq : (at_ : Int) + (k : Int) < 3584 := by omega
     have bq0 : (0 : Int) ≤ (at_ : Int) + (k : Int) := by omega
     have eq1 : ((at_ : Int) + (k : Int)).toNat = at_ + k := by omega
     have hl1 : Hid ((progN l at_ b (k + 1)).length = 3584) := hide (by rw [progN_len]; omega)
     clear hset hx hy hcx hrw hr hB hR hF1
     go_wp2_with fail
     go_roundw
     case rel =>
       exact ⟨k + 1,by omega,by go_num,⟨⟨left',steps',hB1.other (a := ⟨bb,at_ + k,none⟩) (Ne.symm hne) _⟩,Hset.out,hl1.out⟩,Fr.set (S := fun g => g = f ∨ g = bb) hFF (p := ⟨bb,at_ + k,none⟩) (fun _ => .inr rfl) _⟩
     case measure => simp [intOf]; omega
   · obtain rfl : m = k := by omega
     go_wp2_with fail
     go_ret
     exact ⟨rfl,h,hF⟩
theorem cellat_any (s : Nat) (w : World) (hs : s < 2) : Calls Tryz.prog 122 #[.int .i64 s] w fun e w' => e = .returned (.int .i64 ((s * 256 : Nat) : Int)) ∧ w = w' := by
 have h1 : (s : Int) < 2 := by omega
 go_enter Tryz.func122,Tryz.ntmps122
 go_wp2_with fail
 go_ret
 exact ⟨by first | rfl | (congr 2; omega),rfl⟩
theorem cellready_any (f bb : Nat) (l : List UInt8) (er : Nat → Int) (wear : Int) (w : World) (h : FlashAt w f bb l er wear) :
   Calls Tryz.prog 96 #[.pointer (some ⟨f,0,none⟩)] w fun e w' => e = .returned (.int .i64 0) ∧ Below w.heap.size w w' := by
 go_enter Tryz.func96,Tryz.ntmps96
 go_wp2_with fail
 refine Calls.mono (show Calls Tryz.prog 103 #[.pointer (some ⟨f,0,none⟩),.int .i64 0,.int .i64 0] w _ from fread_any f bb 0 0 l er wear w h (by omega)) ?_
 rintro e w1 ⟨A,c,rfl,ho,hb⟩
 go_wp2_with fail
 go_ret
 exact ⟨rfl,hb⟩
def num4 (a b c d : UInt8) : BitVec 32 := CrcP.bw a <<< 24 ||| CrcP.bw b <<< 16 ||| CrcP.bw c <<< 8 ||| CrcP.bw d
def q8 (q : List UInt8) (i : Nat) : UInt8 := q.getD i 0
theorem V_bwI (a : UInt8) : (a.toNat : Int) = V (CrcP.bw a) := by unfold V; rw [CrcP.bw_toNat]
theorem V_num4 (a b c d : UInt8) : bits .or .u32 (bits .or .u32 (bits .or .u32 ((a.toNat : Int) * 16777216) ((b.toNat : Int) * 65536)) ((c.toNat : Int) * 256)) (d.toNat : Int) = V (num4 a b c d) := by
 have ha := a.toNat_lt
 have hb := b.toNat_lt
 have hc := c.toNat_lt
 have e1 : (a.toNat : Int) * 16777216 = V (CrcP.bw a <<< 24) := by
   rw [← V_shl,← V_bwI,show (2 : Int) ^ 24 = 16777216 by decide]; omega
 have e2 : (b.toNat : Int) * 65536 = V (CrcP.bw b <<< 16) := by
   rw [← V_shl,← V_bwI,show (2 : Int) ^ 16 = 65536 by decide]; omega
 have e3 : (c.toNat : Int) * 256 = V (CrcP.bw c <<< 8) := by
   rw [← V_shl,← V_bwI,show (2 : Int) ^ 8 = 256 by decide]; omega
 have e4 := V_bwI d
 generalize (a.toNat : Int) * 16777216 = A at *
 generalize (b.toNat : Int) * 65536 = B at *
 generalize (c.toNat : Int) * 256 = C at *
 subst e1 e2 e3
 rw [e4,V_or,V_or,V_or]
 rfl
def copN (q : List UInt8) : Nat := (q8 q 4).toNat * 256 + (q8 q 5).toNat
def wholeC (q : List UInt8) : Option (BitVec 32 × List UInt8) :=
 if 245 < copN q then none else if q8 q (copN q + 10) ≠ 0 then none else if putL (q.take (copN q + 6)) ≠ q.take (copN q + 10) then none
 else some (num4 (q8 q 0) (q8 q 1) (q8 q 2) (q8 q 3),(q.take (copN q + 6)).drop 6)
def copC (x : BitVec 32) (h : Value) : Array Value := #[.int .u32 (V x),h]
theorem size165 (x : BitVec 32) (h : Value) : (Tryz.prog.info? 165).map (·.size) = some (copC x h).size := by
 have : (Tryz.prog.info? 165).map (·.size) = some 2 := by kernel_rfl
 rw [this]; rfl
theorem one165 (x : BitVec 32) (A : Option Addr) (n c : Nat) : (copC x (.slice A n c)).all (·.oneCell') = true := by simp [copC,Value.oneCell']
theorem i64_pack (x y : UInt8) : bits .or .i64 ((x.toNat : Int) * 256) (y.toNat : Int) = ((x.toNat * 256 + y.toNat : Nat) : Int) := by
 have hx := x.toNat_lt
 have hy := y.toNat_lt
 show IntKind.i64.wrap ((BitVec.ofInt 64 ((x.toNat : Int) * 256) ||| BitVec.ofInt 64 (y.toNat : Int)).toNat : Int) = _
 have e1 : ((x.toNat : Int) * 256) = ((x.toNat * 256 : Nat) : Int) := by omega
 rw [e1,BitVec.ofInt_natCast,BitVec.ofInt_natCast,BitVec.toNat_or,BitVec.toNat_ofNat,BitVec.toNat_ofNat,Nat.mod_eq_of_lt (by omega),Nat.mod_eq_of_lt (by omega),or_by8,IntKind.wrap_i64]
 omega
theorem whole_any (f bb s : Nat) (l q : List UInt8) (er : Nat → Int) (wear : Int) (w : World) (h : FlashAt w f bb l er wear) (hs : s < 2) (hq : (l.drop (s * 256)).take 256 = q) :
   Calls Tryz.prog 156 #[.pointer (some ⟨f,0,none⟩),.int .i64 s] w fun e w' =>
     (wholeC q = none ∧ e = .returned (.tuple #[.agg (copC 0#32 (.slice none 0 0)),.bool false]) ∨
       ∃ x b A n c,wholeC q = some (x,b) ∧ e = .returned (.tuple #[.agg (copC x (.slice A n c)),.bool true]) ∧ Rd w' A n c b ∧ (0 < n → ∀ ad,A = some ad → w.heap.size ≤ ad.block)) ∧ Below w.heap.size w w' := by
 have hz0 : Blk (w.alloc (.cells (copC 0#32 (.slice none 0 0)) 165)) w.heap.size (copC 0#32 (.slice none 0 0)) 165 := Blk.new _ _ _
 have hB0 : Below w.heap.size w (w.alloc (.cells (copC 0#32 (.slice none 0 0)) 165)) := (Below.refl _ _).alloc (Nat.le_refl _) _
 have hszz := size165 0#32 (.slice none 0 0)
 have hfl := h.below hB0
 have hql : q.length = 256 := by rw [← hq,List.length_take,List.length_drop,h.2.2]; omega
 have Hq := hide hq
 have hcn : Hid (wholeC q = if 245 < copN q then none else if q8 q (copN q + 10) ≠ 0 then none else if putL (q.take (copN q + 6)) ≠ q.take (copN q + 10) then none
   else some (num4 (q8 q 0) (q8 q 1) (q8 q 2) (q8 q 3),(q.take (copN q + 6)).drop 6)) := hide rfl
 clear hq h
 go_enter Tryz.func156,Tryz.ntmps156
 go_wp2_with fail
 refine (cellat_any s _ hs).mono ?_
 rintro e w' ⟨rfl,rfl⟩
 go_wp2_with fail
 refine Calls.mono (show Calls Tryz.prog 103 #[.pointer (some ⟨f,0,none⟩),.int .i64 ((s * 256 : Nat) : Int),.int .i64 ((256 : Nat) : Int)] (w.alloc (.cells (copC 0#32 (.slice none 0 0)) 165)) _ from fread_any f bb (s * 256) 256 l er wear _ hfl (by omega)) ?_
 rintro e w1 ⟨A,c,rfl,ho,hb1⟩
 rw [Hq.out] at ho
 have hz1 := hz0.below hb1
 have hB1 := below_next hB0 hb1
 have hrd := ho.rd
 have hcap := hrd.2.1
 obtain ⟨g,rfl,_,_⟩ := ho.form (by omega)
 have hget : ∀ i,i < 256 → w1.cell? ⟨g,i,none⟩ = some (.int .u8 (q8 q i).toNat) := fun i hi => ho.cell (by
   unfold q8
   rw [List.getD_eq_getElem?_getD,List.getElem?_eq_getElem (by omega)]; rfl)
 have c4 := hget 4 (by omega)
 have c5 := hget 5 (by omega)
 have hpk := i64_pack (q8 q 4) (q8 q 5)
 have b4 := (q8 q 4).toNat_lt
 have b5 := (q8 q 5).toNat_lt
 clear hfl hb1 ho
 go_upto_region 4 with fail
 have hpw : bits .or .i64 (wrap64 (wrap64 ((q8 q 4).toNat : Int) * 256)) (wrap64 ((q8 q 5).toNat : Int)) = ((copN q : Nat) : Int) := by
   have e1 : wrap64 ((q8 q 4).toNat : Int) = ((q8 q 4).toNat : Int) := by unfold wrap64; omega
   have e2 : wrap64 ((q8 q 5).toNat : Int) = ((q8 q 5).toNat : Int) := by unfold wrap64; omega
   have e3 : wrap64 (((q8 q 4).toNat : Int) * 256) = ((q8 q 4).toNat : Int) * 256 := by unfold wrap64; omega
   rw [e1,e2,e3,hpk]
   rfl
 have Hpw := hide hpw
 have Hpk := hide hpk
 clear hpk hpw
 go_quiet (fail)
 go_upto_region 5 with fail
 have Hcp : Hid ((((q8 q 4).toNat * 256 + (q8 q 5).toNat : Nat) : Int) = ((copN q : Nat) : Int)) := hide rfl
 first | rw [Hpw.out] | rw [Hpk.out,Hcp.out]
 clear Hpw Hpk Hcp c4 c5 b4 b5
 obtain ⟨n,hn⟩ : ∃ n,copN q = n := ⟨_,rfl⟩
 rw [hn] at hcn ⊢
 have Hn := hide hn
 clear hn
 change Code.wp _ _ _ _ (w1.drewN nq)
 have hz2 : Blk (w1.drewN nq) w.heap.size (copC 0#32 (.slice none 0 0)) 165 := hz1
 have hB2 : Below w.heap.size w (w1.drewN nq) := below_drewN hB1 nq
 have hrd2 : Rd (w1.drewN nq) (some ⟨g,0,none⟩) 256 c q := hrd
 have hget2 : ∀ i,i < 256 → (w1.drewN nq).cell? ⟨g,i,none⟩ = some (.int .u8 (q8 q i).toNat) := hget
 generalize w1.drewN nq = w2 at *
 clear hz1 hB1 hrd hget
 by_cases h245 : 245 < n
 · have hE : Hid (wholeC q = none) := hide (by rw [hcn.out,if_pos h245])
   have d1 : decide (245 < (n : Int)) = true := by simp; omega
   clear hcn h245 hget2
   go_wp2_with (first
     | ((with_reducible refine at_build ?_); refine wpList_build_as rfl 165 #[] rfl (copC 0#32 (.slice none 0 0)) (by kernel_rfl) ?_)
     | ((with_reducible refine at_store ?_); refine wpList_store_row rfl 165 (.tmp 4) (.tmp 44) rfl w.heap.size (copC 0#32 (.slice none 0 0)) rfl rfl 165 (copC 0#32 (.slice none 0 0)) hz2 hszz rfl (one165 _ _ _ _) ?_))
   refine bodyPost_ret (results_cell_slot Tryz.results156 _ _ w.heap.size 165 _ (0,0) _ _ rfl rfl (setRow_heap _ _ _ _ _ _ hz2) Tryz.underlying165 rfl hszz) rfl ?_
   exact ⟨.inl ⟨hE.out,rfl⟩,below_setRow hB2 (Nat.le_refl _) _⟩
 · have d1 : decide (245 < (n : Int)) = false := by simp; omega
   have c10 := hget2 (n + 10) (by omega)
   have x1 : ((6 : Int) + (n : Int) + 5 - 1).toNat = n + 10 := by omega
   have x2 : (0 : Int) ≤ (6 : Int) + (n : Int) + 5 - 1 := by omega
   have x3 : (6 : Int) + (n : Int) + 5 - 1 < 256 := by omega
   by_cases h0 : q8 q (n + 10) = 0
   · have d2 : (((q8 q (n + 10)).toNat : Int) != 0) = false := by rw [h0]; rfl
     have hs10 := hrd2.hi (k := n + 10) (by omega)
     have e4 : (q.take (n + 10)).take (n + 10 - 4) = q.take (n + 6) := by rw [List.take_take]; congr 1; omega
     have hnn : (n : Int) ≤ 245 := by omega
     have x4 : (6 : Int) + (n : Int) + 5 - 1 ≤ (c : Int) := by omega
     by_cases hput : putL (q.take (n + 6)) = q.take (n + 10)
     · have hE : Hid (wholeC q = some (num4 (q8 q 0) (q8 q 1) (q8 q 2) (q8 q 3),(q.take (n + 6)).drop 6)) := hide (by
         rw [hcn.out,if_neg h245,if_neg (by simp [h0]),if_neg (by simp [hput])])
       have hyes := right_yes (some ⟨g,0,none⟩) (n + 10) c (q.take (n + 10)) w2 hs10 (by omega) (by omega) (by rw [e4]; exact hput)
       rw [e4,show n + 10 - 4 = n + 6 by omega] at hyes
       have k0 := hget2 0 (by omega)
       have k1 := hget2 1 (by omega)
       have k2 := hget2 2 (by omega)
       have k3 := hget2 3 (by omega)
       clear hcn hput hget2
       generalize q8 q (n + 10) = z at *
       go_wp2_with fail
       refine hyes.mono ?_
       rintro e w3 ⟨A3,c3,rfl,ho3,hb3⟩
       have hz3 := hz2.below hb3
       have hB3 := below_next hB2 hb3
       have l0 := hb3.cell (World.block_lt_of_cell? w2 _ k0) |>.trans k0
       have l1 := hb3.cell (World.block_lt_of_cell? w2 _ k1) |>.trans k1
       have l2 := hb3.cell (World.block_lt_of_cell? w2 _ k2) |>.trans k2
       have l3 := hb3.cell (World.block_lt_of_cell? w2 _ k3) |>.trans k3
       have hc3 : (6 : Int) ≤ (c3 : Int) := by have := ho3.rd.2.1; omega
       have y0 := (q8 q 0).toNat_lt
       have y1 := (q8 q 1).toNat_lt
       have y2 := (q8 q 2).toNat_lt
       have y3 := (q8 q 3).toNat_lt
       have hlt2 := hz2.lt
       clear k0 k1 k2 k3 hz2 hB2 hb3
       go_upto_region 10 with fail
       go_quiet (fail)
       go_upto_region 11 with fail
       rw [V_num4]
       generalize num4 (q8 q 0) (q8 q 1) (q8 q 2) (q8 q 3) = X at *
       have hrd3 := ho3.rd
       by_cases hc6 : c3 = 6
       · subst hc6
         obtain rfl : n = 0 := by have := hrd3.2.1; omega
         have hlo := hrd3.lo_eq (k := 6) (by omega) rfl
         have hsz := size165 X (.slice A3 0 0)
         go_wp2_with (first
           | ((with_reducible refine at_store ?_); refine wpList_store_row rfl 165 (.tmp 4) (.tmp 83) rfl w.heap.size (copC X (.slice A3 0 0)) rfl rfl 165 (copC 0#32 (.slice none 0 0)) hz3 hsz rfl (one165 _ _ _ _) ?_))
         refine bodyPost_ret (results_cell_slot Tryz.results156 _ _ w.heap.size 165 _ (0,0) _ _ rfl rfl (setRow_heap _ _ _ _ _ _ hz3) Tryz.underlying165 rfl hsz) rfl ?_
         exact ⟨.inr ⟨X,_,A3,0,0,hE.out,rfl,by
           have h0 : (q.take (0 + 6)).drop 6 = [] := List.eq_nil_of_length_eq_zero (by rw [List.length_drop,List.length_take]; omega)
           rw [h0]
           exact Rd.nil _ _ (by decide),fun h => absurd h (by omega)⟩,below_setRow (below_drewN hB3 _) (Nat.le_refl _) _⟩
       · have hlo := hrd3.lo_ne (k := 6) (by omega) hc6
         have hown := ho3
         obtain ⟨g3,rfl,hg3a,hg3⟩ := ho3.form (by omega)
         rw [Nat.add_sub_cancel,Option.map_some,addAt] at hlo
         have hsz := size165 X (.slice (some ⟨g3,6,none⟩) n (c3 - 6))
         go_wp2_with (first
           | ((with_reducible refine at_store ?_); refine wpList_store_row rfl 165 (.tmp 4) (.tmp 83) rfl w.heap.size (copC X (.slice (some ⟨g3,6,none⟩) n (c3 - 6))) rfl rfl 165 (copC 0#32 (.slice none 0 0)) hz3 hsz rfl (one165 _ _ _ _) ?_))
         refine bodyPost_ret (results_cell_slot Tryz.results156 _ _ w.heap.size 165 _ (0,0) _ _ rfl rfl (setRow_heap _ _ _ _ _ _ hz3) Tryz.underlying165 rfl hsz) rfl ?_
         exact ⟨.inr ⟨X,_,_,n,c3 - 6,hE.out,rfl,Rd.fr (S := (· = w.heap.size)) (hlo.drewN nq) (fr_setRow _ _ _) (fun _ ad' hA he => by
           cases hA
           have : g3 = w.heap.size := he
           omega),fun _ ad' hA => by
           cases hA
           show w.heap.size ≤ g3
           omega⟩,below_setRow (below_drewN hB3 _) (Nat.le_refl _) _⟩
     · have hE : Hid (wholeC q = none) := hide (by rw [hcn.out,if_neg h245,if_neg (by simp [h0]),if_pos hput])
       have hno := right_no (some ⟨g,0,none⟩) (n + 10) c (q.take (n + 10)) w2 hs10 (by omega) (by omega) (by rw [e4]; exact hput)
       clear hcn hput hget2
       generalize q8 q (n + 10) = z at *
       go_wp2_with fail
       refine hno.mono ?_
       rintro e w3 ⟨rfl,hb3⟩
       have hz3 := hz2.below hb3
       have hB3 := below_next hB2 hb3
       go_wp2_with (first
         | ((with_reducible refine at_build ?_); refine wpList_build_as rfl 165 #[] rfl (copC 0#32 (.slice none 0 0)) (by kernel_rfl) ?_)
         | ((with_reducible refine at_store ?_); refine wpList_store_row rfl 165 (.tmp 4) (.tmp 57) rfl w.heap.size (copC 0#32 (.slice none 0 0)) rfl rfl 165 (copC 0#32 (.slice none 0 0)) hz3 hszz rfl (one165 _ _ _ _) ?_))
       refine bodyPost_ret (results_cell_slot Tryz.results156 _ _ w.heap.size 165 _ (0,0) _ _ rfl rfl (setRow_heap _ _ _ _ _ _ hz3) Tryz.underlying165 rfl hszz) rfl ?_
       exact ⟨.inl ⟨hE.out,rfl⟩,below_setRow hB3 (Nat.le_refl _) _⟩
   · have hE : Hid (wholeC q = none) := hide (by rw [hcn.out,if_neg h245,if_pos h0])
     have d2 : (((q8 q (n + 10)).toNat : Int) != 0) = true := by
       simp
       intro h3
       exact h0 (UInt8.toNat_inj.1 h3)
     clear hcn h0 hget2
     generalize q8 q (n + 10) = z at *
     go_wp2_with (first
       | ((with_reducible refine at_build ?_); refine wpList_build_as rfl 165 #[] rfl (copC 0#32 (.slice none 0 0)) (by kernel_rfl) ?_)
       | ((with_reducible refine at_store ?_); refine wpList_store_row rfl 165 (.tmp 4) (.tmp 44) rfl w.heap.size (copC 0#32 (.slice none 0 0)) rfl rfl 165 (copC 0#32 (.slice none 0 0)) hz2 hszz rfl (one165 _ _ _ _) ?_))
     refine bodyPost_ret (results_cell_slot Tryz.results156 _ _ w.heap.size 165 _ (0,0) _ _ rfl rfl (setRow_heap _ _ _ _ _ _ hz2) Tryz.underlying165 rfl hszz) rfl ?_
     exact ⟨.inl ⟨hE.out,rfl⟩,below_setRow hB2 (Nat.le_refl _) _⟩
def nextC (st : Option (Nat × BitVec 32 × List UInt8)) (i : Nat) (r : Option (BitVec 32 × List UInt8)) : Option (Nat × BitVec 32 × List UInt8) :=
 match r with
 | none => st
 | some (x,b) => match st with
   | none => some (i,x,b)
   | some (j,y,d) => if y.toNat < x.toNat then some (i,x,b) else some (j,y,d)
def sec (l : List UInt8) (s : Nat) : List UInt8 := (l.drop (s * 256)).take 256
def stC (l : List UInt8) : Nat → Option (Nat × BitVec 32 × List UInt8)
 | 0 => none
 | k + 1 => nextC (stC l k) k (wholeC (sec l k))
def foundC (l : List UInt8) : Option (Nat × BitVec 32 × List UInt8) := stC l 2
def BestAt (w : World) (g : Nat) (v : Value) (st : Option (Nat × BitVec 32 × List UInt8)) : Prop :=
 (st = none ∧ v = .int .i64 (-1) ∧ Blk w g (copC 0#32 (.slice none 0 0)) 165) ∨
 ∃ (i : Nat) (x : BitVec 32) (b : List UInt8) (A : Option Addr) (n c : Nat),st = some (i,x,b) ∧ v = .int .i64 (i : Int) ∧ Blk w g (copC x (.slice A n c)) 165 ∧ Rd w A n c b ∧ (0 < n → ∀ ad,A = some ad → g < ad.block)
theorem found_any (f bb : Nat) (l : List UInt8) (er : Nat → Int) (wear : Int) (w : World) (h : FlashAt w f bb l er wear) :
   Calls Tryz.prog 97 #[.pointer (some ⟨f,0,none⟩)] w fun e w' =>
     ((foundC l = none ∧ e = .returned (.tuple #[.agg (copC 0#32 (.slice none 0 0)),.int .i64 (-1)])) ∨
       ∃ (i : Nat) (x : BitVec 32) (b : List UInt8) (A : Option Addr) (n c : Nat),foundC l = some (i,x,b) ∧ e = .returned (.tuple #[.agg (copC x (.slice A n c)),.int .i64 (i : Int)]) ∧ Rd w' A n c b) ∧ Below w.heap.size w w' := by
 have hz0 : Blk ((w.alloc (.cells (copC 0#32 (.slice none 0 0)) 165)).alloc (.cells (copC 0#32 (.slice none 0 0)) 165)) w.heap.size (copC 0#32 (.slice none 0 0)) 165 := heap_alloc2_old w _ _
 have hz1 : Blk ((w.alloc (.cells (copC 0#32 (.slice none 0 0)) 165)).alloc (.cells (copC 0#32 (.slice none 0 0)) 165)) (w.heap.size + 1) (copC 0#32 (.slice none 0 0)) 165 := heap_alloc2_new w _ _
 have hB0 : Below w.heap.size w ((w.alloc (.cells (copC 0#32 (.slice none 0 0)) 165)).alloc (.cells (copC 0#32 (.slice none 0 0)) 165)) := ((Below.refl _ _).alloc (Nat.le_refl _) _).alloc (by simp) _
 have hszz := size165 0#32 (.slice none 0 0)
 have hsz : ∀ (x : BitVec 32) (A : Option Addr) (n c : Nat),(Tryz.prog.info? 165).map (·.size) = some (copC x (.slice A n c)).size := fun x A n c => size165 x _
 go_enter Tryz.func97,Tryz.ntmps97
 go_upto_region 2 with (first
   | ((with_reducible refine at_build ?_); refine wpList_build_as rfl 165 #[] rfl (copC 0#32 (.slice none 0 0)) (by kernel_rfl) ?_)
   | ((with_reducible refine at_store ?_); refine wpList_store_row rfl 165 (.tmp 4) (.tmp 9) rfl (w.heap.size + 1) (copC 0#32 (.slice none 0 0)) rfl rfl 165 (copC 0#32 (.slice none 0 0)) hz1 hszz rfl (one165 _ _ _ _) ?_))
 have hz2 := hz0.fr (fr_setRow _ (w.heap.size + 1) (copC 0#32 (.slice none 0 0))) (by omega)
 have hz3 : Blk (World.setRow ((w.alloc (.cells (copC 0#32 (.slice none 0 0)) 165)).alloc (.cells (copC 0#32 (.slice none 0 0)) 165)) (w.heap.size + 1) (copC 0#32 (.slice none 0 0))) (w.heap.size + 1) (copC 0#32 (.slice none 0 0)) 165 := setRow_heap _ _ _ _ _ _ hz1
 have hB2 := below_setRow hB0 (g := w.heap.size + 1) (by omega) (copC 0#32 (.slice none 0 0))
 change Code.wp _ _ _ _ (World.setRow ((w.alloc (.cells (copC 0#32 (.slice none 0 0)) 165)).alloc (.cells (copC 0#32 (.slice none 0 0)) 165)) (w.heap.size + 1) (copC 0#32 (.slice none 0 0)))
 generalize World.setRow ((w.alloc (.cells (copC 0#32 (.slice none 0 0)) 165)).alloc (.cells (copC 0#32 (.slice none 0 0)) 165)) (w.heap.size + 1) (copC 0#32 (.slice none 0 0)) = w2 at *
 clear hz0 hz1 hB0
 go_wp2_with fail
 go_loopw [5,10] (fun v u wr => ∃ k : Nat,k ≤ 2 ∧ u = .int .i64 (k : Int) ∧ BestAt wr (w.heap.size + 1) v (stC l k) ∧ Blk wr w.heap.size (copC 0#32 (.slice none 0 0)) 165 ∧ Below w.heap.size w wr) (fun _ u _ => 2 - (intOf u).toNat)
 case atStart => exact ⟨0,by omega,rfl,.inl ⟨rfl,rfl,hz3⟩,hz2,hB2⟩
 case round =>
   clear hz2 hz3 hB2
   obtain ⟨k,hk,rfl,hbest,hz,hB⟩ := hrel
   by_cases hlt : k < 2
   · have hlt' : (k : Int) < 2 := by omega
     have hfl := h.below hB
     have hst : Hid (stC l (k + 1) = nextC (stC l k) k (wholeC (sec l k))) := hide rfl
     go_wp2_with fail
     refine (whole_any f bb k l (sec l k) er wear _ hfl hlt rfl).mono ?_
     rintro e w3 ⟨hor,hb3⟩
     have hz3 := hz.below hb3
     have hB3 := below_next hB hb3
     have hz7 : Blk (w3.alloc (.cells (copC 0#32 (.slice none 0 0)) 165)) w3.heap.size (copC 0#32 (.slice none 0 0)) 165 := Blk.new _ _ _
     have hlt2 : w.heap.size + 1 < wr.heap.size := by
       rcases hbest with ⟨_,_,hb⟩ | ⟨_,_,_,_,_,_,_,_,hb,_⟩
       · exact hb.lt
       · exact hb.lt
     have hs3 := hb3.size
     have hbest3 : BestAt w3 (w.heap.size + 1) u5 (stC l k) := by
       rcases hbest with ⟨h1,h2,hb⟩ | ⟨i,x,b,A,n,c,h1,h2,hb,h3,h4⟩
       · exact .inl ⟨h1,h2,hb.below hb3⟩
       · exact .inr ⟨i,x,b,A,n,c,h1,h2,hb.below hb3,h3.below hb3,h4⟩
     clear hbest hz hb3 hfl
     rcases hor with ⟨hw,rfl⟩ | ⟨x,b,A,n,c,hw,rfl,hrd,hfresh⟩
     · have hst2 : Hid (stC l (k + 1) = stC l k) := hide (by rw [hst.out,hw]; rfl)
       clear hw hst
       go_upto_region 6 with (first
         | ((with_reducible refine at_store ?_); refine wpList_store_row rfl 165 (.tmp 7) (.tmp 17) rfl w3.heap.size (copC 0#32 (.slice none 0 0)) rfl rfl 165 (copC 0#32 (.slice none 0 0)) hz7 hszz rfl (one165 _ _ _ _) ?_))
       have hBW : Below w3.heap.size w3 (World.setRow (w3.alloc (.cells (copC 0#32 (.slice none 0 0)) 165)) w3.heap.size (copC 0#32 (.slice none 0 0))) := below_setRow (below_alloc1 _ _) (Nat.le_refl _) _
       change Code.wp _ _ _ _ (World.setRow (w3.alloc (.cells (copC 0#32 (.slice none 0 0)) 165)) w3.heap.size (copC 0#32 (.slice none 0 0)))
       generalize World.setRow (w3.alloc (.cells (copC 0#32 (.slice none 0 0)) 165)) w3.heap.size (copC 0#32 (.slice none 0 0)) = w4 at *
       have hbest4 : BestAt w4 (w.heap.size + 1) u5 (stC l k) := by
         rcases hbest3 with ⟨h1,h2,hb⟩ | ⟨i,x,b,A,n,c,h1,h2,hb,h3,h4⟩
         · exact .inl ⟨h1,h2,hb.below hBW⟩
         · exact .inr ⟨i,x,b,A,n,c,h1,h2,hb.below hBW,h3.below hBW,h4⟩
       have hz4 := hz3.below hBW
       have hB4 := below_next hB3 hBW
       clear hbest3 hz7 hBW
       go_wp2_with fail
       go_roundw
       case rel => exact ⟨k + 1,by omega,by go_num,by rw [hst2.out]; exact hbest4,hz4,hB4⟩
       case measure => simp [intOf]; omega
     · have hs2 := hsz x A n c
       go_upto_region 6 with (first
         | ((with_reducible refine at_store ?_); refine wpList_store_row rfl 165 (.tmp 7) (.tmp 17) rfl w3.heap.size (copC x (.slice A n c)) rfl rfl 165 (copC 0#32 (.slice none 0 0)) hz7 hs2 rfl (one165 _ _ _ _) ?_))
       have hBW : Below w3.heap.size w3 (World.setRow (w3.alloc (.cells (copC 0#32 (.slice none 0 0)) 165)) w3.heap.size (copC x (.slice A n c))) := below_setRow (below_alloc1 _ _) (Nat.le_refl _) _
       have hz8 : Blk (World.setRow (w3.alloc (.cells (copC 0#32 (.slice none 0 0)) 165)) w3.heap.size (copC x (.slice A n c))) w3.heap.size (copC x (.slice A n c)) 165 := setRow_heap _ _ _ _ _ _ hz7
       change Code.wp _ _ _ _ (World.setRow (w3.alloc (.cells (copC 0#32 (.slice none 0 0)) 165)) w3.heap.size (copC x (.slice A n c)))
       generalize World.setRow (w3.alloc (.cells (copC 0#32 (.slice none 0 0)) 165)) w3.heap.size (copC x (.slice A n c)) = w4 at *
       have hz4 := hz3.below hBW
       have hB4 := below_next hB3 hBW
       have hrd4 := hrd.below hBW
       have c7 := hz8.cell (i := 0) (v := .int .u32 (V x)) rfl
       rcases hbest3 with ⟨h1,rfl,hb⟩ | ⟨i,y,b',A',n',c',h1,rfl,hb,h3,h4⟩
       · have hst2 : Hid (stC l (k + 1) = some (k,x,b)) := hide (by rw [hst.out,hw,h1]; rfl)
         have hbW := hb.below hBW
         clear hw hst h1 hb hz7 hBW hz3 hB3
         have hnew : Blk (w4.setRow (w.heap.size + 1) (copC x (.slice A n c))) (w.heap.size + 1) (copC x (.slice A n c)) 165 := setRow_heap _ _ _ _ _ _ hbW
         have hzn := hz4.fr (fr_setRow w4 (w.heap.size + 1) (copC x (.slice A n c))) (by omega)
         have hrn := Rd.fr (S := (· = w.heap.size + 1)) hrd4 (fr_setRow w4 (w.heap.size + 1) (copC x (.slice A n c))) (fun h0 ad hA he => by
           have := hfresh h0 ad hA
           have he' : ad.block = w.heap.size + 1 := he
           omega)
         have hBn := below_setRow hB4 (g := w.heap.size + 1) (by omega) (copC x (.slice A n c))
         go_wp2_with (first
           | ((with_reducible refine at_load ?_); refine wpList_load_row rfl 165 (.tmp 7) rfl w3.heap.size rfl 165 (copC x (.slice A n c)) (0,0) _ hz8 Tryz.underlying165 rfl hs2 ?_)
           | ((with_reducible refine at_store ?_); refine wpList_store_row rfl 165 (.tmp 4) (.tmp 31) rfl (w.heap.size + 1) (copC x (.slice A n c)) rfl rfl 165 (copC 0#32 (.slice none 0 0)) hbW hs2 rfl (one165 _ _ _ _) ?_))
         go_roundw
         case rel => exact ⟨k + 1,by omega,by go_num,by rw [hst2.out]; exact .inr ⟨k,x,b,A,n,c,rfl,rfl,hnew,hrn,fun h0 ad hA => by have := hfresh h0 ad hA; omega⟩,hzn,hBn⟩
         case measure => simp [intOf]; omega
       · have hbW := hb.below hBW
         have hrdW := h3.below hBW
         have c4 := hbW.cell (i := 0) (v := .int .u32 (V y)) rfl
         have di : decide ((i : Int) < 0) = false := by simp
         have hsi := hsz y A' n' c'
         by_cases hxy : y.toNat < x.toNat
         · have hst2 : Hid (stC l (k + 1) = some (k,x,b)) := hide (by rw [hst.out,hw,h1]; simp [nextC,hxy])
           have dx' : decide (V y < V x) = true := by unfold V; simp; omega
           clear hw hst h1 hb hz7 hBW hz3 hB3 hxy
           have hnew : Blk (w4.setRow (w.heap.size + 1) (copC x (.slice A n c))) (w.heap.size + 1) (copC x (.slice A n c)) 165 := setRow_heap _ _ _ _ _ _ hbW
           have hzn := hz4.fr (fr_setRow w4 (w.heap.size + 1) (copC x (.slice A n c))) (by omega)
           have hrn := Rd.fr (S := (· = w.heap.size + 1)) hrd4 (fr_setRow w4 (w.heap.size + 1) (copC x (.slice A n c))) (fun h0 ad hA he => by
             have := hfresh h0 ad hA
             have he' : ad.block = w.heap.size + 1 := he
             omega)
           have hBn := below_setRow hB4 (g := w.heap.size + 1) (by omega) (copC x (.slice A n c))
           go_wp2_with (first
             | ((with_reducible refine at_load ?_); refine wpList_load_row rfl 165 (.tmp 7) rfl w3.heap.size rfl 165 (copC x (.slice A n c)) (0,0) _ hz8 Tryz.underlying165 rfl hs2 ?_)
             | ((with_reducible refine at_store ?_); refine wpList_store_row rfl 165 (.tmp 4) (.tmp 31) rfl (w.heap.size + 1) (copC x (.slice A n c)) rfl rfl 165 (copC y (.slice A' n' c')) hbW hs2 rfl (one165 _ _ _ _) ?_))
           go_roundw
           case rel => exact ⟨k + 1,by omega,by go_num,by rw [hst2.out]; exact .inr ⟨k,x,b,A,n,c,rfl,rfl,hnew,hrn,fun h0 ad hA => by have := hfresh h0 ad hA; omega⟩,hzn,hBn⟩
           case measure => simp [intOf]; omega
         · have hst2 : Hid (stC l (k + 1) = some (i,y,b')) := hide (by rw [hst.out,hw,h1]; simp [nextC,hxy])
           have dx' : decide (V y < V x) = false := by unfold V; simp; omega
           clear hw hst h1 hb hz7 hBW hz3 hB3 hxy
           go_wp2_with fail
           go_roundw
           case rel => exact ⟨k + 1,by omega,by go_num,by rw [hst2.out]; exact .inr ⟨i,y,b',A',n',c',rfl,rfl,hbW,hrdW,h4⟩,hz4,hB4⟩
           case measure => simp [intOf]; omega
   · obtain rfl : k = 2 := by omega
     rcases hbest with ⟨hs,rfl,hb⟩ | ⟨i,x,b,A,n,c,hs,rfl,hb,hrd,hne⟩
     · have Hs := hide hs
       clear hs
       go_wp2_with (first
         | ((with_reducible refine at_load ?_); refine wpList_load_row rfl 165 (.tmp 4) rfl (w.heap.size + 1) rfl 165 (copC 0#32 (.slice none 0 0)) (0,0) _ hb Tryz.underlying165 rfl hszz ?_)
         | ((with_reducible refine at_store ?_); refine wpList_store_row rfl 165 (.tmp 2) (.tmp 34) rfl w.heap.size (copC 0#32 (.slice none 0 0)) rfl rfl 165 (copC 0#32 (.slice none 0 0)) hz hszz rfl (one165 _ _ _ _) ?_))
       refine bodyPost_ret (results_cell_slot Tryz.results97 _ _ w.heap.size 165 _ (0,0) _ _ rfl rfl (setRow_heap _ _ _ _ _ _ hz) Tryz.underlying165 rfl hszz) rfl ?_
       exact ⟨.inl ⟨Hs.out,rfl⟩,below_setRow hB (Nat.le_refl _) _⟩
     · have Hs := hide hs
       clear hs
       have hs2 := hsz x A n c
       go_wp2_with (first
         | ((with_reducible refine at_load ?_); refine wpList_load_row rfl 165 (.tmp 4) rfl (w.heap.size + 1) rfl 165 (copC x (.slice A n c)) (0,0) _ hb Tryz.underlying165 rfl hs2 ?_)
         | ((with_reducible refine at_store ?_); refine wpList_store_row rfl 165 (.tmp 2) (.tmp 34) rfl w.heap.size (copC x (.slice A n c)) rfl rfl 165 (copC 0#32 (.slice none 0 0)) hz hs2 rfl (one165 _ _ _ _) ?_))
       refine bodyPost_ret (results_cell_slot Tryz.results97 _ _ w.heap.size 165 _ (0,0) _ _ rfl rfl (setRow_heap _ _ _ _ _ _ hz) Tryz.underlying165 rfl hs2) rfl ?_
       exact ⟨.inr ⟨i,x,b,A,n,c,Hs.out,rfl,hrd.fr (S := (· = w.heap.size)) (fr_setRow _ _ _) (fun h0 ad hA he => by
         have := hne h0 ad hA
         have he' : ad.block = w.heap.size := he
         omega)⟩,below_setRow hB (Nat.le_refl _) _⟩
theorem notblank_any (x : UInt8) (w : World) : Calls Tryz.prog 171 #[.int .u8 x.toNat] w fun e w' => e = .returned (.bool (x != 255)) ∧ w = w' := by
 have h : ((x.toNat : Int) != 255) = (x != 255) := by
   by_cases h : x = 255
   · subst h; rfl
   · have h1 : (x != 255) = true := by simp [h]
     have h2 : ((x.toNat : Int) != 255) = true := by
       simp
       intro h3
       exact h (UInt8.toNat_inj.1 (by show x.toNat = 255; omega))
     rw [h1,h2]
 have H := hide h
 clear h
 go_enter Tryz.func171,Tryz.ntmps171
 go_wp2_with fail
 go_ret
 exact ⟨by rw [← H.out]; rfl,rfl⟩
def blankL (l : List UInt8) : Bool := l.all (· == 255)
theorem indexf_any (A : Option Addr) (n c : Nat) (l : List UInt8) (w : World) (hr : Rd w A n c l) (hn : n ≤ 1000000) :
   Calls Tryz.prog 209 #[.slice A n c,.func (.func 171) #[] #[]] w fun e w' => ∃ i : Int,e = .returned (.int .i64 i) ∧ decide (0 ≤ i) = !blankL l ∧ Below w.heap.size w w' := by
 have Hl := hide hr.1
 have hn' : (n : Int) ≤ 1000000 := by omega
 go_enter Tryz.func209,Tryz.ntmps209
 go_wp2_with fail
 go_loopw [8] (fun v wr => ∃ k : Nat,k ≤ n ∧ v = .int .i64 (k : Int) ∧ Hid (blankL (l.take k) = true) ∧ Below w.heap.size w wr) (fun v _ => n - (intOf v).toNat)
 case atStart => exact ⟨0,Nat.zero_le _,rfl,hide (by simp [blankL]),Below.refl _ _⟩
 case round =>
   obtain ⟨k,hk,rfl,hT,hB⟩ := hrel
   by_cases hlt : k < n
   · obtain ⟨ad,x,rfl,hx,hc⟩ := (hr.below hB).at_ hlt
     have hlt' : (k : Int) < (n : Int) := by omega
     have hk0 : (0 : Int) ≤ (k : Int) := by omega
     have hS : Hid (blankL (l.take (k + 1)) = (x == 255)) := hide (by
       unfold blankL
       rw [List.take_add_one,hx,List.all_append]
       have := hT.out
       unfold blankL at this
       rw [this]
       simp)
     by_cases h255 : x = 255
     · have hS2 : Hid (blankL (l.take (k + 1)) = true) := hide (by rw [hS.out,h255]; rfl)
       have hq : (x != 255) = false := by simp [h255]
       clear h255 hx
       go_wp2_with fail
       refine (notblank_any x _).mono ?_
       rw [hq]
       rintro e w1 ⟨rfl,rfl⟩
       go_wp2_with fail
       go_roundw
       case rel => exact ⟨k + 1,by omega,by go_num,hS2,hB⟩
       case measure => simp [intOf]; omega
     · have hq : (x != 255) = true := by simp [h255]
       have hN : Hid (blankL l = false) := hide (by
         have hm : x ∈ l := List.mem_of_getElem? hx
         unfold blankL
         rw [List.all_eq_false]
         exact ⟨x,hm,by simp [h255]⟩)
       clear h255 hx
       go_wp2_with fail
       refine (notblank_any x _).mono ?_
       rw [hq]
       rintro e w1 ⟨rfl,rfl⟩
       go_wp2_with fail
       go_ret
       exact ⟨k,rfl,by rw [hN.out]; simp,hB⟩
   · obtain rfl : n = k := by omega
     have hN : Hid (blankL l = true) := hide (by rw [← hT.out,List.take_of_length_le (by rw [Hl.out]; exact Nat.le_refl _)])
     go_wp2_with fail
     go_ret
     exact ⟨-1,rfl,by rw [hN.out]; rfl,hB⟩
theorem containsf_any (A : Option Addr) (n c : Nat) (l : List UInt8) (w : World) (hr : Rd w A n c l) (hn : n ≤ 1000000) :
   Calls Tryz.prog 170 #[.slice A n c,.func (.func 171) #[] #[]] w fun e w' => e = .returned (.bool (!blankL l)) ∧ Below w.heap.size w w' := by
 go_enter Tryz.func170,Tryz.ntmps170
 go_wp2_with fail
 refine (indexf_any A n c l _ hr hn).mono ?_
 rintro e w1 ⟨i,rfl,hi,hb⟩
 have Hi := hide hi
 clear hi
 go_wp2_with fail
 go_ret
 exact ⟨by rw [← Hi.out]; rfl,hb⟩
theorem blank_any (f bb at_ n : Nat) (l : List UInt8) (er : Nat → Int) (wear : Int) (w : World) (h : FlashAt w f bb l er wear) (hn : at_ + n ≤ 3584) :
   Calls Tryz.prog 117 #[.pointer (some ⟨f,0,none⟩),.int .i64 at_,.int .i64 n] w fun e w' => e = .returned (.bool (blankL ((l.drop at_).take n))) ∧ Below w.heap.size w w' := by
 go_enter Tryz.func117,Tryz.ntmps117
 go_wp2_with fail
 refine (fread_any f bb at_ n l er wear w h hn).mono ?_
 rintro e w1 ⟨A,c,rfl,ho,hb⟩
 go_wp2_with fail
 refine (containsf_any A n c _ _ ho.rd (by omega)).mono ?_
 rintro e w2 ⟨rfl,hb2⟩
 have hnn : (!(!blankL ((l.drop at_).take n))) = blankL ((l.drop at_).take n) := Bool.not_not _
 go_wp2_with fail
 go_ret
 exact ⟨by first | rfl | (rw [← hnn]; rfl),below_next hb hb2⟩
def erMore (er : Nat → Int) (s : Nat) : Nat → Int := fun i => if i = s then er i + 1 else er i
def eraseN (l : List UInt8) (s : Nat) : Nat → List UInt8
 | 0 => l
 | k + 1 => (eraseN l s k).set (s * 256 + k) 255
theorem eraseN_len (l : List UInt8) (s : Nat) : ∀ k,(eraseN l s k).length = l.length := by
 intro k
 induction k with
 | zero => rfl
 | succ k ih => simp [eraseN,ih]
theorem flashC_er (b : Value) (er : Nat → Int) (wear left steps : Int) (s : Nat) (hs : s < 14) : (flashC b er wear left steps)[1 + s]? = some (.int .i64 (er s)) := by
 match s,hs with
 | 0,_ | 1,_ | 2,_ | 3,_ | 4,_ | 5,_ | 6,_ | 7,_ | 8,_ | 9,_ | 10,_ | 11,_ | 12,_ | 13,_ => rfl
theorem flashC_more (b : Value) (er : Nat → Int) (wear left steps : Int) (s : Nat) (hs : s < 14) : (flashC b er wear left steps).setIfInBounds (1 + s) (.int .i64 (er s + 1)) = flashC b (erMore er s) wear left steps := by
 match s,hs with
 | 0,_ | 1,_ | 2,_ | 3,_ | 4,_ | 5,_ | 6,_ | 7,_ | 8,_ | 9,_ | 10,_ | 11,_ | 12,_ | 13,_ => rfl
theorem erase_any (f bb s : Nat) (l : List UInt8) (er : Nat → Int) (wear : Int) (w : World) (h : FlashAt w f bb l er wear) (hs : s < 14) (he : er s < wear) (he0 : 0 ≤ er s) (hw : wear ≤ 10000) :
   Calls Tryz.prog 118 #[.pointer (some ⟨f,0,none⟩),.int .i64 s] w fun e w' => e = .returned (.int .i64 0) ∧ FlashAt w' f bb (eraseN l s 256) (erMore er s) wear ∧ Fr (fun g => g = f ∨ g = bb) w w' := by
 have hne := h.ne
 obtain ⟨⟨left,steps,hB⟩,hR,hl⟩ := h
 have c15 := hB.cell (i := 15) (v := .int .i64 wear) rfl
 have c16 := hB.cell (i := 16) (v := .bool false) rfl
 have cs := hB.cell (flashC_er _ er wear left steps s hs)
 have d1 : decide ((s : Int) < 0) = false := by simp
 have d2 : decide ((14 : Int) ≤ (s : Int)) = false := by simp; omega
 have d3 : decide (wear ≤ er s) = false := by simp; omega
 have hs0 : (0 : Int) ≤ (s : Int) := by omega
 have hs1 : (s : Int) < 14 := by omega
 go_enter Tryz.func118,Tryz.ntmps118
 go_wp2_with fail
 go_quiet (fail)
 go_wp2_with fail
 refine (step_any f _ er wear left steps _ (hB.drewN nq)).mono ?_
 rintro e w1 ⟨rfl,⟨left',steps',hB1⟩,hF1⟩
 have hF1' : Fr (fun g => g = f ∨ g = bb) w w1 := Fr.step (S := fun g => g = f ∨ g = bb) (Fr.drewN (Fr.refl _ w) nq) hF1 (fun g _ hg => .inl hg)
 have hR1 : Row8 w1 bb l := Row8.fr (w := w.drewN nq) hR hF1 hne
 have cs1 := hB1.cell (flashC_er _ er wear left' steps' s hs)
 have fs1 := hB1.free (1 + s)
 have hset : Blk (w1.setCell ⟨f,1 + s,none⟩ (.int .i64 (er s + 1))) f (flashC (.slice (some ⟨bb,0,none⟩) 3584 3584) (erMore er s) wear left' steps') 130 := by
   have := hB1.set (1 + s) (.int .i64 (er s + 1))
   rwa [flashC_more _ er wear left' steps' s hs] at this
 have hsetR : Row8 (w1.setCell ⟨f,1 + s,none⟩ (.int .i64 (er s + 1))) bb l := hR1.other hne _
 have hsetF : Fr (fun g => g = f ∨ g = bb) w (w1.setCell ⟨f,1 + s,none⟩ (.int .i64 (er s + 1))) := Fr.set (S := fun g => g = f ∨ g = bb) hF1' (p := ⟨f,1 + s,none⟩) (fun _ => .inl rfl) _
 have hwr : IntKind.i64.wrap (er s + 1) = er s + 1 := by rw [IntKind.wrap_i64]; omega
 have g1 : ∀ (t : _) (d : _) (o : _) (u : _),({ heap := w1.heap,tape := t,drawn := d,os := o,output := u } : World).cell? ⟨f,1 + s,none⟩ = some (.int .i64 (er s)) := fun _ _ _ _ => cs1
 clear hB hR hF1 cs c15 c16
 go_wp2_with fail
 go_still_tail 10,(by kernel_rfl)
 try refine wpStill_nil ?_
 change wpList _ _ _ _ _ w1.drew
 clear g1
 generalize er s = E at *
 go_upto_region 14 with fail
 have hset2 : Blk (w1.setCell ⟨f,1 + s,none⟩ (.int .i64 (E + 1))).drew f (flashC (.slice (some ⟨bb,0,none⟩) 3584 3584) (erMore er s) wear left' steps') 130 := hset
 have hsetR2 : Row8 (w1.setCell ⟨f,1 + s,none⟩ (.int .i64 (E + 1))).drew bb l := hsetR
 have hsetF2 := hsetF.drew
 change Code.wp _ _ _ _ (w1.setCell ⟨f,1 + s,none⟩ (.int .i64 (E + 1))).drew
 generalize (w1.setCell ⟨f,1 + s,none⟩ (.int .i64 (E + 1))).drew = w2 at *
 have hFl : FlashAt w2 f bb l (erMore er s) wear := ⟨⟨left',steps',hset2⟩,hsetR2,hl⟩
 clear hset hsetR hsetF hset2 hsetR2 cs1 fs1 hF1' hR1 hB1 hwr
 go_wp2_with fail
 go_loopw [56] (fun v wr => ∃ k : Nat,k ≤ 256 ∧ v = .int .i64 (k : Int) ∧ FlashAt wr f bb (eraseN l s k) (erMore er s) wear ∧ Fr (fun g => g = f ∨ g = bb) w wr) (fun v _ => 256 - (intOf v).toNat)
 case atStart => exact ⟨0,by omega,rfl,hFl,hsetF2⟩
 case round =>
   clear hFl hsetF2
   obtain ⟨k,hk,rfl,h,hF⟩ := hrel
   by_cases hlt : k < 256
   · have hlt' : (k : Int) < 256 := by omega
     have hk0 : (0 : Int) ≤ (k : Int) := by omega
     obtain ⟨⟨left2,steps2,hB⟩,hR,hl2⟩ := h
     have c0 := hB.cell (i := 0) (v := .slice (some ⟨bb,0,none⟩) 3584 3584) rfl
     have hj : s * 256 + k < (eraseN l s k).length := by omega
     have cb := hR.cell (j := s * 256 + k) (List.getElem?_eq_getElem hj)
     have fb := hR.free (s * 256 + k)
     have hset := hide (hR.set (s * 256 + k) 255)
     have hE : Hid (eraseN l s (k + 1) = (eraseN l s k).set (s * 256 + k) 255) := hide rfl
     have hl3 : Hid ((eraseN l s (k + 1)).length = 3584) := hide (by rw [eraseN_len]; exact hl)
     have bq : (s : Int) * 256 + (k : Int) < 3584 := by omega
     have bq0 : (0 : Int) ≤ (s : Int) * 256 + (k : Int) := by omega
     have eq1 : ((s : Int) * 256 + (k : Int)).toNat = s * 256 + k := by omega
     go_wp2_with fail
     go_roundw
     case rel => exact ⟨k + 1,by omega,by go_num,⟨⟨left2,steps2,hB.other (a := ⟨bb,s * 256 + k,none⟩) (Ne.symm hne) _⟩,by rw [hE.out]; exact hset.out,hl3.out⟩,Fr.set (S := fun g => g = f ∨ g = bb) hF (p := ⟨bb,s * 256 + k,none⟩) (fun _ => .inr rfl) _⟩
     case measure => simp [intOf]; omega
   · obtain rfl : k = 256 := by omega
     go_wp2_with fail
     go_ret
     exact ⟨rfl,h,hF⟩
end Go.Proofs.YtkkcpblfheplaaaGreatDoor
