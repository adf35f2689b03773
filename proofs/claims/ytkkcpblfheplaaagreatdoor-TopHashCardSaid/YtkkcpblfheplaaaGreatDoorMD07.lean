/- Contracts of functions that the laws of downpourtop reach, and plain facts; no condition beyond what each theorem states. -/
import Derived.Test.YtkkcpblfheplaaaGreatDoorMD06
import Derived.Laws.MakeOwn
set_option maxRecDepth 100000
set_option maxHeartbeats 8000000
set_option linter.all false
namespace Go.Proofs.YtkkcpblfheplaaaGreatDoor
open Go.RowKit
def numC (l : List UInt8) : BitVec 32 := match foundC l with | none => 0#32 | some (_,x,_) => x
def toC (l : List UInt8) : Nat := match foundC l with | some (0,_,_) => 1 | _ => 0
theorem stC_lt (l : List UInt8) : ∀ k i x b,stC l k = some (i,x,b) → i < k := by
 intro k
 induction k with
 | zero => intro i x b h; cases h
 | succ k ih =>
   intro i x b h
   unfold stC nextC at h
   cases hw : wholeC (sec l k) with
   | none => rw [hw] at h; have := ih i x b h; omega
   | some p =>
     obtain ⟨y,d⟩ := p
     rw [hw] at h
     cases hs : stC l k with
     | none => rw [hs] at h; simp at h; omega
     | some q =>
       obtain ⟨j,z,e⟩ := q
       rw [hs] at h
       have := ih j z e hs
       simp only at h
       split at h
       · simp at h; omega
       · simp at h; omega
theorem found_num (f bb : Nat) (l : List UInt8) (er : Nat → Int) (wear : Int) (w : World) (h : FlashAt w f bb l er wear) :
   Calls Tryz.prog 97 #[.pointer (some ⟨f,0,none⟩)] w fun e w' => ∃ (A : Option Addr) (n c : Nat) (wh : Int),e = .returned (.tuple #[.agg (copC (numC l) (.slice A n c)),.int .i64 wh]) ∧ ((wh == 0) = true ∧ toC l = 1 ∨ (wh == 0) = false ∧ toC l = 0) ∧ Below w.heap.size w w' := by
 refine (found_any f bb l er wear w h).mono ?_
 rintro e w1 ⟨⟨hn,rfl⟩ | ⟨i,x,b,A,n,c,hs,rfl,_⟩,hb⟩
 · exact ⟨none,0,0,-1,by unfold numC; rw [hn],.inr ⟨rfl,by unfold toC; rw [hn]⟩,hb⟩
 · have hi := stC_lt l 2 i x b hs
   refine ⟨A,n,c,i,by unfold numC; rw [hs],?_,hb⟩
   match i,hi with
   | 0,_ => exact .inl ⟨rfl,by unfold toC; rw [hs]; rfl⟩
   | 1,_ => exact .inr ⟨rfl,by unfold toC; rw [hs]; rfl⟩
theorem cellread_any (f bb i : Nat) (x : BitVec 32) (b l : List UInt8) (er : Nat → Int) (wear : Int) (w : World) (h : FlashAt w f bb l er wear) (hf : foundC l = some (i,x,b)) :
   Calls Tryz.prog 43 #[.pointer (some ⟨f,0,none⟩)] w fun e w' => ∃ A n c,e = .returned (.tuple #[.slice A n c,.int .i64 0]) ∧ Rd w' A n c b ∧ Below w.heap.size w w' := by
 have Hf := hide hf
 clear hf
 go_enter Tryz.func43,Tryz.ntmps43
 go_wp2_with fail
 refine (cellready_any f bb l er wear w h).mono ?_
 rintro e w1 ⟨rfl,hb1⟩
 go_wp2_with fail
 refine (found_any f bb l er wear w1 (h.below hb1)).mono ?_
 rintro e w2 ⟨⟨hn,rfl⟩ | ⟨j,y,d,A,n,c,hs,rfl,hrd⟩,hb2⟩
 · rw [Hf.out] at hn; cases hn
 · rw [Hf.out] at hs
   simp only [Option.some.injEq,Prod.mk.injEq] at hs
   obtain ⟨rfl,rfl,rfl⟩ := hs
   have hB2 := below_next hb1 hb2
   have hsz := size165 x (.slice A n c)
   have hz : Blk (w2.alloc (.cells (copC 0#32 (.slice none 0 0)) 165)) w2.heap.size (copC 0#32 (.slice none 0 0)) 165 := Blk.new _ _ _
   have d0 : decide ((i : Int) < 0) = false := by simp
   have hBW : Below w2.heap.size w2 (World.setRow (w2.alloc (.cells (copC 0#32 (.slice none 0 0)) 165)) w2.heap.size (copC x (.slice A n c))) := below_setRow (below_alloc1 _ _) (Nat.le_refl _) _
   have hb8 : Blk (World.setRow (w2.alloc (.cells (copC 0#32 (.slice none 0 0)) 165)) w2.heap.size (copC x (.slice A n c))) w2.heap.size (copC x (.slice A n c)) 165 := setRow_heap _ _ _ _ _ _ hz
   go_upto_region 5 with (first
     | ((with_reducible refine at_store ?_); refine wpList_store_row rfl 165 (.tmp 5) (.tmp 15) rfl w2.heap.size (copC x (.slice A n c)) rfl rfl 165 (copC 0#32 (.slice none 0 0)) hz hsz rfl (one165 _ _ _ _) ?_))
   change Code.wp _ _ _ _ (World.setRow (w2.alloc (.cells (copC 0#32 (.slice none 0 0)) 165)) w2.heap.size (copC x (.slice A n c)))
   generalize World.setRow (w2.alloc (.cells (copC 0#32 (.slice none 0 0)) 165)) w2.heap.size (copC x (.slice A n c)) = w3 at *
   have c1 := hb8.cell (i := 1) (v := .slice A n c) rfl
   have hrd3 := hrd.below hBW
   have hB3 := below_next hB2 hBW
   clear hz hBW hb8
   go_wp2_with fail
   go_ret2
   exact ⟨A,n,c,rfl,hrd3,hB3⟩
theorem V_succ (a : BitVec 32) : (V a + 1) % (4294967296 : Int) = V (a + 1#32) := by
 rw [show (1 : Int) = V 1#32 from V_one,V_add]
theorem Own.new_ne {w' : World} {base : Nat} {e : TypeId} {A : Option Addr} {n c : Nat} {l : List UInt8} (h : Own w' base e A n c l) {g : Nat} (hg : g < base) : ∀ ad,A = some ad → ad.block ≠ g := by
 intro ad hA
 rcases h.cases with ⟨h0,_⟩ | ⟨g2,h0,hb,_⟩
 · rw [h0] at hA; cases hA
 · rw [h0] at hA
   cases hA
   show g2 ≠ g
   omega
theorem cop_cells (N : BitVec 32) (m : Nat) (hm : m ≤ 245) : (#[Value.int .u8 (V N / 16777216),.int .u8 (V N / 65536 % 256),.int .u8 (V N / 256 % 256),.int .u8 (V N % 256),.int .u8 ((m : Int) / 256),.int .u8 (m : Int)] : Array Value).toList = bys (four N ++ [byt ((m : Int) / 256),byt (m : Int)]) := by
 have h := V_bd N
 have e1 : V N / 16777216 % 256 = V N / 16777216 := by omega
 have e2 : (m : Int) / 256 % 256 = (m : Int) / 256 := by omega
 have e3 : (m : Int) % 256 = (m : Int) := by omega
 simp [bys,by8,four,byt_val,e1,e2,e3]
def copL (x : BitVec 32) (b : List UInt8) : List UInt8 := four x ++ [byt ((b.length : Int) / 256),byt (b.length : Int)] ++ b
theorem copL_len (x : BitVec 32) (b : List UInt8) : (copL x b).length = 6 + b.length := by simp [copL,four_len]; omega
def writeC (l b : List UInt8) : List UInt8 :=
 progN (progN (eraseN l (toC l) 256) (toC l * 256) (putL (copL (numC l + 1#32) b)) (6 + b.length + 4)) (toC l * 256 + (6 + b.length + 4)) [0] 1
theorem toC_lt (l : List UInt8) : toC l < 2 := by
 unfold toC
 split <;> omega
theorem cellwrite_any (f bb m d : Nat) (X : Option Addr) (b l : List UInt8) (er : Nat → Int) (wear : Int) (w : World) (h : FlashAt w f bb l er wear) (hr : Rd w X m d b) (hm : m ≤ 245)
   (hnl : numC l ≠ 4294967295#32) (he : er (toC l) < wear) (he0 : 0 ≤ er (toC l)) (hw : wear ≤ 10000) (hX : ∀ ad,X = some ad → ad.block ≠ f ∧ ad.block ≠ bb) :
   Calls Tryz.prog 69 #[.pointer (some ⟨f,0,none⟩),.slice X m d] w fun e w' => e = .returned (.int .i64 0) ∧ FlashAt w' f bb (writeC l b) (erMore er (toC l)) wear ∧ Fr (fun g => g = f ∨ g = bb) w w' := by
 have hm' : (m : Int) ≤ 245 := by omega
 have dm : decide (245 < (m : Int)) = false := by simp; omega
 have Hl := hide hr.1
 have hv : (V (numC l) == 4294967295) = false := by
   unfold V
   simp
   intro h3
   exact hnl (BitVec.eq_of_toNat_eq (by rw [show (4294967295#32).toNat = 4294967295 by rfl]; omega))
 have hWr : Hid (∀ t,toC l = t → writeC l b = progN (progN (eraseN l t 256) (t * 256) (putL (copL (numC l + 1#32) b)) (6 + b.length + 4)) (t * 256 + (6 + b.length + 4)) [0] 1) := hide (by rintro t rfl; rfl)
 go_enter Tryz.func69,Tryz.ntmps69
 go_wp2_with fail
 refine (cellready_any f bb l er wear w h).mono ?_
 rintro e w1 ⟨rfl,hb1⟩
 go_wp2_with fail
 refine (found_num f bb l er wear w1 (h.below hb1)).mono ?_
 rintro e w2 ⟨A,n,c,wh,rfl,hwh,hb2⟩
 have hB2 := below_next hb1 hb2
 have hsz := size165 (numC l) (.slice A n c)
 have hz : Blk (w2.alloc (.cells (copC 0#32 (.slice none 0 0)) 165)) w2.heap.size (copC 0#32 (.slice none 0 0)) 165 := Blk.new _ _ _
 have hBW : Below w2.heap.size w2 (World.setRow (w2.alloc (.cells (copC 0#32 (.slice none 0 0)) 165)) w2.heap.size (copC (numC l) (.slice A n c))) := below_setRow (below_alloc1 _ _) (Nat.le_refl _) _
 have hb8 : Blk (World.setRow (w2.alloc (.cells (copC 0#32 (.slice none 0 0)) 165)) w2.heap.size (copC (numC l) (.slice A n c))) w2.heap.size (copC (numC l) (.slice A n c)) 165 := setRow_heap _ _ _ _ _ _ hz
 go_upto_region 7 with (first
   | ((with_reducible refine at_store ?_); refine wpList_store_row rfl 165 (.tmp 6) (.tmp 28) rfl w2.heap.size (copC (numC l) (.slice A n c)) rfl rfl 165 (copC 0#32 (.slice none 0 0)) hz hsz rfl (one165 _ _ _ _) ?_))
 change Code.wp _ _ _ _ (World.setRow (w2.alloc (.cells (copC 0#32 (.slice none 0 0)) 165)) w2.heap.size (copC (numC l) (.slice A n c)))
 generalize World.setRow (w2.alloc (.cells (copC 0#32 (.slice none 0 0)) 165)) w2.heap.size (copC (numC l) (.slice A n c)) = w3 at *
 have c0 := hb8.cell (i := 0) (v := .int .u32 (V (numC l))) rfl
 have hB3 := below_next hB2 hBW
 have hfl := h.below hB3
 have hrd := hr.below hB3
 have htl := toC_lt l
 clear hz hBW hb8 hb1 hb2 hB2 h hr
 go_upto_if 37 with fail
 go_cut [9] (fun v wx => v = .int .i64 ((toC l : Nat) : Int) ∧ wx = w3)
 case first =>
   rcases hwh with ⟨h1,h2⟩ | ⟨h1,h2⟩
   · have H2 := hide h2
     clear h2
     go_wp2_with fail
     go_meet
     exact ⟨by rw [H2.out]; rfl,rfl⟩
   · have H2 := hide h2
     clear h2
     go_wp2_with fail
     go_meet
     exact ⟨by rw [H2.out]; rfl,rfl⟩
 case rest =>
   obtain ⟨rfl,rfl⟩ := hcut
   rw [V_succ]
   obtain ⟨N,hN⟩ : ∃ N,numC l + 1#32 = N := ⟨_,rfl⟩
   rw [hN] at hWr ⊢
   clear hN hv c0 hwh hsz hnl
   have hW := hide (hWr.out _ rfl)
   clear hWr
   obtain ⟨t,ht⟩ : ∃ t,toC l = t := ⟨_,rfl⟩
   rw [ht] at he he0 htl hW ⊢
   have Ht := hide ht
   clear ht
   have ht' : (t : Int) < 2 := by omega
   have hbN := V_bd N
   have hne := hfl.ne
   have hlf : f < wc.heap.size := by obtain ⟨_,_,hB⟩ := hfl.blk; exact hB.lt
   have hlb : bb < wc.heap.size := hfl.2.1.lt
   go_wp2_with fail
   refine (erase_any f bb t l er wear _ hfl (by omega) he he0 hw).mono ?_
   rintro e w4 ⟨rfl,hfl4,hF4⟩
   have hrd4 := hrd.fr hF4 (fun _ ad hA hq => by
     rcases hq with hq | hq
     · exact (hX ad hA).1 hq
     · exact (hX ad hA).2 hq)
   have hFr4 : Fr (fun g => g = f ∨ g = bb) w w4 := (Fr.of hB3).trans hF4
   have hs4 := hF4.size
   clear hfl hrd hB3 hF4 he he0 hX
   have ho0 := Own.lit w4 w4.heap.size 5 _ (cop_cells N m hm) (by simp [four_len,maxLen]) (Nat.le_refl _)
   have hb0 := below_alloc1 w4 (.cells #[Value.int .u8 (V N / 16777216),.int .u8 (V N / 65536 % 256),.int .u8 (V N / 256 % 256),.int .u8 (V N % 256),.int .u8 ((m : Int) / 256),.int .u8 (m : Int)] 5)
   go_wp2_with (at_builtin
                refine wpList_append8 _ rfl _ _ _ rfl w4.heap.size 5 Tryz.underlying22 isByte _ 6 6 _ rfl ho0 X m d b rfl (hrd4.below hb0) (by omega) (by simp) ?_
                intro A5 c5 w5 ho5 hb5 _ _)
   have hB5 : Below w4.heap.size w4 w5 := hb0.trans hb5
   have hcop : four N ++ [byt ((m : Int) / 256),byt (m : Int)] ++ b = copL N b := by unfold copL; rw [Hl.out]
   rw [hcop] at ho5
   refine (put_any A5 (6 + m) c5 (copL N b) _ ho5.rd (by omega)).mono ?_
   rintro e w6 ⟨A6,c6,rfl,ho6,hb6⟩
   have hB6 := below_next hB5 hb6
   have hs5 := hB5.size
   have hfl6 := hfl4.below hB6
   have hF6 : Fr (fun g => g = f ∨ g = bb) w w6 := hFr4.next hB6
   clear ho0 hb0 hb5 hb6 hcop ho5 hrd4 hfl4
   go_wp2_with fail
   refine (cellat_any t _ htl).mono ?_
   rintro e w' ⟨rfl,rfl⟩
   go_wp2_with fail
   refine Calls.mono (show Calls Tryz.prog 41 #[.pointer (some ⟨f,0,none⟩),.int .i64 ((t * 256 : Nat) : Int),.slice A6 (6 + m + 4) c6] w6 _ from program_any f bb (t * 256) (6 + m + 4) c6 A6 _ _ _ wear w6 hfl6 ho6.rd (by omega) (fun ad hA => ⟨ho6.new_ne (by omega) ad hA,ho6.new_ne (by omega) ad hA⟩)) ?_
   rintro e w7 ⟨rfl,hfl7,hF7⟩
   have hFr7 := hF6.trans hF7
   have hs7 := hF7.size
   have hs6 := hB6.size
   clear hF7 hF6 hfl6
   go_wp2_with fail
   refine (cellat_any t _ htl).mono ?_
   rintro e w' ⟨rfl,rfl⟩
   go_wp2_with fail
   have hb0 := below_alloc1 w7 (.cells #[Value.int .u8 0] 5)
   have hz : Rd (w7.alloc (.cells #[.int .u8 0] 5)) (some ⟨w7.heap.size,0,none⟩) 1 1 [0] := Rd.one w7 5 0
   have hq : ((t : Int) * 256 + (6 + (m : Int) + 4)) = ((t * 256 + (6 + m + 4) : Nat) : Int) := by omega
   have hlast := program_any f bb (t * 256 + (6 + m + 4)) 1 1 (some ⟨w7.heap.size,0,none⟩) [0] _ _ wear _ (hfl7.below hb0) hz (by omega) (fun ad hA => by
     cases hA
     exact ⟨by show w7.heap.size ≠ f; omega,by show w7.heap.size ≠ bb; omega⟩)
   rw [← hq] at hlast
   clear hq
   refine hlast.mono ?_
   rintro e w8 ⟨rfl,hfl8,hF8⟩
   go_wp2_with fail
   go_ret
   exact ⟨rfl,by rw [hW.out,Hl.out,Ht.out]; exact hfl8,(hFr7.next hb0).trans hF8⟩
theorem progN_get (l : List UInt8) (at_ : Nat) (b : List UInt8) (j : Nat) (x : UInt8) (hx : l[j]? = some x) : ∀ k,(progN l at_ b k)[j]? = some (if at_ ≤ j ∧ j < at_ + k then x &&& b.getD (j - at_) 0 else x) := by
 intro k
 induction k with
 | zero => rw [if_neg (by omega)]; exact hx
 | succ k ih =>
   have hj : j < l.length := (List.getElem?_eq_some_iff.1 hx).1
   unfold progN
   rw [List.getElem?_set]
   by_cases e : at_ + k = j
   · subst e
     rw [if_pos rfl,if_pos (by rw [progN_len]; exact hj),if_pos (by omega),List.getD_eq_getElem?_getD (l := progN l at_ b k),ih,if_neg (by omega),Nat.add_sub_cancel_left]
     rfl
   · rw [if_neg e,ih]
     by_cases h : at_ ≤ j ∧ j < at_ + k
     · rw [if_pos h,if_pos (by omega)]
     · rw [if_neg h,if_neg (by omega)]
theorem and_255 (x : UInt8) : 255 &&& x = x := by
 apply UInt8.toNat_inj.1
 rw [UInt8.toNat_and]
 have h := x.toNat_lt
 have : (255 : UInt8).toNat = 2 ^ 8 - 1 := rfl
 rw [this,Nat.and_comm,Nat.and_two_pow_sub_one_eq_mod,Nat.mod_eq_of_lt h]
theorem prog_read (l b : List UInt8) (at_ : Nat) (hb : ∀ j,at_ ≤ j → j < at_ + b.length → l[j]? = some 255) : ((progN l at_ b b.length).drop at_).take b.length = b := by
 apply List.ext_getElem?
 intro i
 rw [List.getElem?_take]
 by_cases hi : i < b.length
 · rw [if_pos hi,List.getElem?_drop,progN_get l at_ b (at_ + i) 255 (hb _ (by omega) (by omega)),if_pos (by omega),and_255,Nat.add_sub_cancel_left,List.getD_eq_getElem?_getD,List.getElem?_eq_getElem hi]
   rfl
 · rw [if_neg hi,List.getElem?_eq_none (by omega)]
theorem blank_get {l : List UInt8} {s : Nat} (h : blankL (sec l s) = true) (hl : s * 256 + 256 ≤ l.length) (j : Nat) (h1 : s * 256 ≤ j) (h2 : j < s * 256 + 256) : l[j]? = some 255 := by
 have hj : j < l.length := by omega
 have hm : l[j] ∈ sec l s := by
   unfold sec
   have : ((l.drop (s * 256)).take 256)[j - s * 256]? = some l[j] := by
     rw [List.getElem?_take,if_pos (by omega),List.getElem?_drop,show s * 256 + (j - s * 256) = j by omega,List.getElem?_eq_getElem hj]
   exact List.mem_of_getElem? this
 unfold blankL at h
 rw [List.all_eq_true] at h
 have := h _ hm
 rw [List.getElem?_eq_getElem hj]
 simpa using this
theorem slotmay_any (A : Option Addr) (n c : Nat) (w : World) (h1 : 1 ≤ n) (h2 : n ≤ 512) : Calls Tryz.prog 63 #[.slice A n c] w fun e w' => e = .returned (.bool true) ∧ w = w' := by
 have d1 : decide (1 ≤ (n : Int)) = true := by simp; omega
 have d2 : decide ((n : Int) ≤ 512) = true := by simp; omega
 go_enter Tryz.func63,Tryz.ntmps63
 go_wp2_with fail
 go_ret
 exact ⟨rfl,rfl⟩
theorem slotfirst_any (s : Nat) (w : World) (hs : s < 2) : Calls Tryz.prog 66 #[.int .i64 s] w fun e w' => e = .returned (.int .i64 (2 + (s : Int) * 2)) ∧ w = w' := by
 have h1 : (s : Int) < 2 := by omega
 go_enter Tryz.func66,Tryz.ntmps66
 go_wp2_with fail
 go_ret
 exact ⟨rfl,rfl⟩
theorem slotread_any (f bb s n : Nat) (l : List UInt8) (er : Nat → Int) (wear : Int) (w : World) (h : FlashAt w f bb l er wear) (hs : s < 2) (hn : n ≤ 512) :
   Calls Tryz.prog 45 #[.pointer (some ⟨f,0,none⟩),.int .i64 s,.int .i64 n] w fun e w' => ∃ A c,e = .returned (.tuple #[.slice A n c,.int .i64 0]) ∧ Own w' w.heap.size 5 A n c ((l.drop ((2 + s * 2) * 256)).take n) ∧ Below w.heap.size w w' := by
 have d3 : decide ((n : Int) < 0) = false := by simp
 have d4 : decide (512 < (n : Int)) = false := by simp; omega
 have hr := fread_any f bb ((2 + s * 2) * 256) n l er wear w h (by omega)
 have hq : (((2 + s * 2) * 256 : Nat) : Int) = (2 + (s : Int) * 2) * 256 := by omega
 rw [hq] at hr
 clear hq
 have hs' : (s : Int) < 2 := by omega
 by_cases h0 : s = 0
 · subst h0
   go_enter Tryz.func45,Tryz.ntmps45
   go_wp2_with fail
   refine Calls.mono (show Calls Tryz.prog 66 #[.int .i64 0] w _ from slotfirst_any 0 _ hs) ?_
   rintro e w1 ⟨rfl,rfl⟩
   go_wp2_with fail
   refine Calls.mono (show Calls Tryz.prog 103 #[.pointer (some ⟨f,0,none⟩),.int .i64 512,.int .i64 n] w _ from hr) ?_
   rintro e w2 ⟨A,c,rfl,ho,hb⟩
   go_wp2_with fail
   go_ret2
   exact ⟨A,c,rfl,ho,hb⟩
 · obtain rfl : s = 1 := by omega
   go_enter Tryz.func45,Tryz.ntmps45
   go_wp2_with fail
   refine Calls.mono (show Calls Tryz.prog 66 #[.int .i64 1] w _ from slotfirst_any 1 _ hs) ?_
   rintro e w1 ⟨rfl,rfl⟩
   go_wp2_with fail
   refine Calls.mono (show Calls Tryz.prog 103 #[.pointer (some ⟨f,0,none⟩),.int .i64 1024,.int .i64 n] w _ from hr) ?_
   rintro e w2 ⟨A,c,rfl,ho,hb⟩
   go_wp2_with fail
   go_ret2
   exact ⟨A,c,rfl,ho,hb⟩
def slotC (v : BitVec 32) (n : Nat) (h : Value) : Array Value := #[.int .u32 (V v),.int .i64 n,h]
theorem size41 (v : BitVec 32) (n : Nat) (h : Value) : (Tryz.prog.info? 41).map (·.size) = some (slotC v n h).size := by
 have : (Tryz.prog.info? 41).map (·.size) = some 3 := by kernel_rfl
 rw [this]; rfl
theorem one41 (v : BitVec 32) (n : Nat) (A : Option Addr) (m c : Nat) : (slotC v n (.slice A m c)).all (·.oneCell') = true := by simp [slotC,Value.oneCell']
theorem slotof_any (v : BitVec 32) (A : Option Addr) (n c : Nat) (b : List UInt8) (w : World) (hr : Rd w A n c b) (h1 : 1 ≤ n) (h2 : n ≤ 512) :
   Calls Tryz.prog 61 #[.int .u32 (V v),.slice A n c] w fun e w' => ∃ H f,e = .returned (.tuple #[.agg (slotC v n (.slice H 32 f)),.bool true]) ∧ Own w' w.heap.size 5 H 32 f (sha b) ∧ Below w.heap.size w w' := by
 have hz0 : Blk (w.alloc (.cells (slotC 0#32 0 (.slice none 0 0)) 41)) w.heap.size (slotC 0#32 0 (.slice none 0 0)) 41 := Blk.new _ _ _
 have hB0 : Below w.heap.size w (w.alloc (.cells (slotC 0#32 0 (.slice none 0 0)) 41)) := below_alloc1 _ _
 go_enter Tryz.func61,Tryz.ntmps61
 go_wp2_with fail
 refine (slotmay_any A n c _ h1 h2).mono ?_
 rintro e w1 ⟨rfl,rfl⟩
 go_wp2_with fail
 refine (shasum_any A n c b _ (hr.below hB0) (by omega)).mono ?_
 rintro e w1 ⟨H,f,rfl,ho,hb1⟩
 have hz1 := hz0.below hb1
 have hB1 := below_next hB0 hb1
 have hs0 := hB0.size
 have hsz := size41 v n (.slice H 32 f)
 go_wp2_with (first
   | ((with_reducible refine at_store ?_); refine wpList_store_row rfl 41 (.tmp 4) (.tmp 15) rfl w.heap.size (slotC v n (.slice H 32 f)) rfl rfl 41 (slotC 0#32 0 (.slice none 0 0)) hz1 hsz rfl (one41 _ _ _ _ _) ?_))
 refine bodyPost_ret (results_cell_slot Tryz.results61 _ _ w.heap.size 41 _ (0,0) _ _ rfl rfl (setRow_heap _ _ _ _ _ _ hz1) Tryz.underlying41 rfl hsz) rfl ?_
 exact ⟨H,f,rfl,(ho.mono hs0).setRow hz1 (by decide) _,below_setRow hB1 (Nat.le_refl _) _⟩
theorem slotclear_any (f bb s : Nat) (l : List UInt8) (er : Nat → Int) (wear : Int) (w : World) (h : FlashAt w f bb l er wear) (hs : s < 2) (hb : ∀ k,k < 2 → blankL (sec l (2 + s * 2 + k)) = true) :
   Calls Tryz.prog 65 #[.pointer (some ⟨f,0,none⟩),.int .i64 s] w fun e w' => e = .returned (.int .i64 0) ∧ Below w.heap.size w w' := by
 have hs' : (s : Int) < 2 := by omega
 go_enter Tryz.func65,Tryz.ntmps65
 go_wp2_with fail
 go_loopw [8] (fun v wr => ∃ k : Nat,k ≤ 2 ∧ v = .int .i64 (k : Int) ∧ Below w.heap.size w wr) (fun v _ => 2 - (intOf v).toNat)
 case atStart => exact ⟨0,by omega,rfl,Below.refl _ _⟩
 case round =>
   obtain ⟨k,hk,rfl,hB⟩ := hrel
   by_cases hlt : k < 2
   · have hlt' : (k : Int) < 2 := by omega
     have hbl := blank_any f bb ((2 + s * 2 + k) * 256) 256 l er wear wr (h.below hB) (by omega)
     have hbk := hb k hlt
     unfold sec at hbk
     rw [hbk] at hbl
     have hq : (((2 + s * 2 + k) * 256 : Nat) : Int) = (2 + (s : Int) * 2 + (k : Int)) * 256 := by omega
     rw [hq] at hbl
     clear hq hbk hb
     go_wp2_with fail
     refine (slotfirst_any s _ hs).mono ?_
     rintro e w1 ⟨rfl,rfl⟩
     go_wp2_with fail
     refine Calls.mono (show Calls Tryz.prog 117 #[.pointer (some ⟨f,0,none⟩),.int .i64 ((2 + (s : Int) * 2 + (k : Int)) * 256),.int .i64 256] wr _ from hbl) ?_
     rintro e w2 ⟨rfl,hb2⟩
     go_wp2_with fail
     go_roundw
     case rel => exact ⟨k + 1,by omega,by go_num,below_next hB hb2⟩
     case measure => simp [intOf]; omega
   · obtain rfl : k = 2 := by omega
     go_wp2_with fail
     go_ret
     exact ⟨rfl,hB⟩
def imgC (l b : List UInt8) (s : Nat) : List UInt8 := progN l ((2 + s * 2) * 256) b b.length
theorem slotwrite_any (f bb s n c : Nat) (A : Option Addr) (b l : List UInt8) (er : Nat → Int) (wear : Int) (w : World) (h : FlashAt w f bb l er wear) (hr : Rd w A n c b) (h1 : 1 ≤ n) (h2 : n ≤ 512) (hs : s < 2)
   (hb : ∀ k,k < 2 → blankL (sec l (2 + s * 2 + k)) = true) (hX : ∀ ad,A = some ad → ad.block ≠ f ∧ ad.block ≠ bb) :
   Calls Tryz.prog 27 #[.pointer (some ⟨f,0,none⟩),.int .i64 s,.slice A n c] w fun e w' => e = .returned (.int .i64 0) ∧ FlashAt w' f bb (imgC l b s) er wear ∧ Fr (fun g => g = f ∨ g = bb) w w' := by
 have hl := h.2.2
 have Hl := hide hr.1
 have hread : Hid (((imgC l b s).drop ((2 + s * 2) * 256)).take n = b) := hide (by
   unfold imgC
   rw [← Hl.out]
   refine prog_read l b _ (fun j j1 j2 => ?_)
   rw [Hl.out] at j2
   by_cases hj : j < (2 + s * 2 + 0) * 256 + 256
   · exact blank_get (hb 0 (by omega)) (by omega) j (by omega) hj
   · exact blank_get (hb 1 (by omega)) (by omega) j (by omega) (by omega))
 have hP : Hid (imgC l b s = progN l ((2 + s * 2) * 256) b n) := hide (by unfold imgC; rw [Hl.out])
 have hq : (((2 + s * 2) * 256 : Nat) : Int) = (2 + (s : Int) * 2) * 256 := by omega
 have key : ∀ w4,Below w.heap.size w w4 → Calls Tryz.prog 41 #[.pointer (some ⟨f,0,none⟩),.int .i64 ((2 + (s : Int) * 2) * 256),.slice A n c] w4 fun e w' => e = .returned (.int .i64 0) ∧ FlashAt w' f bb (imgC l b s) er wear ∧ Fr (fun g => g = f ∨ g = bb) w4 w' := by
   intro w4 h4
   have := program_any f bb ((2 + s * 2) * 256) n c A b l er wear w4 (h.below h4) (hr.below h4) (by omega) hX
   rwa [hq,← hP.out] at this
 clear hq
 have d0 : (s = 0 ∨ s = 1) := by omega
 have Key := hide key
 clear key
 rcases d0 with rfl | rfl
 · go_enter Tryz.func27,Tryz.ntmps27
   go_wp2_with fail
   refine (slotmay_any A n c _ h1 h2).mono ?_
   rintro e w1 ⟨rfl,rfl⟩
   go_wp2_with fail
   refine (down_any f bb l er wear _ h).mono ?_
   rintro e w1 ⟨rfl,rfl⟩
   go_wp2_with fail
   refine Calls.mono (show Calls Tryz.prog 65 #[.pointer (some ⟨f,0,none⟩),.int .i64 0] w _ from slotclear_any f bb 0 l er wear w h hs hb) ?_
   rintro e w2 ⟨rfl,hb2⟩
   go_wp2_with fail
   refine Calls.mono (show Calls Tryz.prog 66 #[.int .i64 0] w2 _ from slotfirst_any 0 _ hs) ?_
   rintro e w' ⟨rfl,rfl⟩
   go_wp2_with fail
   refine Calls.mono (show Calls Tryz.prog 41 #[.pointer (some ⟨f,0,none⟩),.int .i64 512,.slice A n c] w2 _ from Key.out w2 hb2) ?_
   rintro e w3 ⟨rfl,hfl3,hF3⟩
   have hFr3 : Fr (fun g => g = f ∨ g = bb) w w3 := (Fr.of hb2).trans hF3
   have hrd3 := hr.fr hFr3 (fun _ ad hA hq => by
     rcases hq with hq | hq
     · exact (hX ad hA).1 hq
     · exact (hX ad hA).2 hq)
   go_wp2_with fail
   refine Calls.mono (show Calls Tryz.prog 45 #[.pointer (some ⟨f,0,none⟩),.int .i64 0,.int .i64 n] w3 _ from slotread_any f bb 0 n _ er wear w3 hfl3 hs h2) ?_
   rintro e w4 ⟨A4,c4,rfl,ho4,hb4⟩
   rw [hread.out] at ho4
   go_wp2_with fail
   refine (equals_any A4 A n c4 n c b b _ ho4.rd (hrd3.below hb4)).mono ?_
   rintro e w5 ⟨rfl,hb5⟩
   have hd : decide (b = b) = true := by simp
   rw [hd]
   have hB5 := below_next hb4 hb5
   go_wp2_with fail
   go_ret
   exact ⟨rfl,hfl3.below hB5,hFr3.next hB5⟩
 · go_enter Tryz.func27,Tryz.ntmps27
   go_wp2_with fail
   refine (slotmay_any A n c _ h1 h2).mono ?_
   rintro e w1 ⟨rfl,rfl⟩
   go_wp2_with fail
   refine (down_any f bb l er wear _ h).mono ?_
   rintro e w1 ⟨rfl,rfl⟩
   go_wp2_with fail
   refine Calls.mono (show Calls Tryz.prog 65 #[.pointer (some ⟨f,0,none⟩),.int .i64 1] w _ from slotclear_any f bb 1 l er wear w h hs hb) ?_
   rintro e w2 ⟨rfl,hb2⟩
   go_wp2_with fail
   refine Calls.mono (show Calls Tryz.prog 66 #[.int .i64 1] w2 _ from slotfirst_any 1 _ hs) ?_
   rintro e w' ⟨rfl,rfl⟩
   go_wp2_with fail
   refine Calls.mono (show Calls Tryz.prog 41 #[.pointer (some ⟨f,0,none⟩),.int .i64 1024,.slice A n c] w2 _ from Key.out w2 hb2) ?_
   rintro e w3 ⟨rfl,hfl3,hF3⟩
   have hFr3 : Fr (fun g => g = f ∨ g = bb) w w3 := (Fr.of hb2).trans hF3
   have hrd3 := hr.fr hFr3 (fun _ ad hA hq => by
     rcases hq with hq | hq
     · exact (hX ad hA).1 hq
     · exact (hX ad hA).2 hq)
   go_wp2_with fail
   refine Calls.mono (show Calls Tryz.prog 45 #[.pointer (some ⟨f,0,none⟩),.int .i64 1,.int .i64 n] w3 _ from slotread_any f bb 1 n _ er wear w3 hfl3 hs h2) ?_
   rintro e w4 ⟨A4,c4,rfl,ho4,hb4⟩
   rw [hread.out] at ho4
   go_wp2_with fail
   refine (equals_any A4 A n c4 n c b b _ ho4.rd (hrd3.below hb4)).mono ?_
   rintro e w5 ⟨rfl,hb5⟩
   have hd : decide (b = b) = true := by simp
   rw [hd]
   have hB5 := below_next hb4 hb5
   go_wp2_with fail
   go_ret
   exact ⟨rfl,hfl3.below hB5,hFr3.next hB5⟩
theorem something_yes (v : BitVec 32) (n : Nat) (A : Option Addr) (c : Nat) (w : World) (h1 : 1 ≤ n) (h2 : n ≤ 512) :
   Calls Tryz.prog 158 #[.agg (slotC v n (.slice A 32 c))] w fun e w' => e = .returned (.bool true) ∧ w' = w.alloc (.cells (slotC v n (.slice A 32 c)) 41) := by
 have d1 : decide (1 ≤ (n : Int)) = true := by simp; omega
 have d2 : decide ((n : Int) ≤ 512) = true := by simp; omega
 unfold slotC at *
 go_enter Tryz.func158,Tryz.ntmps158
 go_wp2_with fail
 go_ret
 exact ⟨rfl,rfl⟩
theorem something_no (v : BitVec 32) (n : Nat) (A : Option Addr) (c : Nat) (w : World) :
   Calls Tryz.prog 158 #[.agg (slotC v n (.slice A 0 c))] w fun e w' => e = .returned (.bool false) ∧ w' = w.alloc (.cells (slotC v n (.slice A 0 c)) 41) := by
 unfold slotC at *
 go_enter Tryz.func158,Tryz.ntmps158
 go_wp2_with fail
 go_ret
 exact ⟨rfl,rfl⟩
theorem nothing_yes (w : World) :
   Calls Tryz.prog 121 #[.agg (slotC 0#32 0 (.slice none 0 0))] w fun e w' => e = .returned (.bool true) ∧ w' = w.alloc (.cells (slotC 0#32 0 (.slice none 0 0)) 41) := by
 have hv : V 0#32 = 0 := rfl
 unfold slotC at *
 go_enter Tryz.func121,Tryz.ntmps121
 go_wp2_with fail
 go_ret
 exact ⟨rfl,rfl⟩
theorem nothing_no (v : BitVec 32) (n : Nat) (A : Option Addr) (c : Nat) (w : World) (h1 : 1 ≤ n) :
   Calls Tryz.prog 121 #[.agg (slotC v n (.slice A 32 c))] w fun e w' => e = .returned (.bool false) ∧ w' = w.alloc (.cells (slotC v n (.slice A 32 c)) 41) := by
 have d1 : ((n : Int) == 0) = false := by simp; omega
 unfold slotC at *
 by_cases hv : v = 0#32
 · subst hv
   have e0 : (V 0#32 == 0) = true := rfl
   go_enter Tryz.func121,Tryz.ntmps121
   go_wp2_with fail
   go_ret
   exact ⟨rfl,rfl⟩
 · have e0 : (V v == 0) = false := by
     unfold V
     simp
     intro h
     exact hv (BitVec.eq_of_toNat_eq (by simpa using h))
   go_enter Tryz.func121,Tryz.ntmps121
   go_wp2_with fail
   go_ret
   exact ⟨rfl,rfl⟩
theorem none_yes (w : World) :
   Calls Tryz.prog 159 #[.agg (manC 0#32 0#32 0 0 0 (.slice none 0 0))] w fun e w' => e = .returned (.bool true) ∧ w' = w.alloc (.cells (manC 0#32 0#32 0 0 0 (.slice none 0 0)) 44) := by
 unfold manC at *
 go_enter Tryz.func159,Tryz.ntmps159
 go_wp2_with fail
 go_ret
 exact ⟨rfl,rfl⟩
theorem ba {w x : World} (h : Below w.heap.size w x) (o : Obj) : Below w.heap.size w (x.alloc o) := h.alloc h.size o
def steC (act trial : Nat) (fl ge v0 : BitVec 32) (n0 : Nat) (h0 : Value) (v1 : BitVec 32) (n1 : Nat) (h1 : Value) (on : Bool) (s v : BitVec 32) (L S P : Nat) (h : Value) : Array Value :=
 #[.int .i64 act,.int .i64 trial,.int .u32 (V fl),.int .u32 (V ge),.int .u32 (V v0),.int .i64 n0,h0,.int .u32 (V v1),.int .i64 n1,h1,.bool on,.int .u32 (V s),.int .u32 (V v),.int .i64 L,.int .i64 S,.int .i64 P,h]
theorem stmay_first (fl ge v0 : BitVec 32) (n0 : Nat) (A : Option Addr) (c : Nat) (w : World) (h1 : 1 ≤ n0) (h2 : n0 ≤ 512) :
   Calls Tryz.prog 102 #[.agg (steC 0 0 fl ge v0 n0 (.slice A 32 c) 0#32 0 (.slice none 0 0) false 0#32 0#32 0 0 0 (.slice none 0 0))] w fun e w' => e = .returned (.bool true) ∧ Below w.heap.size w w' := by
 unfold steC
 have hV : V 0#32 = 0 := rfl
 rw [hV]
 have y1 := fun w => something_yes v0 n0 A c w h1 h2
 have y2 := fun w => something_no 0#32 0 none 0 w
 have y3 := fun w => nothing_yes w
 have y4 := fun w => none_yes w
 unfold slotC at y1 y2 y3
 unfold manC at y4
 rw [hV] at y2 y3 y4
 have Y1 := hide y1
 have Y2 := hide y2
 have Y3 := hide y3
 have Y4 := hide y4
 clear y1 y2 y3 y4 hV
 go_enter Tryz.func102,Tryz.ntmps102
 go_wp2_with fail
 refine (Y1.out _).mono ?_
 rintro e w1 ⟨rfl,rfl⟩
 go_wp2_with fail
 refine (Y2.out _).mono ?_
 rintro e w1 ⟨rfl,rfl⟩
 go_wp2_with fail
 refine (Y3.out _).mono ?_
 rintro e w1 ⟨rfl,rfl⟩
 go_wp2_with fail
 refine (Y4.out _).mono ?_
 rintro e w1 ⟨rfl,rfl⟩
 go_wp2_with fail
 go_ret
 exact ⟨rfl,ba (ba (ba (ba (ba (ba (Below.refl _ _) _) _) _) _) _) _⟩
theorem stmay_on (fl ge v0 s v : BitVec 32) (n0 L S P : Nat) (A B : Option Addr) (c d : Nat) (w : World) (h1 : 1 ≤ n0) (h2 : n0 ≤ 512) (hm : manOk L S P = true) (hL : L ≤ 1000000) (hS : S ≤ 1000000) :
   Calls Tryz.prog 102 #[.agg (steC 0 0 fl ge v0 n0 (.slice A 32 c) 0#32 0 (.slice none 0 0) true s v L S P (.slice B 32 d))] w fun e w' => e = .returned (.bool true) ∧ Below w.heap.size w w' := by
 unfold steC
 have hV : V 0#32 = 0 := rfl
 rw [hV]
 have y1 := fun w => something_yes v0 n0 A c w h1 h2
 have y2 := fun w => something_no 0#32 0 none 0 w
 have y3 := fun w => nothing_yes w
 have y4 := fun w => may_any s v L S P B 32 d w hL hS
 unfold slotC at y1 y2 y3
 unfold manC at y4
 rw [hV] at y2 y3
 rw [hm] at y4
 have Y1 := hide y1
 have Y2 := hide y2
 have Y3 := hide y3
 have Y4 := hide y4
 clear y1 y2 y3 y4 hV hm
 go_enter Tryz.func102,Tryz.ntmps102
 go_wp2_with fail
 refine (Y1.out _).mono ?_
 rintro e w1 ⟨rfl,rfl⟩
 go_wp2_with fail
 refine (Y2.out _).mono ?_
 rintro e w1 ⟨rfl,rfl⟩
 go_wp2_with fail
 refine (Y3.out _).mono ?_
 rintro e w1 ⟨rfl,rfl⟩
 go_wp2_with fail
 refine (Y4.out _).mono ?_
 rintro e w1 ⟨rfl,hb⟩
 go_wp2_with fail
 go_ret
 exact ⟨rfl,below_next (ba (ba (ba (ba (ba (Below.refl _ _) _) _) _) _) _) hb⟩
theorem stmay_two (trial : Nat) (fl ge v0 v1 : BitVec 32) (n0 n1 : Nat) (A B : Option Addr) (c d : Nat) (w : World) (ht : trial ≤ 3) (h1 : 1 ≤ n0) (h2 : n0 ≤ 512) (k1 : 1 ≤ n1) (k2 : n1 ≤ 512) :
   Calls Tryz.prog 102 #[.agg (steC 1 trial fl ge v0 n0 (.slice A 32 c) v1 n1 (.slice B 32 d) false 0#32 0#32 0 0 0 (.slice none 0 0))] w fun e w' => e = .returned (.bool true) ∧ Below w.heap.size w w' := by
 unfold steC
 have hV : V 0#32 = 0 := rfl
 rw [hV]
 have d1 : decide ((trial : Int) < 0) = false := by simp
 have d2 : decide (3 < (trial : Int)) = false := by simp; omega
 have y1 := fun w => something_yes v0 n0 A c w h1 h2
 have y2 := fun w => something_yes v1 n1 B d w k1 k2
 have y4 := fun w => none_yes w
 unfold slotC at y1 y2
 unfold manC at y4
 rw [hV] at y4
 have Y1 := hide y1
 have Y2 := hide y2
 have Y4 := hide y4
 clear y1 y2 y4 hV
 go_enter Tryz.func102,Tryz.ntmps102
 go_wp2_with fail
 refine (Y2.out _).mono ?_
 rintro e w1 ⟨rfl,rfl⟩
 go_wp2_with fail
 refine (Y1.out _).mono ?_
 rintro e w1 ⟨rfl,rfl⟩
 go_wp2_with fail
 refine (Y4.out _).mono ?_
 rintro e w1 ⟨rfl,rfl⟩
 go_wp2_with fail
 go_ret
 exact ⟨rfl,ba (ba (ba (ba (ba (Below.refl _ _) _) _) _) _) _⟩
theorem addAt2 (g o j : Nat) : (⟨g,o,none⟩ : Addr).add j = ⟨g,o + j,none⟩ := by unfold Addr.add; split <;> simp_all
section
variable {P : Program}
theorem run_loadVar_part (w : World) (g off : Nat) (t ty : TypeId) (cs part : Array Value) (fr : Nat × Nat) (d : TypeDesc) (hg : w.heap[g]? = some (.cells cs t fr)) (hp : ∀ (j : Nat) v,part[j]? = some v → cs[off + j]? = some v)
   (hu : P.underlying ty = some d) (hd : (match d with | .struct _ | .array _ _ => true | _ => false) = true) (hi : (P.info? ty).map (·.size) = some part.size) :
   (loadVar ty ⟨g,off,none⟩).run P w = .ok (.agg part) w := by
 have hl : (loadCells ⟨g,off,none⟩ part.toList.length).run P w = .ok part.toList.toArray w :=
   run_loadCells_list (P := P) w ⟨g,off,none⟩ part.toList (fun j v hv => by
     rw [addAt2,cell_of_row w g _ cs t fr hg]
     exact hp j v (by simpa using hv))
 cases hq : P.info? ty with
 | none => simp [hq] at hi
 | some i =>
   have hs : i.size = part.size := by simpa [hq] using hi
   have hagg : (isAgg ty).run P w = .ok true w := by
     unfold isAgg
     rw [Sem.run_bind,run_underlying hu w]
     cases d <;> simp_all
   simp only [Array.length_toList,Array.toArray_toList] at hl
   simp [loadVar,Sem.run_bind,hagg,sizeOf,typeInfo,hq,hs,hl]
theorem wpList_load_part {ops : Array Oper} {rest : List Oper} {o : Oper} {a : Act} {w : World} {Q : Exit → Act → World → Prop} (hgd : o.guard = none) (ty : TypeId) (x : Operand) (ho : o.op = .load ty x)
   (g off : Nat) (hx : a.eval x = .pointer (some ⟨g,off,none⟩)) (t : TypeId) (cs part : Array Value) (fr : Nat × Nat) (d : TypeDesc) (hg : w.heap[g]? = some (.cells cs t fr)) (hp : ∀ (j : Nat) v,part[j]? = some v → cs[off + j]? = some v)
   (hu : P.underlying ty = some d) (hd : (match d with | .struct _ | .array _ _ => true | _ => false) = true) (hi : (P.info? ty).map (·.size) = some part.size)
   (h : wpList P ops Q rest (a.put o.dst (.agg part)) w) : wpList P ops Q (o :: rest) a w :=
 wpList_plain hgd fun _ hK => by
   unfold Oper.wp execOp
   simp only [ho,hx,Instr.loadAt,Instr.sureAddr,Sem.run_bind,Sem.run_pure,Result.andThen_ok,run_loadVar_part w g off t ty cs part fr d hg hp hu hd hi]
   exact hK _ _ h
theorem run_storeCells_at (g off : Nat) (t : TypeId) : ∀ (vs : List Value) (i : Nat) (cur : Array Value) (w : World),w.heap[g]? = some (.cells cur t (0,0)) → off + i + vs.length ≤ cur.size → (∀ v ∈ vs,v.oneCell' = true) →
   (storeCells ⟨g,off,none⟩ vs i).run P w = .ok () (w.setRow g (cur.toList.take (off + i) ++ vs ++ cur.toList.drop (off + i + vs.length)).toArray)
 | [],i,cur,w,hg,hl,_ => by
   have : cur.toList.take (off + i) ++ [] ++ cur.toList.drop (off + i + 0) = cur.toList := by simp
   have hlt : g < w.heap.size := (Array.getElem?_eq_some_iff.1 hg).1
   have hv : w.heap[g] = .cells cur t (0,0) := (Array.getElem?_eq_some_iff.1 hg).2
   simp only [List.length_nil,this,Array.toArray_toList]
   show Result.ok () w = _
   congr 1
   unfold World.setRow
   cases w with
   | mk heap tape drawn os output =>
     congr 1
     apply Array.ext
     · simp
     · intro k h1 h2
       simp only [Array.getElem_modify]
       split
       · rename_i hk; subst hk; simp at hv; simp [hv]
       · rfl
 | v :: rest,i,cur,w,hg,hl,h1 => by
   have hi : off + i < cur.size := by simp at hl; omega
   have hcell : w.cell? ⟨g,off + i,none⟩ = some cur[off + i] := by simp [World.cell?,hg,hi]
   have hfro : w.frozen? ⟨g,off + i,none⟩ = false := by simp [World.frozen?,hg]
   have hst : (store ((⟨g,off,none⟩ : Addr).add i) v).run P w = .ok () (w.setRow g (cur.setIfInBounds (off + i) v)) := by
     rw [addAt2,run_store P w _ v _ (h1 v (by simp)),hcell]
     simp [hfro,setCell_eq_setRow w g (off + i) cur t (0,0) v hg]
   have ih := run_storeCells_at g off t rest (i + 1) (cur.setIfInBounds (off + i) v) (w.setRow g (cur.setIfInBounds (off + i) v)) (setRow_heap w g cur _ t _ hg) (by simp at hl ⊢; omega) (fun x hx => h1 x (by simp [hx]))
   simp only [storeCells,Sem.run_bind,hst,Result.andThen_ok,ih,setRow_setRow]
   congr 3
   have hc : (cur.setIfInBounds (off + i) v).toList = cur.toList.set (off + i) v := by simp
   rw [hc]
   have e1 : (cur.toList.set (off + i) v).take (off + (i + 1)) = cur.toList.take (off + i) ++ [v] := by
     rw [show off + (i + 1) = off + i + 1 by omega,List.take_add_one,List.take_set_of_le (Nat.le_refl _)]
     simp [hi]
   have e2 : (cur.toList.set (off + i) v).drop (off + (i + 1) + rest.length) = cur.toList.drop (off + i + (v :: rest).length) := by
     rw [List.drop_set_of_lt (by omega),List.length_cons]
     congr 1
     omega
   rw [e1,e2]
   simp
theorem run_storeVar_part (w : World) (g off : Nat) (t ty : TypeId) (old cells new : Array Value) (hg : w.heap[g]? = some (.cells old t (0,0))) (hi : (P.info? ty).map (·.size) = some cells.size)
   (ho : off + cells.size ≤ old.size) (hn : (old.toList.take off ++ cells.toList ++ old.toList.drop (off + cells.size)).toArray = new) (h1 : cells.all (·.oneCell') = true) :
   (storeVar ty ⟨g,off,none⟩ (.agg cells)).run P w = .ok () (w.setRow g new) := by
 have := run_storeCells_at (P := P) g off t cells.toList 0 old w hg (by simp; omega) (fun v hv => (Array.all_eq_true_iff_forall_mem.1 h1) v (by simpa using hv))
 simp only [Nat.add_zero,Array.length_toList,hn] at this
 cases hq : P.info? ty with
 | none => simp [hq] at hi
 | some i =>
   have hs : cells.size = i.size := by simp [hq] at hi; omega
   simp [storeVar,sizeOf,typeInfo,hq,Value.cells,hs,this]
theorem wpList_store_part {ops : Array Oper} {rest : List Oper} {o : Oper} {a : Act} {w : World} {Q : Exit → Act → World → Prop} (hgd : o.guard = none) (ty : TypeId) (x y : Operand) (ho : o.op = .store ty x y)
   (g off : Nat) (cells : Array Value) (hx : a.eval x = .pointer (some ⟨g,off,none⟩)) (hy : a.eval y = .agg cells)
   (t : TypeId) (old new : Array Value) (hg : w.heap[g]? = some (.cells old t (0,0))) (hi : (P.info? ty).map (·.size) = some cells.size)
   (hold : off + cells.size ≤ old.size) (hn : (old.toList.take off ++ cells.toList ++ old.toList.drop (off + cells.size)).toArray = new) (h1 : cells.all (·.oneCell') = true)
   (h : wpList P ops Q rest (a.put o.dst undef) (w.setRow g new)) : wpList P ops Q (o :: rest) a w :=
 wpList_plain hgd fun _ hK => by
   unfold Oper.wp execOp
   simp only [ho,hx,hy,Instr.storeAt,Instr.sureAddr,Sem.run_bind,Sem.run_pure,Result.andThen_ok,run_storeVar_part w g off t ty old cells new hg hi hold hn h1]
   exact hK _ _ h
theorem wpList_load_row_w {ops : Array Oper} {rest : List Oper} {o : Oper} {a : Act} {w : World} {Q : Exit → Act → World → Prop} (hw : Region.wanted o (yielded ops a.tmps) = true) (ty : TypeId) (x : Operand) (ho : o.op = .load ty x)
   (g : Nat) (hx : a.eval x = .pointer (some ⟨g,0,none⟩)) (t : TypeId) (cs : Array Value) (fr : Nat × Nat) (d : TypeDesc) (hg : w.heap[g]? = some (.cells cs t fr))
   (hu : P.underlying ty = some d) (hd : (match d with | .struct _ | .array _ _ => true | _ => false) = true) (hi : (P.info? ty).map (·.size) = some cs.size)
   (h : wpList P ops Q rest (a.put o.dst (.agg cs)) w) : wpList P ops Q (o :: rest) a w :=
 wpList_step fun _ hK => by
   rw [if_pos hw]
   exact wp_load_row ty x ho g hx t cs fr d hg hu hd hi (hK _ _ h)
def IsZ (P : Program) (e : TypeId) (z : Value) (bytes : Nat) : Prop := (P.info? e).map (fun i => (i.zero,i.size,i.bytes)) = some (some z,1,bytes)
theorem madeZ (z : Value) (hz : z.cells = #[z]) (n : Nat) : madeCells z.cells (n * 1) = Array.replicate n z := by
 apply Array.ext
 · simp [madeCells]
 · intro i h1 h2
   simp [madeCells,hz,Nat.mod_one]
theorem wpList_makeZ (w : World) {ops : Array Oper} {rest : List Oper} {o : Oper} {a : Act} {Q : Exit → Act → World → Prop}
   (hg : o.guard = none) (l c : Operand) (t : TypeId) (hop : o.op = Op.makeSlice t l c)
   (e : TypeId) (z : Value) (bytes : Nat) (ht : P.underlying t = some (.slice e)) (hi : IsZ P e z bytes) (hz : z.cells = #[z])
   (kl kc : IntKind) (L C : Int) (n : Nat) (hl : a.eval l = .int kl L) (hc : a.eval c = .int kc C) (hL : L = (n : Int)) (hC : C = (n : Int)) (hb : bytes * n ≤ 281474976710656) (hn : n ≤ 1000000)
   (hK : wpList P ops Q rest (a.put o.dst (.slice (some ⟨w.heap.size,0,none⟩) n n)) (w.alloc (.cells (Array.replicate n z) e))) :
   wpList P ops Q (o :: rest) a w := by
 refine wpList_plain hg fun K hK' => ?_
 unfold IsZ at hi
 obtain ⟨i,hi,hzz⟩ := Option.map_eq_some_iff.1 hi
 simp only [Prod.mk.injEq] at hzz
 have hbn : ((bytes * n : Nat) : Int) ≤ 281474976710656 := by omega
 rw [Int.natCast_mul] at hbn
 have hrun := run_make (P := P) w t e i z ht hi hzz.1 kl kc (n : Int) (n : Int) (by omega) (by omega) (by rw [hzz.2.2]; exact hbn) (by omega)
 rw [hzz.2.1,Int.toNat_natCast,madeZ z hz] at hrun
 subst hL
 subst hC
 unfold Oper.wp
 simp [execOp,hop,hl,hc,hrun,Result.andThen]
 exact hK' _ _ hK
end
theorem Blk.setRow {w : World} {g : Nat} {cs : Array Value} {t : TypeId} (h : Blk w g cs t) (new : Array Value) : Blk (w.setRow g new) g new t := setRow_heap _ _ _ _ _ _ h
theorem Blk.setRow_other {w : World} {g k : Nat} {cs : Array Value} {t : TypeId} (h : Blk w g cs t) (hk : g ≠ k) (new : Array Value) : Blk (w.setRow k new) g cs t := (Go.setRow_other w k g new hk).trans h
theorem blk_of_row {w : World} {base g n : Nat} {e : TypeId} {xs : List Value} (h : w.ownsRow base e 1 (.slice (some ⟨g,0,none⟩) n n) n xs) : Blk w g xs.toArray e := by
 rcases h.2 with ⟨h2,_⟩ | ⟨g2,cap,cur,hv,_,hg,_,_,hs,ht⟩
 · simp at h2
 · simp only [Value.slice.injEq,Option.some.injEq,Addr.mk.injEq,and_true,true_and] at hv
   obtain ⟨rfl,rfl⟩ := hv
   have hcur : cur = xs.toArray := by
     rw [Nat.mul_one] at hs ht
     rw [List.take_of_length_le (by simp [hs])] at ht
     rw [← ht]
   rw [← hcur]
   exact hg
def ints (L : List Nat) : Array Value := (L.map fun x : Nat => Value.int .i64 (x : Int)).toArray
theorem ints_get (L : List Nat) (i : Nat) : (ints L)[i]? = (L[i]?).map fun x : Nat => Value.int .i64 (x : Int) := by simp [ints]
theorem ints_getD (L : List Nat) (i : Nat) (h : i < L.length) : (ints L)[i]? = some (.int .i64 ((L.getD i 0 : Nat) : Int)) := by
 rw [ints_get,List.getElem?_eq_getElem h,List.getD_eq_getElem?_getD,List.getElem?_eq_getElem h]
 rfl
theorem ints_set (L : List Nat) (i x : Nat) : (ints L).setIfInBounds i (.int .i64 (x : Int)) = ints (L.set i x) := by
 apply Array.ext'
 simp [ints]
theorem ints_zero (n : Nat) : Array.replicate n (Value.int .i64 0) = ints (List.replicate n 0) := by
 apply Array.ext'
 simp [ints]
def rdC (A : Option Addr) (n c : Nat) : Array Value := #[.slice A n c,.int .i64 0]
theorem Rd.apart {w : World} {A : Option Addr} {n c g : Nat} {l : List UInt8} {cs : Array Value} {t : TypeId} (h : Rd w A n c l) (hb : Blk w g cs t) (hc : ∀ (i : Nat) (x : Nat),cs[i]? ≠ some (.int .u8 (x : Int))) : 0 < n → ∀ ad,A = some ad → ad.block ≠ g := by
 intro hn ad hA hg
 obtain ⟨ad',x,e,hl,hq⟩ := h.at_ hn
 cases e.symm.trans hA
 have h0 : ad.add 0 = ⟨ad.block,ad.off + 0,ad.spot⟩ := rfl
 rw [h0,hg] at hq
 unfold Blk at hb
 simp only [World.cell?,hb] at hq
 split at hq
 · cases hq
 · exact hc _ _ hq
theorem rdC_u8 (A : Option Addr) (n c : Nat) (i x : Nat) : (rdC A n c)[i]? ≠ some (.int .u8 (x : Int)) := by
 unfold rdC
 match i with
 | 0 => simp
 | 1 => simp
 | k + 2 => simp
def RdrAt (w : World) (r : Nat) (l : List UInt8) : Prop := ∃ A c,Blk w r (rdC A l.length c) 170 ∧ Rd w A l.length c l
theorem RdrAt.below {w w' : World} {r : Nat} {l : List UInt8} (h : RdrAt w r l) (hb : Below w.heap.size w w') : RdrAt w' r l := by
 obtain ⟨A,c,h1,h2⟩ := h
 exact ⟨A,c,h1.below hb,h2.below hb⟩
theorem RdrAt.lt {w : World} {r : Nat} {l : List UInt8} (h : RdrAt w r l) : r < w.heap.size := by
 obtain ⟨A,c,h1,h2⟩ := h
 exact h1.lt
theorem some_any (r k : Nat) (l : List UInt8) (w : World) (h : RdrAt w r l) (hk : k ≤ l.length) (hk1 : k ≤ 1000000) :
   Calls Tryz.prog 100 #[.pointer (some ⟨r,0,none⟩),.int .i64 k] w fun e w' => ∃ B d,e = .returned (.slice B k d) ∧ Own w' w.heap.size 5 B k d (l.take k) ∧ RdrAt w' r (l.drop k) ∧ Fr (· = r) w w' := by
 obtain ⟨A,c,hb,hr⟩ := h
 have hn0 : (l.drop k).length = l.length - k := List.length_drop
 obtain ⟨n,hn⟩ : ∃ n,l.length = n := ⟨_,rfl⟩
 unfold RdrAt
 rw [hn] at hb hr hk hn0
 have hap := hr.apart hb (rdC_u8 _ _ _)
 have c0 := hb.cell (i := 0) (v := .slice A n c) rfl
 have c1 := hb.cell (i := 1) (v := .int .i64 0) rfl
 have f0 := hb.free 0
 have hlt : decide ((n : Int) < (k : Int)) = false := by simp; omega
 have hc2 := hr.2.1
 have hk' : (k : Int) ≤ (c : Int) := by omega
 have hkl : (k : Int) ≤ (n : Int) := by omega
 have hlc : (n : Int) ≤ (c : Int) := by omega
 have hhi := hr.hi hk
 have Hn0 := hide hn0
 clear hn hn0
 have hF : ∀ v,Fr (· = r) w (w.setCell ⟨r,0,none⟩ v) := fun v => Fr.set (S := (· = r)) (p := ⟨r,0,none⟩) (Fr.refl _ _) (fun _ => rfl) v
 by_cases hq : c = k
 · obtain rfl : n = k := by omega
   have hlo := hr.lo_eq hk hq
   subst hq
   go_enter Tryz.func100,Tryz.ntmps100
   go_wp2_with fail
   refine (clone_any A _ _ _ _ (hhi.fr (hF _) (fun h ad e => hap (by omega) ad e)) hk1).mono ?_
   rintro e w2 ⟨B,d,rfl,ho,hB⟩
   have hb2 := (hb.set 0 (.slice A 0 0)).below hB
   have hlo2 := (hlo.fr (hF (.slice A 0 0)) (fun h ad e => by omega)).below hB
   go_wp2_with fail
   go_ret
   simp at ho
   refine ⟨B,d,rfl,ho,⟨A,0,?_,?_⟩,(hF _).next hB⟩
   · rw [Hn0.out]; simpa [rdC] using hb2
   · rw [Hn0.out]; simpa using hlo2
 · have hlo := hr.lo_ne hk hq
   go_enter Tryz.func100,Tryz.ntmps100
   go_wp2_with fail
   refine (clone_any A _ _ _ _ (hhi.fr (hF _) (fun h ad e => hap (by omega) ad e)) hk1).mono ?_
   rintro e w2 ⟨B,d,rfl,ho,hB⟩
   have hb2 := (hb.set 0 (.slice (A.map fun x => x.add k) (n - k) (c - k))).below hB
   have hlo2 := (hlo.fr (hF (.slice (A.map fun x => x.add k) (n - k) (c - k))) (fun h ad e => by
     obtain ⟨ad0,hA,_⟩ := hr.ptr (by omega)
     rw [hA] at e
     cases e
     exact fun h => hap (by omega) ad0 hA (by simpa [blockAdd] using h))).below hB
   go_wp2_with fail
   go_ret
   simp at ho
   refine ⟨B,d,rfl,ho,⟨A.map fun x => x.add k,c - k,?_,?_⟩,(hF (.slice (A.map fun x => x.add k) (n - k) (c - k))).next hB⟩
   · rw [Hn0.out]; exact hb2
   · rw [Hn0.out]; exact hlo2
theorem rnumber_any (r k : Nat) (l : List UInt8) (w : World) (h : RdrAt w r l) (hk : k ≤ l.length) (hk1 : k ≤ 1000000) :
   Calls Tryz.prog 98 #[.pointer (some ⟨r,0,none⟩),.int .i64 k] w fun e w' => e = .returned (.int .u32 (V (numB (l.take k)))) ∧ RdrAt w' r (l.drop k) ∧ Fr (· = r) w w' := by
 go_enter Tryz.func98,Tryz.ntmps98
 go_wp2_with fail
 refine (some_any r k l _ h hk hk1).mono ?_
 rintro e w1 ⟨B,d,rfl,ho,hR,hF⟩
 have hr := ho.rd
 have hl1 := hr.1
 go_wp2_with fail
 go_loopw [5,12] (fun x u wr => ∃ (j : Nat),j ≤ k ∧ u = .int .i64 (j : Int) ∧ x = .int .u32 (V (numB ((l.take k).take j))) ∧ Below w1.heap.size w1 wr) (fun _ u _ => k - (intOf u).toNat)
 case atStart => exact ⟨0,by omega,rfl,rfl,Below.refl _ _⟩
 case round =>
   obtain ⟨j,hj,rfl,rfl,hBr⟩ := hrel
   by_cases hlt : j < k
   · obtain ⟨ad,x,rfl,hx,hc⟩ := hr.at_ hlt
     have hS : Hid (numB ((l.take k).take (j + 1)) = numB ((l.take k).take j) <<< 8 ||| CrcP.bw x) := hide (numB_snoc (l.take k) j x hx)
     have hlt' : (j : Int) < (k : Int) := by omega
     have hcw := (hBr.cell (World.block_lt_of_cell? w1 _ hc)).trans hc
     generalize numB ((l.take k).take j) = p at *
     clear hx hc hl1
     go_wp2_with fail
     go_roundw
     case rel => exact ⟨j + 1,by omega,by go_num,by rw [V_pack,hS.out],hBr⟩
     case measure => simp [intOf]; omega
   · obtain rfl : k = j := by omega
     have hT : (l.take k).take k = l.take k := List.take_of_length_le (by rw [hl1]; exact Nat.le_refl _)
     rw [hT]
     clear hl1 hT
     go_wp2_with fail
     go_ret
     exact ⟨rfl,hR.below hBr,hF.next hBr⟩
theorem ris_no (r : Nat) (l : List UInt8) (w : World) (h : RdrAt w r (0 :: l)) :
   Calls Tryz.prog 99 #[.pointer (some ⟨r,0,none⟩)] w fun e w' => e = .returned (.bool false) ∧ RdrAt w' r l ∧ Fr (· = r) w w' := by
 have hN := rnumber_any r 1 (0 :: l) w h (by simp) (by omega)
 have hv : V (numB ((0 :: l).take 1)) = 0 := by rfl
 rw [hv] at hN
 have hN : Calls Tryz.prog 98 #[.pointer (some ⟨r,0,none⟩),.int .i64 1] w fun e w' => e = .returned (.int .u32 0) ∧ RdrAt w' r l ∧ Fr (· = r) w w' := hN
 clear hv
 go_enter Tryz.func99,Tryz.ntmps99
 go_wp2_with fail
 refine hN.mono ?_
 rintro e w1 ⟨rfl,⟨A,c,hb,hr⟩,hF⟩
 have c1 := hb.cell (i := 1) (v := .int .i64 0) rfl
 have hR : RdrAt w1 r l := ⟨A,c,hb,hr⟩
 clear hb hr hN
 go_wp2_with fail
 go_ret
 exact ⟨rfl,hR,hF⟩
theorem ris_yes (r : Nat) (l : List UInt8) (w : World) (h : RdrAt w r (1 :: l)) :
   Calls Tryz.prog 99 #[.pointer (some ⟨r,0,none⟩)] w fun e w' => e = .returned (.bool true) ∧ RdrAt w' r l ∧ Fr (· = r) w w' := by
 have hN := rnumber_any r 1 (1 :: l) w h (by simp) (by omega)
 have hv : V (numB ((1 :: l).take 1)) = 1 := by rfl
 rw [hv] at hN
 have hN : Calls Tryz.prog 98 #[.pointer (some ⟨r,0,none⟩),.int .i64 1] w fun e w' => e = .returned (.int .u32 1) ∧ RdrAt w' r l ∧ Fr (· = r) w w' := hN
 clear hv
 go_enter Tryz.func99,Tryz.ntmps99
 go_wp2_with fail
 refine hN.mono ?_
 rintro e w1 ⟨rfl,⟨A,c,hb,hr⟩,hF⟩
 have c1 := hb.cell (i := 1) (v := .int .i64 0) rfl
 have hR : RdrAt w1 r l := ⟨A,c,hb,hr⟩
 clear hb hr hN
 go_wp2_with fail
 go_ret
 exact ⟨rfl,hR,hF⟩
end Go.Proofs.YtkkcpblfheplaaaGreatDoor
