/- Contracts of functions that the laws of downpourtop reach, and plain facts; no condition beyond what each theorem states. -/
import Derived.Test.YtkkcpblfheplaaaGreatDoorMEx02
import Derived.Test.YtkkcpblfheplaaaGreatDoorMR01
set_option maxRecDepth 100000
set_option maxHeartbeats 8000000
set_option linter.all false
namespace Go.Proofs.YtkkcpblfheplaaaGreatDoor
open Go.RowKit
def boolsA (v : Nat → Bool) (n : Nat) : Array Value := ((List.range n).map fun i => Value.bool (v i)).toArray
theorem boolsA_get (v : Nat → Bool) {n i : Nat} (h : i < n) : (boolsA v n)[i]? = some (.bool (v i)) := by simp [boolsA,h]
theorem boolsA_set (v : Nat → Bool) (n j : Nat) : (boolsA v n).setIfInBounds j (.bool true) = boolsA (fun i => decide (i = j) || v i) n := by
 apply Array.ext_getElem?
 intro i
 rw [Array.getElem?_setIfInBounds]
 by_cases e : j = i
 · subst e
   by_cases h : j < n <;> simp [boolsA,h]
 · by_cases h : i < n
   · simp [boolsA,h,e,Ne.symm (Ne.intro e)]
   · simp [boolsA,h,e]
theorem boolsA_zero (n : Nat) : Array.replicate n (Value.bool false) = boolsA (fun _ => false) n := by
 apply Array.ext_getElem?
 intro i
 by_cases h : i < n <;> simp [boolsA,h,Array.getElem?_replicate]
theorem boolsA_congr {u v : Nat → Bool} {n : Nat} (h : ∀ i,i < n → u i = v i) : boolsA u n = boolsA v n := by
 unfold boolsA
 congr 1
 apply List.map_congr_left
 intro i hi
 rw [h i (by simpa using hi)]
theorem isZ4 : IsZ Tryz.prog 4 (.bool false) 1 := by unfold IsZ; kernel_rfl
theorem rbits_any (n : Nat) (A : Option Addr) (m c : Nat) (L : List Nat) (w : World) (hn : n ≤ 64) (hL : ∀ x ∈ L,x < n) (hr : RdI w A m c L) (hm : m ≤ 1000) :
   Calls Tryz.prog 161 #[.int .i64 n,.slice A m c] w fun e w' => ∃ g,e = .returned (.slice (some ⟨g,0,none⟩) n n) ∧ w.heap.size ≤ g ∧ Blk w' g (boolsA (rowOf L) n) 4 ∧ Below w.heap.size w w' := by
 have hn' : (n : Int) ≤ 64 := by omega
 have hlen := hide hr.1
 have hLk : ∀ (k : Nat) x,L[k]? = some x → x < n := fun k x h => hL x (List.mem_of_getElem? h)
 have HL := hide hLk
 clear hL hLk
 have hb0 : Blk (w.alloc (.cells (Array.replicate n (.bool false)) 4)) w.heap.size (boolsA (rowOf (L.take 0)) n) 4 := by
   have : boolsA (rowOf (L.take 0)) n = Array.replicate n (.bool false) := by rw [boolsA_zero]; exact boolsA_congr fun i _ => by simp [rowOf]
   rw [this]; exact Blk.new _ _ _
 have hB0 := below_alloc1 w (.cells (Array.replicate n (.bool false)) 4)
 go_enter Tryz.func161,Tryz.ntmps161
 go_wp2_with (at_make; refine wpList_makeZ _ rfl _ _ _ rfl 4 (.bool false) 1 Tryz.underlying176 isZ4 rfl _ _ _ _ n rfl rfl rfl rfl (by omega) (by omega) ?_)
 go_loopw [12] (fun u wr => ∃ k : Nat,k ≤ m ∧ u = .int .i64 (k : Int) ∧ Blk wr w.heap.size (boolsA (rowOf (L.take k)) n) 4 ∧ Below w.heap.size w wr) (fun u _ => m - (intOf u).toNat)
 case atStart => exact ⟨0,by omega,rfl,hb0,hB0⟩
 case round =>
   clear hb0 hB0
   obtain ⟨k,hk,rfl,hb,hB⟩ := hrel
   by_cases hlt : k < m
   · have hlt' : (k : Int) < (m : Int) := by omega
     obtain ⟨g,x,rfl,hx,hc⟩ := (hr.below hB).at_ hlt
     have hxn := HL.out k x hx
     have d1 : decide (0 ≤ (x : Int)) = true := by simp
     have d2 : decide ((x : Int) < (n : Int)) = true := by simp; omega
     have d3 : (x : Int) < (n : Int) := by omega
     have d4 : (0 : Int) ≤ (x : Int) := by omega
     have hf := hb.free x
     have hcx := hb.cell (boolsA_get (rowOf (L.take k)) hxn)
     have hset := hb.setCellAt x (.bool true) (cs' := boolsA (rowOf (L.take (k + 1))) n) (by
       rw [boolsA_set]
       refine boolsA_congr fun i _ => ?_
       simp [rowOf,List.take_add_one,hx,Bool.or_comm])
     have hB2 : Below w.heap.size w (wr.setCell ⟨w.heap.size,x,none⟩ (.bool true)) := hB.setCell (p := ⟨w.heap.size,x,none⟩) (Nat.le_refl _) _
     clear hx hb hB
     generalize rowOf (L.take k) x = b0 at *
     go_wp2_with fail
     go_roundw
     case rel => exact ⟨k + 1,by omega,by go_num,hset,hB2⟩
     case measure => simp [intOf]; omega
   · obtain rfl : m = k := by omega
     rw [List.take_of_length_le (by rw [hlen.out]; exact Nat.le_refl _)] at hb
     go_wp2_with fail
     go_ret
     exact ⟨w.heap.size,rfl,Nat.le_refl _,hb,hB⟩
theorem xorbytes_any (A B : Option Addr) (n c d : Nat) (a b : List UInt8) (w : World) (ha : Rd w A n c a) (hb : Rd w B n d b) (hn : n ≤ 1000) :
   Calls Tryz.prog 160 #[.slice A n c,.slice B n d] w fun e w' => ∃ A' c',e = .returned (.slice A' n c') ∧ Own w' w.heap.size 5 A' n c' (dx a b) ∧ Below w.heap.size w w' := by
 have hn' : (n : Int) ≤ 1000 := by omega
 have hla := ha.1
 have hlb := hb.1
 have hall := hide (xsTo_all a b n hla hlb)
 have hz : List.replicate n (0 : UInt8) = xsTo a b 0 := by unfold xsTo; rw [hla]
 go_enter Tryz.func160,Tryz.ntmps160
 go_wp2_with (at_make; refine wpList_make8 w rfl _ _ _ rfl w.heap.size 5 Tryz.underlying22 isByte _ _ _ _ n rfl rfl rfl rfl (by omega) (Nat.le_refl _) ?_
              intro w1 ho1 hb1)
 rw [hz] at ho1
 have Hla := hide hla
 have Hlb := hide hlb
 clear hz hla hlb
 go_loopw [12] (fun v wr => ∃ k : Nat,k ≤ n ∧ v = .int .i64 (k : Int) ∧ Own wr w.heap.size 5 (some ⟨w.heap.size,0,none⟩) n n (xsTo a b k) ∧ Below w.heap.size w wr) (fun v _ => n - (intOf v).toNat)
 case atStart => exact ⟨0,by omega,rfl,ho1,hb1⟩
 case round =>
   clear ho1 hb1
   obtain ⟨k,hk,rfl,ho,hB⟩ := hrel
   by_cases hlt : k < n
   · have hlt' : (k : Int) < (n : Int) := by omega
     obtain ⟨ada,x,rfl,hx,hcx⟩ := (ha.below hB).at_ hlt
     obtain ⟨adb,y,rfl,hy,hcy⟩ := (hb.below hB).at_ hlt
     have hl := xsTo_len a b k
     have hget : ∃ z,(xsTo a b k)[k]? = some z := ⟨_,List.getElem?_eq_getElem (by rw [hl,Hla.out]; exact hlt)⟩
     obtain ⟨z,hz⟩ := hget
     have hc := ho.cell hz
     have hfz := ho.frozen k
     have hset := ho.set k (x ^^^ y)
     have e1 : Hid (xsTo a b (k + 1) = (xsTo a b k).set k (x ^^^ y)) := hide (by
       show (xsTo a b k).set k (a.getD k 0 ^^^ b.getD k 0) = _
       rw [List.getD_eq_getElem?_getD,List.getD_eq_getElem?_getD,hx,hy]; rfl)
     have hx8 := xor_u8 x y
     have Hset := hide hset
     have hB2 : Below w.heap.size w (wr.setCell ⟨w.heap.size,k,none⟩ (.int .u8 ((x ^^^ y).toNat : Int))) := hB.setCell (p := ⟨w.heap.size,k,none⟩) (Nat.le_refl _) _
     clear hset hz hx hy hl
     generalize x ^^^ y = u at *
     go_upto_region 5 with fail
     go_region
     all_goals
       go_wp2_with fail
       go_roundw
       case rel => exact ⟨k + 1,by omega,by go_num,by rw [e1.out]; exact Hset.out.drew,hB2.drew⟩
       case measure => simp [intOf]; omega
   · obtain rfl : k = n := by omega
     rw [hall.out] at ho
     go_wp2_with fail
     go_ret
     exact ⟨_,k,rfl,ho,hB⟩
theorem rcount_any (L S : Nat) (w : World) (h1 : 1 ≤ L) (h2 : L ≤ 512) (h3 : 1 ≤ S) (h4 : S ≤ 16) (h5 : (L + S - 1) / S ≤ 64) :
   Calls Tryz.prog 17 #[.int .i64 L,.int .i64 S] w fun e w' => e = .returned (.int .i64 (cnt L S : Nat)) ∧ w = w' := by
 have hc : Hid (cnt L S = (L + S - 1) / S) := hide (by unfold cnt; rw [if_neg (by omega)])
 have d1 : decide ((L : Int) < 1) = false := by simp; omega
 have d2 : decide (512 < (L : Int)) = false := by simp; omega
 have d3 : decide ((S : Int) < 1) = false := by simp; omega
 have d4 : decide (16 < (S : Int)) = false := by simp; omega
 obtain ⟨q,hq⟩ : ∃ q,(L + S - 1) / S = q := ⟨_,rfl⟩
 have hqi : ((L : Int) + (S : Int) - 1) / (S : Int) = (q : Int) := by
   rw [← hq,Int.natCast_ediv,show ((L + S - 1 : Nat) : Int) = (L : Int) + (S : Int) - 1 by omega]
 rw [hq] at hc h5
 have d5 : decide (64 < (q : Int)) = false := by simp; omega
 have e1 : (1 : Int) ≤ (L : Int) := by omega
 have e2 : (L : Int) ≤ 512 := by omega
 have e3 : (1 : Int) ≤ (S : Int) := by omega
 have e4 : (S : Int) ≤ 16 := by omega
 have e5 : (q : Int) ≤ 64 := by omega
 clear hq
 go_enter Tryz.func17,Tryz.ntmps17
 go_wp2_with fail
 go_ret
 exact ⟨by rw [hc.out]; show Ending.returned (Value.int .i64 (((L : Int) + (S : Int) - 1) / (S : Int))) = _; rw [hqi],rfl⟩
theorem rsum_any (g n : Nat) (v : Nat → Bool) (A : Option Addr) (k c S : Nat) (ls : List (List UInt8)) (w : World) (hv : Blk w g (boolsA v n) 4) (hr : RdL w A k c ls) (hn : n ≤ 64) (hls : ∀ l,l ∈ ls → l.length = S) (hS : S ≤ 16) (hk : k ≤ n) :
   Calls Tryz.prog 108 #[.slice (some ⟨g,0,none⟩) n n,.slice A k c,.int .i64 S] w fun e w' => ∃ A' c',e = .returned (.slice A' S c') ∧ Own w' w.heap.size 5 A' S c' (symV ls v k S) ∧ Below w.heap.size w w' := by
 have hn' : (n : Int) ≤ 64 := by omega
 have hS' : (S : Int) ≤ 16 := by omega
 have Hls := hide (fun (i : Nat) l (h : ls[i]? = some l) => hls l (List.mem_of_getElem? h))
 have hz : List.replicate S (0 : UInt8) = symV ls v 0 S := (symV_zero _ _ _).symm
 have hkn : (k : Int) ≤ (n : Int) := by omega
 clear hls
 go_enter Tryz.func108,Tryz.ntmps108
 go_wp2_with (at_make; refine wpList_make8 w rfl _ _ _ rfl w.heap.size 5 Tryz.underlying22 isByte _ _ _ _ S rfl rfl rfl rfl (by omega) (Nat.le_refl _) ?_
              intro w1 ho1 hb1)
 rw [hz] at ho1
 clear hz
 go_loopw [7,14] (fun o u wr => ∃ (i : Nat) (B : Option Addr) (d : Nat),i ≤ n ∧ u = .int .i64 (i : Int) ∧ o = .slice B S d ∧ Own wr w.heap.size 5 B S d (symV ls v (min i k) S) ∧ Below w.heap.size w wr) (fun _ u _ => n - (intOf u).toNat)
 case atStart => exact ⟨0,_,_,Nat.zero_le _,rfl,rfl,by rw [Nat.zero_min]; exact ho1,hb1⟩
 case round =>
   clear ho1 hb1
   obtain ⟨i,B,d,hi,rfl,rfl,ho,hB⟩ := hrel
   by_cases hlt : i < n
   · have hlt' : (i : Int) < (n : Int) := by omega
     have cv := (hv.below hB).cell (boolsA_get v hlt)
     by_cases hik : i < k
     · have d1 : decide ((i : Int) < (k : Int)) = true := by simp; omega
       have d2 : (i : Int) < (k : Int) := by omega
       obtain ⟨ad,l,A',n',c',rfl,hl,hc,hrd⟩ := (hr.below hB).at_ hik
       have hlen := Hls.out i l hl
       have hnn : n' = S := by rw [← hlen]; exact hrd.1.symm
       subst hnn
       have hgd : ls.getD i [] = l := by rw [List.getD_eq_getElem?_getD,hl]; rfl
       have hm1 : min i k = i := by omega
       have hm2 : min (i + 1) k = i + 1 := by omega
       rw [hm1] at ho
       rcases Bool.eq_false_or_eq_true (v i) with hb | hb
       · have hst := hide (symV_yes ls v i n' hb (by rw [hgd]; exact hlen))
         rw [hgd] at hst
         rw [hb] at cv
         have Hm := hide hm2
         clear hb hl hgd hm1 hm2 hlen
         go_wp2_with fail
         refine (xorbytes_any B A' n' d c' _ l wr ho.rd hrd (by omega)).mono ?_
         rintro e w2 ⟨A2,c2,rfl,ho2,hb2⟩
         have ho3 := ho2.mono hB.size
         have hB2 := below_next hB hb2
         go_wp2_with fail
         go_roundw
         case rel => exact ⟨i + 1,A2,c2,by omega,by go_num,rfl,by rw [Hm.out,hst.out]; exact ho3,hB2⟩
         case measure => simp [intOf]; omega
       · have hst := hide (symV_no ls v i n' hb)
         rw [hb] at cv
         have Hm := hide hm2
         clear hb hl hgd hm1 hm2 hlen
         go_wp2_with fail
         go_roundw
         case rel => exact ⟨i + 1,B,d,by omega,by go_num,rfl,by rw [Hm.out,hst.out]; exact ho,hB⟩
         case measure => simp [intOf]; omega
     · have d1 : decide ((i : Int) < (k : Int)) = false := by simp; omega
       have Hm : Hid (min (i + 1) k = min i k) := hide (by omega)
       rcases Bool.eq_false_or_eq_true (v i) with hb | hb
       · rw [hb] at cv
         clear hb
         go_wp2_with fail
         go_roundw
         case rel => exact ⟨i + 1,B,d,by omega,by go_num,rfl,by rw [Hm.out]; exact ho,hB⟩
         case measure => simp [intOf]; omega
       · rw [hb] at cv
         clear hb
         go_wp2_with fail
         go_roundw
         case rel => exact ⟨i + 1,B,d,by omega,by go_num,rfl,by rw [Hm.out]; exact ho,hB⟩
         case measure => simp [intOf]; omega
   · obtain rfl : n = i := by omega
     rw [Nat.min_eq_right hk] at ho
     go_wp2_with fail
     go_ret
     exact ⟨B,d,rfl,ho,hB⟩
theorem rpiece (img : List UInt8) (S K i : Nat) (h : img.length ≤ K * S) (hi : i < K) (hS : i * S ≤ img.length) :
   (img.drop (i * S)).take S ++ (List.replicate S (0 : UInt8)).drop (img.length - i * S) = pieceL img S K i := by
 unfold pieceL fullL
 rw [List.drop_append,List.take_append,List.drop_replicate,List.drop_replicate,List.take_replicate,List.length_drop]
 congr 1
 have : (i + 1) * S ≤ K * S := Nat.mul_le_mul_right _ hi
 rw [Nat.add_mul,Nat.one_mul] at this
 congr 1
 omega
theorem rsplit_any (A : Option Addr) (L c S K : Nat) (img : List UInt8) (w : World) (hr : Rd w A L c img) (h1 : 1 ≤ L) (h2 : L ≤ 512) (h3 : 1 ≤ S) (h4 : S ≤ 16) (hK : cnt L S = K) (h5 : (L + S - 1) / S = K) (hK64 : K ≤ 64) :
   Calls Tryz.prog 111 #[.slice A L c,.int .i64 S] w fun e w' => ∃ A' c',e = .returned (.slice A' K c') ∧ OwnL 22 5 w' w.heap.size A' K c' (splitL img S K) none ∧ Below w.heap.size w w' := by
 have Hl := hide hr.1
 have hcap := hr.2.1
 have hcm := hr.2.2.1
 unfold maxLen at hcm
 have hL' : (L : Int) ≤ 512 := by omega
 have hS' : (S : Int) ≤ 16 := by omega
 have hS1 : (1 : Int) ≤ (S : Int) := by omega
 have hcnt := rcount_any L S w h1 h2 h3 h4 (by omega)
 rw [hK] at hcnt
 have hLK : L ≤ K * S := by
   have := Nat.div_add_mod (L + S - 1) S
   have h6 := Nat.mod_lt (L + S - 1) (show 0 < S by omega)
   rw [h5,Nat.mul_comm] at this
   omega
 have hiS : ∀ i,i < K → i * S < L := by
   intro i hi
   have h7 : (i + 1) * S ≤ K * S := Nat.mul_le_mul_right _ hi
   rw [Nat.add_mul,Nat.one_mul] at h7
   have := Nat.div_mul_le_self (L + S - 1) S
   rw [h5] at this
   omega
 have HiS := hide hiS
 have HLK := hide hLK
 have hK' : (K : Int) ≤ 64 := by omega
 clear hiS hLK h5 hK
 go_enter Tryz.func111,Tryz.ntmps111
 go_wp2_with (go_at_call 17; refine hcnt.mono ?_; rintro e w1 ⟨rfl,rfl⟩)
 go_loopw [5,12] (fun o u wr => ∃ (i : Nat) (B : Option Addr) (d : Nat),i ≤ K ∧ u = .int .i64 (i : Int) ∧ o = .slice B i d ∧ OwnL 22 5 wr w.heap.size B i d ((splitL img S K).take i) none ∧ Below w.heap.size w wr) (fun _ u _ => K - (intOf u).toNat)
 case atStart => exact ⟨0,none,0,Nat.zero_le _,rfl,rfl,OwnL.nil _ _ _ _ _,Below.refl _ _⟩
 case round =>
   obtain ⟨i,B,d,hi,rfl,rfl,ho,hB⟩ := hrel
   by_cases hlt : i < K
   · have hlt' : (i : Int) < (K : Int) := by omega
     have hiS := HiS.out i hlt
     have hp := rpiece img S K i (by rw [Hl.out]; exact HLK.out) hlt (by rw [Hl.out]; omega)
     have hsp := splitL_get img S K i hlt
     obtain ⟨iS,hiSe⟩ : ∃ x,i * S = x := ⟨_,rfl⟩
     rw [hiSe] at hiS hp
     have hii : (i : Int) * (S : Int) = (iS : Int) := by rw [← hiSe]; simp
     have q1 : (0 : Int) ≤ (iS : Int) := by omega
     have q2 : (iS : Int) ≤ (L : Int) := by omega
     have q3 : (iS : Int) ≤ (c : Int) := by omega
     have hci : c ≠ iS := by omega
     obtain ⟨ad,rfl,_⟩ := hr.ptr (by omega)
     have hrl := (hr.below hB).lo_ne (k := iS) (by omega) hci
     have Hp := hide hp
     have Hsp := hide hsp
     rw [Hl.out] at Hp
     clear hp hsp hiSe
     have hbase := hB.size
     go_wp2_with (first
       | (at_make
          refine wpList_make8 wr rfl _ _ _ rfl wr.heap.size 5 Tryz.underlying22 isByte _ _ _ _ S rfl rfl rfl rfl (by omega) (Nat.le_refl _) ?_
          intro w1 ho1 hb1)
       | ((with_reducible refine at_copy ?_)
          refine wpList_copy8 w1 rfl _ _ _ rfl wr.heap.size 5 Tryz.underlying22 isByte wr.heap.size S S _ rfl ho1 (some (ad.add iS)) (L - iS) (c - iS) _ rfl (hrl.below hb1) ?_
          intro w2 ho2 hf2
          rw [Hp.out] at ho2
          have hB2 : Below wr.heap.size wr w2 := hb1.trans (hf2.below hb1.size (fun g hg => by omega))
          have hBw := below_next hB hB2
          have hs2 := hBw.size
          have hal := below_alloc1 w2 (.cells #[.slice (some ⟨wr.heap.size,0,none⟩) S S] 22)
          have ho2' := (ho2.mono hbase).below hal
          have hoa := (ho.below hB2).below hal
          have hc2 : (w2.alloc (.cells #[.slice (some ⟨wr.heap.size,0,none⟩) S S] 22)).cell? ⟨w2.heap.size,0,none⟩ = some (.slice (some ⟨wr.heap.size,0,none⟩) S S) := cell1 w2 _ 22 0 _ rfl
          clear hf2)
       | (at_builtin
          refine wpList_appendL _ rfl _ _ _ rfl w.heap.size 22 5 (by decide) Tryz.underlying23 isRef22 B i d _ none rfl hoa ⟨w2.heap.size,0,none⟩ 1 (some ⟨wr.heap.size,0,none⟩) S S (pieceL img S K i) rfl hc2 ho2' (.inl rfl) (by omega) (by simp; omega) ?_
          intro A6 c6 w6 ho6 hb6 _))
     have htk : Hid ((splitL img S K).take (i + 1) = (splitL img S K).take i ++ [pieceL img S K i]) := hide (by rw [List.take_add_one,Hsp.out]; rfl)
     go_roundw
     case rel => exact ⟨i + 1,A6,c6,by omega,by go_num,rfl,by rw [htk.out]; exact ho6,(hBw.alloc hs2 _).trans hb6⟩
     case measure => simp [intOf]; omega
   · obtain rfl : K = i := by omega
     have e : (splitL img S K).take K = splitL img S K := List.take_of_length_le (by rw [splitL_len]; exact Nat.le_refl _)
     rw [e] at ho
     go_wp2_with fail
     go_ret
     exact ⟨B,d,rfl,ho,hB⟩
theorem rcount_gen (L S : Nat) (w : World) (hL : L ≤ 1000000) (hS : S ≤ 1000000) :
   Calls Tryz.prog 17 #[.int .i64 L,.int .i64 S] w fun e w' => e = .returned (.int .i64 (cnt L S : Nat)) ∧ w' = w := by
 have hL' : (L : Int) ≤ 1000000 := by omega
 have hS' : (S : Int) ≤ 1000000 := by omega
 by_cases h1 : L < 1
 · have hc : Hid (cnt L S = 0) := hide (by unfold cnt; rw [if_pos (.inl h1)])
   have d1 : decide ((L : Int) < 1) = true := by simp; omega
   go_enter Tryz.func17,Tryz.ntmps17
   go_wp2_with fail
   go_ret
   exact ⟨by rw [hc.out]; rfl,rfl⟩
 · have d1 : decide ((L : Int) < 1) = false := by simp; omega
   by_cases h2 : 512 < L
   · have hc : Hid (cnt L S = 0) := hide (by unfold cnt; rw [if_pos (.inr (.inl h2))])
     have d2 : decide (512 < (L : Int)) = true := by simp; omega
     go_enter Tryz.func17,Tryz.ntmps17
     go_wp2_with fail
     go_ret
     exact ⟨by rw [hc.out]; rfl,rfl⟩
   · have d2 : decide (512 < (L : Int)) = false := by simp; omega
     by_cases h3 : S < 1
     · have hc : Hid (cnt L S = 0) := hide (by unfold cnt; rw [if_pos (.inr (.inr (.inl h3)))])
       have d3 : decide ((S : Int) < 1) = true := by simp; omega
       go_enter Tryz.func17,Tryz.ntmps17
       go_wp2_with fail
       go_ret
       exact ⟨by rw [hc.out]; rfl,rfl⟩
     · have d3 : decide ((S : Int) < 1) = false := by simp; omega
       by_cases h4 : 16 < S
       · have hc : Hid (cnt L S = 0) := hide (by unfold cnt; rw [if_pos (.inr (.inr (.inr (.inl h4))))])
         have d4 : decide (16 < (S : Int)) = true := by simp; omega
         go_enter Tryz.func17,Tryz.ntmps17
         go_wp2_with fail
         go_ret
         exact ⟨by rw [hc.out]; rfl,rfl⟩
       · have d4 : decide (16 < (S : Int)) = false := by simp; omega
         obtain ⟨q,hq⟩ : ∃ q,(L + S - 1) / S = q := ⟨_,rfl⟩
         have hqi : ((L : Int) + (S : Int) - 1) / (S : Int) = (q : Int) := by
           rw [← hq,Int.natCast_ediv,show ((L + S - 1 : Nat) : Int) = (L : Int) + (S : Int) - 1 by omega]
         have e1 : (1 : Int) ≤ (L : Int) := by omega
         have e3 : (1 : Int) ≤ (S : Int) := by omega
         have hq2 : q ≤ 1000000 := by
           rw [← hq]
           exact Nat.le_trans (Nat.div_le_self _ _) (by omega)
         have hq3 : (q : Int) ≤ 1000000 := by omega
         have hc0 : Hid (cnt L S = if 64 < q then 0 else q) := hide (by
           unfold cnt
           rw [hq]
           by_cases h : 64 < q
           · rw [if_pos (.inr (.inr (.inr (.inr h)))),if_pos h]
           · rw [if_neg (by omega),if_neg h])
         clear hq
         by_cases h5 : 64 < q
         · have d5 : decide (64 < (q : Int)) = true := by simp; omega
           have hc : Hid (cnt L S = 0) := hide (by rw [hc0.out,if_pos h5])
           go_enter Tryz.func17,Tryz.ntmps17
           go_wp2_with fail
           go_ret
           exact ⟨by rw [hc.out]; rfl,rfl⟩
         · have d5 : decide (64 < (q : Int)) = false := by simp; omega
           have hc : Hid (cnt L S = q) := hide (by rw [hc0.out,if_neg h5])
           go_enter Tryz.func17,Tryz.ntmps17
           go_wp2_with fail
           go_ret
           exact ⟨by rw [hc.out]; show Ending.returned (Value.int .i64 (((L : Int) + (S : Int) - 1) / (S : Int))) = _; rw [hqi],rfl⟩
theorem rparams_any (s v : BitVec 32) (L S P : Nat) (A : Option Addr) (n c : Nat) (w : World) (hL : L ≤ 1000000) (hS : S ≤ 1000000) :
   Calls Tryz.prog 49 #[.agg (manC s v L S P (.slice A n c))] w fun e w' =>
     e = .returned (.tuple #[.agg (ofC s L S P),.bool (manOk L S P)]) ∧ Below w.heap.size w w' := by
 have hbx : Below w.heap.size w (w.alloc (.cells (manC s v L S P (.slice A n c)) 44)) := (Below.refl _ _).alloc (Nat.le_refl _) _
 unfold manC at *
 go_enter Tryz.func49,Tryz.ntmps49
 go_wp2_with fail
 go_cut [4] (fun x wx => ∃ g,x = .pointer (some ⟨g,0,none⟩) ∧ Blk wx g (parC s (cnt L S) P S) 59 ∧ Blk wx (w.heap.size + 1) (parC 0#32 0 0 0) 59 ∧ g ≠ w.heap.size + 1 ∧ w.heap.size ≤ g ∧ Below w.heap.size w wx)
 case first =>
   go_region_held3 (fun w' => w'.cell? ⟨w.heap.size,0,none⟩ = some (.int .u32 (V s)) ∧ w'.cell? ⟨w.heap.size,2,none⟩ = some (.int .i64 L) ∧ w'.cell? ⟨w.heap.size,3,none⟩ = some (.int .i64 S) ∧ w'.cell? ⟨w.heap.size,4,none⟩ = some (.int .i64 P)) (go_keep)
     (first | (go_at_call 17; refine (rcount_gen L S _ hL hS).mono ?_; rintro e w' ⟨rfl,rfl⟩))
   all_goals
     go_wp2_with fail
     go_meet
     refine ⟨w.heap.size + 1 + 1,rfl,?_,?_,by omega,by omega,?_⟩
     · exact alloc3_new w _ _ _
     · exact alloc3_mid w _ _ _
     · exact ((((Below.refl _ _).alloc (Nat.le_refl _) _).alloc (by simp) _).alloc (by simp; omega) _).drew
 case rest =>
   obtain ⟨g,rfl,hb,hz,hne,hg,hB⟩ := hcut
   have hsz := size59 s (cnt L S) P S
   have hsz0 := size59 0#32 0 0 0
   have hone := one59 s (cnt L S) P S
   have hone0 := one59 0#32 0 0 0
   have hok : Hid (manOk L S P = spOk (cnt L S) P S ∧ ofC s L S P = if spOk (cnt L S) P S then parC s (cnt L S) P S else parC 0#32 0 0 0) := hide ⟨rfl,rfl⟩
   go_wp2_with (first
     | ((with_reducible refine at_load ?_); refine wpList_load_row rfl 59 (.tmp 4) rfl g rfl 59 (parC s (cnt L S) P S) (0,0) _ hb Tryz.underlying59 rfl hsz ?_))
   refine (rmay_any s (cnt L S) P S _).mono ?_
   rintro e w1 ⟨rfl,hb1⟩
   have hbb := hb.below hb1
   have hzz := hz.below hb1
   have hB1 := below_next hB hb1
   rcases Bool.eq_false_or_eq_true (spOk (cnt L S) P S) with hsp | hsp
   · have Hsp := hide hsp
     rw [hsp]
     clear hsp
     go_wp2_with (first
       | ((with_reducible refine at_load ?_); refine wpList_load_row rfl 59 (.tmp 4) rfl g rfl 59 (parC s (cnt L S) P S) (0,0) _ hbb Tryz.underlying59 rfl hsz ?_)
       | ((with_reducible refine at_store ?_); refine wpList_store_row rfl 59 (.tmp 2) (.tmp 21) rfl (w.heap.size + 1) (parC s (cnt L S) P S) rfl rfl 59 (parC 0#32 0 0 0) hzz hsz rfl hone ?_))
     refine bodyPost_ret (results_cell_slot Tryz.results49 _ _ (w.heap.size + 1) 59 (parC s (cnt L S) P S) (0,0) _ _ rfl rfl (setRow_heap _ _ _ _ _ _ hzz) Tryz.underlying59 rfl hsz) rfl ?_
     exact ⟨by rw [hok.out.1,hok.out.2,Hsp.out]; rfl,below_setRow hB1 (by omega) _⟩
   · have Hsp := hide hsp
     rw [hsp]
     clear hsp
     go_wp2_with (first
       | ((with_reducible refine at_build ?_); refine wpList_build_as rfl 59 #[] rfl (parC 0#32 0 0 0) (by kernel_rfl) ?_)
       | ((with_reducible refine at_store ?_); refine wpList_store_row rfl 59 (.tmp 2) (.tmp 20) rfl (w.heap.size + 1) (parC 0#32 0 0 0) rfl rfl 59 (parC 0#32 0 0 0) hzz hsz0 rfl hone0 ?_))
     refine bodyPost_ret (results_cell_slot Tryz.results49 _ _ (w.heap.size + 1) 59 (parC 0#32 0 0 0) (0,0) _ _ rfl rfl (setRow_heap _ _ _ _ _ _ hzz) Tryz.underlying59 rfl hsz0) rfl ?_
     exact ⟨by rw [hok.out.1,hok.out.2,Hsp.out]; rfl,below_setRow hB1 (by omega) _⟩
theorem rmaym_any (s v : BitVec 32) (L S P : Nat) (A : Option Addr) (n c : Nat) (w : World) (hL : L ≤ 1000000) (hS : S ≤ 1000000) :
   Calls Tryz.prog 129 #[.agg (manC s v L S P (.slice A n c))] w fun e w' => e = .returned (.bool (manOk L S P && (n == 32))) ∧ Below w.heap.size w w' := by
 have hb0 : Blk (w.alloc (.cells (manC s v L S P (.slice A n c)) 44)) w.heap.size (manC s v L S P (.slice A n c)) 44 := Blk.new _ _ _
 have hB0 : Below w.heap.size w (w.alloc (.cells (manC s v L S P (.slice A n c)) 44)) := (Below.refl _ _).alloc (Nat.le_refl _) _
 have hsz := size44 s v L S P (.slice A n c)
 go_enter Tryz.func129,Tryz.ntmps129
 go_wp2_with (first
   | ((with_reducible refine at_load ?_); refine wpList_load_row rfl 44 (.tmp 1) rfl w.heap.size rfl 44 (manC s v L S P (.slice A n c)) (0,0) _ hb0 Tryz.underlying44 rfl hsz ?_))
 refine (rparams_any s v L S P A n c _ hL hS).mono ?_
 rintro e w1 ⟨rfl,hb1⟩
 have hbb := hb0.below hb1
 have hB1 := below_next hB0 hb1
 have hcell := hbb.cell (i := 5) (v := .slice A n c) rfl
 have hB2 := hB1.alloc hB1.size (.cells (parC 0#32 0 0 0) 59)
 have hz : Blk (w1.alloc (.cells (parC 0#32 0 0 0) 59)) w1.heap.size (parC 0#32 0 0 0) 59 := Blk.new _ _ _
 have ho : (Tryz.prog.info? 59).map (·.size) = some (ofC s L S P).size ∧ (parC 0#32 0 0 0).size = (ofC s L S P).size ∧ (ofC s L S P).all (·.oneCell') = true := by
   unfold ofC
   split
   · exact ⟨size59 _ _ _ _,rfl,one59 _ _ _ _⟩
   · exact ⟨size59 _ _ _ _,rfl,one59 _ _ _ _⟩
 have hlt := hbb.lt
 have hc2 := ((hbb.alloc (.cells (parC 0#32 0 0 0) 59)).fr (fr_setRow _ w1.heap.size (ofC s L S P)) (by omega)).cell (i := 5) (v := .slice A n c) rfl
 have hB3 := below_setRow hB2 (g := w1.heap.size) hB1.size (ofC s L S P)
 clear hB2
 go_upto_region 2 with (first
   | ((with_reducible refine at_store ?_); refine wpList_store_row rfl 59 (.tmp 3) (.tmp 8) rfl w1.heap.size (ofC s L S P) rfl rfl 59 (parC 0#32 0 0 0) hz ho.1 ho.2.1 ho.2.2 ?_))
 change Code.wp _ _ _ _ (World.setRow (w1.alloc (.cells (parC 0#32 0 0 0) 59)) w1.heap.size (ofC s L S P))
 generalize World.setRow (w1.alloc (.cells (parC 0#32 0 0 0) 59)) w1.heap.size (ofC s L S P) = w3 at *
 clear hz ho hbb hcell
 rcases Bool.eq_false_or_eq_true (manOk L S P) with hm | hm
 · have hd : ((n : Int) == 32) = (n == 32) := by
     by_cases h : n = 32
     · subst h; rfl
     · have h1 : ((n : Int) == 32) = false := by simp; omega
       have h2 : (n == 32) = false := by simp; omega
       rw [h1,h2]
   have Hd := hide hd
   have Hm := hide hm
   rw [hm]
   clear hd hm
   go_wp2_with fail
   go_ret
   exact ⟨by rw [Hm.out,← Hd.out]; rfl,hB3⟩
 · have Hm := hide hm
   rw [hm]
   clear hm
   go_wp2_with fail
   go_ret
   exact ⟨by rw [Hm.out]; rfl,hB3⟩
theorem two_big (n : Nat) (w : World) (hn : n ≤ 65535) :
   Calls Tryz.prog 105 #[.int .i64 n] w fun e w' => ∃ A c,e = .returned (.slice A 2 c) ∧ Own w' w.heap.size 5 A 2 c [byt ((n : Int) / 256),byt (n : Int)] ∧ Below w.heap.size w w' := by
 have hn' : (n : Int) ≤ 65535 := by omega
 have e := hide (show (#[Value.int .u8 ((n : Int) / 256),.int .u8 ((n : Int) % 256)] : Array Value).toList = bys [byt ((n : Int) / 256),byt (n : Int)] by
   have e2 : (n : Int) / 256 % 256 = (n : Int) / 256 := by omega
   simp [bys,by8,byt_val,e2])
 go_enter Tryz.func105,Tryz.ntmps105
 go_wp2
 go_ret
 exact ⟨_,_,rfl,Own.lit w w.heap.size 5 _ e.out (by simp [maxLen]) (Nat.le_refl _),(Below.refl _ _).alloc (Nat.le_refl _) _⟩
theorem rdl_5r {W : World} {g n m k j i c d e f h : Nat} {A B C D E : Option Addr} {l r s t u : List UInt8} (h0 : W.cell? ⟨g,0,none⟩ = some (.slice A n c)) (h1 : W.cell? ⟨g,1,none⟩ = some (.slice B m d)) (h2 : W.cell? ⟨g,2,none⟩ = some (.slice C k e)) (h3 : W.cell? ⟨g,3,none⟩ = some (.slice D j f)) (h4 : W.cell? ⟨g,4,none⟩ = some (.slice E i h))
   (hl : Rd W A n c l) (hr : Rd W B m d r) (hs : Rd W C k e s) (ht : Rd W D j f t) (hu : Rd W E i h u) : RdL W (some ⟨g,0,none⟩) 5 5 [l,r,s,t,u] :=
 ⟨rfl,Nat.le_refl _,by decide,fun _ => ⟨_,rfl,fun i' x hj => by
   match i',hj with
   | 0,hj => simp at hj; subst hj; exact ⟨A,n,c,by rw [addAt]; exact h0,hl⟩
   | 1,hj => simp at hj; subst hj; exact ⟨B,m,d,by rw [addAt]; exact h1,hr⟩
   | 2,hj => simp at hj; subst hj; exact ⟨C,k,e,by rw [addAt]; exact h2,hs⟩
   | 3,hj => simp at hj; subst hj; exact ⟨D,j,f,by rw [addAt]; exact h3,ht⟩
   | 4,hj => simp at hj; subst hj; exact ⟨E,i,h,by rw [addAt]; exact h4,hu⟩⟩⟩
theorem mid2r_cells (S P : Nat) : (#[Value.int .u8 (IntKind.u8.wrap (S : Int)),.int .u8 (IntKind.u8.wrap (P : Int))] : Array Value).toList = bys [byt (S : Int),byt (P : Int)] := by
 simp [bys,by8,byt_val,IntKind.wrap_u8]
theorem rd_mid2r (w : World) (S P : Nat) : Rd (w.alloc (.cells #[Value.int .u8 (IntKind.u8.wrap (S : Int)),.int .u8 (IntKind.u8.wrap (P : Int))] 5)) (some ⟨w.heap.size,0,none⟩) 2 2 [byt (S : Int),byt (P : Int)] :=
 Rd.new w 5 _ (mid2r_cells S P) (by simp [maxLen])
theorem rplain_any (s v : BitVec 32) (L S P : Nat) (A : Option Addr) (c : Nat) (h : List UInt8) (w : World) (hm : manOk L S P = true) (hL : L ≤ 65535) (hS : S ≤ 1000000) (hr : Rd w A 32 c h) :
   Calls Tryz.prog 104 #[.agg (manC s v L S P (.slice A 32 c))] w fun e w' => ∃ A' c',e = .returned (.tuple #[.slice A' 44 c',.int .i64 0]) ∧ Own w' w.heap.size 5 A' 44 c' (plainL s v L S P h) ∧ Below w.heap.size w w' := by
 have hb0 : Blk (w.alloc (.cells (manC s v L S P (.slice A 32 c)) 44)) w.heap.size (manC s v L S P (.slice A 32 c)) 44 := Blk.new _ _ _
 have hB0 : Below w.heap.size w (w.alloc (.cells (manC s v L S P (.slice A 32 c)) 44)) := (Below.refl _ _).alloc (Nat.le_refl _) _
 have hsz := size44 s v L S P (.slice A 32 c)
 have Hh := hide hr.1
 go_enter Tryz.func104,Tryz.ntmps104
 go_wp2_with (first
   | ((with_reducible refine at_load ?_); refine wpList_load_row rfl 44 (.tmp 1) rfl w.heap.size rfl 44 (manC s v L S P (.slice A 32 c)) (0,0) _ hb0 Tryz.underlying44 rfl hsz ?_))
 refine (rmaym_any s v L S P A 32 c _ (by omega) hS).mono ?_
 rw [hm]
 rintro e w1 ⟨rfl,hb1⟩
 have hbb := hb0.below hb1
 have hB1 := below_next hB0 hb1
 have hr1 := hr.below hB1
 have hst := ManAt.step hbb
 have hS0 : ManAt w.heap.size s v L S P (.slice A 32 c) w1 w1.drew := ⟨⟨hbb.cell rfl,hbb.cell rfl,hbb.cell rfl,hbb.cell rfl,hbb.cell rfl,hbb.cell rfl⟩,(Below.refl _ _).drew⟩
 have hSA : ∀ o,ManAt w.heap.size s v L S P (.slice A 32 c) w1 (w1.alloc o).drew := fun o => hst w1.drew (w1.alloc o).drew hS0 ⟨rfl,rfl,rfl,(below_alloc1 w1 o).size,(below_alloc1 w1 o).block⟩
 have hb2 : True := trivial
 have hb3 : True := trivial
 have hb4 : True := trivial
 have hb5 : True := trivial
 clear hb0 hB0 hb1
 go_wp2_with fail
 go_cut [2,3] (fun x y wx => ∃ B' d',x = .slice B' 44 d' ∧ y = .int .i64 0 ∧ Own wx w1.heap.size 5 B' 44 d' (plainL s v L S P h) ∧ Below w1.heap.size w1 wx)
 case first =>
   go_region_held3 (fun w' => (w'.cell? ⟨w.heap.size,0,none⟩ = some (.int .u32 (V s)) ∧ w'.cell? ⟨w.heap.size,1,none⟩ = some (.int .u32 (V v)) ∧ w'.cell? ⟨w.heap.size,2,none⟩ = some (.int .i64 L) ∧ w'.cell? ⟨w.heap.size,3,none⟩ = some (.int .i64 S) ∧ w'.cell? ⟨w.heap.size,4,none⟩ = some (.int .i64 P) ∧ w'.cell? ⟨w.heap.size,5,none⟩ = some (.slice A 32 c)) ∧ Below w1.heap.size w1 w')
     (first | (with_reducible exact hS0) | (with_reducible exact hSA _) | ((with_reducible refine hst _ _ ?_ hb4); with_reducible assumption) | ((with_reducible refine hst _ _ ?_ hb5); with_reducible assumption) | ((with_reducible refine hst _ _ ?_ hb3); with_reducible assumption) | ((with_reducible refine hst _ _ ?_ hb2); with_reducible assumption) | ((with_reducible refine hst _ _ ?_ (below_alloc1 _ _)); with_reducible assumption))
     (first
       | (go_at_call 56; first | ((with_reducible refine (rfour_any s _).mono ?_); rintro e w2 ⟨A2,d2,rfl,ho2,hb2⟩) | ((with_reducible refine (rfour_any v _).mono ?_); rintro e w3 ⟨A3,d3,rfl,ho3,hb3⟩))
       | (go_at_call 105; (with_reducible refine (two_big L _ hL).mono ?_); rintro e w5 ⟨A5,d5,rfl,ho5,hb5⟩)
       | (go_at_call 75
          refine (join_as _ 5 5 44 [four s,four v,[byt ((L : Int) / 256),byt (L : Int)],[byt (S : Int),byt (P : Int)],h] (plainL s v L S P h) _ (by simp [plainL]) (by rw [plainL_len,Hh.out])
            (rdl_5r (by first | exact cell2 _ _ _ _ 0 _ rfl | exact cell1 _ _ _ 0 _ rfl) (by first | exact cell2 _ _ _ _ 1 _ rfl | exact cell1 _ _ _ 1 _ rfl) (by first | exact cell2 _ _ _ _ 2 _ rfl | exact cell1 _ _ _ 2 _ rfl) (by first | exact cell2 _ _ _ _ 3 _ rfl | exact cell1 _ _ _ 3 _ rfl) (by first | exact cell2 _ _ _ _ 4 _ rfl | exact cell1 _ _ _ 4 _ rfl)
              (by repeat (first | (with_reducible exact ho2.rd) | (with_reducible refine Rd.alloc ?_ _) | (with_reducible refine Rd.below ?_ hb5) | (with_reducible refine Rd.below ?_ hb3)))
              (by repeat (first | (with_reducible exact ho3.rd) | (with_reducible refine Rd.alloc ?_ _) | (with_reducible refine Rd.below ?_ hb5)))
              (by repeat (first | (with_reducible exact ho5.rd) | (with_reducible refine Rd.alloc ?_ _)))
              (by repeat (first | (with_reducible exact rd_mid2r _ S P) | (with_reducible exact (rd_mid2r _ S P).drew) | (with_reducible refine Rd.alloc ?_ _) | (with_reducible refine Rd.below ?_ hb5) | (with_reducible refine Rd.below ?_ hb3) | (with_reducible refine Rd.below ?_ hb2)))
              (by repeat (first | (with_reducible exact hr1.drew) | (with_reducible exact (hr1.alloc _).drew) | (with_reducible refine Rd.alloc ?_ _) | (with_reducible refine Rd.below ?_ hb5) | (with_reducible refine Rd.below ?_ hb3) | (with_reducible refine Rd.below ?_ hb2)))) (by omega)).mono ?_
          rintro e w4 ⟨A4,d4,rfl,ho4,hb4⟩))
   all_goals
     go_wp2_with fail
     go_meet
     exact ⟨A4,d4,rfl,rfl,ho4.mono (by have h2 := hb2.size; have h3 := hb3.size; have h5 := hb5.size; simp at h2 h3 h5 ⊢; omega),(show ManAt w.heap.size s v L S P (.slice A 32 c) w1 w4 by assumption).2⟩
 case rest =>
   obtain ⟨B',d',rfl,rfl,ho,hB⟩ := hcut
   go_wp2_with fail
   go_ret2
   exact ⟨B',d',rfl,ho.mono hB1.size,below_next hB1 hB⟩
abbrev SymAt (b : Nat) (s i : BitVec 32) (x : Value) (w1 w' : World) : Prop :=
 (w'.cell? ⟨b,0,none⟩ = some (.int .u32 (V s)) ∧ w'.cell? ⟨b,1,none⟩ = some (.int .u32 (V i)) ∧ w'.cell? ⟨b,2,none⟩ = some x) ∧ Below w1.heap.size w1 w'
theorem SymAt.of {b : Nat} {s i : BitVec 32} {x : Value} {w1 : World} (hb : Blk w1 b (symC s i x) 94) (a : World) (k : Below w1.heap.size w1 a) : SymAt b s i x w1 a := by
 have h := hb.below k
 exact ⟨⟨h.cell rfl,h.cell rfl,h.cell rfl⟩,k⟩
theorem rsymbytes_any (s i : BitVec 32) (A : Option Addr) (n c : Nat) (l : List UInt8) (w : World) (hr : Rd w A n c l) (h1 : 1 ≤ n) (h16 : n ≤ 16) :
   Calls Tryz.prog 50 #[.agg (symC s i (.slice A n c))] w fun e w' => ∃ A' c',e = .returned (.tuple #[.slice A' (8 + n) c',.int .i64 0]) ∧ Own w' w.heap.size 5 A' (8 + n) c' (four s ++ four i ++ l) ∧ Below w.heap.size w w' := by
 have hb0 : Blk (w.alloc (.cells (symC s i (.slice A n c)) 94)) w.heap.size (symC s i (.slice A n c)) 94 := Blk.new _ _ _
 have hB0 : Below w.heap.size w (w.alloc (.cells (symC s i (.slice A n c)) 94)) := (Below.refl _ _).alloc (Nat.le_refl _) _
 have d1 : decide ((n : Int) < 1) = false := by simp; omega
 have d2 : decide (16 < (n : Int)) = false := by simp; omega
 have hr0 := hr.below hB0
 have hs0 := hB0.size
 have c2 := hb0.cell (i := 2) (v := .slice A n c) rfl
 have Hl := hide hr.1
 have hlen : Hid ((four s ++ four i ++ l).length = 8 + n) := hide (by rw [← Hl.out]; simp [four_len]; omega)
 go_enter Tryz.func50,Tryz.ntmps50
 go_upto_region 3 with fail
 change Code.wp _ _ _ _ (w.alloc (.cells (symC s i (.slice A n c)) 94))
 generalize w.alloc (.cells (symC s i (.slice A n c)) 94) = w1 at *
 have hP := SymAt.of hb0
 have hS0 := hP w1.drew (Below.refl _ _).drew
 have hS2 : True := trivial
 have hS3 : True := trivial
 have hS4 : True := trivial
 clear c2
 go_cut [2,3] (fun x y wx => ∃ B' d',x = .slice B' (8 + n : Nat) d' ∧ y = .int .i64 0 ∧ Own wx w1.heap.size 5 B' (8 + n) d' (four s ++ four i ++ l) ∧ Below w1.heap.size w1 wx)
 case first =>
   go_region_held3 (fun w' => (w'.cell? ⟨w.heap.size,0,none⟩ = some (.int .u32 (V s)) ∧ w'.cell? ⟨w.heap.size,1,none⟩ = some (.int .u32 (V i)) ∧ w'.cell? ⟨w.heap.size,2,none⟩ = some (.slice A n c)) ∧ Below w1.heap.size w1 w')
     (first | (with_reducible exact hS0) | (with_reducible exact hS4) | (with_reducible exact hS3) | (with_reducible exact hS2) | (exact hP _ ((show SymAt w.heap.size s i (.slice A n c) w1 _ by assumption).2.alloc (show SymAt w.heap.size s i (.slice A n c) w1 _ by assumption).2.size _)))
     (first
       | (go_at_call 56; first | ((with_reducible refine (rfour_any s _).mono ?_); rintro e w2 ⟨A2,d2,rfl,ho2,hb2⟩; have hS2 := hP w2 (below_next (show SymAt w.heap.size s i (.slice A n c) w1 _ by assumption).2 hb2)) | ((with_reducible refine (rfour_any i _).mono ?_); rintro e w3 ⟨A3,d3,rfl,ho3,hb3⟩; have hS3 := hP w3 (below_next (show SymAt w.heap.size s i (.slice A n c) w1 _ by assumption).2 hb3)))
       | (go_at_call 75
          refine (join_as _ 3 3 (8 + n) [four s,four i,l] (four s ++ four i ++ l) _ (by simp) hlen.out
            (rdl_three (cell1 _ _ _ 0 _ rfl) (cell1 _ _ _ 1 _ rfl) (cell1 _ _ _ 2 _ rfl)
              (by repeat (first | (with_reducible exact ho2.rd) | (with_reducible refine Rd.alloc ?_ _) | (with_reducible refine Rd.below ?_ hb3)))
              (by repeat (first | (with_reducible exact ho3.rd) | (with_reducible refine Rd.alloc ?_ _)))
              (by repeat (first | (with_reducible exact hr0.drew) | (with_reducible refine Rd.alloc ?_ _) | (with_reducible refine Rd.below ?_ hb3) | (with_reducible refine Rd.below ?_ hb2)))) (by omega)).mono ?_
          rintro e w4 ⟨A4,d4,rfl,ho4,hb4⟩
          have hq := (show SymAt w.heap.size s i (.slice A n c) w1 _ by assumption).2
          have hS4 := hP w4 (below_next hq hb4)))
   all_goals
     go_wp2_with fail
     go_meet
     exact ⟨A4,d4,rfl,rfl,ho4.mono hq.size,(show SymAt w.heap.size s i (.slice A n c) w1 w4 by assumption).2⟩
 case rest =>
   obtain ⟨B',d',rfl,rfl,ho,hB⟩ := hcut
   go_wp2_with fail
   go_ret2
   exact ⟨B',d',rfl,ho.mono hs0,below_next hB0 hB⟩
def keyL : List UInt8 := [107,101,121]
theorem key7_any (w : World) : Calls Tryz.prog 7 #[] w fun e w' => ∃ A c,e = .returned (.slice A 3 c) ∧ Rd w' A 3 c keyL ∧ (∀ ad,A = some ad → w.heap.size ≤ ad.block) ∧ Below w.heap.size w w' := by
 have kc := fun (w : World) (C : Array Value) (n c : Nat) => Lib.run_convert_bytes_const (P := Tryz.prog) w 22 5 C n c Tryz.underlying22 Tryz.underlying5
 go_enter Tryz.func7,Tryz.ntmps7
 go_wp2_with fail
 go_ret
 exact ⟨_,_,rfl,Rd.newFr w 5 _ _ (l := keyL) rfl (by decide),fun ad e => by cases e; exact Nat.le_refl _,below_alloc1 _ _⟩
theorem key47_any (w : World) : Calls Tryz.prog 47 #[] w fun e w' => ∃ A c,e = .returned (.slice A 3 c) ∧ Rd w' A 3 c keyL ∧ (∀ ad,A = some ad → w.heap.size ≤ ad.block) ∧ Below w.heap.size w w' := by
 have kc := fun (w : World) (C : Array Value) (n c : Nat) => Lib.run_convert_bytes_const (P := Tryz.prog) w 22 5 C n c Tryz.underlying22 Tryz.underlying5
 go_enter Tryz.func47,Tryz.ntmps47
 go_wp2_with fail
 go_ret
 exact ⟨_,_,rfl,Rd.newFr w 5 _ _ (l := keyL) rfl (by decide),fun ad e => by cases e; exact Nat.le_refl _,below_alloc1 _ _⟩
def imgOf (a : List UInt8) (x : UInt8) : List UInt8 := a.take 60 ++ [x]
end Go.Proofs.YtkkcpblfheplaaaGreatDoor
