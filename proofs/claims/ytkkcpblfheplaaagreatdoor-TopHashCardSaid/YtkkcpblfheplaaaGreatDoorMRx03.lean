/- Contracts of functions that the laws of downpourtop reach, and plain facts; no condition beyond what each theorem states. -/
import Derived.Test.YtkkcpblfheplaaaGreatDoorMD10
import Derived.Test.YtkkcpblfheplaaaGreatDoorMEx03
import Derived.Test.YtkkcpblfheplaaaGreatDoorMR02
import Derived.Test.YtkkcpblfheplaaaGreatDoorMR03
import Derived.Test.YtkkcpblfheplaaaGreatDoorMRx02
set_option maxRecDepth 100000
set_option maxHeartbeats 8000000
set_option linter.all false
namespace Go.Proofs.YtkkcpblfheplaaaGreatDoor
open Go.RowKit
theorem swap_take (l : List Nat) (i j : Nat) (h : i ≤ j) : (swapL l i j).take i = l.take i := by
 unfold swapL
 rw [List.take_set_of_le h,List.take_set_of_le (Nat.le_refl _)]
def hasL (L : List Nat) (k : Nat) : List Nat := (List.range k).filter fun i => rowOf L i
theorem hasL_succ (L : List Nat) (k : Nat) : hasL L (k + 1) = hasL L k ++ (if rowOf L k then [k] else []) := by
 unfold hasL
 rw [List.range_succ,List.filter_append]
 cases h : rowOf L k <;> simp [h]
theorem hasL_len (L : List Nat) (k : Nat) : (hasL L k).length ≤ k := by
 unfold hasL
 have := List.length_filter_le (fun i => rowOf L i) (List.range k)
 simpa using this
theorem hasL_mem (L : List Nat) (k i : Nat) : i ∈ hasL L k ↔ i < k ∧ i ∈ L := by
 unfold hasL rowOf
 simp
theorem rsrc_some (g n K : Nat) (s : B32) (w : World) (h : RSrc w g s) (h1 : 1 ≤ K) (h2 : K ≤ n) (hn : n ≤ 64) :
   Calls Tryz.prog 165 #[.pointer (some ⟨g,0,none⟩),.int .i64 n,.int .i64 K] w fun e w' => ∃ A m c,e = .returned (.slice A m c) ∧ m ≤ 64 ∧ RdI w' A m c (hasL (someL n s K) n) ∧ Fr (· = g) w w' := by
 have d1 : decide ((n : Int) < 0) = false := by simp
 have d2 : decide (256 < (n : Int)) = false := by simp; omega
 have hn' : (n : Int) ≤ 64 := by omega
 have hn1 : (1 : Int) ≤ (n : Int) := by omega
 have hK' : (K : Int) ≤ (n : Int) := by omega
 have hK1 : (1 : Int) ≤ (K : Int) := by omega
 have hgl := Blk.lt h
 have hS0 : RSrc (w.alloc (.cells (Array.replicate n (.int .i64 0)) 3)) g s := Blk.alloc h _
 have hb0 : Blk (w.alloc (.cells (Array.replicate n (.int .i64 0)) 3)) w.heap.size (ints (preL n 0)) 3 := by
   rw [preL_zero,← ints_zero]; exact Blk.new _ _ _
 have hF0 : Fr (· = g) w (w.alloc (.cells (Array.replicate n (.int .i64 0)) 3)) := Fr.of (below_alloc1 _ _)
 have hmm : max (0 : Int) (min (K : Int) (n : Int)) = (K : Int) := by omega
 · go_enter Tryz.func165,Tryz.ntmps165
   go_wp2_with (at_make; refine wpList_makeZ _ rfl _ _ _ rfl 3 (.int .i64 0) 8 Tryz.underlying157 isZ3 rfl _ _ _ _ n rfl rfl rfl rfl (by omega) (by omega) ?_)
   go_loopw [29] (fun u wr => ∃ k : Nat,k ≤ n ∧ u = .int .i64 (k : Int) ∧ Blk wr w.heap.size (ints (preL n k)) 3 ∧ RSrc wr g s ∧ Fr (· = g) w wr) (fun u _ => n - (intOf u).toNat)
   case atStart => exact ⟨0,by omega,rfl,hb0,hS0,hF0⟩
   case round =>
     clear hb0 hS0 hF0
     obtain ⟨k,hk,rfl,hb,hS,hF⟩ := hrel
     by_cases hlt : k < n
     · have hlt' : (k : Int) < (n : Int) := by omega
       have hl := preL_len n k
       have c := hb.cell (ints_getD (preL n k) k (by omega))
       have f := hb.free k
       have hset := hb.setCellAt k (.int .i64 (k : Int)) (cs' := ints (preL n (k + 1))) (by rw [ints_set,preL_succ n k hlt])
       have hS2 : RSrc (wr.setCell ⟨w.heap.size,k,none⟩ (.int .i64 (k : Int))) g s := Blk.other hS (a := ⟨w.heap.size,k,none⟩) (show g ≠ w.heap.size by omega) (.int .i64 (k : Int))
       have hF2 : Fr (· = g) w (wr.setCell ⟨w.heap.size,k,none⟩ (.int .i64 (k : Int))) := Fr.set (S := (· = g)) hF (p := ⟨w.heap.size,k,none⟩) (fun hq => absurd hq (Nat.lt_irrefl _)) _
       clear hb hS hF
       go_wp2_with fail
       go_roundw
       case rel => exact ⟨k + 1,by omega,by go_num,hset,hS2,hF2⟩
       case measure => simp [intOf]; omega
     · obtain rfl : n = k := by omega
       rw [preL_full] at hb
       obtain ⟨W0,hW0⟩ : ∃ W0,W0 = wr := ⟨_,rfl⟩
       subst hW0
       have hlb := hb.lt
       have hbA : Blk (W0.alloc (.cells (Array.replicate n (.bool false)) 4)) W0.heap.size (boolsA (rowOf ((shuf n s 0).take 0)) n) 4 := by
         have : boolsA (rowOf ((shuf n s 0).take 0)) n = Array.replicate n (.bool false) := by rw [boolsA_zero]; exact boolsA_congr fun i _ => by simp [rowOf]
         rw [this]; exact Blk.new _ _ _
       have hb' : Blk (W0.alloc (.cells (Array.replicate n (.bool false)) 4)) w.heap.size (ints (List.range n)) 3 := hb.alloc _
       have hS' : RSrc (W0.alloc (.cells (Array.replicate n (.bool false)) 4)) g s := Blk.alloc hS _
       have hF' : Fr (· = g) w (W0.alloc (.cells (Array.replicate n (.bool false)) 4)) := hF.next (below_alloc1 _ _)
       have hsW := hF.size
       go_wp2_with (at_make; refine wpList_makeZ _ rfl _ _ _ rfl 4 (.bool false) 1 Tryz.underlying176 isZ4 rfl _ _ _ _ n rfl rfl rfl rfl (by omega) (by omega) ?_)
       go_loopw [40] (fun u wr => ∃ k : Nat,k ≤ K ∧ u = .int .i64 (k : Int) ∧ Blk wr w.heap.size (ints (shuf n s k)) 3 ∧ Blk wr W0.heap.size (boolsA (rowOf ((shuf n s k).take k)) n) 4 ∧ RSrc wr g (stS s k) ∧ Fr (· = g) w wr) (fun u _ => K - (intOf u).toNat)
       case atStart => exact ⟨0,by omega,rfl,hb',hbA,hS',hF'⟩
       case round =>
         clear hb hS hF hb' hbA hS' hF'
         obtain ⟨k,hk,rfl,hb,hbA,hS,hF⟩ := hrel
         by_cases hlt : k < K
         · have hlt' : (k : Int) < (K : Int) := by omega
           have hbel := rsrc_below g (n - k) (stS s k) wr hS (by omega) (by omega)
           have hq : ((n - k : Nat) : Int) = (n : Int) - (k : Int) := by omega
           rw [hq] at hbel
           clear hq
           have hjl := belowS_lt (stS s k) (n := n - k) (by omega)
           have hSh : Hid (shuf n s (k + 1) = swapL (shuf n s k) k (k + belowS (stS s k) (n - k))) := hide rfl
           generalize belowS (stS s k) (n - k) = j at *
           have hj' : (j : Int) < (n : Int) - (k : Int) := by omega
           have hsl := shuf_len n s k
           go_wp2_with fail
           refine hbel.mono ?_
           rintro e w2 ⟨rfl,hS2,hF2⟩
           have hb2 := hb.fr hF2 (by omega)
           have hbA2 := hbA.fr hF2 (by omega)
           have hFF := hF.trans hF2
           have ca := hb2.cell (ints_getD (shuf n s k) k (by omega))
           have cb := hb2.cell (ints_getD (shuf n s k) (k + j) (by omega))
           have fa := hb2.free k
           have fb := hb2.free (k + j)
           have hset : Blk ((w2.setCell ⟨w.heap.size,k,none⟩ (.int .i64 (((shuf n s k).getD (k + j) 0 : Nat) : Int))).setCell ⟨w.heap.size,k + j,none⟩ (.int .i64 (((shuf n s k).getD k 0 : Nat) : Int))) w.heap.size (ints (shuf n s (k + 1))) 3 := by
             rw [hSh.out]
             unfold swapL
             rw [← ints_set,← ints_set]
             exact (hb2.set _ _).set _ _
           have hck : (ints (shuf n s (k + 1)))[k]? = some (.int .i64 (((shuf n s k).getD (k + j) 0 : Nat) : Int)) := by
             rw [hSh.out]
             unfold swapL
             rw [ints_get,List.getElem?_set]
             by_cases e : j = 0
             · subst e
               rw [if_pos (by omega),if_pos (by rw [List.length_set]; omega)]
               rfl
             · rw [if_neg (by omega),List.getElem?_set,if_pos rfl,if_pos (by omega)]
               rfl
           have hyn : (shuf n s k).getD (k + j) 0 < n := by
             rw [List.getD_eq_getElem?_getD,List.getElem?_eq_getElem (by omega)]
             exact shuf_lt n s k (k + j) _ (List.getElem?_eq_getElem (by omega))
           have hrow : Hid (∀ i,rowOf ((shuf n s (k + 1)).take (k + 1)) i = (decide (i = (shuf n s k).getD (k + j) 0) || rowOf ((shuf n s k).take k) i)) := hide (by
             intro i
             have hk1 : (shuf n s (k + 1))[k]? = some ((shuf n s k).getD (k + j) 0) := by
               rw [ints_get] at hck
               cases hq : (shuf n s (k + 1))[k]? with
               | none => rw [hq] at hck; cases hck
               | some z =>
                 rw [hq] at hck
                 simp only [Option.map_some,Option.some.injEq,Value.int.injEq,true_and] at hck
                 rw [Int.ofNat_inj.1 hck]
             unfold rowOf
             rw [List.take_add_one,hk1,hSh.out,swap_take _ _ _ (by omega)]
             simp [Bool.or_comm])
           generalize (shuf n s k).getD (k + j) 0 = y at *
           generalize (shuf n s k).getD k 0 = x at *
           have eq1 : ((k : Int) + (j : Int)).toNat = k + j := by omega
           have hkj0 : (0 : Int) ≤ (k : Int) + (j : Int) := by omega
           have hkj1 : (k : Int) + (j : Int) < (n : Int) := by omega
           have hkn : (k : Int) < (n : Int) := by omega
           have hy1 : (y : Int) < (n : Int) := by omega
           have hF2 : Fr (· = g) w ((w2.setCell ⟨w.heap.size,k,none⟩ (.int .i64 (y : Int))).setCell ⟨w.heap.size,k + j,none⟩ (.int .i64 (x : Int))) := Fr.set (S := (· = g)) (Fr.set (S := (· = g)) hFF (p := ⟨w.heap.size,k,none⟩) (fun hq => absurd hq (Nat.lt_irrefl _)) _) (p := ⟨w.heap.size,k + j,none⟩) (fun hq => absurd hq (Nat.lt_irrefl _)) _
           have hS3 : RSrc ((w2.setCell ⟨w.heap.size,k,none⟩ (.int .i64 (y : Int))).setCell ⟨w.heap.size,k + j,none⟩ (.int .i64 (x : Int))) g (nextS (stS s k)) := Blk.other (Blk.other hS2 (a := ⟨w.heap.size,k,none⟩) (show g ≠ w.heap.size by omega) _) (a := ⟨w.heap.size,k + j,none⟩) (show g ≠ w.heap.size by omega) _
           have hA3 : Blk ((w2.setCell ⟨w.heap.size,k,none⟩ (.int .i64 (y : Int))).setCell ⟨w.heap.size,k + j,none⟩ (.int .i64 (x : Int))) W0.heap.size (boolsA (rowOf ((shuf n s k).take k)) n) 4 := (hbA2.other (a := ⟨w.heap.size,k,none⟩) (show W0.heap.size ≠ w.heap.size by omega) _).other (a := ⟨w.heap.size,k + j,none⟩) (show W0.heap.size ≠ w.heap.size by omega) _
           clear hb hbA hS hF hbel hS2 hbA2 hFF
           go_upto_region 15 with fail
           go_cut [] (fun wx => Blk wx w.heap.size (ints (shuf n s (k + 1))) 3 ∧ RSrc wx g (nextS (stS s k)) ∧ Blk wx W0.heap.size (boolsA (rowOf ((shuf n s k).take k)) n) 4 ∧ Fr (· = g) w wx)
           case first =>
             by_cases hj0 : j = 0
             · subst hj0
               simp only [Nat.add_zero] at *
               have hxy : y = x := by
                 have := ca.symm.trans cb
                 simp only [Option.some.injEq,Value.int.injEq,true_and] at this
                 omega
               subst hxy
               have hc3 : ∀ v,(w2.setCell ⟨w.heap.size,k,none⟩ v).cell? ⟨w.heap.size,k,none⟩ = some v := fun v => World.cell?_setCell_same w2 ⟨w.heap.size,k,none⟩ v ca
               go_region
               all_goals
                 go_wp2_with fail
                 go_meet
                 exact ⟨hset.drew,Blk.drew hS3,hA3.drew,hF2.drew⟩
             · have hc3 : ∀ v,(w2.setCell ⟨w.heap.size,k,none⟩ v).cell? ⟨w.heap.size,k + j,none⟩ = some (.int .i64 (y : Int)) := fun v => by
                 have := hb2.set k v
                 rw [← cb]
                 rw [cell_of_row _ _ _ _ _ _ this,cell_of_row _ _ _ _ _ _ hb2]
                 simp [Array.getElem?_setIfInBounds,show ¬ k = k + j by omega,hj0]
               have hf3 : ∀ v,(w2.setCell ⟨w.heap.size,k,none⟩ v).frozen? ⟨w.heap.size,k + j,none⟩ = false := fun v => (hb2.set k v).free _
               go_region
               all_goals
                 go_wp2_with fail
                 go_meet
                 exact ⟨hset.drew,Blk.drew hS3,hA3.drew,hF2.drew⟩
           case rest =>
             obtain ⟨hb4,hS4,hA4,hF4⟩ := hcut
             have ck := hb4.cell hck
             have fA := hA4.free y
             have cA := hA4.cell (boolsA_get _ (show y < n from hyn))
             have hset4 := hA4.setCellAt y (.bool true) (cs' := boolsA (rowOf ((shuf n s (k + 1)).take (k + 1))) n) (by rw [boolsA_set]; exact boolsA_congr fun i _ => (hrow.out i).symm)
             have hb5 := hb4.other (a := ⟨W0.heap.size,y,none⟩) (show w.heap.size ≠ W0.heap.size by omega) (.bool true)
             have hS5 : RSrc (wc.setCell ⟨W0.heap.size,y,none⟩ (.bool true)) g (nextS (stS s k)) := Blk.other hS4 (a := ⟨W0.heap.size,y,none⟩) (show g ≠ W0.heap.size by omega) (.bool true)
             have hF5 : Fr (· = g) w (wc.setCell ⟨W0.heap.size,y,none⟩ (.bool true)) := Fr.set (S := (· = g)) hF4 (p := ⟨W0.heap.size,y,none⟩) (fun (hq : W0.heap.size < w.heap.size) => absurd hq (by omega)) _
             clear hb4 hS4 hA4 hF4 ca cb fa fb hset hS3 hA3 hF2 hck hb2
             generalize rowOf ((shuf n s k).take k) y = b0 at *
             go_wp2_with fail
             go_roundw
             case rel => exact ⟨k + 1,by omega,by go_num,hb5,hset4,hS5,hF5⟩
             case measure => simp [intOf]; omega
         · obtain rfl : K = k := by omega
           have hT : Hid ((shuf n s K).take K = someL n s K) := hide rfl
           rw [hT.out] at hbA
           obtain ⟨W1,hW1⟩ : ∃ W1,W1 = wr := ⟨_,rfl⟩
           subst hW1
           clear hb hS
           have hs1 := hF.size
           go_wp2_with fail
           go_loopw [12,73] (fun v u wr => ∃ (k m : Nat) (A : Option Addr) (c : Nat),k ≤ n ∧ u = .int .i64 (k : Int) ∧ v = .slice A m c ∧ wr.ownsRow W1.heap.size 3 1 (.slice A m c) m (ints (hasL (someL n s K) k)).toList ∧ Below W1.heap.size W1 wr) (fun _ u _ => n - (intOf u).toNat)
           case atStart => exact ⟨0,0,none,0,Nat.zero_le _,rfl,rfl,World.ownsRow_nil W1 W1.heap.size 3 1,Below.refl _ _⟩
           case round =>
             obtain ⟨k,m,A,c,hk,rfl,rfl,ho,hB⟩ := hrel
             by_cases hlt : k < n
             · have hlt' : (k : Int) < (n : Int) := by omega
               have hm : m ≤ 64 := by
                 have h1 := row_len ho
                 have h2 := hasL_len (someL n s K) k
                 simp [ints] at h1
                 omega
               have hSs := hide (hasL_succ (someL n s K) k)
               have hsz := hB.size
               have cA := (hbA.below hB).cell (boolsA_get (rowOf (someL n s K)) hlt)
               rcases Bool.eq_false_or_eq_true (rowOf (someL n s K) k) with hb | hb
               · rw [hb] at cA
                 have Hb := hide hb
                 clear hb
                 have hsrc : ∀ (j : Nat) u,([.int .i64 (k : Int)] : List Value)[j]? = some u → (wr.alloc (.cells #[.int .i64 (k : Int)] 3)).cell? ((⟨wr.heap.size,0,none⟩ : Addr).add j) = some u := by
                   intro j u hj
                   match j,hj with
                   | 0,hj => simp at hj; subst hj; rw [addAt]; exact cell1 wr _ 3 0 _ rfl
                 go_wp2_with (at_builtin
                              refine wpList_appendV _ rfl _ _ _ rfl W1.heap.size 3 (.int .i64 0) 8 Tryz.underlying157 isZ3 rfl (by omega) A m c _ rfl (row_below ho (below_alloc1 wr _)) ⟨wr.heap.size,0,none⟩ 1 1 [.int .i64 (k : Int)] rfl rfl (by omega) hsrc (by simp [Value.oneCell']) (by omega) (by simp; omega) ?_
                              intro A6 c6 w6 ho6 hb6 _ _)
                 go_roundw
                 case rel => exact ⟨k + 1,m + 1,A6,c6,by omega,by go_num,rfl,by rw [hSs.out,Hb.out]; simpa [ints] using ho6,(hB.alloc hsz _).trans hb6⟩
                 case measure => simp [intOf]; omega
               · rw [hb] at cA
                 have Hb := hide hb
                 clear hb
                 go_wp2_with fail
                 go_roundw
                 case rel => exact ⟨k + 1,m,A,c,by omega,by go_num,rfl,by rw [hSs.out,Hb.out]; simpa using ho,hB⟩
                 case measure => simp [intOf]; omega
             · obtain rfl : n = k := by omega
               have hm : m ≤ 64 := by
                 have h1 := row_len ho
                 have h2 := hasL_len (someL n s K) n
                 simp [ints] at h1
                 omega
               go_wp2_with fail
               go_ret
               exact ⟨A,m,c,rfl,hm,RdI.of_row ho,hF.next hB⟩
theorem rrow_any (s : B32) (K P S : Nat) (id : B32) (w : World) (hok : spOk K P S = true) (hn : K + P ≤ 64) :
   Calls Tryz.prog 109 #[.agg (parC s K P S),.int .u32 (V id)] w fun e w' => ∃ g,e = .returned (.slice (some ⟨g,0,none⟩) (K + P : Nat) (K + P : Nat)) ∧ w.heap.size ≤ g ∧ Blk w' g (boolsA (rowOf (rowL s K P id)) (K + P)) 4 ∧ Below w.heap.size w w' := by
 have hb0 : Blk (w.alloc (.cells (parC s K P S) 59)) w.heap.size (parC s K P S) 59 := Blk.new _ _ _
 have hB0 := below_alloc1 w (.cells (parC s K P S) 59)
 have hsz := size59 s K P S
 have hK : 1 ≤ K ∧ K ≤ 64 ∧ P ≤ 16 := by unfold spOk at hok; simp at hok; omega
 obtain ⟨n,hnn⟩ : ∃ n,K + P = n := ⟨_,rfl⟩
 have hmay := fun w => rmay_any s K P S w
 rw [hok] at hmay
 rw [hnn] at hn ⊢
 have hn1 : 1 ≤ n := by omega
 have hni : ((K : Int) + (P : Int)) = (n : Int) := by omega
 have hK2 : (K : Int) ≤ 64 := by omega
 have hK0 : (0 : Int) ≤ (K : Int) := by omega
 have hP2 : (P : Int) ≤ 16 := by omega
 have hP0 : (0 : Int) ≤ (P : Int) := by omega
 have hid := V_bd id
 clear hok
 go_enter Tryz.func109,Tryz.ntmps109
 go_wp2_with (first
   | ((with_reducible refine at_load ?_); refine wpList_load_row rfl 59 (.tmp 2) rfl w.heap.size rfl 59 (parC s K P S) (0,0) _ hb0 Tryz.underlying59 rfl hsz ?_))
 refine (hmay _).mono ?_
 rintro e w1 ⟨rfl,hb1⟩
 have hb := hb0.below hb1
 have c0 := hb.cell (i := 0) (v := .int .u32 (V s)) rfl
 have c1 := hb.cell (i := 1) (v := .int .i64 (K : Int)) rfl
 have c2 := hb.cell (i := 2) (v := .int .i64 (P : Int)) rfl
 have hB1 := below_next hB0 hb1
 have hs1 := hB1.size
 clear hb0 hB0 hb1 hmay
 by_cases hlt : id.toNat < K
 · have dl : decide (V id < (K : Int)) = true := by unfold V; simp; omega
   have hrow : Hid (rowL s K P id = [id.toNat]) := hide (by unfold rowL; rw [if_pos hlt])
   have hrd : RdI (w1.alloc (.cells #[.int .i64 (V id)] 3)) (some ⟨w1.heap.size,0,none⟩) 1 1 [id.toNat] := ⟨rfl,Nat.le_refl _,by decide,fun _ => ⟨w1.heap.size,rfl,_,Blk.new _ _ _,fun j x hj => by
     match j,hj with
     | 0,hj => simp at hj; subst hj; rfl⟩⟩
   have hlt' := hide hlt
   clear hlt
   go_wp2_with fail
   refine (rbits_any n (some ⟨w1.heap.size,0,none⟩) 1 1 [id.toNat] _ hn (by simp; have := hlt'.out; omega) hrd (by omega)).mono ?_
   rintro e w2 ⟨g,rfl,hg,hv2,hb2⟩
   have ha := below_alloc1 w1 (.cells #[.int .i64 (V id)] 3)
   have hB2 := below_next (below_next hB1 ha) hb2
   have hs2 := ha.size
   have hgg : w.heap.size ≤ g := by omega
   clear hg
   go_wp2_with fail
   go_ret
   exact ⟨g,rfl,hgg,by rw [hrow.out]; exact hv2,hB2⟩
 · have dl : decide (V id < (K : Int)) = false := by unfold V; simp; omega
   obtain ⟨s0,hs0⟩ : ∃ s0,newS s id = s0 := ⟨_,rfl⟩
   have hrow : Hid (rowL s K P id = someL n (nextS s0) (degF n (outS s0).toNat)) := hide (by unfold rowL; rw [if_neg hlt,hnn,hs0])
   have hlt' := hide hlt
   clear hlt
   go_wp2_with fail
   refine (rsrc_new s id w1).mono ?_
   rw [hs0]
   rintro e w2 ⟨rfl,hS2,hb2⟩
   have hB2 := below_next hB1 hb2
   have hl2 := Blk.lt hS2
   clear hb c0 c1 c2 hs0
   go_wp2_with fail
   refine (rsrc_next w1.heap.size s0 w2 hS2).mono ?_
   rintro e w4 ⟨rfl,hS4,hF4⟩
   have hB4 := hB2.trans (hF4.below hB2.size (fun q hq => by omega))
   have hxl : (outS s0).toNat < 4294967296 := (outS s0).isLt
   go_wp2_with fail
   refine Calls.mono (show Calls Tryz.prog 163 #[.int .i64 n,.int .u32 (V (outS s0))] w4 _ from Sol.rdegree_any n (outS s0).toNat hn1 (by omega) hxl w4) ?_
   rintro e w5 ⟨r,rfl,hdeg,hb5⟩
   have hr : r = degF n (outS s0).toNat := hdeg.same (degF_is hn1 (by omega) hxl) hn1 (by omega) hxl
   have hr1 := degF_pos hn1 (show n ≤ 80 by omega) hxl
   have hr2 := degF_le hn1 (show n ≤ 80 by omega) hxl
   rw [← hr] at hr1 hr2
   have Hr := hide hr
   have hS5 : RSrc w5 w1.heap.size (nextS s0) := Blk.below hS4 hb5
   have hB5 := below_next hB4 hb5
   clear hr hdeg hS4 hxl
   go_wp2_with fail
   refine (rsrc_some w1.heap.size n r (nextS s0) w5 hS5 hr1 hr2 hn).mono ?_
   rintro e w6 ⟨A,m,c,rfl,hm,hrd,hF6⟩
   have hB6 := hB5.trans (hF6.below hB5.size (fun q hq => by omega))
   have hLn : ∀ x ∈ hasL (someL n (nextS s0) r) n,x < n := fun x hx => ((hasL_mem _ _ _).1 hx).1
   have hLe : Hid (boolsA (rowOf (hasL (someL n (nextS s0) r) n)) n = boolsA (rowOf (someL n (nextS s0) r)) n) := hide (boolsA_congr fun i hi => by
     unfold rowOf
     rw [decide_eq_decide,hasL_mem]
     exact ⟨fun h => h.2,fun h => ⟨hi,h⟩⟩)
   have hs6 := hB6.size
   clear hS5
   go_wp2_with fail
   refine (rbits_any n A m c _ w6 hn hLn hrd (by omega)).mono ?_
   rintro e w7 ⟨g,rfl,hg,hv7,hb7⟩
   have hB7 := below_next hB6 hb7
   have hgg : w.heap.size ≤ g := by omega
   clear hg
   go_wp2_with fail
   go_ret
   exact ⟨g,rfl,hgg,by rw [hrow.out,← Hr.out,← hLe.out]; exact hv7,hB7⟩
def parL (s : B32) (K j k : Nat) : List Nat := (K + j) :: (List.range k).filter (parB s j)
theorem parL_succ (s : B32) (K j k : Nat) : parL s K j (k + 1) = parL s K j k ++ (if parB s j k then [k] else []) := by
 unfold parL
 rw [List.range_succ,List.filter_append]
 cases h : parB s j k <;> simp [h]
theorem parL_len (s : B32) (K j k : Nat) : (parL s K j k).length ≤ k + 1 := by
 unfold parL
 have := List.length_filter_le (parB s j) (List.range k)
 simp at this
 simp
 omega
theorem parL_row (s : B32) (K j i : Nat) : rowOf (parL s K j K) i = parRow s K j i := by
 unfold rowOf parL parRow
 simp
def SlV (n : Nat) (gs : List Nat) : List Value := gs.map fun g => Value.slice (some ⟨g,0,none⟩) n n
theorem isZ176 : IsZ Tryz.prog 176 (.slice none 0 0) 24 := by unfold IsZ; kernel_rfl
theorem rparity_any (s : B32) (K P S : Nat) (w : World) (hok : spOk K P S = true) (hn : K + P ≤ 64) :
   Calls Tryz.prog 166 #[.agg (parC s K P S)] w fun e w' => ∃ A c gs,e = .returned (.slice A P c) ∧ w'.ownsRow w.heap.size 176 1 (.slice A P c) P (SlV (K + P) gs) ∧ (∀ (j : Nat) g,gs[j]? = some g → Blk w' g (boolsA (parRow s K j) (K + P)) 4 ∧ w.heap.size ≤ g) ∧ Below w.heap.size w w' := by
 have hb0 : Blk (w.alloc (.cells (parC s K P S) 59)) w.heap.size (parC s K P S) 59 := Blk.new _ _ _
 have hB0 := below_alloc1 w (.cells (parC s K P S) 59)
 have hsz := size59 s K P S
 have hK : 1 ≤ K ∧ K ≤ 64 ∧ P ≤ 16 := by unfold spOk at hok; simp at hok; omega
 obtain ⟨n,hnn⟩ : ∃ n,K + P = n := ⟨_,rfl⟩
 have hmay := fun w => rmay_any s K P S w
 rw [hok] at hmay
 rw [hnn] at hn ⊢
 have hn1 : 1 ≤ n := by omega
 have hni : ((K : Int) + (P : Int)) = (n : Int) := by omega
 have hK2 : (K : Int) ≤ 64 := by omega
 have hK0 : (0 : Int) ≤ (K : Int) := by omega
 have hP2 : (P : Int) ≤ 16 := by omega
 have hP0 : (0 : Int) ≤ (P : Int) := by omega
 clear hok
 go_enter Tryz.func166,Tryz.ntmps166
 go_wp2_with (first
   | ((with_reducible refine at_load ?_); refine wpList_load_row rfl 59 (.tmp 1) rfl w.heap.size rfl 59 (parC s K P S) (0,0) _ hb0 Tryz.underlying59 rfl hsz ?_))
 refine (hmay _).mono ?_
 rintro e w1 ⟨rfl,hb1⟩
 have hb := hb0.below hb1
 have c2 := hb.cell (i := 2) (v := .int .i64 (P : Int)) rfl
 have hB1 := below_next hB0 hb1
 have hs1 := hB1.size
 clear hb0 hB0 hb1 hmay
 go_wp2_with fail
 clear c2
 go_loopw [3,13] (fun v u wr => ∃ (j c : Nat) (A : Option Addr) (gs : List Nat),j ≤ P ∧ u = .int .i64 (j : Int) ∧ v = .slice A j c ∧ Blk wr w.heap.size (parC s K P S) 59 ∧ wr.ownsRow w.heap.size 176 1 (.slice A j c) j (SlV n gs) ∧ Hid (∀ (i : Nat) g,gs[i]? = some g → Blk wr g (boolsA (parRow s K i) n) 4 ∧ w.heap.size ≤ g) ∧ Below w.heap.size w wr) (fun _ u _ => P - (intOf u).toNat)
 case atStart => exact ⟨0,0,none,[],by omega,rfl,rfl,hb,World.ownsRow_nil w1 w.heap.size 176 1,hide (fun i p h => by cases h),hB1⟩
 case round =>
   clear hb hB1 hs1
   obtain ⟨j,c,A,gs,hj,rfl,rfl,hb,ho,hvs,hB⟩ := hrel
   by_cases hlt : j < P
   · have hlt' : (j : Int) < (P : Int) := by omega
     have c0 := hb.cell (i := 0) (v := .int .u32 (V s)) rfl
     have c1 := hb.cell (i := 1) (v := .int .i64 (K : Int)) rfl
     have c2 := hb.cell (i := 2) (v := .int .i64 (P : Int)) rfl
     have hsr := hB.size
     have hlb := hb.lt
     obtain ⟨idv,hidv⟩ : ∃ idv,BitVec.ofNat 32 (2147483648 + j) = idv := ⟨_,rfl⟩
     have hV : IntKind.u32.wrap (2147483648 + (j : Int)) = V idv := by
       rw [wrapU32,← hidv]
       unfold V
       rw [BitVec.toNat_ofNat]
       omega
     have hV2 : (2147483648 + (j : Int)) % 4294967296 = V idv := by rw [← hV,wrapU32]
     have hV3 : (2147483648 + (j : Int)) = V idv := by rw [← hV,wrapU32]; omega
     obtain ⟨s0,hs0⟩ : ∃ s0,newS s idv = s0 := ⟨_,rfl⟩
     have hpb : Hid (∀ k,parB s j k = (outS (stS s0 k)).getLsbD 0) := hide (by intro k; unfold parB; rw [hidv,hs0])
     clear hV2 hV hidv
     go_upto_region 7 with fail
     have hid := V_bd idv
     obtain ⟨W0,hW0⟩ : ∃ W0,W0 = wr := ⟨_,rfl⟩
     subst hW0
     go_wp2_with fail
     refine (rsrc_new s idv W0).mono ?_
     rw [hs0]
     rintro e w3 ⟨rfl,hS3,hb3⟩
     clear hV3 hid hs0
     have hbn3 := hb.below hb3
     have c1 := hbn3.cell (i := 1) (v := .int .i64 (K : Int)) rfl
     have hs3 := hb3.size
     have hl3 := Blk.lt hS3
     have ha3 := below_alloc1 w3 (.cells #[.int .i64 ((K : Int) + (j : Int))] 3)
     have hrow3 : (w3.alloc (.cells #[.int .i64 ((K : Int) + (j : Int))] 3)).ownsRow W0.heap.size 3 1 (.slice (some ⟨w3.heap.size,0,none⟩) 1 1) 1 (ints (parL s K j 0)).toList :=
       World.ownsRow_lit (base := W0.heap.size) (e := 3) (size := 1) w3 #[.int .i64 ((K : Int) + (j : Int))] 1 hs3 (by simp [maxLen]) rfl
     have hS4 : RSrc (w3.alloc (.cells #[.int .i64 ((K : Int) + (j : Int))] 3)) W0.heap.size s0 := Blk.alloc hS3 _
     have hb4 : Below W0.heap.size W0 (w3.alloc (.cells #[.int .i64 ((K : Int) + (j : Int))] 3)) := below_next hb3 ha3
     have c1' := (hbn3.alloc (.cells #[.int .i64 ((K : Int) + (j : Int))] 3)).cell (i := 1) (v := .int .i64 (K : Int)) rfl
     go_wp2_with fail
     clear c1 c1'
     go_loopw [6,29] (fun v u wr => ∃ (k m : Nat) (A1 : Option Addr) (d : Nat),k ≤ K ∧ u = .int .i64 (k : Int) ∧ v = .slice A1 m d ∧ wr.ownsRow W0.heap.size 3 1 (.slice A1 m d) m (ints (parL s K j k)).toList ∧ RSrc wr W0.heap.size (stS s0 k) ∧ Below W0.heap.size W0 wr) (fun _ u _ => K - (intOf u).toNat)
     case atStart => exact ⟨0,1,_,1,by omega,rfl,rfl,hrow3,hS4,hb4⟩
     case round =>
       clear hrow3 hS4 hb4
       obtain ⟨k,m,A1,d,hk,rfl,rfl,hrw,hS,hBi⟩ := hrel
       by_cases hkl : k < K
       · have hkl' : (k : Int) < (K : Int) := by omega
         have hbit := V_bit (outS (stS s0 k))
         have hpk := hpb.out k
         have hX := hide (parL_succ s K j k)
         have hm : m ≤ 65 := by
           have h1 := row_len hrw
           have h2 := parL_len s K j k
           simp [ints] at h1
           omega
         have hnx := rsrc_next W0.heap.size (stS s0 k) wr hS
         have hnS : stS s0 (k + 1) = nextS (stS s0 k) := rfl
         rw [← hnS] at hnx
         rw [← hpk] at hbit
         generalize outS (stS s0 k) = o at *
         have Hnx := hide hnx
         have hap : ∀ g,A1.map (·.block) = some g → g ≠ W0.heap.size := fun g hg => by
           obtain ⟨cur,hcur⟩ := own2_at hrw hg
           exact hcur.ne hS (by decide)
         clear hnx hpk hnS
         rcases Bool.eq_false_or_eq_true (parB s j k) with hp | hp
         · rw [hp] at hbit
           have Hp := hide hp
           clear hp
           go_wp2_with fail
           refine Hnx.out.mono ?_
           rintro e w4 ⟨rfl,hS4,hF4⟩
           have hrw4 := own2_fr hrw hF4 hap
           have hB4 : Below W0.heap.size W0 w4 := hBi.trans (hF4.below hBi.size (fun g hg => by omega))
           have hs4 := hB4.size
           have ha4 := below_alloc1 w4 (.cells #[.int .i64 (k : Int)] 3)
           have hrw5 := row_below hrw4 ha4
           have hS5 : RSrc (w4.alloc (.cells #[.int .i64 (k : Int)] 3)) W0.heap.size (stS s0 (k + 1)) := Blk.alloc hS4 _
           have hap5 := row_ne hrw5 hS5 (by decide)
           have hsrc : ∀ (i : Nat) u,([.int .i64 (k : Int)] : List Value)[i]? = some u → (w4.alloc (.cells #[.int .i64 (k : Int)] 3)).cell? ((⟨w4.heap.size,0,none⟩ : Addr).add i) = some u := by
             intro i u hi
             match i,hi with
             | 0,hi => simp at hi; subst hi; rw [addAt]; exact cell1 w4 _ 3 0 _ rfl
           go_wp2_with (at_builtin
                        refine wpList_appendV _ rfl _ _ _ rfl W0.heap.size 3 (.int .i64 0) 8 Tryz.underlying157 isZ3 rfl (by omega) A1 m d _ rfl hrw5 ⟨w4.heap.size,0,none⟩ 1 1 [.int .i64 (k : Int)] rfl rfl (by omega) hsrc (by simp [Value.oneCell']) (by omega) (by simp; omega) ?_
                        intro A6 c6 w6 ho6 hb6 hg6 _)
           go_roundw
           case rel => exact ⟨k + 1,m + 1,A6,c6,by omega,by go_num,rfl,by rw [hX.out,Hp.out]; simpa [ints] using ho6,Blk.grown hS5 hg6 hap5,(hB4.alloc hs4 _).trans hb6⟩
           case measure => simp [intOf]; omega
         · rw [hp] at hbit
           have Hp := hide hp
           clear hp
           go_wp2_with fail
           refine Hnx.out.mono ?_
           rintro e w4 ⟨rfl,hS4,hF4⟩
           have hrw4 := own2_fr hrw hF4 hap
           have hB4 : Below W0.heap.size W0 w4 := hBi.trans (hF4.below hBi.size (fun g hg => by omega))
           go_wp2_with fail
           go_roundw
           case rel => exact ⟨k + 1,m,A1,d,by omega,by go_num,rfl,by rw [hX.out,Hp.out]; simpa using hrw4,hS4,hB4⟩
           case measure => simp [intOf]; omega
       · obtain rfl : K = k := by omega
         have hbn := hb.below hBi
         have c1 := hbn.cell (i := 1) (v := .int .i64 (K : Int)) rfl
         have c2 := hbn.cell (i := 2) (v := .int .i64 (P : Int)) rfl
         have hm : m ≤ 65 := by
           have h1 := row_len hrw
           have h2 := parL_len s K j K
           simp [ints] at h1
           omega
         have hL : ∀ x ∈ parL s K j K,x < n := fun x hx => by
           unfold parL at hx
           simp at hx
           omega
         have hvsn : ∀ (i : Nat) g,gs[i]? = some g → Blk wr g (boolsA (parRow s K i) n) 4 ∧ w.heap.size ≤ g := fun i p hp => by
           obtain ⟨h1,h2⟩ := hvs.out i p hp
           exact ⟨h1.below hBi,h2⟩
         have hon : wr.ownsRow w.heap.size 176 1 (.slice A j c) j (SlV n gs) := row_below ho hBi
         have hBn := hB.trans (hBi.mono hsr)
         have Hvs := hide hvsn
         have hrd := RdI.of_row hrw
         have hrow : Hid (boolsA (rowOf (parL s K j K)) n = boolsA (parRow s K j) n) := hide (boolsA_congr fun i _ => parL_row s K j i)
         clear hvsn hvs ho hS hpb hB hb hbn3
         go_wp2_with fail
         refine (rbits_any n A1 m d _ wr hn hL hrd (by omega)).mono ?_
         rintro e w5 ⟨g5,rfl,hg5,hv5,hb5⟩
         rw [hrow.out] at hv5
         have hal := below_alloc1 w5 (.cells #[.slice (some ⟨g5,0,none⟩) n n] 176)
         have hsrc : ∀ (i : Nat) u,([.slice (some ⟨g5,0,none⟩) n n] : List Value)[i]? = some u → (w5.alloc (.cells #[.slice (some ⟨g5,0,none⟩) n n] 176)).cell? ((⟨w5.heap.size,0,none⟩ : Addr).add i) = some u := by
           intro i u hi
           match i,hi with
           | 0,hi => simp at hi; subst hi; rw [addAt]; exact cell1 w5 _ 176 0 _ rfl
         have hB5 := below_next hBn hb5
         have hsn := hBn.size
         have hs5 := hB5.size
         have hon5 := row_below (row_below hon hb5) hal
         go_wp2_with (at_builtin
                      refine wpList_appendV _ rfl _ _ _ rfl w.heap.size 176 (.slice none 0 0) 24 Tryz.underlying221 isZ176 rfl (by omega) A j c (SlV n gs) rfl hon5 ⟨w5.heap.size,0,none⟩ 1 1 [.slice (some ⟨g5,0,none⟩) n n] rfl rfl (by omega) hsrc (by simp [Value.oneCell']) (by omega) (by simp; omega) ?_
                      intro A6 c6 w6 ho6 hb6 hg6 _)
         go_roundw
         case rel =>
           have keep : ∀ p cs,Blk w5 p cs 4 → Blk w6 p cs 4 := fun p cs hx => (hx.alloc _).grown hg6 (row_ne hon5 (hx.alloc _) (by decide))
           refine ⟨j + 1,c6,A6,gs ++ [g5],by omega,by go_num,rfl,((hbn.below hb5).alloc _).grown hg6 (row_ne hon5 ((hbn.below hb5).alloc _) (by decide)),by simpa [SlV] using ho6,hide ?_,(hB5.alloc hs5 _).trans hb6⟩
           intro i p hp
           have hpl : gs.length = j := by
             have := row_len hon
             simpa [SlV] using this
           rcases Nat.lt_or_ge i j with hij | hij
           · rw [List.getElem?_append_left (by omega)] at hp
             obtain ⟨q1,q2⟩ := Hvs.out i p hp
             exact ⟨keep _ _ (q1.below hb5),q2⟩
           · have hi0 : i = j := by
               have := (List.getElem?_eq_some_iff.1 hp).1
               simp at this
               omega
             subst hi0
             rw [List.getElem?_append_right (by omega),hpl,Nat.sub_self] at hp
             simp at hp
             subst hp
             exact ⟨keep _ _ hv5,by omega⟩
         case measure => simp [intOf]; omega
   · obtain rfl : P = j := by omega
     go_wp2_with fail
     go_ret
     exact ⟨A,c,gs,rfl,ho,hvs.out,hB⟩
theorem isZ5 : IsZ Tryz.prog 5 (.int .u8 0) 1 := by unfold IsZ; kernel_rfl
theorem run_make64 (w : World) : (Instr.makeSlice 22 (.int .i64 64) (.int .i64 64)).run Tryz.prog w = .ok (.slice (some ⟨w.heap.size,0,none⟩) 64 64) (w.alloc (.cells (Array.replicate 64 (.int .u8 0)) 5)) := by
 have hi := isZ5
 unfold IsZ at hi
 obtain ⟨i,hi,hzz⟩ := Option.map_eq_some_iff.1 hi
 simp only [Prod.mk.injEq] at hzz
 have hrun := run_make (P := Tryz.prog) w 22 5 i (.int .u8 0) Tryz.underlying22 hi hzz.1 .i64 .i64 64 64 (by omega) (by omega) (by rw [hzz.2.2]; decide) (by omega)
 rw [hzz.2.1,show (64 : Int).toNat = 64 from rfl,madeZ _ rfl] at hrun
 exact hrun
theorem own_zeros (w : World) (base : Nat) (hb : base ≤ w.heap.size) : Own (w.alloc (.cells (Array.replicate 64 (.int .u8 0)) 5)) base 5 (some ⟨w.heap.size,0,none⟩) 64 64 (List.replicate 64 0) := by
 have := Own.lit w base 5 (Array.replicate 64 (.int .u8 0)) (l := List.replicate 64 0) (by simp [bys,by8]) (by simp [maxLen]) hb
 simpa using this
def mkTo (key : List UInt8) (x : UInt8) : Nat → List UInt8
 | 0 => List.replicate 64 0
 | i + 1 => (mkTo key x i).set i (key.getD i 0 ^^^ x)
theorem mkTo_len (key : List UInt8) (x : UInt8) : ∀ i,(mkTo key x i).length = 64 := by
 intro i
 induction i with
 | zero => simp [mkTo]
 | succ i ih => simp [mkTo,ih]
theorem mkTo_get (key : List UInt8) (x : UInt8) (j : Nat) (hj : j < 64) : ∀ i,j < i → (mkTo key x i)[j]? = some (key.getD j 0 ^^^ x) := by
 intro i
 induction i with
 | zero => intro h; omega
 | succ i ih =>
   intro h
   unfold mkTo
   rw [List.getElem?_set]
   by_cases e : i = j
   · subst e; simp [mkTo_len,hj]
   · rw [if_neg e,ih (by omega)]
theorem mkTo_all (key : List UInt8) (x : UInt8) : mkTo key x 64 = masked key x := by
 apply List.ext_getElem?
 intro j
 by_cases h : j < 64
 · rw [mkTo_get key x j h 64 h]
   unfold masked
   rw [List.getElem?_map,List.getElem?_range h]
   rfl
 · rw [List.getElem?_eq_none (by rw [mkTo_len]; omega),List.getElem?_eq_none (by rw [masked_len]; omega)]
theorem rtag_any (A B : Option Addr) (n c m d : Nat) (key b : List UInt8) (w : World) (hk : Rd w A n c key) (hn : n ≤ 64) (hb : Rd w B m d b) (hm : m ≤ 900000) :
   Calls Tryz.prog 76 #[.slice A n c,.slice B m d] w fun e w' => ∃ A' c',e = .returned (.slice A' 32 c') ∧ Own w' w.heap.size 5 A' 32 c' (tag key b) ∧ Below w.heap.size w w' := by
 have Hb := hide hb.1
 have Hk := hide hk.1
 have hn' : (n : Int) ≤ 64 := by omega
 have hmk := run_make64
 go_enter Tryz.func76,Tryz.ntmps76
 go_upto_region 3 with fail
 go_cut [5,6] (fun x y wx => ∃ g h,x = .slice (some ⟨g,0,none⟩) 64 64 ∧ y = .slice (some ⟨h,0,none⟩) 64 64 ∧ g ≠ h ∧ Own wx w.heap.size 5 (some ⟨g,0,none⟩) 64 64 (List.replicate 64 0) ∧ Own wx w.heap.size 5 (some ⟨h,0,none⟩) 64 64 (List.replicate 64 0) ∧ Below w.heap.size w wx)
 case first =>
   have ho1 := own_zeros w.drew w.heap.size (Nat.le_refl _)
   have ho2 := own_zeros (w.drew.alloc (.cells (Array.replicate 64 (.int .u8 0)) 5)) w.heap.size (by simp)
   have hsz : (w.drew.alloc (.cells (Array.replicate 64 (.int .u8 0)) 5)).heap.size = w.heap.size + 1 := by simp
   have ho1' := ho1.below (below_alloc1 (w.drew.alloc (.cells (Array.replicate 64 (.int .u8 0)) 5)) (.cells (Array.replicate 64 (.int .u8 0)) 5))
   rw [hsz] at ho2
   have hB : Below w.heap.size w ((w.drew.alloc (.cells (Array.replicate 64 (.int .u8 0)) 5)).alloc (.cells (Array.replicate 64 (.int .u8 0)) 5)) := ((Below.refl _ w).drew.alloc (Nat.le_refl _) _).alloc (by simp) _
   have H1 := hide ho1'
   have H2 := hide ho2
   clear ho1 ho1' ho2 hsz
   go_region
   all_goals
     go_wp2_with fail
     go_meet
     first
       | exact ⟨_,_,rfl,rfl,by omega,H1.out,H2.out,hB⟩
       | exact ⟨_,_,rfl,rfl,by omega,H2.out,H1.out,hB⟩
 case rest =>
   clear hmk
   obtain ⟨g,h,rfl,rfl,hgh,ho1,ho2,hB⟩ := hcut
   have hg1 := (Own.form ho1 (by omega))
   have hg2 := (Own.form ho2 (by omega))
   obtain ⟨g',e1,hg1,_⟩ := hg1
   obtain ⟨h',e2,hg2,_⟩ := hg2
   cases e1
   cases e2
   obtain ⟨W0,hW0⟩ : ∃ W0,W0 = wc := ⟨_,rfl⟩
   subst hW0
   go_wp2_with fail
   go_loopw [16] (fun v wr => ∃ k : Nat,k ≤ 64 ∧ v = .int .i64 (k : Int) ∧ Own wr w.heap.size 5 (some ⟨g,0,none⟩) 64 64 (mkTo key 0x36 k) ∧ Own wr w.heap.size 5 (some ⟨h,0,none⟩) 64 64 (mkTo key 0x5c k) ∧ Below w.heap.size w wr) (fun v _ => 64 - (intOf v).toNat)
   case atStart => exact ⟨0,by omega,rfl,ho1,ho2,hB⟩
   case round =>
     clear ho1 ho2 hB
     obtain ⟨k,hk',rfl,ho1,ho2,hB⟩ := hrel
     by_cases hlt : k < 64
     · have hlt' : (k : Int) < 64 := by omega
       obtain ⟨y1,hy1⟩ : ∃ y,(mkTo key 0x36 k)[k]? = some y := ⟨_,List.getElem?_eq_getElem (by rw [mkTo_len]; exact hlt)⟩
       obtain ⟨y2,hy2⟩ : ∃ y,(mkTo key 0x5c k)[k]? = some y := ⟨_,List.getElem?_eq_getElem (by rw [mkTo_len]; exact hlt)⟩
       have hc1 := ho1.cell hy1
       have hc2 := ho2.cell hy2
       have hz1 := ho1.frozen k
       have hz2 := ho2.frozen k
       have hs1 : ∀ u : UInt8,Own (wr.setCell ⟨g,k,none⟩ (.int .u8 (u.toNat : Int))) w.heap.size 5 (some ⟨h,0,none⟩) 64 64 (mkTo key 0x5c k) := fun u => own2_fr (S := (· = g)) ho2 (Fr.set (S := (· = g)) (Fr.refl _ _) (p := ⟨g,k,none⟩) (fun _ => rfl) _) (fun x hx => by simp at hx; omega)
       have hs2 : ∀ u v : UInt8,Own ((wr.setCell ⟨g,k,none⟩ (.int .u8 (u.toNat : Int))).setCell ⟨h,k,none⟩ (.int .u8 (v.toNat : Int))) w.heap.size 5 (some ⟨g,0,none⟩) 64 64 ((mkTo key 0x36 k).set k u) := fun u v => own2_fr (S := (· = h)) (ho1.set k u) (Fr.set (S := (· = h)) (Fr.refl _ _) (p := ⟨h,k,none⟩) (fun _ => rfl) _) (fun x hx => by simp at hx; omega)
       have hs3 := fun u v => (hs1 u).set k v
       have hc3 : ∀ u : UInt8,(wr.setCell ⟨g,k,none⟩ (.int .u8 (u.toNat : Int))).cell? ⟨h,k,none⟩ = some (.int .u8 (y2.toNat : Int)) := fun u => (hs1 u).cell hy2
       have hz3 : ∀ u : UInt8,(wr.setCell ⟨g,k,none⟩ (.int .u8 (u.toNat : Int))).frozen? ⟨h,k,none⟩ = false := fun u => (hs1 u).frozen k
       have hB2 : ∀ u v : UInt8,Below w.heap.size w ((wr.setCell ⟨g,k,none⟩ (.int .u8 (u.toNat : Int))).setCell ⟨h,k,none⟩ (.int .u8 (v.toNat : Int))) := fun u v => (hB.setCell (p := ⟨g,k,none⟩) hg1 _).setCell (p := ⟨h,k,none⟩) hg2 _
       have HS2 := hide hs2
       have HS3 := hide hs3
       have HB2 := hide hB2
       have hM1 : Hid (∀ z,key.getD k 0 = z → mkTo key 0x36 (k + 1) = (mkTo key 0x36 k).set k (z ^^^ 0x36)) := hide (fun z hz => by rw [← hz]; rfl)
       have hM2 : Hid (∀ z,key.getD k 0 = z → mkTo key 0x5c (k + 1) = (mkTo key 0x5c k).set k (z ^^^ 0x5c)) := hide (fun z hz => by rw [← hz]; rfl)
       clear hs1 hs2 hs3 hB2 ho1 ho2 hy1 hy2
       by_cases hkn : k < n
       · have hkn' : (k : Int) < (n : Int) := by omega
         obtain ⟨ad,z,rfl,hz,hcz⟩ := (hk.below hB).at_ hkn
         have hzg : Hid (key.getD k 0 = z) := hide (by rw [List.getD_eq_getElem?_getD,hz]; rfl)
         have x1 := xor_u8 z 0x36
         have x2 := xor_u8 z 0x5c
         have x1' : bits .xor .u8 (z.toNat : Int) 54 = ((z ^^^ 0x36).toNat : Int) := x1
         have x2' : bits .xor .u8 (z.toNat : Int) 92 = ((z ^^^ 0x5c).toNat : Int) := x2
         have r1 := hM1.out z hzg.out
         have r2 := hM2.out z hzg.out
         have R1 := hide r1
         have R2 := hide r2
         clear x1 x2 hz r1 r2 hk
         generalize z ^^^ 0x36 = u at *
         generalize z ^^^ 0x5c = v at *
         generalize mkTo key 0x36 k = L1 at *
         generalize mkTo key 0x5c k = L2 at *
         go_wp2_with fail
         go_roundw
         case rel => exact ⟨k + 1,by omega,by go_num,by rw [R1.out]; exact HS2.out u v,by rw [R2.out]; exact HS3.out u v,HB2.out u v⟩
         case measure => simp [intOf]; omega
       · have hkn' : (n : Int) ≤ (k : Int) := by omega
         have hzg : Hid (key.getD k 0 = 0) := hide (by rw [List.getD_eq_getElem?_getD,List.getElem?_eq_none (by rw [Hk.out]; omega)]; rfl)
         have x1' : bits .xor .u8 0 54 = (((0 : UInt8) ^^^ 0x36).toNat : Int) := by decide
         have x2' : bits .xor .u8 0 92 = (((0 : UInt8) ^^^ 0x5c).toNat : Int) := by decide
         have R1 := hide (hM1.out 0 hzg.out)
         have R2 := hide (hM2.out 0 hzg.out)
         clear hk
         generalize (0 : UInt8) ^^^ 0x36 = u at *
         generalize (0 : UInt8) ^^^ 0x5c = v at *
         generalize mkTo key 0x36 k = L1 at *
         generalize mkTo key 0x5c k = L2 at *
         go_wp2_with fail
         go_roundw
         case rel => exact ⟨k + 1,by omega,by go_num,by rw [R1.out]; exact HS2.out u v,by rw [R2.out]; exact HS3.out u v,HB2.out u v⟩
         case measure => simp [intOf]; omega
     · obtain rfl : k = 64 := by omega
       rw [mkTo_all] at ho1 ho2
       obtain ⟨W1,hW1⟩ : ∃ W1,W1 = wr := ⟨_,rfl⟩
       subst hW1
       have hbW := hb.below hB
       have hs1 : Below W1.heap.size W1 (W1.alloc (.cells #[.slice (some ⟨g,0,none⟩) 64 64,.slice B m d] 22)) := below_alloc1 _ _
       have hlen : (masked key 0x36 ++ b).length = 64 + m := by rw [List.length_append,masked_len,Hb.out]
       have hlen2 : (masked key 0x5c ++ sha (masked key 0x36 ++ b)).length = 96 := by rw [List.length_append,masked_len,sha_len]
       have Hl1 := hide hlen
       have Hl2 := hide hlen2
       clear hlen hlen2 hk
       go_wp2_with fail
       refine (join_as _ 2 2 (64 + m) [masked key 0x36,b] (masked key 0x36 ++ b) _ (by simp) Hl1.out (rdl_two' (by simp [World.cell?_alloc_new]) (by simp [World.cell?_alloc_new]) (ho1.rd.below hs1) (hbW.below hs1)) (by omega)).mono ?_
       rintro e w3 ⟨A3,c3,rfl,ho3,hb3⟩
       have hB3 := below_next hs1 hb3
       go_wp2_with fail
       refine (rdigest_any A3 (64 + m) c3 _ _ ho3.rd (by omega)).mono ?_
       rintro e w4 ⟨A4,c4,rfl,ho4,hb4⟩
       have hB4 := below_next hB3 hb4
       have ho2' := ho2.below hB4
       have hs3 : Below w4.heap.size w4 (w4.alloc (.cells #[.slice (some ⟨h,0,none⟩) 64 64,.slice A4 32 c4] 22)) := below_alloc1 _ _
       go_wp2_with fail
       refine (join_as _ 2 2 96 [masked key 0x5c,sha (masked key 0x36 ++ b)] (masked key 0x5c ++ sha (masked key 0x36 ++ b)) _ (by simp) Hl2.out (rdl_two' (by simp [World.cell?_alloc_new]) (by simp [World.cell?_alloc_new]) (ho2'.rd.below hs3) (ho4.rd.below hs3)) (by omega)).mono ?_
       rintro e w5 ⟨A5,c5,rfl,ho5,hb5⟩
       have hB5 := below_next (below_next hB4 hs3) hb5
       go_wp2_with fail
       refine (rdigest_any A5 96 c5 _ _ ho5.rd (by omega)).mono ?_
       rintro e w6 ⟨A6,c6,rfl,ho6,hb6⟩
       have hB6 := below_next hB5 hb6
       have hsz := (below_next hB hB5).size
       go_wp2_with fail
       go_ret
       exact ⟨A6,c6,rfl,ho6.mono hsz,below_next hB hB6⟩
theorem rmanbytes_any (s v : BitVec 32) (L S P : Nat) (A B : Option Addr) (c n d : Nat) (h key : List UInt8) (w : World) (hm : manOk L S P = true) (hL : L ≤ 65535) (hS : S ≤ 1000000) (hr : Rd w A 32 c h) (hk : Rd w B n d key) (hn : n ≤ 64) :
   Calls Tryz.prog 46 #[.slice B n d,.agg (manC s v L S P (.slice A 32 c))] w fun e w' => ∃ A' c',e = .returned (.tuple #[.slice A' 76 c',.int .i64 0]) ∧ Own w' w.heap.size 5 A' 76 c' (plainL s v L S P h ++ tag key (plainL s v L S P h)) ∧ Below w.heap.size w w' := by
 have hb0 : Blk (w.alloc (.cells (manC s v L S P (.slice A 32 c)) 44)) w.heap.size (manC s v L S P (.slice A 32 c)) 44 := Blk.new _ _ _
 have hB0 : Below w.heap.size w (w.alloc (.cells (manC s v L S P (.slice A 32 c)) 44)) := (Below.refl _ _).alloc (Nat.le_refl _) _
 have hsz := size44 s v L S P (.slice A 32 c)
 have Hh := hide hr.1
 go_enter Tryz.func46,Tryz.ntmps46
 go_wp2_with (first
   | ((with_reducible refine at_load ?_); refine wpList_load_row rfl 44 (.tmp 3) rfl w.heap.size rfl 44 (manC s v L S P (.slice A 32 c)) (0,0) _ hb0 Tryz.underlying44 rfl hsz ?_))
 refine (rplain_any s v L S P A c h _ hm hL hS (hr.alloc _)).mono ?_
 rintro e w1 ⟨A1,c1,rfl,ho1,hb1⟩
 have hB1 := below_next hB0 hb1
 have hs1 := hB0.size
 have hpl := plainL_len s v L S P h
 rw [Hh.out] at hpl
 have Hlen : Hid ((plainL s v L S P h ++ tag key (plainL s v L S P h)).length = 76) := hide (by rw [List.length_append,hpl,tag_len])
 clear hpl
 go_wp2_with fail
 refine (rtag_any B A1 n d 44 c1 key _ _ (hk.below hB1) hn ho1.rd (by omega)).mono ?_
 rintro e w2 ⟨A2,c2,rfl,ho2,hb2⟩
 have hB2 := below_next hB1 hb2
 have ho1' := ho1.below hb2
 have hal := below_alloc1 w2 (.cells #[.slice A1 44 c1,.slice A2 32 c2] 22)
 go_wp2_with fail
 refine (join_as _ 2 2 76 [plainL s v L S P h,tag key (plainL s v L S P h)] (plainL s v L S P h ++ tag key (plainL s v L S P h)) _ (by simp) Hlen.out (rdl_two' (by simp [World.cell?_alloc_new]) (by simp [World.cell?_alloc_new]) (ho1'.rd.below hal) (ho2.rd.below hal)) (by omega)).mono ?_
 rintro e w3 ⟨A3,c3,rfl,ho3,hb3⟩
 have hB3 := below_next (below_next hB2 hal) hb3
 have hsz3 := (below_next hB2 hal).size
 go_wp2_with fail
 go_ret2
 exact ⟨A3,c3,rfl,ho3.mono hsz3,hB3⟩
theorem rparse_any (A B : Option Addr) (n c m d : Nat) (key l : List UInt8) (w : World) (hk : Rd w A n c key) (hn : n ≤ 64) (hr : Rd w B m d l) :
   Calls Tryz.prog 32 #[.slice A n c,.slice B m d] w fun e w' => ∃ s v L S P H k f,e = .returned (.tuple #[.agg (manC s v L S P (.slice H k f)),.int .i64 (manErr key l)]) ∧ Below w.heap.size w w' := by
 have Hl := hide hr.1
 have hz0 : Blk (w.alloc (.cells (manC 0#32 0#32 0 0 0 (.slice none 0 0)) 44)) w.heap.size (manC 0#32 0#32 0 0 0 (.slice none 0 0)) 44 := Blk.new _ _ _
 have hB0 : Below w.heap.size w (w.alloc (.cells (manC 0#32 0#32 0 0 0 (.slice none 0 0)) 44)) := (Below.refl _ _).alloc (Nat.le_refl _) _
 have hszz := size44 0#32 0#32 0 0 0 (.slice none 0 0)
 by_cases hm : m = 76
 · subst hm
   have hcap := hr.2.1
   have hcap' : (76 : Int) ≤ (d : Int) := by omega
   have hd44 : (44 : Int) ≤ (d : Int) := by omega
   have hne : ¬ (d = 44) := by omega
   obtain ⟨ad,rfl,_⟩ := hr.ptr (by omega)
   have hrb := hr.below hB0
   have hkb := hk.below hB0
   have ht : Rd (w.alloc (.cells (manC 0#32 0#32 0 0 0 (.slice none 0 0)) 44)) (some ad) 44 d (l.take 44) := hrb.hi (k := 44) (by omega)
   have hg : Rd (w.alloc (.cells (manC 0#32 0#32 0 0 0 (.slice none 0 0)) 44)) (some ⟨ad.block,ad.off + 44,none⟩) 32 (d - 44) (l.drop 44) := hrb.lo_ne (k := 44) (by omega) (by omega)
   go_enter Tryz.func32,Tryz.ntmps32
   go_wp2_with fail
   change Code.wp _ _ _ _ (w.alloc (.cells (manC 0#32 0#32 0 0 0 (.slice none 0 0)) 44))
   have hs0 := hB0.size
   generalize w.alloc (.cells (manC 0#32 0#32 0 0 0 (.slice none 0 0)) 44) = w0 at *
   go_cut [18] (fun x wx => x = .bool (!(tag key (l.take 44) == l.drop 44)) ∧ Below w0.heap.size w0 wx)
   case first =>
     refine wp_region_noPanic ?_
     refine wp_region_held_drew (S := fun y => Below w0.heap.size w0 y) (by kernel_rfl) (Below.refl _ _).drew (fun _ => ?_)
     refine reg_take 0 (some 10) (.slice A n c) rfl rfl (by kernel_rfl) (by kernel_rfl) (by kernel_rfl) (fun _ _ _ _ h => h) (by kernel_rfl) (fun w _ => by kernel_rfl) (Below.refl _ _).drew ?_
     refine reg_take 1 (some 11) (.slice (some ad) 76 d) rfl rfl (by kernel_rfl) (by kernel_rfl) (by kernel_rfl) (fun _ _ _ _ h => h) (by kernel_rfl) (fun w _ => by kernel_rfl) (Below.refl _ _).drew ?_
     refine reg_take 2 (some 12) (.slice (some ad) 44 d) rfl rfl (by kernel_rfl) (by kernel_rfl) (by kernel_rfl) (fun _ _ _ _ h => h) (by kernel_rfl) (fun w _ => exec_cut (.tmp 11) (.const (.int .i64 44)) (some ad) 76 44 d rfl (by kernel_rfl) rfl (by omega) w) (Below.refl _ _).drew ?_
     refine reg_take 5 (some 15) (.slice (some ad) 76 d) rfl rfl (by kernel_rfl) (by kernel_rfl) (by kernel_rfl) (fun _ _ _ _ h => h) (by kernel_rfl) (fun w _ => by kernel_rfl) (Below.refl _ _).drew ?_
     refine reg_take 6 (some 16) (.slice (some ⟨ad.block,ad.off + 44,none⟩) 32 (d - 44)) rfl rfl (by kernel_rfl) (by kernel_rfl) (by kernel_rfl) (fun _ _ _ _ h => h) (by kernel_rfl) (fun w _ => exec_cutlo (.tmp 15) (.const (.int .i64 44)) ad 76 44 d rfl (by kernel_rfl) rfl (by omega) (by omega) hne w) (Below.refl _ _).drew ?_
     refine reg_take 7 (some 17) (.string (str (l.drop 44))) rfl rfl (by kernel_rfl) (by kernel_rfl) (by kernel_rfl) (fun _ _ _ _ h => h) (by kernel_rfl) (fun y hy => exec_conv (.tmp 16) _ 32 (d - 44) (l.drop 44) y rfl (by kernel_rfl) (hg.below hy)) (Below.refl _ _).drew ?_
     refine reg_one 3 (by kernel_rfl) ?_
     refine reg_call (some 13) 76 #[.slice A n c,.slice (some ad) 44 d] rfl rfl (by kernel_rfl) (by kernel_rfl) ((rtag_any A (some ad) n c 44 d key (l.take 44) _ hkb.drew hn ht.drew (by omega)).mono ?_)
     rintro e w1 ⟨A1,c1,rfl,ho1,hb1⟩
     have hb := undrew hb1
     refine ⟨_,rfl,hb,?_⟩
     refine reg_one 4 (by kernel_rfl) ?_
     refine reg_val (some 14) (.string (str (tag key (l.take 44)))) _ rfl rfl (by kernel_rfl) (exec_conv (.tmp 13) A1 32 c1 (tag key (l.take 44)) w1 rfl (by kernel_rfl) ho1.rd) ⟨hb,?_⟩
     refine reg_one 8 (by kernel_rfl) ?_
     refine reg_val (some 18) (.bool (!(tag key (l.take 44) == l.drop 44))) w1 rfl rfl (by kernel_rfl) (exec_neqs (.tmp 14) (.tmp 17) (tag key (l.take 44)) (l.drop 44) w1 rfl (by kernel_rfl) (by kernel_rfl)) ⟨hb,?_⟩
     refine wpAnyH_done (by kernel_rfl) (NoPanic.normal ?_) _
     simp only [Act.put,List.setIfInBounds_toArray,List.set_cons_zero,List.set_cons_succ]
     go_wp2_with fail
     go_meet
     exact ⟨rfl,hb⟩
   case rest =>
     obtain ⟨rfl,hB⟩ := hcut
     have hzc := hz0.below hB
     have hBw : Below w.heap.size w wc := below_next hB0 hB
     have htc := ht.below hB
     by_cases hq : tag key (l.take 44) = l.drop 44
     · have hE : Hid (manErr key l = rdE (l.take 44)) := hide (by
         unfold manErr rdE
         rw [if_neg (by rw [Hl.out]; simp),if_neg (by simp [hq])])
       have hdq : (!(tag key (l.take 44) == l.drop 44)) = false := by simp [hq]
       rw [hdq]
       clear hdq hq
       go_wp2_with fail
       refine (rread_any (some ad) d (l.take 44) _ htc).mono ?_
       rintro e w1 ⟨s,v,L,S,P,H,k,f,rfl,hb1⟩
       have hzc1 := hzc.below hb1
       have hB1 := below_next hBw hb1
       have hsz := size44 s v L S P (.slice H k f)
       go_wp2_with (first
         | ((with_reducible refine at_store ?_); refine wpList_store_row rfl 44 (.tmp 4) (.tmp 23) rfl w.heap.size (manC s v L S P (.slice H k f)) rfl rfl 44 (manC 0#32 0#32 0 0 0 (.slice none 0 0)) hzc1 hsz rfl (one44 _ _ _ _ _ _ _ _) ?_))
       refine bodyPost_ret (results_cell_slot Tryz.results32 _ _ w.heap.size 44 _ (0,0) _ _ rfl rfl (setRow_heap _ _ _ _ _ _ hzc1) Tryz.underlying44 rfl hsz) rfl ?_
       exact ⟨s,v,L,S,P,H,k,f,by rw [hE.out]; rfl,below_setRow hB1 (Nat.le_refl _) _⟩
     · have hE : Hid (manErr key l = 5) := hide (by
         unfold manErr
         rw [if_neg (by rw [Hl.out]; simp),if_pos hq])
       have hdq : (!(tag key (l.take 44) == l.drop 44)) = true := by simp [hq]
       rw [hdq]
       clear hdq hq
       go_wp2_with (first
         | ((with_reducible refine at_build ?_); refine wpList_build_as rfl 44 #[] rfl (manC 0#32 0#32 0 0 0 (.slice none 0 0)) (by kernel_rfl) ?_)
         | ((with_reducible refine at_store ?_); refine wpList_store_row rfl 44 (.tmp 4) (.tmp 19) rfl w.heap.size (manC 0#32 0#32 0 0 0 (.slice none 0 0)) rfl rfl 44 (manC 0#32 0#32 0 0 0 (.slice none 0 0)) hzc hszz rfl (one44 _ _ _ _ _ _ _ _) ?_))
       refine bodyPost_ret (results_cell_slot Tryz.results32 _ _ w.heap.size 44 _ (0,0) _ _ rfl rfl (setRow_heap _ _ _ _ _ _ hzc) Tryz.underlying44 rfl hszz) rfl ?_
       exact ⟨_,_,_,_,_,_,_,_,by rw [hE.out]; rfl,below_setRow hBw (Nat.le_refl _) _⟩
 · have hE : Hid (manErr key l = 3) := hide (by unfold manErr; rw [if_pos (by rw [Hl.out]; exact hm)])
   have hd : ((m : Int) != 76) = true := by simp; omega
   go_enter Tryz.func32,Tryz.ntmps32
   go_wp2_with (first
     | ((with_reducible refine at_build ?_); refine wpList_build_as rfl 44 #[] rfl (manC 0#32 0#32 0 0 0 (.slice none 0 0)) (by kernel_rfl) ?_)
     | ((with_reducible refine at_store ?_); refine wpList_store_row rfl 44 (.tmp 4) (.tmp 9) rfl w.heap.size (manC 0#32 0#32 0 0 0 (.slice none 0 0)) rfl rfl 44 (manC 0#32 0#32 0 0 0 (.slice none 0 0)) hz0 hszz rfl (one44 _ _ _ _ _ _ _ _) ?_))
   refine bodyPost_ret (results_cell_slot Tryz.results32 _ _ w.heap.size 44 _ (0,0) _ _ rfl rfl (setRow_heap _ _ _ _ _ _ hz0) Tryz.underlying44 rfl hszz) rfl ?_
   exact ⟨_,_,_,_,_,_,_,_,by rw [hE.out]; rfl,below_setRow hB0 (Nat.le_refl _) _⟩
end Go.Proofs.YtkkcpblfheplaaaGreatDoor
