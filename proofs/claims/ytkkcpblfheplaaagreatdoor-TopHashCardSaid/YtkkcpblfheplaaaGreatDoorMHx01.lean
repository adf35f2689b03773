/- Contracts of functions that the laws of downpourtop reach, and plain facts; no condition beyond what each theorem states. -/
import Derived.Test.YtkkcpblfheplaaaGreatDoorMRx04
set_option maxRecDepth 100000
set_option maxHeartbeats 8000000
set_option linter.all false
namespace Go.Proofs.YtkkcpblfheplaaaGreatDoor
open Go.RowKit
theorem OwnL.lowb {te e : TypeId} {w : World} {base base' n c : Nat} {A : Option Addr} {fs : List (List UInt8)} {bad : Option Nat} (h : OwnL te e w base A n c fs bad) (hb : base' ≤ base) : OwnL te e w base' A n c fs bad := by
 obtain ⟨vs,h1,h2,h3⟩ := h
 exact ⟨vs,row_mono h1 hb,h2,fun j f hj => by
   obtain ⟨A',n',c',k1,k2,k3⟩ := h3 j f hj
   exact ⟨A',n',c',k1,k2.mono hb,k3⟩⟩
theorem hsplit_any (A : Option Addr) (L c S K : Nat) (img : List UInt8) (w : World) (hr : Rd w A L c img) (hK : cnt L S = K) (hK1 : 1 ≤ K) (hK64 : K ≤ 64) :
   Calls Tryz.prog 145 #[.slice A L c,.int .i64 S] w fun e w' => ∃ A' c',e = .returned (.slice A' K c') ∧ OwnL 22 5 w' w.heap.size A' K c' (splitL img S K) none ∧ Below w.heap.size w w' := by
 obtain ⟨_,h1,h2,h3,h4⟩ := cnt_div hK hK1
 have hcv := cnt_cover hK hK1
 have Hl := hide hr.1
 have hL' : (L : Int) ≤ 512 := by omega
 have hS' : (S : Int) ≤ 16 := by omega
 have hS1 : (1 : Int) ≤ (S : Int) := by omega
 have hcnt := count_any L S w (by omega) (by omega)
 rw [hK] at hcnt
 have hK' : (K : Int) ≤ 64 := by omega
 have hmx : max (S : Int) 0 = (S : Int) := by omega
 obtain ⟨N,hN⟩ : ∃ N,K * S = N := ⟨_,rfl⟩
 have hNi : (K : Int) * (S : Int) = (N : Int) := by rw [← hN]; simp
 have hN2 : N ≤ 1024 := by rw [← hN]; exact Nat.mul_le_mul hK64 h4
 rw [hN] at hcv
 have hfull : Hid (img.take N ++ (List.replicate N (0 : UInt8)).drop L = fullL img N) := hide (by
   unfold fullL
   rw [List.take_of_length_le (by rw [Hl.out]; exact hcv),List.drop_replicate,Hl.out])
 have hfl : (fullL img N).length = N := fullL_len _ _ (by rw [Hl.out]; exact hcv)
 have hpc : Hid (∀ i,((fullL img N).drop (i * S)).take S = pieceL img S K i) := hide (fun i => by unfold pieceL; rw [hN])
 have HN := hide hN
 clear hN hK
 go_enter Tryz.func145,Tryz.ntmps145
 go_wp2_with (first
   | (go_at_call 59; refine hcnt.mono ?_; rintro e w1 ⟨rfl,rfl⟩)
   | (at_make
      refine wpList_make8 w rfl _ _ _ rfl w.heap.size 5 Tryz.underlying22 isByte _ _ _ _ N rfl rfl (by first | rfl | (show _ = _; omega)) (by first | rfl | (show _ = _; omega)) (by omega) (Nat.le_refl _) ?_
      intro w1 ho1 hb1)
   | ((with_reducible refine at_copy ?_)
      refine wpList_copy8 w1 rfl _ _ _ rfl w.heap.size 5 Tryz.underlying22 isByte w.heap.size N N _ rfl ho1 A L c img rfl (hr.below hb1) ?_
      intro w2 ho2 hf2
      rw [hfull.out] at ho2
      have hB2 : Below w.heap.size w w2 := hb1.trans (hf2.below hb1.size (fun g hg => by omega))
      clear ho1 hf2 hb1 hNi hmx hcnt))
 have hrd := ho2.rd
 have hs2 := hB2.size
 have hwl : w.heap.size < w2.heap.size := by
   obtain ⟨g,hg,_,h⟩ := Own.form ho2 (by have := HN.out; have := Nat.mul_pos hK1 h3; omega)
   cases hg
   exact h
 clear ho2
 generalize fullL img N = F at *
 go_loopw [7,22] (fun o u wr => ∃ (i : Nat) (B : Option Addr) (d : Nat),i ≤ K ∧ u = .int .i64 (i : Int) ∧ o = .slice B i d ∧ OwnL 22 5 wr w2.heap.size B i d ((splitL img S K).take i) none ∧ Below w2.heap.size w2 wr) (fun _ u _ => K - (intOf u).toNat)
 case atStart => exact ⟨0,none,0,Nat.zero_le _,rfl,rfl,OwnL.nil _ _ _ _ _,Below.refl _ _⟩
 case round =>
   obtain ⟨i,B,d,hi,rfl,rfl,ho,hB⟩ := hrel
   by_cases hlt : i < K
   · have hlt' : (i : Int) < (K : Int) := by omega
     have hsp := splitL_get img S K i hlt
     have hiN : (i + 1) * S ≤ N := by rw [← HN.out]; exact Nat.mul_le_mul_right _ hlt
     have hmid := (hrd.below hB).mid (k := i * S) (m := S) (by rw [Nat.add_mul,Nat.one_mul] at hiN; exact hiN) (by omega)
     rw [hpc.out] at hmid
     simp only [Option.map_some,addAt] at hmid
     obtain ⟨p,hp⟩ : ∃ p,i * S = p := ⟨_,rfl⟩
     obtain ⟨p2,hp2⟩ : ∃ p2,(i + 1) * S = p2 := ⟨_,rfl⟩
     have hpp : p2 = p + S := by rw [← hp2,← hp,Nat.add_mul,Nat.one_mul]
     rw [hp] at hmid
     rw [hp2] at hiN
     have q1 : (i : Int) * (S : Int) = (p : Int) := by rw [← hp]; simp
     have q2 : ((i : Int) + 1) * (S : Int) = (p2 : Int) := by rw [← hp2]; simp
     have q3 : (p : Int) ≤ (p2 : Int) := by omega
     have q4 : (p2 : Int) ≤ (N : Int) := by omega
     have q5 : p2 - p = S := by omega
     have q6 : ¬ N = p := by omega
     have Hsp := hide hsp
     have hcl := clone_any _ S _ _ wr hmid (by omega)
     have Hcl := hide hcl
     have hsr := hB.size
     clear hp hp2 hpp hsp hmid hcl
     generalize pieceL img S K i = D at *
     go_wp2_with fail
     refine Hcl.out.mono ?_
     rintro e w3 ⟨A3,c3,rfl,ho3,hb3⟩
     have hB3 := below_next hB hb3
     have hs3 := hB3.size
     have hal := below_alloc1 w3 (.cells #[.slice A3 S c3] 22)
     have ho3' := (ho3.mono hsr).below hal
     have hoa := (ho.below hb3).below hal
     have hc3 : (w3.alloc (.cells #[.slice A3 S c3] 22)).cell? ⟨w3.heap.size,0,none⟩ = some (.slice A3 S c3) := cell1 w3 _ 22 0 _ rfl
     clear q1 q2 q3 q4 q5 q6 ho
     go_wp2_with (at_builtin
                  refine wpList_appendL _ rfl _ _ _ rfl w2.heap.size 22 5 (by decide) Tryz.underlying23 isRef22 B i d _ none rfl hoa ⟨w3.heap.size,0,none⟩ 1 A3 S c3 D rfl hc3 ho3' (.inl rfl) (by omega) (by simp; omega) ?_
                  intro A6 c6 w6 ho6 hb6 _)
     have htk : Hid ((splitL img S K).take (i + 1) = (splitL img S K).take i ++ [D]) := hide (by rw [List.take_add_one,Hsp.out]; rfl)
     go_roundw
     case rel => exact ⟨i + 1,A6,c6,by omega,by go_num,rfl,by rw [htk.out]; exact ho6,(hB3.alloc hs3 _).trans hb6⟩
     case measure => simp [intOf]; omega
   · obtain rfl : K = i := by omega
     have e : (splitL img S K).take K = splitL img S K := List.take_of_length_le (by rw [splitL_len]; exact Nat.le_refl _)
     rw [e] at ho
     go_wp2_with fail
     go_ret
     exact ⟨B,d,rfl,ho.lowb hs2,below_next hB2 hB⟩
def sumsL (S : Nat) (ls : List (List UInt8)) : Nat → List UInt8
 | 0 => List.replicate S 0
 | k + 1 => dx (sumsL S ls k) (ls.getD k [])
theorem sumsL_len (S : Nat) (ls : List (List UInt8)) : ∀ k,k ≤ ls.length → (∀ l,l ∈ ls → l.length = S) → (sumsL S ls k).length = S := by
 intro k
 induction k with
 | zero => intro _ _; simp [sumsL]
 | succ k ih =>
   intro h hl
   have hk : (ls.getD k []).length = S := by
     rw [List.getD_eq_getElem?_getD,List.getElem?_eq_getElem (by omega)]
     exact hl _ (List.getElem_mem _)
   exact dx_len (ih (by omega) hl) hk
theorem hsum_any (A : Option Addr) (m c S : Nat) (ls : List (List UInt8)) (w : World) (hr : RdL w A m c ls) (hm1 : 1 ≤ m) (hm : m ≤ 1000) (hS : S ≤ 16) (hls : ∀ l,l ∈ ls → l.length = S) :
   Calls Tryz.prog 93 #[.slice A m c] w fun e w' => ∃ A' c',e = .returned (.slice A' S c') ∧ Own w' w.heap.size 5 A' S c' (sumsL S ls m) ∧ Below w.heap.size w w' := by
 have Hl := hide hr.1
 have hm' : (m : Int) ≤ 1000 := by omega
 have hS' : (S : Int) ≤ 16 := by omega
 have Hls := hide (fun (i : Nat) l (h : ls[i]? = some l) => hls l (List.mem_of_getElem? h))
 have Hsl := hide (fun k (h : k ≤ m) => sumsL_len S ls k (by rw [hr.1]; exact h) hls)
 clear hls
 go_enter Tryz.func93,Tryz.ntmps93
 go_wp2_with fail
 go_loopw [3,10] (fun v u wr => ∃ k : Nat,k ≤ m ∧ u = .int .i64 (k : Int) ∧ ((k = 0 ∧ v = .slice none 0 0 ∧ w = wr) ∨ (1 ≤ k ∧ ∃ g,v = .slice (some ⟨g,0,none⟩) S S ∧ Own wr w.heap.size 5 (some ⟨g,0,none⟩) S S (sumsL S ls k) ∧ Below w.heap.size w wr))) (fun _ u _ => m - (intOf u).toNat)
 case atStart => exact ⟨0,Nat.zero_le _,rfl,.inl ⟨rfl,rfl,rfl⟩⟩
 case round =>
   obtain ⟨k,hk,rfl,hor⟩ := hrel
   by_cases hlt : k < m
   · have hlt' : (k : Int) < (m : Int) := by omega
     rcases hor with ⟨rfl,rfl,rfl⟩ | ⟨hk1,g,rfl,ho,hB⟩
     · obtain ⟨ad,l,A',n',c',rfl,hl,hc,hrd⟩ := hr.at_ hlt
       rw [show ad.add 0 = ad by simp [Addr.add]] at hc
       have hlen := Hls.out 0 l hl
       have hnn : n' = S := by rw [← hlen]; exact hrd.1.symm
       subst hnn
       have hst : Hid (sumsL n' ls (0 + 1) = dx (sumsL n' ls 0) l) := hide (by
         show dx (sumsL n' ls 0) (ls.getD 0 []) = _
         rw [List.getD_eq_getElem?_getD,hl]; rfl)
       have hal := hide (dxTo_all (sumsL n' ls 0) l n' (Hsl.out 0 (by omega)) hlen)
       have hz : List.replicate n' (0 : UInt8) = sumsL n' ls 0 := rfl
       have hzl := hide (Hsl.out 0 (by omega))
       clear hl hlen
       go_wp2_with (first
         | (at_make
            refine wpList_make8 w rfl _ _ _ rfl w.heap.size 5 Tryz.underlying22 isByte _ _ _ _ n' rfl rfl rfl rfl (by omega) (Nat.le_refl _) ?_
            intro w1 ho1 hb1))
       rw [hz] at ho1
       go_loopw [27] (fun v wy => ∃ j : Nat,j ≤ n' ∧ v = .int .i64 (j : Int) ∧ Own wy w.heap.size 5 (some ⟨w.heap.size,0,none⟩) n' n' (dxTo (sumsL n' ls 0) l j) ∧ Below w.heap.size w wy) (fun v _ => n' - (intOf v).toNat)
       case atStart => exact ⟨0,Nat.zero_le _,rfl,ho1,hb1⟩
       case round =>
         clear ho1 hb1
         obtain ⟨j,hj,rfl,hoj,hBj⟩ := hrel
         by_cases hjn : j < n'
         · have hjn' : (j : Int) < (n' : Int) := by omega
           obtain ⟨ad2,x,rfl,hx,hcx⟩ := (hrd.below hBj).at_ hjn
           have hlj := dxTo_len (sumsL n' ls 0) l j
           have hz2 := hzl.out
           have hcj := hoj.cell (dxTo_get (sumsL n' ls 0) l j (by rw [hz2]; exact hjn) j)
           rw [if_neg (Nat.lt_irrefl j)] at hcj
           have hfj := hoj.frozen j
           have hxd : Hid (l.getD j 0 = x) := hide (by rw [List.getD_eq_getElem?_getD,hx]; rfl)
           have hset := hide (hoj.set j ((sumsL n' ls 0).getD j 0 ^^^ x))
           have hD1 : Hid (dxTo (sumsL n' ls 0) l (j + 1) = (dxTo (sumsL n' ls 0) l j).set j ((sumsL n' ls 0).getD j 0 ^^^ x)) := hide (by rw [← hxd.out]; rfl)
           have hx8 := xor_u8 ((sumsL n' ls 0).getD j 0) x
           have hB2 : ∀ v,Below w.heap.size w (wr.setCell ⟨w.heap.size,j,none⟩ v) := fun v => hBj.setCell (p := ⟨w.heap.size,j,none⟩) (Nat.le_refl _) v
           have HB2 := hide hB2
           clear hx hlj hz2 hB2 hoj hBj
           generalize (sumsL n' ls 0).getD j 0 ^^^ x = z at *
           generalize (sumsL n' ls 0).getD j 0 = y at *
           go_wp2_with fail
           go_roundw
           case rel => exact ⟨j + 1,by omega,by go_num,by rw [hD1.out]; exact hset.out,HB2.out _⟩
           case measure => simp [intOf]; omega
         · obtain rfl : n' = j := by omega
           rw [hal.out,← hst.out] at hoj
           go_wp2_with fail
           go_roundw
           case rel => exact ⟨0 + 1,by omega,by go_num,.inr ⟨by omega,w.heap.size,rfl,hoj,hBj⟩⟩
           case measure => simp [intOf]; omega
     · obtain ⟨W0,hW0⟩ : ∃ W0,W0 = wr := ⟨_,rfl⟩
       subst hW0
       obtain ⟨ad,l,A',n',c',rfl,hl,hc0,hrd⟩ := hr.at_ hlt
       have hc := (Fr.of (S := fun _ => False) hB).cell hc0 (fun h => h)
       have hlen := Hls.out k l hl
       have hnn : n' = S := by rw [← hlen]; exact hrd.1.symm
       subst hnn
       have hst : Hid (sumsL n' ls (k + 1) = dx (sumsL n' ls k) l) := hide (by
         show dx (sumsL n' ls k) (ls.getD k []) = _
         rw [List.getD_eq_getElem?_getD,hl]; rfl)
       have hal := hide (dxTo_all (sumsL n' ls k) l n' (Hsl.out k (by omega)) hlen)
       have hzl := hide (Hsl.out k (by omega))
       have hge : w.heap.size ≤ g := by
         by_cases h0 : 0 < n'
         · obtain ⟨g',e,hg',_⟩ := Own.form ho h0
           cases e
           exact hg'
         · rcases ho.2 with ⟨hv,_⟩ | ⟨g2,cap,cur,hv,hb,_⟩
           · simp at hv
           · simp only [Value.slice.injEq,Option.some.injEq,Addr.mk.injEq,and_true,true_and] at hv
             rw [hv.1]; exact hb
       have d0 : ((k : Int) == 0) = false := by simp; omega
       have ho1 : Own W0 w.heap.size 5 (some ⟨g,0,none⟩) n' n' (dxTo (sumsL n' ls k) l 0) := ho
       have hb1 := hB
       have hrd0 := hrd
       clear hl hlen ho hc0
       go_wp2_with fail
       go_loopw [27] (fun v wy => ∃ j : Nat,j ≤ n' ∧ v = .int .i64 (j : Int) ∧ Own wy w.heap.size 5 (some ⟨g,0,none⟩) n' n' (dxTo (sumsL n' ls k) l j) ∧ Below w.heap.size w wy) (fun v _ => n' - (intOf v).toNat)
       case atStart => exact ⟨0,Nat.zero_le _,rfl,ho1,hb1⟩
       case round =>
         clear ho1 hb1
         obtain ⟨j,hj,rfl,hoj,hBj⟩ := hrel
         by_cases hjn : j < n'
         · have hjn' : (j : Int) < (n' : Int) := by omega
           obtain ⟨ad2,x,rfl,hx,hcx⟩ := (hrd0.below hBj).at_ hjn
           have hlj := dxTo_len (sumsL n' ls k) l j
           have hz2 := hzl.out
           have hcj := hoj.cell (dxTo_get (sumsL n' ls k) l j (by rw [hz2]; exact hjn) j)
           rw [if_neg (Nat.lt_irrefl j)] at hcj
           have hfj := hoj.frozen j
           have hxd : Hid (l.getD j 0 = x) := hide (by rw [List.getD_eq_getElem?_getD,hx]; rfl)
           have hset := hide (hoj.set j ((sumsL n' ls k).getD j 0 ^^^ x))
           have hD1 : Hid (dxTo (sumsL n' ls k) l (j + 1) = (dxTo (sumsL n' ls k) l j).set j ((sumsL n' ls k).getD j 0 ^^^ x)) := hide (by rw [← hxd.out]; rfl)
           have hx8 := xor_u8 ((sumsL n' ls k).getD j 0) x
           have hB2 : ∀ v,Below w.heap.size w (wr.setCell ⟨g,j,none⟩ v) := fun v => hBj.setCell (p := ⟨g,j,none⟩) hge v
           have HB2 := hide hB2
           clear hx hlj hz2 hB2 hoj hBj
           generalize (sumsL n' ls k).getD j 0 ^^^ x = z at *
           generalize (sumsL n' ls k).getD j 0 = y at *
           go_wp2_with fail
           go_roundw
           case rel => exact ⟨j + 1,by omega,by go_num,by rw [hD1.out]; exact hset.out,HB2.out _⟩
           case measure => simp [intOf]; omega
         · obtain rfl : n' = j := by omega
           rw [hal.out,← hst.out] at hoj
           go_wp2_with fail
           go_roundw
           case rel => exact ⟨k + 1,by omega,by go_num,.inr ⟨by omega,g,rfl,hoj,hBj⟩⟩
           case measure => simp [intOf]; omega
   · obtain rfl : m = k := by omega
     rcases hor with ⟨rfl,_,_⟩ | ⟨hk1,g,rfl,ho,hB⟩
     · exfalso; omega
     · go_wp2_with fail
       go_ret
       exact ⟨_,S,rfl,ho,hB⟩
theorem othersize_any (s : B32) (K P S b : Nat) (A : Option Addr) (c : Nat) (w : World) (hb : Blk w b (parC s K P S) 59) :
   Calls Tryz.prog 190 #[.slice A S c,.pointer (some ⟨b,0,none⟩)] w fun e w' => e = .returned (.bool false) ∧ w = w' := by
 have c3 := hb.cell (i := 3) (v := .int .i64 (S : Int)) rfl
 go_enter Tryz.func190,Tryz.ntmps190
 go_wp2_with fail
 go_ret
 exact ⟨rfl,rfl⟩
theorem indexl_any (s : B32) (K P S b : Nat) (A : Option Addr) (m c : Nat) (ls : List (List UInt8)) (w : World) (hb : Blk w b (parC s K P S) 59) (hr : RdL w A m c ls) (hm : m ≤ 1000) (hls : ∀ l,l ∈ ls → l.length = S) :
   Calls Tryz.prog 224 #[.slice A m c,.func (.func 190) #[] #[.pointer (some ⟨b,0,none⟩)]] w fun e w' => e = .returned (.int .i64 (-1)) ∧ w = w' := by
 have hm' : (m : Int) ≤ 1000 := by omega
 have Hls := hide (fun (i : Nat) l (h : ls[i]? = some l) => hls l (List.mem_of_getElem? h))
 clear hls
 go_enter Tryz.func224,Tryz.ntmps224
 go_wp2_with fail
 go_loopw [8] (fun v wr => ∃ k : Nat,k ≤ m ∧ v = .int .i64 (k : Int) ∧ w = wr) (fun v _ => m - (intOf v).toNat)
 case atStart => exact ⟨0,Nat.zero_le _,rfl,rfl⟩
 case round =>
   obtain ⟨k,hk,rfl,rfl⟩ := hrel
   by_cases hlt : k < m
   · have hlt' : (k : Int) < (m : Int) := by omega
     have hk0 : (0 : Int) ≤ (k : Int) := by omega
     obtain ⟨ad,l,A',n',c',rfl,hl,hc,hrd⟩ := hr.at_ hlt
     have hlen := Hls.out k l hl
     have hnn : n' = S := by rw [← hlen]; exact hrd.1.symm
     subst hnn
     clear hl hlen
     go_wp2_with fail
     refine (othersize_any s K P n' b A' c' w hb).mono ?_
     rintro e w1 ⟨rfl,rfl⟩
     go_wp2_with fail
     go_roundw
     case rel => exact ⟨k + 1,by omega,by go_num,trivial⟩
     case measure => simp [intOf]; omega
   · obtain rfl : m = k := by omega
     go_wp2_with fail
     go_ret
     exact ⟨rfl,rfl⟩
theorem containsl_any (s : B32) (K P S b : Nat) (A : Option Addr) (m c : Nat) (ls : List (List UInt8)) (w : World) (hb : Blk w b (parC s K P S) 59) (hr : RdL w A m c ls) (hm : m ≤ 1000) (hls : ∀ l,l ∈ ls → l.length = S) :
   Calls Tryz.prog 189 #[.slice A m c,.func (.func 190) #[] #[.pointer (some ⟨b,0,none⟩)]] w fun e w' => e = .returned (.bool false) ∧ w = w' := by
 go_enter Tryz.func189,Tryz.ntmps189
 go_wp2_with fail
 refine (indexl_any s K P S b A m c ls w hb hr hm hls).mono ?_
 rintro e w1 ⟨rfl,rfl⟩
 go_wp2_with fail
 go_ret
 exact ⟨rfl,rfl⟩
theorem hpieces_any (s : B32) (K P S : Nat) (A : Option Addr) (c : Nat) (ls : List (List UInt8)) (w : World) (hok : spOk K P S = true) (hn : K + P ≤ 64) (hr : RdL w A K c ls) (hls : ∀ l,l ∈ ls → l.length = S) :
   Calls Tryz.prog 144 #[.agg (parC s K P S),.slice A K c] w fun e w' => ∃ A' c',e = .returned (.slice A' (K + P : Nat) c') ∧ OwnL 22 5 w' w.heap.size A' (K + P) c' (ls ++ parsL s K S ls P) none ∧ Below w.heap.size w w' := by
 have hb0 : Blk (w.alloc (.cells (parC s K P S) 59)) w.heap.size (parC s K P S) 59 := Blk.new _ _ _
 have hB0 := below_alloc1 w (.cells (parC s K P S) 59)
 have hsz := size59 s K P S
 have hK : 1 ≤ K ∧ K ≤ 64 ∧ P ≤ 16 ∧ 1 ≤ S ∧ S ≤ 16 := by unfold spOk at hok; simp at hok; omega
 have hmay := fun w => spmay_any s K P S w
 rw [hok] at hmay
 have hpar := fun w => prows_any s K P S w hok hn
 have hK2 : (K : Int) ≤ 64 := by omega
 have hK0 : (0 : Int) ≤ (K : Int) := by omega
 have hP2 : (P : Int) ≤ 16 := by omega
 have hP0 : (0 : Int) ≤ (P : Int) := by omega
 have hS2 : (S : Int) ≤ 16 := by omega
 have Hls := hide (fun (i : Nat) l (h : ls[i]? = some l) => hls l (List.mem_of_getElem? h))
 have Hl := hide hr.1
 have hcon := fun w1 (h1 : Blk w1 w.heap.size (parC s K P S) 59) (h2 : RdL w1 A K c ls) => containsl_any s K P S w.heap.size A K c ls w1 h1 h2 (by omega) hls
 clear hok hls
 go_enter Tryz.func144,Tryz.ntmps144
 go_wp2_with (first
   | ((with_reducible refine at_load ?_); refine wpList_load_row rfl 59 (.tmp 2) rfl w.heap.size rfl 59 (parC s K P S) (0,0) _ hb0 Tryz.underlying59 rfl hsz ?_))
 refine (hmay _).mono ?_
 rintro e w1 ⟨rfl,hb1⟩
 have hb := hb0.below hb1
 have c1 := hb.cell (i := 1) (v := .int .i64 (K : Int)) rfl
 have hB1 := below_next hB0 hb1
 have hs1 := hB1.size
 have hcon1 := hcon w1 hb (hr.below hB1)
 clear hb0 hB0 hb1 hmay hcon
 go_wp2_with fail
 refine hcon1.mono ?_
 rintro e w2 ⟨rfl,rfl⟩
 clear hcon1
 go_wp2_with fail
 clear c1
 go_loopw [5,31] (fun v u wr => ∃ (j d : Nat) (B : Option Addr),j ≤ K ∧ u = .int .i64 (j : Int) ∧ v = .slice B j d ∧ Blk wr w.heap.size (parC s K P S) 59 ∧ OwnL 22 5 wr w.heap.size B j d (ls.take j) none ∧ Below w.heap.size w wr) (fun _ u _ => K - (intOf u).toNat)
 case atStart => exact ⟨0,0,none,by omega,rfl,rfl,hb,OwnL.nil _ _ _ _ _,hB1⟩
 case round =>
   clear hb hB1 hs1
   obtain ⟨j,d,B,hj,rfl,rfl,hb,ho,hB⟩ := hrel
   by_cases hlt : j < K
   · have hlt' : (j : Int) < (K : Int) := by omega
     obtain ⟨ad,l,A',n',c',rfl,hl,hc,hrd⟩ := (hr.below hB).at_ hlt
     have hlen := Hls.out j l hl
     have hnn : n' = S := by rw [← hlen]; exact hrd.1.symm
     subst hnn
     have hsr := hB.size
     have hlb := hb.lt
     have htk : Hid (ls.take (j + 1) = ls.take j ++ [l]) := hide (by rw [List.take_add_one,hl]; rfl)
     clear hl hlen
     go_wp2_with fail
     refine (clone_any A' n' c' l wr hrd (by omega)).mono ?_
     rintro e w2 ⟨A2,c2,rfl,ho2,hb2⟩
     have hBw := below_next hB hb2
     have hs2 := hBw.size
     have hal := below_alloc1 w2 (.cells #[.slice A2 n' c2] 22)
     have ho2' := (ho2.mono hsr).below hal
     have hoa := (ho.below hb2).below hal
     have hc2 : (w2.alloc (.cells #[.slice A2 n' c2] 22)).cell? ⟨w2.heap.size,0,none⟩ = some (.slice A2 n' c2) := cell1 w2 _ 22 0 _ rfl
     have hb3 := (hb.below hb2).alloc (.cells #[.slice A2 n' c2] 22)
     clear hc hrd hb ho
     go_wp2_with (at_builtin
                  refine wpList_appendL _ rfl _ _ _ rfl w.heap.size 22 5 (by decide) Tryz.underlying23 isRef22 B j d _ none rfl hoa ⟨w2.heap.size,0,none⟩ 1 A2 n' c2 l rfl hc2 ho2' (.inl rfl) (by omega) (by simp; omega) ?_
                  intro A6 c6 w6 ho6 hb6 hg6)
     go_roundw
     case rel =>
       refine ⟨j + 1,c6,A6,by omega,by go_num,rfl,hb3.grown hg6 ?_,by rw [htk.out]; exact ho6,(hBw.alloc hs2 _).trans hb6⟩
       obtain ⟨vs,h1,_⟩ := hoa
       exact row_ne h1 hb3 (by decide)
     case measure => simp [intOf]; omega
   · obtain rfl : K = j := by omega
     have e : ls.take K = ls := List.take_of_length_le (by rw [Hl.out]; exact Nat.le_refl _)
     rw [e] at ho
     have hsW := hB.size
     obtain ⟨W0,hW0⟩ : ∃ W0,W0 = wr := ⟨_,rfl⟩
     subst hW0
     go_wp2_with (first
       | ((with_reducible refine at_load ?_); refine wpList_load_row rfl 59 (.tmp 2) rfl w.heap.size rfl 59 (parC s K P S) (0,0) _ hb Tryz.underlying59 rfl hsz ?_))
     refine (hpar W0).mono ?_
     rintro e w3 ⟨A3,c3,ps,rfl,ho3,hg3,hb3⟩
     have hG := hide hg3
     clear hg3
     have hbn := hb.below hb3
     have hon := ho.below hb3
     have hB3 := below_next hB hb3
     have ho3' := row_mono ho3 hsW
     have hgl : ps.length = P := by
       have := row_len ho3
       simpa [PtrV] using this
     have Hgl := hide hgl
     clear hb ho hB hpar ho3 hgl
     go_wp2_with fail
     go_loopw [5,44] (fun v u wr => ∃ (j d : Nat) (B : Option Addr),j ≤ P ∧ u = .int .i64 (j : Int) ∧ v = .slice B (K + j : Nat) d ∧ OwnL 22 5 wr w.heap.size B (K + j) d (ls ++ parsL s K S ls j) none ∧ Blk wr w.heap.size (parC s K P S) 59 ∧ wr.ownsRow w.heap.size 158 1 (.slice A3 P c3) P (PtrV ps) ∧ Hid (∀ (j : Nat) p,ps[j]? = some p → ∃ wb,VecAt wr p wb (K + P) (parX s K j K) ∧ W0.heap.size ≤ p ∧ W0.heap.size ≤ wb) ∧ Below w.heap.size w wr) (fun _ u _ => P - (intOf u).toNat)
     case atStart => exact ⟨0,d,B,by omega,rfl,rfl,by simpa [parsL] using hon,hbn,ho3',hG,hB3⟩
     case round =>
       clear hon hbn ho3' hG hB3
       obtain ⟨j,d,B,hj,rfl,rfl,ho,hbn,ho3,hG,hB⟩ := hrel
       by_cases hlt : j < P
       · have hlt' : (j : Int) < (P : Int) := by omega
         obtain ⟨p,hp⟩ : ∃ p,ps[j]? = some p := ⟨_,List.getElem?_eq_getElem (by have := Hgl.out; omega)⟩
         obtain ⟨wb,hvec,_,_⟩ := hG.out j p hp
         obtain ⟨g3,rfl,_,_⟩ := row_form ho3 (by omega)
         have hcp := row_cell ho3 (j := j) (v := .pointer (some ⟨p,0,none⟩)) (by unfold PtrV; rw [List.getElem?_map,hp]; rfl)
         have c3' := hbn.cell (i := 3) (v := .int .i64 (S : Int)) rfl
         have hsr := hB.size
         have Hps := hide (parsL_succ s K S ls j)
         have hX : Hid (symV ls (fun i => (parX s K j K).getLsbD i) K S = symV ls (parRow s K j) K S) := hide (symV_congr _ _ _ _ _ _ fun i hi => ⟨by
           rw [parX_bit s K j K i (Nat.le_refl _) (by omega)]
           rfl,rfl⟩)
         obtain ⟨W1,hW1⟩ : ∃ W1,W1 = wr := ⟨_,rfl⟩
         subst hW1
         have hz : List.replicate S (0 : UInt8) = symV ls (fun i => (parX s K j K).getLsbD i) 0 S := (symV_zero _ _ _).symm
         have hrW := hr.below hB
         clear hp
         generalize parX s K j K = X at *
         go_wp2_with (first
           | (at_make
              refine wpList_make8 W1 rfl _ _ _ rfl W1.heap.size 5 Tryz.underlying22 isByte _ _ _ _ S rfl rfl rfl rfl (by omega) (Nat.le_refl _) ?_
              intro w4 ho4 hb4))
         rw [hz] at ho4
         clear hz
         go_loopw [53] (fun u wy => ∃ i : Nat,i ≤ K ∧ u = .int .i64 (i : Int) ∧ Own wy W1.heap.size 5 (some ⟨W1.heap.size,0,none⟩) S S (symV ls (fun i => X.getLsbD i) i S) ∧ Below W1.heap.size W1 wy) (fun u _ => K - (intOf u).toNat)
         case atStart => exact ⟨0,Nat.zero_le _,rfl,ho4,hb4⟩
         case round =>
           clear ho4 hb4
           obtain ⟨i,hi,rfl,hoi,hBi⟩ := hrel
           by_cases hik : i < K
           · have hik' : (i : Int) < (K : Int) := by omega
             obtain ⟨W2,hW2⟩ : ∃ W2,W2 = wr := ⟨_,rfl⟩
             subst hW2
             obtain ⟨ad,l,A',n',c',rfl,hl,hc0,hrd⟩ := hrW.at_ hik
             have hc := (Fr.of (S := fun _ => False) hBi).cell hc0 (fun h => h)
             have hlen := Hls.out i l hl
             have hnn : n' = S := by rw [← hlen]; exact hrd.1.symm
             subst hnn
             have hgd : ls.getD i [] = l := by rw [List.getD_eq_getElem?_getD,hl]; rfl
             have hVl := symV_len ls (fun i => X.getLsbD i) i n'
             rcases Bool.eq_false_or_eq_true (X.getLsbD i) with hbit | hbit
             · have hst := symV_yes ls (fun i => X.getLsbD i) i n' hbit (by rw [hgd]; exact hlen)
               rw [hgd] at hst
               have Hst := hide hst
               have hal := hide (dxTo_all (symV ls (fun i => X.getLsbD i) i n') l n' hVl hlen)
               have hzl := hide hVl
               have hhas := hide (fun y (hy : Below W1.heap.size W1 y) => by
                 have := vhas_any p wb (K + P) i X y (hvec.below hy) (by omega) hn
                 rwa [hbit] at this)
               have hoi0 : Own W2 W1.heap.size 5 (some ⟨W1.heap.size,0,none⟩) n' n' (dxTo (symV ls (fun i => X.getLsbD i) i n') l 0) := hoi
               clear hst hgd hl hlen hVl hbit hoi hc0
               generalize symV ls (fun i => X.getLsbD i) i n' = O at *
               go_wp2_with fail
               go_loopw [60] (fun v wy => ∃ j : Nat,j ≤ n' ∧ v = .int .i64 (j : Int) ∧ Own wy W1.heap.size 5 (some ⟨W1.heap.size,0,none⟩) n' n' (dxTo O l j) ∧ Below W1.heap.size W1 wy) (fun v _ => n' - (intOf v).toNat)
               case atStart => exact ⟨0,Nat.zero_le _,rfl,hoi0,hBi⟩
               case round =>
                 clear hoi0 hBi hc
                 obtain ⟨q,hq,rfl,hoj,hBj⟩ := hrel
                 by_cases hqn : q < n'
                 · have hqn' : (q : Int) < (n' : Int) := by omega
                   obtain ⟨ad2,x,rfl,hx,hcx⟩ := (hrd.below hBj).at_ hqn
                   have hz2 := hzl.out
                   have hcj := hoj.cell (dxTo_get O l q (by rw [hz2]; exact hqn) q)
                   rw [if_neg (Nat.lt_irrefl q)] at hcj
                   have hfj := hoj.frozen q
                   have hxd : Hid (l.getD q 0 = x) := hide (by rw [List.getD_eq_getElem?_getD,hx]; rfl)
                   have hset := hide (hoj.set q (O.getD q 0 ^^^ x))
                   have hD1 : Hid (dxTo O l (q + 1) = (dxTo O l q).set q (O.getD q 0 ^^^ x)) := hide (by rw [← hxd.out]; rfl)
                   have hx8 := xor_u8 (O.getD q 0) x
                   have hB2 : ∀ v,Below W1.heap.size W1 (wr.setCell ⟨W1.heap.size,q,none⟩ v) := fun v => hBj.setCell (p := ⟨W1.heap.size,q,none⟩) (Nat.le_refl _) v
                   have HB2 := hide hB2
                   have hh := hhas.out wr hBj
                   clear hx hz2 hB2 hoj hBj
                   generalize O.getD q 0 ^^^ x = z at *
                   generalize O.getD q 0 = y at *
                   go_wp2_with fail
                   refine hh.mono ?_
                   rintro e w5 ⟨rfl,rfl⟩
                   clear hh
                   go_upto_region 20 with fail
                   go_region
                   all_goals
                     go_wp2_with fail
                     go_roundw
                     case rel => exact ⟨q + 1,by omega,by go_num,by rw [hD1.out]; exact hset.out.drew,(HB2.out _).drew⟩
                     case measure => simp [intOf]; omega
                 · obtain rfl : n' = q := by omega
                   rw [hal.out,← Hst.out] at hoj
                   go_wp2_with fail
                   go_roundw
                   case rel => exact ⟨i + 1,by omega,by go_num,hoj,hBj⟩
                   case measure => simp [intOf]; omega
             · have Hst := hide (symV_no ls (fun i => X.getLsbD i) i n' hbit)
               have hhas := hide (fun y (hy : Below W1.heap.size W1 y) => by
                 have := vhas_any p wb (K + P) i X y (hvec.below hy) (by omega) hn
                 rwa [hbit] at this)
               clear hgd hl hlen hVl hbit hc0
               rw [← Hst.out] at hoi
               go_wp2_with fail
               go_loopw [60] (fun v wy => ∃ j : Nat,j ≤ n' ∧ v = .int .i64 (j : Int) ∧ W2 = wy) (fun v _ => n' - (intOf v).toNat)
               case atStart => exact ⟨0,Nat.zero_le _,rfl,rfl⟩
               case round =>
                 obtain ⟨q,hq,rfl,rfl⟩ := hrel
                 by_cases hqn : q < n'
                 · have hqn' : (q : Int) < (n' : Int) := by omega
                   have hh := hhas.out _ hBi
                   go_wp2_with fail
                   refine hh.mono ?_
                   rintro e w5 ⟨rfl,rfl⟩
                   clear hh
                   go_wp2_with fail
                   go_roundw
                   case rel => exact ⟨q + 1,by omega,by go_num,trivial⟩
                   case measure => simp [intOf]; omega
                 · obtain rfl : n' = q := by omega
                   go_wp2_with fail
                   go_roundw
                   case rel => exact ⟨i + 1,by omega,by go_num,hoi,hBi⟩
                   case measure => simp [intOf]; omega
           · obtain rfl : K = i := by omega
             rw [hX.out] at hoi
             have hB4 := below_next hB hBi
             have hal := below_alloc1 wr (.cells #[.slice (some ⟨W1.heap.size,0,none⟩) S S] 22)
             have ho4' := (hoi.mono hsr).below hal
             have hoa := (ho.below hBi).below hal
             have hc4 : (wr.alloc (.cells #[.slice (some ⟨W1.heap.size,0,none⟩) S S] 22)).cell? ⟨wr.heap.size,0,none⟩ = some (.slice (some ⟨W1.heap.size,0,none⟩) S S) := cell1 wr _ 22 0 _ rfl
             have hs4 := hB4.size
             have hKj : K + j ≤ 1000000 := by omega
             have hbn4 := (hbn.below hBi).below hal
             have ho34 := row_below (row_below ho3 hBi) hal
             have hG4 : Hid (∀ (j : Nat) p,ps[j]? = some p → ∃ wb,VecAt (wr.alloc (.cells #[.slice (some ⟨W1.heap.size,0,none⟩) S S] 22)) p wb (K + P) (parX s K j K) ∧ W0.heap.size ≤ p ∧ W0.heap.size ≤ wb) := hide (fun j p h => by
               obtain ⟨wb,k1,k2,k3⟩ := hG.out j p h
               exact ⟨wb,(k1.below hBi).below hal,k2,k3⟩)
             generalize symV ls (parRow s K j) K S = D at *
             clear hcp c3' ho hoi
             go_wp2_with (at_builtin
                          refine wpList_appendL _ rfl _ _ _ rfl w.heap.size 22 5 (by decide) Tryz.underlying23 isRef22 B (K + j) d _ none rfl hoa ⟨wr.heap.size,0,none⟩ 1 (some ⟨W1.heap.size,0,none⟩) S S D rfl hc4 ho4' (.inl rfl) (by omega) (by simp; omega) ?_
                          intro A6 c6 w6 ho6 hb6 hg6)
             go_roundw
             case rel =>
               obtain ⟨vs,hva,_⟩ := hoa
               refine ⟨j + 1,c6,A6,by omega,by go_num,rfl,by rw [Hps.out,← List.append_assoc]; exact ho6,hbn4.grown hg6 (row_ne hva hbn4 (by decide)),own2_grown ho34 hg6 (fun g hg => ?_),hide (fun j p h => ?_),(hB4.alloc hs4 _).trans hb6⟩
               · obtain ⟨cur,hcur⟩ := own2_at ho34 hg
                 exact row_ne hva hcur (by decide)
               · obtain ⟨wb,k1,k2,k3⟩ := hG4.out j p h
                 obtain ⟨cp,cs,q1,q2,_⟩ := id k1
                 exact ⟨wb,k1.grown hg6 (row_ne hva q1 (by decide)) (row_ne hva q2 (by decide)),k2,k3⟩
             case measure => simp [intOf]; omega
       · obtain rfl : P = j := by omega
         go_wp2_with fail
         go_ret
         exact ⟨B,d,rfl,ho,hB⟩
def headC (s : B32) (K P S : Nat) (img : Value) (dn st : Int) (l : Value) : Array Value := #[.int .u32 (V s),.int .i64 K,.int .i64 P,.int .i64 S,img,.int .u32 dn,.int .i32 st,.int .u32 0,l]
theorem hnew_any (s : B32) (K P S : Nat) (A : Option Addr) (L c : Nat) (img : List UInt8) (w : World) (hr : Rd w A L c img) (hok : spOk K P S = true) (hcn : cnt L S = K) :
   Calls Tryz.prog 24 #[.agg (parC s K P S),.slice A L c] w fun e w' => ∃ h A' c',e = .returned (.pointer (some ⟨h,0,none⟩)) ∧ Blk w' h (headC s K P S (.slice A' L c') 0 0 (.slice none 0 0)) 121 ∧ Rd w' A' L c' img ∧ w.heap.size ≤ h ∧ (∀ ad,A' = some ad → w.heap.size ≤ ad.block) ∧ Below w.heap.size w w' := by
 have hb0 : Blk (w.alloc (.cells (parC s K P S) 59)) w.heap.size (parC s K P S) 59 := Blk.new _ _ _
 have hB0 := below_alloc1 w (.cells (parC s K P S) 59)
 have hK : 1 ≤ K ∧ K ≤ 64 ∧ P ≤ 16 ∧ 1 ≤ S ∧ S ≤ 16 := by unfold spOk at hok; simp at hok; omega
 obtain ⟨hdv,hL1,hL2,_,_⟩ := cnt_div hcn hK.1
 have hmay : ∀ y,Calls Tryz.prog 60 #[.agg #[.int .u32 (V s),.int .i64 K,.int .i64 P,.int .i64 S]] y fun e w' => e = .returned (.bool (spOk K P S)) ∧ Below y.heap.size y w' := fun y => spmay_any s K P S y
 rw [hok] at hmay
 have hcnt := fun y => count_any L S y (by omega) (by omega)
 rw [hcn] at hcnt
 have hcl := fun y (hy : Rd y A L c img) => clone_any A L c img y hy (by omega)
 have hR0 := hr.below hB0
 have dK : ((K : Int) != (K : Int)) = false := by simp
 clear hok hcn hdv
 go_enter Tryz.func24,Tryz.ntmps24
 go_upto_region 1 with fail
 change Code.wp _ _ _ _ (w.alloc (.cells (parC s K P S) 59))
 generalize w.alloc (.cells (parC s K P S) 59) = w1 at *
 have hP := ParAt.of hb0
 have hS0 := hP w1.drew (Below.refl _ _).drew
 have hS2 : True := trivial
 go_cut [17] (fun v wx => v = .bool false ∧ Below w1.heap.size w1 wx)
 case first =>
   go_region_held3 (fun w' => (w'.cell? ⟨w.heap.size,0,none⟩ = some (.int .u32 (V s)) ∧ w'.cell? ⟨w.heap.size,1,none⟩ = some (.int .i64 K) ∧ w'.cell? ⟨w.heap.size,2,none⟩ = some (.int .i64 P) ∧ w'.cell? ⟨w.heap.size,3,none⟩ = some (.int .i64 S)) ∧ Below w1.heap.size w1 w')
     (first | (with_reducible exact hS0) | (with_reducible exact hS2))
     (first
       | (go_at_call 60; (with_reducible refine (hmay _).mono ?_); rintro e w2 ⟨rfl,hb2⟩; have hS2 := hP w2 ((Below.refl _ _).drew.trans hb2))
       | (go_at_call 59; (with_reducible refine (hcnt _).mono ?_); rintro e w3 ⟨rfl,rfl⟩))
   all_goals
     go_wp2_with fail
     go_meet
     exact ⟨rfl,(show ParAt w.heap.size s K P S w1 _ by assumption).2⟩
 case rest =>
   obtain ⟨rfl,hB⟩ := hcut
   obtain ⟨W1,hW1⟩ : ∃ W1,W1 = wc := ⟨_,rfl⟩
   subst hW1
   have hb1 := hb0.below hB
   have hR1 := hR0.below hB
   have hBw := below_next hB0 hB
   have hsw := hBw.size
   have hP1 := ParAt.of hb1
   have hS0 := hP1 W1.drew (Below.refl _ _).drew
   have hS2 : True := trivial
   clear hP hb0 hB hR0 hB0
   go_upto_region 3 with fail
   go_cut [4] (fun v wx => ∃ h A' c',v = .pointer (some ⟨h,0,none⟩) ∧ Blk wx h (headC s K P S (.slice A' L c') 0 0 (.slice none 0 0)) 121 ∧ Own wx W1.heap.size 5 A' L c' img ∧ W1.heap.size ≤ h ∧ Below W1.heap.size W1 wx)
   case first =>
     go_region_held3 (fun w' => (w'.cell? ⟨w.heap.size,0,none⟩ = some (.int .u32 (V s)) ∧ w'.cell? ⟨w.heap.size,1,none⟩ = some (.int .i64 K) ∧ w'.cell? ⟨w.heap.size,2,none⟩ = some (.int .i64 P) ∧ w'.cell? ⟨w.heap.size,3,none⟩ = some (.int .i64 S)) ∧ Below W1.heap.size W1 w')
       (first | (with_reducible exact hS0) | (with_reducible exact hS2) | (with_reducible exact hS4 _))
       (first
         | (go_at_call 23; (with_reducible refine (hcl _ (hR1.below (show ParAt w.heap.size s K P S W1 _ by assumption).2)).mono ?_); rintro e w2 ⟨A2,c2,rfl,ho2,hb2⟩
            have hq := (show ParAt w.heap.size s K P S W1 _ by assumption).2
            have hB2 := below_next hq hb2
            have hS2 := hP1 w2 hB2
            have hS4 := fun o => hP1 (w2.alloc o) (below_next hB2 (below_alloc1 w2 o))))
     all_goals
       go_wp2_with fail
       go_meet
       exact ⟨w2.heap.size,A2,c2,rfl,Blk.new w2 _ _,(ho2.mono hq.size).below (below_alloc1 w2 _),hB2.size,below_next hB2 (below_alloc1 w2 _)⟩
   case rest =>
     obtain ⟨h,A',c',rfl,hbh,ho,hh,hB5⟩ := hcut
     go_wp2_with fail
     go_ret
     refine ⟨h,A',c',rfl,hbh,ho.rd,by omega,fun ad hA => ?_,below_next hBw hB5⟩
     obtain ⟨g,hg,hg1,_⟩ := Own.form ho (by omega)
     rw [hg] at hA
     cases hA
     show w.heap.size ≤ g
     omega
theorem hclos_any (b0 h : Nat) (s : B32) (K P S : Nat) (A : Option Addr) (L c : Nat) (img : List UInt8) (d0 d1 : Int) (l8 : Value) (w : World) (hb : Blk w b0 #[.pointer (some ⟨h,0,none⟩)] 62) (hh : Blk w h (headC s K P S (.slice A L c) d0 d1 l8) 121) (hr : Rd w A L c img)
   (hok : spOk K P S = true) (hn : K + P ≤ 64) (hcn : cnt L S = K) :
   Calls Tryz.prog 143 #[.pointer (some ⟨b0,0,none⟩)] w fun e w' => e = .returned (.tuple #[]) ∧ ∃ B d,OwnL 22 5 w' w.heap.size B (K + P) d (pcs s K P S img) none ∧ Blk w' h (headC s K P S (.slice A L c) d0 d1 (.slice B (K + P : Nat) d)) 121 ∧ Fr (· = h) w w' := by
 have hK : 1 ≤ K ∧ K ≤ 64 ∧ P ≤ 16 ∧ 1 ≤ S ∧ S ≤ 16 := by unfold spOk at hok; simp at hok; omega
 have hcv := cnt_cover hcn hK.1
 have Hl := hide hr.1
 have hc : ∀ y,Below w.heap.size w y → (y.cell? ⟨b0,0,none⟩ = some (.pointer (some ⟨h,0,none⟩)) ∧ y.cell? ⟨h,0,none⟩ = some (.int .u32 (V s)) ∧ y.cell? ⟨h,1,none⟩ = some (.int .i64 K) ∧ y.cell? ⟨h,2,none⟩ = some (.int .i64 P) ∧ y.cell? ⟨h,3,none⟩ = some (.int .i64 S) ∧ y.cell? ⟨h,4,none⟩ = some (.slice A L c)) := fun y hy => ⟨(hb.below hy).cell rfl,(hh.below hy).cell rfl,(hh.below hy).cell rfl,(hh.below hy).cell rfl,(hh.below hy).cell rfl,(hh.below hy).cell rfl⟩
 have hc0 := hc w.drew (Below.refl _ _).drew
 have hB0 : Below w.heap.size w w.drew := (Below.refl _ _).drew
 have hsp := fun y (hy : Rd y A L c img) => hsplit_any A L c S K img y hy hcn hK.1 hK.2.1
 have hls : ∀ l,l ∈ splitL img S K → l.length = S := fun l hl => by
   obtain ⟨i,hi⟩ := List.getElem?_of_mem hl
   have hiK : i < K := by
     have := (List.getElem?_eq_some_iff.1 hi).1
     rwa [splitL_len] at this
   rw [splitL_get _ _ _ _ hiK] at hi
   cases hi
   exact pieceL_len _ _ _ _ (by rw [Hl.out]; exact hcv) hiK
 have hpc : ∀ y A1 c1,RdL y A1 K c1 (splitL img S K) → Calls Tryz.prog 144 #[.agg #[.int .u32 (V s),.int .i64 K,.int .i64 P,.int .i64 S],.slice A1 K c1] y fun e w' => ∃ A' c',e = .returned (.slice A' (K + P : Nat) c') ∧ OwnL 22 5 w' y.heap.size A' (K + P) c' (pcs s K P S img) none ∧ Below y.heap.size y w' := fun y A1 c1 h => hpieces_any s K P S A1 c1 _ y hok hn h hls
 have hne : b0 ≠ h := hb.ne hh (by decide)
 have hhl := hh.lt
 clear hls hok hcn hcv
 go_enter Tryz.func143,Tryz.ntmps143
 go_wp2_with fail
 have hc1 : True := trivial
 have hc2 : True := trivial
 have hc3 : True := trivial
 go_region_held3 (fun y => y.cell? ⟨b0,0,none⟩ = some (.pointer (some ⟨h,0,none⟩)) ∧ y.cell? ⟨h,0,none⟩ = some (.int .u32 (V s)) ∧ y.cell? ⟨h,1,none⟩ = some (.int .i64 K) ∧ y.cell? ⟨h,2,none⟩ = some (.int .i64 P) ∧ y.cell? ⟨h,3,none⟩ = some (.int .i64 S) ∧ y.cell? ⟨h,4,none⟩ = some (.slice A L c))
   (first | (with_reducible exact hc0) | (with_reducible exact hc1) | (with_reducible exact hc2) | (with_reducible exact hc3))
   ((first
     | (go_at_call 145; (with_reducible refine (hsp _ (hr.below hB0)).mono ?_); rintro e w1 ⟨A1,c1,rfl,ho1,hb1⟩
        have hB1 := below_next hB0 hb1
        have hc1 := hc w1 hB1)
     | (go_at_call 144; (with_reducible refine (hpc _ A1 c1 ho1.rdl).mono ?_); rintro e w2 ⟨A2,c2,rfl,ho2,hb2⟩
        have hB2 := below_next hB1 hb2
        have hh2 := hh.below hB2
        have hc2 := hc w2 hB2
        have e8 := hh2.cell (i := 8) (v := l8) rfl
        have z8 := hh2.free 8
        have hF2 : Fr (· = h) w2 (w2.setCell ⟨h,8,none⟩ (.slice A2 (K + P : Nat) c2)) := Fr.set (S := (· = h)) (Fr.refl _ _) (p := ⟨h,8,none⟩) (fun _ => rfl) _
        have hh3 := hh2.setCellAt 8 (.slice A2 (K + P : Nat) c2) (cs' := headC s K P S (.slice A L c) d0 d1 (.slice A2 (K + P : Nat) c2)) rfl
        have hc3 : (w2.setCell ⟨h,8,none⟩ (.slice A2 (K + P : Nat) c2)).cell? ⟨b0,0,none⟩ = some (.pointer (some ⟨h,0,none⟩)) ∧ (w2.setCell ⟨h,8,none⟩ (.slice A2 (K + P : Nat) c2)).cell? ⟨h,0,none⟩ = some (.int .u32 (V s)) ∧ (w2.setCell ⟨h,8,none⟩ (.slice A2 (K + P : Nat) c2)).cell? ⟨h,1,none⟩ = some (.int .i64 K) ∧ (w2.setCell ⟨h,8,none⟩ (.slice A2 (K + P : Nat) c2)).cell? ⟨h,2,none⟩ = some (.int .i64 P) ∧ (w2.setCell ⟨h,8,none⟩ (.slice A2 (K + P : Nat) c2)).cell? ⟨h,3,none⟩ = some (.int .i64 S) ∧ (w2.setCell ⟨h,8,none⟩ (.slice A2 (K + P : Nat) c2)).cell? ⟨h,4,none⟩ = some (.slice A L c)
          := ⟨((hb.below hB2).fr hF2 hne).cell rfl,hh3.cell rfl,hh3.cell rfl,hh3.cell rfl,hh3.cell rfl,hh3.cell rfl⟩)))
 all_goals
   have ho : OwnL 22 5 w2 w.heap.size A2 (K + P) c2 (pcs s K P S img) none := ho2.lowb hB1.size
   have ho3 : OwnL 22 5 (w2.setCell ⟨h,8,none⟩ (.slice A2 (K + P : Nat) c2)) w.heap.size A2 (K + P) c2 (pcs s K P S img) none := ho.fr hF2 (fun g hg => by have h2 : g = h := hg; omega)
   go_end0
   exact ⟨rfl,A2,c2,ho3,hh3,(Fr.of hB2).step hF2 (fun _ _ h => h)⟩
end Go.Proofs.YtkkcpblfheplaaaGreatDoor
