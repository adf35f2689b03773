/- Contracts of functions that the laws of downpourtop reach, and plain facts; no condition beyond what each theorem states. -/
import Derived.Test.YtkkcpblfheplaaaGreatDoorMD08
set_option maxRecDepth 100000
set_option maxHeartbeats 8000000
set_option linter.all false
namespace Go.Proofs.YtkkcpblfheplaaaGreatDoor
open Go.RowKit
theorem rn1 (r : Nat) (x : UInt8) (l : List UInt8) (w : World) (h : RdrAt w r (x :: l)) :
   Calls Tryz.prog 98 #[.pointer (some ⟨r,0,none⟩),.int .i64 1] w fun e w' => e = .returned (.int .u32 (x.toNat : Int)) ∧ RdrAt w' r l ∧ Fr (· = r) w w' := by
 have hN := rnumber_any r 1 (x :: l) w h (by simp) (by omega)
 have hv : V (numB ((x :: l).take 1)) = (x.toNat : Int) := by
   unfold V
   rw [numB_num _ (by simp)]
   simp [num]
 rw [hv] at hN
 exact hN
theorem rn4 (r : Nat) (v : BitVec 32) (l : List UInt8) (w : World) (h : RdrAt w r (four v ++ l)) :
   Calls Tryz.prog 98 #[.pointer (some ⟨r,0,none⟩),.int .i64 4] w fun e w' => e = .returned (.int .u32 (V v)) ∧ RdrAt w' r l ∧ Fr (· = r) w w' := by
 have hN := rnumber_any r 4 (four v ++ l) w h (by simp [four_len]) (by omega)
 have e1 : (four v ++ l).take 4 = four v := by rw [List.take_append_of_le_length (by simp [four_len]),List.take_of_length_le (by simp [four_len])]
 have e2 : (four v ++ l).drop 4 = l := by rw [List.drop_append_of_le_length (by simp [four_len]),List.drop_of_length_le (by simp [four_len]),List.nil_append]
 rw [e1,e2,numB_four] at hN
 exact hN
theorem rn2 (r n : Nat) (hn : n < 65536) (l : List UInt8) (w : World) (h : RdrAt w r ([byt ((n : Int) / 256),byt (n : Int)] ++ l)) :
   Calls Tryz.prog 98 #[.pointer (some ⟨r,0,none⟩),.int .i64 2] w fun e w' => e = .returned (.int .u32 (n : Int)) ∧ RdrAt w' r l ∧ Fr (· = r) w w' := by
 have hN := rnumber_any r 2 _ w h (by simp) (by omega)
 have hv : V (numB (([byt ((n : Int) / 256),byt (n : Int)] ++ l).take 2)) = (n : Int) := numB_pair n hn
 rw [hv] at hN
 exact hN
theorem rsome (r k : Nat) (H l : List UInt8) (w : World) (hk : H.length = k) (hk2 : k ≤ 1000) (h : RdrAt w r (H ++ l)) :
   Calls Tryz.prog 100 #[.pointer (some ⟨r,0,none⟩),.int .i64 k] w fun e w' => ∃ B d,e = .returned (.slice B k d) ∧ Own w' w.heap.size 5 B k d H ∧ RdrAt w' r l ∧ Fr (· = r) w w' := by
 have hN := some_any r k (H ++ l) w h (by simp; omega) (by omega)
 have e1 : (H ++ l).take k = H := by rw [List.take_append_of_le_length (by omega),List.take_of_length_le (by omega)]
 have e2 : (H ++ l).drop k = l := by rw [List.drop_append_of_le_length (by omega),List.drop_of_length_le (by omega),List.nil_append]
 rw [e1,e2] at hN
 exact hN
def partQ (q : SSt) (k : Nat) : SSt := ⟨q.act,q.trial,q.fl,q.ge,if 1 ≤ k then q.v0 else 0#32,if 1 ≤ k then q.n0 else 0,if 1 ≤ k then q.H0 else none,if 2 ≤ k then q.v1 else 0#32,if 2 ≤ k then q.n1 else 0,if 2 ≤ k then q.H1 else none,false,0#32,0#32,0,0,0,none⟩
def restL (q : SSt) : Nat → List UInt8
 | 0 => slotL q.v0 q.n0 q.H0 ++ (slotL q.v1 q.n1 q.H1 ++ nowL q)
 | 1 => slotL q.v1 q.n1 q.H1 ++ nowL q
 | _ => nowL q
theorem StC.fr {w w' : World} {st : Array Value} {q : SSt} {r : Nat} {cs : Array Value} {t : TypeId} (h : StC w st q) (hb : Blk w r cs t) (hu : ∀ (i : Nat) (y : Nat),cs[i]? ≠ some (.int .u8 (y : Int))) (hF : Fr (· = r) w w') : StC w' st q := by
 obtain ⟨x0,x1,x2,h1,h2,h3,h4⟩ := h
 have key : ∀ x H,HSt w x H → HSt w' x H := by
   intro x H hx
   cases H with
   | none => exact hx
   | some H =>
     obtain ⟨A,c,e1,e2⟩ := hx
     exact ⟨A,c,e1,e2.fr hF (fun hn ad hA => e2.apart hb hu hn ad hA)⟩
 exact ⟨x0,x1,x2,h1,key _ _ h2,key _ _ h3,key _ _ h4⟩
theorem RdrAt.u8 {w : World} {r : Nat} {l : List UInt8} (h : RdrAt w r l) : ∃ cs,Blk w r cs 170 ∧ ∀ (i : Nat) (y : Nat),cs[i]? ≠ some (.int .u8 (y : Int)) := by
 obtain ⟨A,c,h1,h2⟩ := h
 exact ⟨_,h1,rdC_u8 _ _ _⟩
theorem RdrAt.fr {w w' : World} {r g : Nat} {l : List UInt8} {cs : Array Value} {t : TypeId} (h : RdrAt w r l) (hb : Blk w g cs t) (hu : ∀ (i : Nat) (y : Nat),cs[i]? ≠ some (.int .u8 (y : Int))) (hne : r ≠ g) (hF : Fr (· = g) w w') : RdrAt w' r l := by
 obtain ⟨A,c,h1,h2⟩ := h
 exact ⟨A,c,h1.fr hF hne,h2.fr hF (fun hn ad hA => h2.apart hb hu hn ad hA)⟩
theorem byt_small (n : Nat) (h : n < 256) : ((byt (n : Int)).toNat : Int) = (n : Int) := by
 rw [byt_val]; omega
theorem plainL_m (s v : BitVec 32) (L S P : Nat) (H : List UInt8) (hL : L ≤ 512) (hS : S ≤ 16) (hP : P ≤ 16) (hH : H.length = 32) :
   mS (plainL s v L S P H) = s ∧ mV (plainL s v L S P H) = v ∧ mL (plainL s v L S P H) = L ∧ mZ (plainL s v L S P H) = S ∧ mP (plainL s v L S P H) = P ∧ (plainL s v L S P H).drop 12 = H := by
 have h1 := numB_pair L (by omega)
 have h2 := byt_small S (by omega)
 have h3 := byt_small P (by omega)
 refine ⟨numB_four s,numB_four v,?_,?_,?_,rfl⟩
 · have : V (numB (((plainL s v L S P H).drop 8).take 2)) = (L : Int) := h1
   unfold V at this
   unfold mL
   omega
 · have : ((mZ (plainL s v L S P H) : Nat) : Int) = (S : Int) := h2
   omega
 · have : ((mP (plainL s v L S P H) : Nat) : Int) = (P : Int) := h3
   omega
theorem parse_st (q : SSt) (hq : q.Ok) (A : Option Addr) (n c : Nat) (w : World) (hr : Rd w A n c (bytesS q)) :
   Calls Tryz.prog 44 #[.slice A n c] w fun e w' => ∃ st,e = .returned (.tuple #[.agg st,.int .i64 0]) ∧ StC w' st q ∧ Below w.heap.size w w' := by
 have hln := hr.1
 obtain ⟨w0,hw0⟩ : ∃ w0,(w.alloc (.cells stZ 46)).alloc (.cells #[.slice A n c,.int .i64 0] 170) = w0 := ⟨_,rfl⟩
 have hz0 : Blk w0 w.heap.size stZ 46 := by rw [← hw0]; exact heap_alloc2_old w _ _
 have hzr : Blk w0 (w.heap.size + 1) (rdC A n c) 170 := by rw [← hw0]; exact heap_alloc2_new w _ _
 have hB0 : Below w.heap.size w w0 := by rw [← hw0]; exact ba (below_alloc1 _ _) _
 have hR0 : RdrAt w0 (w.heap.size + 1) (bytesS q) := ⟨A,c,by rw [hln]; exact hzr,by rw [hln]; exact hr.below hB0⟩
 have hact : q.act < 256 ∧ q.trial < 256 := by cases hq <;> simp <;> omega
 have hbs : bytesS q = byt (q.act : Int) :: (byt (q.trial : Int) :: (four q.fl ++ (four q.ge ++ restL q 0))) := by simp [bytesS,headL,restL]
 rw [hbs] at hR0
 have Hln := hide hln
 clear hbs hln hzr
 unfold stZ at hw0
 go_enter Tryz.func44,Tryz.ntmps44
 go_upto_region 2 with fail
 change Code.wp _ _ _ _ ((w.alloc (.cells (steC 0 0 0#32 0#32 0#32 0 (.slice none 0 0) 0#32 0 (.slice none 0 0) false 0#32 0#32 0 0 0 (.slice none 0 0)) 46)).alloc (.cells #[.slice A n c,.int .i64 0] 170))
 rw [hw0]
 clear hw0
 have hne : w.heap.size ≠ w.heap.size + 1 := by omega
 have e1 := byt_small q.act hact.1
 have e2 := byt_small q.trial hact.2
 have Hact := hide hact
 have k1 := rn1 (w.heap.size + 1) (byt (q.act : Int)) (byt (q.trial : Int) :: (four q.fl ++ (four q.ge ++ restL q 0))) w0 hR0
 rw [e1] at k1
 go_wp2_with fail
 refine k1.mono ?_
 rintro e w1 ⟨rfl,hR1,hF1⟩
 have k2 := rn1 (w.heap.size + 1) (byt (q.trial : Int)) (four q.fl ++ (four q.ge ++ restL q 0)) w1 hR1
 rw [e2] at k2
 have hz1 := hz0.fr hF1 hne
 have hB1 := hB0.trans (hF1.below hB0.size (fun g hg => by omega))
 clear k1 hR0 hz0 hB0 hF1
 go_wp2_with fail
 refine k2.mono ?_
 rintro e w2 ⟨rfl,hR2,hF2⟩
 have hz2 := hz1.fr hF2 hne
 have hB2 := hB1.trans (hF2.below hB1.size (fun g hg => by omega))
 clear k2 hR1 hz1 hB1 hF2
 go_wp2_with fail
 refine (rn4 (w.heap.size + 1) q.fl (four q.ge ++ restL q 0) w2 hR2).mono ?_
 rintro e w3 ⟨rfl,hR3,hF3⟩
 have hz3 := hz2.fr hF3 hne
 have hB3 := hB2.trans (hF3.below hB2.size (fun g hg => by omega))
 clear hR2 hz2 hB2 hF3
 go_wp2_with fail
 refine (rn4 (w.heap.size + 1) q.ge (restL q 0) w3 hR3).mono ?_
 rintro e w4 ⟨rfl,hR4,hF4⟩
 have hz4 := hz3.fr hF4 hne
 have hB4 := hB3.trans (hF4.below hB3.size (fun g hg => by omega))
 clear hR3 hz3 hB3 hF4 e1 e2
 have hlt4 := hR4.lt
 have hz5 : Blk (w4.alloc (.cells stZ 46)) w4.heap.size stZ 46 := Blk.new _ _ _
 have hC5 : StC (w4.alloc (.cells stZ 46)) (stArr (partQ q 0) (.slice none 0 0) (.slice none 0 0) (.slice none 0 0)) (partQ q 0) := ⟨_,_,_,rfl,rfl,rfl,rfl⟩
 have hsz5 := hC5.size
 have hone5 := hC5.one
 have hz45 := hz4.alloc (.cells stZ 46)
 have hB5 := ba hB4 (.cells stZ 46)
 have hR5 := hR4.below (below_alloc1 w4 (.cells stZ 46))
 unfold stZ at hz5 hz45 hB5 hR5 hC5
 go_upto_region 3 with (first
   | ((with_reducible refine at_store ?_); refine wpList_store_row rfl 46 (.tmp 5) (.tmp 23) rfl w4.heap.size (stArr (partQ q 0) (.slice none 0 0) (.slice none 0 0) (.slice none 0 0)) rfl rfl 46 _ hz5 hsz5 rfl hone5 ?_))
 obtain ⟨b5,hb5⟩ : ∃ b5,w4.heap.size = b5 := ⟨_,rfl⟩
 have hz6 := hz5.setRow (stArr (partQ q 0) (.slice none 0 0) (.slice none 0 0) (.slice none 0 0))
 have hs6 := hz45.setRow_other (k := w4.heap.size) (by omega) (stArr (partQ q 0) (.slice none 0 0) (.slice none 0 0) (.slice none 0 0))
 have hC6 := hC5.setRow hz5 stZ_u8 (stArr (partQ q 0) (.slice none 0 0) (.slice none 0 0) (.slice none 0 0))
 have hR6 := hR5.fr hz5 stZ_u8 (by omega) (fr_setRow _ w4.heap.size (stArr (partQ q 0) (.slice none 0 0) (.slice none 0 0) (.slice none 0 0)))
 have hB6 := below_setRow hB5 (g := w4.heap.size) (by omega) (stArr (partQ q 0) (.slice none 0 0) (.slice none 0 0) (.slice none 0 0))
 change Code.wp _ _ _ _ (World.setRow (w4.alloc (.cells (steC 0 0 0#32 0#32 0#32 0 (.slice none 0 0) 0#32 0 (.slice none 0 0) false 0#32 0#32 0 0 0 (.slice none 0 0)) 46)) w4.heap.size (stArr (partQ q 0) (.slice none 0 0) (.slice none 0 0) (.slice none 0 0)))
 generalize World.setRow (w4.alloc (.cells (steC 0 0 0#32 0#32 0#32 0 (.slice none 0 0) 0#32 0 (.slice none 0 0) false 0#32 0#32 0 0 0 (.slice none 0 0)) 46)) w4.heap.size (stArr (partQ q 0) (.slice none 0 0) (.slice none 0 0) (.slice none 0 0)) = w6 at *
 clear hz5 hz45 hC5 hR5 hB5 hz4 hB4 hR4 hsz5 hone5
 have hlt5 : w.heap.size + 1 < b5 := by omega
 rw [hb5] at hz6 ⊢
 clear hb5 hlt4
 have hne5 : b5 ≠ w.heap.size + 1 := by omega
 have hneb : w.heap.size ≠ b5 := by omega
 go_wp2_with fail
 go_loopw [24] (fun u wr => ∃ (k : Nat) (arr : Array Value),k ≤ 2 ∧ u = .int .i64 (k : Int) ∧ Blk wr b5 arr 46 ∧ StC wr arr (partQ q k) ∧ RdrAt wr (w.heap.size + 1) (restL q k) ∧ Blk wr w.heap.size stZ 46 ∧ Below w.heap.size w wr) (fun u _ => 2 - (intOf u).toNat)
 case atStart => exact ⟨0,_,by omega,rfl,hz6,hC6,hR6,hs6,hB6⟩
 case round =>
   clear hz6 hC6 hR6 hs6 hB6
   obtain ⟨k,arr,hk,rfl,hz,hC,hR,hs,hB⟩ := hrel
   match k,hk with
   | 0,_ =>
     obtain ⟨H,hH,hHl,hn5⟩ : ∃ H,q.H0 = some H ∧ H.length = 32 ∧ q.n0 < 65536 := by
       cases hq with
       | off fl ge v0 n0 H0 h1 h2 h3 => exact ⟨H0,rfl,h3,by show n0 < 65536; omega⟩
       | on fl ge v0 n0 H0 s v L S P H2 h1 h2 h3 hm hL hS hP h4 => exact ⟨H0,rfl,h3,by show n0 < 65536; omega⟩
       | two trial fl ge v0 v1 n0 n1 H0 H1 ht h1 h2 k1 k2 h3 h4 => exact ⟨H0,rfl,h3,by show n0 < 65536; omega⟩
     have hHh := hide hH
     clear hH
     have hR1 : RdrAt wr (w.heap.size + 1) (1 :: (four q.v0 ++ ([byt ((q.n0 : Int) / 256),byt (q.n0 : Int)] ++ (H ++ restL q 1)))) := by
       have : restL q 0 = 1 :: (four q.v0 ++ ([byt ((q.n0 : Int) / 256),byt (q.n0 : Int)] ++ (H ++ restL q 1))) := by
         show slotL q.v0 q.n0 q.H0 ++ _ = _
         rw [hHh.out]
         simp [slotL,restL]
       rw [← this]
       exact hR
     go_wp2_with fail
     refine (ris_yes (w.heap.size + 1) _ _ hR1).mono ?_
     rintro e a1 ⟨rfl,hQ1,hG1⟩
     obtain ⟨rc,hrb,hru⟩ := hR.u8
     have hz1 := hz.fr hG1 hne5
     have hs1 := hs.fr hG1 hne
     have hC1 := hC.fr hrb hru hG1
     have hB1 := hB.trans (hG1.below hB.size (fun g hg => by omega))
     clear hR hR1 hz hs hC hB hG1 hrb hru
     go_wp2_with fail
     refine (rn4 (w.heap.size + 1) q.v0 _ a1 hQ1).mono ?_
     rintro e a2 ⟨rfl,hQ2,hG2⟩
     obtain ⟨rc,hrb,hru⟩ := hQ1.u8
     have hz2 := hz1.fr hG2 hne5
     have hs2 := hs1.fr hG2 hne
     have hC2 := hC1.fr hrb hru hG2
     have hB2 := hB1.trans (hG2.below hB1.size (fun g hg => by omega))
     clear hQ1 hz1 hs1 hC1 hB1 hG2 hrb hru
     go_wp2_with fail
     refine (rn2 (w.heap.size + 1) q.n0 hn5 _ a2 hQ2).mono ?_
     rintro e a3 ⟨rfl,hQ3,hG3⟩
     obtain ⟨rc,hrb,hru⟩ := hQ2.u8
     have hz3 := hz2.fr hG3 hne5
     have hs3 := hs2.fr hG3 hne
     have hC3 := hC2.fr hrb hru hG3
     have hB3 := hB2.trans (hG3.below hB2.size (fun g hg => by omega))
     clear hQ2 hz2 hs2 hC2 hB2 hG3 hrb hru
     go_wp2_with fail
     refine Calls.mono (show Calls Tryz.prog 100 #[.pointer (some ⟨w.heap.size + 1,0,none⟩),.int .i64 32] a3 _ from rsome (w.heap.size + 1) 32 H _ a3 hHl (by omega) hQ3) ?_
     rintro e a4 ⟨D,dd,rfl,hoD,hQ4,hG4⟩
     obtain ⟨rc,hrb,hru⟩ := hQ3.u8
     have hz4 := hz3.fr hG4 hne5
     have hs4 := hs3.fr hG4 hne
     have hC4 := hC3.fr hrb hru hG4
     have hB4 := hB3.trans (hG4.below hB3.size (fun g hg => by omega))
     clear hQ3 hz3 hs3 hC3 hB3 hG4 hrb hru
     have hu4 := hC4.u8
     obtain ⟨y0,y1,y2,rfl,j0,j1,j2⟩ := hC4
     cases j1
     cases j2
     cases j0
     have hszs := size41 q.v0 q.n0 (.slice D 32 dd)
     have hz5 := hz4.setRow (stArr (partQ q 1) (.slice D 32 dd) (.slice none 0 0) (.slice none 0 0))
     have hs5 := hs4.setRow_other (k := b5) hneb (stArr (partQ q 1) (.slice D 32 dd) (.slice none 0 0) (.slice none 0 0))
     have hD5 : HSt (World.setRow a4 b5 (stArr (partQ q 1) (.slice D 32 dd) (.slice none 0 0) (.slice none 0 0))) (.slice D 32 dd) (some H) := HSt.setRow (H := some H) ⟨D,dd,rfl,hoD.rd⟩ hz4 hu4 _
     
     have hQ5 := hQ4.fr hz4 hu4 (Ne.symm hne5) (fr_setRow a4 b5 (stArr (partQ q 1) (.slice D 32 dd) (.slice none 0 0) (.slice none 0 0)))
     have hB5 := below_setRow hB4 (g := b5) (by omega) (stArr (partQ q 1) (.slice D 32 dd) (.slice none 0 0) (.slice none 0 0))
     go_wp2_with (first
       | ((with_reducible refine at_store ?_); refine wpList_store_part rfl 41 (.tmp 39) (.tmp 37) rfl b5 4 (slotC q.v0 q.n0 (.slice D 32 dd)) rfl rfl 46 _ (stArr (partQ q 1) (.slice D 32 dd) (.slice none 0 0) (.slice none 0 0)) hz4 hszs (by simp [slotC,stArr,steC]) rfl (one41 _ _ _ _ _) ?_))
     go_roundw
     case rel => exact ⟨1,_,by omega,rfl,hz5,⟨_,_,_,rfl,by show HSt _ _ q.H0; rw [hHh.out]; exact hD5,rfl,rfl⟩,hQ5,hs5,hB5⟩
     case measure => simp [intOf]

   | 1,_ =>
     rcases hH1 : q.H1 with _ | H
     · have hH1' : q.v1 = 0#32 ∧ q.n1 = 0 := by
         cases hq with
         | off fl ge v0 n0 H0 h1 h2 h3 => exact ⟨rfl,rfl⟩
         | on fl ge v0 n0 H0 s v L S P H2 h1 h2 h3 hm hL hS hP h4 => exact ⟨rfl,rfl⟩
         | two trial fl ge v0 v1 n0 n1 H0 H1 ht h1 h2 k1 k2 h3 h4 => cases hH1
       have hp : partQ q 2 = partQ q 1 := by unfold partQ; simp [hH1'.1,hH1'.2,hH1]
       have hR1 : RdrAt wr (w.heap.size + 1) (0 :: restL q 2) := by
         have : restL q 1 = 0 :: restL q 2 := by
           show slotL q.v1 q.n1 q.H1 ++ _ = _
           rw [hH1]
           rfl
         rw [← this]
         exact hR
       have Hp := hide hp
       clear hp hH1 hH1'
       go_wp2_with fail
       refine (ris_no (w.heap.size + 1) _ _ hR1).mono ?_
       rintro e a1 ⟨rfl,hQ1,hG1⟩
       obtain ⟨rc,hrb,hru⟩ := hR.u8
       have hz1 := hz.fr hG1 hne5
       have hs1 := hs.fr hG1 hne
       have hC1 := hC.fr hrb hru hG1
       have hB1 := hB.trans (hG1.below hB.size (fun g hg => by omega))
       clear hR hR1 hz hs hC hB hG1 hrb hru
       go_wp2_with fail
       go_roundw
       case rel => exact ⟨2,arr,by omega,rfl,hz1,by rw [Hp.out]; exact hC1,hQ1,hs1,hB1⟩
       case measure => simp [intOf]
     · obtain ⟨hHl,hn5⟩ : H.length = 32 ∧ q.n1 < 65536 := by
         cases hq with
         | off fl ge v0 n0 H0 h1 h2 h3 => cases hH1
         | on fl ge v0 n0 H0 s v L S P H2 h1 h2 h3 hm hL hS hP h4 => cases hH1
         | two trial fl ge v0 v1 n0 n1 H0 H1 ht h1 h2 k1 k2 h3 h4 => cases hH1; exact ⟨h4,by show n1 < 65536; omega⟩
       have hHh := hide hH1
       clear hH1
       have hR1 : RdrAt wr (w.heap.size + 1) (1 :: (four q.v1 ++ ([byt ((q.n1 : Int) / 256),byt (q.n1 : Int)] ++ (H ++ restL q 2)))) := by
         have : restL q 1 = 1 :: (four q.v1 ++ ([byt ((q.n1 : Int) / 256),byt (q.n1 : Int)] ++ (H ++ restL q 2))) := by
           show slotL q.v1 q.n1 q.H1 ++ _ = _
           rw [hHh.out]
           simp [slotL,restL]
         rw [← this]
         exact hR
       go_wp2_with fail
       refine (ris_yes (w.heap.size + 1) _ _ hR1).mono ?_
       rintro e a1 ⟨rfl,hQ1,hG1⟩
       obtain ⟨rc,hrb,hru⟩ := hR.u8
       have hz1 := hz.fr hG1 hne5
       have hs1 := hs.fr hG1 hne
       have hC1 := hC.fr hrb hru hG1
       have hB1 := hB.trans (hG1.below hB.size (fun g hg => by omega))
       clear hR hR1 hz hs hC hB hG1 hrb hru
       go_wp2_with fail
       refine (rn4 (w.heap.size + 1) q.v1 _ a1 hQ1).mono ?_
       rintro e a2 ⟨rfl,hQ2,hG2⟩
       obtain ⟨rc,hrb,hru⟩ := hQ1.u8
       have hz2 := hz1.fr hG2 hne5
       have hs2 := hs1.fr hG2 hne
       have hC2 := hC1.fr hrb hru hG2
       have hB2 := hB1.trans (hG2.below hB1.size (fun g hg => by omega))
       clear hQ1 hz1 hs1 hC1 hB1 hG2 hrb hru
       go_wp2_with fail
       refine (rn2 (w.heap.size + 1) q.n1 hn5 _ a2 hQ2).mono ?_
       rintro e a3 ⟨rfl,hQ3,hG3⟩
       obtain ⟨rc,hrb,hru⟩ := hQ2.u8
       have hz3 := hz2.fr hG3 hne5
       have hs3 := hs2.fr hG3 hne
       have hC3 := hC2.fr hrb hru hG3
       have hB3 := hB2.trans (hG3.below hB2.size (fun g hg => by omega))
       clear hQ2 hz2 hs2 hC2 hB2 hG3 hrb hru
       go_wp2_with fail
       refine Calls.mono (show Calls Tryz.prog 100 #[.pointer (some ⟨w.heap.size + 1,0,none⟩),.int .i64 32] a3 _ from rsome (w.heap.size + 1) 32 H _ a3 hHl (by omega) hQ3) ?_
       rintro e a4 ⟨D,dd,rfl,hoD,hQ4,hG4⟩
       obtain ⟨rc,hrb,hru⟩ := hQ3.u8
       have hz4 := hz3.fr hG4 hne5
       have hs4 := hs3.fr hG4 hne
       have hC4 := hC3.fr hrb hru hG4
       have hB4 := hB3.trans (hG4.below hB3.size (fun g hg => by omega))
       clear hQ3 hz3 hs3 hC3 hB3 hG4 hrb hru
       have hu4 := hC4.u8
       obtain ⟨y0,y1,y2,rfl,j0,j1,j2⟩ := hC4
       cases j1
       cases j2
       have hszs := size41 q.v1 q.n1 (.slice D 32 dd)
       have hz5 := hz4.setRow (stArr (partQ q 2) y0 (.slice D 32 dd) (.slice none 0 0))
       have hs5 := hs4.setRow_other (k := b5) hneb (stArr (partQ q 2) y0 (.slice D 32 dd) (.slice none 0 0))
       have hD5 : HSt (World.setRow a4 b5 (stArr (partQ q 2) y0 (.slice D 32 dd) (.slice none 0 0))) (.slice D 32 dd) (some H) := HSt.setRow (H := some H) ⟨D,dd,rfl,hoD.rd⟩ hz4 hu4 _
       have hj5 := j0.setRow hz4 hu4 (stArr (partQ q 2) y0 (.slice D 32 dd) (.slice none 0 0))
       have hQ5 := hQ4.fr hz4 hu4 (Ne.symm hne5) (fr_setRow a4 b5 (stArr (partQ q 2) y0 (.slice D 32 dd) (.slice none 0 0)))
       have hB5 := below_setRow hB4 (g := b5) (by omega) (stArr (partQ q 2) y0 (.slice D 32 dd) (.slice none 0 0))
       go_wp2_with (first
         | ((with_reducible refine at_store ?_); refine wpList_store_part rfl 41 (.tmp 39) (.tmp 37) rfl b5 7 (slotC q.v1 q.n1 (.slice D 32 dd)) rfl rfl 46 _ (stArr (partQ q 2) y0 (.slice D 32 dd) (.slice none 0 0)) hz4 hszs (by simp [slotC,stArr,steC]) rfl (one41 _ _ _ _ _) ?_))
       go_roundw
       case rel => exact ⟨2,_,by omega,rfl,hz5,⟨_,_,_,rfl,hj5,by show HSt _ _ q.H1; rw [hHh.out]; exact hD5,rfl⟩,hQ5,hs5,hB5⟩
       case measure => simp [intOf]
   | 2,_ =>
     cases hq' : hq with
     | off fl ge v0 n0 H0 h1 h2 h3 =>
       clear hq'
       have hR2 : RdrAt wr (w.heap.size + 1) [0] := hR
       go_wp2_with fail
       refine (ris_no (w.heap.size + 1) _ _ hR2).mono ?_
       rintro e a1 ⟨rfl,hQ1,hG1⟩
       obtain ⟨rc,hrb,hru⟩ := hR.u8
       have hz1 := hz.fr hG1 hne5
       have hs1 := hs.fr hG1 hne
       have hC1 : StC a1 arr (offQ fl ge v0 n0 H0) := hC.fr hrb hru hG1
       have hB1 := hB.trans (hG1.below hB.size (fun g hg => by omega))
       clear hR hR2 hz hs hC hB hG1 hrb hru
       have hu1 := hC1.u8
       obtain ⟨y0,y1,y2,hyy,j0,j1,j2⟩ := id hC1
       have c10 := hz1.cell (i := 10) (v := .bool false) (by rw [hyy]; rfl)
       have f10 := hz1.free 10
       have hz2 := hz1.setCellAt 10 (.bool false) (cs' := arr) (by rw [hyy]; rfl)
       have hs2 := hs1.other (a := ⟨b5,10,none⟩) hneb (.bool false)
       have hC2 := hC1.set hz1 hu1 10 (.bool false)
       have hQ2 := hQ1.fr hz1 hu1 (Ne.symm hne5) (Fr.set (S := (· = b5)) (Fr.refl _ a1) (p := ⟨b5,10,none⟩) (fun _ => rfl) (.bool false))
       have hB2 := hB1.setCell (p := ⟨b5,10,none⟩) (show w.heap.size ≤ b5 by omega) (.bool false)
       have hyH := hide hyy
       clear hyy j0 j1 j2
       go_upto_region 10 with fail
       change Code.wp _ _ _ _ (a1.setCell ⟨b5,10,none⟩ (.bool false))
       generalize a1.setCell ⟨b5,10,none⟩ (.bool false) = a2 at *
       clear hz1 hs1 hC1 hQ1 hB1 c10 f10
       have c10 := hz2.cell (i := 10) (v := .bool false) (by rw [hyH.out]; rfl)
       go_upto_region 15 with fail
       obtain ⟨RA,rc,hrb,hrd⟩ := hQ2
       have q0 := hrb.cell (i := 0) (v := .slice RA 0 rc) rfl
       have q1 := hrb.cell (i := 1) (v := .int .i64 0) rfl
       have hmayc := stmay_st _ hq _ a2 hC2
       have hszf := hC2.size
       have honef := hC2.one
       go_wp2_with (first
         | ((with_reducible refine at_load ?_); refine wpList_load_row_w rfl 46 (.tmp 5) rfl b5 rfl 46 _ (0,0) _ hz2 Tryz.underlying46 rfl hszf ?_))
       refine hmayc.mono ?_
       rintro e m1 ⟨rfl,hmb⟩
       have hzm := hz2.below hmb
       have hsm := hs2.below hmb
       have hCm := hC2.below hmb
       have hBm := below_next hB2 hmb
       have h17 := hCm.size17
       clear q0 q1
       go_wp2_with (first
         | ((with_reducible refine at_load ?_); refine wpList_load_row rfl 46 (.tmp 5) rfl b5 rfl 46 _ (0,0) _ hzm Tryz.underlying46 rfl hszf ?_)
         | ((with_reducible refine at_store ?_); refine wpList_store_row rfl 46 (.tmp 2) (.tmp 81) rfl w.heap.size arr rfl rfl 46 _ hsm hszf (by rw [h17]; rfl) honef ?_))
       refine bodyPost_ret (results_cell_slot Tryz.results44 _ _ w.heap.size 46 arr (0,0) _ _ rfl rfl (hsm.setRow _) Tryz.underlying46 rfl hszf) rfl ?_
       exact ⟨_,rfl,hCm.setRow hsm stZ_u8 _,below_setRow hBm (by omega) _⟩
     | two trial fl ge v0 v1 n0 n1 H0 H1 ht h1 h2 k1 k2 h3 h4 =>
       clear hq'
       have hR2 : RdrAt wr (w.heap.size + 1) [0] := hR
       go_wp2_with fail
       refine (ris_no (w.heap.size + 1) _ _ hR2).mono ?_
       rintro e a1 ⟨rfl,hQ1,hG1⟩
       obtain ⟨rc,hrb,hru⟩ := hR.u8
       have hz1 := hz.fr hG1 hne5
       have hs1 := hs.fr hG1 hne
       have hC1 : StC a1 arr (twoQ trial fl ge v0 v1 n0 n1 H0 H1) := hC.fr hrb hru hG1
       have hB1 := hB.trans (hG1.below hB.size (fun g hg => by omega))
       clear hR hR2 hz hs hC hB hG1 hrb hru
       have hu1 := hC1.u8
       obtain ⟨y0,y1,y2,hyy,j0,j1,j2⟩ := id hC1
       have c10 := hz1.cell (i := 10) (v := .bool false) (by rw [hyy]; rfl)
       have f10 := hz1.free 10
       have hz2 := hz1.setCellAt 10 (.bool false) (cs' := arr) (by rw [hyy]; rfl)
       have hs2 := hs1.other (a := ⟨b5,10,none⟩) hneb (.bool false)
       have hC2 := hC1.set hz1 hu1 10 (.bool false)
       have hQ2 := hQ1.fr hz1 hu1 (Ne.symm hne5) (Fr.set (S := (· = b5)) (Fr.refl _ a1) (p := ⟨b5,10,none⟩) (fun _ => rfl) (.bool false))
       have hB2 := hB1.setCell (p := ⟨b5,10,none⟩) (show w.heap.size ≤ b5 by omega) (.bool false)
       have hyH := hide hyy
       clear hyy j0 j1 j2
       go_upto_region 10 with fail
       change Code.wp _ _ _ _ (a1.setCell ⟨b5,10,none⟩ (.bool false))
       generalize a1.setCell ⟨b5,10,none⟩ (.bool false) = a2 at *
       clear hz1 hs1 hC1 hQ1 hB1 c10 f10
       have c10 := hz2.cell (i := 10) (v := .bool false) (by rw [hyH.out]; rfl)
       go_upto_region 15 with fail
       obtain ⟨RA,rc,hrb,hrd⟩ := hQ2
       have q0 := hrb.cell (i := 0) (v := .slice RA 0 rc) rfl
       have q1 := hrb.cell (i := 1) (v := .int .i64 0) rfl
       have hmayc := stmay_st _ hq _ a2 hC2
       have hszf := hC2.size
       have honef := hC2.one
       go_wp2_with (first
         | ((with_reducible refine at_load ?_); refine wpList_load_row_w rfl 46 (.tmp 5) rfl b5 rfl 46 _ (0,0) _ hz2 Tryz.underlying46 rfl hszf ?_))
       refine hmayc.mono ?_
       rintro e m1 ⟨rfl,hmb⟩
       have hzm := hz2.below hmb
       have hsm := hs2.below hmb
       have hCm := hC2.below hmb
       have hBm := below_next hB2 hmb
       have h17 := hCm.size17
       clear q0 q1
       go_wp2_with (first
         | ((with_reducible refine at_load ?_); refine wpList_load_row rfl 46 (.tmp 5) rfl b5 rfl 46 _ (0,0) _ hzm Tryz.underlying46 rfl hszf ?_)
         | ((with_reducible refine at_store ?_); refine wpList_store_row rfl 46 (.tmp 2) (.tmp 81) rfl w.heap.size arr rfl rfl 46 _ hsm hszf (by rw [h17]; rfl) honef ?_))
       refine bodyPost_ret (results_cell_slot Tryz.results44 _ _ w.heap.size 46 arr (0,0) _ _ rfl rfl (hsm.setRow _) Tryz.underlying46 rfl hszf) rfl ?_
       exact ⟨_,rfl,hCm.setRow hsm stZ_u8 _,below_setRow hBm (by omega) _⟩
     | on fl ge v0 n0 H0 s v L S P H2 h1 h2 h3 hm hL hS hP h4 =>
       clear hq'
       have hR2 : RdrAt wr (w.heap.size + 1) (1 :: (plainL s v L S P H2 ++ [])) := by
         have : restL (⟨0,0,fl,ge,v0,n0,some H0,0#32,0,none,true,s,v,L,S,P,some H2⟩ : SSt) 2 = 1 :: (plainL s v L S P H2 ++ []) := by simp [restL,nowL]
         rw [← this]
         exact hR
       go_wp2_with fail
       refine (ris_yes (w.heap.size + 1) _ _ hR2).mono ?_
       rintro e a1 ⟨rfl,hQ1,hG1⟩
       obtain ⟨rc,hrb,hru⟩ := hR.u8
       have hz1 := hz.fr hG1 hne5
       have hs1 := hs.fr hG1 hne
       have hC1 : StC a1 arr (offQ fl ge v0 n0 H0) := hC.fr hrb hru hG1
       have hB1 := hB.trans (hG1.below hB.size (fun g hg => by omega))
       clear hR hR2 hz hs hC hB hG1 hrb hru
       have hu1 := hC1.u8
       obtain ⟨y0,y1,y2,rfl,j0,j1,j2⟩ := hC1
       cases j1
       cases j2
       have c10 := hz1.cell (i := 10) (v := .bool false) rfl
       have f10 := hz1.free 10
       have hz2 := hz1.setCellAt 10 (.bool true) (cs' := steC 0 0 fl ge v0 n0 y0 0#32 0 (.slice none 0 0) true 0#32 0#32 0 0 0 (.slice none 0 0)) rfl
       have hs2 := hs1.other (a := ⟨b5,10,none⟩) hneb (.bool true)
       have j2 := j0.set hz1 hu1 10 (.bool true)
       have hQ2 := hQ1.fr hz1 hu1 (Ne.symm hne5) (Fr.set (S := (· = b5)) (Fr.refl _ a1) (p := ⟨b5,10,none⟩) (fun _ => rfl) (.bool true))
       have hB2 := hB1.setCell (p := ⟨b5,10,none⟩) (show w.heap.size ≤ b5 by omega) (.bool true)
       go_upto_region 10 with fail
       change Code.wp _ _ _ _ (a1.setCell ⟨b5,10,none⟩ (.bool true))
       generalize a1.setCell ⟨b5,10,none⟩ (.bool true) = a2 at *
       clear hz1 hs1 hQ1 hB1 c10 f10 j0
       obtain ⟨Y0,yn,yc,rfl⟩ := j2.form
       have hu2 : ∀ (i y : Nat),(steC 0 0 fl ge v0 n0 (.slice Y0 yn yc) 0#32 0 (.slice none 0 0) true 0#32 0#32 0 0 0 (.slice none 0 0))[i]? ≠ some (.int .u8 (y : Int)) := fun i y => stArr_u8 ⟨0,0,fl,ge,v0,n0,none,0#32,0,none,true,0#32,0#32,0,0,0,none⟩ _ _ _ _ _ _ _ _ _ i y
       have c10 := hz2.cell (i := 10) (v := .bool true) rfl
       have hpl : (plainL s v L S P H2).length = 44 := by rw [plainL_len,h4]
       have hpm := plainL_m s v L S P H2 hL hS hP h4
       have Hpl := hide hpl
       have Hpm := hide hpm
       clear hpl hpm
       go_wp2_with fail
       refine Calls.mono (show Calls Tryz.prog 100 #[.pointer (some ⟨w.heap.size + 1,0,none⟩),.int .i64 44] a2 _ from rsome (w.heap.size + 1) 44 _ _ a2 Hpl.out (by omega) hQ2) ?_
       rintro e a4 ⟨D,dd,rfl,hoD,hQ4,hG4⟩
       obtain ⟨rc,hrb,hru⟩ := hQ2.u8
       have hz4 := hz2.fr hG4 hne5
       have hs4 := hs2.fr hG4 hne
       have j4 := j2.fr hG4 (fun A n c ad hx hA he => by
         obtain ⟨A',c',e1,e2⟩ := j2
         cases hx.symm.trans e1
         exact e2.apart hrb hru (by omega) ad hA he)
       have hB4 := hB2.trans (hG4.below hB2.size (fun g hg => by omega))
       clear hQ2 hz2 hs2 j2 hB2 hG4 hrb hru c10
       go_wp2_with fail
       refine (manread_any D dd _ a4 hoD.rd).mono ?_
       rintro e a5 ⟨MH,md,hor,hoM,hb5m⟩
       rw [Hpm.out.1,Hpm.out.2.1,Hpm.out.2.2.1,Hpm.out.2.2.2.1,Hpm.out.2.2.2.2.1] at hor
       rw [Hpm.out.2.2.2.2.2] at hoM
       rcases hor with ⟨_,rfl⟩ | ⟨hno,_⟩
       case inr => rw [hm] at hno; cases hno
       have hz5 := hz4.below hb5m
       have hs5 := hs4.below hb5m
       have j5 := j4.below hb5m
       have hQ5 := hQ4.below hb5m
       have hB5 := below_next hB4 hb5m
       have hlt5 := hz5.lt
       have hszm := size44 s v L S P (.slice MH 32 md)
       have hzn : Blk (a5.alloc (.cells (manC 0#32 0#32 0 0 0 (.slice none 0 0)) 44)) a5.heap.size (manC 0#32 0#32 0 0 0 (.slice none 0 0)) 44 := Blk.new _ _ _
       have hz6 := hz5.alloc (.cells (manC 0#32 0#32 0 0 0 (.slice none 0 0)) 44)
       have hs6 := hs5.alloc (.cells (manC 0#32 0#32 0 0 0 (.slice none 0 0)) 44)
       have hal := below_alloc1 a5 (.cells (manC 0#32 0#32 0 0 0 (.slice none 0 0)) 44)
       have j6 := j5.below hal
       have hQ6 := hQ5.below hal
       have hM6 := hoM.rd.below hal
       have hB6 := ba hB5 (.cells (manC 0#32 0#32 0 0 0 (.slice none 0 0)) 44)
       have hmu : ∀ (i y : Nat),(manC 0#32 0#32 0 0 0 (.slice none 0 0))[i]? ≠ some (.int .u8 (y : Int)) := by
         intro i y
         unfold manC
         match i with
         | 0 | 1 | 2 | 3 | 4 | 5 => simp
         | k + 6 => simp
       have hlQ := hQ5.lt
       have hzn7 := hzn.setRow (manC s v L S P (.slice MH 32 md))
       have hz7 := hz6.setRow_other (k := a5.heap.size) (by omega) (manC s v L S P (.slice MH 32 md))
       have hs7 := hs6.setRow_other (k := a5.heap.size) (by omega) (manC s v L S P (.slice MH 32 md))
       have j7 := j6.setRow hzn hmu (manC s v L S P (.slice MH 32 md))
       have hQ7 := hQ6.fr hzn hmu (by omega) (fr_setRow _ a5.heap.size (manC s v L S P (.slice MH 32 md)))
       have hM7 := hM6.fr (fr_setRow _ a5.heap.size (manC s v L S P (.slice MH 32 md))) (fun hn ad hA => hM6.apart hzn hmu hn ad hA)
       have hB7 := below_setRow hB6 (g := a5.heap.size) (by omega) (manC s v L S P (.slice MH 32 md))
       clear hz4 hs4 j4 hQ4 hB4 hb5m hz5 hs5 j5 hQ5 hB5 hz6 hs6 hal j6 hQ6 hM6 hB6 hoD
       go_upto_region 13 with (first
         | ((with_reducible refine at_store ?_); refine wpList_store_row rfl 44 (.tmp 8) (.tmp 51) rfl a5.heap.size (manC s v L S P (.slice MH 32 md)) rfl rfl 44 _ hzn hszm rfl (one44 _ _ _ _ _ _ _ _) ?_))
       change Code.wp _ _ _ _ (World.setRow (a5.alloc (.cells (manC 0#32 0#32 0 0 0 (.slice none 0 0)) 44)) a5.heap.size (manC s v L S P (.slice MH 32 md)))
       generalize World.setRow (a5.alloc (.cells (manC 0#32 0#32 0 0 0 (.slice none 0 0)) 44)) a5.heap.size (manC s v L S P (.slice MH 32 md)) = a7 at *
       have hz9 := hz7.setRow (stArr (onQ fl ge v0 n0 H0 s v L S P H2) (.slice Y0 yn yc) (.slice none 0 0) (.slice MH 32 md))
       have hs9 := hs7.setRow_other (k := b5) hneb (stArr (onQ fl ge v0 n0 H0 s v L S P H2) (.slice Y0 yn yc) (.slice none 0 0) (.slice MH 32 md))
       have j9 := j7.setRow hz7 hu2 (stArr (onQ fl ge v0 n0 H0 s v L S P H2) (.slice Y0 yn yc) (.slice none 0 0) (.slice MH 32 md))
       have hM9 := HSt.setRow (H := some H2) ⟨MH,md,rfl,hM7⟩ hz7 hu2 (stArr (onQ fl ge v0 n0 H0 s v L S P H2) (.slice Y0 yn yc) (.slice none 0 0) (.slice MH 32 md))
       have hQ9 := hQ7.fr hz7 hu2 (Ne.symm hne5) (fr_setRow a7 b5 (stArr (onQ fl ge v0 n0 H0 s v L S P H2) (.slice Y0 yn yc) (.slice none 0 0) (.slice MH 32 md)))
       have hB9 := below_setRow hB7 (g := b5) (by omega) (stArr (onQ fl ge v0 n0 H0 s v L S P H2) (.slice Y0 yn yc) (.slice none 0 0) (.slice MH 32 md))
       go_upto_region 15 with (first
         | ((with_reducible refine at_load ?_); refine wpList_load_row rfl 44 (.tmp 8) rfl a5.heap.size rfl 44 _ (0,0) _ hzn7 Tryz.underlying44 rfl hszm ?_)
         | ((with_reducible refine at_store ?_); refine wpList_store_part rfl 44 (.tmp 56) (.tmp 55) rfl b5 11 (manC s v L S P (.slice MH 32 md)) rfl rfl 46 _ (stArr (onQ fl ge v0 n0 H0 s v L S P H2) (.slice Y0 yn yc) (.slice none 0 0) (.slice MH 32 md)) hz7 hszm (by simp [manC,steC]) rfl (one44 _ _ _ _ _ _ _ _) ?_))
       change Code.wp _ _ _ _ (World.setRow a7 b5 (stArr (onQ fl ge v0 n0 H0 s v L S P H2) (.slice Y0 yn yc) (.slice none 0 0) (.slice MH 32 md)))
       generalize World.setRow a7 b5 (stArr (onQ fl ge v0 n0 H0 s v L S P H2) (.slice Y0 yn yc) (.slice none 0 0) (.slice MH 32 md)) = a9 at *
       have hC9 : StC a9 (stArr (onQ fl ge v0 n0 H0 s v L S P H2) (.slice Y0 yn yc) (.slice none 0 0) (.slice MH 32 md)) (onQ fl ge v0 n0 H0 s v L S P H2) := ⟨_,_,_,rfl,j9,rfl,hM9⟩
       clear hz7 hs7 j7 hQ7 hM7 hB7 hzn hzn7 j9 hM9
       obtain ⟨RA,rc,hrb,hrd⟩ := hQ9
       have q0 := hrb.cell (i := 0) (v := .slice RA 0 rc) rfl
       have q1 := hrb.cell (i := 1) (v := .int .i64 0) rfl
       have hmayc := stmay_st _ hq _ a9 hC9
       have hszf := hC9.size
       have honef := hC9.one
       go_wp2_with (first
         | ((with_reducible refine at_load ?_); refine wpList_load_row_w rfl 46 (.tmp 5) rfl b5 rfl 46 _ (0,0) _ hz9 Tryz.underlying46 rfl hszf ?_))
       refine hmayc.mono ?_
       rintro e m1 ⟨rfl,hmb⟩
       have hzm := hz9.below hmb
       have hsm := hs9.below hmb
       have hCm := hC9.below hmb
       have hBm := below_next hB9 hmb
       have h17 := hCm.size17
       clear q0 q1
       go_wp2_with (first
         | ((with_reducible refine at_load ?_); refine wpList_load_row rfl 46 (.tmp 5) rfl b5 rfl 46 _ (0,0) _ hzm Tryz.underlying46 rfl hszf ?_)
         | ((with_reducible refine at_store ?_); refine wpList_store_row rfl 46 (.tmp 2) (.tmp 81) rfl w.heap.size (stArr (onQ fl ge v0 n0 H0 s v L S P H2) (.slice Y0 yn yc) (.slice none 0 0) (.slice MH 32 md)) rfl rfl 46 _ hsm hszf (by rw [h17]; rfl) honef ?_))
       refine bodyPost_ret (results_cell_slot Tryz.results44 _ _ w.heap.size 46 (stArr (onQ fl ge v0 n0 H0 s v L S P H2) (.slice Y0 yn yc) (.slice none 0 0) (.slice MH 32 md)) (0,0) _ _ rfl rfl (hsm.setRow _) Tryz.underlying46 rfl hszf) rfl ?_
       exact ⟨_,rfl,hCm.setRow hsm stZ_u8 _,below_setRow hBm (by omega) _⟩
end Go.Proofs.YtkkcpblfheplaaaGreatDoor
