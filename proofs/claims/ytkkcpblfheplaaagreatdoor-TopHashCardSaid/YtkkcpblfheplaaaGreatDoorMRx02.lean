/- Contracts of functions that the laws of downpourtop reach, and plain facts; no condition beyond what each theorem states. -/
import Derived.Test.YtkkcpblfheplaaaGreatDoorMRx01
set_option maxRecDepth 100000
set_option maxHeartbeats 8000000
set_option linter.all false
namespace Go.Proofs.YtkkcpblfheplaaaGreatDoor
open Go.RowKit
abbrev ByAt (ad : Addr) (x y : UInt8) (w1 w' : World) : Prop :=
 (w'.cell? ⟨ad.block,ad.off + 10,none⟩ = some (.int .u8 x.toNat) ∧ w'.cell? ⟨ad.block,ad.off + 11,none⟩ = some (.int .u8 y.toNat)) ∧ Below w1.heap.size w1 w'
def rdE (l : List UInt8) : Int := if manOk (mL l) (mZ l) (mP l) = true then 0 else 3
def manZ : Array Value := #[.int .u32 0,.int .u32 0,.int .i64 0,.int .i64 0,.int .i64 0,.slice none 0 0]
theorem cellA (w : World) (o : Obj) (cs : Array Value) (t : TypeId) (i : Nat) (v : Value) (h : cs[i]? = some v) : ((w.alloc (.cells cs t)).alloc o).cell? ⟨w.heap.size,i,none⟩ = some v := by
 rw [cell_of_row _ _ _ _ _ _ (heap_alloc2_old w _ _),h]
theorem manZ_set6 (W : World) (g : Nat) (h : Blk W g manZ 44) (u0 u1 u2 u3 u4 u5 : Value) : Blk ((((((W.setCell ⟨g,0,none⟩ u0).setCell ⟨g,1,none⟩ u1).setCell ⟨g,2,none⟩ u2).setCell ⟨g,3,none⟩ u3).setCell ⟨g,4,none⟩ u4).setCell ⟨g,5,none⟩ u5) g #[u0,u1,u2,u3,u4,u5] 44 :=
 (((((h.set 0 u0).set 1 u1).set 2 u2).set 3 u3).set 4 u4).set 5 u5
theorem rread_any (A : Option Addr) (c : Nat) (l : List UInt8) (w : World) (hr : Rd w A 44 c l) :
   Calls Tryz.prog 77 #[.slice A 44 c] w fun e w' => ∃ s v L S P H n d,e = .returned (.tuple #[.agg (manC s v L S P (.slice H n d)),.int .i64 (rdE l)]) ∧ Below w.heap.size w w' := by
 obtain ⟨ad,x,rfl,hx,hcx⟩ := hr.at_ (k := 10) (by omega)
 obtain ⟨ad',y,e,hy,hcy⟩ := hr.at_ (k := 11) (by omega)
 cases e
 have hcx : w.cell? ⟨ad.block,ad.off + 10,none⟩ = some (.int .u8 x.toNat) := hcx
 have hcy : w.cell? ⟨ad.block,ad.off + 11,none⟩ = some (.int .u8 y.toNat) := hcy
 have hZ : Hid (mZ l = x.toNat) := hide (by unfold mZ; rw [List.getD_eq_getElem?_getD,hx]; rfl)
 have hP : Hid (mP l = y.toNat) := hide (by unfold mP; rw [List.getD_eq_getElem?_getD,hy]; rfl)
 have hcap := hr.2.1
 have hcap' : (44 : Int) ≤ (c : Int) := by omega
 have h0 := hr.hi (k := 4) (by omega)
 have h4 : Rd w (some ⟨ad.block,ad.off + 4,none⟩) 4 (c - 4) ((l.drop 4).take 4) := hr.mid (k := 4) (m := 4) (by omega) (by omega)
 have h8 : Rd w (some ⟨ad.block,ad.off + 8,none⟩) 2 (c - 8) ((l.drop 8).take 2) := hr.mid (k := 8) (m := 2) (by omega) (by omega)
 have h12 : Rd w (some ⟨ad.block,ad.off + 12,none⟩) 32 (c - 12) (l.drop 12) := hr.lo_ne (k := 12) (by omega) (by omega)
 have hne : ¬ (c = 12) := by omega
 have hne4 : ¬ (c = 4) := by omega
 have hne8 : ¬ (c = 8) := by omega
 have hc4 : (4 : Int) ≤ (c : Int) := by omega
 have hc8 : (8 : Int) ≤ (c : Int) := by omega
 have hc10 : (10 : Int) ≤ (c : Int) := by omega
 have hc12 : (12 : Int) ≤ (c : Int) := by omega
 have hz0 : Blk (w.alloc (.cells (manC 0#32 0#32 0 0 0 (.slice none 0 0)) 44)) w.heap.size (manC 0#32 0#32 0 0 0 (.slice none 0 0)) 44 := Blk.new _ _ _
 have hB0 : Below w.heap.size w (w.alloc (.cells (manC 0#32 0#32 0 0 0 (.slice none 0 0)) 44)) := (Below.refl _ _).alloc (Nat.le_refl _) _
 have bx := x.toNat_lt
 have by_ := y.toNat_lt
 have hl12 : Hid ((l.drop 12).length = 32) := hide h12.1
 clear hx hy
 go_enter Tryz.func77,Tryz.ntmps77
 go_wp2_with fail
 change Code.wp _ _ _ _ (w.alloc (.cells (manC 0#32 0#32 0 0 0 (.slice none 0 0)) 44))
 have hcx0 : (w.alloc (.cells (manC 0#32 0#32 0 0 0 (.slice none 0 0)) 44)).cell? ⟨ad.block,ad.off + 10,none⟩ = some (.int .u8 x.toNat) := (World.cell?_alloc_past _ _ _ (World.block_lt_of_cell? w _ hcx)).trans hcx
 have hcy0 : (w.alloc (.cells (manC 0#32 0#32 0 0 0 (.slice none 0 0)) 44)).cell? ⟨ad.block,ad.off + 11,none⟩ = some (.int .u8 y.toNat) := (World.cell?_alloc_past _ _ _ (World.block_lt_of_cell? w _ hcy)).trans hcy
 have h0' := h0.below hB0
 have h4' := h4.below hB0
 have h8' := h8.below hB0
 have h12' := h12.below hB0
 have hlt0 : w.heap.size < (w.alloc (.cells (manC 0#32 0#32 0 0 0 (.slice none 0 0)) 44)).heap.size := by simp
 generalize w.alloc (.cells (manC 0#32 0#32 0 0 0 (.slice none 0 0)) 44) = w0 at *
 clear h0 h4 h8 h12 hcx hcy hr
 have hPA : ∀ a,Below w0.heap.size w0 a → ByAt ad x y w0 a := fun a k => ⟨⟨(k.cell (World.block_lt_of_cell? w0 _ hcx0)).trans hcx0,(k.cell (World.block_lt_of_cell? w0 _ hcy0)).trans hcy0⟩,k⟩
 have hS0 := hPA w0.drew (Below.refl _ _).drew
 have hS3 : True := trivial
 have hbk : True := trivial
 have hzf : ∀ (W : World) (g : Nat),Blk W g manZ 44 → (W.cell? ⟨g,0,none⟩ = some (.int .u32 0) ∧ W.cell? ⟨g,1,none⟩ = some (.int .u32 0) ∧ W.cell? ⟨g,2,none⟩ = some (.int .i64 0) ∧ W.cell? ⟨g,3,none⟩ = some (.int .i64 0) ∧ W.cell? ⟨g,4,none⟩ = some (.int .i64 0) ∧ W.cell? ⟨g,5,none⟩ = some (.slice none 0 0)) ∧ (W.frozen? ⟨g,0,none⟩ = false ∧ W.frozen? ⟨g,1,none⟩ = false ∧ W.frozen? ⟨g,2,none⟩ = false ∧ W.frozen? ⟨g,3,none⟩ = false ∧ W.frozen? ⟨g,4,none⟩ = false ∧ W.frozen? ⟨g,5,none⟩ = false) := fun W g h =>
   ⟨⟨h.cell rfl,h.cell rfl,h.cell rfl,h.cell rfl,h.cell rfl,h.cell rfl⟩,⟨h.free _,h.free _,h.free _,h.free _,h.free _,h.free _⟩⟩
 have Hzf := hide hzf
 have hcs : Hid (∀ (W : World) (g : Nat) (H : Option Addr) (cp : Nat),Blk W g #[Value.int .u32 (V (numB (l.take 4))),.int .u32 (V (numB ((l.drop 4).take 4))),.int .i64 (IntKind.i64.wrap (V (numB ((l.drop 8).take 2)))),.int .i64 (IntKind.i64.wrap (x.toNat : Int)),.int .i64 (IntKind.i64.wrap (y.toNat : Int)),.slice H 32 cp] 44 → Blk W g (manC (mS l) (mV l) (mL l) (mZ l) (mP l) (.slice H 32 cp)) 44) := hide (by
   intro W g H cp h
   have hb := V_bd (numB ((l.drop 8).take 2))
   have e1 : IntKind.i64.wrap (V (numB ((l.drop 8).take 2))) = V (numB ((l.drop 8).take 2)) := by rw [IntKind.wrap_i64]; omega
   have e2 : IntKind.i64.wrap (x.toNat : Int) = (x.toNat : Int) := by rw [IntKind.wrap_i64]; omega
   have e3 : IntKind.i64.wrap (y.toNat : Int) = (y.toNat : Int) := by rw [IntKind.wrap_i64]; omega
   rw [e1,e2,e3] at h
   rw [manC,hZ.out,hP.out]
   exact h)
 have hA1 := fun o => hPA (w0.alloc o).drew (below_alloc1 w0 o).drew
 have hA2 := fun o o' => hPA ((w0.alloc o).alloc o').drew (below_next (below_alloc1 w0 o) (below_alloc1 _ o')).drew
 clear hzf
 go_cut [4] (fun p wx => ∃ g s v L S P H n d,p = .pointer (some ⟨g,0,none⟩) ∧ Hid (L = mL l ∧ S = mZ l ∧ P = mP l ∧ n = 32) ∧ Blk wx g (manC s v L S P (.slice H n d)) 44 ∧ Below w0.heap.size w0 wx)
 case first =>
   go_region_held3 (fun w' => (w'.cell? ⟨ad.block,ad.off + 10,none⟩ = some (.int .u8 x.toNat) ∧ w'.cell? ⟨ad.block,ad.off + 11,none⟩ = some (.int .u8 y.toNat)) ∧ Below w0.heap.size w0 w')
     (first | (with_reducible exact hS0) | (with_reducible exact hS3) | (with_reducible exact hA1 _) | (with_reducible exact hA2 _ _) | (with_reducible exact hA3 _) | ((with_reducible refine hA6 _ ?_ _ _ _ _ _ _); omega))
     (first
       | (go_at_call 57; first
           | ((with_reducible refine (refnum_any (some ad) 4 c (l.take 4) _ (h0'.below (show ByAt ad x y w0 _ by assumption).2) (by omega)).mono ?_); rintro e w' ⟨rfl,rfl⟩)
           | ((with_reducible refine (refnum_any (some ⟨ad.block,ad.off + 4,none⟩) 4 (c - 4) ((l.drop 4).take 4) _ (h4'.below (show ByAt ad x y w0 _ by assumption).2) (by omega)).mono ?_); rintro e w' ⟨rfl,rfl⟩)
           | ((with_reducible refine (refnum_any (some ⟨ad.block,ad.off + 8,none⟩) 2 (c - 8) ((l.drop 8).take 2) _ (h8'.below (show ByAt ad x y w0 _ by assumption).2) (by omega)).mono ?_); rintro e w' ⟨rfl,rfl⟩))
       | (go_at_call 75
          have hq := (show ByAt ad x y w0 _ by assumption).2
          (refine (join_as _ 1 1 32 [l.drop 12] (l.drop 12) _ (by simp) hl12.out (rdl_one (by first | exact cell1 _ _ _ 0 _ rfl | exact cell2 _ _ _ _ 0 _ rfl | exact cellA _ _ _ _ 0 _ rfl) (h12'.below hq)) (by omega)).mono ?_)
          rintro e w3 ⟨A3,c3,rfl,ho3,hb3⟩
          have hB3 := below_next hq hb3
          have hS3 := hPA w3 hB3
          have hA3 := fun o => hPA (w3.alloc o) (below_next hB3 (below_alloc1 w3 o))
          have hA6 := fun (g : Nat) (hg : w0.heap.size ≤ g) u0 u1 u2 u3 u4 u5 => hPA _ ((((((hB3.setCell (p := ⟨g,0,none⟩) hg u0).setCell (p := ⟨g,1,none⟩) hg u1).setCell (p := ⟨g,2,none⟩) hg u2).setCell (p := ⟨g,3,none⟩) hg u3).setCell (p := ⟨g,4,none⟩) hg u4).setCell (p := ⟨g,5,none⟩) hg u5)
          first
            | (have hbk0 := hide (Blk.below (show Blk ((w0.alloc _).alloc _).drew w0.heap.size manZ 44 from Blk.alloc (Blk.new w0 _ _) _) hb3)
               have hbk := Hzf.out w3 w0.heap.size hbk0.out)
            | (have hbk0 := hide (Blk.below (show Blk ((w0.alloc _).alloc _).drew (w0.heap.size + 1) manZ 44 from heap_alloc2_new w0 _ _) hb3)
               have hbk := Hzf.out w3 (w0.heap.size + 1) hbk0.out)
            | skip))
   all_goals
     go_wp2_with fail
     go_meet
     refine ⟨_,mS l,mV l,mL l,mZ l,mP l,A3,32,c3,rfl,hide ⟨rfl,rfl,rfl,rfl⟩,?_,(show ByAt ad x y w0 _ by assumption).2⟩
     first
       | (with_reducible exact hcs.out _ _ _ _ (manZ_set6 _ _ hbk0.out _ _ _ _ _ _))
       | (with_reducible exact hcs.out _ _ _ _ (Blk.new w3 _ _))
 case rest =>
   obtain ⟨g,s,v,L,S,P,H,n',d,rfl,hLSP,hblk,hB⟩ := hcut
   have hzc := hz0.below (hB.mono (Nat.le_refl _))
   have hBw : Below w.heap.size w wc := below_next hB0 hB
   have hsz := size44 s v L S P (.slice H n' d)
   have hszz := size44 0#32 0#32 0 0 0 (.slice none 0 0)
   have hL : L ≤ 1000000 := by have := mL_lt l; have := hLSP.out; omega
   have hS : S ≤ 1000000 := by have := hZ.out; have := hLSP.out; omega
   have hmo : Hid (manOk L S P = manOk (mL l) (mZ l) (mP l)) := hide (by rw [hLSP.out.1,hLSP.out.2.1,hLSP.out.2.2.1])
   have hn32 : n' = 32 := hLSP.out.2.2.2
   subst hn32
   clear hcs hl12 h0' h4' h8' h12' hcx0 hcy0 hZ hP hz0 hPA hS0 hA1 hA2 Hzf
   go_wp2_with (first
     | ((with_reducible refine at_load ?_); refine wpList_load_row rfl 44 (.tmp 4) rfl g rfl 44 (manC s v L S P (.slice H 32 d)) (0,0) _ hblk Tryz.underlying44 rfl hsz ?_))
   refine (rmaym_any s v L S P H 32 d _ hL hS).mono ?_
   rintro e w1 ⟨rfl,hb1⟩
   have hblk1 := hblk.below hb1
   have hzc1 := hzc.below hb1
   have hB1 := below_next hBw hb1
   rcases Bool.eq_false_or_eq_true (manOk L S P) with hm | hm
   · have Hm : Hid (rdE l = 0) := hide (by unfold rdE; rw [← hmo.out,if_pos hm])
     rw [hm]
     clear hm
     go_wp2_with (first
       | ((with_reducible refine at_load ?_); refine wpList_load_row rfl 44 (.tmp 4) rfl g rfl 44 (manC s v L S P (.slice H 32 d)) (0,0) _ hblk1 Tryz.underlying44 rfl hsz ?_)
       | ((with_reducible refine at_store ?_); refine wpList_store_row rfl 44 (.tmp 2) (.tmp 36) rfl w.heap.size (manC s v L S P (.slice H 32 d)) rfl rfl 44 (manC 0#32 0#32 0 0 0 (.slice none 0 0)) hzc1 hsz rfl (one44 _ _ _ _ _ _ _ _) ?_))
     refine bodyPost_ret (results_cell_slot Tryz.results77 _ _ w.heap.size 44 (manC s v L S P (.slice H 32 d)) (0,0) _ _ rfl rfl (setRow_heap _ _ _ _ _ _ hzc1) Tryz.underlying44 rfl hsz) rfl ?_
     exact ⟨s,v,L,S,P,H,32,d,by rw [Hm.out]; rfl,below_setRow hB1 (Nat.le_refl _) _⟩
   · have Hm : Hid (rdE l = 3) := hide (by unfold rdE; rw [← hmo.out,hm]; rfl)
     rw [hm]
     clear hm
     go_wp2_with (first
       | ((with_reducible refine at_build ?_); refine wpList_build_as rfl 44 #[] rfl (manC 0#32 0#32 0 0 0 (.slice none 0 0)) (by kernel_rfl) ?_)
       | ((with_reducible refine at_store ?_); refine wpList_store_row rfl 44 (.tmp 2) (.tmp 35) rfl w.heap.size (manC 0#32 0#32 0 0 0 (.slice none 0 0)) rfl rfl 44 (manC 0#32 0#32 0 0 0 (.slice none 0 0)) hzc1 hszz rfl (one44 _ _ _ _ _ _ _ _) ?_))
     refine bodyPost_ret (results_cell_slot Tryz.results77 _ _ w.heap.size 44 (manC 0#32 0#32 0 0 0 (.slice none 0 0)) (0,0) _ _ rfl rfl (setRow_heap _ _ _ _ _ _ hzc1) Tryz.underlying44 rfl hszz) rfl ?_
     exact ⟨0#32,0#32,0,0,0,none,0,0,by rw [Hm.out]; rfl,below_setRow hB1 (Nat.le_refl _) _⟩
end Go.Proofs.YtkkcpblfheplaaaGreatDoor
