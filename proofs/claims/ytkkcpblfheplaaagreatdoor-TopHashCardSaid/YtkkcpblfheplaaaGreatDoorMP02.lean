/- Contracts of functions that the laws of downpourtop reach, and plain facts; no condition beyond what each theorem states. -/
import Derived.Test.YtkkcpblfheplaaaGreatDoorMD08
set_option maxRecDepth 100000
set_option maxHeartbeats 8000000
set_option linter.all false
namespace Go.Proofs.YtkkcpblfheplaaaGreatDoor
open Go.RowKit
theorem newer_off (fl ge v0 v : BitVec 32) (n0 : Nat) (H0 : List UInt8) (hq : (offQ fl ge v0 n0 H0).Ok) (st : Array Value) (w : World) (h : StC w st (offQ fl ge v0 n0 H0)) (h1 : fl.toNat < v.toNat) (h2 : v0.toNat < v.toNat) :
   Calls Tryz.prog 133 #[.agg st,.int .u32 (V v)] w fun e w' => e = .returned (.bool true) ∧ Below w.heap.size w w' := by
 have hsz := h.size
 have hz0 : Blk (w.alloc (.cells st 46)) w.heap.size st 46 := Blk.new _ _ _
 have hB0 : Below w.heap.size w (w.alloc (.cells st 46)) := below_alloc1 _ _
 have hC := h.below hB0
 have d1 : decide (V fl < V v) = true := by unfold V; simp; omega
 have d2 : decide (V v0 < V v) = true := by unfold V; simp; omega
 go_enter Tryz.func133,Tryz.ntmps133
 go_wp2_with (first
   | ((with_reducible refine at_load ?_); refine wpList_load_row rfl 46 (.tmp 2) rfl w.heap.size rfl 46 st (0,0) _ hz0 Tryz.underlying46 rfl hsz ?_))
 refine (stmay_st _ hq st _ hC).mono ?_
 rintro e w1 ⟨rfl,hb1⟩
 have hz1 := hz0.below hb1
 have hB1 := below_next hB0 hb1
 obtain ⟨x0,x1,x2,rfl,k0,k1,k2⟩ := h
 have c0 := hz1.cell (i := 0) (v := .int .i64 0) rfl
 have c2 := hz1.cell (i := 2) (v := .int .u32 (V fl)) rfl
 have c4 := hz1.cell (i := 4) (v := .int .u32 (V v0)) rfl
 have c10 := hz1.cell (i := 10) (v := .bool false) rfl
 clear hz0 hB0 hC hb1 hsz hz1
 go_wp2_with fail
 go_ret
 exact ⟨rfl,hB1⟩
theorem admit_off (fl ge v0 s v : BitVec 32) (n0 L S P : Nat) (H0 H2 : List UInt8) (hq : (offQ fl ge v0 n0 H0).Ok) (st : Array Value) (B : Option Addr) (d : Nat) (w : World) (h : StC w st (offQ fl ge v0 n0 H0)) (hr : Rd w B 32 d H2)
   (h1 : fl.toNat < v.toNat) (h2 : v0.toNat < v.toNat) (hg : ge.toNat < 4294967294) (hm : manOk L S P = true) (hL : L ≤ 1000000) (hS : S ≤ 1000000) :
   Calls Tryz.prog 83 #[.agg st,.agg (manC s v L S P (.slice B 32 d))] w fun e w' => ∃ st',e = .returned (.tuple #[.agg st',.int .i64 0]) ∧ StC w' st' (onQ fl (ge + 1#32) v0 n0 H0 s v L S P H2) ∧ Below w.heap.size w w' ∧ StF w.heap.size st' := by
 have hsz := h.size
 have hszm := size44 s v L S P (.slice B 32 d)
 obtain ⟨w0,hw0⟩ : ∃ w0,((w.alloc (.cells st 46)).alloc (.cells (manC s v L S P (.slice B 32 d)) 44)).alloc (.cells stZ 46) = w0 := ⟨_,rfl⟩
 have hz0 : Blk w0 w.heap.size st 46 := by rw [← hw0]; exact alloc3_old w _ _ _
 have hzm : Blk w0 (w.heap.size + 1) (manC s v L S P (.slice B 32 d)) 44 := by rw [← hw0]; exact alloc3_mid w _ _ _
 have hz1 : Blk w0 (w.heap.size + 1 + 1) stZ 46 := by rw [← hw0]; exact alloc3_new w _ _ _
 have hB0 : Below w.heap.size w w0 := by rw [← hw0]; exact ba (ba (below_alloc1 _ _) _) _
 have hC := h.below hB0
 have hr0 := hr.below hB0
 have hnew := fun w hC => newer_off fl ge v0 v n0 H0 hq st w hC h1 h2
 have hmm := fun w => may_any s v L S P B 32 d w hL hS
 rw [hm] at hmm
 have dg : decide (4294967294 ≤ V ge) = false := by unfold V; simp; omega
 have Hnew := hide hnew
 have Hmm := hide hmm
 clear hnew hmm hm
 unfold stZ at hw0
 have hgv : (V ge + 1) % (4294967296 : Int) = V (ge + 1#32) := V_succ ge
 have bg := V_bd ge
 go_enter Tryz.func83,Tryz.ntmps83
 go_upto_region 1 with fail
 change Code.wp _ _ _ _ (((w.alloc (.cells st 46)).alloc (.cells (manC s v L S P (.slice B 32 d)) 44)).alloc (.cells (steC 0 0 0#32 0#32 0#32 0 (.slice none 0 0) 0#32 0 (.slice none 0 0) false 0#32 0#32 0 0 0 (.slice none 0 0)) 46))
 rw [hw0]
 clear hw0
 go_wp2_with (first
   | ((with_reducible refine at_load ?_); refine wpList_load_row rfl 46 (.tmp 2) rfl w.heap.size rfl 46 st (0,0) _ hz0 Tryz.underlying46 rfl hsz ?_))
 refine (stmay_st _ hq st _ hC).mono ?_
 rintro e w1 ⟨rfl,hb1⟩
 have hz01 := hz0.below hb1
 have hzm1 := hzm.below hb1
 have hz11 := hz1.below hb1
 have hC1 := hC.below hb1
 have hr1 := hr0.below hb1
 have hB1 := below_next hB0 hb1
 clear hz0 hzm hz1 hC hr0 hB0 hb1
 have m0 := hzm1.cell (i := 0) (v := .int .u32 (V s)) rfl
 have m1 := hzm1.cell (i := 1) (v := .int .u32 (V v)) rfl
 have m2 := hzm1.cell (i := 2) (v := .int .i64 L) rfl
 have m3 := hzm1.cell (i := 3) (v := .int .i64 S) rfl
 have m4 := hzm1.cell (i := 4) (v := .int .i64 P) rfl
 have m5 := hzm1.cell (i := 5) (v := .slice B 32 d) rfl
 go_wp2_with fail
 refine (Hmm.out _).mono ?_
 rintro e w2 ⟨rfl,hb2⟩
 have hz0 := hz01.below hb2
 have hzm := hzm1.below hb2
 have hz1 := hz11.below hb2
 have hC := hC1.below hb2
 have hr2 := hr1.below hb2
 have hB2 := below_next hB1 hb2
 clear hz01 hzm1 hz11 hC1 hr1 hB1 hb2 m0 m1 m2 m3 m4 m5
 obtain ⟨x0,x1,x2,hst,k0,k1,k2⟩ := id hC
 have c1 := hz0.cell (i := 1) (v := .int .i64 0) (by rw [hst]; rfl)
 have c10 := hz0.cell (i := 10) (v := .bool false) (by rw [hst]; rfl)
 have cm1 := hzm.cell (i := 1) (v := .int .u32 (V v)) rfl
 have Hst := hide hst
 clear hst
 go_wp2_with (first
   | ((with_reducible refine at_load ?_); refine wpList_load_row rfl 46 (.tmp 2) rfl w.heap.size rfl 46 st (0,0) _ hz0 Tryz.underlying46 rfl hsz ?_))
 refine (Hnew.out _ hC).mono ?_
 rintro e w3 ⟨rfl,hb3⟩
 have hz03 := hz0.below hb3
 have hzm3 := hzm.below hb3
 have hz13 := hz1.below hb3
 have k03 := k0.below hb3
 have k13 := k1.below hb3
 have k23 := k2.below hb3
 have hr3 := hr2.below hb3
 have hB3 := below_next hB2 hb3
 rw [Hst.out] at hz03
 have c3 := hz03.cell (i := 3) (v := .int .u32 (V ge)) rfl
 clear hz0 hzm hz1 hC k0 k1 k2 hr2 hB2 hb3 c1 c10 cm1
 cases k23
 go_wp2_with fail
 clear c3
 go_loopw [44] (fun u wr => ∃ (k : Nat) (y0 y1 : Value),k ≤ 2 ∧ u = .int .i64 (k : Int) ∧ Blk wr w.heap.size (stArr (offQ fl ge v0 n0 H0) y0 y1 (.slice none 0 0)) 46 ∧ Blk wr (w.heap.size + 1) (manC s v L S P (.slice B 32 d)) 44 ∧ Blk wr (w.heap.size + 1 + 1) stZ 46 ∧ HSt wr y0 (some H0) ∧ HSt wr y1 none ∧ Rd wr B 32 d H2 ∧ Below w.heap.size w wr ∧ Hid (1 ≤ k → FrV w.heap.size y0)) (fun u _ => 2 - (intOf u).toNat)
 case atStart => exact ⟨0,x0,x1,by omega,rfl,hz03,hzm3,hz13,k03,k13,hr3,hB3,hide fun h => by omega⟩
 case round =>
   clear hz03 hzm3 hz13 k03 k13 hr3 hB3
   obtain ⟨k,y0,y1,hk,rfl,hz0,hzm,hz1,h2,h3,hr3,hB,hFR⟩ := hrel
   have hu : ∀ (i : Nat) (y : Nat),(stArr (offQ fl ge v0 n0 H0) y0 y1 (.slice none 0 0))[i]? ≠ some (.int .u8 (y : Int)) := fun i y => StC.u8 (w := wr) (q := offQ fl ge v0 n0 H0) ⟨y0,y1,_,rfl,h2,h3,rfl⟩ i y
   have hsr := hB.size
   match k,hk with
   | 0,_ =>
     have c6 := hz0.cell (i := 6) (v := y0) rfl
     go_wp2_with fail
     refine (clone_h y0 (some H0) _ h2).mono ?_
     rintro e w4 ⟨A,n,c,rfl,hx,hb1,hfr⟩
     have hz0' := hz0.below hb1
     have hzm' := hzm.below hb1
     have hz1' := hz1.below hb1
     have h3' := h3.below hb1
     have hr' := hr3.below hb1
     have hB1 := below_next hB hb1
     have c6' := hz0'.cell (i := 6) (v := y0) rfl
     have f6 := hz0'.free 6
     have hset := hz0'.setCellAt 6 (.slice A n c) (cs' := stArr (offQ fl ge v0 n0 H0) (.slice A n c) y1 (.slice none 0 0)) rfl
     clear hz0 hzm hz1 h2 h3 hB c6 hr3
     go_wp2_with fail
     go_roundw
     case rel => exact ⟨1,.slice A n c,y1,by omega,rfl,hset,hzm'.other (a := ⟨w.heap.size,6,none⟩) (show w.heap.size + 1 ≠ w.heap.size by omega) _,hz1'.other (a := ⟨w.heap.size,6,none⟩) (show w.heap.size + 1 + 1 ≠ w.heap.size by omega) _,hx.set hz0' hu 6 _,h3'.set hz0' hu 6 _,hr'.fr (Fr.set (S := (· = w.heap.size)) (Fr.refl _ _) (p := ⟨w.heap.size,6,none⟩) (fun _ => rfl) _) (fun hn ad hA => hr'.apart hz0' hu hn ad hA),hB1.setCell (p := ⟨w.heap.size,6,none⟩) (Nat.le_refl _) _,hide fun _ => FrV.mk fun ad hA => Nat.le_trans hsr (hfr ad hA)⟩
     case measure => simp [intOf]
   | 1,_ =>
     have c9 := hz0.cell (i := 9) (v := y1) rfl
     go_wp2_with fail
     refine (clone_h y1 none _ h3).mono ?_
     rintro e w4 ⟨A,n,c,rfl,hx,hb1,hfr⟩
     have hz0' := hz0.below hb1
     have hzm' := hzm.below hb1
     have hz1' := hz1.below hb1
     have h2' := h2.below hb1
     have hr' := hr3.below hb1
     have hB1 := below_next hB hb1
     have c9' := hz0'.cell (i := 9) (v := y1) rfl
     have f9 := hz0'.free 9
     have hset := hz0'.setCellAt 9 (.slice A n c) (cs' := stArr (offQ fl ge v0 n0 H0) y0 (.slice A n c) (.slice none 0 0)) rfl
     clear hz0 hzm hz1 h2 h3 hB c9 hr3
     go_wp2_with fail
     go_roundw
     case rel => exact ⟨2,y0,.slice A n c,by omega,rfl,hset,hzm'.other (a := ⟨w.heap.size,9,none⟩) (show w.heap.size + 1 ≠ w.heap.size by omega) _,hz1'.other (a := ⟨w.heap.size,9,none⟩) (show w.heap.size + 1 + 1 ≠ w.heap.size by omega) _,h2'.set hz0' hu 9 _,hx.set hz0' hu 9 _,hr'.fr (Fr.set (S := (· = w.heap.size)) (Fr.refl _ _) (p := ⟨w.heap.size,9,none⟩) (fun _ => rfl) _) (fun hn ad hA => hr'.apart hz0' hu hn ad hA),hB1.setCell (p := ⟨w.heap.size,9,none⟩) (Nat.le_refl _) _,hide fun _ => hFR.out (by omega)⟩
     case measure => simp [intOf]
   | 2,_ =>
     cases h3
     have c3 := hz0.cell (i := 3) (v := .int .u32 (V ge)) rfl
     have f3 := hz0.free 3
     have hset := hz0.setCellAt 3 (.int .u32 (V (ge + 1#32))) (cs' := stArr (offQ fl (ge + 1#32) v0 n0 H0) y0 (.slice none 0 0) (.slice none 0 0)) rfl
     have hzm' := hzm.other (a := ⟨w.heap.size,3,none⟩) (show w.heap.size + 1 ≠ w.heap.size by omega) (.int .u32 (V (ge + 1#32)))
     have hz1' := hz1.other (a := ⟨w.heap.size,3,none⟩) (show w.heap.size + 1 + 1 ≠ w.heap.size by omega) (.int .u32 (V (ge + 1#32)))
     have h2' := h2.set hz0 hu 3 (.int .u32 (V (ge + 1#32)))
     have hr' := hr3.fr (Fr.set (S := (· = w.heap.size)) (Fr.refl _ wr) (p := ⟨w.heap.size,3,none⟩) (fun _ => rfl) (.int .u32 (V (ge + 1#32)))) (fun hn ad hA => hr3.apart hz0 hu hn ad hA)
     have hB' := hB.setCell (p := ⟨w.heap.size,3,none⟩) (Nat.le_refl _) (.int .u32 (V (ge + 1#32)))
     go_upto_region 17 with fail
     change Code.wp _ _ _ _ (wr.setCell ⟨w.heap.size,3,none⟩ (.int .u32 (V (ge + 1#32))))
     generalize wr.setCell ⟨w.heap.size,3,none⟩ (.int .u32 (V (ge + 1#32))) = w5 at *
     clear hz0 hzm hz1 h2 hr3 hB c3 f3
     have m0 := hzm'.cell (i := 0) (v := .int .u32 (V s)) rfl
     have m1 := hzm'.cell (i := 1) (v := .int .u32 (V v)) rfl
     have m2 := hzm'.cell (i := 2) (v := .int .i64 L) rfl
     have m3 := hzm'.cell (i := 3) (v := .int .i64 S) rfl
     have m4 := hzm'.cell (i := 4) (v := .int .i64 P) rfl
     have m5 := hzm'.cell (i := 5) (v := .slice B 32 d) rfl
     have c10 := hset.cell (i := 10) (v := .bool false) rfl
     have c11 := hset.cell (i := 11) (v := .int .u32 0) rfl
     have c12 := hset.cell (i := 12) (v := .int .u32 0) rfl
     have c13 := hset.cell (i := 13) (v := .int .i64 0) rfl
     have c14 := hset.cell (i := 14) (v := .int .i64 0) rfl
     have c15 := hset.cell (i := 15) (v := .int .i64 0) rfl
     have c16 := hset.cell (i := 16) (v := .slice none 0 0) rfl
     have f10 := hset.free 10
     have f11 := hset.free 11
     have f12 := hset.free 12
     have f13 := hset.free 13
     have f14 := hset.free 14
     have f15 := hset.free 15
     have f16 := hset.free 16
     go_cut [] (fun wx => Blk wx w.heap.size (steC 0 0 fl (ge + 1#32) v0 n0 y0 0#32 0 (.slice none 0 0) true s v L S P (.slice B 32 d)) 46 ∧ Fr (· = w.heap.size) w5 wx)
     case first =>
       go_region_held3 (fun w' => w'.cell? ⟨w.heap.size + 1,0,none⟩ = some (.int .u32 (V s)) ∧ w'.cell? ⟨w.heap.size + 1,1,none⟩ = some (.int .u32 (V v)) ∧ w'.cell? ⟨w.heap.size + 1,2,none⟩ = some (.int .i64 L) ∧ w'.cell? ⟨w.heap.size + 1,3,none⟩ = some (.int .i64 S) ∧ w'.cell? ⟨w.heap.size + 1,4,none⟩ = some (.int .i64 P) ∧ w'.cell? ⟨w.heap.size + 1,5,none⟩ = some (.slice B 32 d)) (go_keep) (fail)
       all_goals
         go_wp2_with fail
         go_meet
         refine ⟨(((((((hset.set 10 _).set 11 _).set 12 _).set 13 _).set 14 _).set 15 _).set 16 _).drew,?_⟩
         refine Fr.drew ?_
         repeat (refine Fr.set (S := (· = w.heap.size)) ?_ (fun _ => rfl) _)
         exact Fr.refl _ _
     case rest =>
       obtain ⟨hb6,hF6⟩ := hcut
       have hzm6 := hzm'.fr hF6 (by omega)
       have hz16 := hz1'.fr hF6 (by omega)
       have h26 := h2'.fr hF6 (fun A n c ad hx hA he => by
         cases H : h2' with
         | intro A' H' =>
           obtain ⟨c',e1,e2⟩ := H'
           rw [hx] at e1
           cases e1
           exact e2.apart hset (fun i y => StC.u8 (w := w5) (q := offQ fl (ge + 1#32) v0 n0 H0) ⟨y0,_,_,rfl,h2',rfl,rfl⟩ i y) (by omega) ad hA he)
       have hu5 : ∀ (i : Nat) (y : Nat),(stArr (offQ fl (ge + 1#32) v0 n0 H0) y0 (.slice none 0 0) (.slice none 0 0))[i]? ≠ some (.int .u8 (y : Int)) := fun i y => StC.u8 (w := w5) (q := offQ fl (ge + 1#32) v0 n0 H0) ⟨y0,_,_,rfl,h2',rfl,rfl⟩ i y
       have hr6 := hr'.fr hF6 (fun hn ad hA => hr'.apart hset hu5 hn ad hA)
       have hB6 : Below w.heap.size w wc := hB'.trans (hF6.below hB'.size (fun g hg => by omega))
       have m5' := hzm6.cell (i := 5) (v := .slice B 32 d) rfl
       clear m0 m1 m2 m3 m4 m5 c10 c11 c12 c13 c14 c15 c16 f10 f11 f12 f13 f14 f15 f16 hset hzm' hz1' h2' hr' hB' hF6
       go_wp2_with fail
       refine (clone_any B 32 d H2 _ hr6 (by omega)).mono ?_
       rintro e w7 ⟨A7,d7,rfl,ho7,hb7⟩
       have hF7 := (FrV.own ho7).mono hB6.size
       have hb6' := hb6.below hb7
       have hz17 := hz16.below hb7
       have h27 := h26.below hb7
       have hB7 := below_next hB6 hb7
       have c16 := hb6'.cell (i := 16) (v := .slice B 32 d) rfl
       have f16 := hb6'.free 16
       obtain ⟨A0,a0,k0,rfl⟩ := h27.form
       have hu6 : ∀ (i : Nat) (y : Nat),(steC 0 0 fl (ge + 1#32) v0 n0 (.slice A0 a0 k0) 0#32 0 (.slice none 0 0) true s v L S P (.slice B 32 d))[i]? ≠ some (.int .u8 (y : Int)) := fun i y => stArr_u8 ⟨0,0,fl,ge + 1#32,v0,n0,none,0#32,0,none,true,s,v,L,S,P,none⟩ _ _ _ _ _ _ _ _ _ i y
       have hset := hb6'.setCellAt 16 (.slice A7 32 d7) (cs' := stArr (onQ fl (ge + 1#32) v0 n0 H0 s v L S P H2) (.slice A0 a0 k0) (.slice none 0 0) (.slice A7 32 d7)) rfl
       have hC8 : StC (w7.setCell ⟨w.heap.size,16,none⟩ (.slice A7 32 d7)) (stArr (onQ fl (ge + 1#32) v0 n0 H0 s v L S P H2) (.slice A0 a0 k0) (.slice none 0 0) (.slice A7 32 d7)) (onQ fl (ge + 1#32) v0 n0 H0 s v L S P H2) := ⟨_,_,_,rfl,h27.set hb6' hu6 16 _,rfl,HSt.set (H := some H2) ⟨A7,d7,rfl,ho7.rd⟩ hb6' hu6 16 _⟩
       have hz18 := hz17.other (a := ⟨w.heap.size,16,none⟩) (show w.heap.size + 1 + 1 ≠ w.heap.size by omega) (.slice A7 32 d7)
       have hB8 := hB7.setCell (p := ⟨w.heap.size,16,none⟩) (Nat.le_refl _) (.slice A7 32 d7)
       have hsz8 := hC8.size
       have hone8 := hC8.one
       clear hb6 hb6' hzm6 hz16 h26 hr6 hB6 m5'
       go_upto_region 19 with fail
       change Code.wp _ _ _ _ (w7.setCell ⟨w.heap.size,16,none⟩ (.slice A7 32 d7))
       generalize w7.setCell ⟨w.heap.size,16,none⟩ (.slice A7 32 d7) = w8 at *
       go_wp2_with (first
         | ((with_reducible refine at_load ?_); refine wpList_load_row rfl 46 (.tmp 2) rfl w.heap.size rfl 46 _ (0,0) _ hset Tryz.underlying46 rfl hsz8 ?_)
         | ((with_reducible refine at_store ?_); refine wpList_store_row rfl 46 (.tmp 4) (.tmp 70) rfl (w.heap.size + 1 + 1) (stArr (onQ fl (ge + 1#32) v0 n0 H0 s v L S P H2) (.slice A0 a0 k0) (.slice none 0 0) (.slice A7 32 d7)) rfl rfl 46 _ hz18 hsz8 rfl hone8 ?_))
       refine bodyPost_ret (results_cell_slot Tryz.results83 _ _ (w.heap.size + 1 + 1) 46 (stArr (onQ fl (ge + 1#32) v0 n0 H0 s v L S P H2) (.slice A0 a0 k0) (.slice none 0 0) (.slice A7 32 d7)) (0,0) _ _ rfl rfl (hz18.setRow _) Tryz.underlying46 rfl hsz8) rfl ?_
       exact ⟨_,rfl,hC8.setRow hz18 stZ_u8 _,below_setRow hB8 (by omega) _,stf_arr _ (hFR.out (by omega)) (FrV.nil _) hF7⟩
theorem manOk_bd {L S P : Nat} (h : manOk L S P = true) : 1 ≤ L ∧ L ≤ 512 ∧ 1 ≤ S ∧ S ≤ 16 ∧ P ≤ 16 ∧ 1 ≤ cnt L S ∧ cnt L S ≤ 64 ∧ cnt L S = (L + S - 1) / S := by
 unfold manOk spOk at h
 simp at h
 have h1 := h.1
 have e : cnt L S = if L < 1 ∨ 512 < L ∨ S < 1 ∨ 16 < S ∨ 64 < (L + S - 1) / S then 0 else (L + S - 1) / S := rfl
 by_cases hc : L < 1 ∨ 512 < L ∨ S < 1 ∨ 16 < S ∨ 64 < (L + S - 1) / S
 · rw [if_pos hc] at e; omega
 · rw [if_neg hc] at e; omega
theorem stArr_get11 (q : SSt) (x0 x1 x2 : Value) (j : Nat) (u : Value) (h : (manC q.s q.v q.L q.S q.P x2)[j]? = some u) : (stArr q x0 x1 x2)[11 + j]? = some u := by
 unfold manC at h
 match j,h with
 | 0,h | 1,h | 2,h | 3,h | 4,h | 5,h => exact h
 | k + 6,h => simp at h
theorem activate_on (fl ge v0 s v : BitVec 32) (n0 L S P : Nat) (H0 H2 : List UInt8) (hq : (onQ fl ge v0 n0 H0 s v L S P H2).Ok) (st : Array Value) (w : World) (h : StC w st (onQ fl ge v0 n0 H0 s v L S P H2)) :
   Calls Tryz.prog 141 #[.agg st] w fun e w' => ∃ st',e = .returned (.tuple #[.agg st',.int .i64 0]) ∧ StC w' st' (twoQ 3 fl ge v0 v n0 L H0 H2) ∧ Below w.heap.size w w' ∧ StF w.heap.size st' := by
 have hsz := h.size
 have h17 := h.size17
 have hz0 : Blk ((w.alloc (.cells st 46)).alloc (.cells stZ 46)) w.heap.size st 46 := heap_alloc2_old w _ _
 have hz1 : Blk ((w.alloc (.cells st 46)).alloc (.cells stZ 46)) (w.heap.size + 1) stZ 46 := heap_alloc2_new w _ _
 have hB0 : Below w.heap.size w ((w.alloc (.cells st 46)).alloc (.cells stZ 46)) := ba (below_alloc1 _ _) _
 have hC := h.below hB0
 unfold stZ at hz0 hz1 hB0 hC
 go_enter Tryz.func141,Tryz.ntmps141
 go_wp2_with (first
   | ((with_reducible refine at_load ?_); refine wpList_load_row rfl 46 (.tmp 1) rfl w.heap.size rfl 46 st (0,0) _ hz0 Tryz.underlying46 rfl hsz ?_))
 refine (stmay_st _ hq st _ hC).mono ?_
 rintro e w1 ⟨rfl,hb1⟩
 have hz01 := hz0.below hb1
 have hz11 := hz1.below hb1
 have hC1 := hC.below hb1
 have hB1 := below_next hB0 hb1
 have hlt1 := hz11.lt
 clear hz0 hz1 hC hB0 hb1
 obtain ⟨x0,x1,x2,hst,k0,k1,k2⟩ := id hC1
 have c1 := hz01.cell (i := 1) (v := .int .i64 0) (by rw [hst]; rfl)
 have c10 := hz01.cell (i := 10) (v := .bool true) (by rw [hst]; rfl)
 have hpart : ∀ (j : Nat) u,(manC s v L S P x2)[j]? = some u → st[11 + j]? = some u := by
   intro j u hj
   rw [hst]
   exact stArr_get11 _ _ _ _ _ _ hj
 have Hst := hide hst
 obtain ⟨A2,a2,rfl,hA2⟩ := k2
 have hszm := size44 s v L S P (.slice A2 32 a2)
 have hz3 : Blk (w1.alloc (.cells (manC 0#32 0#32 0 0 0 (.slice none 0 0)) 44)) w1.heap.size (manC 0#32 0#32 0 0 0 (.slice none 0 0)) 44 := Blk.new _ _ _
 have hz03 := hz01.alloc (.cells (manC 0#32 0#32 0 0 0 (.slice none 0 0)) 44)
 have hz13 := hz11.alloc (.cells (manC 0#32 0#32 0 0 0 (.slice none 0 0)) 44)
 have hB3 := ba hB1 (.cells (manC 0#32 0#32 0 0 0 (.slice none 0 0)) 44)
 have hC3 := hC1.below (below_alloc1 w1 (.cells (manC 0#32 0#32 0 0 0 (.slice none 0 0)) 44))
 have hA3 := hA2.alloc (.cells (manC 0#32 0#32 0 0 0 (.slice none 0 0)) 44)
 have hz3s := hz3.setRow (manC s v L S P (.slice A2 32 a2))
 have hz03s := hz03.setRow_other (k := w1.heap.size) (by omega) (manC s v L S P (.slice A2 32 a2))
 have hz13s := hz13.setRow_other (k := w1.heap.size) (by omega) (manC s v L S P (.slice A2 32 a2))
 have hB3s := below_setRow hB3 (g := w1.heap.size) (by omega) (manC s v L S P (.slice A2 32 a2))
 have hu44 : ∀ (i y : Nat),(manC 0#32 0#32 0 0 0 (.slice none 0 0))[i]? ≠ some (.int .u8 (y : Int)) := by
   intro i y
   unfold manC
   match i with
   | 0 | 1 | 2 | 3 | 4 | 5 => simp
   | k + 6 => simp
 have hC3s := hC3.setRow hz3 hu44 (manC s v L S P (.slice A2 32 a2))
 have hA3s := hA3.fr (fr_setRow _ w1.heap.size (manC s v L S P (.slice A2 32 a2))) (fun hn ad hA => hA3.apart hz3 hu44 hn ad hA)
 clear hst
 go_upto_region 6 with (first
   | ((with_reducible refine at_load ?_); refine wpList_load_part rfl 44 (.tmp 20) rfl w.heap.size 11 rfl 46 st (manC s v L S P (.slice A2 32 a2)) (0,0) _ hz01 hpart Tryz.underlying44 rfl hszm ?_)
   | ((with_reducible refine at_store ?_); refine wpList_store_row rfl 44 (.tmp 4) (.tmp 21) rfl w1.heap.size (manC s v L S P (.slice A2 32 a2)) rfl rfl 44 (manC 0#32 0#32 0 0 0 (.slice none 0 0)) hz3 hszm rfl (one44 _ _ _ _ _ _ _ _) ?_))
 change Code.wp _ _ _ _ (World.setRow (w1.alloc (.cells (manC 0#32 0#32 0 0 0 (.slice none 0 0)) 44)) w1.heap.size (manC s v L S P (.slice A2 32 a2)))
 generalize World.setRow (w1.alloc (.cells (manC 0#32 0#32 0 0 0 (.slice none 0 0)) 44)) w1.heap.size (manC s v L S P (.slice A2 32 a2)) = w3 at *
 clear c1 c10 hz3 hz03 hz13 hB3 hC3 hA3 hz01 hz11 hC1 hB1 hA2 k0 k1 hpart
 go_wp2_with (first
   | ((with_reducible refine at_load ?_); refine wpList_load_row rfl 46 (.tmp 1) rfl w.heap.size rfl 46 st (0,0) _ hz03s Tryz.underlying46 rfl hsz ?_))
 refine (drop_on fl ge v0 n0 H0 s v L S P H2 hq st _ hC3s).mono ?_
 rintro e w4 ⟨st4,rfl,hC4,hb4,hF4⟩
 have hF4 := hF4.mono hB3s.size
 have hz0 := hz03s.below hb4
 have hz1 := hz13s.below hb4
 have hz3 := hz3s.below hb4
 have hA4 := hA3s.below hb4
 have hB4 := below_next hB3s hb4
 have hsz4 := hC4.size
 have hone4 := hC4.one
 have h174 := hC4.size17
 have hne13 : w1.heap.size ≠ w.heap.size := by omega
 have hz0s := hz0.setRow st4
 have hz1s := hz1.setRow_other (k := w.heap.size) (by omega) st4
 have hz3s' := hz3.setRow_other (k := w.heap.size) hne13 st4
 have hB4s := below_setRow hB4 (g := w.heap.size) (by omega) st4
 have hC4s := hC4.setRow hz0 h.u8 st4
 have hA4s := hA4.fr (fr_setRow _ w.heap.size st4) (fun hn ad hA => hA4.apart hz0 h.u8 hn ad hA)
 clear hz03s hz13s hz3s hC3s hA3s hB3s hb4
 go_upto_region 7 with (first
   | ((with_reducible refine at_store ?_); refine wpList_store_row rfl 46 (.tmp 1) (.tmp 23) rfl w.heap.size st4 rfl rfl 46 st hz0 hsz4 (by rw [h17,h174]) hone4 ?_))
 change Code.wp _ _ _ _ (World.setRow w4 w.heap.size st4)
 generalize World.setRow w4 w.heap.size st4 = w5 at *
 clear hz0 hz1 hz3 hC4 hA4 hB4
 obtain ⟨y0,y1,y2,rfl,j0,j1,j2⟩ := hC4s
 obtain ⟨A0,a0,rfl,hA0⟩ := j0
 cases j1
 cases j2
 have c0 := hz0s.cell (i := 0) (v := .int .i64 0) rfl
 have f0 := hz0s.free 0
 have c1 := hz0s.cell (i := 1) (v := .int .i64 0) rfl
 have f1 := hz0s.free 1
 have hF : Fr (· = w.heap.size) w5 ((w5.setCell ⟨w.heap.size,0,none⟩ (.int .i64 1)).setCell ⟨w.heap.size,1,none⟩ (.int .i64 3)) := Fr.set (S := (· = w.heap.size)) (Fr.set (S := (· = w.heap.size)) (Fr.refl _ _) (fun _ => rfl) _) (fun _ => rfl) _
 have hz06 : Blk ((w5.setCell ⟨w.heap.size,0,none⟩ (.int .i64 1)).setCell ⟨w.heap.size,1,none⟩ (.int .i64 3)) w.heap.size (steC 1 3 fl ge v0 n0 (.slice A0 32 a0) 0#32 0 (.slice none 0 0) false 0#32 0#32 0 0 0 (.slice none 0 0)) 46 := (hz0s.set 0 _).set 1 _
 have hz16 := hz1s.fr hF (by omega)
 have hz36 := hz3s'.fr hF hne13
 have huo : ∀ (i y : Nat),(stArr (offQ fl ge v0 n0 H0) (.slice A0 32 a0) (.slice none 0 0) (.slice none 0 0))[i]? ≠ some (.int .u8 (y : Int)) := fun i y => stArr_u8 _ _ _ _ _ _ _ _ _ _ i y
 have hA06 := hA0.fr hF (fun hn ad hA => hA0.apart hz0s huo hn ad hA)
 have hA26 := hA4s.fr hF (fun hn ad hA => hA4s.apart hz0s huo hn ad hA)
 have hB6 := hB4s.trans (hF.below hB4s.size (fun g hg => by omega))
 go_upto_region 9 with fail
 change Code.wp _ _ _ _ ((w5.setCell ⟨w.heap.size,0,none⟩ (.int .i64 1)).setCell ⟨w.heap.size,1,none⟩ (.int .i64 3))
 generalize (w5.setCell ⟨w.heap.size,0,none⟩ (.int .i64 1)).setCell ⟨w.heap.size,1,none⟩ (.int .i64 3) = w6 at *
 clear hz0s hz1s hz3s' c0 f0 c1 f1 hA0 hA4s hF huo
 have hcells : ∀ x,Below w6.heap.size w6 x → x.cell? ⟨w.heap.size,0,none⟩ = some (.int .i64 1) ∧ x.cell? ⟨w1.heap.size,1,none⟩ = some (.int .u32 (V v)) ∧ x.cell? ⟨w1.heap.size,2,none⟩ = some (.int .i64 L) ∧ x.cell? ⟨w1.heap.size,5,none⟩ = some (.slice A2 32 a2) ∧ x.cell? ⟨w.heap.size,7,none⟩ = some (.int .u32 0) ∧ x.cell? ⟨w.heap.size,8,none⟩ = some (.int .i64 0) ∧ x.cell? ⟨w.heap.size,9,none⟩ = some (.slice none 0 0) ∧ x.frozen? ⟨w.heap.size,7,none⟩ = false ∧ x.frozen? ⟨w.heap.size,8,none⟩ = false ∧ x.frozen? ⟨w.heap.size,9,none⟩ = false := fun x hx =>
   ⟨(hz06.below hx).cell rfl,(hz36.below hx).cell rfl,(hz36.below hx).cell rfl,(hz36.below hx).cell rfl,(hz06.below hx).cell rfl,(hz06.below hx).cell rfl,(hz06.below hx).cell rfl,(hz06.below hx).free _,(hz06.below hx).free _,(hz06.below hx).free _⟩
 have hS4 : w6.drew.cell? ⟨w.heap.size,0,none⟩ = some (.int .i64 1) ∧ w6.drew.cell? ⟨w1.heap.size,1,none⟩ = some (.int .u32 (V v)) ∧ w6.drew.cell? ⟨w1.heap.size,2,none⟩ = some (.int .i64 L) ∧ w6.drew.cell? ⟨w1.heap.size,5,none⟩ = some (.slice A2 32 a2) := by
   have h := hcells w6.drew (Below.refl _ _).drew
   exact ⟨h.1,h.2.1,h.2.2.1,h.2.2.2.1⟩
 have hkeep : ∀ x,Below w6.heap.size w6 x → ∀ A7 d7,(((x.setCell ⟨w.heap.size,7,none⟩ (.int .u32 (V v))).setCell ⟨w.heap.size,8,none⟩ (.int .i64 L)).setCell ⟨w.heap.size,9,none⟩ (.slice A7 32 d7)).cell? ⟨w.heap.size,0,none⟩ = some (.int .i64 1) ∧ (((x.setCell ⟨w.heap.size,7,none⟩ (.int .u32 (V v))).setCell ⟨w.heap.size,8,none⟩ (.int .i64 L)).setCell ⟨w.heap.size,9,none⟩ (.slice A7 32 d7)).cell? ⟨w1.heap.size,1,none⟩ = some (.int .u32 (V v)) ∧ (((x.setCell ⟨w.heap.size,7,none⟩ (.int .u32 (V v))).setCell ⟨w.heap.size,8,none⟩ (.int .i64 L)).setCell ⟨w.heap.size,9,none⟩ (.slice A7 32 d7)).cell? ⟨w1.heap.size,2,none⟩ = some (.int .i64 L) ∧ (((x.setCell ⟨w.heap.size,7,none⟩ (.int .u32 (V v))).setCell ⟨w.heap.size,8,none⟩ (.int .i64 L)).setCell ⟨w.heap.size,9,none⟩ (.slice A7 32 d7)).cell? ⟨w1.heap.size,5,none⟩ = some (.slice A2 32 a2) := by
   intro x hx A7 d7
   have hzx := hz06.below hx
   have hzx3 := hz36.below hx
   have hz8 := ((hzx.set 7 (.int .u32 (V v))).set 8 (.int .i64 L)).set 9 (.slice A7 32 d7)
   have hz83 := ((hzx3.other (a := ⟨w.heap.size,7,none⟩) hne13 (.int .u32 (V v))).other (a := ⟨w.heap.size,8,none⟩) hne13 (.int .i64 L)).other (a := ⟨w.heap.size,9,none⟩) hne13 (.slice A7 32 d7)
   exact ⟨hz8.cell rfl,hz83.cell rfl,hz83.cell rfl,hz83.cell rfl⟩
 go_cut [] (fun wx => ∃ A7 d7 w7,wx = ((w7.setCell ⟨w.heap.size,7,none⟩ (.int .u32 (V v))).setCell ⟨w.heap.size,8,none⟩ (.int .i64 L)).setCell ⟨w.heap.size,9,none⟩ (.slice A7 32 d7) ∧ Below w6.heap.size w6 w7 ∧ Rd w7 A7 32 d7 H2 ∧ FrV w6.heap.size (.slice A7 32 d7))
 case first =>
   go_region_held3 (fun x => x.cell? ⟨w.heap.size,0,none⟩ = some (.int .i64 1) ∧ x.cell? ⟨w1.heap.size,1,none⟩ = some (.int .u32 (V v)) ∧ x.cell? ⟨w1.heap.size,2,none⟩ = some (.int .i64 L) ∧ x.cell? ⟨w1.heap.size,5,none⟩ = some (.slice A2 32 a2))
     (first | (with_reducible exact hS4) | (with_reducible exact hs7) | (with_reducible exact hs8))
     ((go_at_call 23; (with_reducible refine (clone_any A2 32 a2 H2 _ hA26.drew (by omega)).mono ?_); rintro e w7 ⟨A7,d7,rfl,ho7,hb7⟩
       have hb7' : Below w6.heap.size w6 w7 := (Below.refl w6.heap.size w6).drew.trans hb7
       obtain ⟨q0,q1,q2,q5,q7,q8,q9,g7,g8,g9⟩ := hcells w7 hb7'
       have hs7 := And.intro q0 (And.intro q1 (And.intro q2 q5))
       have hs8 := hkeep w7 hb7' A7 d7))
   all_goals
     go_wp2_with fail
     go_meet
     exact ⟨A7,d7,w7,rfl,hb7',ho7.rd,FrV.own ho7⟩
 case rest =>
   obtain ⟨A7,d7,w7,rfl,hb7,hr7,hF7⟩ := hcut
   have hF7 := hF7.mono hB6.size
   have hz07 := hz06.below hb7
   have hz17 := hz16.below hb7
   have hA07 := hA06.below hb7
   have hB7 := below_next hB6 hb7
   have hFr7 : Fr (· = w.heap.size) w7 (((w7.setCell ⟨w.heap.size,7,none⟩ (.int .u32 (V v))).setCell ⟨w.heap.size,8,none⟩ (.int .i64 L)).setCell ⟨w.heap.size,9,none⟩ (.slice A7 32 d7)) := Fr.set (S := (· = w.heap.size)) (Fr.set (S := (· = w.heap.size)) (Fr.set (S := (· = w.heap.size)) (Fr.refl _ _) (fun _ => rfl) _) (fun _ => rfl) _) (fun _ => rfl) _
   have hz08 : Blk (((w7.setCell ⟨w.heap.size,7,none⟩ (.int .u32 (V v))).setCell ⟨w.heap.size,8,none⟩ (.int .i64 L)).setCell ⟨w.heap.size,9,none⟩ (.slice A7 32 d7)) w.heap.size (stArr (twoQ 3 fl ge v0 v n0 L H0 H2) (.slice A0 32 a0) (.slice A7 32 d7) (.slice none 0 0)) 46 := ((hz07.set 7 _).set 8 _).set 9 _
   have hu : ∀ (i y : Nat),(steC 1 3 fl ge v0 n0 (.slice A0 32 a0) 0#32 0 (.slice none 0 0) false 0#32 0#32 0 0 0 (.slice none 0 0))[i]? ≠ some (.int .u8 (y : Int)) := fun i y => stArr_u8 ⟨1,3,fl,ge,v0,n0,none,0#32,0,none,false,0#32,0#32,0,0,0,none⟩ _ _ _ _ _ _ _ _ _ i y
   have hC8 : StC (((w7.setCell ⟨w.heap.size,7,none⟩ (.int .u32 (V v))).setCell ⟨w.heap.size,8,none⟩ (.int .i64 L)).setCell ⟨w.heap.size,9,none⟩ (.slice A7 32 d7)) (stArr (twoQ 3 fl ge v0 v n0 L H0 H2) (.slice A0 32 a0) (.slice A7 32 d7) (.slice none 0 0)) (twoQ 3 fl ge v0 v n0 L H0 H2) :=
     ⟨_,_,_,rfl,⟨A0,a0,rfl,hA07.fr hFr7 (fun hn ad hA => hA07.apart hz07 hu hn ad hA)⟩,⟨A7,d7,rfl,hr7.fr hFr7 (fun hn ad hA => hr7.apart hz07 hu hn ad hA)⟩,rfl⟩
   have hz18 := hz17.fr hFr7 (by omega)
   have hB8 := hB7.trans (hFr7.below hB7.size (fun g hg => by omega))
   have hsz8 := hC8.size
   have hone8 := hC8.one
   generalize ((w7.setCell ⟨w.heap.size,7,none⟩ (.int .u32 (V v))).setCell ⟨w.heap.size,8,none⟩ (.int .i64 L)).setCell ⟨w.heap.size,9,none⟩ (.slice A7 32 d7) = w8 at *
   clear hz06 hz16 hz36 hA06 hA26 hB6 hcells hS4 hkeep hb7 hr7 hz07 hz17 hA07 hB7 hFr7
   go_wp2_with (first
     | ((with_reducible refine at_load ?_); refine wpList_load_row rfl 46 (.tmp 1) rfl w.heap.size rfl 46 _ (0,0) _ hz08 Tryz.underlying46 rfl hsz8 ?_)
     | ((with_reducible refine at_store ?_); refine wpList_store_row rfl 46 (.tmp 2) (.tmp 41) rfl (w.heap.size + 1) (stArr (twoQ 3 fl ge v0 v n0 L H0 H2) (.slice A0 32 a0) (.slice A7 32 d7) (.slice none 0 0)) rfl rfl 46 _ hz18 hsz8 rfl hone8 ?_))
   refine bodyPost_ret (results_cell_slot Tryz.results141 _ _ (w.heap.size + 1) 46 (stArr (twoQ 3 fl ge v0 v n0 L H0 H2) (.slice A0 32 a0) (.slice A7 32 d7) (.slice none 0 0)) (0,0) _ _ rfl rfl (hz18.setRow _) Tryz.underlying46 rfl hsz8) rfl ?_
   exact ⟨_,rfl,hC8.setRow hz18 stZ_u8 _,below_setRow hB8 (by omega) _,stf_arr _ hF4.get.1 hF7 (FrV.nil _)⟩
end Go.Proofs.YtkkcpblfheplaaaGreatDoor
