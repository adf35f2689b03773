/- Contracts of functions that the laws of downpourtop reach, and plain facts; no condition beyond what each theorem states. -/
import Derived.Test.YtkkcpblfheplaaaGreatDoorMDx01
import Derived.Test.YtkkcpblfheplaaaGreatDoorMP02
set_option maxRecDepth 100000
set_option maxHeartbeats 8000000
set_option linter.all false
namespace Go.Proofs.YtkkcpblfheplaaaGreatDoor
open Go.RowKit
theorem admit_dup (fl ge v0 s v : BitVec 32) (n0 L S P : Nat) (H0 H2 : List UInt8) (hq : (onQ fl ge v0 n0 H0 s v L S P H2).Ok) (st : Array Value) (B : Option Addr) (d : Nat) (w : World) (h : StC w st (onQ fl ge v0 n0 H0 s v L S P H2)) (hr : Rd w B 32 d H2)
   (hm : manOk L S P = true) (hL : L ≤ 1000000) (hS : S ≤ 1000000) :
   Calls Tryz.prog 83 #[.agg st,.agg (manC s v L S P (.slice B 32 d))] w fun e w' => ∃ st' : Array Value,st' = stZ ∧ e = .returned (.tuple #[.agg st',.int .i64 8]) ∧ Below w.heap.size w w' := by
 have hsz := h.size
 have hszm := size44 s v L S P (.slice B 32 d)
 obtain ⟨w0,hw0⟩ : ∃ w0,((w.alloc (.cells st 46)).alloc (.cells (manC s v L S P (.slice B 32 d)) 44)).alloc (.cells stZ 46) = w0 := ⟨_,rfl⟩
 have hz0 : Blk w0 w.heap.size st 46 := by rw [← hw0]; exact alloc3_old w _ _ _
 have hzm : Blk w0 (w.heap.size + 1) (manC s v L S P (.slice B 32 d)) 44 := by rw [← hw0]; exact alloc3_mid w _ _ _
 have hz1 : Blk w0 (w.heap.size + 1 + 1) stZ 46 := by rw [← hw0]; exact alloc3_new w _ _ _
 have hB0 : Below w.heap.size w w0 := by rw [← hw0]; exact ba (ba (below_alloc1 _ _) _) _
 have hC := h.below hB0
 have hr0 := hr.below hB0
 have hmm := fun w => may_any s v L S P B 32 d w hL hS
 rw [hm] at hmm
 have Hmm := hide hmm
 have hszz : (Tryz.prog.info? 46).map (·.size) = some stZ.size := by kernel_rfl
 clear hmm hm
 unfold stZ at hw0
 go_enter Tryz.func83,Tryz.ntmps83
 go_upto_region 1 with fail
 change Code.wp _ _ _ _ (((w.alloc (.cells st 46)).alloc (.cells (manC s v L S P (.slice B 32 d)) 44)).alloc (.cells (steC 0 0 0#32 0#32 0#32 0 (.slice none 0 0) 0#32 0 (.slice none 0 0) false 0#32 0#32 0 0 0 (.slice none 0 0)) 46))
 rw [hw0]
 clear hw0
 go_wp2_with (first
   | ((with_reducible refine at_load ?_); refine wpList_load_row rfl 46 (.tmp 2) rfl w.heap.size rfl 46 st (0,0) _ hz0 Tryz.underlying46 rfl hsz ?_))
 refine (stmay_st _ hq st _ hC).mono ?_
 rintro e w1 ⟨rfl,hb1⟩
 have hz01 := hz0.below hb1
 have hzm1 := hzm.below hb1
 have hz11 := hz1.below hb1
 have hC1 := hC.below hb1
 have hr1 := hr0.below hb1
 have hB1 := below_next hB0 hb1
 clear hz0 hzm hz1 hC hr0 hB0 hb1
 have m0 := hzm1.cell (i := 0) (v := .int .u32 (V s)) rfl
 have m1 := hzm1.cell (i := 1) (v := .int .u32 (V v)) rfl
 have m2 := hzm1.cell (i := 2) (v := .int .i64 L) rfl
 have m3 := hzm1.cell (i := 3) (v := .int .i64 S) rfl
 have m4 := hzm1.cell (i := 4) (v := .int .i64 P) rfl
 have m5 := hzm1.cell (i := 5) (v := .slice B 32 d) rfl
 go_wp2_with fail
 refine (Hmm.out _).mono ?_
 rintro e w2 ⟨rfl,hb2⟩
 have hz0 := hz01.below hb2
 have hzm := hzm1.below hb2
 have hz1 := hz11.below hb2
 have hC := hC1.below hb2
 have hr2 := hr1.below hb2
 have hB2 := below_next hB1 hb2
 clear hz01 hzm1 hz11 hC1 hr1 hB1 hb2 m0 m1 m2 m3 m4 m5
 obtain ⟨x0,x1,x2,hst,k0,k1,⟨A2,a2,rfl,hr3⟩⟩ := id hC
 have c1 := hz0.cell (i := 1) (v := .int .i64 0) (by rw [hst]; rfl)
 have c10 := hz0.cell (i := 10) (v := .bool true) (by rw [hst]; rfl)
 have c11 := hz0.cell (i := 11) (v := .int .u32 (V s)) (by rw [hst]; rfl)
 have c12 := hz0.cell (i := 12) (v := .int .u32 (V v)) (by rw [hst]; rfl)
 have c13 := hz0.cell (i := 13) (v := .int .i64 L) (by rw [hst]; rfl)
 have c14 := hz0.cell (i := 14) (v := .int .i64 S) (by rw [hst]; rfl)
 have c15 := hz0.cell (i := 15) (v := .int .i64 P) (by rw [hst]; rfl)
 have c16 := hz0.cell (i := 16) (v := .slice A2 32 a2) (by rw [hst]; rfl)
 have m0 := hzm.cell (i := 0) (v := .int .u32 (V s)) rfl
 have m1 := hzm.cell (i := 1) (v := .int .u32 (V v)) rfl
 have m2 := hzm.cell (i := 2) (v := .int .i64 L) rfl
 have m3 := hzm.cell (i := 3) (v := .int .i64 S) rfl
 have m4 := hzm.cell (i := 4) (v := .int .i64 P) rfl
 have m5 := hzm.cell (i := 5) (v := .slice B 32 d) rfl
 have Hst := hide hst
 clear hst
 go_wp2_with fail
 refine (mansame_eq s v L S P A2 B a2 d H2 _ hr3 hr2).mono ?_
 rintro e w3 ⟨rfl,hb3⟩
 have hz13 := hz1.below hb3
 have hB3 := below_next hB2 hb3
 clear hz0 hzm hz1 hC hr2 hr3 hB2 k0 k1 c1 c10 c11 c12 c13 c14 c15 c16 m0 m1 m2 m3 m4 m5
 have hone : stZ.all (·.oneCell') = true := by simp [stZ,steC,Value.oneCell']
 go_wp2_with (first
   | ((with_reducible refine at_store ?_); refine wpList_store_row rfl 46 (.tmp 4) (.tmp 31) rfl (w.heap.size + 1 + 1) stZ rfl rfl 46 stZ hz13 hszz rfl hone ?_))
 refine bodyPost_ret (results_cell_slot Tryz.results83 _ _ (w.heap.size + 1 + 1) 46 stZ (0,0) _ _ rfl rfl (hz13.setRow _) Tryz.underlying46 rfl hszz) rfl ?_
 exact ⟨stZ,rfl,rfl,below_setRow hB3 (by omega) _⟩
end Go.Proofs.YtkkcpblfheplaaaGreatDoor
