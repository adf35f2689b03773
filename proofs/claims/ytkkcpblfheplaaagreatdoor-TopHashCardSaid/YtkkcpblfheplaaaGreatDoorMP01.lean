/- Contracts of functions that the laws of downpourtop reach, and plain facts; no condition beyond what each theorem states. -/
import Derived.Test.YtkkcpblfheplaaaGreatDoorMD07
set_option maxRecDepth 100000
set_option maxHeartbeats 8000000
set_option linter.all false
namespace Go.Proofs.YtkkcpblfheplaaaGreatDoor
open Go.RowKit
def SlotSt (w : World) (v : BitVec 32) (n : Nat) (h : Value) (L : List UInt8) : Prop :=
 (v = 0#32 ∧ n = 0 ∧ h = .slice none 0 0 ∧ L = [0]) ∨
 (1 ≤ n ∧ n ≤ 512 ∧ ∃ A c b,h = .slice A 32 c ∧ Rd w A 32 c b ∧ L = [1] ++ four v ++ [byt ((n : Int) / 256),byt (n : Int)] ++ b)
theorem SlotSt.below {w w' : World} {v : BitVec 32} {n : Nat} {h : Value} {L : List UInt8} (k : SlotSt w v n h L) (hb : Below w.heap.size w w') : SlotSt w' v n h L := by
 rcases k with k | ⟨k1,k2,A,c,b,k3,k4,k5⟩
 · exact .inl k
 · exact .inr ⟨k1,k2,A,c,b,k3,k4.below hb,k5⟩
theorem SlotSt.len {w : World} {v : BitVec 32} {n : Nat} {h : Value} {L : List UInt8} (k : SlotSt w v n h L) : L.length ≤ 39 := by
 rcases k with ⟨_,_,_,rfl⟩ | ⟨_,_,A,c,b,_,k4,rfl⟩
 · simp
 · have := k4.1
   simp [four_len,this]
abbrev SteAt (b act trial : Nat) (fl ge : BitVec 32) (w1 w' : World) : Prop :=
 (w'.cell? ⟨b,0,none⟩ = some (.int .i64 act) ∧ w'.cell? ⟨b,1,none⟩ = some (.int .i64 trial) ∧ w'.cell? ⟨b,2,none⟩ = some (.int .u32 (V fl)) ∧ w'.cell? ⟨b,3,none⟩ = some (.int .u32 (V ge))) ∧ Below w1.heap.size w1 w'
theorem SteAt.step {b act trial : Nat} {fl ge : BitVec 32} {w1 : World} {cs : Array Value} (hb : Blk w1 b cs 46) (h0 : cs[0]? = some (.int .i64 act)) (h1 : cs[1]? = some (.int .i64 trial)) (h2 : cs[2]? = some (.int .u32 (V fl))) (h3 : cs[3]? = some (.int .u32 (V ge))) (a w' : World) (ha : SteAt b act trial fl ge w1 a) (k : Below a.heap.size a w') : SteAt b act trial fl ge w1 w' := by
 have h := below_next ha.2 k
 have hq := hb.below h
 exact ⟨⟨hq.cell h0,hq.cell h1,hq.cell h2,hq.cell h3⟩,h⟩
theorem two_cells (act trial : Nat) : (#[Value.int .u8 (IntKind.u8.wrap (act : Int)),.int .u8 (IntKind.u8.wrap (trial : Int))] : Array Value).toList = bys [byt (act : Int),byt (trial : Int)] := by
 simp [bys,by8,byt_val,IntKind.wrap_u8]
theorem rd_two (w : World) (act trial : Nat) : Rd (w.alloc (.cells #[Value.int .u8 (IntKind.u8.wrap (act : Int)),.int .u8 (IntKind.u8.wrap (trial : Int))] 5)) (some ⟨w.heap.size,0,none⟩) 2 2 [byt (act : Int),byt (trial : Int)] :=
 Rd.new w 5 _ (two_cells act trial) (by simp [maxLen])
def headL (act trial : Nat) (fl ge : BitVec 32) : List UInt8 := [byt (act : Int),byt (trial : Int)] ++ four fl ++ four ge
theorem headL_len (act trial : Nat) (fl ge : BitVec 32) : (headL act trial fl ge).length = 10 := by simp [headL,four_len]
theorem run_index_slots (w : World) (v0 v1 : BitVec 32) (n0 n1 : Nat) (h0 h1 : Value) (k : Nat) (hk : k < 2) :
   (Instr.index 42 (.agg #[.int .u32 (V v0),.int .i64 n0,h0,.int .u32 (V v1),.int .i64 n1,h1]) (.int .i64 (k : Int))).run Tryz.prog w = .ok (.agg (if k = 0 then slotC v0 n0 h0 else slotC v1 n1 h1)) w := by
 have hu : Tryz.prog.underlying 42 = some (.array 2 41) := Tryz.underlying42
 have hi : (Tryz.prog.info? 41).map (fun i => (i.size)) = some 3 := by kernel_rfl
 have ha := Tryz.underlying41
 have h0' : (0 : Int) ≤ (k : Int) ∧ (k : Int) < ((2 : Nat) : Int) := by omega
 cases hq : Tryz.prog.info? 41 with
 | none => rw [hq] at hi; cases hi
 | some t =>
   rw [hq] at hi
   have ht : t.size = 3 := by simpa using hi
   match k,hk with
   | 0,_ => simp [Instr.index,run_underlying hu,asIntOf,part,sizeOf,typeInfo,hq,ht,isAgg,run_underlying ha,go_sem,slotC]
   | 1,_ => simp [Instr.index,run_underlying hu,asIntOf,part,sizeOf,typeInfo,hq,ht,isAgg,run_underlying ha,go_sem,slotC]
theorem rd_one1 (w : World) : Rd (w.alloc (.cells #[.int .u8 1] 5)) (some ⟨w.heap.size,0,none⟩) 1 1 [1] := Rd.one w 5 1
theorem rd_one1' (w : World) (o : Obj) : Rd ((w.alloc o).alloc (.cells #[.int .u8 1] 5)) (some ⟨w.heap.size + 1,0,none⟩) 1 1 [1] := by
 have := rd_one1 (w.alloc o)
 simpa using this
theorem rd_mid2 (w : World) (n : Nat) : Rd (w.alloc (.cells #[Value.int .u8 (IntKind.u8.wrap ((n : Int) / 256)),.int .u8 (IntKind.u8.wrap (n : Int))] 5)) (some ⟨w.heap.size,0,none⟩) 2 2 [byt ((n : Int) / 256),byt (n : Int)] :=
 Rd.new w 5 _ (by simp [bys,by8,byt_val,IntKind.wrap_u8]) (by simp [maxLen])
theorem rd_mid2' (w : World) (o : Obj) (n : Nat) : Rd ((w.alloc o).alloc (.cells #[Value.int .u8 (IntKind.u8.wrap ((n : Int) / 256)),.int .u8 (IntKind.u8.wrap (n : Int))] 5)) (some ⟨w.heap.size + 1,0,none⟩) 2 2 [byt ((n : Int) / 256),byt (n : Int)] := by
 have := rd_mid2 (w.alloc o) n
 simpa using this
theorem cell3 (w : World) (o o2 : Obj) (cs : Array Value) (t : TypeId) (i : Nat) (v : Value) (h : cs[i]? = some v) : (((w.alloc o).alloc o2).alloc (.cells cs t)).cell? ⟨w.heap.size + 1 + 1,i,none⟩ = some v := by
 rw [cell_of_row _ _ _ _ _ _ (alloc3_new w _ _ _),h]
theorem rdl_five {W : World} {g n m k j p c d e f q : Nat} {A B C D E : Option Addr} {l r s t u : List UInt8} (h0 : W.cell? ⟨g,0,none⟩ = some (.slice A n c)) (h1 : W.cell? ⟨g,1,none⟩ = some (.slice B m d)) (h2 : W.cell? ⟨g,2,none⟩ = some (.slice C k e)) (h3 : W.cell? ⟨g,3,none⟩ = some (.slice D j f)) (h4 : W.cell? ⟨g,4,none⟩ = some (.slice E p q))
   (hl : Rd W A n c l) (hr : Rd W B m d r) (hs : Rd W C k e s) (ht : Rd W D j f t) (hu : Rd W E p q u) : RdL W (some ⟨g,0,none⟩) 5 5 [l,r,s,t,u] :=
 ⟨rfl,Nat.le_refl _,by decide,fun _ => ⟨_,rfl,fun i x hj => by
   match i,hj with
   | 0,hj => simp at hj; subst hj; exact ⟨A,n,c,by rw [addAt]; exact h0,hl⟩
   | 1,hj => simp at hj; subst hj; exact ⟨B,m,d,by rw [addAt]; exact h1,hr⟩
   | 2,hj => simp at hj; subst hj; exact ⟨C,k,e,by rw [addAt]; exact h2,hs⟩
   | 3,hj => simp at hj; subst hj; exact ⟨D,j,f,by rw [addAt]; exact h3,ht⟩
   | 4,hj => simp at hj; subst hj; exact ⟨E,p,q,by rw [addAt]; exact h4,hu⟩⟩⟩
abbrev SlotAt (b : Nat) (v : BitVec 32) (n : Nat) (h : Value) (w1 w' : World) : Prop :=
 (w'.cell? ⟨b,0,none⟩ = some (.int .u32 (V v)) ∧ w'.cell? ⟨b,1,none⟩ = some (.int .i64 n) ∧ w'.cell? ⟨b,2,none⟩ = some h) ∧ Below w1.heap.size w1 w'
theorem SlotAt.step {b n : Nat} {v : BitVec 32} {h : Value} {w1 : World} (hb : Blk w1 b (slotC v n h) 41) (a w' : World) (ha : SlotAt b v n h w1 a) (k : Below a.heap.size a w') : SlotAt b v n h w1 w' := by
 have h2 := below_next ha.2 k
 have hq := hb.below h2
 exact ⟨⟨hq.cell rfl,hq.cell rfl,hq.cell rfl⟩,h2⟩
def outL (hd L0 L1 : List UInt8) : Nat → List UInt8
 | 0 => hd
 | 1 => hd ++ L0
 | _ => hd ++ L0 ++ L1
theorem stbytes_off (act trial : Nat) (fl ge v0 v1 : BitVec 32) (n0 n1 : Nat) (h0 h1 : Value) (L0 L1 : List UInt8) (w : World) (hs0 : SlotSt w v0 n0 h0 L0) (hs1 : SlotSt w v1 n1 h1 L1)
   (hmay : ∀ w',Below w.heap.size w w' → Calls Tryz.prog 102 #[.agg (steC act trial fl ge v0 n0 h0 v1 n1 h1 false 0#32 0#32 0 0 0 (.slice none 0 0))] w' fun e w'' => e = .returned (.bool true) ∧ Below w'.heap.size w' w'') :
   Calls Tryz.prog 68 #[.agg (steC act trial fl ge v0 n0 h0 v1 n1 h1 false 0#32 0#32 0 0 0 (.slice none 0 0))] w fun e w' => ∃ A N c,e = .returned (.tuple #[.slice A N c,.int .i64 0]) ∧ Own w' w.heap.size 5 A N c (headL act trial fl ge ++ L0 ++ L1 ++ [0]) ∧ Below w.heap.size w w' := by
 obtain ⟨st,hst⟩ : ∃ st,steC act trial fl ge v0 n0 h0 v1 n1 h1 false 0#32 0#32 0 0 0 (.slice none 0 0) = st := ⟨_,rfl⟩
 have g0 : st[0]? = some (.int .i64 act) := by rw [← hst]; rfl
 have g1 : st[1]? = some (.int .i64 trial) := by rw [← hst]; rfl
 have g2 : st[2]? = some (.int .u32 (V fl)) := by rw [← hst]; rfl
 have g3 : st[3]? = some (.int .u32 (V ge)) := by rw [← hst]; rfl
 have hsz : (Tryz.prog.info? 46).map (·.size) = some st.size := by
   have : (Tryz.prog.info? 46).map (·.size) = some 17 := by kernel_rfl
   rw [this,← hst]; rfl
 rw [hst] at hmay ⊢
 have Hst := hide hst
 clear hst
 have hb0 : Blk (w.alloc (.cells st 46)) w.heap.size st 46 := Blk.new _ _ _
 have hB0 : Below w.heap.size w (w.alloc (.cells st 46)) := below_alloc1 _ _
 have hm0 := hmay _ hB0
 clear hmay
 go_enter Tryz.func68,Tryz.ntmps68
 go_wp2_with (first
   | ((with_reducible refine at_load ?_); refine wpList_load_row rfl 46 (.tmp 1) rfl w.heap.size rfl 46 st (0,0) _ hb0 Tryz.underlying46 rfl hsz ?_))
 refine hm0.mono ?_
 rintro e w1 ⟨rfl,hb1⟩
 have hbb := hb0.below hb1
 have hB1 := below_next hB0 hb1
 have hstp := SteAt.step hbb g0 g1 g2 g3
 have hS0 : SteAt w.heap.size act trial fl ge w1 w1.drew := ⟨⟨hbb.cell g0,hbb.cell g1,hbb.cell g2,hbb.cell g3⟩,(Below.refl _ _).drew⟩
 have hSA : ∀ o,SteAt w.heap.size act trial fl ge w1 (w1.alloc o).drew := fun o => hstp w1.drew (w1.alloc o).drew hS0 ⟨rfl,rfl,rfl,(below_alloc1 w1 o).size,(below_alloc1 w1 o).block⟩
 clear hb0 hB0 hb1 hm0
 go_wp2_with fail
 go_cut [4] (fun x wx => ∃ B' d',x = .slice B' 10 d' ∧ Own wx w1.heap.size 5 B' 10 d' (headL act trial fl ge) ∧ Below w1.heap.size w1 wx)
 case first =>
   go_region_held3 (fun w' => (w'.cell? ⟨w.heap.size,0,none⟩ = some (.int .i64 act) ∧ w'.cell? ⟨w.heap.size,1,none⟩ = some (.int .i64 trial) ∧ w'.cell? ⟨w.heap.size,2,none⟩ = some (.int .u32 (V fl)) ∧ w'.cell? ⟨w.heap.size,3,none⟩ = some (.int .u32 (V ge))) ∧ Below w1.heap.size w1 w')
     (first | (with_reducible exact hS0) | (with_reducible exact hSA _) | ((with_reducible refine hstp _ _ ?_ hb4); with_reducible assumption) | ((with_reducible refine hstp _ _ ?_ hb3); with_reducible assumption) | ((with_reducible refine hstp _ _ ?_ hb2); with_reducible assumption) | ((with_reducible refine hstp _ _ ?_ (below_alloc1 _ _)); with_reducible assumption))
     (first
       | (go_at_call 120; first | ((with_reducible refine (sword_any fl _).mono ?_); rintro e w2 ⟨A2,d2,rfl,ho2,hb2⟩) | ((with_reducible refine (sword_any ge _).mono ?_); rintro e w3 ⟨A3,d3,rfl,ho3,hb3⟩))
       | (go_at_call 119
          refine (concat_as _ 3 3 10 [[byt (act : Int),byt (trial : Int)],four fl,four ge] (headL act trial fl ge) _ (by simp [headL]) (headL_len _ _ _ _)
            (rdl_three (by first | exact cell2 _ _ _ _ 0 _ rfl | exact cell1 _ _ _ 0 _ rfl) (by first | exact cell2 _ _ _ _ 1 _ rfl | exact cell1 _ _ _ 1 _ rfl) (by first | exact cell2 _ _ _ _ 2 _ rfl | exact cell1 _ _ _ 2 _ rfl)
              (by repeat (first | (with_reducible exact rd_two _ act trial) | (with_reducible exact (rd_two _ act trial).drew) | (with_reducible refine Rd.alloc ?_ _) | (with_reducible refine Rd.below ?_ hb3) | (with_reducible refine Rd.below ?_ hb2)))
              (by repeat (first | (with_reducible exact ho2.rd) | (with_reducible refine Rd.alloc ?_ _) | (with_reducible refine Rd.below ?_ hb3)))
              (by repeat (first | (with_reducible exact ho3.rd) | (with_reducible refine Rd.alloc ?_ _)))) (by omega)).mono ?_
          rintro e w4 ⟨A4,d4,rfl,ho4,hb4⟩))
   all_goals
     go_wp2_with fail
     go_meet
     exact ⟨A4,d4,rfl,ho4.mono (by have h2 := hb2.size; have h3 := hb3.size; simp at h2 h3 ⊢; omega),(show SteAt w.heap.size act trial fl ge w1 w4 by assumption).2⟩
 case rest =>
   obtain ⟨B',d',rfl,ho,hB⟩ := hcut
   have hbc := hbb.below hB
   have k4 := hbc.cell (i := 4) (v := .int .u32 (V v0)) (by rw [← Hst.out]; rfl)
   have k5 := hbc.cell (i := 5) (v := .int .i64 n0) (by rw [← Hst.out]; rfl)
   have k6 := hbc.cell (i := 6) (v := h0) (by rw [← Hst.out]; rfl)
   have k7 := hbc.cell (i := 7) (v := .int .u32 (V v1)) (by rw [← Hst.out]; rfl)
   have k8 := hbc.cell (i := 8) (v := .int .i64 n1) (by rw [← Hst.out]; rfl)
   have k9 := hbc.cell (i := 9) (v := h1) (by rw [← Hst.out]; rfl)
   have hlt0 : w.heap.size < w1.heap.size := hbb.lt
   have hs0c := hs0.below hB1
   have hs1c := hs1.below hB1
   have hH := headL_len act trial fl ge
   obtain ⟨hd,hhd0⟩ : ∃ hd,headL act trial fl ge = hd := ⟨_,rfl⟩
   rw [hhd0] at hH ho
   have hhd := hide hhd0
   clear hhd0
   go_wp2_with fail
   clear k4 k5 k6 k7 k8 k9 hS0 hSA hstp
   have hz41 : (Tryz.prog.info? 41).map (·.size) = some 3 := by kernel_rfl
   go_loopw [4,29] (fun x u wr => ∃ (k m : Nat) (B : Option Addr) (d : Nat),k ≤ 2 ∧ u = .int .i64 (k : Int) ∧ x = .slice B m d ∧ Own wr w1.heap.size 5 B m d (outL hd L0 L1 k) ∧ Below w1.heap.size w1 wr) (fun _ u _ => 2 - (intOf u).toNat)
   case atStart => exact ⟨0,10,B',d',by omega,rfl,rfl,ho,hB⟩
   case round =>
     obtain ⟨k,m,B,d,hk,rfl,rfl,ho,hBr⟩ := hrel
     have hm : m ≤ 100 := by
       have a0 := hs0.len
       have a1 := hs1.len
       rw [← ho.len]
       match k,hk with
       | 0,_ => simp [outL,hH]
       | 1,_ => simp [outL,hH]; omega
       | 2,_ => simp [outL,hH]; omega
     by_cases hlt : k < 2
     · have hlt' : (k : Int) < 2 := by omega
       obtain ⟨vk,nk,hk',Lk,hrun,hsk,hout⟩ : ∃ vk nk hk' Lk,(∀ w,(Instr.index 42 (.agg #[.int .u32 (V v0),.int .i64 n0,h0,.int .u32 (V v1),.int .i64 n1,h1]) (.int .i64 (k : Int))).run Tryz.prog w = .ok (.agg (slotC vk nk hk')) w) ∧ SlotSt wr vk nk hk' Lk ∧ Hid (outL hd L0 L1 (k + 1) = outL hd L0 L1 k ++ Lk) := by
         match k,hlt with
         | 0,_ => exact ⟨v0,n0,h0,L0,fun w => run_index_slots w v0 v1 n0 n1 h0 h1 0 (by omega),hs0c.below hBr,hide rfl⟩
         | 1,_ => exact ⟨v1,n1,h1,L1,fun w => run_index_slots w v0 v1 n0 n1 h0 h1 1 (by omega),hs1c.below hBr,hide rfl⟩
       rcases hsk with ⟨rfl,rfl,rfl,rfl⟩ | ⟨q1,q2,A,c,b,rfl,hrd,hL⟩
       · have hz : Blk (wr.alloc (.cells (slotC 0#32 0 (.slice none 0 0)) 41)) wr.heap.size (slotC 0#32 0 (.slice none 0 0)) 41 := Blk.new _ _ _
         have hszs := size41 0#32 0 (.slice none 0 0)
         go_upto_region 7 with (first
           | ((with_reducible refine at_store ?_); refine wpList_store_row rfl 41 (.tmp 6) (.tmp 31) rfl wr.heap.size (slotC 0#32 0 (.slice none 0 0)) rfl rfl 41 (slotC 0#32 0 (.slice none 0 0)) hz hszs rfl (one41 _ _ _ _ _) ?_))
         have hBW : Below wr.heap.size wr (World.setRow (wr.alloc (.cells (slotC 0#32 0 (.slice none 0 0)) 41)) wr.heap.size (slotC 0#32 0 (.slice none 0 0))) := below_setRow (below_alloc1 _ _) (Nat.le_refl _) _
         have hz2 : Blk (World.setRow (wr.alloc (.cells (slotC 0#32 0 (.slice none 0 0)) 41)) wr.heap.size (slotC 0#32 0 (.slice none 0 0))) wr.heap.size (slotC 0#32 0 (.slice none 0 0)) 41 := setRow_heap _ _ _ _ _ _ hz
         change Code.wp _ _ _ _ (World.setRow (wr.alloc (.cells (slotC 0#32 0 (.slice none 0 0)) 41)) wr.heap.size (slotC 0#32 0 (.slice none 0 0)))
         generalize World.setRow (wr.alloc (.cells (slotC 0#32 0 (.slice none 0 0)) 41)) wr.heap.size (slotC 0#32 0 (.slice none 0 0)) = w3 at *
         go_wp2_with (first
           | ((with_reducible refine at_load ?_); refine wpList_load_row rfl 41 (.tmp 6) rfl wr.heap.size rfl 41 (slotC 0#32 0 (.slice none 0 0)) (0,0) _ hz2 Tryz.underlying41 rfl hszs ?_))
         refine (nothing_yes _).mono ?_
         rintro e w4 ⟨rfl,rfl⟩
         have hB4 : Below wr.heap.size wr (w3.alloc (.cells (slotC 0#32 0 (.slice none 0 0)) 41)) := ba hBW _
         have ho4 := ho.below hB4
         have hs4 := hB4.size
         have hsr := hBr.size
         generalize w3.alloc (.cells (slotC 0#32 0 (.slice none 0 0)) 41) = w4 at *
         go_wp2_with (at_builtin
                      refine wpList_append8 _ rfl _ _ _ rfl w1.heap.size 5 Tryz.underlying22 isByte B m d _ rfl (ho4.alloc _) (some ⟨w4.heap.size,0,none⟩) 1 1 [0] rfl (Rd.one w4 5 0) (by omega) (by simp; omega) ?_
                      intro A6 c6 w6 ho6 hb6 _ _)
         go_roundw
         case rel => exact ⟨k + 1,m + 1,A6,c6,by omega,by go_num,rfl,by rw [hout.out]; exact ho6,(hBr.trans (hB4.mono hBr.size)).alloc (by omega) _ |>.trans hb6⟩
         case measure => simp [intOf]; omega
       · have hz : Blk (wr.alloc (.cells (slotC 0#32 0 (.slice none 0 0)) 41)) wr.heap.size (slotC 0#32 0 (.slice none 0 0)) 41 := Blk.new _ _ _
         have hszs := size41 vk nk (.slice A 32 c)
         go_upto_region 7 with (first
           | ((with_reducible refine at_store ?_); refine wpList_store_row rfl 41 (.tmp 6) (.tmp 31) rfl wr.heap.size (slotC vk nk (.slice A 32 c)) rfl rfl 41 (slotC 0#32 0 (.slice none 0 0)) hz hszs rfl (one41 _ _ _ _ _) ?_))
         have hBW : Below wr.heap.size wr (World.setRow (wr.alloc (.cells (slotC 0#32 0 (.slice none 0 0)) 41)) wr.heap.size (slotC vk nk (.slice A 32 c))) := below_setRow (below_alloc1 _ _) (Nat.le_refl _) _
         have hz2 : Blk (World.setRow (wr.alloc (.cells (slotC 0#32 0 (.slice none 0 0)) 41)) wr.heap.size (slotC vk nk (.slice A 32 c))) wr.heap.size (slotC vk nk (.slice A 32 c)) 41 := setRow_heap _ _ _ _ _ _ hz
         change Code.wp _ _ _ _ (World.setRow (wr.alloc (.cells (slotC 0#32 0 (.slice none 0 0)) 41)) wr.heap.size (slotC vk nk (.slice A 32 c)))
         generalize World.setRow (wr.alloc (.cells (slotC 0#32 0 (.slice none 0 0)) 41)) wr.heap.size (slotC vk nk (.slice A 32 c)) = w3 at *
         go_wp2_with (first
           | ((with_reducible refine at_load ?_); refine wpList_load_row rfl 41 (.tmp 6) rfl wr.heap.size rfl 41 (slotC vk nk (.slice A 32 c)) (0,0) _ hz2 Tryz.underlying41 rfl hszs ?_))
         refine (nothing_no vk nk A c _ q1).mono ?_
         rintro e w4 ⟨rfl,rfl⟩
         have hB4 : Below wr.heap.size wr (w3.alloc (.cells (slotC vk nk (.slice A 32 c)) 41)) := ba hBW _
         have hz4 := hz2.alloc (.cells (slotC vk nk (.slice A 32 c)) 41)
         have hro := (ho.below hB4).rd
         have hrd4 := hrd.below hB4
         generalize w3.alloc (.cells (slotC vk nk (.slice A 32 c)) 41) = w4 at *
         clear hz hz2 hBW hrun
         have hstp := SlotAt.step hz4
         have hS0 : SlotAt wr.heap.size vk nk (.slice A 32 c) w4 w4.drew := ⟨⟨hz4.cell rfl,hz4.cell rfl,hz4.cell rfl⟩,(Below.refl _ _).drew⟩
         have hSA : ∀ o,SlotAt wr.heap.size vk nk (.slice A 32 c) w4 (w4.alloc o).drew := fun o => hstp w4.drew (w4.alloc o).drew hS0 ⟨rfl,rfl,rfl,(below_alloc1 w4 o).size,(below_alloc1 w4 o).block⟩
         have hSB : ∀ o o2,SlotAt wr.heap.size vk nk (.slice A 32 c) w4 ((w4.alloc o).alloc o2).drew := fun o o2 => hstp (w4.alloc o).drew ((w4.alloc o).alloc o2).drew (hSA o) ⟨rfl,rfl,rfl,(below_alloc1 (w4.alloc o) o2).size,(below_alloc1 (w4.alloc o) o2).block⟩
         have hNl : Hid ((outL hd L0 L1 k ++ [1] ++ four vk ++ [byt ((nk : Int) / 256),byt (nk : Int)] ++ b).length = m + 39) := hide (by
           have a1 := ho.len
           have a2 := hrd.1
           simp [four_len,a1,a2])
         have hsr := hBr.size
         have hs4 := hB4.size
         go_wp2_with fail
         go_region_held3 (fun w' => (w'.cell? ⟨wr.heap.size,0,none⟩ = some (.int .u32 (V vk)) ∧ w'.cell? ⟨wr.heap.size,1,none⟩ = some (.int .i64 nk) ∧ w'.cell? ⟨wr.heap.size,2,none⟩ = some (.slice A 32 c)) ∧ Below w4.heap.size w4 w')
           (first | (with_reducible exact hS0) | (with_reducible exact hSA _) | (with_reducible exact hSB _ _) | ((with_reducible refine hstp _ _ ?_ hb6); with_reducible assumption) | ((with_reducible refine hstp _ _ ?_ hb5); with_reducible assumption) | ((with_reducible refine hstp _ _ ?_ (below_alloc1 _ _)); with_reducible assumption))
           (first
             | (go_at_call 120; (with_reducible refine (sword_any vk _).mono ?_); rintro e w5 ⟨A5,d5,rfl,ho5,hb5⟩)
             | (go_at_call 119
                refine (concat_as _ 5 5 (m + 39) [outL hd L0 L1 k,[1],four vk,[byt ((nk : Int) / 256),byt (nk : Int)],b] (outL hd L0 L1 k ++ [1] ++ four vk ++ [byt ((nk : Int) / 256),byt (nk : Int)] ++ b) _ (by simp) hNl.out
                  (rdl_five (by first | exact cell3 _ _ _ _ _ 0 _ rfl | exact cell2 _ _ _ _ 0 _ rfl | exact cell1 _ _ _ 0 _ rfl) (by first | exact cell3 _ _ _ _ _ 1 _ rfl | exact cell2 _ _ _ _ 1 _ rfl | exact cell1 _ _ _ 1 _ rfl) (by first | exact cell3 _ _ _ _ _ 2 _ rfl | exact cell2 _ _ _ _ 2 _ rfl | exact cell1 _ _ _ 2 _ rfl) (by first | exact cell3 _ _ _ _ _ 3 _ rfl | exact cell2 _ _ _ _ 3 _ rfl | exact cell1 _ _ _ 3 _ rfl) (by first | exact cell3 _ _ _ _ _ 4 _ rfl | exact cell2 _ _ _ _ 4 _ rfl | exact cell1 _ _ _ 4 _ rfl)
                    (by repeat (first | (with_reducible exact hro.drew) | (with_reducible exact (hro.alloc _).drew) | (with_reducible exact ((hro.alloc _).alloc _).drew) | (with_reducible refine Rd.alloc ?_ _) | (with_reducible refine Rd.below ?_ hb5)))
                    (by repeat (first | (with_reducible exact rd_one1 _) | (with_reducible exact rd_one1' _ _) | (with_reducible exact (rd_one1 _).drew) | (with_reducible exact ((rd_one1 _).alloc _).drew) | (with_reducible exact (rd_one1' _ _).drew) | (with_reducible refine Rd.alloc ?_ _) | (with_reducible refine Rd.below ?_ hb5)))
                    (by repeat (first | (with_reducible exact ho5.rd) | (with_reducible refine Rd.alloc ?_ _)))
                    (by repeat (first | (with_reducible exact rd_mid2 _ nk) | (with_reducible exact rd_mid2' _ _ nk) | (with_reducible exact (rd_mid2 _ nk).drew) | (with_reducible exact ((rd_mid2 _ nk).alloc _).drew) | (with_reducible exact (rd_mid2' _ _ nk).drew) | (with_reducible refine Rd.alloc ?_ _) | (with_reducible refine Rd.below ?_ hb5)))
                    (by repeat (first | (with_reducible exact hrd4.drew) | (with_reducible exact (hrd4.alloc _).drew) | (with_reducible exact ((hrd4.alloc _).alloc _).drew) | (with_reducible refine Rd.alloc ?_ _) | (with_reducible refine Rd.below ?_ hb5)))) (by omega)).mono ?_
                rintro e w6 ⟨A6,d6,rfl,ho6,hb6⟩))
         all_goals
           have hs6 := hb6.size
           have hb6' : Below w4.heap.size w4 w6 := (show SlotAt wr.heap.size vk nk (.slice A 32 c) w4 w6 by assumption).2
           have ho6' : Own w6 w1.heap.size 5 A6 (m + 39) d6 (outL hd L0 L1 k ++ [1] ++ four vk ++ [byt ((nk : Int) / 256),byt (nk : Int)] ++ b) := ho6.mono (by have h2 := hb5.size; simp at h2 ⊢; omega)
           go_wp2_with fail
           go_roundw
           case rel => exact ⟨k + 1,m + 39,A6,d6,by omega,by go_num,rfl,by rw [hout.out,hL]; exact (by simpa using ho6'),(hBr.trans (hB4.mono hsr)).trans (hb6'.mono (by omega))⟩
           case measure => simp [intOf]; omega
     · obtain rfl : k = 2 := by omega
       have hbr := hbb.below hBr
       have k10 := hbr.cell (i := 10) (v := .bool false) (by rw [← Hst.out]; rfl)
       have hsr := hBr.size
       go_wp2_with (at_builtin
                    refine wpList_append8 _ rfl _ _ _ rfl w1.heap.size 5 Tryz.underlying22 isByte B m d _ rfl (ho.alloc _) (some ⟨wr.heap.size,0,none⟩) 1 1 [0] rfl (Rd.one wr 5 0) (by omega) (by simp; omega) ?_
                    intro A6 c6 w6 ho6 hb6 _ _)
       go_ret2
       have hs1' := hB1.size
       have e2 : outL hd L0 L1 2 ++ [0] = headL act trial fl ge ++ (L0 ++ (L1 ++ [0])) := by rw [hhd.out]; simp [outL]
       exact ⟨A6,m + 1,c6,rfl,by first | (rw [← e2]; exact ho6.mono hs1') | (have := ho6.mono hs1'; rw [e2] at this; simpa using this),below_next hB1 ((hBr.alloc hsr _).trans hb6)⟩
theorem stbytes_on (act trial : Nat) (fl ge v0 v1 : BitVec 32) (n0 n1 : Nat) (h0 h1 : Value) (L0 L1 hh : List UInt8) (s v : BitVec 32) (L S P : Nat) (Z : Option Addr) (z : Nat) (w : World) (hmk : manOk L S P = true) (hL : L ≤ 1000000) (hS : S ≤ 1000000) (hz0 : Rd w Z 32 z hh) (hs0 : SlotSt w v0 n0 h0 L0) (hs1 : SlotSt w v1 n1 h1 L1)
   (hmay : ∀ w',Below w.heap.size w w' → Calls Tryz.prog 102 #[.agg (steC act trial fl ge v0 n0 h0 v1 n1 h1 true s v L S P (.slice Z 32 z))] w' fun e w'' => e = .returned (.bool true) ∧ Below w'.heap.size w' w'') :
   Calls Tryz.prog 68 #[.agg (steC act trial fl ge v0 n0 h0 v1 n1 h1 true s v L S P (.slice Z 32 z))] w fun e w' => ∃ A N c,e = .returned (.tuple #[.slice A N c,.int .i64 0]) ∧ Own w' w.heap.size 5 A N c (headL act trial fl ge ++ L0 ++ L1 ++ ([1] ++ plainL s v L S P hh)) ∧ Below w.heap.size w w' := by
 obtain ⟨st,hst⟩ : ∃ st,steC act trial fl ge v0 n0 h0 v1 n1 h1 true s v L S P (.slice Z 32 z) = st := ⟨_,rfl⟩
 have g0 : st[0]? = some (.int .i64 act) := by rw [← hst]; rfl
 have g1 : st[1]? = some (.int .i64 trial) := by rw [← hst]; rfl
 have g2 : st[2]? = some (.int .u32 (V fl)) := by rw [← hst]; rfl
 have g3 : st[3]? = some (.int .u32 (V ge)) := by rw [← hst]; rfl
 have hsz : (Tryz.prog.info? 46).map (·.size) = some st.size := by
   have : (Tryz.prog.info? 46).map (·.size) = some 17 := by kernel_rfl
   rw [this,← hst]; rfl
 rw [hst] at hmay ⊢
 have Hst := hide hst
 clear hst
 have hb0 : Blk (w.alloc (.cells st 46)) w.heap.size st 46 := Blk.new _ _ _
 have hB0 : Below w.heap.size w (w.alloc (.cells st 46)) := below_alloc1 _ _
 have hm0 := hmay _ hB0
 clear hmay
 go_enter Tryz.func68,Tryz.ntmps68
 go_wp2_with (first
   | ((with_reducible refine at_load ?_); refine wpList_load_row rfl 46 (.tmp 1) rfl w.heap.size rfl 46 st (0,0) _ hb0 Tryz.underlying46 rfl hsz ?_))
 refine hm0.mono ?_
 rintro e w1 ⟨rfl,hb1⟩
 have hbb := hb0.below hb1
 have hB1 := below_next hB0 hb1
 have hstp := SteAt.step hbb g0 g1 g2 g3
 have hS0 : SteAt w.heap.size act trial fl ge w1 w1.drew := ⟨⟨hbb.cell g0,hbb.cell g1,hbb.cell g2,hbb.cell g3⟩,(Below.refl _ _).drew⟩
 have hSA : ∀ o,SteAt w.heap.size act trial fl ge w1 (w1.alloc o).drew := fun o => hstp w1.drew (w1.alloc o).drew hS0 ⟨rfl,rfl,rfl,(below_alloc1 w1 o).size,(below_alloc1 w1 o).block⟩
 clear hb0 hB0 hb1 hm0
 go_wp2_with fail
 go_cut [4] (fun x wx => ∃ B' d',x = .slice B' 10 d' ∧ Own wx w1.heap.size 5 B' 10 d' (headL act trial fl ge) ∧ Below w1.heap.size w1 wx)
 case first =>
   go_region_held3 (fun w' => (w'.cell? ⟨w.heap.size,0,none⟩ = some (.int .i64 act) ∧ w'.cell? ⟨w.heap.size,1,none⟩ = some (.int .i64 trial) ∧ w'.cell? ⟨w.heap.size,2,none⟩ = some (.int .u32 (V fl)) ∧ w'.cell? ⟨w.heap.size,3,none⟩ = some (.int .u32 (V ge))) ∧ Below w1.heap.size w1 w')
     (first | (with_reducible exact hS0) | (with_reducible exact hSA _) | ((with_reducible refine hstp _ _ ?_ hb4); with_reducible assumption) | ((with_reducible refine hstp _ _ ?_ hb3); with_reducible assumption) | ((with_reducible refine hstp _ _ ?_ hb2); with_reducible assumption) | ((with_reducible refine hstp _ _ ?_ (below_alloc1 _ _)); with_reducible assumption))
     (first
       | (go_at_call 120; first | ((with_reducible refine (sword_any fl _).mono ?_); rintro e w2 ⟨A2,d2,rfl,ho2,hb2⟩) | ((with_reducible refine (sword_any ge _).mono ?_); rintro e w3 ⟨A3,d3,rfl,ho3,hb3⟩))
       | (go_at_call 119
          refine (concat_as _ 3 3 10 [[byt (act : Int),byt (trial : Int)],four fl,four ge] (headL act trial fl ge) _ (by simp [headL]) (headL_len _ _ _ _)
            (rdl_three (by first | exact cell2 _ _ _ _ 0 _ rfl | exact cell1 _ _ _ 0 _ rfl) (by first | exact cell2 _ _ _ _ 1 _ rfl | exact cell1 _ _ _ 1 _ rfl) (by first | exact cell2 _ _ _ _ 2 _ rfl | exact cell1 _ _ _ 2 _ rfl)
              (by repeat (first | (with_reducible exact rd_two _ act trial) | (with_reducible exact (rd_two _ act trial).drew) | (with_reducible refine Rd.alloc ?_ _) | (with_reducible refine Rd.below ?_ hb3) | (with_reducible refine Rd.below ?_ hb2)))
              (by repeat (first | (with_reducible exact ho2.rd) | (with_reducible refine Rd.alloc ?_ _) | (with_reducible refine Rd.below ?_ hb3)))
              (by repeat (first | (with_reducible exact ho3.rd) | (with_reducible refine Rd.alloc ?_ _)))) (by omega)).mono ?_
          rintro e w4 ⟨A4,d4,rfl,ho4,hb4⟩))
   all_goals
     go_wp2_with fail
     go_meet
     exact ⟨A4,d4,rfl,ho4.mono (by have h2 := hb2.size; have h3 := hb3.size; simp at h2 h3 ⊢; omega),(show SteAt w.heap.size act trial fl ge w1 w4 by assumption).2⟩
 case rest =>
   obtain ⟨B',d',rfl,ho,hB⟩ := hcut
   have hbc := hbb.below hB
   have k4 := hbc.cell (i := 4) (v := .int .u32 (V v0)) (by rw [← Hst.out]; rfl)
   have k5 := hbc.cell (i := 5) (v := .int .i64 n0) (by rw [← Hst.out]; rfl)
   have k6 := hbc.cell (i := 6) (v := h0) (by rw [← Hst.out]; rfl)
   have k7 := hbc.cell (i := 7) (v := .int .u32 (V v1)) (by rw [← Hst.out]; rfl)
   have k8 := hbc.cell (i := 8) (v := .int .i64 n1) (by rw [← Hst.out]; rfl)
   have k9 := hbc.cell (i := 9) (v := h1) (by rw [← Hst.out]; rfl)
   have hlt0 : w.heap.size < w1.heap.size := hbb.lt
   have hs0c := hs0.below hB1
   have hs1c := hs1.below hB1
   have hH := headL_len act trial fl ge
   obtain ⟨hd,hhd0⟩ : ∃ hd,headL act trial fl ge = hd := ⟨_,rfl⟩
   rw [hhd0] at hH ho
   have hhd := hide hhd0
   clear hhd0
   go_wp2_with fail
   clear k4 k5 k6 k7 k8 k9 hS0 hSA hstp
   have hz41 : (Tryz.prog.info? 41).map (·.size) = some 3 := by kernel_rfl
   go_loopw [4,29] (fun x u wr => ∃ (k m : Nat) (B : Option Addr) (d : Nat),k ≤ 2 ∧ u = .int .i64 (k : Int) ∧ x = .slice B m d ∧ Own wr w1.heap.size 5 B m d (outL hd L0 L1 k) ∧ Below w1.heap.size w1 wr) (fun _ u _ => 2 - (intOf u).toNat)
   case atStart => exact ⟨0,10,B',d',by omega,rfl,rfl,ho,hB⟩
   case round =>
     obtain ⟨k,m,B,d,hk,rfl,rfl,ho,hBr⟩ := hrel
     have hm : m ≤ 100 := by
       have a0 := hs0.len
       have a1 := hs1.len
       rw [← ho.len]
       match k,hk with
       | 0,_ => simp [outL,hH]
       | 1,_ => simp [outL,hH]; omega
       | 2,_ => simp [outL,hH]; omega
     by_cases hlt : k < 2
     · have hlt' : (k : Int) < 2 := by omega
       obtain ⟨vk,nk,hk',Lk,hrun,hsk,hout⟩ : ∃ vk nk hk' Lk,(∀ w,(Instr.index 42 (.agg #[.int .u32 (V v0),.int .i64 n0,h0,.int .u32 (V v1),.int .i64 n1,h1]) (.int .i64 (k : Int))).run Tryz.prog w = .ok (.agg (slotC vk nk hk')) w) ∧ SlotSt wr vk nk hk' Lk ∧ Hid (outL hd L0 L1 (k + 1) = outL hd L0 L1 k ++ Lk) := by
         match k,hlt with
         | 0,_ => exact ⟨v0,n0,h0,L0,fun w => run_index_slots w v0 v1 n0 n1 h0 h1 0 (by omega),hs0c.below hBr,hide rfl⟩
         | 1,_ => exact ⟨v1,n1,h1,L1,fun w => run_index_slots w v0 v1 n0 n1 h0 h1 1 (by omega),hs1c.below hBr,hide rfl⟩
       rcases hsk with ⟨rfl,rfl,rfl,rfl⟩ | ⟨q1,q2,A,c,b,rfl,hrd,hL⟩
       · have hz : Blk (wr.alloc (.cells (slotC 0#32 0 (.slice none 0 0)) 41)) wr.heap.size (slotC 0#32 0 (.slice none 0 0)) 41 := Blk.new _ _ _
         have hszs := size41 0#32 0 (.slice none 0 0)
         go_upto_region 7 with (first
           | ((with_reducible refine at_store ?_); refine wpList_store_row rfl 41 (.tmp 6) (.tmp 31) rfl wr.heap.size (slotC 0#32 0 (.slice none 0 0)) rfl rfl 41 (slotC 0#32 0 (.slice none 0 0)) hz hszs rfl (one41 _ _ _ _ _) ?_))
         have hBW : Below wr.heap.size wr (World.setRow (wr.alloc (.cells (slotC 0#32 0 (.slice none 0 0)) 41)) wr.heap.size (slotC 0#32 0 (.slice none 0 0))) := below_setRow (below_alloc1 _ _) (Nat.le_refl _) _
         have hz2 : Blk (World.setRow (wr.alloc (.cells (slotC 0#32 0 (.slice none 0 0)) 41)) wr.heap.size (slotC 0#32 0 (.slice none 0 0))) wr.heap.size (slotC 0#32 0 (.slice none 0 0)) 41 := setRow_heap _ _ _ _ _ _ hz
         change Code.wp _ _ _ _ (World.setRow (wr.alloc (.cells (slotC 0#32 0 (.slice none 0 0)) 41)) wr.heap.size (slotC 0#32 0 (.slice none 0 0)))
         generalize World.setRow (wr.alloc (.cells (slotC 0#32 0 (.slice none 0 0)) 41)) wr.heap.size (slotC 0#32 0 (.slice none 0 0)) = w3 at *
         go_wp2_with (first
           | ((with_reducible refine at_load ?_); refine wpList_load_row rfl 41 (.tmp 6) rfl wr.heap.size rfl 41 (slotC 0#32 0 (.slice none 0 0)) (0,0) _ hz2 Tryz.underlying41 rfl hszs ?_))
         refine (nothing_yes _).mono ?_
         rintro e w4 ⟨rfl,rfl⟩
         have hB4 : Below wr.heap.size wr (w3.alloc (.cells (slotC 0#32 0 (.slice none 0 0)) 41)) := ba hBW _
         have ho4 := ho.below hB4
         have hs4 := hB4.size
         have hsr := hBr.size
         generalize w3.alloc (.cells (slotC 0#32 0 (.slice none 0 0)) 41) = w4 at *
         go_wp2_with (at_builtin
                      refine wpList_append8 _ rfl _ _ _ rfl w1.heap.size 5 Tryz.underlying22 isByte B m d _ rfl (ho4.alloc _) (some ⟨w4.heap.size,0,none⟩) 1 1 [0] rfl (Rd.one w4 5 0) (by omega) (by simp; omega) ?_
                      intro A6 c6 w6 ho6 hb6 _ _)
         go_roundw
         case rel => exact ⟨k + 1,m + 1,A6,c6,by omega,by go_num,rfl,by rw [hout.out]; exact ho6,(hBr.trans (hB4.mono hBr.size)).alloc (by omega) _ |>.trans hb6⟩
         case measure => simp [intOf]; omega
       · have hz : Blk (wr.alloc (.cells (slotC 0#32 0 (.slice none 0 0)) 41)) wr.heap.size (slotC 0#32 0 (.slice none 0 0)) 41 := Blk.new _ _ _
         have hszs := size41 vk nk (.slice A 32 c)
         go_upto_region 7 with (first
           | ((with_reducible refine at_store ?_); refine wpList_store_row rfl 41 (.tmp 6) (.tmp 31) rfl wr.heap.size (slotC vk nk (.slice A 32 c)) rfl rfl 41 (slotC 0#32 0 (.slice none 0 0)) hz hszs rfl (one41 _ _ _ _ _) ?_))
         have hBW : Below wr.heap.size wr (World.setRow (wr.alloc (.cells (slotC 0#32 0 (.slice none 0 0)) 41)) wr.heap.size (slotC vk nk (.slice A 32 c))) := below_setRow (below_alloc1 _ _) (Nat.le_refl _) _
         have hz2 : Blk (World.setRow (wr.alloc (.cells (slotC 0#32 0 (.slice none 0 0)) 41)) wr.heap.size (slotC vk nk (.slice A 32 c))) wr.heap.size (slotC vk nk (.slice A 32 c)) 41 := setRow_heap _ _ _ _ _ _ hz
         change Code.wp _ _ _ _ (World.setRow (wr.alloc (.cells (slotC 0#32 0 (.slice none 0 0)) 41)) wr.heap.size (slotC vk nk (.slice A 32 c)))
         generalize World.setRow (wr.alloc (.cells (slotC 0#32 0 (.slice none 0 0)) 41)) wr.heap.size (slotC vk nk (.slice A 32 c)) = w3 at *
         go_wp2_with (first
           | ((with_reducible refine at_load ?_); refine wpList_load_row rfl 41 (.tmp 6) rfl wr.heap.size rfl 41 (slotC vk nk (.slice A 32 c)) (0,0) _ hz2 Tryz.underlying41 rfl hszs ?_))
         refine (nothing_no vk nk A c _ q1).mono ?_
         rintro e w4 ⟨rfl,rfl⟩
         have hB4 : Below wr.heap.size wr (w3.alloc (.cells (slotC vk nk (.slice A 32 c)) 41)) := ba hBW _
         have hz4 := hz2.alloc (.cells (slotC vk nk (.slice A 32 c)) 41)
         have hro := (ho.below hB4).rd
         have hrd4 := hrd.below hB4
         generalize w3.alloc (.cells (slotC vk nk (.slice A 32 c)) 41) = w4 at *
         clear hz hz2 hBW hrun
         have hstp := SlotAt.step hz4
         have hS0 : SlotAt wr.heap.size vk nk (.slice A 32 c) w4 w4.drew := ⟨⟨hz4.cell rfl,hz4.cell rfl,hz4.cell rfl⟩,(Below.refl _ _).drew⟩
         have hSA : ∀ o,SlotAt wr.heap.size vk nk (.slice A 32 c) w4 (w4.alloc o).drew := fun o => hstp w4.drew (w4.alloc o).drew hS0 ⟨rfl,rfl,rfl,(below_alloc1 w4 o).size,(below_alloc1 w4 o).block⟩
         have hSB : ∀ o o2,SlotAt wr.heap.size vk nk (.slice A 32 c) w4 ((w4.alloc o).alloc o2).drew := fun o o2 => hstp (w4.alloc o).drew ((w4.alloc o).alloc o2).drew (hSA o) ⟨rfl,rfl,rfl,(below_alloc1 (w4.alloc o) o2).size,(below_alloc1 (w4.alloc o) o2).block⟩
         have hNl : Hid ((outL hd L0 L1 k ++ [1] ++ four vk ++ [byt ((nk : Int) / 256),byt (nk : Int)] ++ b).length = m + 39) := hide (by
           have a1 := ho.len
           have a2 := hrd.1
           simp [four_len,a1,a2])
         have hsr := hBr.size
         have hs4 := hB4.size
         go_wp2_with fail
         go_region_held3 (fun w' => (w'.cell? ⟨wr.heap.size,0,none⟩ = some (.int .u32 (V vk)) ∧ w'.cell? ⟨wr.heap.size,1,none⟩ = some (.int .i64 nk) ∧ w'.cell? ⟨wr.heap.size,2,none⟩ = some (.slice A 32 c)) ∧ Below w4.heap.size w4 w')
           (first | (with_reducible exact hS0) | (with_reducible exact hSA _) | (with_reducible exact hSB _ _) | ((with_reducible refine hstp _ _ ?_ hb6); with_reducible assumption) | ((with_reducible refine hstp _ _ ?_ hb5); with_reducible assumption) | ((with_reducible refine hstp _ _ ?_ (below_alloc1 _ _)); with_reducible assumption))
           (first
             | (go_at_call 120; (with_reducible refine (sword_any vk _).mono ?_); rintro e w5 ⟨A5,d5,rfl,ho5,hb5⟩)
             | (go_at_call 119
                refine (concat_as _ 5 5 (m + 39) [outL hd L0 L1 k,[1],four vk,[byt ((nk : Int) / 256),byt (nk : Int)],b] (outL hd L0 L1 k ++ [1] ++ four vk ++ [byt ((nk : Int) / 256),byt (nk : Int)] ++ b) _ (by simp) hNl.out
                  (rdl_five (by first | exact cell3 _ _ _ _ _ 0 _ rfl | exact cell2 _ _ _ _ 0 _ rfl | exact cell1 _ _ _ 0 _ rfl) (by first | exact cell3 _ _ _ _ _ 1 _ rfl | exact cell2 _ _ _ _ 1 _ rfl | exact cell1 _ _ _ 1 _ rfl) (by first | exact cell3 _ _ _ _ _ 2 _ rfl | exact cell2 _ _ _ _ 2 _ rfl | exact cell1 _ _ _ 2 _ rfl) (by first | exact cell3 _ _ _ _ _ 3 _ rfl | exact cell2 _ _ _ _ 3 _ rfl | exact cell1 _ _ _ 3 _ rfl) (by first | exact cell3 _ _ _ _ _ 4 _ rfl | exact cell2 _ _ _ _ 4 _ rfl | exact cell1 _ _ _ 4 _ rfl)
                    (by repeat (first | (with_reducible exact hro.drew) | (with_reducible exact (hro.alloc _).drew) | (with_reducible exact ((hro.alloc _).alloc _).drew) | (with_reducible refine Rd.alloc ?_ _) | (with_reducible refine Rd.below ?_ hb5)))
                    (by repeat (first | (with_reducible exact rd_one1 _) | (with_reducible exact rd_one1' _ _) | (with_reducible exact (rd_one1 _).drew) | (with_reducible exact ((rd_one1 _).alloc _).drew) | (with_reducible exact (rd_one1' _ _).drew) | (with_reducible refine Rd.alloc ?_ _) | (with_reducible refine Rd.below ?_ hb5)))
                    (by repeat (first | (with_reducible exact ho5.rd) | (with_reducible refine Rd.alloc ?_ _)))
                    (by repeat (first | (with_reducible exact rd_mid2 _ nk) | (with_reducible exact rd_mid2' _ _ nk) | (with_reducible exact (rd_mid2 _ nk).drew) | (with_reducible exact ((rd_mid2 _ nk).alloc _).drew) | (with_reducible exact (rd_mid2' _ _ nk).drew) | (with_reducible refine Rd.alloc ?_ _) | (with_reducible refine Rd.below ?_ hb5)))
                    (by repeat (first | (with_reducible exact hrd4.drew) | (with_reducible exact (hrd4.alloc _).drew) | (with_reducible exact ((hrd4.alloc _).alloc _).drew) | (with_reducible refine Rd.alloc ?_ _) | (with_reducible refine Rd.below ?_ hb5)))) (by omega)).mono ?_
                rintro e w6 ⟨A6,d6,rfl,ho6,hb6⟩))
         all_goals
           have hs6 := hb6.size
           have hb6' : Below w4.heap.size w4 w6 := (show SlotAt wr.heap.size vk nk (.slice A 32 c) w4 w6 by assumption).2
           have ho6' : Own w6 w1.heap.size 5 A6 (m + 39) d6 (outL hd L0 L1 k ++ [1] ++ four vk ++ [byt ((nk : Int) / 256),byt (nk : Int)] ++ b) := ho6.mono (by have h2 := hb5.size; simp at h2 ⊢; omega)
           go_wp2_with fail
           go_roundw
           case rel => exact ⟨k + 1,m + 39,A6,d6,by omega,by go_num,rfl,by rw [hout.out,hL]; exact (by simpa using ho6'),(hBr.trans (hB4.mono hsr)).trans (hb6'.mono (by omega))⟩
           case measure => simp [intOf]; omega
     · obtain rfl : k = 2 := by omega
       have hbr := hbb.below hBr
       have k10 := hbr.cell (i := 10) (v := .bool true) (by rw [← Hst.out]; rfl)
       have hsr := hBr.size
       have hzr := hz0.below (below_next hB1 hBr)
       have hs1' := hB1.size
       have hmm := plain_any s v L S P Z z hh wr hmk hL hS hzr
       go_upto_region 13 with fail
       have k11 := hbr.cell (i := 11) (v := .int .u32 (V s)) (by rw [← Hst.out]; rfl)
       have k12 := hbr.cell (i := 12) (v := .int .u32 (V v)) (by rw [← Hst.out]; rfl)
       have k13 := hbr.cell (i := 13) (v := .int .i64 L) (by rw [← Hst.out]; rfl)
       have k14 := hbr.cell (i := 14) (v := .int .i64 S) (by rw [← Hst.out]; rfl)
       have k15 := hbr.cell (i := 15) (v := .int .i64 P) (by rw [← Hst.out]; rfl)
       have k16 := hbr.cell (i := 16) (v := .slice Z 32 z) (by rw [← Hst.out]; rfl)
       go_wp2_with fail
       unfold manC at hmm
       refine hmm.mono ?_
       rintro e w5 ⟨A5,d5,rfl,ho5,hb5⟩
       have ho' := ho.below hb5
       go_wp2_with fail
       have hPl : (plainL s v L S P hh).length = 44 := by rw [plainL_len,hz0.1]
       have hNl : Hid ((outL hd L0 L1 2 ++ [1] ++ plainL s v L S P hh).length = m + 45) := hide (by
         have a1 := ho.len
         simp [a1,hPl])
       have hro := ho'.rd
       refine (concat_as _ 3 3 (m + 45) [outL hd L0 L1 2,[1],plainL s v L S P hh] (outL hd L0 L1 2 ++ [1] ++ plainL s v L S P hh) _ (by simp) hNl.out
         (rdl_three (cell2 _ _ _ _ 0 _ rfl) (cell2 _ _ _ _ 1 _ rfl) (cell2 _ _ _ _ 2 _ rfl) ((hro.alloc _).alloc _) ((rd_one1 _).alloc _) ((ho5.rd.alloc _).alloc _)) (by omega)).mono ?_
       rintro e w6 ⟨A6,d6,rfl,ho6,hb6⟩
       go_wp2_with fail
       go_ret2
       have hs5 := hb5.size
       have e2 : outL hd L0 L1 2 ++ [1] ++ plainL s v L S P hh = headL act trial fl ge ++ L0 ++ L1 ++ ([1] ++ plainL s v L S P hh) := by rw [hhd.out]; simp [outL]
       rw [e2] at ho6
       exact ⟨A6,m + 45,d6,rfl,ho6.mono (by simp; omega),below_next (below_next hB1 (hBr.trans (hb5.mono hsr))) (below_next (ba (below_alloc1 _ _) _) hb6)⟩
end Go.Proofs.YtkkcpblfheplaaaGreatDoor
