/- Contracts of functions that the laws of downpourtop reach, and plain facts; no condition beyond what each theorem states. -/
import Derived.Test.YtkkcpblfheplaaaGreatDoorMR01
set_option maxRecDepth 100000
set_option maxHeartbeats 8000000
set_option linter.all false
namespace Go.Proofs.YtkkcpblfheplaaaGreatDoor
open Go.RowKit
theorem table_any (w : World) : Calls Tryz.prog 55 #[] w fun e w' => e = .returned (.agg (cw KS)) ∧ Below w.heap.size w w' := by
 have e0 : (Tryz.prog.info? 106).map (·.size) = some (cw KS).size := by
   have h1 : (Tryz.prog.info? 106).map (·.size) = some 64 := by kernel_rfl
   rw [h1,cw_size,KS_len]
 have e1 : (cw zeros).size = (cw KS).size := by rw [cw_size,cw_size,KS_len]; rfl
 have hone := cw_one KS
 have hz : (w.alloc (.cells (cw zeros) 106)).heap[w.heap.size]? = some (.cells (cw zeros) 106 (0,0)) := heap_alloc_new w _
 go_enter Tryz.func55,Tryz.ntmps55
 go_wp2_with (first
   | (refine wpList_build_as rfl 106 _ rfl (cw KS) (by kernel_rfl) ?_)
   | (refine wpList_store_row rfl _ _ _ rfl w.heap.size (cw KS) rfl rfl 106 (cw zeros) hz e0 e1 hone ?_))
 refine bodyPost_ret (results_cell_row Tryz.results55 _ _ w.heap.size 106 (cw KS) (0,0) _ rfl (setRow_heap _ _ _ _ _ _ hz) Tryz.underlying106 rfl e0) rfl ?_
 exact ⟨rfl,below_setRow ((Below.refl _ _).alloc (Nat.le_refl _) _) (Nat.le_refl _) _⟩
theorem turn_still (x : BitVec 32) (n : Nat) (hn0 : 0 < n) (hn : n < 32) (w : World) : Calls Tryz.prog 58 #[.int .u32 (V x),.int .u64 n] w fun e w'' => e = .returned (.int .u32 (V (rotr x n))) ∧ w'' = w :=
 (turn_any x n hn0 hn w).mono fun _ _ h => ⟨h.1,h.2.symm⟩
theorem V_mixr (a b y c d x p q : BitVec 32) : (V p + bits .xor .u32 (bits .xor .u32 (V a) (V b)) (V y / (8 : Int)) + V q + bits .xor .u32 (bits .xor .u32 (V c) (V d)) (V x / (1024 : Int))) % (4294967296 : Int) = V ((c ^^^ d ^^^ x >>> 10) + q + (a ^^^ b ^^^ y >>> 3) + p) := by
 have e1 : V y / (8 : Int) = V (y >>> 3) := V_shr y 3
 have e2 : V x / (1024 : Int) = V (x >>> 10) := V_shr x 10
 rw [e1,e2,V_xor,V_xor,V_xor,V_xor]
 unfold V
 simp only [BitVec.toNat_add]
 omega
theorem V_addw (p q : BitVec 32) : IntKind.u32.wrap (V p + V q) = V (p + q) := by
 rw [IntKind.wrap_u32]; exact V_add p q
theorem run_index_words1 (w : World) (S : List (BitVec 32)) (hS : S.length = 8) (i : Nat) (hi : i < 8) : (Instr.index 101 (.agg (cw S)) (.int .i64 (i : Int))).run Tryz.prog w = .ok (.int .u32 (V (S.getD i 0#32))) w := by
 have hg := cw_get S i (by omega)
 have hu : Tryz.prog.underlying 101 = some (.array 8 30) := Tryz.underlying101
 have hi30 : (Tryz.prog.info? 30).map (fun i => (i.size)) = some 1 := by kernel_rfl
 have ha : (Tryz.prog.underlying 30) = some (.int .u32) := Tryz.underlying30
 have h0 : (0 : Int) ≤ (i : Int) ∧ (i : Int) < ((8 : Nat) : Int) := by omega
 cases hq : Tryz.prog.info? 30 with
 | none => rw [hq] at hi30; cases hi30
 | some t =>
   rw [hq] at hi30
   have ht : t.size = 1 := by simpa using hi30
   simp [Instr.index,run_underlying hu,asIntOf,h0,part,sizeOf,typeInfo,hq,ht,run_underlying ha,hg,go_sem]
   omega
theorem rdigest_any (A : Option Addr) (n c : Nat) (l : List UInt8) (w : World) (hr : Rd w A n c l) (hn : n ≤ 1000000) :
   Calls Tryz.prog 20 #[.slice A n c] w fun e w' => ∃ A' c',e = .returned (.slice A' 32 c') ∧ Own w' w.heap.size 5 A' 32 c' (sha l) ∧ Below w.heap.size w w' := by
 have hsz1 : ∀ L : List (BitVec 32),L.length = 8 → (Tryz.prog.info? 101).map (·.size) = some (cw L).size := fun L h => by rw [cw_size,h]; kernel_rfl
 have hsz6 : ∀ L : List (BitVec 32),L.length = 64 → (Tryz.prog.info? 106).map (·.size) = some (cw L).size := fun L h => by rw [cw_size,h]; kernel_rfl
 have Hl := hide hr.1
 have hp := padz_lt n
 have hn8 : (n : Int) ≤ 1000000 := by omega
 have hH := hsz1 H0 H0_len
 have hH1 := cw_one H0
 have hz : (cw z8).size = (cw H0).size := by rw [cw_size,cw_size,H0_len]; rfl
 have hZ : Arr (w.alloc (.cells (cw z8) 101)) w.heap.size 101 z8 := Arr.new _ _ _
 go_enter Tryz.func20,Tryz.ntmps20
 go_upto_region 2 with (first
   | (refine wpList_build_as rfl 101 _ rfl (cw H0) (by kernel_rfl) ?_)
   | ((with_reducible refine at_store ?_); refine wpList_store_row rfl 101 (.tmp 3) (.tmp 20) rfl w.heap.size (cw H0) rfl rfl 101 (cw z8) hZ hH hz hH1 ?_))
 have hS := hZ.setSame H0
 have hB := below_setRow ((Below.refl _ w).alloc (Nat.le_refl _) (.cells (cw z8) 101)) (g := w.heap.size) (Nat.le_refl _) (cw H0)
 change Code.wp _ _ _ _ (World.setRow (w.alloc (.cells (cw z8) 101)) w.heap.size (cw H0))
 generalize World.setRow (w.alloc (.cells (cw z8) 101)) w.heap.size (cw H0) = w1 at *
 clear hZ hz hH hH1
 go_wp2_with fail
 refine (table_any w1).mono ?_
 rintro e w2 ⟨rfl,hb2⟩
 have hS2 := hS.below hb2
 have hB2 := below_next hB hb2
 have hs2 := hB2.size
 have hK6 := hsz6 KS KS_len
 have hK1 := cw_one KS
 have hzK : (cw zeros).size = (cw KS).size := by rw [cw_size,cw_size,KS_len]; rfl
 have hZ3 : Arr (w2.alloc (.cells (cw zeros) 106)) w2.heap.size 106 zeros := Arr.new _ _ _
 go_upto_region 3 with (first
   | ((with_reducible refine at_store ?_); refine wpList_store_row rfl 106 (.tmp 4) (.tmp 21) rfl w2.heap.size (cw KS) rfl rfl 106 (cw zeros) hZ3 hK6 hzK hK1 ?_))
 have hK3 := hZ3.setSame KS
 have hxk : w.heap.size ≠ w2.heap.size := by have := hS2.lt; omega
 have hS3 := (hS2.alloc (.cells (cw zeros) 106)).setOther hxk (cw KS)
 have hB3 := below_setRow (hB2.alloc hs2 (.cells (cw zeros) 106)) (g := w2.heap.size) hs2 (cw KS)
 obtain ⟨kx,hkx⟩ : ∃ kx,w2.heap.size = kx := ⟨_,rfl⟩
 change Code.wp _ _ _ _ (World.setRow (w2.alloc (.cells (cw zeros) 106)) w2.heap.size (cw KS))
 generalize World.setRow (w2.alloc (.cells (cw zeros) 106)) w2.heap.size (cw KS) = w3 at *
 have hlk : w.heap.size < w2.heap.size := hS2.lt
 rw [hkx] at *
 clear hZ3 hzK hS hS2 hB hB2 hb2 hs2 hkx
 have hr3 := hr.below hB3
 have hs3 := hB3.size
 have h80 : ∀ w : World,Rd (w.alloc (.cells #[.int .u8 128] 5)) (some ⟨w.heap.size,0,none⟩) 1 1 [0x80] := fun w => Rd.one w 5 128
 have h00 : ∀ w : World,Rd (w.alloc (.cells #[.int .u8 0] 5)) (some ⟨w.heap.size,0,none⟩) 1 1 [0] := fun w => Rd.one w 5 0
 go_wp2_with (first
   | (at_builtin
      refine wpList_append8 w3 rfl _ _ _ rfl w3.heap.size 5 Tryz.underlying22 isByte none 0 0 [] rfl (Own.nil _ _ _) A n c l rfl hr3 (by omega) (Nat.le_refl _) ?_
      intro A1 c1 w4 ho1 hb1 _ _
      simp only [Nat.zero_add,List.nil_append] at ho1 ⊢)
   | (at_builtin
      refine wpList_append8 _ rfl _ _ _ rfl w3.heap.size 5 Tryz.underlying22 isByte A1 n c1 _ rfl (ho1.alloc _) (some ⟨w4.heap.size,0,none⟩) 1 1 [0x80] rfl (h80 _) (by omega) (by have := hb1.size; simp; omega) ?_
      intro A2 c2 w5 ho2 hb2 _ _))
 have hb2' : Below w3.heap.size w3 w5 := (hb1.alloc hb1.size _).trans hb2
 clear hb1 hb2 ho1
 go_loopw [6] (fun v wr => ∃ k A' c',k ≤ padz n ∧ v = .slice A' (n + 1 + k) c' ∧ Own wr w3.heap.size 5 A' (n + 1 + k) c' (l ++ [0x80] ++ List.replicate k 0) ∧ Below w3.heap.size w3 wr) (fun v _ => match v with | .slice _ m _ => n + 100 - m | _ => 0)
 case atStart => exact ⟨0,A2,c2,by omega,rfl,by simpa using ho2,hb2'⟩
 case round =>
   clear ho2 hb2'
   obtain ⟨k,A3,c3,hk,rfl,ho3,hb3⟩ := hrel
   by_cases hlt : k < padz n
   · have hne : ((((n + 1 + k : Nat)) : Int) % 64 != 56) = true := by
       have := padz_before n k hlt
       simp; omega
     obtain ⟨m,hm⟩ : ∃ m,n + 1 + k = m := ⟨_,rfl⟩
     rw [hm] at hne ho3 ⊢
     have Hm := hide hm
     have hm2 : m ≤ 1000100 := by omega
     clear hm
     go_wp2_with (at_builtin
                  refine wpList_append8 _ rfl _ _ _ rfl w3.heap.size 5 Tryz.underlying22 isByte A3 m c3 _ rfl (ho3.alloc _) (some ⟨wr.heap.size,0,none⟩) 1 1 [0] rfl (h00 _) (by omega) (by have := hb3.size; simp; omega) ?_
                  intro A4 c4 w4 ho4 hb4 _ _)
     go_roundw
     case rel => exact ⟨k + 1,A4,c4,by omega,by rw [← Hm.out]; rfl,by rw [List.replicate_succ',← List.append_assoc,show n + 1 + (k + 1) = m + 1 by have := Hm.out; omega]; exact ho4,(hb3.alloc hb3.size _).trans hb4⟩
     case measure => have := Hm.out; simp; omega
   · obtain rfl : k = padz n := by omega
     have hne : ((((n + 1 + padz n : Nat)) : Int) % 64 != 56) = false := by
       have := padz_at n
       simp; omega
     obtain ⟨m,hm⟩ : ∃ m,n + 1 + padz n = m := ⟨_,rfl⟩
     have hf : fill l = l ++ [0x80] ++ List.replicate (padz n) 0 ++ four 0#32 ++ four (BitVec.ofNat 32 (8 * n)) := by
       unfold fill
       rw [Hl.out,eight_four _ (by omega),← List.append_assoc]
     rw [hm] at hne ho3 ⊢
     have hm2 : m ≤ 1000100 := by omega
     have hlen := fill_len l
     rw [Hl.out] at hlen
     obtain ⟨M,hM⟩ := fill_blocks l
     have hN : m + 8 = 64 * M := by omega
     have Hf := hide hf
     have HM := hide hM
     have HN := hide hN
     clear hm hf hlen hM hN hp hk hlt
     obtain ⟨nb,hnb⟩ : ∃ nb,BitVec.ofNat 32 (8 * n) = nb := ⟨_,rfl⟩
     have Hnb := hide hnb
     obtain ⟨N8,hN8⟩ : ∃ N8 : Nat,8 * n = N8 := ⟨_,rfl⟩
     have e1 : (n : Int) * 8 = (N8 : Int) := by omega
     have e2 : (N8 : Int) / 4294967296 = 0 := by omega
     have e3 : (N8 : Int) ≤ 8000000 := by omega
     have e4 : V nb = (N8 : Int) := by rw [← hnb]; unfold V; rw [BitVec.toNat_ofNat]; omega
     have hf1 : ∀ w,Calls Tryz.prog 56 #[.int .u32 0] w _ := fun w => rfour_any 0#32 w
     have hf2 : ∀ w,Calls Tryz.prog 56 #[.int .u32 (N8 : Int)] w _ := fun w => by rw [← e4]; exact rfour_any nb w
     have HN8 := hide hN8
     clear hnb hN8 e4
     obtain ⟨W0,hW0⟩ : ∃ W0,W0 = wr := ⟨_,rfl⟩
     subst hW0
     go_wp2_with fail
     refine (hf1 _).mono ?_
     rintro e w4 ⟨A4,c4,rfl,ho4,hb4⟩
     have ho34 := ho3.below hb4
     have hs34 := Nat.le_trans hb3.size hb4.size
     go_wp2_with (at_builtin
                  refine wpList_append8 _ rfl _ _ _ rfl w3.heap.size 5 Tryz.underlying22 isByte A3 m c3 _ rfl ho34 A4 4 c4 (four 0#32) rfl ho4.rd (by omega) hs34 ?_
                  intro A5 c5 w5 ho5 hb5 _ _)
     refine (hf2 _).mono ?_
     rintro e w6 ⟨A6,c6,rfl,ho6,hb6⟩
     have hs56 : w3.heap.size ≤ w6.heap.size := Nat.le_trans hs34 (Nat.le_trans hb5.size hb6.size)
     have ho56 := ho5.below hb6
     go_wp2_with (at_builtin
                  refine wpList_append8 _ rfl _ _ _ rfl w3.heap.size 5 Tryz.underlying22 isByte A5 (m + 4) c5 _ rfl ho56 A6 4 c6 (four nb) rfl ho6.rd (by omega) hs56 ?_
                  intro A7 c7 w7 ho7 hb7 _ _)
     have hB37 : Below w3.heap.size w3 w7 := ((((hb3.trans (hb4.mono hb3.size)).trans hb5).trans (hb6.mono (Nat.le_trans hs34 hb5.size))).trans hb7)
     have e64 : m + 4 + 4 = 64 * M := by have := HN.out; omega
     rw [← Hnb.out,← Hf.out,e64] at ho7
     rw [e64]
     have hR7 := ho7.rd
     have hS7 := hS3.below hB37
     have hK7 := hK3.below hB37
     have hB7 : Below w.heap.size w w7 := below_next hB3 hB37
     have hN7 := ho7.ne_arr hS7 (by decide)
     clear ho7 ho56 ho6 ho5 ho34 ho4 ho3 hb3 hb4 hb5 hb6 hb7 hf1 hf2 e1 e2 e3 hne hS3 hK3 hB37 hs34 hs56
     go_wp2_with fail
     go_loopw [7] (fun v wr => ∃ k : Nat,k ≤ M ∧ v = .int .i64 ((64 * k : Nat) : Int) ∧ Arr wr w.heap.size 101 (after H0 (fill l) k) ∧ Arr wr kx 106 KS ∧ Rd wr A7 (64 * M) c7 (fill l) ∧ Below w.heap.size w wr) (fun v _ => 64 * M - (intOf v).toNat)
     case atStart => exact ⟨0,Nat.zero_le _,rfl,hS7,hK7,hR7,hB7⟩
     case round =>
       clear hS7 hK7 hR7 hB7
       obtain ⟨k,hk,rfl,hS,hK,hR,hB⟩ := hrel
       have hal := after_len H0 (fill l) H0_len k
       by_cases hlt : k < M
       · have hA : Hid (after H0 (fill l) (k + 1) = blockOf (after H0 (fill l) k) (((fill l).drop (64 * k)).take 64)) := hide rfl
         have hbl : (((fill l).drop (64 * k)).take 64).length = 64 := by rw [List.length_take,List.length_drop,HM.out]; omega
         have hsub : Hid (∀ i,i < 16 → ((fill l).drop (64 * k + 4 * i)).take 4 = ((((fill l).drop (64 * k)).take 64).drop (4 * i)).take 4) := hide (fun i hi => by
           rw [List.drop_take,List.drop_drop,List.take_take]
           congr 1
           omega)
         obtain ⟨ad,rfl,_⟩ := hR.ptr (by omega)
         have hcap := hR.2.1
         have hcm := hR.2.2.1
         unfold maxLen at hcm
         generalize ((fill l).drop (64 * k)).take 64 = b at *
         generalize after H0 (fill l) k = S at *
         obtain ⟨q,hq⟩ : ∃ q,64 * k = q := ⟨_,rfl⟩
         have hqM : q + 64 ≤ 64 * M := by omega
         have Hq := hide hq
         rw [hq] at hsub ⊢
         obtain ⟨N,hNN⟩ : ∃ N,64 * M = N := ⟨_,rfl⟩
         have HNN := hide hNN
         rw [hNN] at hR hcap hqM ⊢
         have hN1 : N ≤ 1000108 := by omega
         have hlt' : (q : Int) < (N : Int) := by omega
         have HWl := hide (rws_words b hbl)
         obtain ⟨W1,hW1⟩ : ∃ W1,W1 = wr := ⟨_,rfl⟩
         subst hW1
         clear hq hNN hk hlt e64 hm2
         have hnew : Arr (W1.alloc (.cells (cw zeros) 106)) W1.heap.size 106 (rws b 0) := Arr.new _ _ _
         have hba : Below W1.heap.size W1 (W1.alloc (.cells (cw zeros) 106)) := (Below.refl _ W1).alloc (Nat.le_refl _) _
         go_wp2_with fail
         go_loopw [53] (fun v wr => ∃ i : Nat,i ≤ 64 ∧ v = .int .i64 (i : Int) ∧ Arr wr W1.heap.size 106 (rws b i) ∧ Below W1.heap.size W1 wr) (fun v _ => 64 - (intOf v).toNat)
         case atStart => exact ⟨0,Nat.zero_le _,rfl,hnew,hba⟩
         case round =>
           clear hnew hba
           obtain ⟨i,hi,rfl,ha,hBi⟩ := hrel
           have hrl := rws_len b i
           by_cases hi6 : i < 64
           · have HG : Hid (rws b (i + 1) = (rws b i).set i (if i < 16 then numB ((b.drop (4 * i)).take 4) else mixed (rws b i) i)) := hide rfl
             have hi6' : (i : Int) < 64 := by omega
             have b0 : (0 : Int) ≤ (i : Int) := by omega
             have ci := ha.cell (i := i) (by omega)
             have fi := ha.free i
             have hse := fun x => ha.set i x
             by_cases h16 : i < 16
             · have h16' : (i : Int) < 16 := by omega
               have hG2 : Hid (rws b (i + 1) = (rws b i).set i (numB ((b.drop (4 * i)).take 4))) := hide (by rw [HG.out,if_pos h16])
               have hsl := hsub.out i h16
               obtain ⟨p,hp⟩ : ∃ p,q + 4 * i = p := ⟨_,rfl⟩
               have hpN : p + 4 ≤ N := by omega
               have hrm := (hR.below hBi).mid (k := q + 4 * i) (m := 4) (by omega) (by omega)
               rw [hsl,hp] at hrm
               have p1 : (q : Int) + 4 * (i : Int) = (p : Int) := by omega
               have p2 : (p : Int) + 4 ≤ (c7 : Int) := by omega
               have p3 : (0 : Int) ≤ (p : Int) := by omega
               have p4 : ((p : Int) + 4).toNat = p + 4 := by omega
               have p5 : p + 4 - p = 4 := by omega
               have p6 : ¬ c7 = p := by omega
               have hset2 := hide (hse (numB ((b.drop (4 * i)).take 4)))
               have hnum := hide (refnum_any _ 4 _ _ wr hrm (by omega))
               generalize numB ((b.drop (4 * i)).take 4) = x at *
               generalize rws b i = L at *
               have hBs : Below W1.heap.size W1 (wr.setCell ⟨W1.heap.size,i,none⟩ (.int .u32 (V x))) := hBi.setCell (p := ⟨W1.heap.size,i,none⟩) (Nat.le_refl _) _
               clear hsl hp hse hi HG hrm hR hS hK
               go_wp2_with fail
               refine hnum.out.mono ?_
               rintro e w4 ⟨rfl,rfl⟩
               clear p1 p2 p3 p4 p5 p6
               go_wp2_with fail
               go_roundw
               case rel => exact ⟨i + 1,by omega,by go_num,by rw [hG2.out]; exact hset2.out,hBs⟩
               case measure => simp [intOf]; omega
             · have h16' : ¬ (i : Int) < 16 := by omega
               have hG2 : Hid (rws b (i + 1) = (rws b i).set i (mixed (rws b i) i)) := hide (by rw [HG.out,if_neg h16])
               have c2 := ha.cell (i := i - 2) (by omega)
               have c15 := ha.cell (i := i - 15) (by omega)
               have c7x := ha.cell (i := i - 7) (by omega)
               have c16 := ha.cell (i := i - 16) (by omega)
               have b2 : (2 : Int) ≤ (i : Int) := by omega
               have b15 : (15 : Int) ≤ (i : Int) := by omega
               have b15' : (i : Int) - 15 < 64 := by omega
               have b2' : (i : Int) - 2 < 64 := by omega
               have b7 : (7 : Int) ≤ (i : Int) := by omega
               have b7' : (i : Int) - 7 < 64 := by omega
               have b16 : (16 : Int) ≤ (i : Int) := by omega
               have b16' : (i : Int) - 16 < 64 := by omega
               have t2 : ((i : Int) - 2).toNat = i - 2 := by omega
               have t15 : ((i : Int) - 15).toNat = i - 15 := by omega
               have t7 : ((i : Int) - 7).toNat = i - 7 := by omega
               have t16 : ((i : Int) - 16).toNat = i - 16 := by omega
               have s2 : IntKind.i64.wrap ((i : Int) - 2) = (i : Int) - 2 := by rw [IntKind.wrap_i64]; omega
               have s15 : IntKind.i64.wrap ((i : Int) - 15) = (i : Int) - 15 := by rw [IntKind.wrap_i64]; omega
               have s7 : IntKind.i64.wrap ((i : Int) - 7) = (i : Int) - 7 := by rw [IntKind.wrap_i64]; omega
               have s16 : IntKind.i64.wrap ((i : Int) - 16) = (i : Int) - 16 := by rw [IntKind.wrap_i64]; omega
               have hset2 := hide (hse (mixed (rws b i) i))
               have HM2 : Hid (mixed (rws b i) i = (rotr ((rws b i).getD (i - 2) 0#32) 17 ^^^ rotr ((rws b i).getD (i - 2) 0#32) 19 ^^^ (rws b i).getD (i - 2) 0#32 >>> 10) + (rws b i).getD (i - 7) 0#32 +
                 (rotr ((rws b i).getD (i - 15) 0#32) 7 ^^^ rotr ((rws b i).getD (i - 15) 0#32) 18 ^^^ (rws b i).getD (i - 15) 0#32 >>> 3) + (rws b i).getD (i - 16) 0#32) := hide rfl
               generalize mixed (rws b i) i = x at *
               generalize (rws b i).getD (i - 2) 0#32 = x2 at *
               generalize (rws b i).getD (i - 15) 0#32 = x15 at *
               generalize (rws b i).getD (i - 7) 0#32 = x7 at *
               generalize (rws b i).getD (i - 16) 0#32 = x16 at *
               generalize (rws b i).getD i 0#32 = xi at *
               generalize rws b i = L at *
               clear hi HG hR hS hK hse
               go_wp2_with fail
               go_quiet (fail)
               go_wp2_with fail
               have g7 : ∀ (t : _) (d : _) (o : _) (p : _),({ heap := wr.heap,tape := t,drawn := d,os := o,output := p } : World).cell? ⟨W1.heap.size,i - 7,none⟩ = some (.int .u32 (V x7)) := fun _ _ _ _ => c7x
               have g16 : ∀ (t : _) (d : _) (o : _) (p : _),({ heap := wr.heap,tape := t,drawn := d,os := o,output := p } : World).cell? ⟨W1.heap.size,i - 16,none⟩ = some (.int .u32 (V x16)) := fun _ _ _ _ => c16
               go_still_tail 29,(by kernel_rfl)
               still_call (turn_still x15 7 (by omega) (by omega) _)
               repeat still_step
               still_call (turn_still x15 18 (by omega) (by omega) _)
               repeat still_step
               still_call (turn_still x2 17 (by omega) (by omega) _)
               repeat still_step
               still_call (turn_still x2 19 (by omega) (by omega) _)
               repeat still_step
               try refine wpStill_nil ?_
               change wpList _ _ _ _ _ (wr.drewN nq).drew
               go_wp2_with fail
               go_roundw
               case rel =>
                 rw [V_mixr,← HM2.out]
                 exact ⟨i + 1,by omega,by go_num,by rw [hG2.out]; exact hset2.out,(below_drewN hBi _).setCell (p := ⟨W1.heap.size,i,none⟩) (Nat.le_refl _) _⟩
               case measure => simp [intOf]; omega
           · obtain rfl : i = 64 := by omega
             rw [HWl.out] at ha
             clear hi6 hi hsub HWl hrl
             have hS2 := hS.below hBi
             have hK2 := hK.below hBi
             have hR2 := hR.below hBi
             have hB2 := below_next hB hBi
             have hs2 := hB2.size
             have hW2l : (words b).length = 64 := bw_words_len b
             have hblk : Hid (blockOf S b = List.zipWith (· + ·) S (rounds S (words b) 64)) := hide rfl
             generalize words b = W at *
             obtain ⟨W2,hW2⟩ : ∃ W2,W2 = wr := ⟨_,rfl⟩
             subst hW2
             have hz1 := hsz1 S hal
             have o3 : (cw z8).size = (cw S).size := by rw [cw_size,cw_size,hal]; rfl
             have u3 := cw_one S
             have hXn : Arr (W2.alloc (.cells (cw z8) 101)) W2.heap.size 101 z8 := Arr.new _ _ _
             clear hS hK hR hB hBi
             go_upto_region 21 with (first
               | ((with_reducible refine at_load ?_); refine wpList_load_row rfl 101 (.tmp 3) rfl w.heap.size rfl 101 (cw S) (0,0) _ hS2 Tryz.underlying101 rfl hz1 ?_)
               | ((with_reducible refine at_store ?_); refine wpList_store_row rfl 101 (.tmp 12) (.tmp 110) rfl W2.heap.size (cw S) rfl rfl 101 (cw z8) hXn hz1 o3 u3 ?_))
             have hX3 := hXn.setSame S
             have hB3' : Below W2.heap.size W2 (World.setRow (W2.alloc (.cells (cw z8) 101)) W2.heap.size (cw S)) := below_setRow ((Below.refl _ W2).alloc (Nat.le_refl _) _) (Nat.le_refl _) (cw S)
             change Code.wp _ _ _ _ (World.setRow (W2.alloc (.cells (cw z8) 101)) W2.heap.size (cw S))
             generalize World.setRow (W2.alloc (.cells (cw z8) 101)) W2.heap.size (cw S) = W3 at *
             obtain ⟨x0,hx0⟩ : ∃ x0,W2.heap.size = x0 := ⟨_,rfl⟩
             have hlx : w.heap.size < x0 := by rw [← hx0]; exact hS2.lt
             have hkx : kx < x0 := by rw [← hx0]; exact hK2.lt
             have hwx : W1.heap.size < x0 := by rw [← hx0]; exact ha.lt
             rw [hx0] at hX3 hB3' ⊢
             have Hx0 := hide hx0
             clear hx0 hXn hz1 o3 u3
             go_wp2_with fail
             go_loopw [111] (fun v wr => ∃ r : Nat,r ≤ 64 ∧ v = .int .i64 (r : Int) ∧ Arr wr x0 101 (rounds S W r) ∧ Below x0 W2 wr) (fun v _ => 64 - (intOf v).toNat)
             case atStart => exact ⟨0,Nat.zero_le _,rfl,hX3,hB3'⟩
             case round =>
               clear hX3 hB3'
               obtain ⟨r,hr1,rfl,hX,hBr⟩ := hrel
               have hrl := rounds_len S W hal r
               by_cases hlr : r < 64
               · have hlr' : (r : Int) < 64 := by omega
                 have hr0 : (0 : Int) ≤ (r : Int) := by omega
                 have x0c := hX.cell (i := 0) (by omega)
                 have x1c := hX.cell (i := 1) (by omega)
                 have x2c := hX.cell (i := 2) (by omega)
                 have x3c := hX.cell (i := 3) (by omega)
                 have x4c := hX.cell (i := 4) (by omega)
                 have x5c := hX.cell (i := 5) (by omega)
                 have x6c := hX.cell (i := 6) (by omega)
                 have x7c := hX.cell (i := 7) (by omega)
                 have hb0 := Hx0.out
                 have hBr2 : Below W2.heap.size W2 wr := by rw [hb0]; exact hBr
                 have kc := (hK2.below hBr2).cell (i := r) (by rw [KS_len]; exact hlr)
                 have wc := (ha.below hBr2).cell (i := r) (by rw [hW2l]; exact hlr)
                 clear hb0 hBr2
                 have HR0 : ∀ (X : List (BitVec 32)) (kk wk : BitVec 32),round X kk wk = [X.getD 7 0#32 + (rotr (X.getD 4 0#32) 6 ^^^ rotr (X.getD 4 0#32) 11 ^^^ rotr (X.getD 4 0#32) 25) + (X.getD 4 0#32 &&& X.getD 5 0#32 ||| ~~~ X.getD 4 0#32 &&& X.getD 6 0#32) + kk + wk +
                   ((rotr (X.getD 0 0#32) 2 ^^^ rotr (X.getD 0 0#32) 13 ^^^ rotr (X.getD 0 0#32) 22) + (X.getD 0 0#32 &&& X.getD 1 0#32 ||| X.getD 0 0#32 &&& X.getD 2 0#32 ||| X.getD 1 0#32 &&& X.getD 2 0#32)),X.getD 0 0#32,X.getD 1 0#32,X.getD 2 0#32,
                   X.getD 3 0#32 + (X.getD 7 0#32 + (rotr (X.getD 4 0#32) 6 ^^^ rotr (X.getD 4 0#32) 11 ^^^ rotr (X.getD 4 0#32) 25) + (X.getD 4 0#32 &&& X.getD 5 0#32 ||| ~~~ X.getD 4 0#32 &&& X.getD 6 0#32) + kk + wk),X.getD 4 0#32,X.getD 5 0#32,X.getD 6 0#32] := fun _ _ _ => rfl
                 have HR : Hid (rounds S W (r + 1) = _) := hide (HR0 (rounds S W r) (KS.getD r 0#32) (W.getD r 0#32))
                 clear HR0
                 generalize rounds S W r = X at *
                 generalize X.getD 0 0#32 = a0 at *
                 generalize X.getD 1 0#32 = a1 at *
                 generalize X.getD 2 0#32 = a2 at *
                 generalize X.getD 3 0#32 = a3 at *
                 generalize X.getD 4 0#32 = a4 at *
                 generalize X.getD 5 0#32 = a5 at *
                 generalize X.getD 6 0#32 = a6 at *
                 generalize X.getD 7 0#32 = a7 at *
                 generalize KS.getD r 0#32 = kk at *
                 generalize W.getD r 0#32 = wk at *
                 go_upto_region 24 with fail
                 have g0 : ∀ (t : _) (d : _) (o : _) (p : _),({ heap := wr.heap,tape := t,drawn := d,os := o,output := p } : World).cell? ⟨x0,0,none⟩ = some (.int .u32 (V a0)) := fun _ _ _ _ => x0c
                 have g1 : ∀ (t : _) (d : _) (o : _) (p : _),({ heap := wr.heap,tape := t,drawn := d,os := o,output := p } : World).cell? ⟨x0,1,none⟩ = some (.int .u32 (V a1)) := fun _ _ _ _ => x1c
                 have g2 : ∀ (t : _) (d : _) (o : _) (p : _),({ heap := wr.heap,tape := t,drawn := d,os := o,output := p } : World).cell? ⟨x0,2,none⟩ = some (.int .u32 (V a2)) := fun _ _ _ _ => x2c
                 have g4 : ∀ (t : _) (d : _) (o : _) (p : _),({ heap := wr.heap,tape := t,drawn := d,os := o,output := p } : World).cell? ⟨x0,4,none⟩ = some (.int .u32 (V a4)) := fun _ _ _ _ => x4c
                 have g5 : ∀ (t : _) (d : _) (o : _) (p : _),({ heap := wr.heap,tape := t,drawn := d,os := o,output := p } : World).cell? ⟨x0,5,none⟩ = some (.int .u32 (V a5)) := fun _ _ _ _ => x5c
                 have g6 : ∀ (t : _) (d : _) (o : _) (p : _),({ heap := wr.heap,tape := t,drawn := d,os := o,output := p } : World).cell? ⟨x0,6,none⟩ = some (.int .u32 (V a6)) := fun _ _ _ _ => x6c
                 have g7 : ∀ (t : _) (d : _) (o : _) (p : _),({ heap := wr.heap,tape := t,drawn := d,os := o,output := p } : World).cell? ⟨x0,7,none⟩ = some (.int .u32 (V a7)) := fun _ _ _ _ => x7c
                 have gk : ∀ (t : _) (d : _) (o : _) (p : _),({ heap := wr.heap,tape := t,drawn := d,os := o,output := p } : World).cell? ⟨kx,r,none⟩ = some (.int .u32 (V kk)) := fun _ _ _ _ => kc
                 have gw : ∀ (t : _) (d : _) (o : _) (p : _),({ heap := wr.heap,tape := t,drawn := d,os := o,output := p } : World).cell? ⟨W1.heap.size,r,none⟩ = some (.int .u32 (V wk)) := fun _ _ _ _ => wc
                 go_still_tail 35,(by kernel_rfl)
                 still_call (turn_still a4 6 (by omega) (by omega) _)
                 repeat still_step
                 still_call (turn_still a4 11 (by omega) (by omega) _)
                 repeat still_step
                 still_call (turn_still a4 25 (by omega) (by omega) _)
                 repeat still_step
                 try refine wpStill_nil ?_
                 change wpList _ _ _ _ _ wr.drew
                 go_upto_region 25 with fail
                 simp only [not_max,V_not,V_and,V_xor,V_add5w]
                 generalize hone : a7 + (rotr a4 6 ^^^ rotr a4 11 ^^^ rotr a4 25) + (a4 &&& a5 ^^^ ~~~a4 &&& a6) + kk + wk = one
                 have Hone := hide hone
                 clear hone g7 g4 g5 g6 gk gw g0 g1 g2
                 have hXd : Arr wr.drew x0 101 X := hX
                 have hBd : Below x0 W2 wr.drew := hBr.drew
                 have y0c : wr.drew.cell? ⟨x0,0,none⟩ = some (.int .u32 (V a0)) := x0c
                 have y1c : wr.drew.cell? ⟨x0,1,none⟩ = some (.int .u32 (V a1)) := x1c
                 have y2c : wr.drew.cell? ⟨x0,2,none⟩ = some (.int .u32 (V a2)) := x2c
                 have y3c : wr.drew.cell? ⟨x0,3,none⟩ = some (.int .u32 (V a3)) := x3c
                 have y4c : wr.drew.cell? ⟨x0,4,none⟩ = some (.int .u32 (V a4)) := x4c
                 have y5c : wr.drew.cell? ⟨x0,5,none⟩ = some (.int .u32 (V a5)) := x5c
                 have y6c : wr.drew.cell? ⟨x0,6,none⟩ = some (.int .u32 (V a6)) := x6c
                 clear x0c x1c x2c x3c x4c x5c x6c x7c kc wc hX hBr
                 generalize wr.drew = wv at *
                 have g0 : ∀ (t : _) (d : _) (o : _) (p : _),({ heap := wv.heap,tape := t,drawn := d,os := o,output := p } : World).cell? ⟨x0,0,none⟩ = some (.int .u32 (V a0)) := fun _ _ _ _ => y0c
                 have g1 : ∀ (t : _) (d : _) (o : _) (p : _),({ heap := wv.heap,tape := t,drawn := d,os := o,output := p } : World).cell? ⟨x0,1,none⟩ = some (.int .u32 (V a1)) := fun _ _ _ _ => y1c
                 have g2 : ∀ (t : _) (d : _) (o : _) (p : _),({ heap := wv.heap,tape := t,drawn := d,os := o,output := p } : World).cell? ⟨x0,2,none⟩ = some (.int .u32 (V a2)) := fun _ _ _ _ => y2c
                 go_still_tail 29,(by kernel_rfl)
                 still_call (turn_still a0 2 (by omega) (by omega) _)
                 repeat still_step
                 still_call (turn_still a0 13 (by omega) (by omega) _)
                 repeat still_step
                 still_call (turn_still a0 22 (by omega) (by omega) _)
                 repeat still_step
                 try refine wpStill_nil ?_
                 change wpList _ _ _ _ _ wv.drew
                 clear g0 g1 g2
                 go_upto_region 26 with fail
                 simp only [V_and,V_xor,V_addw]
                 generalize htwo : (rotr a0 2 ^^^ rotr a0 13 ^^^ rotr a0 22) + (a0 &&& a1 ^^^ a0 &&& a2 ^^^ a1 &&& a2) = two
                 have Htwo := hide htwo
                 clear htwo
                 have hRX : Hid (rounds S W (r + 1) = [one + two,a0,a1,a2,a3 + one,a4,a5,a6]) := hide (by rw [HR.out,← ch_xor,← maj_xor,Hone.out,Htwo.out])
                 have hnl : X.length = 8 := hrl
                 have hnew : (Tryz.prog.info? 101).map (·.size) = some (cw [one + two,a0,a1,a2,a3 + one,a4,a5,a6]).size := hsz1 _ rfl
                 have hold : (cw X).size = (cw [one + two,a0,a1,a2,a3 + one,a4,a5,a6]).size := by rw [cw_size,cw_size,hnl]; rfl
                 have hone1 := cw_one [one + two,a0,a1,a2,a3 + one,a4,a5,a6]
                 have hagg : Hid (Value.agg #[.int .u32 ((V one + V two) % 4294967296),.int .u32 (V a0),.int .u32 (V a1),.int .u32 (V a2),.int .u32 ((V a3 + V one) % 4294967296),.int .u32 (V a4),.int .u32 (V a5),.int .u32 (V a6)] = Value.agg (cw [one + two,a0,a1,a2,a3 + one,a4,a5,a6])) := hide (by rw [V_add,V_add]; rfl)
                 have hXd : Arr wv.drew x0 101 X := hXd
                 have hBd : Below x0 W2 wv.drew := hBd.drew
                 go_wp2_with (first
                   | ((with_reducible refine at_store ?_); go_must (refine wpList_store_row rfl 101 (.tmp 12) (.tmp 197) rfl x0 (cw [one + two,a0,a1,a2,a3 + one,a4,a5,a6]) rfl ?hy 101 (cw X) hXd hnew hold hone1 ?_); case hy => exact hagg.out))
                 go_roundw
                 case rel => exact ⟨r + 1,by omega,by go_num,by rw [hRX.out]; exact hXd.setSame _,below_setRow hBd (Nat.le_refl _) _⟩
                 case measure => simp [intOf]; omega
               · obtain rfl : r = 64 := by omega
                 have hb0 := Hx0.out
                 have hBr2 : Below W2.heap.size W2 wr := by rw [hb0]; exact hBr
                 have hS4 := hS2.below hBr2
                 have hK4 := hK2.below hBr2
                 have hR4 := hR2.below hBr2
                 have hB4 := hB2.trans (hBr2.mono hs2)
                 clear hS2 hK2 hR2 hB2 hBr2 hBr hb0 ha hlr hr1
                 have HB : Hid (blockOf S b = List.zipWith (· + ·) S (rounds S W 64)) := hide (by rw [hblk.out])
                 generalize rounds S W 64 = X at *
                 obtain ⟨W4,hW4⟩ : ∃ W4,W4 = wr := ⟨_,rfl⟩
                 subst hW4
                 go_wp2_with fail
                 go_loopw [199] (fun v wy => ∃ i : Nat,i ≤ 8 ∧ v = .int .i64 (i : Int) ∧ Arr wy w.heap.size 101 (sumTo S X i) ∧ Arr wy x0 101 X ∧ Fr (· = w.heap.size) W4 wy) (fun v _ => 8 - (intOf v).toNat)
                 case atStart => exact ⟨0,by omega,rfl,hS4,hX,Fr.refl _ _⟩
                 case round =>
                   clear hX hS4
                   obtain ⟨i,hi,rfl,hS5,hX,hF⟩ := hrel
                   have hsl := sumTo_len S X i
                   rw [hal] at hsl
                   by_cases hlt8 : i < 8
                   · have hlt8' : (i : Int) < 8 := by omega
                     have hi0 : (0 : Int) ≤ (i : Int) := by omega
                     have c1 := hS5.cell (i := i) (by omega)
                     have c2 := hX.cell (i := i) (by omega)
                     rw [sumTo_getD S X hal i i hi hlt8,if_neg (Nat.lt_irrefl i)] at c1
                     have HR : Hid (sumTo S X (i + 1) = (sumTo S X i).set i (S.getD i 0#32 + X.getD i 0#32)) := hide rfl
                     have fS := hS5.free i
                     generalize S.getD i 0#32 = p at *
                     generalize X.getD i 0#32 = q2 at *
                     generalize sumTo S X i = L at *
                     have g1 : ∀ (t : _) (d : _) (o : _) (u : _),({ heap := wr.heap,tape := t,drawn := d,os := o,output := u } : World).cell? ⟨w.heap.size,i,none⟩ = some (.int .u32 (V p)) := fun _ _ _ _ => c1
                     have g2 : ∀ (t : _) (d : _) (o : _) (u : _),({ heap := wr.heap,tape := t,drawn := d,os := o,output := u } : World).cell? ⟨x0,i,none⟩ = some (.int .u32 (V q2)) := fun _ _ _ _ => c2
                     go_wp2_with fail
                     go_still_tail 8,(by kernel_rfl)
                     try refine wpStill_nil ?_
                     change wpList _ _ _ _ _ wr.drew
                     clear g1 g2
                     rw [V_addw]
                     have hS6 := hS5.set i (p + q2)
                     have hX6 := hX.other (a := ⟨w.heap.size,i,none⟩) (by show x0 ≠ w.heap.size; omega) (.int .u32 (V (p + q2)))
                     have hF6 : Fr (· = w.heap.size) W4 (wr.drew.setCell ⟨w.heap.size,i,none⟩ (.int .u32 (V (p + q2)))) := Fr.set (S := (· = w.heap.size)) hF.drew (p := ⟨w.heap.size,i,none⟩) (fun _ => rfl) _
                     have c1d : wr.drew.cell? ⟨w.heap.size,i,none⟩ = some (.int .u32 (V p)) := c1
                     have fSd : wr.drew.frozen? ⟨w.heap.size,i,none⟩ = false := fS
                     have hS7 : Arr (wr.drew.setCell ⟨w.heap.size,i,none⟩ (.int .u32 (V (p + q2)))) w.heap.size 101 (L.set i (p + q2)) := hS6
                     have hX7 : Arr (wr.drew.setCell ⟨w.heap.size,i,none⟩ (.int .u32 (V (p + q2)))) x0 101 X := hX6
                     rw [← HR.out] at hS7
                     clear hS5 hX hF c1 c2 fS hS6 hX6
                     generalize V (p + q2) = vz at *
                     generalize wr.drew = wv at *
                     clear hsl hal hrl hbl hW2l hcap hcm hqM hlx hkx hwx hlk hxk hN1 hlt'
                     go_wp2_with fail
                     go_roundw
                     case rel =>
                       (repeat apply Exists.intro)
                       exact ⟨⟨i + 1,by omega,by go_num,hS7,hX7,hF6⟩,rfl⟩
                     case measure => simp [intOf]; omega
                   · obtain rfl : i = 8 := by omega
                     rw [sumTo_all S X hal hrl,← HB.out,← hA.out] at hS5
                     have hK5 : Arr wr kx 106 KS := (hF.block kx hK4.lt (by omega)).trans hK4
                     have hR5 := hR4.fr hF (fun _ ad' hA' => hN7 ad' hA')
                     have hB5 : Below w.heap.size w wr := hB4.trans (hF.below hB4.size (fun g hg => by omega))
                     have hq1 : (q : Int) + 64 = ((64 * (k + 1) : Nat) : Int) := by have := Hq.out; omega
                     have Hq1 := hide hq1
                     have hkM : k + 1 ≤ M := by have := Hq.out; have := HNN.out; omega
                     clear hq1
                     go_wp2_with fail
                     go_roundw
                     case rel => exact ⟨k + 1,hkM,by rw [← Hq1.out],hS5,hK5,hR5,hB5⟩
                     case measure => have := Hq.out; simp [intOf]; omega
       · obtain rfl : k = M := by omega
         have hA : Hid (sha l = bytesOf (after H0 (fill l) k)) := hide (by
           unfold sha
           have : (fill l).length / 64 = k := by rw [HM.out]; omega
           rw [this])
         generalize after H0 (fill l) k = S at *
         have hSz := hsz1 S hal
         have hs9 := hB.size
         clear hK hR
         go_wp2_with (first
           | ((with_reducible refine at_load ?_); refine wpList_load_row rfl 101 (.tmp 3) rfl w.heap.size rfl 101 (cw S) (0,0) _ hS Tryz.underlying101 rfl hSz ?_))
         go_loopw [17,212] (fun v u wy => ∃ (i : Nat) (B : Option Addr) (d : Nat),i ≤ 8 ∧ u = .int .i64 (i : Int) ∧ v = .slice B (4 * i) d ∧ Own wy w.heap.size 5 B (4 * i) d (bytesOf (S.take i)) ∧ Below w.heap.size w wy) (fun _ u _ => 8 - (intOf u).toNat)
         case atStart => exact ⟨0,none,0,by omega,rfl,rfl,Own.nil _ _ _,hB⟩
         case round =>
           obtain ⟨i,B',d',hi,rfl,rfl,ho,hB'⟩ := hrel
           by_cases h8 : i < 8
           · have h8' : (i : Int) < 8 := by omega
             have hi0 : (0 : Int) ≤ (i : Int) := by omega
             have hget := fun w => run_index_words1 w S hal i h8
             have Hsn := hide (bytesOf_snoc S i (by rw [hal]; exact h8))
             generalize S.getD i 0#32 = x at *
             have hb := V_bd x
             go_wp2_with fail
             refine (rfour_any x _).mono ?_
             rintro e w4 ⟨A4,c4,rfl,ho4,hb4⟩
             have hoa := ho.below hb4
             have hB4 := below_next hB' hb4
             have hs4 := hB4.size
             clear hget
             go_wp2_with (at_builtin
                          refine wpList_append8 _ rfl _ _ _ rfl w.heap.size 5 Tryz.underlying22 isByte B' (4 * i) d' _ rfl hoa A4 4 c4 (four x) rfl ho4.rd (by omega) hs4 ?_
                          intro A6 c6 w6 ho6 hb6 _ _)
             go_roundw
             case rel => exact ⟨i + 1,A6,c6,by omega,by go_num,by rw [show 4 * (i + 1) = 4 * i + 4 by omega],by rw [Hsn.out,show 4 * (i + 1) = 4 * i + 4 by omega]; exact ho6,hB4.trans hb6⟩
             case measure => simp [intOf]; omega
           · obtain rfl : i = 8 := by omega
             go_wp2_with fail
             go_ret
             exact ⟨B',d',rfl,by rw [hA.out,← List.take_of_length_le (l := S) (i := 8) (by omega)]; exact ho,hB'⟩
end Go.Proofs.YtkkcpblfheplaaaGreatDoor
