/- Contracts of functions that the laws of downpourtop reach, and plain facts; no condition beyond what each theorem states. -/
import Derived.Test.YtkkcpblfheplaaaGreatDoorMRx03
set_option maxRecDepth 100000
set_option maxHeartbeats 8000000
set_option linter.all false
namespace Go.Proofs.YtkkcpblfheplaaaGreatDoor
open Go.RowKit
def parsL (s : B32) (K S : Nat) (ls : List (List UInt8)) (j : Nat) : List (List UInt8) := (List.range j).map fun i => symV ls (parRow s K i) K S
theorem parsL_succ (s : B32) (K S : Nat) (ls : List (List UInt8)) (j : Nat) : parsL s K S ls (j + 1) = parsL s K S ls j ++ [symV ls (parRow s K j) K S] := by
 unfold parsL
 rw [List.range_succ,List.map_append]
 rfl
theorem own2_grown {w w' : World} {base : Nat} {e : TypeId} {A : Option Addr} {n c m sz : Nat} {xs : List Value} {row : Option Nat} (h : w.ownsRow base e sz (.slice A n c) m xs) (hg : w.grownBy w' row) (hn : ∀ g,A.map (·.block) = some g → row ≠ some g) : w'.ownsRow base e sz (.slice A n c) m xs :=
 own2_fr (S := fun g => row = some g) h ⟨hg.os,hg.tape,hg.output,hg.size,fun g hl hs => hg.block g hl (fun e => hs e.symm)⟩ hn
theorem rpieces_any (s : B32) (K P S : Nat) (A : Option Addr) (c : Nat) (ls : List (List UInt8)) (w : World) (hok : spOk K P S = true) (hn : K + P ≤ 64) (hr : RdL w A K c ls) (hls : ∀ l,l ∈ ls → l.length = S) :
   Calls Tryz.prog 110 #[.agg (parC s K P S),.slice A K c] w fun e w' => ∃ A' c',e = .returned (.slice A' (K + P : Nat) c') ∧ OwnL 22 5 w' w.heap.size A' (K + P) c' (ls ++ parsL s K S ls P) none ∧ Below w.heap.size w w' := by
 have hb0 : Blk (w.alloc (.cells (parC s K P S) 59)) w.heap.size (parC s K P S) 59 := Blk.new _ _ _
 have hB0 := below_alloc1 w (.cells (parC s K P S) 59)
 have hsz := size59 s K P S
 have hK : 1 ≤ K ∧ K ≤ 64 ∧ P ≤ 16 ∧ 1 ≤ S ∧ S ≤ 16 := by unfold spOk at hok; simp at hok; omega
 have hmay := fun w => rmay_any s K P S w
 rw [hok] at hmay
 have hpar := fun w => rparity_any s K P S w hok hn
 have hK2 : (K : Int) ≤ 64 := by omega
 have hK0 : (0 : Int) ≤ (K : Int) := by omega
 have hP2 : (P : Int) ≤ 16 := by omega
 have hP0 : (0 : Int) ≤ (P : Int) := by omega
 have hS2 : (S : Int) ≤ 16 := by omega
 have Hls := hide (fun (i : Nat) l (h : ls[i]? = some l) => hls l (List.mem_of_getElem? h))
 have Hls2 := hide hls
 have Hl := hide hr.1
 clear hok hls
 go_enter Tryz.func110,Tryz.ntmps110
 go_wp2_with (first
   | ((with_reducible refine at_load ?_); refine wpList_load_row rfl 59 (.tmp 2) rfl w.heap.size rfl 59 (parC s K P S) (0,0) _ hb0 Tryz.underlying59 rfl hsz ?_))
 refine (hmay _).mono ?_
 rintro e w1 ⟨rfl,hb1⟩
 have hb := hb0.below hb1
 have c1 := hb.cell (i := 1) (v := .int .i64 (K : Int)) rfl
 have hB1 := below_next hB0 hb1
 have hs1 := hB1.size
 clear hb0 hB0 hb1 hmay
 go_wp2_with fail
 clear c1
 go_loopw [5,22] (fun v u wr => ∃ (j d : Nat) (B : Option Addr),j ≤ K ∧ u = .int .i64 (j : Int) ∧ v = .slice B j d ∧ Blk wr w.heap.size (parC s K P S) 59 ∧ OwnL 22 5 wr w.heap.size B j d (ls.take j) none ∧ Below w.heap.size w wr) (fun _ u _ => K - (intOf u).toNat)
 case atStart => exact ⟨0,0,none,by omega,rfl,rfl,hb,OwnL.nil _ _ _ _ _,hB1⟩
 case round =>
   clear hb hB1 hs1
   obtain ⟨j,d,B,hj,rfl,rfl,hb,ho,hB⟩ := hrel
   by_cases hlt : j < K
   · have hlt' : (j : Int) < (K : Int) := by omega
     have c3 := hb.cell (i := 3) (v := .int .i64 (S : Int)) rfl
     obtain ⟨ad,l,A',n',c',rfl,hl,hc,hrd⟩ := (hr.below hB).at_ hlt
     have hlen := Hls.out j l hl
     have hnn : n' = S := by rw [← hlen]; exact hrd.1.symm
     subst hnn
     have hsr := hB.size
     have hlb := hb.lt
     have ha := below_alloc1 wr (.cells #[.slice A' n' c'] 22)
     have hR1 : RdL (wr.alloc (.cells #[.slice A' n' c'] 22)) (some ⟨wr.heap.size,0,none⟩) 1 1 [l] := rdl_one (cell1 wr _ 22 0 _ rfl) (hrd.below ha)
     have htk : Hid (ls.take (j + 1) = ls.take j ++ [l]) := hide (by rw [List.take_add_one,hl]; rfl)
     have Hlen := hide hlen
     clear hl hlen
     go_wp2_with fail
     refine (join_as (some ⟨wr.heap.size,0,none⟩) 1 1 n' [l] l _ (by simp) Hlen.out hR1 (by omega)).mono ?_
     rintro e w2 ⟨A2,c2,rfl,ho2,hb2⟩
     have hB2 := below_next ha hb2
     have hBw := below_next hB hB2
     have hs2 := hBw.size
     have hal := below_alloc1 w2 (.cells #[.slice A2 n' c2] 22)
     have ho2' := (ho2.mono (Nat.le_trans hsr ha.size)).below hal
     have hoa := (ho.below hB2).below hal
     have hc2 : (w2.alloc (.cells #[.slice A2 n' c2] 22)).cell? ⟨w2.heap.size,0,none⟩ = some (.slice A2 n' c2) := cell1 w2 _ 22 0 _ rfl
     have hb3 := (hb.below hB2).alloc (.cells #[.slice A2 n' c2] 22)
     clear c3 hc hrd hb ho
     go_wp2_with (at_builtin
                  refine wpList_appendL _ rfl _ _ _ rfl w.heap.size 22 5 (by decide) Tryz.underlying23 isRef22 B j d _ none rfl hoa ⟨w2.heap.size,0,none⟩ 1 A2 n' c2 l rfl hc2 ho2' (.inl rfl) (by omega) (by simp; omega) ?_
                  intro A6 c6 w6 ho6 hb6 hg6)
     go_roundw
     case rel =>
       refine ⟨j + 1,c6,A6,by omega,by go_num,rfl,hb3.grown hg6 ?_,by rw [htk.out]; exact ho6,(hBw.alloc hs2 _).trans hb6⟩
       obtain ⟨vs,h1,_⟩ := hoa
       exact row_ne h1 hb3 (by decide)
     case measure => simp [intOf]; omega
   · obtain rfl : K = j := by omega
     have e : ls.take K = ls := List.take_of_length_le (by rw [Hl.out]; exact Nat.le_refl _)
     rw [e] at ho
     have hsW := hB.size
     obtain ⟨W0,hW0⟩ : ∃ W0,W0 = wr := ⟨_,rfl⟩
     subst hW0
     go_wp2_with (first
       | ((with_reducible refine at_load ?_); refine wpList_load_row rfl 59 (.tmp 2) rfl w.heap.size rfl 59 (parC s K P S) (0,0) _ hb Tryz.underlying59 rfl hsz ?_))
     refine (hpar W0).mono ?_
     rintro e w3 ⟨A3,c3,gs,rfl,ho3,hg3,hb3⟩
     have hG := hide hg3
     clear hg3
     have hbn := hb.below hb3
     have hon := ho.below hb3
     have hB3 := below_next hB hb3
     have hs3 := hb3.size
     have ho3' := row_mono ho3 hsW
     have hgl : gs.length = P := by
       have := row_len ho3
       simpa [SlV] using this
     have Hgl := hide hgl
     clear hb ho hB hpar ho3 hgl
     go_wp2_with fail
     go_loopw [5,41] (fun v u wr => ∃ (j d : Nat) (B : Option Addr),j ≤ P ∧ u = .int .i64 (j : Int) ∧ v = .slice B (K + j : Nat) d ∧ OwnL 22 5 wr w.heap.size B (K + j) d (ls ++ parsL s K S ls j) none ∧ Blk wr w.heap.size (parC s K P S) 59 ∧ wr.ownsRow w.heap.size 176 1 (.slice A3 P c3) P (SlV (K + P) gs) ∧ Hid (∀ (j : Nat) g,gs[j]? = some g → Blk wr g (boolsA (parRow s K j) (K + P)) 4 ∧ W0.heap.size ≤ g) ∧ Below w.heap.size w wr) (fun _ u _ => P - (intOf u).toNat)
     case atStart => exact ⟨0,d,B,by omega,rfl,rfl,by simpa [parsL] using hon,hbn,ho3',hG,hB3⟩
     case round =>
       clear hon hbn ho3' hG hB3
       obtain ⟨j,d,B,hj,rfl,rfl,ho,hbn,ho3,hG,hBi⟩ := hrel
       by_cases hlt : j < P
       · have hlt' : (j : Int) < (P : Int) := by omega
         obtain ⟨g,hg⟩ : ∃ g,gs[j]? = some g := ⟨_,List.getElem?_eq_getElem (by have := Hgl.out; omega)⟩
         obtain ⟨hbl,hgw⟩ := hG.out j g hg
         obtain ⟨g3,rfl,_,_⟩ := row_form ho3 (by omega)
         have hcg := row_cell ho3 (j := j) (v := .slice (some ⟨g,0,none⟩) (K + P) (K + P)) (by unfold SlV; rw [List.getElem?_map,hg]; rfl)
         have c3' := hbn.cell (i := 3) (v := .int .i64 (S : Int)) rfl
         have hsum := rsum_any g (K + P) (parRow s K j) A K c S ls wr hbl (hr.below hBi) hn Hls2.out (by omega) (by omega)
         have hsr := hBi.size
         have hSu := hide hsum
         have Hps := hide (parsL_succ s K S ls j)
         clear hsum hg hbl
         generalize symV ls (parRow s K j) K S = D at *
         go_wp2_with fail
         refine hSu.out.mono ?_
         rintro e w4 ⟨A4,c4,rfl,ho4,hb4⟩
         have hB4 := below_next hBi hb4
         have hal := below_alloc1 w4 (.cells #[.slice A4 S c4] 22)
         have ho4' := (ho4.mono (show w.heap.size ≤ wr.heap.size by omega)).below hal
         have hoa := (ho.below hb4).below hal
         have hc4 : (w4.alloc (.cells #[.slice A4 S c4] 22)).cell? ⟨w4.heap.size,0,none⟩ = some (.slice A4 S c4) := cell1 w4 _ 22 0 _ rfl
         have hs4 := hB4.size
         have hKj : K + j ≤ 1000000 := by omega
         have hbn4 := (hbn.below hb4).below hal
         have ho34 := row_below (row_below ho3 hb4) hal
         have hG4 : Hid (∀ (j : Nat) g,gs[j]? = some g → Blk (w4.alloc (.cells #[.slice A4 S c4] 22)) g (boolsA (parRow s K j) (K + P)) 4 ∧ W0.heap.size ≤ g) := hide (fun j g h => ⟨((hG.out j g h).1.below hb4).below hal,(hG.out j g h).2⟩)
         clear hcg c3' ho
         go_wp2_with (at_builtin
                      refine wpList_appendL _ rfl _ _ _ rfl w.heap.size 22 5 (by decide) Tryz.underlying23 isRef22 B (K + j) d _ none rfl hoa ⟨w4.heap.size,0,none⟩ 1 A4 S c4 D rfl hc4 ho4' (.inl rfl) (by omega) (by simp; omega) ?_
                      intro A6 c6 w6 ho6 hb6 hg6)
         go_roundw
         case rel =>
           obtain ⟨vs,hva,_⟩ := hoa
           refine ⟨j + 1,c6,A6,by omega,by go_num,rfl,by rw [Hps.out,← List.append_assoc]; exact ho6,hbn4.grown hg6 (row_ne hva hbn4 (by decide)),own2_grown ho34 hg6 (fun g hg => ?_),hide (fun j g h => ?_),(hB4.alloc hs4 _).trans hb6⟩
           · obtain ⟨cur,hcur⟩ := own2_at ho34 hg
             exact row_ne hva hcur (by decide)
           · have h1 := (hG4.out j g h).1
             exact ⟨h1.grown hg6 (row_ne hva h1 (by decide)),(hG4.out j g h).2⟩
         case measure => simp [intOf]; omega
       · obtain rfl : P = j := by omega
         go_wp2_with fail
         go_ret
         exact ⟨B,d,rfl,ho,hBi⟩
abbrev ParAt (b : Nat) (s : B32) (K P S : Nat) (w1 w' : World) : Prop :=
 (w'.cell? ⟨b,0,none⟩ = some (.int .u32 (V s)) ∧ w'.cell? ⟨b,1,none⟩ = some (.int .i64 K) ∧ w'.cell? ⟨b,2,none⟩ = some (.int .i64 P) ∧ w'.cell? ⟨b,3,none⟩ = some (.int .i64 S)) ∧ Below w1.heap.size w1 w'
theorem ParAt.of {b : Nat} {s : B32} {K P S : Nat} {w1 : World} (hb : Blk w1 b (parC s K P S) 59) (a : World) (k : Below w1.heap.size w1 a) : ParAt b s K P S w1 a := by
 have h := hb.below k
 exact ⟨⟨h.cell rfl,h.cell rfl,h.cell rfl,h.cell rfl⟩,k⟩
theorem cnt_div {L S K : Nat} (h : cnt L S = K) (hK : 1 ≤ K) : (L + S - 1) / S = K ∧ 1 ≤ L ∧ L ≤ 512 ∧ 1 ≤ S ∧ S ≤ 16 := by
 unfold cnt at h
 split at h
 · omega
 · exact ⟨h,by omega,by omega,by omega,by omega⟩
theorem cnt_cover {L S K : Nat} (h : cnt L S = K) (hK : 1 ≤ K) : L ≤ K * S := by
 obtain ⟨h1,_,_,h2,_⟩ := cnt_div h hK
 have := Nat.div_add_mod (L + S - 1) S
 have h6 := Nat.mod_lt (L + S - 1) (show 0 < S by omega)
 rw [h1,Nat.mul_comm] at this
 omega
theorem rsymbol_any (s : B32) (K P S : Nat) (A : Option Addr) (L c : Nat) (img : List UInt8) (id : B32) (w : World) (hr : Rd w A L c img) (hok : spOk K P S = true) (hn : K + P ≤ 64) (hcn : cnt L S = K) :
   Calls Tryz.prog 51 #[.agg (parC s K P S),.slice A L c,.int .u32 (V id)] w fun e w' => ∃ A' c',e = .returned (.slice A' S c') ∧ Own w' w.heap.size 5 A' S c' (symV (pcs s K P S img) (rowOf (rowL s K P id)) (K + P) S) ∧ Below w.heap.size w w' := by
 have hb0 : Blk (w.alloc (.cells (parC s K P S) 59)) w.heap.size (parC s K P S) 59 := Blk.new _ _ _
 have hB0 := below_alloc1 w (.cells (parC s K P S) 59)
 have hK : 1 ≤ K ∧ K ≤ 64 ∧ P ≤ 16 ∧ 1 ≤ S ∧ S ≤ 16 := by unfold spOk at hok; simp at hok; omega
 obtain ⟨hdv,hL1,hL2,_,_⟩ := cnt_div hcn hK.1
 have hcv := cnt_cover hcn hK.1
 have Hl := hide hr.1
 have hmay : ∀ y,Calls Tryz.prog 107 #[.agg #[.int .u32 (V s),.int .i64 K,.int .i64 P,.int .i64 S]] y fun e w' => e = .returned (.bool (spOk K P S)) ∧ Below y.heap.size y w' := fun y => rmay_any s K P S y
 rw [hok] at hmay
 have hcnt := fun y => rcount_any L S y hL1 hL2 (by omega) (by omega) (by omega)
 rw [hcn] at hcnt
 have hrow : ∀ y,Calls Tryz.prog 109 #[.agg #[.int .u32 (V s),.int .i64 K,.int .i64 P,.int .i64 S],.int .u32 (V id)] y fun e w' => ∃ g,e = .returned (.slice (some ⟨g,0,none⟩) (K + P : Nat) (K + P : Nat)) ∧ y.heap.size ≤ g ∧ Blk w' g (boolsA (rowOf (rowL s K P id)) (K + P)) 4 ∧ Below y.heap.size y w' := fun y => rrow_any s K P S id y hok hn
 have hspl := fun y (hy : Rd y A L c img) => rsplit_any A L c S K img y hy hL1 hL2 (by omega) (by omega) hcn hdv (by omega)
 have hls : ∀ l,l ∈ splitL img S K → l.length = S := fun l hl => by
   obtain ⟨i,hi⟩ := List.getElem?_of_mem hl
   have hiK : i < K := by
     have := (List.getElem?_eq_some_iff.1 hi).1
     rwa [splitL_len] at this
   rw [splitL_get _ _ _ _ hiK] at hi
   cases hi
   exact pieceL_len _ _ _ _ (by rw [Hl.out]; exact hcv) hiK
 have hpc : ∀ y A1 c1,RdL y A1 K c1 (splitL img S K) → Calls Tryz.prog 110 #[.agg #[.int .u32 (V s),.int .i64 K,.int .i64 P,.int .i64 S],.slice A1 K c1] y fun e w' => ∃ A' c',e = .returned (.slice A' (K + P : Nat) c') ∧ OwnL 22 5 w' y.heap.size A' (K + P) c' (pcs s K P S img) none ∧ Below y.heap.size y w' := fun y A1 c1 h => rpieces_any s K P S A1 c1 _ y hok hn h hls
 have hpl : ∀ l,l ∈ pcs s K P S img → l.length = S := fun l hl => by
   obtain ⟨i,hi⟩ := List.getElem?_of_mem hl
   have hiK : i < K + P := by
     have := (List.getElem?_eq_some_iff.1 hi).1
     rwa [pcs_len] at this
   have := pcs_all s K P S img (by rw [Hl.out]; exact hcv) i hiK
   rw [List.getD_eq_getElem?_getD,hi] at this
   exact this
 have hsm : ∀ y g A1 c1,Blk y g (boolsA (rowOf (rowL s K P id)) (K + P)) 4 → RdL y A1 (K + P) c1 (pcs s K P S img) → Calls Tryz.prog 108 #[.slice (some ⟨g,0,none⟩) (K + P : Nat) (K + P : Nat),.slice A1 (K + P : Nat) c1,.int .i64 S] y fun e w' => ∃ A' c',e = .returned (.slice A' S c') ∧ Own w' y.heap.size 5 A' S c' (symV (pcs s K P S img) (rowOf (rowL s K P id)) (K + P) S) ∧ Below y.heap.size y w' := fun y g A1 c1 h1 h2 => rsum_any g (K + P) _ A1 (K + P) c1 S _ y h1 h2 hn hpl (by omega) (Nat.le_refl _)
 have hR0 := hr.below hB0
 clear hok hls hpl hcv hdv hcn
 generalize pcs s K P S img = PS at *
 generalize rowOf (rowL s K P id) = RW at *
 generalize splitL img S K = SL at *
 have dK : ((K : Int) != (K : Int)) = false := by simp
 have hid := V_bd id
 go_enter Tryz.func51,Tryz.ntmps51
 go_upto_region 1 with fail
 change Code.wp _ _ _ _ (w.alloc (.cells (parC s K P S) 59))
 generalize w.alloc (.cells (parC s K P S) 59) = w1 at *
 have hP := ParAt.of hb0
 have hS0 := hP w1.drew (Below.refl _ _).drew
 have hS2 : True := trivial
 go_cut [19] (fun v wx => v = .bool false ∧ Below w1.heap.size w1 wx)
 case first =>
   go_region_held3 (fun w' => (w'.cell? ⟨w.heap.size,0,none⟩ = some (.int .u32 (V s)) ∧ w'.cell? ⟨w.heap.size,1,none⟩ = some (.int .i64 K) ∧ w'.cell? ⟨w.heap.size,2,none⟩ = some (.int .i64 P) ∧ w'.cell? ⟨w.heap.size,3,none⟩ = some (.int .i64 S)) ∧ Below w1.heap.size w1 w')
     (first | (with_reducible exact hS0) | (with_reducible exact hS2))
     (first
       | (go_at_call 107; (with_reducible refine (hmay _).mono ?_); rintro e w2 ⟨rfl,hb2⟩; have hS2 := hP w2 ((Below.refl _ _).drew.trans hb2))
       | (go_at_call 17; (with_reducible refine (hcnt _).mono ?_); rintro e w3 ⟨rfl,rfl⟩))
   all_goals
     go_wp2_with fail
     go_meet
     exact ⟨rfl,(show ParAt w.heap.size s K P S w1 _ by assumption).2⟩
 case rest =>
   obtain ⟨rfl,hB⟩ := hcut
   obtain ⟨W1,hW1⟩ : ∃ W1,W1 = wc := ⟨_,rfl⟩
   subst hW1
   have hb1 := hb0.below hB
   have hR1 := hR0.below hB
   have hBw := below_next hB0 hB
   have hsw := hBw.size
   have hP1 := ParAt.of hb1
   have hS0 := hP1 W1.drew (Below.refl _ _).drew
   have hS2 : True := trivial
   have hS3 : True := trivial
   have hS4 : True := trivial
   clear hP hb0 hB hR0 hB0
   go_upto_region 3 with fail
   go_cut [6] (fun v wx => ∃ A' c',v = .slice A' S c' ∧ Own wx W1.heap.size 5 A' S c' (symV PS RW (K + P) S) ∧ Below W1.heap.size W1 wx)
   case first =>
     go_region_held3 (fun w' => (w'.cell? ⟨w.heap.size,0,none⟩ = some (.int .u32 (V s)) ∧ w'.cell? ⟨w.heap.size,1,none⟩ = some (.int .i64 K) ∧ w'.cell? ⟨w.heap.size,2,none⟩ = some (.int .i64 P) ∧ w'.cell? ⟨w.heap.size,3,none⟩ = some (.int .i64 S)) ∧ Below W1.heap.size W1 w')
       (first | (with_reducible exact hS0) | (with_reducible exact hS4) | (with_reducible exact hS3) | (with_reducible exact hS2) | (with_reducible exact hS5))
       (first
         | (go_at_call 109; (with_reducible refine (hrow _).mono ?_); rintro e w2 ⟨g2,rfl,hg2,hv2,hb2⟩
            have hS2 := hP1 w2 (below_next (show ParAt w.heap.size s K P S W1 _ by assumption).2 hb2))
         | (go_at_call 111; (with_reducible refine (hspl _ (hR1.below (show ParAt w.heap.size s K P S W1 _ by assumption).2)).mono ?_); rintro e w3 ⟨A3,c3,rfl,ho3,hb3⟩
            have hS3 := hP1 w3 (below_next (show ParAt w.heap.size s K P S W1 _ by assumption).2 hb3))
         | (go_at_call 110; (with_reducible refine (hpc _ A3 c3 (by first | (with_reducible exact ho3.rdl) | (with_reducible exact (ho3.below hb2).rdl))).mono ?_); rintro e w4 ⟨A4,c4,rfl,ho4,hb4⟩
            have hS4 := hP1 w4 (below_next (show ParAt w.heap.size s K P S W1 _ by assumption).2 hb4))
         | (go_at_call 108; (with_reducible refine (hsm _ g2 A4 c4 (by repeat (first | (with_reducible exact hv2) | (with_reducible refine Blk.below ?_ hb3) | (with_reducible refine Blk.below ?_ hb4))) (by first | (with_reducible exact ho4.rdl) | (with_reducible exact (ho4.below hb2).rdl))).mono ?_); rintro e w5 ⟨A5,c5,rfl,ho5,hb5⟩
            have hq := (show ParAt w.heap.size s K P S W1 _ by assumption).2
            have hS5 := hP1 w5 (below_next hq hb5)))
     all_goals
       go_wp2_with fail
       go_meet
       exact ⟨A5,c5,rfl,ho5.mono hq.size,(show ParAt w.heap.size s K P S W1 _ by assumption).2⟩
   case rest =>
     obtain ⟨A5,c5,rfl,ho5,hB5⟩ := hcut
     go_wp2_with fail
     go_ret
     exact ⟨A5,c5,rfl,ho5.mono hsw,below_next hBw hB5⟩
end Go.Proofs.YtkkcpblfheplaaaGreatDoor
