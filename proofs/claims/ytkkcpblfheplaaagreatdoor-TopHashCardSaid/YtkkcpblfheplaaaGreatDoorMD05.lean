/- Contracts of functions that the laws of downpourtop reach, and plain facts; no condition beyond what each theorem states. -/
import Derived.Test.YtkkcpblfheplaaaGreatDoorMD04
set_option maxRecDepth 100000
set_option maxHeartbeats 8000000
set_option linter.all false
namespace Go.Proofs.YtkkcpblfheplaaaGreatDoor
open Go.RowKit
theorem may_any (s v : BitVec 32) (L S P : Nat) (A : Option Addr) (n c : Nat) (w : World) (hL : L ≤ 1000000) (hS : S ≤ 1000000) :
   Calls Tryz.prog 21 #[.agg (manC s v L S P (.slice A n c))] w fun e w' => e = .returned (.bool (manOk L S P && (n == 32))) ∧ Below w.heap.size w w' := by
 have hb0 : Blk (w.alloc (.cells (manC s v L S P (.slice A n c)) 44)) w.heap.size (manC s v L S P (.slice A n c)) 44 := Blk.new _ _ _
 have hB0 : Below w.heap.size w (w.alloc (.cells (manC s v L S P (.slice A n c)) 44)) := (Below.refl _ _).alloc (Nat.le_refl _) _
 have hsz := size44 s v L S P (.slice A n c)
 go_enter Tryz.func21,Tryz.ntmps21
 go_wp2_with (first
   | ((with_reducible refine at_load ?_); refine wpList_load_row rfl 44 (.tmp 1) rfl w.heap.size rfl 44 (manC s v L S P (.slice A n c)) (0,0) _ hb0 Tryz.underlying44 rfl hsz ?_))
 refine (of_any s v L S P A n c _ hL hS).mono ?_
 rintro e w1 ⟨rfl,hb1⟩
 have hbb := hb0.below hb1
 have hB1 := below_next hB0 hb1
 have hcell := hbb.cell (i := 5) (v := .slice A n c) rfl
 have hB2 := hB1.alloc hB1.size (.cells (parC 0#32 0 0 0) 59)
 have hz : Blk (w1.alloc (.cells (parC 0#32 0 0 0) 59)) w1.heap.size (parC 0#32 0 0 0) 59 := Blk.new _ _ _
 have ho : (Tryz.prog.info? 59).map (·.size) = some (ofC s L S P).size ∧ (parC 0#32 0 0 0).size = (ofC s L S P).size ∧ (ofC s L S P).all (·.oneCell') = true := by
   unfold ofC
   split
   · exact ⟨size59 _ _ _ _,rfl,one59 _ _ _ _⟩
   · exact ⟨size59 _ _ _ _,rfl,one59 _ _ _ _⟩
 have hlt := hbb.lt
 have hc2 := ((hbb.alloc (.cells (parC 0#32 0 0 0) 59)).fr (fr_setRow _ w1.heap.size (ofC s L S P)) (by omega)).cell (i := 5) (v := .slice A n c) rfl
 have hB3 := below_setRow hB2 (g := w1.heap.size) hB1.size (ofC s L S P)
 clear hB2
 go_upto_region 2 with (first
   | ((with_reducible refine at_store ?_); refine wpList_store_row rfl 59 (.tmp 3) (.tmp 8) rfl w1.heap.size (ofC s L S P) rfl rfl 59 (parC 0#32 0 0 0) hz ho.1 ho.2.1 ho.2.2 ?_))
 change Code.wp _ _ _ _ (World.setRow (w1.alloc (.cells (parC 0#32 0 0 0) 59)) w1.heap.size (ofC s L S P))
 generalize World.setRow (w1.alloc (.cells (parC 0#32 0 0 0) 59)) w1.heap.size (ofC s L S P) = w3 at *
 clear hz ho hbb hcell
 rcases Bool.eq_false_or_eq_true (manOk L S P) with hm | hm
 · have hd : ((n : Int) == 32) = (n == 32) := by
     by_cases h : n = 32
     · subst h; rfl
     · have h1 : ((n : Int) == 32) = false := by simp; omega
       have h2 : (n == 32) = false := by simp; omega
       rw [h1,h2]
   have Hd := hide hd
   have Hm := hide hm
   rw [hm]
   clear hd hm
   go_wp2_with fail
   go_ret
   exact ⟨by rw [Hm.out,← Hd.out]; rfl,hB3⟩
 · have Hm := hide hm
   rw [hm]
   clear hm
   go_wp2_with fail
   go_ret
   exact ⟨by rw [Hm.out]; rfl,hB3⟩
theorem below_alloc1 (w : World) (o : Obj) : Below w.heap.size w (w.alloc o) := (Below.refl _ _).alloc (Nat.le_refl _) _
def plainL (s v : BitVec 32) (L S P : Nat) (h : List UInt8) : List UInt8 := four s ++ four v ++ [byt ((L : Int) / 256),byt (L : Int),byt (S : Int),byt (P : Int)] ++ h
theorem plainL_len (s v : BitVec 32) (L S P : Nat) (h : List UInt8) : (plainL s v L S P h).length = 12 + h.length := by simp [plainL,four_len]; omega
theorem rdl_four {W : World} {g n m k j c d e f : Nat} {A B C D : Option Addr} {l r s t : List UInt8} (h0 : W.cell? ⟨g,0,none⟩ = some (.slice A n c)) (h1 : W.cell? ⟨g,1,none⟩ = some (.slice B m d)) (h2 : W.cell? ⟨g,2,none⟩ = some (.slice C k e)) (h3 : W.cell? ⟨g,3,none⟩ = some (.slice D j f))
   (hl : Rd W A n c l) (hr : Rd W B m d r) (hs : Rd W C k e s) (ht : Rd W D j f t) : RdL W (some ⟨g,0,none⟩) 4 4 [l,r,s,t] :=
 ⟨rfl,Nat.le_refl _,by decide,fun _ => ⟨_,rfl,fun i x hj => by
   match i,hj with
   | 0,hj => simp at hj; subst hj; exact ⟨A,n,c,by rw [addAt]; exact h0,hl⟩
   | 1,hj => simp at hj; subst hj; exact ⟨B,m,d,by rw [addAt]; exact h1,hr⟩
   | 2,hj => simp at hj; subst hj; exact ⟨C,k,e,by rw [addAt]; exact h2,hs⟩
   | 3,hj => simp at hj; subst hj; exact ⟨D,j,f,by rw [addAt]; exact h3,ht⟩⟩⟩
abbrev ManAt (b : Nat) (s v : BitVec 32) (L S P : Nat) (h : Value) (w1 w' : World) : Prop :=
 (w'.cell? ⟨b,0,none⟩ = some (.int .u32 (V s)) ∧ w'.cell? ⟨b,1,none⟩ = some (.int .u32 (V v)) ∧ w'.cell? ⟨b,2,none⟩ = some (.int .i64 L) ∧ w'.cell? ⟨b,3,none⟩ = some (.int .i64 S) ∧ w'.cell? ⟨b,4,none⟩ = some (.int .i64 P) ∧ w'.cell? ⟨b,5,none⟩ = some h) ∧ Below w1.heap.size w1 w'
theorem ManAt.step {b : Nat} {s v : BitVec 32} {L S P : Nat} {h : Value} {w1 : World} (hb : Blk w1 b (manC s v L S P h) 44) (a w' : World) (ha : ManAt b s v L S P h w1 a) (k : Below a.heap.size a w') : ManAt b s v L S P h w1 w' := by
 have h2 := below_next ha.2 k
 have hq := hb.below h2
 exact ⟨⟨hq.cell rfl,hq.cell rfl,hq.cell rfl,hq.cell rfl,hq.cell rfl,hq.cell rfl⟩,h2⟩
theorem concat_as (A : Option Addr) (n c N : Nat) (ls : List (List UInt8)) (L : List UInt8) (w : World) (hL : ls.flatten = L) (hN : L.length = N) (hr : RdL w A n c ls) (hn : N ≤ 1000000) :
   Calls Tryz.prog 119 #[.slice A n c] w fun e w' => ∃ A' c',e = .returned (.slice A' N c') ∧ Own w' w.heap.size 5 A' N c' L ∧ Below w.heap.size w w' := by
 subst hL
 have h := concat_any A n c ls w hr (by omega)
 rw [hN] at h
 exact h
theorem mid_cells (L S P : Nat) : (#[Value.int .u8 (IntKind.u8.wrap ((L : Int) / 256)),.int .u8 (IntKind.u8.wrap (L : Int)),.int .u8 (IntKind.u8.wrap (S : Int)),.int .u8 (IntKind.u8.wrap (P : Int))] : Array Value).toList = bys [byt ((L : Int) / 256),byt (L : Int),byt (S : Int),byt (P : Int)] := by
 simp [bys,by8,byt_val,IntKind.wrap_u8]
theorem rd_mid (w : World) (L S P : Nat) : Rd (w.alloc (.cells #[Value.int .u8 (IntKind.u8.wrap ((L : Int) / 256)),.int .u8 (IntKind.u8.wrap (L : Int)),.int .u8 (IntKind.u8.wrap (S : Int)),.int .u8 (IntKind.u8.wrap (P : Int))] 5)) (some ⟨w.heap.size,0,none⟩) 4 4 [byt ((L : Int) / 256),byt (L : Int),byt (S : Int),byt (P : Int)] :=
 Rd.new w 5 _ (mid_cells L S P) (by simp [maxLen])
theorem cell1 (w : World) (cs : Array Value) (t : TypeId) (i : Nat) (v : Value) (h : cs[i]? = some v) : (w.alloc (.cells cs t)).cell? ⟨w.heap.size,i,none⟩ = some v := by
 rw [cell_of_row _ _ _ _ _ _ (heap_alloc_new w _),h]
theorem cell2 (w : World) (o : Obj) (cs : Array Value) (t : TypeId) (i : Nat) (v : Value) (h : cs[i]? = some v) : ((w.alloc o).alloc (.cells cs t)).cell? ⟨w.heap.size + 1,i,none⟩ = some v := by
 rw [cell_of_row _ _ _ _ _ _ (heap_alloc2_new w _ _),h]
theorem plain_any (s v : BitVec 32) (L S P : Nat) (A : Option Addr) (c : Nat) (h : List UInt8) (w : World) (hm : manOk L S P = true) (hL : L ≤ 1000000) (hS : S ≤ 1000000) (hr : Rd w A 32 c h) :
   Calls Tryz.prog 71 #[.agg (manC s v L S P (.slice A 32 c))] w fun e w' => ∃ A' c',e = .returned (.tuple #[.slice A' 44 c',.int .i64 0]) ∧ Own w' w.heap.size 5 A' 44 c' (plainL s v L S P h) ∧ Below w.heap.size w w' := by
 have hb0 : Blk (w.alloc (.cells (manC s v L S P (.slice A 32 c)) 44)) w.heap.size (manC s v L S P (.slice A 32 c)) 44 := Blk.new _ _ _
 have hB0 : Below w.heap.size w (w.alloc (.cells (manC s v L S P (.slice A 32 c)) 44)) := (Below.refl _ _).alloc (Nat.le_refl _) _
 have hsz := size44 s v L S P (.slice A 32 c)
 have Hh := hide hr.1
 go_enter Tryz.func71,Tryz.ntmps71
 go_wp2_with (first
   | ((with_reducible refine at_load ?_); refine wpList_load_row rfl 44 (.tmp 1) rfl w.heap.size rfl 44 (manC s v L S P (.slice A 32 c)) (0,0) _ hb0 Tryz.underlying44 rfl hsz ?_))
 refine (may_any s v L S P A 32 c _ hL hS).mono ?_
 rw [hm]
 rintro e w1 ⟨rfl,hb1⟩
 have hbb := hb0.below hb1
 have hB1 := below_next hB0 hb1
 have hr1 := hr.below hB1
 have hst := ManAt.step hbb
 have hS0 : ManAt w.heap.size s v L S P (.slice A 32 c) w1 w1.drew := ⟨⟨hbb.cell rfl,hbb.cell rfl,hbb.cell rfl,hbb.cell rfl,hbb.cell rfl,hbb.cell rfl⟩,(Below.refl _ _).drew⟩
 have hSA : ∀ o,ManAt w.heap.size s v L S P (.slice A 32 c) w1 (w1.alloc o).drew := fun o => hst w1.drew (w1.alloc o).drew hS0 ⟨rfl,rfl,rfl,(below_alloc1 w1 o).size,(below_alloc1 w1 o).block⟩
 clear hb0 hB0 hb1
 go_wp2_with fail
 go_cut [2,3] (fun x y wx => ∃ B' d',x = .slice B' 44 d' ∧ y = .int .i64 0 ∧ Own wx w1.heap.size 5 B' 44 d' (plainL s v L S P h) ∧ Below w1.heap.size w1 wx)
 case first =>
   go_region_held3 (fun w' => (w'.cell? ⟨w.heap.size,0,none⟩ = some (.int .u32 (V s)) ∧ w'.cell? ⟨w.heap.size,1,none⟩ = some (.int .u32 (V v)) ∧ w'.cell? ⟨w.heap.size,2,none⟩ = some (.int .i64 L) ∧ w'.cell? ⟨w.heap.size,3,none⟩ = some (.int .i64 S) ∧ w'.cell? ⟨w.heap.size,4,none⟩ = some (.int .i64 P) ∧ w'.cell? ⟨w.heap.size,5,none⟩ = some (.slice A 32 c)) ∧ Below w1.heap.size w1 w')
     (first | (with_reducible exact hS0) | (with_reducible exact hSA _) | ((with_reducible refine hst _ _ ?_ hb4); with_reducible assumption) | ((with_reducible refine hst _ _ ?_ hb3); with_reducible assumption) | ((with_reducible refine hst _ _ ?_ hb2); with_reducible assumption) | ((with_reducible refine hst _ _ ?_ (below_alloc1 _ _)); with_reducible assumption))
     (first
       | (go_at_call 124; first | ((with_reducible refine (wide_any s _).mono ?_); rintro e w2 ⟨A2,d2,rfl,ho2,hb2⟩) | ((with_reducible refine (wide_any v _).mono ?_); rintro e w3 ⟨A3,d3,rfl,ho3,hb3⟩))
       | (go_at_call 119
          refine (concat_as _ 4 4 44 [four s,four v,[byt ((L : Int) / 256),byt (L : Int),byt (S : Int),byt (P : Int)],h] (plainL s v L S P h) _ (by simp [plainL]) (by rw [plainL_len,Hh.out])
            (rdl_four (by first | exact cell2 _ _ _ _ 0 _ rfl | exact cell1 _ _ _ 0 _ rfl) (by first | exact cell2 _ _ _ _ 1 _ rfl | exact cell1 _ _ _ 1 _ rfl) (by first | exact cell2 _ _ _ _ 2 _ rfl | exact cell1 _ _ _ 2 _ rfl) (by first | exact cell2 _ _ _ _ 3 _ rfl | exact cell1 _ _ _ 3 _ rfl)
              (by repeat (first | (with_reducible exact ho2.rd) | (with_reducible refine Rd.alloc ?_ _) | (with_reducible refine Rd.below ?_ hb3)))
              (by repeat (first | (with_reducible exact ho3.rd) | (with_reducible refine Rd.alloc ?_ _)))
              (by repeat (first | (with_reducible exact rd_mid _ L S P) | (with_reducible exact (rd_mid _ L S P).drew) | (with_reducible refine Rd.alloc ?_ _) | (with_reducible refine Rd.below ?_ hb3) | (with_reducible refine Rd.below ?_ hb2)))
              (by repeat (first | (with_reducible exact hr1.drew) | (with_reducible exact (hr1.alloc _).drew) | (with_reducible refine Rd.alloc ?_ _) | (with_reducible refine Rd.below ?_ hb3) | (with_reducible refine Rd.below ?_ hb2)))) (by omega)).mono ?_
          rintro e w4 ⟨A4,d4,rfl,ho4,hb4⟩))
   all_goals
     go_wp2_with fail
     go_meet
     exact ⟨A4,d4,rfl,rfl,ho4.mono (by have h2 := hb2.size; have h3 := hb3.size; simp at h2 h3 ⊢; omega),(show ManAt w.heap.size s v L S P (.slice A 32 c) w1 w4 by assumption).2⟩
 case rest =>
   obtain ⟨B',d',rfl,rfl,ho,hB⟩ := hcut
   go_wp2_with fail
   go_ret2
   exact ⟨B',d',rfl,ho.mono hB1.size,below_next hB1 hB⟩
theorem manbytes_any (s v : BitVec 32) (L S P : Nat) (A B : Option Addr) (c n d : Nat) (h key : List UInt8) (w : World) (hm : manOk L S P = true) (hL : L ≤ 1000000) (hS : S ≤ 1000000) (hr : Rd w A 32 c h) (hk : Rd w B n d key) (hn : n ≤ 64) :
   Calls Tryz.prog 29 #[.slice B n d,.agg (manC s v L S P (.slice A 32 c))] w fun e w' => ∃ A' c',e = .returned (.tuple #[.slice A' 76 c',.int .i64 0]) ∧ Own w' w.heap.size 5 A' 76 c' (plainL s v L S P h ++ tag key (plainL s v L S P h)) ∧ Below w.heap.size w w' := by
 have hb0 : Blk (w.alloc (.cells (manC s v L S P (.slice A 32 c)) 44)) w.heap.size (manC s v L S P (.slice A 32 c)) 44 := Blk.new _ _ _
 have hB0 : Below w.heap.size w (w.alloc (.cells (manC s v L S P (.slice A 32 c)) 44)) := (Below.refl _ _).alloc (Nat.le_refl _) _
 have hsz := size44 s v L S P (.slice A 32 c)
 go_enter Tryz.func29,Tryz.ntmps29
 go_wp2_with (first
   | ((with_reducible refine at_load ?_); refine wpList_load_row rfl 44 (.tmp 3) rfl w.heap.size rfl 44 (manC s v L S P (.slice A 32 c)) (0,0) _ hb0 Tryz.underlying44 rfl hsz ?_))
 refine (plain_any s v L S P A c h _ hm hL hS (hr.alloc _)).mono ?_
 rintro e w1 ⟨A1,c1,rfl,ho1,hb1⟩
 have hB1 := below_next hB0 hb1
 have hs1 := hB0.size
 have ho1' := ho1.mono hs1
 clear ho1
 go_wp2_with fail
 refine (tag_any B A1 n d 44 c1 key _ _ (hk.below hB1) hn ho1'.rd (by omega)).mono ?_
 rintro e w2 ⟨A2,c2,rfl,ho2,hb2⟩
 have hB2 := below_next hB1 hb2
 have ho1'' := ho1'.below hb2
 go_wp2_with (at_builtin
              refine wpList_append8 _ rfl _ _ _ rfl w.heap.size 5 Tryz.underlying22 isByte A1 44 c1 _ rfl ho1'' A2 32 c2 _ rfl ho2.rd (by omega) hB2.size ?_
              intro A3 c3 w3 ho3 hb3 _ _)
 go_ret2
 exact ⟨A3,c3,rfl,ho3,hB2.trans hb3⟩
def mS (l : List UInt8) : BitVec 32 := numB (l.take 4)
def mV (l : List UInt8) : BitVec 32 := numB ((l.drop 4).take 4)
def mL (l : List UInt8) : Nat := (numB ((l.drop 8).take 2)).toNat
def mZ (l : List UInt8) : Nat := (l.getD 10 0).toNat
def mP (l : List UInt8) : Nat := (l.getD 11 0).toNat
theorem numB_lt : ∀ (l : List UInt8) (n : BitVec 32) (j : Nat),n.toNat < 2 ^ (8 * j) → (l.foldl (fun (n : BitVec 32) (x : UInt8) => n <<< 8 ||| CrcP.bw x) n).toNat < 2 ^ (8 * (j + l.length)) := by
 intro l
 induction l with
 | nil => intro n j h; simpa using h
 | cons x r ih =>
   intro n j h
   rw [List.foldl_cons,List.length_cons,show j + (r.length + 1) = (j + 1) + r.length by omega]
   refine ih _ (j + 1) ?_
   rw [BitVec.toNat_or,BitVec.toNat_shiftLeft,Nat.shiftLeft_eq]
   have e1 : 2 ^ (8 * (j + 1)) = 2 ^ (8 * j) * 256 := by rw [show 8 * (j + 1) = 8 * j + 8 by omega,Nat.pow_add]
   refine Nat.or_lt_two_pow ?_ ?_
   · refine Nat.lt_of_le_of_lt (Nat.mod_le _ _) ?_
     rw [e1]
     exact Nat.mul_lt_mul_of_pos_right h (by omega)
   · rw [CrcP.bw_toNat,e1]
     have := x.toNat_lt
     have h2 : 0 < 2 ^ (8 * j) := Nat.pow_pos (by omega)
     have : 1 * 256 ≤ 2 ^ (8 * j) * 256 := Nat.mul_le_mul_right _ h2
     omega
theorem mL_lt (l : List UInt8) : mL l < 65536 := by
 unfold mL numB
 have h := numB_lt ((l.drop 8).take 2) 0#32 0 (by simp)
 refine Nat.lt_of_lt_of_le h ?_
 have : ((l.drop 8).take 2).length ≤ 2 := by rw [List.length_take]; omega
 calc 2 ^ (8 * (0 + ((l.drop 8).take 2).length)) ≤ 2 ^ 16 := Nat.pow_le_pow_right (by omega) (by omega)
   _ = 65536 := rfl
theorem one44 (s v : BitVec 32) (L S P : Nat) (A : Option Addr) (n c : Nat) : (manC s v L S P (.slice A n c)).all (·.oneCell') = true := by simp [manC,Value.oneCell']
theorem alloc3_old (w : World) (A B C : Obj) : (((w.alloc A).alloc B).alloc C).heap[w.heap.size]? = some A := by
 have := heap_alloc_old ((w.alloc A).alloc B) C (show w.heap.size < ((w.alloc A).alloc B).heap.size by simp; omega)
 rw [this]
 exact heap_alloc2_old w A B
theorem Own.setRow {w : World} {base : Nat} {e : TypeId} {A : Option Addr} {n c : Nat} {l : List UInt8} (h : Own w base e A n c l) {g : Nat} {cs : Array Value} {t : TypeId} (hg : Blk w g cs t) (hne : e ≠ t) (cs' : Array Value) : Own (w.setRow g cs') base e A n c l := by
 refine ⟨h.1,?_⟩
 rcases h.2 with h2 | ⟨g2,cap,cur,hv,hb,hgg,r⟩
 · exact .inl h2
 · refine .inr ⟨g2,cap,cur,hv,hb,?_,r⟩
   rw [setRow_other _ _ _ _ (show g2 ≠ g by
     rintro rfl
     unfold Blk at hg
     rw [hgg] at hg
     simp only [Option.some.injEq,Obj.cells.injEq] at hg
     exact hne hg.2.1)]
   exact hgg
theorem number_still (A : Option Addr) (n c : Nat) (l : List UInt8) (w : World) (hr : Rd w A n c l) (hn : n ≤ 1000000) :
   Calls Tryz.prog 157 #[.slice A n c] w fun e w' => e = .returned (.int .u32 (V (numB l))) ∧ w' = w := (number_any A n c l w hr hn).mono fun _ _ ⟨h1,h2⟩ => ⟨h1,h2.symm⟩
theorem manread_any (A : Option Addr) (c : Nat) (l : List UInt8) (w : World) (hr : Rd w A 44 c l) :
   Calls Tryz.prog 101 #[.slice A 44 c] w fun e w' => ∃ H d,(manOk (mL l) (mZ l) (mP l) = true ∧ e = .returned (.tuple #[.agg (manC (mS l) (mV l) (mL l) (mZ l) (mP l) (.slice H 32 d)),.int .i64 0]) ∨
       manOk (mL l) (mZ l) (mP l) = false ∧ e = .returned (.tuple #[.agg (manC 0#32 0#32 0 0 0 (.slice none 0 0)),.int .i64 3])) ∧ Own w' w.heap.size 5 H 32 d (l.drop 12) ∧ Below w.heap.size w w' := by
 obtain ⟨ad,x,rfl,hx,hcx⟩ := hr.at_ (k := 10) (by omega)
 obtain ⟨ad',y,e,hy,hcy⟩ := hr.at_ (k := 11) (by omega)
 cases e
 have hcx : w.cell? ⟨ad.block,ad.off + 10,none⟩ = some (.int .u8 x.toNat) := hcx
 have hcy : w.cell? ⟨ad.block,ad.off + 11,none⟩ = some (.int .u8 y.toNat) := hcy
 have hZ : Hid (mZ l = x.toNat) := hide (by unfold mZ; rw [List.getD_eq_getElem?_getD,hx]; rfl)
 have hP : Hid (mP l = y.toNat) := hide (by unfold mP; rw [List.getD_eq_getElem?_getD,hy]; rfl)
 have hcap := hr.2.1
 have hcap' : (44 : Int) ≤ (c : Int) := by omega
 have h0 := hr.hi (k := 4) (by omega)
 have h4 : Rd w (some ⟨ad.block,ad.off + 4,none⟩) 4 (c - 4) ((l.drop 4).take 4) := hr.mid (k := 4) (m := 4) (by omega) (by omega)
 have h8 : Rd w (some ⟨ad.block,ad.off + 8,none⟩) 2 (c - 8) ((l.drop 8).take 2) := hr.mid (k := 8) (m := 2) (by omega) (by omega)
 have h12 : Rd w (some ⟨ad.block,ad.off + 12,none⟩) 32 (c - 12) (l.drop 12) := hr.lo_ne (k := 12) (by omega) (by omega)
 have hne : ¬ (c = 12) := by omega
 have hne4 : ¬ (c = 4) := by omega
 have hne8 : ¬ (c = 8) := by omega
 have hc4 : (4 : Int) ≤ (c : Int) := by omega
 have hc8 : (8 : Int) ≤ (c : Int) := by omega
 have hc10 : (10 : Int) ≤ (c : Int) := by omega
 have hc12 : (12 : Int) ≤ (c : Int) := by omega
 have hz0 : Blk (w.alloc (.cells (manC 0#32 0#32 0 0 0 (.slice none 0 0)) 44)) w.heap.size (manC 0#32 0#32 0 0 0 (.slice none 0 0)) 44 := Blk.new _ _ _
 have hB0 : Below w.heap.size w (w.alloc (.cells (manC 0#32 0#32 0 0 0 (.slice none 0 0)) 44)) := (Below.refl _ _).alloc (Nat.le_refl _) _
 have bx := x.toNat_lt
 have by_ := y.toNat_lt
 clear hx hy
 go_enter Tryz.func101,Tryz.ntmps101
 go_wp2_with fail
 change Code.wp _ _ _ _ (w.alloc (.cells (manC 0#32 0#32 0 0 0 (.slice none 0 0)) 44))
 have hcx0 : (w.alloc (.cells (manC 0#32 0#32 0 0 0 (.slice none 0 0)) 44)).cell? ⟨ad.block,ad.off + 10,none⟩ = some (.int .u8 x.toNat) := (World.cell?_alloc_past _ _ _ (World.block_lt_of_cell? w _ hcx)).trans hcx
 have hcy0 : (w.alloc (.cells (manC 0#32 0#32 0 0 0 (.slice none 0 0)) 44)).cell? ⟨ad.block,ad.off + 11,none⟩ = some (.int .u8 y.toNat) := (World.cell?_alloc_past _ _ _ (World.block_lt_of_cell? w _ hcy)).trans hcy
 have h0' := h0.below hB0
 have h4' := h4.below hB0
 have h8' := h8.below hB0
 have h12' := h12.below hB0
 have hlt0 : w.heap.size < (w.alloc (.cells (manC 0#32 0#32 0 0 0 (.slice none 0 0)) 44)).heap.size := by simp
 generalize w.alloc (.cells (manC 0#32 0#32 0 0 0 (.slice none 0 0)) 44) = w0 at *
 clear h0 h4 h8 h12 hcx hcy hr
 have q1 : ∀ (o1 o2 o3 : Obj),(w0.alloc o1).cell? ⟨ad.block,ad.off + 10,none⟩ = some (.int .u8 x.toNat) ∧ ((w0.alloc o1).alloc o2).cell? ⟨ad.block,ad.off + 10,none⟩ = some (.int .u8 x.toNat) ∧ (((w0.alloc o1).alloc o2).alloc o3).cell? ⟨ad.block,ad.off + 10,none⟩ = some (.int .u8 x.toNat) := fun o1 o2 o3 => by
   have hB : Below w0.heap.size w0 (((w0.alloc o1).alloc o2).alloc o3) := (((Below.refl _ _).alloc (Nat.le_refl _) _).alloc (by simp) _).alloc (by simp; omega) _
   have hB2 : Below w0.heap.size w0 ((w0.alloc o1).alloc o2) := ((Below.refl _ _).alloc (Nat.le_refl _) _).alloc (by simp) _
   have hl := World.block_lt_of_cell? w0 _ hcx0
   exact ⟨((below_alloc1 w0 o1).cell hl).trans hcx0,(hB2.cell hl).trans hcx0,(hB.cell hl).trans hcx0⟩
 have q2 : ∀ (o1 o2 o3 : Obj),(w0.alloc o1).cell? ⟨ad.block,ad.off + 11,none⟩ = some (.int .u8 y.toNat) ∧ ((w0.alloc o1).alloc o2).cell? ⟨ad.block,ad.off + 11,none⟩ = some (.int .u8 y.toNat) ∧ (((w0.alloc o1).alloc o2).alloc o3).cell? ⟨ad.block,ad.off + 11,none⟩ = some (.int .u8 y.toNat) := fun o1 o2 o3 => by
   have hB : Below w0.heap.size w0 (((w0.alloc o1).alloc o2).alloc o3) := (((Below.refl _ _).alloc (Nat.le_refl _) _).alloc (by simp) _).alloc (by simp; omega) _
   have hB2 : Below w0.heap.size w0 ((w0.alloc o1).alloc o2) := ((Below.refl _ _).alloc (Nat.le_refl _) _).alloc (by simp) _
   have hl := World.block_lt_of_cell? w0 _ hcy0
   exact ⟨((below_alloc1 w0 o1).cell hl).trans hcy0,(hB2.cell hl).trans hcy0,(hB.cell hl).trans hcy0⟩
 have q1a := fun o => (q1 o o o).1
 have q1b := fun o1 o2 => (q1 o1 o2 o1).2.1
 have q1c := fun o1 o2 o3 => (q1 o1 o2 o3).2.2
 have q2a := fun o => (q2 o o o).1
 have q2b := fun o1 o2 => (q2 o1 o2 o1).2.1
 have q2c := fun o1 o2 o3 => (q2 o1 o2 o3).2.2
 clear q1 q2
 have dd0 := h0'.drew
 have dd4 := h4'.drew
 have dd8 := h8'.drew
 have dd12 := h12'.drew
 have ad0 := fun o => (h0'.alloc o).drew
 have ad4 := fun o => (h4'.alloc o).drew
 have ad8 := fun o => (h8'.alloc o).drew
 have ad12 := fun o => (h12'.alloc o).drew
 have hl12 : Hid ((l.drop 12).length = 32) := hide h12'.1
 have hcs : Hid (∀ (g cp : Nat),(#[Value.int .u32 (V (numB (l.take 4))),.int .u32 (V (numB ((l.drop 4).take 4))),.int .i64 (IntKind.i64.wrap (V (numB ((l.drop 8).take 2)))),.int .i64 (IntKind.i64.wrap (x.toNat : Int)),.int .i64 (IntKind.i64.wrap (y.toNat : Int)),.slice (some ⟨g,0,none⟩) 32 cp] : Array Value) = manC (mS l) (mV l) (mL l) (mZ l) (mP l) (.slice (some ⟨g,0,none⟩) 32 cp)) := hide (by
   intro g cp
   have hb := V_bd (numB ((l.drop 8).take 2))
   have e1 : IntKind.i64.wrap (V (numB ((l.drop 8).take 2))) = V (numB ((l.drop 8).take 2)) := by rw [IntKind.wrap_i64]; omega
   have e2 : IntKind.i64.wrap (x.toNat : Int) = (x.toNat : Int) := by rw [IntKind.wrap_i64]; omega
   have e3 : IntKind.i64.wrap (y.toNat : Int) = (y.toNat : Int) := by rw [IntKind.wrap_i64]; omega
   rw [e1,e2,e3,manC,hZ.out,hP.out]
   rfl)
 go_cut [4] (fun p wx => ∃ g H d,p = .pointer (some ⟨g,0,none⟩) ∧ w0.heap.size ≤ g ∧ Blk wx g (manC (mS l) (mV l) (mL l) (mZ l) (mP l) (.slice H 32 d)) 44 ∧ Own wx w0.heap.size 5 H 32 d (l.drop 12) ∧ Below w0.heap.size w0 wx)
 case first =>
   go_region_held3 (fun w' => w'.cell? ⟨ad.block,ad.off + 10,none⟩ = some (.int .u8 x.toNat) ∧ w'.cell? ⟨ad.block,ad.off + 11,none⟩ = some (.int .u8 y.toNat)) (go_keep)
     (first
       | (go_at_call 157; first | ((with_reducible refine (number_still (some ad) 4 c (l.take 4) _ ?_ (by omega)).mono ?_); (first | (with_reducible exact dd0) | (with_reducible exact ad0 _)); rintro e w' ⟨rfl,rfl⟩) | ((with_reducible refine (number_still (some ⟨ad.block,ad.off + 4,none⟩) 4 (c - 4) ((l.drop 4).take 4) _ ?_ (by omega)).mono ?_); (first | (with_reducible exact dd4) | (with_reducible exact ad4 _)); rintro e w' ⟨rfl,rfl⟩) | ((with_reducible refine (number_still (some ⟨ad.block,ad.off + 8,none⟩) 2 (c - 8) ((l.drop 8).take 2) _ ?_ (by omega)).mono ?_); (first | (with_reducible exact dd8) | (with_reducible exact ad8 _)); rintro e w' ⟨rfl,rfl⟩))
       | (go_at_call 23; (with_reducible refine (clone_lit ⟨ad.block,ad.off + 12,none⟩ 32 (c - 12) (l.drop 12) _ ?_ (by omega) (by omega)).mono ?_); (first | (with_reducible exact dd12) | (with_reducible exact ad12 _)); rintro e w3 ⟨X,cp,rfl,rfl,hX⟩))
   all_goals
     go_wp2_with fail
     go_meet
     first
       | exact ⟨_,_,cp,rfl,by omega,by rw [← hcs.out]; exact alloc3_new w0 _ _ _,hX.own hl12.out (by omega) (alloc3_mid w0 _ _ _),((((Below.refl _ _).alloc (Nat.le_refl _) _).alloc (by simp) _).alloc (by simp; omega) _).drew.drew⟩
       | exact ⟨_,_,cp,rfl,by omega,by rw [← hcs.out]; exact alloc3_old w0 _ _ _,hX.own hl12.out (by omega) (alloc3_new w0 _ _ _),((((Below.refl _ _).alloc (Nat.le_refl _) _).alloc (by simp) _).alloc (by simp; omega) _).drew.drew⟩
 case rest =>
   obtain ⟨g,H,d,rfl,hg,hblk,hown,hB⟩ := hcut
   have hzc := hz0.below (hB.mono (Nat.le_refl _))
   have hBw : Below w.heap.size w wc := below_next hB0 hB
   have hsz := size44 (mS l) (mV l) (mL l) (mZ l) (mP l) (.slice H 32 d)
   have hszz := size44 0#32 0#32 0 0 0 (.slice none 0 0)
   have hL : mL l ≤ 1000000 := by have := mL_lt l; omega
   have hS : mZ l ≤ 1000000 := by have := hZ.out; omega
   clear hcs hl12 q1a q1b q1c q2a q2b q2c dd0 dd4 dd8 dd12 ad0 ad4 ad8 ad12 h0' h4' h8' h12' hcx0 hcy0 hZ hP hz0
   go_wp2_with (first
     | ((with_reducible refine at_load ?_); refine wpList_load_row rfl 44 (.tmp 4) rfl g rfl 44 (manC (mS l) (mV l) (mL l) (mZ l) (mP l) (.slice H 32 d)) (0,0) _ hblk Tryz.underlying44 rfl hsz ?_))
   refine (may_any (mS l) (mV l) (mL l) (mZ l) (mP l) H 32 d _ hL hS).mono ?_
   rintro e w1 ⟨rfl,hb1⟩
   have hblk1 := hblk.below hb1
   have hzc1 := hzc.below hb1
   have hown1 := hown.below hb1
   have hB1 := below_next hBw hb1
   have hs0 := hB0.size
   rcases Bool.eq_false_or_eq_true (manOk (mL l) (mZ l) (mP l)) with hm | hm
   · have Hm := hide hm
     rw [hm]
     clear hm
     go_wp2_with (first
       | ((with_reducible refine at_load ?_); refine wpList_load_row rfl 44 (.tmp 4) rfl g rfl 44 (manC (mS l) (mV l) (mL l) (mZ l) (mP l) (.slice H 32 d)) (0,0) _ hblk1 Tryz.underlying44 rfl hsz ?_)
       | ((with_reducible refine at_store ?_); refine wpList_store_row rfl 44 (.tmp 2) (.tmp 35) rfl w.heap.size (manC (mS l) (mV l) (mL l) (mZ l) (mP l) (.slice H 32 d)) rfl rfl 44 (manC 0#32 0#32 0 0 0 (.slice none 0 0)) hzc1 hsz rfl (one44 _ _ _ _ _ _ _ _) ?_))
     refine bodyPost_ret (results_cell_slot Tryz.results101 _ _ w.heap.size 44 (manC (mS l) (mV l) (mL l) (mZ l) (mP l) (.slice H 32 d)) (0,0) _ _ rfl rfl (setRow_heap _ _ _ _ _ _ hzc1) Tryz.underlying44 rfl hsz) rfl ?_
     exact ⟨H,d,.inl ⟨Hm.out,rfl⟩,(hown1.mono hs0).setRow hzc1 (by decide) _,below_setRow hB1 (Nat.le_refl _) _⟩
   · have Hm := hide hm
     rw [hm]
     clear hm
     go_wp2_with (first
       | ((with_reducible refine at_build ?_); refine wpList_build_as rfl 44 #[] rfl (manC 0#32 0#32 0 0 0 (.slice none 0 0)) (by kernel_rfl) ?_)
       | ((with_reducible refine at_store ?_); refine wpList_store_row rfl 44 (.tmp 2) (.tmp 34) rfl w.heap.size (manC 0#32 0#32 0 0 0 (.slice none 0 0)) rfl rfl 44 (manC 0#32 0#32 0 0 0 (.slice none 0 0)) hzc1 hszz rfl (one44 _ _ _ _ _ _ _ _) ?_))
     refine bodyPost_ret (results_cell_slot Tryz.results101 _ _ w.heap.size 44 (manC 0#32 0#32 0 0 0 (.slice none 0 0)) (0,0) _ _ rfl rfl (setRow_heap _ _ _ _ _ _ hzc1) Tryz.underlying44 rfl hszz) rfl ?_
     exact ⟨H,d,.inr ⟨Hm.out,rfl⟩,(hown1.mono hs0).setRow hzc1 (by decide) _,below_setRow hB1 (Nat.le_refl _) _⟩
def num (l : List UInt8) : Nat := l.foldl (fun n x => n * 256 + x.toNat) 0
theorem or_by8 (n : Nat) (x : UInt8) : n * 256 ||| x.toNat = n * 256 + x.toNat := by
 have h := Nat.shiftLeft_add_eq_or_of_lt (b := x.toNat) (i := 8) x.toNat_lt n
 rw [Nat.shiftLeft_eq] at h
 exact h.symm
theorem num_fold : ∀ (l : List UInt8) (a : Nat),l.foldl (fun n x => n * 256 + x.toNat) a = a * 256 ^ l.length + num l := by
 intro l
 induction l with
 | nil => intro a; simp [num]
 | cons x r ih =>
   intro a
   unfold num
   rw [List.foldl_cons,List.foldl_cons,ih,ih,List.length_cons,Nat.pow_succ]
   have : a * (256 ^ r.length * 256) = a * 256 * 256 ^ r.length := by rw [Nat.mul_comm (256 ^ r.length) 256,Nat.mul_assoc]
   rw [this,Nat.add_mul,Nat.add_mul]
   omega
theorem num_app (a b : List UInt8) : num (a ++ b) = num a * 256 ^ b.length + num b := by
 show (a ++ b).foldl _ 0 = _
 rw [List.foldl_append,num_fold]
 rfl
theorem num_snoc (l : List UInt8) (k : Nat) (x : UInt8) (h : l[k]? = some x) : num (l.take (k + 1)) = num (l.take k) * 256 + x.toNat := by
 rw [List.take_add_one,h]
 show ((l.take k) ++ [x]).foldl _ 0 = _
 rw [List.foldl_append]
 rfl
theorem num_lt : ∀ (l : List UInt8),num l < 256 ^ l.length := by
 intro l
 induction l with
 | nil => simp [num]
 | cons x r ih =>
   have := num_app [x] r
   rw [List.singleton_append] at this
   rw [this,List.length_cons,Nat.pow_succ]
   have h1 : num [x] = x.toNat := by simp [num]
   have := x.toNat_lt
   rw [h1]
   have h2 : x.toNat * 256 ^ r.length ≤ 255 * 256 ^ r.length := Nat.mul_le_mul_right _ (by omega)
   omega
theorem numB_num : ∀ (l : List UInt8),l.length ≤ 4 → (numB l).toNat = num l := by
 have key : ∀ (l : List UInt8) (n : BitVec 32) (j : Nat),j + l.length ≤ 4 → n.toNat < 256 ^ j → (l.foldl (fun (n : BitVec 32) (x : UInt8) => n <<< 8 ||| CrcP.bw x) n).toNat = l.foldl (fun n x => n * 256 + x.toNat) n.toNat := by
   intro l
   induction l with
   | nil => intro n j _ _; rfl
   | cons x r ih =>
     intro n j hj hn
     rw [List.length_cons] at hj
     have e : (n <<< 8 ||| CrcP.bw x).toNat = n.toNat * 256 + x.toNat := by
       rw [BitVec.toNat_or,BitVec.toNat_shiftLeft,Nat.shiftLeft_eq,CrcP.bw_toNat]
       have h3 : 256 ^ j ≤ 256 ^ 3 := Nat.pow_le_pow_right (by omega) (by omega)
       have : n.toNat * 2 ^ 8 % 2 ^ 32 = n.toNat * 256 := by omega
       rw [this,or_by8]
     rw [List.foldl_cons,List.foldl_cons,ih _ (j + 1) (by omega) (by
       rw [e,Nat.pow_succ]
       have := x.toNat_lt
       have h2 : n.toNat * 256 ≤ (256 ^ j - 1) * 256 := Nat.mul_le_mul_right _ (by omega)
       omega),e]
 intro l hl
 exact key l 0#32 0 (by omega) (by simp)
theorem num_two (l : List UInt8) (h : 8 ≤ l.length) : (num (l.take 8) : Int) / 4294967296 % 4294967296 = V (numB (l.take 4)) ∧ (num (l.take 8) : Int) % 4294967296 = V (numB ((l.drop 4).take 4)) := by
 have e : l.take 8 = l.take 4 ++ (l.drop 4).take 4 := by
   rw [show 8 = 4 + 4 by rfl,List.take_add]
 have h1 := num_app (l.take 4) ((l.drop 4).take 4)
 rw [← e] at h1
 have hl2 : ((l.drop 4).take 4).length = 4 := by rw [List.length_take,List.length_drop]; omega
 have hl1 : (l.take 4).length = 4 := by rw [List.length_take]; omega
 have a1 := num_lt (l.take 4)
 have a2 := num_lt ((l.drop 4).take 4)
 rw [hl1] at a1
 rw [hl2] at a2 h1
 unfold V
 rw [numB_num _ (by omega),numB_num _ (by omega),h1]
 omega
theorem u64_pack (n : Nat) (x : UInt8) (hn : n < 72057594037927936) : bits .or .u64 ((n : Int) * 256) (x.toNat : Int) = ((n * 256 + x.toNat : Nat) : Int) := by
 have hx := x.toNat_lt
 have := u64_or_nat (n * 256) x.toNat (by omega) (by omega)
 rw [or_by8] at this
 rw [← this]
 congr 1
def symC (s i : BitVec 32) (h : Value) : Array Value := #[.int .u32 (V s),.int .u32 (V i),h]
theorem size94 (s i : BitVec 32) (h : Value) : (Tryz.prog.info? 94).map (·.size) = some (symC s i h).size := by
 have : (Tryz.prog.info? 94).map (·.size) = some 3 := by kernel_rfl
 rw [this]; rfl
theorem one94 (s i : BitVec 32) (A : Option Addr) (n c : Nat) : (symC s i (.slice A n c)).all (·.oneCell') = true := by simp [symC,Value.oneCell']
def pktErr (n : Nat) : Int := if n ≤ 8 then 2 else if 24 < n then 3 else 0
theorem pktparse_all (B : Option Addr) (m d : Nat) (l : List UInt8) (w : World) (hr : Rd w B m d l) :
   Calls Tryz.prog 85 #[.slice B m d] w fun e w' => ∃ cs H f,e = .returned (.tuple #[.agg cs,.int .i64 (pktErr m)]) ∧
     (pktErr m = 0 → cs = symC (numB (l.take 4)) (numB ((l.drop 4).take 4)) (.slice H (m - 8) f) ∧ Own w' w.heap.size 5 H (m - 8) f (l.drop 8)) ∧ Below w.heap.size w w' ∧ ∃ x i A' n' c',cs = symC x i (.slice A' n' c') := by
 have Hl := hide hr.1
 have hz0 : Blk (w.alloc (.cells (symC 0#32 0#32 (.slice none 0 0)) 94)) w.heap.size (symC 0#32 0#32 (.slice none 0 0)) 94 := Blk.new _ _ _
 have hB0 : Below w.heap.size w (w.alloc (.cells (symC 0#32 0#32 (.slice none 0 0)) 94)) := (Below.refl _ _).alloc (Nat.le_refl _) _
 have hszz := size94 0#32 0#32 (.slice none 0 0)
 by_cases h8 : m ≤ 8
 · have hE : Hid (pktErr m = 2) := hide (by unfold pktErr; rw [if_pos h8])
   have hd : decide ((m : Int) ≤ 8) = true := by simp; omega
   go_enter Tryz.func85,Tryz.ntmps85
   go_wp2_with (first
     | ((with_reducible refine at_build ?_); refine wpList_build_as rfl 94 #[] rfl (symC 0#32 0#32 (.slice none 0 0)) (by kernel_rfl) ?_)
     | ((with_reducible refine at_store ?_); refine wpList_store_row rfl 94 (.tmp 2) (.tmp 11) rfl w.heap.size (symC 0#32 0#32 (.slice none 0 0)) rfl rfl 94 (symC 0#32 0#32 (.slice none 0 0)) hz0 hszz rfl (one94 _ _ _ _ _) ?_))
   refine bodyPost_ret (results_cell_slot Tryz.results85 _ _ w.heap.size 94 _ (0,0) _ _ rfl rfl (setRow_heap _ _ _ _ _ _ hz0) Tryz.underlying94 rfl hszz) rfl ?_
   refine ⟨_,none,0,by rw [hE.out]; rfl,fun h => ?_,below_setRow hB0 (Nat.le_refl _) _,_,_,_,_,_,rfl⟩
   rw [hE.out] at h
   cases h
 · have hd : decide ((m : Int) ≤ 8) = false := by simp; omega
   by_cases h24 : 24 < m
   · have hE : Hid (pktErr m = 3) := hide (by unfold pktErr; rw [if_neg h8,if_pos h24])
     have hd2 : decide (24 < (m : Int)) = true := by simp; omega
     go_enter Tryz.func85,Tryz.ntmps85
     go_wp2_with (first
       | ((with_reducible refine at_build ?_); refine wpList_build_as rfl 94 #[] rfl (symC 0#32 0#32 (.slice none 0 0)) (by kernel_rfl) ?_)
       | ((with_reducible refine at_store ?_); refine wpList_store_row rfl 94 (.tmp 2) (.tmp 16) rfl w.heap.size (symC 0#32 0#32 (.slice none 0 0)) rfl rfl 94 (symC 0#32 0#32 (.slice none 0 0)) hz0 hszz rfl (one94 _ _ _ _ _) ?_))
     refine bodyPost_ret (results_cell_slot Tryz.results85 _ _ w.heap.size 94 _ (0,0) _ _ rfl rfl (setRow_heap _ _ _ _ _ _ hz0) Tryz.underlying94 rfl hszz) rfl ?_
     refine ⟨_,none,0,by rw [hE.out]; rfl,fun h => ?_,below_setRow hB0 (Nat.le_refl _) _,_,_,_,_,_,rfl⟩
     rw [hE.out] at h
     cases h
   · have hE : Hid (pktErr m = 0) := hide (by unfold pktErr; rw [if_neg h8,if_neg h24])
     have hd2 : decide (24 < (m : Int)) = false := by simp; omega
     have hcap := hr.2.1
     have hm8 : (8 : Int) ≤ (m : Int) := by omega
     have hc8 : (8 : Int) ≤ (d : Int) := by omega
     have hm24 : (m : Int) ≤ 24 := by omega
     have hnd : ¬ (d = 8) := by omega
     have hrb := hr.below hB0
     obtain ⟨ad,rfl,_⟩ := hr.ptr (by omega)
     have hg : Rd (w.alloc (.cells (symC 0#32 0#32 (.slice none 0 0)) 94)) (some ⟨ad.block,ad.off + 8,none⟩) (m - 8) (d - 8) (l.drop 8) := hrb.lo_ne (k := 8) (by omega) (by omega)
     have hN := hide (num_two l (by rw [Hl.out]; omega))
     have ms : ((m - 8 : Nat) : Int) = (m : Int) - 8 := by omega
     go_enter Tryz.func85,Tryz.ntmps85
     go_wp2_with fail
     change Code.wp _ _ _ _ (w.alloc (.cells (symC 0#32 0#32 (.slice none 0 0)) 94))
     generalize w.alloc (.cells (symC 0#32 0#32 (.slice none 0 0)) 94) = w0 at *
     go_loop [4,20] (fun v i => ∃ k : Nat,k ≤ 8 ∧ i = .int .i64 (k : Int) ∧ v = .int .u64 (num (l.take k) : Nat)) (fun _ i => 8 - (intOf i).toNat)
     case atStart => exact ⟨0,by omega,rfl,rfl⟩
     case round =>
       obtain ⟨k,hk,rfl,rfl⟩ := hrel
       by_cases hlt : k < 8
       · obtain ⟨ad',x,e,hx,hc⟩ := hrb.at_ (k := k) (by omega)
         cases e
         have hS : Hid (num (l.take (k + 1)) = num (l.take k) * 256 + x.toNat) := hide (num_snoc l k x hx)
         have hlt' : (k : Int) < 8 := by omega
         have hb : num (l.take k) < 72057594037927936 := by
           refine Nat.lt_of_lt_of_le (num_lt _) ?_
           have : (l.take k).length ≤ 7 := by rw [List.length_take]; omega
           exact Nat.pow_le_pow_right (n := 256) (by omega) this
         generalize num (l.take k) = p at *
         have hb' : (p : Int) < 72057594037927936 := by omega
         have hpk := u64_pack p x hb
         have lx := x.toNat_lt
         clear hx
         go_wp2_with fail
         go_round
         case rel => exact ⟨k + 1,by omega,by go_num,by rw [hS.out]; first | rfl | (rw [hpk]) | skip⟩
         case measure => simp [intOf]; omega
       · obtain rfl : k = 8 := by omega
         have hb : num (l.take 8) < 18446744073709551616 := by
           refine Nat.lt_of_lt_of_le (num_lt _) ?_
           have : (l.take 8).length ≤ 8 := by rw [List.length_take]; omega
           exact Nat.pow_le_pow_right (n := 256) (by omega) this
         generalize num (l.take 8) = p at *
         have hb' : (p : Int) < 18446744073709551616 := by omega
         go_wp2_with fail
         refine (clone_any (some ⟨ad.block,ad.off + 8,none⟩) (m - 8) (d - 8) (l.drop 8) _ hg (by omega)).mono ?_
         rintro e w1 ⟨H,f,rfl,ho1,hb1⟩
         have hz1 := hz0.below hb1
         have hB1 := below_next hB0 hb1
         have hs1 := hB0.size
         have hsz := size94 (numB (l.take 4)) (numB ((l.drop 4).take 4)) (.slice H (m - 8) f)
         have hagg : Hid (Value.agg #[.int .u32 ((p : Int) / 4294967296),.int .u32 ((p : Int) % 4294967296),.slice H (m - 8) f] = Value.agg (symC (numB (l.take 4)) (numB ((l.drop 4).take 4)) (.slice H (m - 8) f))) := hide (by
           have h1 := hN.out.1
           have h2 := hN.out.2
           have h3 : (p : Int) / 4294967296 % 4294967296 = (p : Int) / 4294967296 := by omega
           rw [h3] at h1
           unfold symC
           rw [h1,h2])
         go_wp2_with (first
           | ((with_reducible refine at_store ?_); refine wpList_store_row rfl 94 (.tmp 2) (.tmp 38) rfl w.heap.size (symC (numB (l.take 4)) (numB ((l.drop 4).take 4)) (.slice H (m - 8) f)) rfl hagg.out 94 (symC 0#32 0#32 (.slice none 0 0)) hz1 hsz rfl (one94 _ _ _ _ _) ?_))
         refine bodyPost_ret (results_cell_slot Tryz.results85 _ _ w.heap.size 94 _ (0,0) _ _ rfl rfl (setRow_heap _ _ _ _ _ _ hz1) Tryz.underlying94 rfl hsz) rfl ?_
         exact ⟨_,H,f,by rw [hE.out]; rfl,fun _ => ⟨rfl,(ho1.mono hs1).setRow hz1 (by decide) _⟩,below_setRow hB1 (Nat.le_refl _) _,_,_,_,_,_,rfl⟩
def manErr (key l : List UInt8) : Int :=
 if l.length ≠ 76 then 3 else if tag key (l.take 44) ≠ l.drop 44 then 5 else if manOk (mL (l.take 44)) (mZ (l.take 44)) (mP (l.take 44)) = true then 0 else 3
theorem manparse_all (A B : Option Addr) (n c m d : Nat) (key l : List UInt8) (w : World) (hk : Rd w A n c key) (hn : n ≤ 64) (hr : Rd w B m d l) :
   Calls Tryz.prog 82 #[.slice A n c,.slice B m d] w fun e w' => ∃ cs H f,e = .returned (.tuple #[.agg cs,.int .i64 (manErr key l)]) ∧
     (manErr key l = 0 → cs = manC (mS (l.take 44)) (mV (l.take 44)) (mL (l.take 44)) (mZ (l.take 44)) (mP (l.take 44)) (.slice H 32 f) ∧ Own w' w.heap.size 5 H 32 f ((l.take 44).drop 12)) ∧ Below w.heap.size w w' ∧ ∃ s v L S P A' n' c',cs = manC s v L S P (.slice A' n' c') := by
 have Hl := hide hr.1
 have hz0 : Blk (w.alloc (.cells (manC 0#32 0#32 0 0 0 (.slice none 0 0)) 44)) w.heap.size (manC 0#32 0#32 0 0 0 (.slice none 0 0)) 44 := Blk.new _ _ _
 have hB0 : Below w.heap.size w (w.alloc (.cells (manC 0#32 0#32 0 0 0 (.slice none 0 0)) 44)) := (Below.refl _ _).alloc (Nat.le_refl _) _
 have hszz := size44 0#32 0#32 0 0 0 (.slice none 0 0)
 by_cases hm : m = 76
 · subst hm
   have hcap := hr.2.1
   have hcap' : (76 : Int) ≤ (d : Int) := by omega
   have hd44 : (44 : Int) ≤ (d : Int) := by omega
   have hne : ¬ (d = 44) := by omega
   obtain ⟨ad,rfl,_⟩ := hr.ptr (by omega)
   have hrb := hr.below hB0
   have hkb := hk.below hB0
   have ht : Rd (w.alloc (.cells (manC 0#32 0#32 0 0 0 (.slice none 0 0)) 44)) (some ad) 44 d (l.take 44) := hrb.hi (k := 44) (by omega)
   have hg : Rd (w.alloc (.cells (manC 0#32 0#32 0 0 0 (.slice none 0 0)) 44)) (some ⟨ad.block,ad.off + 44,none⟩) 32 (d - 44) (l.drop 44) := hrb.lo_ne (k := 44) (by omega) (by omega)
   go_enter Tryz.func82,Tryz.ntmps82
   go_wp2_with fail
   change Code.wp _ _ _ _ (w.alloc (.cells (manC 0#32 0#32 0 0 0 (.slice none 0 0)) 44))
   have hs0 := hB0.size
   generalize w.alloc (.cells (manC 0#32 0#32 0 0 0 (.slice none 0 0)) 44) = w0 at *
   go_cut [11] (fun x wx => x = .bool (!decide (tag key (l.take 44) = l.drop 44)) ∧ Below w0.heap.size w0 wx)
   case first =>
     go_region_held3 (fun w' => Below w0.heap.size w0 w') (first | (with_reducible exact (Below.refl _ _).drew) | (with_reducible exact (Below.refl _ _)) | (with_reducible exact hb1) | (with_reducible assumption) | exact ((Below.refl _ _).drew).trans hb1)
       (first
         | (go_at_call 131; (with_reducible refine (tagright_any A (some ad) (some ⟨ad.block,ad.off + 44,none⟩) n c 44 d 32 (d - 44) key (l.take 44) (l.drop 44) _ hkb.drew hn ht.drew (by omega) hg.drew).mono ?_); rintro e w1 ⟨rfl,hb1⟩))
     all_goals
       go_wp2_with fail
       go_meet
       exact ⟨rfl,by assumption⟩
   case rest =>
     obtain ⟨rfl,hB⟩ := hcut
     have hzc := hz0.below hB
     have hBw : Below w.heap.size w wc := below_next hB0 hB
     have htc := ht.below hB
     by_cases hq : tag key (l.take 44) = l.drop 44
     · have hE : Hid (manErr key l = if manOk (mL (l.take 44)) (mZ (l.take 44)) (mP (l.take 44)) = true then 0 else 3) := hide (by
         unfold manErr
         rw [if_neg (by rw [Hl.out]; simp),if_neg (by simp [hq])])
       have hdq : (!decide (tag key (l.take 44) = l.drop 44)) = false := by simp [hq]
       rw [hdq]
       clear hdq hq
       go_wp2_with fail
       refine (manread_any (some ad) d (l.take 44) _ htc).mono ?_
       rintro e w1 ⟨H,f,hor,hown,hb1⟩
       have hzc1 := hzc.below hb1
       have hB1 := below_next hBw hb1
       have hs1 := hBw.size
       rcases hor with ⟨hok,rfl⟩ | ⟨hok,rfl⟩
       · have Hok := hide hok
         clear hok
         have hsz := size44 (mS (l.take 44)) (mV (l.take 44)) (mL (l.take 44)) (mZ (l.take 44)) (mP (l.take 44)) (.slice H 32 f)
         go_wp2_with (first
           | ((with_reducible refine at_store ?_); refine wpList_store_row rfl 44 (.tmp 4) (.tmp 23) rfl w.heap.size (manC (mS (l.take 44)) (mV (l.take 44)) (mL (l.take 44)) (mZ (l.take 44)) (mP (l.take 44)) (.slice H 32 f)) rfl rfl 44 (manC 0#32 0#32 0 0 0 (.slice none 0 0)) hzc1 hsz rfl (one44 _ _ _ _ _ _ _ _) ?_))
         refine bodyPost_ret (results_cell_slot Tryz.results82 _ _ w.heap.size 44 _ (0,0) _ _ rfl rfl (setRow_heap _ _ _ _ _ _ hzc1) Tryz.underlying44 rfl hsz) rfl ?_
         exact ⟨_,H,f,by rw [hE.out,if_pos Hok.out]; rfl,fun _ => ⟨rfl,(hown.mono hs1).setRow hzc1 (by decide) _⟩,below_setRow hB1 (Nat.le_refl _) _,_,_,_,_,_,_,_,_,rfl⟩
       · have Hok := hide hok
         clear hok
         go_wp2_with (first
           | ((with_reducible refine at_store ?_); refine wpList_store_row rfl 44 (.tmp 4) (.tmp 23) rfl w.heap.size (manC 0#32 0#32 0 0 0 (.slice none 0 0)) rfl rfl 44 (manC 0#32 0#32 0 0 0 (.slice none 0 0)) hzc1 hszz rfl (one44 _ _ _ _ _ _ _ _) ?_))
         refine bodyPost_ret (results_cell_slot Tryz.results82 _ _ w.heap.size 44 _ (0,0) _ _ rfl rfl (setRow_heap _ _ _ _ _ _ hzc1) Tryz.underlying44 rfl hszz) rfl ?_
         refine ⟨_,H,f,by rw [hE.out,Hok.out]; rfl,fun h => ?_,below_setRow hB1 (Nat.le_refl _) _,_,_,_,_,_,_,_,_,rfl⟩
         rw [hE.out,Hok.out] at h
         cases h
     · have hE : Hid (manErr key l = 5) := hide (by
         unfold manErr
         rw [if_neg (by rw [Hl.out]; simp),if_pos hq])
       have hdq : (!decide (tag key (l.take 44) = l.drop 44)) = true := by simp [hq]
       rw [hdq]
       clear hdq hq
       go_wp2_with (first
         | ((with_reducible refine at_build ?_); refine wpList_build_as rfl 44 #[] rfl (manC 0#32 0#32 0 0 0 (.slice none 0 0)) (by kernel_rfl) ?_)
         | ((with_reducible refine at_store ?_); refine wpList_store_row rfl 44 (.tmp 4) (.tmp 19) rfl w.heap.size (manC 0#32 0#32 0 0 0 (.slice none 0 0)) rfl rfl 44 (manC 0#32 0#32 0 0 0 (.slice none 0 0)) hzc hszz rfl (one44 _ _ _ _ _ _ _ _) ?_))
       refine bodyPost_ret (results_cell_slot Tryz.results82 _ _ w.heap.size 44 _ (0,0) _ _ rfl rfl (setRow_heap _ _ _ _ _ _ hzc) Tryz.underlying44 rfl hszz) rfl ?_
       refine ⟨_,none,0,by rw [hE.out]; rfl,fun h => ?_,below_setRow hBw (Nat.le_refl _) _,_,_,_,_,_,_,_,_,rfl⟩
       rw [hE.out] at h
       cases h
 · have hE : Hid (manErr key l = 3) := hide (by unfold manErr; rw [if_pos (by rw [Hl.out]; exact hm)])
   have hd : ((m : Int) != 76) = true := by simp; omega
   go_enter Tryz.func82,Tryz.ntmps82
   go_wp2_with (first
     | ((with_reducible refine at_build ?_); refine wpList_build_as rfl 44 #[] rfl (manC 0#32 0#32 0 0 0 (.slice none 0 0)) (by kernel_rfl) ?_)
     | ((with_reducible refine at_store ?_); refine wpList_store_row rfl 44 (.tmp 4) (.tmp 10) rfl w.heap.size (manC 0#32 0#32 0 0 0 (.slice none 0 0)) rfl rfl 44 (manC 0#32 0#32 0 0 0 (.slice none 0 0)) hz0 hszz rfl (one44 _ _ _ _ _ _ _ _) ?_))
   refine bodyPost_ret (results_cell_slot Tryz.results82 _ _ w.heap.size 44 _ (0,0) _ _ rfl rfl (setRow_heap _ _ _ _ _ _ hz0) Tryz.underlying44 rfl hszz) rfl ?_
   refine ⟨_,none,0,by rw [hE.out]; rfl,fun h => ?_,below_setRow hB0 (Nat.le_refl _) _,_,_,_,_,_,_,_,_,rfl⟩
   rw [hE.out] at h
   cases h
def fitErr (s s' : BitVec 32) (n K P S : Nat) : Int := if spOk K P S = false then 1 else if s ≠ s' then 7 else if n ≠ S then 3 else 0
theorem fits_any (s i s' : BitVec 32) (A : Option Addr) (n c K P S : Nat) (w : World) :
   Calls Tryz.prog 86 #[.agg (symC s i (.slice A n c)),.agg (parC s' K P S)] w fun e w' => e = .returned (.int .i64 (fitErr s s' n K P S)) ∧ Below w.heap.size w w' := by
 have hb0 : Blk ((w.alloc (.cells (symC s i (.slice A n c)) 94)).alloc (.cells (parC s' K P S) 59)) (w.heap.size + 1) (parC s' K P S) 59 := heap_alloc2_new w _ _
 have hs0 : Blk ((w.alloc (.cells (symC s i (.slice A n c)) 94)).alloc (.cells (parC s' K P S) 59)) w.heap.size (symC s i (.slice A n c)) 94 := heap_alloc2_old w _ _
 have hB0 : Below w.heap.size w ((w.alloc (.cells (symC s i (.slice A n c)) 94)).alloc (.cells (parC s' K P S) 59)) := ((Below.refl _ _).alloc (Nat.le_refl _) _).alloc (by simp) _
 have hsz := size59 s' K P S
 go_enter Tryz.func86,Tryz.ntmps86
 go_wp2_with (first
   | ((with_reducible refine at_load ?_); refine wpList_load_row rfl 59 (.tmp 3) rfl (w.heap.size + 1) rfl 59 (parC s' K P S) (0,0) _ hb0 Tryz.underlying59 rfl hsz ?_))
 refine (spmay_any s' K P S _).mono ?_
 rintro e w1 ⟨rfl,hb1⟩
 have hbb := hb0.below hb1
 have hss := hs0.below hb1
 have hB1 := below_next hB0 hb1
 have c0 := hss.cell (i := 0) (v := .int .u32 (V s)) rfl
 have c2 := hss.cell (i := 2) (v := .slice A n c) rfl
 have d0 := hbb.cell (i := 0) (v := .int .u32 (V s')) rfl
 have d3 := hbb.cell (i := 3) (v := .int .i64 S) rfl
 rcases Bool.eq_false_or_eq_true (spOk K P S) with hm | hm
 · by_cases hs : s = s'
   · subst hs
     have e1 : (V s != V s) = false := by simp
     by_cases hn : n = S
     · subst hn
       have hE : Hid (fitErr s s n K P n = 0) := hide (by simp [fitErr,hm])
       have e2 : ((n : Int) != (n : Int)) = false := by simp
       rw [hm]
       clear hm
       go_wp2_with fail
       go_ret
       exact ⟨by rw [hE.out]; rfl,hB1⟩
     · have hE : Hid (fitErr s s n K P S = 3) := hide (by simp [fitErr,hm,hn])
       have e2 : ((n : Int) != (S : Int)) = true := by simp; omega
       rw [hm]
       clear hm
       go_wp2_with fail
       go_ret
       exact ⟨by rw [hE.out]; rfl,hB1⟩
   · have hE : Hid (fitErr s s' n K P S = 7) := hide (by simp [fitErr,hm,hs])
     have e1 : (V s != V s') = true := by
       simp
       intro h
       unfold V at h
       exact hs (BitVec.eq_of_toNat_eq (by omega))
     rw [hm]
     clear hm
     go_wp2_with fail
     go_ret
     exact ⟨by rw [hE.out]; rfl,hB1⟩
 · have hE : Hid (fitErr s s' n K P S = 1) := hide (by simp [fitErr,hm])
   rw [hm]
   clear hm
   go_wp2_with fail
   go_ret
   exact ⟨by rw [hE.out]; rfl,hB1⟩
theorem mansame_eq (s v : BitVec 32) (L S P : Nat) (A B : Option Addr) (c d : Nat) (h : List UInt8) (w : World) (ha : Rd w A 32 c h) (hb : Rd w B 32 d h) :
   Calls Tryz.prog 132 #[.agg (manC s v L S P (.slice A 32 c)),.agg (manC s v L S P (.slice B 32 d))] w fun e w' => e = .returned (.bool true) ∧ Below w.heap.size w w' := by
 have hB0 : Below w.heap.size w ((w.alloc (.cells (manC s v L S P (.slice A 32 c)) 44)).alloc (.cells (manC s v L S P (.slice B 32 d)) 44)) := ((Below.refl _ _).alloc (Nat.le_refl _) _).alloc (by simp) _
 have e1 : (V s == V s) = true := by simp
 have e2 : (V v == V v) = true := by simp
 have e3 : ((L : Int) == (L : Int)) = true := by simp
 have e4 : ((S : Int) == (S : Int)) = true := by simp
 have e5 : ((P : Int) == (P : Int)) = true := by simp
 have ha' := ha.below hB0
 have hb' := hb.below hB0
 unfold manC at *
 go_enter Tryz.func132,Tryz.ntmps132
 go_wp2_with fail
 refine (equals_any A B 32 c 32 d h h _ ha' hb').mono ?_
 rintro e w1 ⟨rfl,hb1⟩
 have hd : decide (h = h) = true := by simp
 rw [hd]
 go_wp2_with fail
 go_ret
 exact ⟨rfl,below_next hB0 hb1⟩
theorem run_index_pair (w : World) (s i : BitVec 32) (k : Nat) (hk : k < 2) : (Instr.index 155 (.agg #[.int .u32 (V s),.int .u32 (V i)]) (.int .i64 (k : Int))).run Tryz.prog w = .ok (.int .u32 (V (if k = 0 then s else i))) w := by
 have hu : Tryz.prog.underlying 155 = some (.array 2 30) := Tryz.underlying155
 have hi30 : (Tryz.prog.info? 30).map (fun i => (i.size)) = some 1 := by kernel_rfl
 have ha : (Tryz.prog.underlying 30) = some (.int .u32) := Tryz.underlying30
 have h0 : (0 : Int) ≤ (k : Int) ∧ (k : Int) < ((2 : Nat) : Int) := by omega
 cases hq : Tryz.prog.info? 30 with
 | none => rw [hq] at hi30; cases hi30
 | some t =>
   rw [hq] at hi30
   have ht : t.size = 1 := by simpa using hi30
   match k,hk with
   | 0,_ => simp [Instr.index,run_underlying hu,asIntOf,part,sizeOf,typeInfo,hq,ht,run_underlying ha,go_sem]
   | 1,_ => simp [Instr.index,run_underlying hu,asIntOf,part,sizeOf,typeInfo,hq,ht,run_underlying ha,go_sem]
theorem pktbytes_any (s i : BitVec 32) (A : Option Addr) (n c : Nat) (l : List UInt8) (w : World) (hr : Rd w A n c l) (h1 : 1 ≤ n) (h16 : n ≤ 16) :
   Calls Tryz.prog 38 #[.agg (symC s i (.slice A n c))] w fun e w' => ∃ A' c',e = .returned (.tuple #[.slice A' (8 + n) c',.int .i64 0]) ∧ Own w' w.heap.size 5 A' (8 + n) c' (four s ++ four i ++ l) ∧ Below w.heap.size w w' := by
 have hb0 : Blk (w.alloc (.cells (symC s i (.slice A n c)) 94)) w.heap.size (symC s i (.slice A n c)) 94 := Blk.new _ _ _
 have hB0 : Below w.heap.size w (w.alloc (.cells (symC s i (.slice A n c)) 94)) := (Below.refl _ _).alloc (Nat.le_refl _) _
 have d1 : decide ((n : Int) < 1) = false := by simp; omega
 have d2 : decide (16 < (n : Int)) = false := by simp; omega
 have hr0 := hr.below hB0
 have c0 := hb0.cell (i := 0) (v := .int .u32 (V s)) rfl
 have c1 := hb0.cell (i := 1) (v := .int .u32 (V i)) rfl
 have c2 := hb0.cell (i := 2) (v := .slice A n c) rfl
 go_enter Tryz.func38,Tryz.ntmps38
 go_upto_region 1 with fail
 change Code.wp _ _ _ _ (w.alloc (.cells (symC s i (.slice A n c)) 94))
 generalize w.alloc (.cells (symC s i (.slice A n c)) 94) = w0 at *
 go_wp2_with fail
 go_loopw [4,22] (fun v u wr => ∃ (k : Nat) (B : Option Addr) (d : Nat),k ≤ 2 ∧ u = .int .i64 (k : Int) ∧ v = .slice B (4 * k) d ∧ Own wr w0.heap.size 5 B (4 * k) d ((four s ++ four i).take (4 * k)) ∧ Below w0.heap.size w0 wr) (fun _ u _ => 2 - (intOf u).toNat)
 case atStart => exact ⟨0,none,0,by omega,rfl,rfl,Own.nil _ _ _,Below.refl _ _⟩
 case round =>
   obtain ⟨k,B,d,hk,rfl,rfl,ho,hB⟩ := hrel
   by_cases hlt : k < 2
   · have hlt' : (k : Int) < 2 := by omega
     have hidx := fun w => run_index_pair w s i k hlt
     have hsn : Hid ((four s ++ four i).take (4 * (k + 1)) = (four s ++ four i).take (4 * k) ++ four (if k = 0 then s else i)) := hide (by
       match k,hlt with
       | 0,_ => rfl
       | 1,_ => rfl)
     generalize (if k = 0 then s else i) = x at *
     have hb := V_bd x
     have hx4 := fun (w : World) => Rd.new w 5 _ (four_cellsW x) (by simp [four_len,maxLen])
     go_wp2_with (at_builtin
                  refine wpList_append8 _ rfl _ _ _ rfl w0.heap.size 5 Tryz.underlying22 isByte B (4 * k) d _ rfl (ho.alloc _) (some ⟨wr.heap.size,0,none⟩) 4 4 (four x) rfl (hx4 _) (by omega) (by have := hB.size; simp; omega) ?_
                  intro A6 c6 w6 ho6 hb6 _ _)
     go_roundw
     case rel => exact ⟨k + 1,A6,c6,by omega,by go_num,by rw [show 4 * (k + 1) = 4 * k + 4 by omega],by rw [hsn.out,show 4 * (k + 1) = 4 * k + 4 by omega]; exact ho6,(hB.alloc hB.size _).trans hb6⟩
     case measure => simp [intOf]; omega
   · obtain rfl : k = 2 := by omega
     have hbr := hb0.below hB
     have e2 := hbr.cell (i := 2) (v := .slice A n c) rfl
     have hrr := hr0.below hB
     go_wp2_with (at_builtin
                  refine wpList_append8 _ rfl _ _ _ rfl w0.heap.size 5 Tryz.underlying22 isByte B (4 * 2) d _ rfl ho A n c l rfl hrr (by omega) hB.size ?_
                  intro A6 c6 w6 ho6 hb6 _ _)
     go_ret2
     exact ⟨A6,c6,rfl,(show Own w6 w0.heap.size 5 A6 (8 + n) c6 (four s ++ four i ++ l) from ho6).mono hB0.size,below_next hB0 (hB.trans hb6)⟩
end Go.Proofs.YtkkcpblfheplaaaGreatDoor
