/- Contracts of functions that the laws of downpourtop reach, and plain facts; no condition beyond what each theorem states. -/
import Derived.Test.YtkkcpblfheplaaaGreatDoorMDx05
set_option maxRecDepth 100000
set_option maxHeartbeats 8000000
set_option linter.all false
namespace Go.Proofs.YtkkcpblfheplaaaGreatDoor
open Go.RowKit
def idsAll (ids : List B32) (K : Nat) : List B32 := ids ++ (List.range K).map fun i => BitVec.ofNat 32 i
theorem idsAll_len (ids : List B32) (K : Nat) : (idsAll ids K).length = ids.length + K := by simp [idsAll]
theorem idsAll_all (ids : List B32) (K i : Nat) (hi : i < K) : BitVec.ofNat 32 i ∈ (idsAll ids K).take (ids.length + K) := by
 rw [List.take_of_length_le (by rw [idsAll_len]; omega)]
 exact List.mem_append_right _ (List.mem_map.2 ⟨i,List.mem_range.2 hi,rfl⟩)
theorem idsAll_low (ids : List B32) (K i : Nat) (hi : i < ids.length) : (idsAll ids K)[i]? = ids[i]? := List.getElem?_append_left hi
theorem idsAll_high (ids : List B32) (K i : Nat) (h1 : ids.length ≤ i) (hi : i < ids.length + K) : (idsAll ids K)[i]? = some (BitVec.ofNat 32 (i - ids.length)) := by
 unfold idsAll
 rw [List.getElem?_append_right h1,List.getElem?_map,List.getElem?_range (by omega)]
 rfl
theorem take_more {α : Type} (l : List α) (i : Nat) (x : α) (h : l[i]? = some x) : l.take (i + 1) = l.take i ++ [x] := by
 rw [List.take_add_one,h]
 rfl
def HOn (U : Nat → Prop) (w : World) (d : Nat) (K : Nat) (one other : List UInt8) (put : List B32) (last : Int) : Prop :=
 last ≠ 13 ∧ ∃ F,(∀ b,U b → F b → b = 1) ∧ OnD F w d 7#32 10#32 4 2 K (sha one) other put
def HOff (w : World) (d : Nat) (one other : List UInt8) (last : Int) : Prop :=
 (sha other = sha one ∧ last ≠ 13 ∧ ∃ F,OffD F w d (twoQ 3 0#32 1#32 1#32 10#32 3 other.length (sha sunL) (sha one)) 3 other) ∨
 (sha other ≠ sha one ∧ last = 13 ∧ ∃ F,OffD F w d (offQ 0#32 1#32 1#32 3 (sha sunL)) 3 sunL)
theorem HOn.below {U : Nat → Prop} {w w' : World} {d K : Nat} {one other : List UInt8} {put : List B32} {last : Int} (h : HOn U w d K one other put last) (hB : Below w.heap.size w w') : HOn U w' d K one other put last := by
 obtain ⟨h1,F,h2,h3⟩ := h
 exact ⟨h1,F,h2,h3.below hB⟩
theorem HOff.below {w w' : World} {d : Nat} {one other : List UInt8} {last : Int} (h : HOff w d one other last) (hB : Below w.heap.size w w') : HOff w' d one other last := by
 rcases h with ⟨h1,h2,F,h3⟩ | ⟨h1,h2,F,h3⟩
 · exact .inl ⟨h1,h2,F,h3.below hB⟩
 · exact .inr ⟨h1,h2,F,h3.below hB⟩
theorem HOn.state {U : Nat → Prop} {w : World} {d K : Nat} {one other : List UInt8} {put : List B32} {last : Int} (h : HOn U w d K one other put last) :
   Calls Tryz.prog 14 #[.pointer (some ⟨d,0,none⟩)] w fun e w' => ∃ st' q,e = .returned (.tuple #[.agg st',.bool true]) ∧ StC w' st' q ∧ q.on = true ∧ Below w.heap.size w w' := by
 obtain ⟨h1,F,h2,h3⟩ := h
 refine h3.state.mono ?_
 rintro e w' ⟨st',rfl,hs,hB⟩
 exact ⟨st',_,rfl,hs,rfl,hB⟩
theorem HOff.state {w : World} {d : Nat} {one other : List UInt8} {last : Int} (h : HOff w d one other last) :
   Calls Tryz.prog 14 #[.pointer (some ⟨d,0,none⟩)] w fun e w' => ∃ st' q,e = .returned (.tuple #[.agg st',.bool true]) ∧ StC w' st' q ∧ q.on = false ∧ Below w.heap.size w w' := by
 rcases h with ⟨h1,h2,F,h3⟩ | ⟨h1,h2,F,h3⟩
 · refine h3.state.mono ?_
   rintro e w' ⟨st',rfl,hs,hB⟩
   exact ⟨st',_,rfl,hs,rfl,hB⟩
 · refine h3.state.mono ?_
   rintro e w' ⟨st',rfl,hs,hB⟩
   exact ⟨st',_,rfl,hs,rfl,hB⟩
theorem HOn.hear {U : Nat → Prop} {w : World} {d K : Nat} {one other : List UInt8} {put : List B32} {last : Int} (h : HOn U w d K one other put last) (hs : Sess 7#32 10#32 4 2 K (sha one) other) (hU : ∀ b,U b → b < w.heap.size) (id : B32) (X : Option Addr) (m c : Nat) (hr : Rd w X m c (wrapL 2 (symL 7#32 K 2 4 other id))) :
   Calls Tryz.prog 12 #[.pointer (some ⟨d,0,none⟩),.slice X m c] w fun e w' => ∃ r : Int,e = .returned (.int .i64 r) ∧ (HOn U w' d K one other (put ++ [id]) r ∨ HOff w' d one other r) ∧ Fr (fun b => ¬ U b) w w' := by
 obtain ⟨h1,F,h2,h3⟩ := h
 refine (h3.symbol hs id X m c hr).mono ?_
 rintro e w' ⟨r,rfl,h⟩
 have hFU : ∀ b,b < w.heap.size → (F b ∧ b ≠ 1) → ¬ U b := fun b _ hb k => hb.2 (h2 b k hb.1)
 rcases h with ⟨hr2,F',h4,hF,hg⟩ | ⟨he,_,rfl,F',h4,hF⟩ | ⟨hne,rfl,F',h4,hF⟩
 · refine ⟨r,rfl,.inl ⟨by omega,F',fun b k k2 => ?_,h4⟩,hF.mono hFU⟩
   rcases hg b k2 with k2 | k2
   · exact h2 b k k2
   · have := hU b k
     omega
 · exact ⟨0,rfl,.inr (.inl ⟨he,by omega,F',h4⟩),hF.mono hFU⟩
 · exact ⟨13,rfl,.inr (.inr ⟨hne,rfl,F',h4⟩),hF.mono hFU⟩
theorem HOff.running {w : World} {d : Nat} {one other : List UInt8} {last : Int} (h : HOff w d one other last) :
   Calls Tryz.prog 15 #[.pointer (some ⟨d,0,none⟩)] w fun e w' => ∃ A n c l,e = .returned (.slice A n c) ∧ Rd w' A n c l ∧ ((sha other = sha one ∧ l = other) ∨ (sha other ≠ sha one ∧ l = sunL)) ∧ Below w.heap.size w w' := by
 rcases h with ⟨h1,h2,F,h3⟩ | ⟨h1,h2,F,h3⟩
 · refine h3.running.mono ?_
   rintro e w' ⟨A,c,rfl,hr,hB⟩
   exact ⟨A,_,c,_,rfl,hr,.inl ⟨h1,rfl⟩,hB⟩
 · refine h3.running.mono ?_
   rintro e w' ⟨A,c,rfl,hr,hB⟩
   exact ⟨A,_,c,_,rfl,hr,.inr ⟨h1,rfl⟩,hB⟩
theorem lpacket_any (s v : B32) (L S P K : Nat) (hv : Value) (hvs : ∃ A n c,hv = .slice A n c) (A : Option Addr) (c : Nat) (img : List UInt8) (id : B32) (w : World) (hr : Rd w A L c img) (hm : manOk L S P = true) (hcn : cnt L S = K) (hn : K + P ≤ 64) :
   Calls Tryz.prog 18 #[.agg (manC s v L S P hv),.slice A L c,.int .u32 (V id)] w fun e w' => ∃ B d,e = .returned (.slice B (8 + S + 9 : Nat) d) ∧ Own w' w.heap.size 5 B (8 + S + 9) d (wrapL 2 (four s ++ four id ++ symV (pcs s K P S img) (rowOf (rowL s K P id)) (K + P) S)) ∧ Below w.heap.size w w' := by
 obtain ⟨A',n',c',rfl⟩ := hvs
 have hok : spOk K P S = true := by rw [← hcn]; exact hm
 have hK : 1 ≤ K ∧ K ≤ 64 ∧ P ≤ 16 ∧ 1 ≤ S ∧ S ≤ 16 := by unfold spOk at hok; simp at hok; omega
 obtain ⟨_,hL1,hL2,_,_⟩ := cnt_div hcn hK.1
 have hofe : ofC s L S P = parC s K P S := by unfold ofC; rw [if_pos hm,hcn]
 have hb0 : Blk (w.alloc (.cells (manC s v L S P (.slice A' n' c')) 44)) w.heap.size (manC s v L S P (.slice A' n' c')) 44 := Blk.new _ _ _
 have hB0 := below_alloc1 w (.cells (manC s v L S P (.slice A' n' c')) 44)
 have hsz := size44 s v L S P (.slice A' n' c')
 have hid := V_bd id
 go_enter Tryz.func18,Tryz.ntmps18
 go_wp2_with (first
   | ((with_reducible refine at_load ?_); refine wpList_load_row rfl 44 (.tmp 3) rfl w.heap.size rfl 44 (manC s v L S P (.slice A' n' c')) (0,0) _ hb0 Tryz.underlying44 rfl hsz ?_))
 have hpar := rparams_any s v L S P A' n' c' (w.alloc (.cells (manC s v L S P (.slice A' n' c')) 44)) (by omega) (by omega)
 rw [hofe,hm] at hpar
 refine hpar.mono ?_
 rintro e w1 ⟨rfl,hb1⟩
 have hm1 := hb0.below hb1
 have hB1 := below_next hB0 hb1
 have hzp : Blk (w1.alloc (.cells (parC 0#32 0 0 0) 59)) w1.heap.size (parC 0#32 0 0 0) 59 := Blk.new _ _ _
 have hszp := size59 s K P S
 have hs1 := hB1.size
 clear hpar
 go_upto_region 2 with (first
   | ((with_reducible refine at_store ?_); refine wpList_store_row rfl 59 (.tmp 7) (.tmp 16) rfl w1.heap.size (parC s K P S) rfl rfl 59 (parC 0#32 0 0 0) hzp hszp rfl (one59 _ _ _ _) ?_))
 have hp2 := hzp.setRow (parC s K P S)
 have hB12 : Below w1.heap.size w1 (World.setRow (w1.alloc (.cells (parC 0#32 0 0 0) 59)) w1.heap.size (parC s K P S)) := below_setRow (below_alloc1 _ _) (Nat.le_refl _) _
 change Code.wp _ _ _ _ (World.setRow (w1.alloc (.cells (parC 0#32 0 0 0) 59)) w1.heap.size (parC s K P S))
 generalize World.setRow (w1.alloc (.cells (parC 0#32 0 0 0) 59)) w1.heap.size (parC s K P S) = w2 at *
 have hm2 := hm1.below hB12
 have hB2 := below_next hB1 hB12
 have hs2 := hB2.size
 have hr2 := hr.below hB2
 obtain ⟨gp,hgp⟩ : ∃ gp,w1.heap.size = gp := ⟨_,rfl⟩
 rw [hgp] at hp2 ⊢
 clear hzp hm1 hB12 hgp hB1 hb0 hB0 hb1
 have hP : ∀ y,Below w2.heap.size w2 y → ((y.cell? ⟨w.heap.size,0,none⟩ = some (.int .u32 (V s)) ∧ y.cell? ⟨gp,0,none⟩ = some (.int .u32 (V s)) ∧ y.cell? ⟨gp,1,none⟩ = some (.int .i64 K) ∧ y.cell? ⟨gp,2,none⟩ = some (.int .i64 P) ∧ y.cell? ⟨gp,3,none⟩ = some (.int .i64 S)) ∧ Below w2.heap.size w2 y) := fun y hy => by
   have h1 := hm2.below hy
   have h2 := hp2.below hy
   exact ⟨⟨h1.cell rfl,h2.cell rfl,h2.cell rfl,h2.cell rfl,h2.cell rfl⟩,hy⟩
 have hS0 := hP w2.drew (Below.refl _ _).drew
 have hS2 : True := trivial
 have hS3 : True := trivial
 have hsy : ∀ y,Rd y A L c img → Calls Tryz.prog 51 #[.agg #[.int .u32 (V s),.int .i64 K,.int .i64 P,.int .i64 S],.slice A L c,.int .u32 (V id)] y fun e w' => ∃ A' c',e = .returned (.slice A' S c') ∧ Own w' y.heap.size 5 A' S c' (symV (pcs s K P S img) (rowOf (rowL s K P id)) (K + P) S) ∧ Below y.heap.size y w' := fun y hy => rsymbol_any s K P S A L c img id y hy hok hn hcn
 have hsb : ∀ y A c l,Rd y A S c l → Calls Tryz.prog 50 #[.agg #[.int .u32 (V s),.int .u32 (V id),.slice A S c]] y fun e w' => ∃ A' c',e = .returned (.tuple #[.slice A' (8 + S : Nat) c',.int .i64 0]) ∧ Own w' y.heap.size 5 A' (8 + S) c' (four s ++ four id ++ l) ∧ Below y.heap.size y w' := fun y A c l hr => rsymbytes_any s id A S c l y hr hK.2.2.2.1 hK.2.2.2.2
 clear hm hok hcn hofe hm2 hp2
 go_cut [9,10] (fun x y wx => ∃ B' d',x = .slice B' (8 + S : Nat) d' ∧ y = .int .i64 0 ∧ Own wx w2.heap.size 5 B' (8 + S) d' (four s ++ four id ++ (symV (pcs s K P S img) (rowOf (rowL s K P id)) (K + P) S)) ∧ Below w2.heap.size w2 wx)
 case first =>
   go_region_held3 (fun y => (y.cell? ⟨w.heap.size,0,none⟩ = some (.int .u32 (V s)) ∧ y.cell? ⟨gp,0,none⟩ = some (.int .u32 (V s)) ∧ y.cell? ⟨gp,1,none⟩ = some (.int .i64 K) ∧ y.cell? ⟨gp,2,none⟩ = some (.int .i64 P) ∧ y.cell? ⟨gp,3,none⟩ = some (.int .i64 S)) ∧ Below w2.heap.size w2 y)
     (first | (with_reducible exact hS0) | (with_reducible exact hS2) | (with_reducible exact hS3))
     (first
       | (go_at_call 51; (with_reducible refine (hsy _ (hr2.below hS0.2)).mono ?_); rintro e w3 ⟨A3,c3,rfl,ho3,hb3⟩; have hB3 := below_next hS0.2 hb3; have hS2 := hP w3 hB3)
       | (go_at_call 50; (with_reducible refine (hsb _ A3 c3 (symV (pcs s K P S img) (rowOf (rowL s K P id)) (K + P) S) ho3.rd).mono ?_); rintro e w4 ⟨A4,c4,rfl,ho4,hb4⟩; have hB4 := below_next hB3 hb4; have hS3 := hP w4 hB4))
   all_goals
     go_wp2_with fail
     go_meet
     exact ⟨A4,c4,rfl,rfl,ho4.mono hB3.size,hB4⟩
 case rest =>
   obtain ⟨B',d',rfl,rfl,ho,hB⟩ := hcut
   have hw1 : Calls Tryz.prog 48 #[.int .i64 2,.slice B' (8 + S : Nat) d'] wc fun e w' => ∃ A' c',e = .returned (.tuple #[.slice A' (8 + S + 9 : Nat) c',.int .i64 0]) ∧ Own w' wc.heap.size 5 A' (8 + S + 9) c' (wrapL 2 (four s ++ four id ++ (symV (pcs s K P S img) (rowOf (rowL s K P id)) (K + P) S))) ∧ Below wc.heap.size wc w' := rwrap_good 2 B' (8 + S) d' _ wc ho.rd (by omega) (by omega) (by omega)
   have hBw := below_next hB2 hB
   clear hS0 hP
   go_wp2_with fail
   refine hw1.mono ?_
   rintro e w3 ⟨A3,c3,rfl,ho3,hb3⟩
   have hsz3 := hBw.size
   go_wp2_with fail
   go_ret
   exact ⟨A3,c3,rfl,ho3.mono hsz3,below_next hBw hb3⟩
def RdW (w : World) (A : Option Addr) (n c : Nat) (ids : List B32) : Prop :=
 ids.length = n ∧ n ≤ c ∧ c ≤ maxLen ∧ ∀ j x,ids[j]? = some x → ∃ ad,A = some ad ∧ w.cell? (ad.add j) = some (.int .u32 (V x))
theorem RdW.below {w w' : World} {A : Option Addr} {n c : Nat} {ids : List B32} (h : RdW w A n c ids) (hb : Below w.heap.size w w') : RdW w' A n c ids := by
 obtain ⟨h1,h2,h3,h4⟩ := h
 refine ⟨h1,h2,h3,fun j x hx => ?_⟩
 obtain ⟨ad,e,hc⟩ := h4 j x hx
 exact ⟨ad,e,(hb.cell (World.block_lt_of_cell? w _ hc)).trans hc⟩
theorem exec_eqs {ρ : Operand → Value} {o : Oper} (x y : Operand) (a b : List UInt8) (w : World) (hop : o.op = .binOp .eql 9 x y 9) (hx : ρ x = .string (str a)) (hy : ρ y = .string (str b)) : (execOp ρ o).run Tryz.prog w = .ok (.value (.bool (a == b))) w := by
 have e : eqGuard .eql 9 x y (.string (str a)) (.string (str b)) = pure () := rfl
 unfold execOp
 simp only [hop,hx,hy,e,Sem.run_bind,binOp_string_eql,str_toList,Result.andThen_ok,Sem.run_pure]
theorem hash_any (X Y Z : Option Addr) (n cX m cY k cZ : Nat) (la lb : List UInt8) (ids : List B32) (w : World) (hx : Rd w X n cX la) (hy : Rd w Y m cY lb) (hz : RdW w Z k cZ ids) (hT : Tab64 w) :
   Calls Tryz.prog 4 #[.slice X n cX,.slice Y m cY,.slice Z k cZ] w fun e w' => e = .returned (.bool true) ∧ Below w.heap.size w w' := by
 have kc := fun (w : World) (C : Array Value) (n c : Nat) => Lib.run_convert_bytes_const (P := Tryz.prog) w 22 5 C n c Tryz.underlying22 Tryz.underlying5
 have hT1 : 1 < w.heap.size := World.block_lt_of_cell? w _ (hT 0 (by omega))
 obtain ⟨il1,il2⟩ := imgOf_len la 1
 have him := images_any X X n cX n cX la la w hx hx
 generalize imgOf la 1 = one at *
 obtain ⟨L,hL⟩ : ∃ L,one.length = L := ⟨_,rfl⟩
 rw [hL] at him il1 il2
 have HL := hide hL
 clear hL
 go_enter Tryz.func4,Tryz.ntmps4
 go_wp2_with fail
 refine him.mono ?_
 rintro e w1 ⟨A,c,v,rfl,ho,hb1⟩
 have hs1 := hb1.size
 have hal := below_alloc1 w1 (.cells #[] 5)
 have hoe := Own.empty w1 w1.heap.size (Nat.le_refl _)
 clear him
 go_wp2_with (at_builtin; refine wpList_append8 _ rfl _ _ _ rfl w1.heap.size 5 Tryz.underlying22 isByte _ 0 0 [] rfl hoe A L c one rfl (ho.rd.below hal) (by omega) (by simp) ?_; intro A2 c2 w2 ho2 hb2 _ _)
 have hb12 : Below w1.heap.size w1 w2 := hal.trans hb2
 have ho2' : Own w2 w1.heap.size 5 A2 L c2 one := by simpa using ho2
 have hB2 := below_next hb1 hb12
 have hr1 := ho.rd
 have hL0 := ho2'.len
 obtain ⟨g,rfl,hg0,hg1⟩ := ho2'.form (by omega)
 clear ho2 hb2 hoe hal hs1 ho hx
 go_loopw [36] (fun u wr => ∃ (i : Nat) (ot : List UInt8),i ≤ L ∧ u = .int .i64 (i : Int) ∧ Own wr w1.heap.size 5 (some ⟨g,0,none⟩) L c2 ot ∧ Below w1.heap.size w1 wr) (fun u _ => L - (intOf u).toNat)
 case atStart => exact ⟨0,one,by omega,rfl,ho2',hb12⟩
 case round =>
   clear ho2' hb12 hg1 hL0
   obtain ⟨i,ot,hi,rfl,ho,hB⟩ := hrel
   have hsr := hB.size
   by_cases hlt : i < L
   · have hlt' : (i : Int) < (L : Int) := by omega
     have hi0 : (0 : Int) ≤ (i : Int) := by omega
     by_cases hlm : i < m
     · have hlm' : (i : Int) < (m : Int) := by omega
       obtain ⟨ad,y,rfl,_,hcy⟩ := (hy.below (below_next hb1 hB)).at_ hlm
       have hol := ho.len
       obtain ⟨x,hx⟩ : ∃ x,ot[i]? = some x := ⟨_,List.getElem?_eq_getElem (by omega)⟩
       have hcx := ho.cell hx
       have hfx := ho.frozen i
       have hset := hide ((ho.below (Below.refl _ _).drew).set i (x ^^^ y))
       have hbs := hide (hB.drew.setCell (p := ⟨g,i,none⟩) hg0 (.int .u8 (x ^^^ y).toNat))
       have hx8 := xor_u8 x y
       clear hx ho hB
       generalize hz2 : x ^^^ y = z2 at *
       have Hz2 := hide hz2
       clear hz2
       have gx : ∀ t d o p,({heap := wr.heap,tape := t,drawn := d,os := o,output := p} : World).cell? ⟨g,i,none⟩ = some (.int .u8 (x.toNat : Int)) := fun _ _ _ _ => hcx
       have gy : ∀ t d o p,({heap := wr.heap,tape := t,drawn := d,os := o,output := p} : World).cell? (ad.add i) = some (.int .u8 (y.toNat : Int)) := fun _ _ _ _ => hcy
       go_wp2_with fail
       go_still_tail 10,(by kernel_rfl)
       all_goals
         repeat still_step
         try refine wpStill_nil ?_
         change wpList _ _ _ _ _ wr.drew
         go_wp2_with fail
         go_roundw
         case rel => exact ⟨i + 1,_,by omega,by go_num,hset.out,hbs.out⟩
         case measure => simp [intOf]; omega
     · have hlm' : (m : Int) ≤ (i : Int) := by omega
       go_wp2_with fail
       go_roundw
       case rel => exact ⟨i + 1,ot,by omega,by go_num,ho,hB⟩
       case measure => simp [intOf]; omega
   · obtain rfl : L = i := by omega
     obtain ⟨w3,hw3⟩ : ∃ w3,w3 = wr := ⟨_,rfl⟩
     subst hw3
     have hS0 := img_sess one ot (by rw [ho.len]; exact il1) (by rw [ho.len]; exact il2)
     have HO := hide ho.len
     rw [HO.out] at hS0
     obtain ⟨K,hK⟩ : ∃ K,cnt L 4 = K := ⟨_,rfl⟩
     have HK := hide hK
     rw [hK] at hS0
     have hman : manOk L 4 2 = true := by have := hS0.man; rw [HO.out] at this; exact this
     have hB3 := below_next hb1 hB
     have hr3 := hr1.below hB
     have hT3 := hT.below hB3
     have hro := ho.rd
     clear hr1 hK hlt hT hB2 hi
     go_wp2_with fail
     refine (wrapped_any 7#32 10#32 4 2 A L c one w3 hr3 hman (by omega) (by omega)).mono ?_
     rintro e w4 ⟨B,dB,hA,hc,rfl,hrB,hrH,_,hb4⟩
     have hB4 := below_next hB3 hb4
     have hzm : Blk (w4.alloc (.cells (manC 0#32 0#32 0 0 0 (.slice none 0 0)) 44)) w4.heap.size (manC 0#32 0#32 0 0 0 (.slice none 0 0)) 44 := Blk.new _ _ _
     have hszm := size44 7#32 10#32 L 4 2 (.slice hA 32 hc)
     have hB45 : Below w4.heap.size w4 ((w4.alloc (.cells (manC 0#32 0#32 0 0 0 (.slice none 0 0)) 44)).setRow w4.heap.size (manC 7#32 10#32 L 4 2 (.slice hA 32 hc))) := below_setRow (below_alloc1 _ _) (Nat.le_refl _) _
     have hm5 := hzm.setRow (manC 7#32 10#32 L 4 2 (.slice hA 32 hc))
     go_upto_region 10 with (first
       | ((with_reducible refine at_store ?_); refine wpList_store_row rfl 44 (.tmp 12) (.tmp 58) rfl w4.heap.size (manC 7#32 10#32 L 4 2 (.slice hA 32 hc)) rfl rfl 44 (manC 0#32 0#32 0 0 0 (.slice none 0 0)) hzm hszm rfl (one44 _ _ _ _ _ _ _ _) ?_))
     change Code.wp _ _ _ _ ((w4.alloc (.cells (manC 0#32 0#32 0 0 0 (.slice none 0 0)) 44)).setRow w4.heap.size (manC 7#32 10#32 L 4 2 (.slice hA 32 hc)))
     generalize (w4.alloc (.cells (manC 0#32 0#32 0 0 0 (.slice none 0 0)) 44)).setRow w4.heap.size (manC 7#32 10#32 L 4 2 (.slice hA 32 hc)) = w5 at *
     have hb35 := below_next hb4 hB45
     have hro5 := hro.below hb35
     have hr5 := hr3.below hb35
     have hT5 := hT3.below hb35
     have hB5 := below_next hB3 hb35
     have hrB5 := hrB.below hB45
     have hz5 := hz.below hB5
     obtain ⟨gm,hgm⟩ : ∃ gm,w4.heap.size = gm := ⟨_,rfl⟩
     rw [hgm] at hm5 ⊢
     clear hzm hgm hro hr3 hT3 hB3 hB4 hrB hrH hz hb35 hb1 ho hB hsr hB45 hb4
     go_wp2_with fail
     refine (key7_any w5).mono ?_
     rintro e w6 ⟨kB,kc2,rfl,hk6,hkf6,hb6⟩
     have hb6' := below_next hb6 (below_alloc1 w6 (.cells #[.int .u8 115,.int .u8 117,.int .u8 110] 5 (3,4)))
     go_wp2_with fail
     refine (make_off kB kc2 _ _ _ (hk6.below (below_alloc1 _ _)) (Rd.newFr w6 5 _ _ (l := sunL) rfl (by decide)) (hT5.below hb6')).mono ?_
     rintro e w8 ⟨d,rfl,hd,hb8⟩
     have hs56 := hb6'.size
     have hb58 := below_next hb6' hb8
     have hT8 := hT5.below hb58
     have hB8 := below_next hB5 hb58
     clear hk6 hkf6 hb6
     by_cases hk40 : 40 < k
     · have hk' : (40 : Int) < (k : Int) := by omega
       go_wp2_with fail
       refine (awake_any w8 hT8).mono ?_
       rintro e w9 ⟨rfl,hb9⟩
       go_wp2_with fail
       go_ret
       exact ⟨rfl,below_next hB8 hb9⟩
     have hk' : (k : Int) ≤ 40 := by omega
     have hrB8 := hrB5.below hb58
     rw [show wrapL 1 (manL keyL 7#32 10#32 L 4 2 (sha one)) = wrapL 1 (manL keyL 7#32 10#32 ot.length 4 2 (sha one)) by rw [HO.out]] at hrB8
     go_wp2_with fail
     refine (hd.open_ 7#32 10#32 4 2 K (sha one) ot hS0 B 85 dB hrB8).mono ?_
     rintro e w9 ⟨r,rfl,rfl,F',hOn,hF,hg'⟩
     have hF1 : Below w5.heap.size w5 w9 := hb58.trans (hF.below hb58.size fun b hb => by
       rcases hb.1 with h1 | h1
       · exact absurd h1 hb.2
       · exact Nat.le_trans hs56 h1.1)
     have hOn0 : HOn (fun b => b < w5.heap.size) w9 d K one ot [] 0 := ⟨by decide,F',fun b hb hb2 => by
       rcases hg' b hb2 with (h1 | h1) | h1
       · exact h1
       · exact absurd (Nat.lt_of_lt_of_le hb (Nat.le_trans hs56 h1.1)) (Nat.lt_irrefl _)
       · exact absurd (Nat.lt_of_lt_of_le hb (Nat.le_trans hb58.size h1)) (Nat.lt_irrefl _),hOn⟩
     clear hOn hg' hF hb58 hb6' hb8 hs56 hd hrB8 hrB5 hT8 hB8
     go_wp2_with fail
     refine (rcount_any L 4 w9 (by omega) (by omega) (by omega) (by omega) (by omega)).mono ?_
     rintro e w10 ⟨rfl,rfl⟩
     rw [HK.out]
     have hKb : K ≤ 16 := by have := hS0.kp; omega
     have hki : IntKind.i64.wrap ((k : Int) + (K : Int)) = ((k + K : Nat) : Int) := by rw [IntKind.wrap_i64]; omega
     go_wp2_with fail
     go_loopw [16,96] (fun lv iv wr => ∃ (i : Nat) (last : Int),i ≤ k + K ∧ iv = .int .i64 (i : Int) ∧ lv = .int .i64 last ∧ (HOn (fun b => b < w5.heap.size) wr d K one ot ((idsAll ids K).take i) last ∨ HOff wr d one ot last) ∧ Below w5.heap.size w5 wr) (fun _ iv _ => k + K - (intOf iv).toNat)
     case atStart => exact ⟨0,0,by omega,rfl,rfl,.inl hOn0,hF1⟩
     case round =>
       clear hOn0 hF1
       obtain ⟨i,last,hi,rfl,rfl,hH,hB⟩ := hrel
       have hsr := hB.size
       have hzl := hz5.1
       by_cases hlt : i < k + K
       · have hlt' : (i : Int) < ((k + K : Nat) : Int) := by omega
         have hi0 : (0 : Int) ≤ (i : Int) := by omega
         have hsub : IntKind.i64.wrap ((i : Int) - (k : Int)) = (i : Int) - (k : Int) := by rw [IntKind.wrap_i64]; omega
         by_cases hik : i < k
         · have hik' : (i : Int) < (k : Int) := by omega
           obtain ⟨id,hid⟩ : ∃ id,ids[i]? = some id := ⟨_,List.getElem?_eq_getElem (by omega)⟩
           obtain ⟨ad,rfl,hcid⟩ := (hz5.below hB).2.2.2 i id hid
           have hput := hide (take_more (idsAll ids K) i id ((idsAll_low ids K i (by omega)).trans hid))
           clear hid hzl
           go_wp2_with fail
           rcases hH with hH | hH
           · refine hH.state.mono ?_
             rintro e w10 ⟨st,q,rfl,hst,hon,hb10⟩
             have hH10 := hH.below hb10
             have hB10 := below_next hB hb10
             have hz1 : Blk (w10.alloc (.cells stZ 46)) w10.heap.size stZ 46 := Blk.new _ _ _
             have hszs := hst.size
             have hone := hst.one
             have hs17 : stZ.size = st.size := by rw [hst.size17]; rfl
             have hB2' : Below w10.heap.size w10 ((w10.alloc (.cells stZ 46)).setRow w10.heap.size st) := below_setRow (below_alloc1 _ _) (Nat.le_refl _) _
             have hz2 := hz1.setRow st
             have hH11 := hH10.below hB2'
             have hB11 := below_next hB10 hB2'
             have e10 := hz2.cell (hst.on10.trans (by rw [hon]))
             clear hH hH10 hB10 hb10 hon hst
             go_upto_region 22 with (first
               | ((with_reducible refine at_store ?_); refine wpList_store_row rfl 46 (.tmp 19) (.tmp 115) rfl w10.heap.size st rfl rfl 46 stZ hz1 hszs hs17 hone ?_))
             change Code.wp _ _ _ _ ((w10.alloc (.cells stZ 46)).setRow w10.heap.size st)
             generalize (w10.alloc (.cells stZ 46)).setRow w10.heap.size st = w11 at *
             clear hz1 hszs hone hs17 hB2' hz2
             have hm11 := hm5.below hB11
             have hro11 := hro5.below hB11
             go_wp2_with (first
               | ((with_reducible refine at_load ?_); refine wpList_load_row rfl 44 (.tmp 12) rfl gm rfl 44 (manC 7#32 10#32 L 4 2 (.slice hA 32 hc)) (0,0) _ hm11 Tryz.underlying44 rfl hszm ?_))
             refine (lpacket_any 7#32 10#32 L 4 2 K (.slice hA 32 hc) ⟨_,_,_,rfl⟩ (some ⟨g,0,none⟩) c2 ot id w11 hro11 hman HK.out (by omega)).mono ?_
             rintro e w12 ⟨A3,c3,rfl,ho3,hb12⟩
             go_wp2_with fail
             refine ((hH11.below hb12).hear hS0 (fun b hb => Nat.lt_of_lt_of_le hb (Nat.le_trans hB11.size hb12.size)) id A3 _ c3 ho3.rd).mono ?_
             rintro e w13 ⟨r,rfl,hH13,hF13⟩
             have hB13 : Below w5.heap.size w5 w13 := (below_next hB11 hb12).trans (hF13.below (Nat.le_trans hB11.size hb12.size) fun b hb => Nat.le_of_not_lt hb)
             rw [← hput.out] at hH13
             go_wp2_with fail
             go_roundw
             case rel => exact ⟨i + 1,r,by omega,by go_num,rfl,hH13,hB13⟩
             case measure => simp [intOf]; omega
           · refine hH.state.mono ?_
             rintro e w10 ⟨st,q,rfl,hst,hon,hb10⟩
             have hH10 := hH.below hb10
             have hB10 := below_next hB hb10
             have hz1 : Blk (w10.alloc (.cells stZ 46)) w10.heap.size stZ 46 := Blk.new _ _ _
             have hszs := hst.size
             have hone := hst.one
             have hs17 : stZ.size = st.size := by rw [hst.size17]; rfl
             have hB2' : Below w10.heap.size w10 ((w10.alloc (.cells stZ 46)).setRow w10.heap.size st) := below_setRow (below_alloc1 _ _) (Nat.le_refl _) _
             have hz2 := hz1.setRow st
             have hH11 := hH10.below hB2'
             have hB11 := below_next hB10 hB2'
             have e10 := hz2.cell (hst.on10.trans (by rw [hon]))
             clear hH hH10 hB10 hb10 hon hst
             go_upto_region 22 with (first
               | ((with_reducible refine at_store ?_); refine wpList_store_row rfl 46 (.tmp 19) (.tmp 115) rfl w10.heap.size st rfl rfl 46 stZ hz1 hszs hs17 hone ?_))
             change Code.wp _ _ _ _ ((w10.alloc (.cells stZ 46)).setRow w10.heap.size st)
             generalize (w10.alloc (.cells stZ 46)).setRow w10.heap.size st = w11 at *
             clear hz1 hszs hone hs17 hB2' hz2
             go_wp2_with fail
             go_roundw
             case rel => exact ⟨i + 1,last,by omega,by go_num,rfl,.inr hH11,hB11⟩
             case measure => simp [intOf]; omega
         · have hik' : (k : Int) ≤ (i : Int) := by omega
           have hput := hide (take_more (idsAll ids K) i _ (idsAll_high ids K i (by omega) (by omega)))
           rw [hzl] at hput
           have hu : IntKind.u32.wrap ((i : Int) - (k : Int)) = V (BitVec.ofNat 32 (i - k)) := by
             rw [IntKind.wrap_u32]
             unfold V
             rw [BitVec.toNat_ofNat]
             omega
           clear hzl
           go_wp2_with fail
           rcases hH with hH | hH
           · refine hH.state.mono ?_
             rintro e w10 ⟨st,q,rfl,hst,hon,hb10⟩
             have hH10 := hH.below hb10
             have hB10 := below_next hB hb10
             have hz1 : Blk (w10.alloc (.cells stZ 46)) w10.heap.size stZ 46 := Blk.new _ _ _
             have hszs := hst.size
             have hone := hst.one
             have hs17 : stZ.size = st.size := by rw [hst.size17]; rfl
             have hB2' : Below w10.heap.size w10 ((w10.alloc (.cells stZ 46)).setRow w10.heap.size st) := below_setRow (below_alloc1 _ _) (Nat.le_refl _) _
             have hz2 := hz1.setRow st
             have hH11 := hH10.below hB2'
             have hB11 := below_next hB10 hB2'
             have e10 := hz2.cell (hst.on10.trans (by rw [hon]))
             clear hH hH10 hB10 hb10 hon hst
             go_upto_region 22 with (first
               | ((with_reducible refine at_store ?_); refine wpList_store_row rfl 46 (.tmp 19) (.tmp 115) rfl w10.heap.size st rfl rfl 46 stZ hz1 hszs hs17 hone ?_))
             change Code.wp _ _ _ _ ((w10.alloc (.cells stZ 46)).setRow w10.heap.size st)
             generalize (w10.alloc (.cells stZ 46)).setRow w10.heap.size st = w11 at *
             clear hz1 hszs hone hs17 hB2' hz2
             have hm11 := hm5.below hB11
             have hro11 := hro5.below hB11
             go_wp2_with (first
               | ((with_reducible refine at_load ?_); refine wpList_load_row rfl 44 (.tmp 12) rfl gm rfl 44 (manC 7#32 10#32 L 4 2 (.slice hA 32 hc)) (0,0) _ hm11 Tryz.underlying44 rfl hszm ?_))
             refine (lpacket_any 7#32 10#32 L 4 2 K (.slice hA 32 hc) ⟨_,_,_,rfl⟩ (some ⟨g,0,none⟩) c2 ot (BitVec.ofNat 32 (i - k)) w11 hro11 hman HK.out (by omega)).mono ?_
             rintro e w12 ⟨A3,c3,rfl,ho3,hb12⟩
             go_wp2_with fail
             refine ((hH11.below hb12).hear hS0 (fun b hb => Nat.lt_of_lt_of_le hb (Nat.le_trans hB11.size hb12.size)) (BitVec.ofNat 32 (i - k)) A3 _ c3 ho3.rd).mono ?_
             rintro e w13 ⟨r,rfl,hH13,hF13⟩
             have hB13 : Below w5.heap.size w5 w13 := (below_next hB11 hb12).trans (hF13.below (Nat.le_trans hB11.size hb12.size) fun b hb => Nat.le_of_not_lt hb)
             rw [← hput.out] at hH13
             go_wp2_with fail
             go_roundw
             case rel => exact ⟨i + 1,r,by omega,by go_num,rfl,hH13,hB13⟩
             case measure => simp [intOf]; omega
           · refine hH.state.mono ?_
             rintro e w10 ⟨st,q,rfl,hst,hon,hb10⟩
             have hH10 := hH.below hb10
             have hB10 := below_next hB hb10
             have hz1 : Blk (w10.alloc (.cells stZ 46)) w10.heap.size stZ 46 := Blk.new _ _ _
             have hszs := hst.size
             have hone := hst.one
             have hs17 : stZ.size = st.size := by rw [hst.size17]; rfl
             have hB2' : Below w10.heap.size w10 ((w10.alloc (.cells stZ 46)).setRow w10.heap.size st) := below_setRow (below_alloc1 _ _) (Nat.le_refl _) _
             have hz2 := hz1.setRow st
             have hH11 := hH10.below hB2'
             have hB11 := below_next hB10 hB2'
             have e10 := hz2.cell (hst.on10.trans (by rw [hon]))
             clear hH hH10 hB10 hb10 hon hst
             go_upto_region 22 with (first
               | ((with_reducible refine at_store ?_); refine wpList_store_row rfl 46 (.tmp 19) (.tmp 115) rfl w10.heap.size st rfl rfl 46 stZ hz1 hszs hs17 hone ?_))
             change Code.wp _ _ _ _ ((w10.alloc (.cells stZ 46)).setRow w10.heap.size st)
             generalize (w10.alloc (.cells stZ 46)).setRow w10.heap.size st = w11 at *
             clear hz1 hszs hone hs17 hB2' hz2
             go_wp2_with fail
             go_roundw
             case rel => exact ⟨i + 1,last,by omega,by go_num,rfl,.inr hH11,hB11⟩
             case measure => simp [intOf]; omega
       · obtain rfl : k + K = i := by omega
         rcases hH with ⟨_,F2,_,hOn⟩ | hH
         · exact absurd (fun i hi => by rw [← hzl]; exact idsAll_all ids K i hi) (hOn.not hS0)
         obtain ⟨w14,hw14⟩ : ∃ w14,w14 = wr := ⟨_,rfl⟩
         subst hw14
         have hro14 := hro5.below hB
         have hr14 := hr5.below hB
         have hB14 := below_next hB5 hB
         have hT14 := hT5.below hB
         clear hzl hlt hro5 hr5 hm5 hz5 hy hT5 hsr
         have hdg := fun (y : World) (hr : Rd y A L c one) => rdigest_any A L c one y hr (by omega)
         have hsm := fun (y : World) (hr : Rd y (some ⟨g,0,none⟩) L c2 ot) => shasum_any (some ⟨g,0,none⟩) L c2 ot y hr (by omega)
         have hro15 := hro14.below (Below.refl _ _).drew
         have hr15 := hr14.below (Below.refl _ _).drew
         go_upto_region 25 with fail
         go_cut [21] (fun v wx => v = .bool (sha ot == sha one) ∧ Below w14.heap.size w14 wx)
         case first =>
           refine wp_region_noPanic ?_
           refine wp_region_held_drew (S := fun _ => True) (by kernel_rfl) trivial (fun _ => ?_)
           refine reg_take 0 (some 129) (.slice (some ⟨g,0,none⟩) L c2) rfl rfl (by kernel_rfl) (by kernel_rfl) (by kernel_rfl) (fun _ _ _ _ h => h) (by kernel_rfl) (fun w _ => by kernel_rfl) trivial ?_
           refine reg_take 3 (some 132) (.slice A L c) rfl rfl (by kernel_rfl) (by kernel_rfl) (by kernel_rfl) (fun _ _ _ _ h => h) (by kernel_rfl) (fun w _ => by kernel_rfl) trivial ?_
           refine reg_one 1 (by kernel_rfl) ?_
           refine reg_call (some 130) 19 #[.slice (some ⟨g,0,none⟩) L c2] rfl rfl (by kernel_rfl) (by kernel_rfl) ((hsm w14.drew hro15).mono ?_)
           rintro e y1 ⟨A4,c4,rfl,ho4,hb4⟩
           have hr16 := hr15.below hb4
           refine ⟨_,rfl,trivial,?_⟩
           refine reg_two 2 4 (by kernel_rfl) ?_ ?_
           · have hr4 := ho4.rd
             refine reg_val (some 131) (.string (str (sha ot))) _ rfl rfl (by kernel_rfl) (exec_conv (.tmp 130) A4 32 c4 (sha ot) y1 rfl (by kernel_rfl) hr4) ⟨trivial,?_⟩
             refine reg_one 4 (by kernel_rfl) ?_
             refine reg_call (some 133) 20 #[.slice A L c] rfl rfl (by kernel_rfl) (by kernel_rfl) ((hdg y1 hr16).mono ?_)
             rintro e y2 ⟨A5,c5,rfl,ho5,hb5⟩
             refine ⟨_,rfl,trivial,?_⟩
             refine reg_one 5 (by kernel_rfl) ?_
             refine reg_val (some 134) (.string (str (sha one))) _ rfl rfl (by kernel_rfl) (exec_conv (.tmp 133) A5 32 c5 (sha one) y2 rfl (by kernel_rfl) ho5.rd) ⟨trivial,?_⟩
             refine reg_one 6 (by kernel_rfl) ?_
             refine reg_val (some 135) (.bool (sha ot == sha one)) _ rfl rfl (by kernel_rfl) (exec_eqs (.tmp 131) (.tmp 134) (sha ot) (sha one) y2 rfl (by kernel_rfl) (by kernel_rfl)) ⟨trivial,?_⟩
             refine reg_one 7 (by kernel_rfl) ?_
             refine reg_val (some 21) (.bool (sha ot == sha one)) y2 rfl rfl (by kernel_rfl) (by kernel_rfl) ⟨trivial,?_⟩
             refine wpAnyH_done (by kernel_rfl) (NoPanic.normal ?_) _
             simp only [Act.put,List.setIfInBounds_toArray,List.set_cons_zero,List.set_cons_succ]
             go_wp2_with fail
             go_meet
             exact ⟨rfl,below_next (below_next (Below.refl _ _).drew hb4) hb5⟩
           · refine reg_call (some 133) 20 #[.slice A L c] rfl rfl (by kernel_rfl) (by kernel_rfl) ((hdg y1 hr16).mono ?_)
             rintro e y2 ⟨A5,c5,rfl,ho5,hb5⟩
             refine ⟨_,rfl,trivial,?_⟩
             refine reg_two 2 5 (by kernel_rfl) ?_ ?_
             · refine reg_val (some 131) (.string (str (sha ot))) _ rfl rfl (by kernel_rfl) (exec_conv (.tmp 130) A4 32 c4 (sha ot) y2 rfl (by kernel_rfl) (ho4.rd.below hb5)) ⟨trivial,?_⟩
               refine reg_one 5 (by kernel_rfl) ?_
               refine reg_val (some 134) (.string (str (sha one))) _ rfl rfl (by kernel_rfl) (exec_conv (.tmp 133) A5 32 c5 (sha one) y2 rfl (by kernel_rfl) ho5.rd) ⟨trivial,?_⟩
               refine reg_one 6 (by kernel_rfl) ?_
               refine reg_val (some 135) (.bool (sha ot == sha one)) _ rfl rfl (by kernel_rfl) (exec_eqs (.tmp 131) (.tmp 134) (sha ot) (sha one) y2 rfl (by kernel_rfl) (by kernel_rfl)) ⟨trivial,?_⟩
               refine reg_one 7 (by kernel_rfl) ?_
               refine reg_val (some 21) (.bool (sha ot == sha one)) y2 rfl rfl (by kernel_rfl) (by kernel_rfl) ⟨trivial,?_⟩
               refine wpAnyH_done (by kernel_rfl) (NoPanic.normal ?_) _
               simp only [Act.put,List.setIfInBounds_toArray,List.set_cons_zero,List.set_cons_succ]
               go_wp2_with fail
               go_meet
               exact ⟨rfl,below_next (below_next (Below.refl _ _).drew hb4) hb5⟩
             · refine reg_val (some 134) (.string (str (sha one))) _ rfl rfl (by kernel_rfl) (exec_conv (.tmp 133) A5 32 c5 (sha one) y2 rfl (by kernel_rfl) ho5.rd) ⟨trivial,?_⟩
               refine reg_one 2 (by kernel_rfl) ?_
               refine reg_val (some 131) (.string (str (sha ot))) _ rfl rfl (by kernel_rfl) (exec_conv (.tmp 130) A4 32 c4 (sha ot) y2 rfl (by kernel_rfl) (ho4.rd.below hb5)) ⟨trivial,?_⟩
               refine reg_one 6 (by kernel_rfl) ?_
               refine reg_val (some 135) (.bool (sha ot == sha one)) _ rfl rfl (by kernel_rfl) (exec_eqs (.tmp 131) (.tmp 134) (sha ot) (sha one) y2 rfl (by kernel_rfl) (by kernel_rfl)) ⟨trivial,?_⟩
               refine reg_one 7 (by kernel_rfl) ?_
               refine reg_val (some 21) (.bool (sha ot == sha one)) y2 rfl rfl (by kernel_rfl) (by kernel_rfl) ⟨trivial,?_⟩
               refine wpAnyH_done (by kernel_rfl) (NoPanic.normal ?_) _
               simp only [Act.put,List.setIfInBounds_toArray,List.set_cons_zero,List.set_cons_succ]
               go_wp2_with fail
               go_meet
               exact ⟨rfl,below_next (below_next (Below.refl _ _).drew hb4) hb5⟩
         case rest =>
           obtain ⟨rfl,hBc⟩ := hcut
           have hB16 := below_next hB14 hBc
           have hT16 := hT14.below hBc
           have hro16 := hro14.below hBc
           have hH16 := hH.below hBc
           clear hBc hB14 hT14 hro14 hH hro15 hr15 hr14 hB hdg hsm
           by_cases hsame : sha ot = sha one
           · have hl13 : (last == 13) = false := by
               have : last ≠ 13 := by rcases hH16 with ⟨_,h2,_⟩ | ⟨h1,_⟩; exact h2; exact absurd hsame h1
               simpa using this
             have k1 := conv22 hro16
             rw [show (sha ot == sha one) = true by simpa using hsame]
             go_wp2_with fail
             refine hH16.state.mono ?_
             rintro e w17 ⟨st,q,rfl,hst,hon,hb17⟩
             have hH17 := hH16.below hb17
             have hB17 := below_next hB16 hb17
             have hT17 := hT16.below hb17
             have hz1 : Blk (w17.alloc (.cells stZ 46)) w17.heap.size stZ 46 := Blk.new _ _ _
             have hszs := hst.size
             have hone := hst.one
             have hs17 : stZ.size = st.size := by rw [hst.size17]; rfl
             have hB2' : Below w17.heap.size w17 ((w17.alloc (.cells stZ 46)).setRow w17.heap.size st) := below_setRow (below_alloc1 _ _) (Nat.le_refl _) _
             have hz2 := hz1.setRow st
             have hH18 := hH17.below hB2'
             have hB18 := below_next hB17 hB2'
             have hT18 := hT17.below hB2'
             have h10 := hide (hst.on10.trans (by rw [hon]))
             clear hH16 hH17 hB16 hB17 hT16 hT17 hb17 hon hst
             go_upto_region 30 with (first
               | ((with_reducible refine at_store ?_); refine wpList_store_row rfl 46 (.tmp 23) (.tmp 142) rfl w17.heap.size st rfl rfl 46 stZ hz1 hszs hs17 hone ?_))
             change Code.wp _ _ _ _ ((w17.alloc (.cells stZ 46)).setRow w17.heap.size st)
             generalize (w17.alloc (.cells stZ 46)).setRow w17.heap.size st = w18 at *
             clear hz1 hszs hone hs17 hB2'
             go_wp2_with fail
             refine hH18.running.mono ?_
             rintro e w19 ⟨A6,n6,c6,l6,rfl,hr6,hor,hb19⟩
             have hl6 : l6 = ot := by rcases hor with ⟨_,h⟩ | ⟨h,_⟩; exact h; exact absurd hsame h
             rw [hl6] at hr6
             clear hl6 hor
             have k6 := conv22 hr6
             have e10 := (hz2.below hb19).cell h10.out
             have hT19 := hT18.below hb19
             clear hr6 hz2
             go_wp2_with fail
             refine (awake_any w19 hT19).mono ?_
             rintro e w20 ⟨rfl,hb20⟩
             go_wp2_with fail
             go_ret
             exact ⟨rfl,below_next (below_next hB18 hb19) hb20⟩
           · have hl13 : (last == 13) = true := by
               have : last = 13 := by rcases hH16 with ⟨h1,_⟩ | ⟨_,h2,_⟩; exact absurd h1 hsame; exact h2
               simpa using this
             have hsu : ((str sunL).toList == [115,117,110]) = true := by rw [str_toList]; rfl
             rw [show (sha ot == sha one) = false by simpa using hsame]
             go_wp2_with fail
             refine hH16.state.mono ?_
             rintro e w17 ⟨st,q,rfl,hst,hon,hb17⟩
             have hH17 := hH16.below hb17
             have hB17 := below_next hB16 hb17
             have hT17 := hT16.below hb17
             have hz1 : Blk (w17.alloc (.cells stZ 46)) w17.heap.size stZ 46 := Blk.new _ _ _
             have hszs := hst.size
             have hone := hst.one
             have hs17 : stZ.size = st.size := by rw [hst.size17]; rfl
             have hB2' : Below w17.heap.size w17 ((w17.alloc (.cells stZ 46)).setRow w17.heap.size st) := below_setRow (below_alloc1 _ _) (Nat.le_refl _) _
             have hz2 := hz1.setRow st
             have hH18 := hH17.below hB2'
             have hB18 := below_next hB17 hB2'
             have hT18 := hT17.below hB2'
             have h10 := hide (hst.on10.trans (by rw [hon]))
             clear hH16 hH17 hB16 hB17 hT16 hT17 hb17 hon hst
             go_upto_region 30 with (first
               | ((with_reducible refine at_store ?_); refine wpList_store_row rfl 46 (.tmp 23) (.tmp 142) rfl w17.heap.size st rfl rfl 46 stZ hz1 hszs hs17 hone ?_))
             change Code.wp _ _ _ _ ((w17.alloc (.cells stZ 46)).setRow w17.heap.size st)
             generalize (w17.alloc (.cells stZ 46)).setRow w17.heap.size st = w18 at *
             clear hz1 hszs hone hs17 hB2'
             go_wp2_with fail
             refine hH18.running.mono ?_
             rintro e w19 ⟨A6,n6,c6,l6,rfl,hr6,hor,hb19⟩
             have hl6 : l6 = sunL := by rcases hor with ⟨h,_⟩ | ⟨_,h⟩; exact absurd h hsame; exact h
             rw [hl6] at hr6
             clear hl6 hor
             have k6 := conv22 hr6
             have e10 := (hz2.below hb19).cell h10.out
             have hT19 := hT18.below hb19
             clear hr6 hz2
             go_wp2_with fail
             refine (awake_any w19 hT19).mono ?_
             rintro e w20 ⟨rfl,hb20⟩
             go_wp2_with fail
             go_ret
             exact ⟨rfl,below_next (below_next hB18 hb19) hb20⟩
end Go.Proofs.YtkkcpblfheplaaaGreatDoor
