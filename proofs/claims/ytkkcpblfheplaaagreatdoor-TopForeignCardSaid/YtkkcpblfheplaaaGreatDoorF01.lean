/- Contracts of functions that the laws of downpourtop reach, and plain facts; no condition beyond what each theorem states. -/
import Derived.Test.YtkkcpblfheplaaaGreatDoorMDx05
set_option maxRecDepth 100000
set_option maxHeartbeats 8000000
set_option linter.all false
namespace Go.Proofs.YtkkcpblfheplaaaGreatDoor
open Go.RowKit
theorem or1_ne (x : UInt8) : x ||| 1 ≠ 0 := fun h => by
 have h1 : (x ||| 1).toBitVec.getLsbD 0 = true := by
   show (x.toBitVec ||| (1 : UInt8).toBitVec).getLsbD 0 = true
   rw [BitVec.getLsbD_or]
   have : (1 : UInt8).toBitVec.getLsbD 0 = true := by decide
   rw [this,Bool.or_true]
 rw [h] at h1
 revert h1
 decide
theorem xor_ne_self (a x : UInt8) (hx : x ≠ 0) : a ^^^ x ≠ a := fun h => by
 apply hx
 have h2 : a ^^^ (a ^^^ x) = a ^^^ a := congrArg (a ^^^ ·) h
 rw [← UInt8.xor_assoc,UInt8.xor_self,UInt8.zero_xor] at h2
 exact h2
theorem unw_mark (l : List UInt8) (h : l.take 2 ≠ [68,80]) : (unw l).2.2 ≠ 0 := by
 unfold unw
 split
 · decide
 · split
   · decide
   · rw [if_neg (fun k => h k.1)]
     decide
theorem bent_bad (k : Int) (d : List UInt8) (p : Nat) (x : UInt8) (h0 : 0 ≤ k) (h1 : k ≤ 255) (h2 : d.length ≤ 291) (hp : p < d.length + 9) (hx : x ≠ 0) :
   (unw ((wrapL k d).set p ((wrapL k d).getD p 0 ^^^ x))).2.2 ≠ 0 := by
 by_cases hp2 : p < 2
 · refine unw_mark _ ?_
   unfold wrapL
   match p,hp2 with
   | 0,_ =>
     intro h
     simp at h
     exact xor_ne_self 68 x hx (by simpa using h)
   | 1,_ =>
     intro h
     simp at h
     exact xor_ne_self 80 x hx (by simpa using h)
 · obtain ⟨j,rfl⟩ : ∃ j,p = 2 + j := ⟨p - 2,by omega⟩
   rw [Ne,unw_bent k d j x h0 h1 h2 (by omega)]
   exact hx
theorem bad_off {l : List UInt8} (h : (unw l).2.2 ≠ 0) : ¬ isMan keyL l ∧ offErr keyL l ≠ 0 := by
 refine ⟨fun k => h k.1,?_⟩
 unfold offErr
 rw [if_pos h]
 exact h
theorem other_off (key : List UInt8) (s v : B32) (L S P : Nat) (h : List UInt8) (hm : manOk L S P = true) (hL : L ≤ 512) (hS : S ≤ 16) (hP : P ≤ 16) (hh : h.length = 32) (hn : ¬ isMan keyL (wrapL 1 (manL key s v L S P h))) : offErr keyL (wrapL 1 (manL key s v L S P h)) = 5 := by
 have hu : unw (wrapL 1 (manL key s v L S P h)) = (1,manL key s v L S P h,0) := unw_wrap 1 _ (by omega) (by omega) (by rw [(manL_take key s v L S P h hh).2.2]; omega)
 obtain ⟨t1,t2,t3⟩ := manL_take key s v L S P h hh
 obtain ⟨_,_,k3,k4,k5,_⟩ := plainL_m s v L S P h hL hS hP hh
 have hme : manErr keyL (manL key s v L S P h) ≠ 0 := fun k => hn ⟨by rw [hu],by rw [hu],by rw [hu]; exact k⟩
 have h5 : manErr keyL (manL key s v L S P h) = 5 := by
   unfold manErr at hme ⊢
   rw [t3,t1,t2,k3,k4,k5] at hme ⊢
   by_cases ht : tag keyL (plainL s v L S P h) = tag key (plainL s v L S P h)
   · exfalso
     apply hme
     simp [ht,hm]
   · simp [ht]
 unfold offErr
 rw [hu]
 simp [h5]
theorem sym_off (s : B32) (K P S : Nat) (img : List UInt8) (id : B32) (h1 : 1 ≤ S) (h2 : S ≤ 16) : ¬ isMan keyL (wrapL 2 (symL s K P S img id)) ∧ offErr keyL (wrapL 2 (symL s K P S img id)) = 14 := by
 have hl := symL_len s K P S img id
 have hu : unw (wrapL 2 (symL s K P S img id)) = (2,symL s K P S img id,0) := unw_wrap 2 _ (by omega) (by omega) (by omega)
 have hp : pktErr (8 + S) = 0 := by
   unfold pktErr
   rw [if_neg (by omega),if_neg (by omega)]
 have ht : takErr (8 + S) = 14 := by
   unfold takErr
   rw [if_pos hp]
 refine ⟨fun k => ?_,?_⟩
 · have := k.2.1
   rw [hu] at this
   simp at this
 · unfold offErr
   rw [hu]
   simp [hl,ht]
def othL : List UInt8 := [111,116,104,101,114]
def ForD (B : Nat) (w : World) (d g : Nat) (one : List UInt8) : Prop :=
 ∃ F,Beside (fun b => b < B) F w g othL 7#32 10#32 4 2 (cnt one.length 4) one ∧ OffD F w d (offQ 0#32 0#32 1#32 3 (sha sunL)) 1 sunL
theorem ForD.below {B : Nat} {w w' : World} {d g : Nat} {one : List UInt8} (h : ForD B w d g one) (hB : Below w.heap.size w w') : ForD B w' d g one := by
 obtain ⟨F,h1,h2⟩ := h
 exact ⟨F,h1.below hB,h2.below hB⟩
theorem ForD.first {B : Nat} {w : World} {d g : Nat} {one : List UInt8} (h : ForD B w d g one) (h1 : 1 ≤ one.length) (h2 : one.length < 62) :
   Calls Tryz.prog 10 #[.pointer (some ⟨g,0,none⟩)] w fun e w' => ∃ A c,e = .returned (.slice A 85 c) ∧ Rd w' A 85 c (wrapL 1 (manL othL 7#32 10#32 one.length 4 2 (sha one))) ∧ Below w.heap.size w w' := by
 obtain ⟨F,⟨G,hc,_⟩,_⟩ := h
 refine (cfirst_any G g othL 7#32 10#32 4 2 _ one w hc (img_bd _ h2 h1).1 (by omega) (by omega)).mono ?_
 rintro e w' ⟨A,c,rfl,ho,hB⟩
 exact ⟨A,c,rfl,ho.rd,hB⟩
theorem ForD.sym {B : Nat} {w : World} {d g : Nat} {one : List UInt8} (h : ForD B w d g one) (h1 : 1 ≤ one.length) (h2 : one.length < 62) (hB : B ≤ w.heap.size) (id : B32) :
   Calls Tryz.prog 13 #[.pointer (some ⟨g,0,none⟩),.int .u32 (V id)] w fun e w' => ∃ A c,e = .returned (.slice A (21 : Nat) c) ∧ Rd w' A 21 c (wrapL 2 (symL 7#32 (cnt one.length 4) 2 4 one id)) ∧ ForD B w' d g one ∧ Below B w w' := by
 obtain ⟨F,hb,hd⟩ := h
 have hs := img_sess one one h1 h2
 refine (hb.sym id hs.sp (by have := hs.kp; omega) rfl).mono ?_
 rintro e w' ⟨A,c,rfl,ho,hb',hF⟩
 exact ⟨A,c,rfl,ho.rd,⟨F,hb',hd.step (hF.mono fun b _ hb => hb.1)⟩,hF.below hB fun b hb => Nat.le_of_not_lt hb.2⟩
theorem ForD.packet {B : Nat} {w : World} {d g : Nat} {one : List UInt8} (h : ForD B w d g one) (X : Option Addr) (m c : Nat) (l : List UInt8) (hr : Rd w X m c l) (hbad : ¬ isMan keyL l) :
   Calls Tryz.prog 12 #[.pointer (some ⟨d,0,none⟩),.slice X m c] w fun e w' => e = .returned (.int .i64 (offErr keyL l)) ∧ Below w.heap.size w w' := by
 obtain ⟨F,_,hd⟩ := h
 exact hd.packet X m c l hr hbad
theorem ForD.running {B : Nat} {w : World} {d g : Nat} {one : List UInt8} (h : ForD B w d g one) :
   Calls Tryz.prog 15 #[.pointer (some ⟨d,0,none⟩)] w fun e w' => ∃ A c,e = .returned (.slice A 3 c) ∧ Rd w' A 3 c sunL ∧ Below w.heap.size w w' := by
 obtain ⟨F,_,hd⟩ := h
 exact hd.running
theorem ForD.state {B : Nat} {w : World} {d g : Nat} {one : List UInt8} (h : ForD B w d g one) :
   Calls Tryz.prog 14 #[.pointer (some ⟨d,0,none⟩)] w fun e w' => ∃ st',e = .returned (.tuple #[.agg st',.bool true]) ∧ StC w' st' (offQ 0#32 0#32 1#32 3 (sha sunL)) ∧ Below w.heap.size w w' := by
 obtain ⟨F,_,hd⟩ := h
 exact hd.state
theorem forD_new {B : Nat} {w1 w2 w3 : World} {d g : Nat} {one : List UInt8} (hB1 : 1 < B) (hB : B ≤ w1.heap.size) (hc : CarS (fun b => b < B) w1 g othL 7#32 10#32 4 2 (cnt one.length 4) one) (hb12 : Below w1.heap.size w1 w2) (hb23 : Below w2.heap.size w2 w3)
   (hd : OffD (Mine w2 w3) w3 d (offQ 0#32 0#32 1#32 3 (sha sunL)) 1 sunL) : ForD B w3 d g one := by
 have hs2 := hb12.size
 have hs3 := hb23.size
 refine ⟨Mine w2 w3,⟨fun b => b < B ∨ Mine w2 w3 b,hc.step (.of (below_next hb12 hb23)) (fun b k => ?_),fun b k => .inr k,fun b k => ⟨.inl k,fun k2 => ?_⟩,fun b k => ?_⟩,hd⟩
 · rcases k with k | k | k
   · exact .inl k
   · exact .inl (by omega)
   · exact .inr (by omega)
 · rcases k2 with k2 | k2
   · exact k2
   · omega
 · rcases k with k | k
   · omega
   · exact hd.lt b k
theorem or_nat : ∀ n : Nat,n < 256 → bits .or .u8 (n : Int) 1 = ((n ||| 1 : Nat) : Int) := by decide +kernel
theorem or_u8 (a : UInt8) : bits .or .u8 (a.toNat : Int) 1 = ((a ||| 1).toNat : Int) := by
 rw [or_nat _ a.toNat_lt,UInt8.toNat_or]
 rfl
theorem foreign_any (X Y Z : Option Addr) (n cX m cY k cZ : Nat) (la lb : List UInt8) (ns : List (List UInt8)) (at_ : Int) (x : UInt8) (w : World) (hx : Rd w X n cX la) (hy : Rd w Y m cY lb) (hz : RdL w Z k cZ ns) (hT : Tab64 w) :
   Calls Tryz.prog 3 #[.slice X n cX,.slice Y m cY,.slice Z k cZ,.int .i64 at_,.int .u8 (x.toNat : Int)] w fun e w' => e = .returned (.bool true) ∧ Below w.heap.size w w' := by
 have kc := fun (w : World) (C : Array Value) (n c : Nat) => Lib.run_convert_bytes_const (P := Tryz.prog) w 22 5 C n c Tryz.underlying22 Tryz.underlying5
 have hT1 : 1 < w.heap.size := World.block_lt_of_cell? w _ (hT 0 (by omega))
 obtain ⟨il1,il2⟩ := imgOf_len la 1
 have him := images_any X Y n cX m cY la lb w hx hy
 generalize imgOf la 1 = one at *
 have hS := img_sess one one il1 il2
 have hsp := hS.pos
 have hman : manOk one.length 4 2 = true := hS.man
 go_enter Tryz.func3,Tryz.ntmps3
 go_wp2_with fail
 refine him.mono ?_
 rintro e w1 ⟨A,c,v,rfl,ho,hb1⟩
 have hs1 := hb1.size
 go_wp2_with fail
 refine (cnew_any (fun b => b < w.heap.size) _ 5 _ othL 7#32 10#32 4 2 (cnt one.length 4) A c one _ (fun b k => ?_) (Rd.newFr w1 5 _ _ (l := othL) rfl (by decide)) (by omega) (ho.rd.below (below_alloc1 _ _)) hman (by omega) (by omega) rfl).mono ?_
 · simp; omega
 rintro e w2 ⟨g,rfl,hc,hgl,hb2⟩
 have hB2 : Below w.heap.size w w2 := below_next (below_next hb1 (below_alloc1 w1 _)) hb2
 have hs2 := hB2.size
 go_wp2_with fail
 refine (key7_any w2).mono ?_
 rintro e w3 ⟨kB,kc2,rfl,hk3,hkf3,hb3⟩
 have hB3 := below_next hB2 hb3
 go_wp2_with fail
 refine (cnew_any (fun b => b < w.heap.size) kB 3 kc2 keyL 7#32 10#32 4 2 (cnt one.length 4) A c one w3 (fun b k => ?_) hk3 (by omega) ((ho.rd.below (below_next (below_alloc1 w1 _) hb2)).below hb3) hman (by omega) (by omega) rfl).mono ?_
 · have := hB3.size; simp; omega
 rintro e w4 ⟨g2,rfl,hc2,hgl2,hb4⟩
 have hB4 := below_next hB3 hb4
 go_wp2_with fail
 refine (key7_any w4).mono ?_
 rintro e w5 ⟨kC,kc3,rfl,hk5,hkf5,hb5⟩
 have hB5 := below_next hB4 hb5
 have hb5' := below_next hB5 (below_alloc1 w5 (.cells #[.int .u8 115,.int .u8 117,.int .u8 110] 5 (3,4)))
 go_wp2_with fail
 refine (make_off kC kc3 _ _ _ (hk5.below (below_alloc1 _ _)) (Rd.newFr w5 5 _ _ (l := sunL) rfl (by decide)) (hT.below hb5')).mono ?_
 rintro e w6 ⟨d,rfl,hd,hb6⟩
 have hB6 := below_next hb5' hb6
 have hb25 := below_next (below_next (below_next hb3 hb4) hb5) (below_alloc1 w5 (.cells #[.int .u8 115,.int .u8 117,.int .u8 110] 5 (3,4)))
 have hFD := forD_new hT1 hs2 hc hb25 hb6 hd
 have hc26 := hc2.step (F1 := fun b => b < w.heap.size) (.of (below_next (below_next hb5 (below_alloc1 w5 _)) hb6)) (fun b k => .inl k)
 have hT6 := hT.below hB6
 clear hd hc hc2 hk3 hkf3 hk5 hkf5 hb1 hb2 hb3 hb4 hb5 hb5' hb6 hB2 hB3 hB4 hB5 hb25 hs1 hs2 ho hx hy him hgl hgl2
 by_cases hk30 : 30 < k
 · have hk' : (30 : Int) < (k : Int) := by omega
   go_wp2_with fail
   refine (awake_any w6 hT6).mono ?_
   rintro e w7 ⟨rfl,hb7⟩
   go_wp2_with fail
   go_ret
   exact ⟨rfl,below_next hB6 hb7⟩
 have hk' : (k : Int) ≤ 30 := by omega
 go_wp2_with fail
 refine (cfirst_any _ g2 keyL 7#32 10#32 4 2 _ one w6 hc26 hman (by omega) (by omega)).mono ?_
 rintro e w7 ⟨A1,c1,rfl,ho1,hb7⟩
 obtain ⟨q,hq1,ek⟩ := rem_nat at_ 85 (by omega) (by omega)
 have ek : wrap64 ((IntKind.u64.wrap at_).tmod 85) = (q : Int) := ek
 have hq0 : (0 : Int) ≤ (q : Int) := by omega
 have hq2 : (q : Int) < 85 := by omega
 have hx1 := or_u8 x
 have hxb := hide (or1_ne x)
 obtain ⟨f,hf⟩ : ∃ f,f = wrapL 1 (manL keyL 7#32 10#32 one.length 4 2 (sha one)) := ⟨_,rfl⟩
 have ho1' : Own w7 w6.heap.size 5 A1 85 c1 f := by rw [hf]; exact ho1
 have hfl : f.length = 85 := by rw [hf,wrapL_len,(manL_take keyL 7#32 10#32 one.length 4 2 (sha one) (sha_len _)).2.2]
 obtain ⟨y0,hy0⟩ : ∃ y0,f.getD q 0 = y0 := ⟨_,rfl⟩
 have hv : f[q]? = some y0 := by rw [← hy0,List.getD_eq_getElem?_getD,List.getElem?_eq_getElem (by omega)]; rfl
 have hbent : (unw (f.set q (y0 ^^^ (x ||| 1)))).2.2 ≠ 0 := by
   rw [← hy0,hf]
   exact bent_bad 1 _ q _ (by omega) (by omega) (by rw [(manL_take keyL 7#32 10#32 one.length 4 2 (sha one) (sha_len _)).2.2]; omega) (by rw [(manL_take keyL 7#32 10#32 one.length 4 2 (sha one) (sha_len _)).2.2]; omega) hxb.out
 obtain ⟨hbad,hoff⟩ := bad_off hbent
 obtain ⟨g1,rfl,hg0,hg1⟩ := ho1'.form (by omega)
 have hcell := ho1'.cell hv
 have hfr := ho1'.frozen q
 generalize hx2 : x ||| 1 = x2 at *
 have Hx2 := hide hx2
 clear hf hy0 hfl hbent hx2 hxb ho1
 have hset := ho1'.set q (y0 ^^^ x2)
 have hb78 := hb7.setCell (p := ⟨g1,q,none⟩) hg0 (.int .u8 (y0 ^^^ x2).toNat)
 have hxx := xor_u8 y0 x2
 go_upto_region 11 with fail
 change Code.wp _ _ _ _ (w7.setCell ⟨g1,q,none⟩ (.int .u8 ((y0 ^^^ x2).toNat : Int)))
 generalize w7.setCell ⟨g1,q,none⟩ (.int .u8 ((y0 ^^^ x2).toNat : Int)) = w8 at *
 generalize f.set q (y0 ^^^ x2) = B0 at *
 have hFD8 := hFD.below hb78
 have hT8 := hT6.below hb78
 have hB8 := below_next hB6 hb78
 clear hfr hcell ho1' hv hx1 hxx hb7 hg1 ek hc26 hFD hT6 hB6 hb78 hq1 hq2 hq0 Hx2
 have hrd := hset.rd
 clear hset hg0
 go_wp2_with fail
 refine (hFD8.first il1 il2).mono ?_
 rintro e w9 ⟨A2,c2,rfl,hr2,hb9⟩
 go_wp2_with fail
 refine (signed_any A2 85 c2 _ w9 hr2).mono ?_
 rintro e w10 ⟨rfl,hb10⟩
 have hb810 := below_next hb9 hb10
 have hFD10 := hFD8.below hb810
 have hT10 := hT8.below hb810
 have hB10 := below_next hB8 hb810
 have hrd10 := hrd.below hb810
 clear hFD8 hT8 hB8 hrd hb9 hb10 hb810
 by_cases hsg : sgn (wrapL 1 (manL othL 7#32 10#32 one.length 4 2 (sha one))) = true
 · rw [hsg]
   go_wp2_with fail
   refine (awake_any w10 hT10).mono ?_
   rintro e w11 ⟨rfl,hb11⟩
   go_wp2_with fail
   go_ret
   exact ⟨rfl,below_next hB10 hb11⟩
 have hnm : ¬ isMan keyL (wrapL 1 (manL othL 7#32 10#32 one.length 4 2 (sha one))) := fun k => hsg ((sgn_is _).2 k)
 have ho5 := hide (other_off othL 7#32 10#32 one.length 4 2 (sha one) hman (by omega) (by omega) (by omega) (sha_len _) hnm)
 rw [show sgn (wrapL 1 (manL othL 7#32 10#32 one.length 4 2 (sha one))) = false by simpa using hsg]
 clear hsg
 go_wp2_with fail
 refine (hFD10.first il1 il2).mono ?_
 rintro e w11 ⟨A3,c3,rfl,hr3,hb11⟩
 have hFD11 := hFD10.below hb11
 go_wp2_with fail
 refine (hFD11.packet A3 85 c3 _ hr3 hnm).mono ?_
 rintro e w12 ⟨rfl,hb12⟩
 rw [ho5.out]
 have hFD12 := hFD11.below hb12
 have hrd12 := (hrd10.below hb11).below hb12
 go_wp2_with fail
 refine (hFD12.packet _ 85 c1 B0 hrd12 hbad).mono ?_
 rintro e w13 ⟨rfl,hb13⟩
 have hFD13 := hFD12.below hb13
 have hb1013 := below_next (below_next hb11 hb12) hb13
 have hB13 := below_next hB10 hb1013
 have hT13 := hT10.below hb1013
 have hob : (offErr keyL B0 == 0) = false := by simpa using hoff
 generalize offErr keyL B0 = E at *
 clear hoff hbad hrd10 hrd12 hFD10 hFD11 hFD12 hT10 hB10 hr2 hr3 hb11 hb12 hb13 hb1013 ho5 hnm
 go_wp2_with fail
 go_loopw [113] (fun v wr => ∃ i : Nat,i ≤ 20 ∧ v = .int .i64 (i : Int) ∧ ForD w.heap.size wr d g one ∧ Below w.heap.size w wr) (fun v _ => 20 - (intOf v).toNat)
 case atStart => exact ⟨0,by omega,rfl,hFD13,hB13⟩
 case round =>
   clear hFD13 hB13
   obtain ⟨i,hi,rfl,hD,hB⟩ := hrel
   have hsr := hB.size
   by_cases hlt : i < 20
   · have hlt' : (i : Int) < 20 := by omega
     have hi0 : (0 : Int) ≤ (i : Int) := by omega
     have hu : IntKind.u32.wrap (i : Int) = V (BitVec.ofNat 32 i) := by
       rw [IntKind.wrap_u32]
       unfold V
       rw [BitVec.toNat_ofNat]
       omega
     obtain ⟨hso1,hso2⟩ := sym_off 7#32 (cnt one.length 4) 2 4 one (BitVec.ofNat 32 i) (by omega) (by omega)
     have hso := hide hso2
     clear hso2
     go_wp2_with fail
     refine (hD.sym il1 il2 hsr (BitVec.ofNat 32 i)).mono ?_
     rintro e w14 ⟨A4,c4,rfl,hr4,hD4,hb14⟩
     go_wp2_with fail
     refine (hD4.packet A4 21 c4 _ hr4 hso1).mono ?_
     rintro e w15 ⟨rfl,hb15⟩
     rw [hso.out]
     go_wp2_with fail
     go_roundw
     case rel => exact ⟨i + 1,by omega,by go_num,hD4.below hb15,below_next (hB.trans hb14) hb15⟩
     case measure => simp [intOf]; omega
   · obtain rfl : i = 20 := by omega
     obtain ⟨W0,hW0⟩ : ∃ W0,W0 = wr := ⟨_,rfl⟩
     subst hW0
     go_wp2_with fail
     go_loopw [126] (fun v wy => ∃ i : Nat,i ≤ k ∧ v = .int .i64 (i : Int) ∧ ForD w.heap.size wy d g one ∧ Below w.heap.size w wy) (fun v _ => k - (intOf v).toNat)
     case atStart => exact ⟨0,by omega,rfl,hD,hB⟩
     case round =>
       clear hD hB hsr
       obtain ⟨i,hi,rfl,hD,hB⟩ := hrel
       have hsr := hB.size
       by_cases hlt2 : i < k
       · obtain ⟨ad,l,A',n',c',rfl,hl,hc,hrx⟩ := (hz.below hB).at_ hlt2
         have hlt2' : (i : Int) < (k : Int) := by omega
         have hi0 : (0 : Int) ≤ (i : Int) := by omega
         clear hl
         by_cases h4 : n' ≤ 400
         · have h4' : (n' : Int) ≤ 400 := by omega
           go_wp2_with fail
           refine (signed_any A' n' c' l _ hrx).mono ?_
           rintro e w14 ⟨rfl,hb14⟩
           have hD14 := hD.below hb14
           have hB14 := below_next hB hb14
           by_cases hsl : sgn l = true
           · rw [hsl]
             go_wp2_with fail
             go_roundw
             case rel => exact ⟨_,_,_,_,_,_,_,_,_,_,_,_,_,_,_,_,_,⟨i + 1,by omega,by go_num,hD14,hB14⟩,rfl⟩
             case measure => simp [intOf]; omega
           · have hnl : ¬ isMan keyL l := fun k => hsl ((sgn_is _).2 k)
             rw [show sgn l = false by simpa using hsl]
             clear hsl
             go_wp2_with fail
             refine (hD14.packet A' n' c' l (hrx.below hb14) hnl).mono ?_
             rintro e w15 ⟨rfl,hb15⟩
             go_wp2_with fail
             go_roundw
             case rel => exact ⟨_,_,_,_,_,_,_,_,_,_,_,_,_,_,_,_,_,⟨i + 1,by omega,by go_num,hD14.below hb15,below_next hB14 hb15⟩,rfl⟩
             case measure => simp [intOf]; omega
         · have h4' : (400 : Int) < (n' : Int) := by omega
           go_wp2_with fail
           go_roundw
           case rel => exact ⟨i + 1,by omega,by go_num⟩
           case measure => simp [intOf]; omega
       · obtain rfl : k = i := by omega
         clear hz
         go_wp2_with fail
         refine hD.state.mono ?_
         rintro e w14 ⟨st,rfl,hst,hb14⟩
         have hD14 := hD.below hb14
         have hB14 := below_next hB hb14
         have hT14 := hT.below hB14
         have hz1 : Blk (w14.alloc (.cells stZ 46)) w14.heap.size stZ 46 := Blk.new _ _ _
         have hszs := hst.size
         have hone := hst.one
         have hs17 : stZ.size = st.size := by rw [hst.size17]; rfl
         have hs1 := hB14.size
         have hB2' : Below w14.heap.size w14 ((w14.alloc (.cells stZ 46)).setRow w14.heap.size st) := below_setRow (below_alloc1 _ _) (Nat.le_refl _) _
         have hz2 := hz1.setRow st
         have hD15 := hD14.below hB2'
         have hT15 := hT14.below hB2'
         have hB15 := below_next hB14 hB2'
         have hc : Hid (st[0]? = some (.int .i64 0) ∧ st[1]? = some (.int .i64 0) ∧ st[2]? = some (.int .u32 0)) := hide (by
           obtain ⟨x0,x1,x2',hse,_⟩ := hst
           rw [hse]
           exact ⟨rfl,rfl,rfl⟩)
         clear hst
         go_upto_region 28 with (first
           | ((with_reducible refine at_store ?_); refine wpList_store_row rfl 46 (.tmp 23) (.tmp 145) rfl w14.heap.size st rfl rfl 46 stZ hz1 hszs hs17 hone ?_))
         change Code.wp _ _ _ _ ((w14.alloc (.cells stZ 46)).setRow w14.heap.size st)
         generalize (w14.alloc (.cells stZ 46)).setRow w14.heap.size st = w15 at *
         have hsu : ((str sunL).toList == [115,117,110]) = true := by rw [str_toList]; rfl
         clear hz1 hszs hone hs17 hs1 hB2' hD14 hT14 hB14 hb14 hD hB hsr
         go_wp2_with fail
         refine hD15.running.mono ?_
         rintro e w16 ⟨A5,c5,rfl,hr5,hb16⟩
         have k5 := conv22 hr5
         have hz3 := hz2.below hb16
         have e0 := hz3.cell hc.out.1
         have e1 := hz3.cell hc.out.2.1
         have e2 := hz3.cell hc.out.2.2
         have hT16 := hT15.below hb16
         clear hr5
         go_wp2_with fail
         refine (awake_any w16 hT16).mono ?_
         rintro e w17 ⟨rfl,hb17⟩
         go_wp2_with fail
         go_ret
         exact ⟨rfl,below_next (below_next hB15 hb16) hb17⟩
theorem rdl_of {w : World} {a : Addr} {len cap base : Nat} {A : Nat → Option Addr} {L C : Nat → Nat} {Z : Nat → List Int} (hlc : len ≤ cap) (hcm : cap ≤ maxLen)
   (h : ∀ r,r < cap → w.cell? (a.add r) = some (.slice (A r) (L r) (C r)) ∧ L r ≤ C r ∧ C r ≤ maxLen ∧ (Z r).length = C r ∧ (∀ n ∈ Z r,(Lit.int .u8 n).wf = true) ∧ (A r = none → C r = 0) ∧
       ∀ a',A r = some a' → base ≤ a'.block ∧ ∀ c,c < C r → w.cell? (a'.add c) = some (.int .u8 ((Z r).getD c 0))) : ∃ ls,RdL w (some a) len cap ls := by
 have each : ∀ r,∃ l,r < len → Rd w (A r) (L r) (C r) l := by
   intro r
   by_cases hr : r < len
   · obtain ⟨_,h2,h3,h4,h5,h6,h7⟩ := h r (by omega)
     cases hA : A r with
     | none =>
       have hC := h6 hA
       refine ⟨[],fun _ => ?_⟩
       rw [show L r = 0 by omega]
       exact Rd.nil _ _ h3
     | some a' =>
       obtain ⟨l,hl⟩ := Rd.of_row (w := w) (a := some a') (len := L r) (cap := C r) (zs := Z r) (.inr ⟨a',rfl,h2,h3,h4,fun i hi => (h7 a' hA).2 i (by omega),h5⟩)
       exact ⟨l,fun _ => hl⟩
   · exact ⟨[],fun h => absurd h hr⟩
 obtain ⟨f,hf⟩ : ∃ f : Nat → List UInt8,∀ r,r < len → Rd w (A r) (L r) (C r) (f r) := ⟨fun r => Classical.choose (each r),fun r => Classical.choose_spec (each r)⟩
 refine ⟨(List.range len).map f,by simp,hlc,hcm,fun _ => ⟨a,rfl,fun j l hj => ?_⟩⟩
 have hj' : j < len := by
   have := (List.getElem?_eq_some_iff.1 hj).1
   simpa using this
 simp [hj'] at hj
 subst hj
 exact ⟨A j,L j,C j,(h j (by omega)).1,hf j hj'⟩
end Go.Proofs.YtkkcpblfheplaaaGreatDoor
