/- Contracts of functions that the laws of downpourtop reach, and plain facts; no condition beyond what each theorem states. -/
import Derived.Test.YtkkcpblfheplaaaGreatDoorME01
set_option maxRecDepth 100000
set_option maxHeartbeats 8000000
set_option linter.all false
namespace Go.Proofs.YtkkcpblfheplaaaGreatDoor
open Go.RowKit
theorem rmix_any (x : B32) (w : World) : Calls Tryz.prog 206 #[.int .u32 (V x)] w fun e w' => e = .returned (.int .u32 (V (mixB x))) ∧ w = w' := by
 obtain ⟨y1,h1⟩ : ∃ y,x ^^^ (x >>> 16) = y := ⟨_,rfl⟩
 obtain ⟨y2,h2⟩ : ∃ y,y1 * 0x7feb352d#32 = y := ⟨_,rfl⟩
 obtain ⟨y3,h3⟩ : ∃ y,y2 ^^^ (y2 >>> 15) = y := ⟨_,rfl⟩
 obtain ⟨y4,h4⟩ : ∃ y,y3 * 0x846ca68b#32 = y := ⟨_,rfl⟩
 obtain ⟨y5,h5⟩ : ∃ y,y4 ^^^ (y4 >>> 16) = y := ⟨_,rfl⟩
 have e1 : bits .xor .u32 (V x) (V x / 65536) = V y1 := by rw [← h1,← V_xor,← V_shr]; rfl
 have e2 : V y1 * 2146121005 % 4294967296 = V y2 := by rw [← h2,← V_mul]; rfl
 have e3 : bits .xor .u32 (V y2) (V y2 / 32768) = V y3 := by rw [← h3,← V_xor,← V_shr]; rfl
 have e4 : V y3 * 2221713035 % 4294967296 = V y4 := by rw [← h4,← V_mul]; rfl
 have e5 : bits .xor .u32 (V y4) (V y4 / 65536) = V y5 := by rw [← h5,← V_xor,← V_shr]; rfl
 have hr : Hid (mixB x = y5) := hide (by unfold mixB; simp only [h1,h2,h3,h4,h5])
 have b0 := V_bd x
 have b1 := V_bd y1
 have b2 := V_bd y2
 have b3 := V_bd y3
 have b4 := V_bd y4
 have b5 := V_bd y5
 clear h1 h2 h3 h4 h5
 go_enter Tryz.func206,Tryz.ntmps206
 go_wp2_with fail
 go_ret
 exact ⟨by rw [hr.out]; rfl,rfl⟩
theorem rmix_still (x : B32) (w : World) : Calls Tryz.prog 206 #[.int .u32 (V x)] w fun e w' => e = .returned (.int .u32 (V (mixB x))) ∧ w' = w :=
 (rmix_any x w).mono fun _ _ ⟨h,k⟩ => ⟨h,k.symm⟩
def RSrc (w : World) (g : Nat) (s : B32) : Prop := Blk w g #[.int .u32 (V s)] 269
theorem rsrc_new (a b : B32) (w : World) :
   Calls Tryz.prog 162 #[.int .u32 (V a),.int .u32 (V b)] w fun e w' => e = .returned (.pointer (some ⟨w.heap.size,0,none⟩)) ∧ RSrc w' w.heap.size (newS a b) ∧ Below w.heap.size w w' := by
 obtain ⟨m,hm⟩ : ∃ m,mixB a = m := ⟨_,rfl⟩
 have hmx := fun w => rmix_still a w
 rw [hm] at hmx
 obtain ⟨y1,h1⟩ : ∃ y,b * 0x9e3779b9#32 = y := ⟨_,rfl⟩
 obtain ⟨y2,h2⟩ : ∃ y,m + y1 = y := ⟨_,rfl⟩
 obtain ⟨y3,h3⟩ : ∃ y,y2 + 1#32 = y := ⟨_,rfl⟩
 have e1 : V b * 2654435769 % 4294967296 = V y1 := by rw [← h1,← V_mul]; rfl
 have e2 : (V m + V y1) % 4294967296 = V y2 := by rw [← h2,← V_add]
 have e3 : (V y2 + 1) % 4294967296 = V y3 := by rw [← h3,← V_add]; rfl
 have hr : Hid (newS a b = y3) := hide (by unfold newS; rw [hm,h1,h2,h3])
 have b0 := V_bd b
 have b1 := V_bd y1
 have b2 := V_bd y2
 have b3 := V_bd y3
 have bm := V_bd m
 clear h1 h2 h3 hm
 go_enter Tryz.func162,Tryz.ntmps162
 go_wp2_with fail
 refine (hmx w).mono ?_
 rintro e w1 ⟨rfl,rfl⟩
 go_wp2_with fail
 go_ret
 exact ⟨rfl,by rw [hr.out]; exact Blk.new _ _ _,below_alloc1 _ _⟩
theorem rsrc_next (g : Nat) (s : B32) (w : World) (h : RSrc w g s) :
   Calls Tryz.prog 164 #[.pointer (some ⟨g,0,none⟩)] w fun e w' => e = .returned (.int .u32 (V (outS s))) ∧ RSrc w' g (nextS s) ∧ Fr (· = g) w w' := by
 obtain ⟨x,hx⟩ : ∃ x,oneS s = x := ⟨_,rfl⟩
 obtain ⟨y1,h1⟩ : ∃ y,x ^^^ (x <<< 13) = y := ⟨_,rfl⟩
 obtain ⟨y2,h2⟩ : ∃ y,y1 ^^^ (y1 >>> 17) = y := ⟨_,rfl⟩
 obtain ⟨y3,h3⟩ : ∃ y,y2 ^^^ (y2 <<< 5) = y := ⟨_,rfl⟩
 have e1 : bits .xor .u32 (V x) (V x * 8192 % 4294967296) = V y1 := by rw [← h1,← V_xor,← V_shl]; rfl
 have e2 : bits .xor .u32 (V y1) (V y1 / 131072) = V y2 := by rw [← h2,← V_xor,← V_shr]; rfl
 have e3 : bits .xor .u32 (V y2) (V y2 * 32 % 4294967296) = V y3 := by rw [← h3,← V_xor,← V_shl]; rfl
 have hn : nextS s = y3 := by unfold nextS turnS; simp only [hx,h1,h2,h3]
 have hr : Hid (nextS s = y3 ∧ outS s = mixB y3) := hide ⟨hn,by unfold outS; rw [hn]⟩
 have b0 := V_bd x
 have b1 := V_bd y1
 have b2 := V_bd y2
 have b3 := V_bd y3
 have c0 := Blk.cell h (i := 0) (v := .int .u32 (V s)) rfl
 have z0 := Blk.free h 0
 have hS2 : RSrc (w.setCell ⟨g,0,none⟩ (.int .u32 (V y3))) g y3 := Blk.setCellAt h 0 (.int .u32 (V y3)) rfl
 have hF2 : Fr (· = g) w (w.setCell ⟨g,0,none⟩ (.int .u32 (V y3))) := Fr.set (S := (· = g)) (Fr.refl _ _) (p := ⟨g,0,none⟩) (fun _ => rfl) _
 clear h1 h2 h3 hn h
 by_cases h0 : s = 0#32
 · have hx1 : x = 1#32 := by rw [← hx]; unfold oneS; rw [if_pos h0]
   have hv : V s = 0 := by rw [h0]; rfl
   have hv1 : V x = 1 := by rw [hx1]; rfl
   rw [hv] at c0
   rw [hv1] at e1 b0
   have e1 : bits .xor .u32 1 8192 = V y1 := e1
   clear hx hx1 h0 hv hv1
   go_enter Tryz.func164,Tryz.ntmps164
   go_wp2_with fail
   (with_reducible refine (rmix_any y3 _).mono ?_)
   rintro e w' ⟨rfl,rfl⟩
   go_wp2_with fail
   go_ret
   exact ⟨by rw [hr.out.2]; rfl,by rw [hr.out.1]; exact hS2,hF2⟩
 · have hx1 : x = s := by rw [← hx]; unfold oneS; rw [if_neg h0]
   have hne : (V s == 0) = false := by
     rw [beq_eq_false_iff_ne]
     intro k
     unfold V at k
     exact h0 (BitVec.eq_of_toNat_eq (by simpa using k))
   rw [hx1] at e1 b0
   clear hx hx1 h0
   go_enter Tryz.func164,Tryz.ntmps164
   go_wp2_with fail
   (with_reducible refine (rmix_any y3 _).mono ?_)
   rintro e w' ⟨rfl,rfl⟩
   go_wp2_with fail
   go_ret
   exact ⟨by rw [hr.out.2]; rfl,by rw [hr.out.1]; exact hS2,hF2⟩
end Go.Proofs.YtkkcpblfheplaaaGreatDoor
namespace Go.Proofs.YtkkcpblfheplaaaGreatDoor
open Go.RowKit
theorem rsrc_below (g n : Nat) (s : B32) (w : World) (h : RSrc w g s) (h1 : 1 ≤ n) (h2 : n ≤ 256) :
   Calls Tryz.prog 208 #[.pointer (some ⟨g,0,none⟩),.int .i64 n] w fun e w' => e = .returned (.int .i64 (belowS s n : Nat)) ∧ RSrc w' g (nextS s) ∧ Fr (· = g) w w' := by
 have d1 : decide ((n : Int) < 1) = false := by simp; omega
 have d2 : decide (2147483648 < (n : Int)) = false := by simp; omega
 have hn0 : (1 : Int) ≤ (n : Int) := by omega
 have hn1 : (n : Int) ≤ 256 := by omega
 obtain ⟨o,ho⟩ : ∃ o,outS s = o := ⟨_,rfl⟩
 have hb := V_bd o
 obtain ⟨Q,hQ⟩ : ∃ Q,o.toNat * n = Q := ⟨_,rfl⟩
 have hQ2 : Q ≤ 4294967295 * 256 := by rw [← hQ]; exact Nat.mul_le_mul (by have := o.isLt; omega) h2
 have hQi : V o * (n : Int) = (Q : Int) := by rw [← hQ]; unfold V; simp
 obtain ⟨P,hP⟩ : ∃ P,Q / 4294967296 = P := ⟨_,rfl⟩
 have hPi : (Q : Int) / 4294967296 = (P : Int) := by omega
 have hQ3 : (Q : Int) ≤ 1099511627520 := by omega
 have hP3 : (P : Int) ≤ 256 := by omega
 have hr : Hid (belowS s n = P) := hide (by unfold belowS; rw [ho,hQ,hP])
 have Ho := hide ho
 clear hQ hP ho
 go_enter Tryz.func208,Tryz.ntmps208
 go_wp2_with fail
 refine (rsrc_next g s w h).mono ?_
 rw [Ho.out]
 rintro e w1 ⟨rfl,hS1,hF1⟩
 go_wp2_with fail
 go_ret
 exact ⟨by rw [hr.out]; rfl,hS1,hF1⟩
end Go.Proofs.YtkkcpblfheplaaaGreatDoor
namespace Go.Proofs.YtkkcpblfheplaaaGreatDoor.Sol
open Go.RowKit
theorem rroot_any (n : Nat) (hn : 1 ≤ n) (h80 : n ≤ 80) (w : World) : Calls Tryz.prog 230 #[.int .i64 n] w fun e w' => e = .returned (.int .i64 (rt n : Nat)) ∧ w = w' := by
 have hn' : (1 : Int) ≤ (n : Int) := by omega
 have hn80 : (n : Int) ≤ 80 := by omega
 have hR := hide (fun r (h : IsRoot n r) => h.same (rt_is n (by omega) hn))
 go_enter Tryz.func230,Tryz.ntmps230
 go_wp2_with fail
 go_loopw [3,4] (fun lv hv wr => ∃ lo hi : Nat,lv = .int .i64 (lo : Int) ∧ hv = .int .i64 (hi : Int) ∧ Hid (lo ≤ hi ∧ hi ≤ 3037000499 ∧ lo * lo ≤ n ∧ n < (hi + 1) * (hi + 1)) ∧ w = wr) (fun lv hv _ => (intOf hv).toNat - (intOf lv).toNat)
 case atStart => exact ⟨0,3037000499,rfl,rfl,hide ⟨by omega,by omega,by omega,by omega⟩,rfl⟩
 case round =>
   obtain ⟨lo,hi,rfl,rfl,I,rfl⟩ := hrel
   by_cases hlt : lo < hi
   · have hlt' : (lo : Int) < (hi : Int) := by omega
     have hhi : (hi : Int) ≤ 3037000499 := by have := I.out; omega
     obtain ⟨m,hm⟩ : ∃ m : Nat,m = lo + (hi - lo + 1) / 2 := ⟨_,rfl⟩
     have hml : lo < m := by omega
     have hmh : m ≤ hi := by omega
     have hmm : (lo : Int) + ((hi : Int) - (lo : Int) + 1) / 2 = (m : Int) := by omega
     have hm1 : 1 ≤ m := by omega
     have hm0 : (1 : Int) ≤ (m : Int) := by omega
     obtain ⟨q,hq⟩ : ∃ q : Nat,q = n / m := ⟨_,rfl⟩
     have hqq : (n : Int) / (m : Int) = (q : Int) := by rw [hq]; simp
     have hqi : m ≤ q ↔ m * m ≤ n := by rw [hq,Nat.le_div_iff_mul_le (by omega)]
     have hqn : (q : Int) ≤ 80 := by have := Nat.div_le_self n m; omega
     have Hqi := hide hqi
     have Hm := hide hm
     clear hm hq hqi
     by_cases hc : m ≤ q
     · have hc' : (m : Int) ≤ (q : Int) := by omega
       go_wp2_with fail
       go_roundw
       case rel => exact ⟨m,hi,rfl,rfl,hide ⟨hmh,I.out.2.1,Hqi.out.1 hc,I.out.2.2.2⟩,trivial⟩
       case measure => simp [intOf]; omega
     · have hc' : (q : Int) < (m : Int) := by omega
       have hmm1 : (m : Int) - 1 = ((m - 1 : Nat) : Int) := by omega
       go_wp2_with fail
       go_roundw
       case rel => exact ⟨lo,m - 1,rfl,rfl,hide ⟨by omega,by omega,I.out.2.2.1,by rw [show m - 1 + 1 = m by omega]; exact Nat.lt_of_not_le fun h => hc (Hqi.out.2 h)⟩,trivial⟩
       case measure => simp [intOf]; omega
   · have e : lo = hi := by have := I.out; omega
     subst e
     have J := I.out
     have hlo : 1 ≤ lo := by
       rcases Nat.eq_zero_or_pos lo with h | h
       · have := J.2.2.2; rw [h] at this; omega
       · exact h
     have hrt : Hid (lo = rt n) := hide (hR.out lo ⟨hlo,J.2.2.1,J.2.2.2⟩)
     clear J hlt hlo
     have dlo : decide ((lo : Int) < (lo : Int)) = false := by simp
     have h3 : (lo : Int) ≤ 3037000499 := by have := I.out; omega
     go_wp2_with fail
     go_ret
     exact ⟨by rw [hrt.out]; rfl,rfl⟩
theorem rweights_any (n : Nat) (h0 : 1 ≤ n) (h1 : n ≤ 80) (w : World) :
   Calls Tryz.prog 207 #[.int .i64 n] w fun e w' => ∃ A c,e = .returned (.slice A n c) ∧ OwnF .u32 30 w' w.heap.size A n c (wtf n) ∧ Below w.heap.size w w' := by
 have hr := rt_le h0 h1
 have hroot := rroot_any n h0 h1
 have d1 : decide ((n : Int) < 1) = false := by simp; omega
 have d2 : decide (80 < (n : Int)) = false := by simp; omega
 have hE : Hid (∀ d,wt n d = plainW n d + (if d < n / rt n then 262144 * rt n / (d * n) else if d = n / rt n then 524288 * rt n / n else 0)) := hide (fun _ => rfl)
 generalize rt n = r at *
 obtain ⟨top,ht⟩ : ∃ top,n / r = top := ⟨_,rfl⟩
 have i1 := natdiv _ _ _ ht
 rw [ht] at hE
 have htn : top ≤ n := by rw [← ht]; exact Nat.div_le_self _ _
 clear ht
 obtain ⟨pn,hpn⟩ : ∃ pn,1048576 / n = pn := ⟨_,rfl⟩
 have i2 : (1048576 : Int) / (n : Int) = (pn : Int) := natdiv 1048576 n pn hpn
 have hpn2 : pn ≤ 1048576 := by rw [← hpn]; exact Nat.div_le_self _ _
 have Hpn := hide hpn
 clear hpn
 obtain ⟨sr,hsr⟩ : ∃ sr,262144 * r = sr := ⟨_,rfl⟩
 have i5 : (262144 : Int) * (r : Int) = (sr : Int) := by omega
 obtain ⟨kr,hkr⟩ : ∃ kr,524288 * r = kr := ⟨_,rfl⟩
 have i8 : (524288 : Int) * (r : Int) = (kr : Int) := by omega
 obtain ⟨e2,he2⟩ : ∃ e2,kr / n = e2 := ⟨_,rfl⟩
 have i9 := natdiv _ _ _ he2
 have he22 : e2 ≤ kr := by rw [← he2]; exact Nat.div_le_self _ _
 rw [hsr,hkr,he2] at hE
 have hsr2 : sr ≤ 2359296 := by omega
 have hkr2 : kr ≤ 4718592 := by omega
 clear hsr hkr he2
 have j1 : (1 : Int) ≤ (n : Int) := by omega
 have j2 : (n : Int) ≤ 80 := by omega
 have j3 : (1 : Int) ≤ (r : Int) := by omega
 have j5 : (r : Int) ≤ 9 := by omega
 go_enter Tryz.func207,Tryz.ntmps207
 go_wp2_with (go_at_call 230; refine (hroot _).mono ?_; rintro e w1 ⟨rfl,rfl⟩)
 go_loopw [5,6] (fun v5 v6 wr => ∃ (k d : Nat) (A : Option Addr) (c : Nat),Hid (d = k + 1) ∧ k ≤ n ∧ v6 = .int .i64 (d : Int) ∧ v5 = .slice A k c ∧ OwnF .u32 30 wr w.heap.size A k c (wtf n) ∧ Below w.heap.size w wr) (fun _ v6 _ => n + 1 - (intOf v6).toNat)
 case atStart => exact ⟨0,1,none,0,hide rfl,Nat.zero_le _,rfl,rfl,OwnF.nil _ _ _ _ _,Below.refl _ _⟩
 case round =>
   obtain ⟨k,d,A,c,Hdk,hk,rfl,rfl,ho,hb⟩ := hrel
   by_cases hlt : k < n
   · have hdk := Hdk.out
     have hlt' : (d : Int) ≤ (n : Int) := by omega
     have hd1 : (1 : Int) ≤ (d : Int) := by omega
     have hd80 : (d : Int) ≤ 80 := by omega
     obtain ⟨W,hW⟩ : ∃ W,wtf n k = W := ⟨_,rfl⟩
     have hwt := (wt_pos h0 h1 (d := k + 1) (by omega) hlt).2
     have E := hE.out d
     rw [hdk] at E
     rw [show wt n (k + 1) = W from hW] at hwt E
     rw [← hdk] at E
     have HW := hide hW
     clear hW
     obtain ⟨dd,hdd⟩ : ∃ dd,d * (d - 1) = dd := ⟨_,rfl⟩
     have i3 : (d : Int) * ((d : Int) - 1) = (dd : Int) := by
       rw [← hdd,Int.natCast_mul,show (((d - 1 : Nat)) : Int) = (d : Int) - 1 by omega]
     have hdd2 : dd ≤ 6400 := by rw [← hdd]; exact Nat.mul_le_mul (show d ≤ 80 by omega) (show d - 1 ≤ 80 by omega)
     have hdd3 : 1 < d → 1 ≤ dd := fun h => by rw [← hdd]; exact Nat.mul_pos (by omega) (by omega)
     obtain ⟨pd,hpd⟩ : ∃ pd,1048576 / dd = pd := ⟨_,rfl⟩
     have i4 : (1048576 : Int) / (dd : Int) = (pd : Int) := natdiv 1048576 dd pd hpd
     have hpd2 : pd ≤ 1048576 := by rw [← hpd]; exact Nat.div_le_self _ _
     have P : Hid (plainW n d = if 1 < d then pd else pn) := hide (by unfold plainW; rw [hdd,hpd,Hpn.out])
     clear hpd hdd
     obtain ⟨dn,hdn⟩ : ∃ dn,d * n = dn := ⟨_,rfl⟩
     have i6 : (d : Int) * (n : Int) = (dn : Int) := by rw [← hdn]; simp
     have hdn2 : dn ≤ 6400 := by rw [← hdn]; exact Nat.mul_le_mul (show d ≤ 80 by omega) h1
     have hdn3 : 1 ≤ dn := by rw [← hdn]; exact Nat.mul_pos (by omega) h0
     obtain ⟨e1,he1⟩ : ∃ e1,sr / dn = e1 := ⟨_,rfl⟩
     have i7 := natdiv _ _ _ he1
     have he12 : e1 ≤ sr := by rw [← he1]; exact Nat.div_le_self _ _
     rw [hdn,he1] at E
     clear hdn he1
     have j4 : (1 : Int) ≤ (dn : Int) := by omega
     have j4' : (dn : Int) ≤ 6400 := by omega
     have Hd3 := hide hdd3
     have HE := hide E
     clear E hdd3 hdk
     by_cases h1d : 1 < d
     · have hP : Hid (plainW n d = pd) := hide (by rw [P.out,if_pos h1d])
       have j8 : (1 : Int) < (d : Int) := by omega
       have j9 : (1 : Int) ≤ (dd : Int) := by have := Hd3.out h1d; omega
       rcases Nat.lt_trichotomy d top with hlt2 | heq | hgt
       · have k1 : decide ((d : Int) < (top : Int)) = true := by simp; omega
         have k2 : ((d : Int) == (top : Int)) = false := by simp; omega
         have F : W = pd + e1 := by rw [HE.out,hP.out,if_pos hlt2]
         have F2 : (pd : Int) + (e1 : Int) = (W : Int) := by omega
         clear F
         go_wp2_with (at_builtin
                      refine wpList_appendF _ rfl _ _ _ rfl w.heap.size .u32 30 4 Tryz.underlying50 isU32 (by omega) A k c (wtf n) rfl (ho.below ((Below.refl _ _).alloc (Nat.le_refl _) _)) ⟨wr.heap.size,0,none⟩ 1 W HW.out rfl (by simp [World.cell?_alloc_new]) (by omega) (by have := hb.size; simp; omega) ?_
                      intro A3 c3 w3 ho3 hb3 _)
         go_roundw
         case rel => exact ⟨k + 1,d + 1,A3,c3,hide (by rw [Hdk.out]),by omega,by go_num,rfl,ho3,(hb.alloc hb.size _).trans hb3⟩
         case measure => simp [intOf]; omega
       · subst heq
         have k1 : decide ((d : Int) < (d : Int)) = false := by simp
         have F : W = pd + e2 := by rw [HE.out,hP.out,if_neg (by omega),if_pos rfl]
         have F2 : (pd : Int) + (e2 : Int) = (W : Int) := by omega
         clear F
         go_wp2_with (at_builtin
                      refine wpList_appendF _ rfl _ _ _ rfl w.heap.size .u32 30 4 Tryz.underlying50 isU32 (by omega) A k c (wtf n) rfl (ho.below ((Below.refl _ _).alloc (Nat.le_refl _) _)) ⟨wr.heap.size,0,none⟩ 1 W HW.out rfl (by simp [World.cell?_alloc_new]) (by omega) (by have := hb.size; simp; omega) ?_
                      intro A3 c3 w3 ho3 hb3 _)
         go_roundw
         case rel => exact ⟨k + 1,d + 1,A3,c3,hide (by rw [Hdk.out]),by omega,by go_num,rfl,ho3,(hb.alloc hb.size _).trans hb3⟩
         case measure => simp [intOf]; omega
       · have k1 : decide ((d : Int) < (top : Int)) = false := by simp; omega
         have k2 : ((d : Int) == (top : Int)) = false := by simp; omega
         have F : W = pd := by rw [HE.out,hP.out,if_neg (by omega),if_neg (by omega)]; rfl
         have F2 : (pd : Int) = (W : Int) := by omega
         clear F
         go_wp2_with (at_builtin
                      refine wpList_appendF _ rfl _ _ _ rfl w.heap.size .u32 30 4 Tryz.underlying50 isU32 (by omega) A k c (wtf n) rfl (ho.below ((Below.refl _ _).alloc (Nat.le_refl _) _)) ⟨wr.heap.size,0,none⟩ 1 W HW.out rfl (by simp [World.cell?_alloc_new]) (by omega) (by have := hb.size; simp; omega) ?_
                      intro A3 c3 w3 ho3 hb3 _)
         go_roundw
         case rel => exact ⟨k + 1,d + 1,A3,c3,hide (by rw [Hdk.out]),by omega,by go_num,rfl,ho3,(hb.alloc hb.size _).trans hb3⟩
         case measure => simp [intOf]; omega
     · have hP : Hid (plainW n d = pn) := hide (by rw [P.out,if_neg h1d])
       have j8 : ¬ (1 : Int) < (d : Int) := by omega
       rcases Nat.lt_trichotomy d top with hlt2 | heq | hgt
       · have k1 : decide ((d : Int) < (top : Int)) = true := by simp; omega
         have k2 : ((d : Int) == (top : Int)) = false := by simp; omega
         have F : W = pn + e1 := by rw [HE.out,hP.out,if_pos hlt2]
         have F2 : (pn : Int) + (e1 : Int) = (W : Int) := by omega
         clear F
         go_wp2_with (at_builtin
                      refine wpList_appendF _ rfl _ _ _ rfl w.heap.size .u32 30 4 Tryz.underlying50 isU32 (by omega) A k c (wtf n) rfl (ho.below ((Below.refl _ _).alloc (Nat.le_refl _) _)) ⟨wr.heap.size,0,none⟩ 1 W HW.out rfl (by simp [World.cell?_alloc_new]) (by omega) (by have := hb.size; simp; omega) ?_
                      intro A3 c3 w3 ho3 hb3 _)
         go_roundw
         case rel => exact ⟨k + 1,d + 1,A3,c3,hide (by rw [Hdk.out]),by omega,by go_num,rfl,ho3,(hb.alloc hb.size _).trans hb3⟩
         case measure => simp [intOf]; omega
       · subst heq
         have k1 : decide ((d : Int) < (d : Int)) = false := by simp
         have F : W = pn + e2 := by rw [HE.out,hP.out,if_neg (by omega),if_pos rfl]
         have F2 : (pn : Int) + (e2 : Int) = (W : Int) := by omega
         clear F
         go_wp2_with (at_builtin
                      refine wpList_appendF _ rfl _ _ _ rfl w.heap.size .u32 30 4 Tryz.underlying50 isU32 (by omega) A k c (wtf n) rfl (ho.below ((Below.refl _ _).alloc (Nat.le_refl _) _)) ⟨wr.heap.size,0,none⟩ 1 W HW.out rfl (by simp [World.cell?_alloc_new]) (by omega) (by have := hb.size; simp; omega) ?_
                      intro A3 c3 w3 ho3 hb3 _)
         go_roundw
         case rel => exact ⟨k + 1,d + 1,A3,c3,hide (by rw [Hdk.out]),by omega,by go_num,rfl,ho3,(hb.alloc hb.size _).trans hb3⟩
         case measure => simp [intOf]; omega
       · have k1 : decide ((d : Int) < (top : Int)) = false := by simp; omega
         have k2 : ((d : Int) == (top : Int)) = false := by simp; omega
         have F : W = pn := by rw [HE.out,hP.out,if_neg (by omega),if_neg (by omega)]; rfl
         have F2 : (pn : Int) = (W : Int) := by omega
         clear F
         go_wp2_with (at_builtin
                      refine wpList_appendF _ rfl _ _ _ rfl w.heap.size .u32 30 4 Tryz.underlying50 isU32 (by omega) A k c (wtf n) rfl (ho.below ((Below.refl _ _).alloc (Nat.le_refl _) _)) ⟨wr.heap.size,0,none⟩ 1 W HW.out rfl (by simp [World.cell?_alloc_new]) (by omega) (by have := hb.size; simp; omega) ?_
                      intro A3 c3 w3 ho3 hb3 _)
         go_roundw
         case rel => exact ⟨k + 1,d + 1,A3,c3,hide (by rw [Hdk.out]),by omega,by go_num,rfl,ho3,(hb.alloc hb.size _).trans hb3⟩
         case measure => simp [intOf]; omega
   · obtain rfl : k = n := by omega
     have hlt' : (k : Int) < (d : Int) := by have := Hdk.out; omega
     go_wp2_with fail
     go_ret
     exact ⟨A,c,rfl,ho,hb⟩
end Go.Proofs.YtkkcpblfheplaaaGreatDoor.Sol
namespace Go.Proofs.YtkkcpblfheplaaaGreatDoor.Sol
open Go.RowKit
theorem rdegree_any (n x : Nat) (h0 : 1 ≤ n) (h1 : n ≤ 80) (hx : x < 4294967296) (w : World) :
   Calls Tryz.prog 163 #[.int .i64 n,.int .u32 x] w fun e w' => ∃ r : Nat,e = .returned (.int .i64 r) ∧ IsDeg n x r ∧ Below w.heap.size w w' := by
 go_enter Tryz.func163,Tryz.ntmps163
 go_wp2_with fail
 refine (rweights_any n h0 h1 w).mono ?_
 rintro e w1 ⟨A1,c1,rfl,ho1,hb1⟩
 go_wp2_with fail
 go_loopw [6,17] (fun v2 v8 wr => ∃ k : Nat,k ≤ n ∧ v8 = .int .i64 (k : Int) ∧ v2 = .int .u64 (sums n k : Nat) ∧ w1 = wr) (fun _ v8 _ => n - (intOf v8).toNat)
 case atStart => exact ⟨0,Nat.zero_le _,rfl,rfl,rfl⟩
 case round =>
   obtain ⟨k,hk,rfl,rfl,rfl⟩ := hrel
   by_cases hlt : k < n
   · have hlt' : (k : Int) < (n : Int) := by omega
     have hn80 : (n : Int) ≤ 80 := by omega
     obtain ⟨g1,rfl,hg1,hg1w,hcw⟩ := ho1.at_ hlt
     have hS : sumf n k = sums n k + wtf n k := rfl
     have hS2 : sumf n k ≤ 4294967296 := Nat.le_trans (sums_mono n (show k + 1 ≤ n by omega)) (sums_le h0 h1)
     obtain ⟨S,hSS⟩ : ∃ S,sumf n k = S := ⟨_,rfl⟩
     obtain ⟨S0,hS0⟩ : ∃ S0,sums n k = S0 := ⟨_,rfl⟩
     obtain ⟨W,hW⟩ : ∃ W,wtf n k = W := ⟨_,rfl⟩
     have Hsum : Hid (sums n (k + 1) = S) := hide hSS
     rw [hW] at hcw
     rw [hSS] at hS2 hS
     rw [hS0,hW] at hS
     have hsw : (S0 : Int) + (W : Int) = (S : Int) := by omega
     rw [hS0]
     clear hSS hS0 hW hS
     go_wp2_with fail
     go_roundw
     case rel => exact ⟨k + 1,by omega,by go_num,by rw [Hsum.out],trivial⟩
     case measure => simp [intOf]; omega
   · obtain rfl : k = n := by omega
     obtain ⟨W0,hW0⟩ : ∃ W0,W0 = w1 := ⟨_,rfl⟩
     have hT := sums_le h0 h1
     have hP : Hid (∀ X,sums k k = X → place k x = x * X / 4294967296) := hide (fun X h => by unfold place; rw [h])
     have hpl := place_lt h0 h1 hx
     have HT : Hid (∃ X,sums k k = X) := hide ⟨_,rfl⟩
     obtain ⟨X,hX⟩ : ∃ X,sums k k = X := ⟨_,rfl⟩
     have hPX := hP.out X hX
     rw [hX] at hpl hT
     rw [hX]
     obtain ⟨pr,hpr⟩ : ∃ pr,x * X = pr := ⟨_,rfl⟩
     have hpr2 : pr ≤ 4294967295 * 4294967296 := by rw [← hpr]; exact Nat.mul_le_mul (by omega) hT
     have hpri : (x : Int) * (X : Int) = (pr : Int) := by rw [← hpr]; simp
     rw [hpr] at hPX
     obtain ⟨T,hTT⟩ : ∃ T,place k x = T := ⟨_,rfl⟩
     rw [hTT] at hPX hpl
     have hdv : (pr : Int) / 4294967296 = (T : Int) := by omega
     have hx' : (x : Int) ≤ 4294967295 := by omega
     have HTT := hide hTT
     have HX := hide hX
     have HPX := hide hPX
     have hT2 : T < 4294967296 := by omega
     have hT3 : (T : Int) ≤ 4294967295 := by omega
     have hpr3 : (pr : Int) ≤ 18446744069414584320 := by omega
     clear hTT hX hPX hpr hP HT hT
     go_wp2_with fail
     go_loopw [10,33] (fun v2 v8 wr => ∃ j : Nat,j ≤ k ∧ v8 = .int .i64 (j : Int) ∧ v2 = .int .u64 (sums k j : Nat) ∧ Hid (∀ t,t < j → sumf k t ≤ T) ∧ W0 = wr) (fun _ v8 _ => k - (intOf v8).toNat)
     case atStart => exact ⟨0,Nat.zero_le _,rfl,rfl,hide (fun t ht => absurd ht (by omega)),hW0⟩
     case round =>
       obtain ⟨j,hj,rfl,rfl,hlo,rfl⟩ := hrel
       subst hW0
       by_cases hlt2 : j < k
       · have hlt' : (j : Int) < (k : Int) := by omega
         have hn80 : (k : Int) ≤ 80 := by omega
         obtain ⟨g1,rfl,hg1,hg1w,hcw⟩ := ho1.at_ hlt2
         have hS : sumf k j = sums k j + wtf k j := rfl
         have hS2 : sumf k j ≤ 4294967296 := Nat.le_trans (sums_mono k (show j + 1 ≤ k by omega)) (sums_le h0 h1)
         have hmon : Hid (∀ t,j ≤ t → t < k → sumf k j ≤ sumf k t) := hide (fun t a b => sums_mono k (by omega))
         obtain ⟨S,hSS⟩ : ∃ S,sumf k j = S := ⟨_,rfl⟩
         obtain ⟨S0,hS0⟩ : ∃ S0,sums k j = S0 := ⟨_,rfl⟩
         obtain ⟨W,hW⟩ : ∃ W,wtf k j = W := ⟨_,rfl⟩
         have Hsum : Hid (sums k (j + 1) = S) := hide hSS
         have HS := hide hSS
         rw [hW] at hcw
         rw [hSS] at hS2 hS
         rw [hS0,hW] at hS
         have hsw : (S0 : Int) + (W : Int) = (S : Int) := by omega
         rw [hS0]
         clear hSS hS0 hW hS
         by_cases hgt : T < S
         · have q1 : decide ((T : Int) < (S : Int)) = true := by simp; omega
           have hd : Hid (IsDeg k x (j + 1)) := hide (deg_of (by omega) (fun t ht => by rw [HTT.out]; exact hlo.out t ht) (fun t a b => by have := hmon.out t a b; rw [HS.out] at this; rw [HTT.out]; omega))
           go_wp2_with fail
           go_ret
           exact ⟨j + 1,by go_num,hd.out,hb1⟩
         · have q1 : decide ((T : Int) < (S : Int)) = false := by simp; omega
           have hlo2 : Hid (∀ t,t < j + 1 → sumf k t ≤ T) := hide (fun t ht => by
             by_cases e : t = j
             · subst e; rw [HS.out]; omega
             · exact hlo.out t (by omega))
           go_wp2_with fail
           go_roundw
           case rel => exact ⟨j + 1,by omega,by go_num,by rw [Hsum.out],hlo2,trivial⟩
           case measure => simp [intOf]; omega
       · exfalso
         have e : j = k := by omega
         subst e
         have h1 := hlo.out (j - 1) (by omega)
         have h2 : sumf j (j - 1) = X := by rw [← HX.out]; unfold sumf; rw [show j - 1 + 1 = j by omega]
         omega
end Go.Proofs.YtkkcpblfheplaaaGreatDoor.Sol
