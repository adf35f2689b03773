/- Contracts of functions that the laws of downpourtop reach, and plain facts; no condition beyond what each theorem states. -/
import Derived.Test.YtkkcpblfheplaaaGreatDoorProg
import Derived.WalkKit
import Derived.WalkSpells
import Derived.WalkLawsBesides
import Derived.Lib.Hide
import Derived.Maps.AppendAt
import Derived.Deep.AppendLies
import Derived.Deep.Draws
import Derived.OneCell
import Derived.Tactics
import Derived.Tactics2
import Derived.Defers
import Derived.Laws.Pointers
import Derived.Laws.LoneSync
import Derived.RegionTactic
import Derived.RegionCalls
import Derived.BigQuiet
import Derived.Deep.CutRange
import Derived.Deep.DeepCutAuto
import Derived.Deep.RegionWith
import Derived.Laws.NewBlocks
set_option maxRecDepth 100000
set_option maxHeartbeats 8000000
set_option linter.all false
namespace Go.Proofs.YtkkcpblfheplaaaGreatDoor.Sol
def IsRoot (n r : Nat) : Prop := 1 ≤ r ∧ r * r ≤ n ∧ n < (r + 1) * (r + 1)
theorem IsRoot.same {n r s : Nat} (h : IsRoot n r) (k : IsRoot n s) : r = s := by
 obtain ⟨_,h2,h3⟩ := h
 obtain ⟨_,k2,k3⟩ := k
 have a : r < s + 1 := by
   rcases Nat.lt_or_ge r (s + 1) with h | h
   · exact h
   · have := Nat.mul_le_mul h h
     omega
 have b : s < r + 1 := by
   rcases Nat.lt_or_ge s (r + 1) with h | h
   · exact h
   · have := Nat.mul_le_mul h h
     omega
 omega
def rt (n : Nat) : Nat := (List.range 9).countP fun k => decide ((k + 1) * (k + 1) ≤ n)
theorem rt_is : ∀ n,n < 81 → 1 ≤ n → IsRoot n (rt n) := by unfold IsRoot; decide +kernel
def plainW (n d : Nat) : Nat := if 1 < d then 1048576 / (d * (d - 1)) else 1048576 / n
def wt (n d : Nat) : Nat :=
 plainW n d + (if d < n / rt n then 262144 * rt n / (d * n) else if d = n / rt n then 524288 * rt n / n else 0)
def sums (n : Nat) : Nat → Nat
 | 0 => 0
 | k + 1 => sums n k + wt n (k + 1)
def good (n : Nat) : Bool := decide (sums n n ≤ 4294967296) && (List.range n).all fun k => decide (0 < wt n (k + 1) ∧ wt n (k + 1) < 4294967296)
theorem good_all : ∀ n,n < 81 → 1 ≤ n → good n = true := by decide +kernel
theorem sums_le {n : Nat} (h0 : 1 ≤ n) (h1 : n ≤ 80) : sums n n ≤ 4294967296 := by
 have h := good_all n (by omega) h0
 unfold good at h
 simp only [Bool.and_eq_true,decide_eq_true_eq] at h
 exact h.1
theorem wt_pos {n d : Nat} (h0 : 1 ≤ n) (h1 : n ≤ 80) (hd0 : 1 ≤ d) (hd : d ≤ n) : 0 < wt n d ∧ wt n d < 4294967296 := by
 have h := good_all n (by omega) h0
 unfold good at h
 simp only [Bool.and_eq_true,decide_eq_true_eq,List.all_eq_true,List.mem_range] at h
 have := h.2 (d - 1) (by omega)
 rwa [show d - 1 + 1 = d by omega] at this
theorem sums_mono (n : Nat) {a b : Nat} (h : a ≤ b) : sums n a ≤ sums n b := by
 induction b with
 | zero => rw [Nat.le_zero.1 h]; exact Nat.le_refl _
 | succ b ih =>
   rcases Nat.lt_or_ge a (b + 1) with h2 | h2
   · exact Nat.le_trans (ih (by omega)) (by simp [sums])
   · rw [show a = b + 1 by omega]; exact Nat.le_refl _
theorem sums_lt {n a b : Nat} (h0 : 1 ≤ n) (h1 : n ≤ 80) (h : a < b) (hb : b ≤ n) : sums n a < sums n b := by
 have h2 := sums_mono n (show a + 1 ≤ b from h)
 have h3 := (wt_pos h0 h1 (d := a + 1) (by omega) (by omega)).1
 simp only [sums] at h2
 omega
theorem sums_pos {n : Nat} (h0 : 1 ≤ n) (h1 : n ≤ 80) : 0 < sums n n := by
 have := sums_lt h0 h1 (a := 0) (b := n) (by omega) (Nat.le_refl _)
 simpa [sums] using this
def place (n x : Nat) : Nat := x * sums n n / 4294967296
def IsDeg (n x r : Nat) : Prop := 1 ≤ r ∧ (∀ t,1 ≤ t → t < r → sums n t ≤ place n x) ∧ (∀ t,r ≤ t → t ≤ n → place n x < sums n t) ∧ r ≤ n + 1
theorem place_lt {n x : Nat} (h0 : 1 ≤ n) (h1 : n ≤ 80) (hx : x < 4294967296) : place n x < sums n n := by
 unfold place
 have := sums_pos h0 h1
 rw [Nat.div_lt_iff_lt_mul (by omega),Nat.mul_comm]
 exact Nat.mul_lt_mul_of_pos_left hx this
theorem IsDeg.le {n x r : Nat} (h : IsDeg n x r) (h0 : 1 ≤ n) (h1 : n ≤ 80) (hx : x < 4294967296) : r ≤ n := by
 rcases Nat.lt_or_ge n r with k | k
 · have a := h.2.1 n h0 k
   have b := place_lt h0 h1 hx
   omega
 · exact k
theorem IsDeg.rises {n x y r s : Nat} (h : IsDeg n x r) (k : IsDeg n y s) (h0 : 1 ≤ n) (h1 : n ≤ 80) (hx : x < 4294967296) (hxy : x ≤ y) : r ≤ s := by
 rcases Nat.lt_or_ge s r with g | g
 · have hr := h.le h0 h1 hx
   have a := h.2.1 s k.1 g
   have b := k.2.2.1 s (Nat.le_refl _) (by omega)
   have c : place n x ≤ place n y := Nat.div_le_div_right (Nat.mul_le_mul_right _ hxy)
   omega
 · exact g
theorem IsDeg.same {n x r s : Nat} (h : IsDeg n x r) (k : IsDeg n x s) (h0 : 1 ≤ n) (h1 : n ≤ 80) (hx : x < 4294967296) : r = s :=
 Nat.le_antisymm (h.rises k h0 h1 hx (Nat.le_refl _)) (k.rises h h0 h1 hx (Nat.le_refl _))
theorem IsDeg.zero {n r : Nat} (h : IsDeg n 0 r) (h0 : 1 ≤ n) (h1 : n ≤ 80) : r = 1 := by
 have h2 := h.1
 rcases Nat.lt_or_ge 1 r with g | g
 · have a := h.2.1 1 (by omega) g
   have b := sums_lt h0 h1 (a := 0) (b := 1) (by omega) h0
   simp [place,sums] at a b
   omega
 · omega
theorem IsDeg.above {n x r d : Nat} (h : IsDeg n x r) (hd : d ≤ n) (hp : sums n d ≤ place n x) : d < r := by
 rcases Nat.lt_or_ge d r with g | g
 · exact g
 · have := h.2.2.1 d g hd; omega
theorem IsDeg.below {n x r d : Nat} (h : IsDeg n x r) (hd0 : 1 ≤ d) (hp : place n x < sums n d) : r ≤ d := by
 rcases Nat.lt_or_ge d r with g | g
 · have := h.2.1 d hd0 g; omega
 · exact g
end Go.Proofs.YtkkcpblfheplaaaGreatDoor.Sol
namespace Go.Proofs.YtkkcpblfheplaaaGreatDoor.Sol
open Go.RowKit
theorem hide {p : Prop} (h : p) : Hid p := h
theorem root_any (n : Nat) (hn : 1 ≤ n) (h63 : n ≤ 9223372036854775807) (w : World) : Calls Tryz.prog 268 #[.int .i64 n] w fun e w' => ∃ r : Nat,e = .returned (.int .i64 r) ∧ IsRoot n r ∧ r ≤ 4294967295 ∧ w = w' := by
 obtain ⟨h,hh⟩ : ∃ h : Nat,(if (4294967295 : Int) < (n : Int) then (4294967295 : Int) else (n : Int)) = (h : Int) := by
   split
   · exact ⟨4294967295,rfl⟩
   · exact ⟨n,rfl⟩
 have hb : Hid (1 ≤ h ∧ h ≤ 4294967295 ∧ n < (h + 1) * (h + 1) ∧ h ≤ n) := hide (by
   split at hh
   · have e : h = 4294967295 := by omega
     subst e
     omega
   · have e : h = n := by omega
     subst e
     refine ⟨hn,by omega,?_,Nat.le_refl _⟩
     have := Nat.mul_le_mul (show 1 ≤ h + 1 by omega) (Nat.le_refl (h + 1))
     omega)
 have hn' : (1 : Int) ≤ (n : Int) := by omega
 go_enter Tryz.func268,Tryz.ntmps268
 go_wp2_with fail
 have hb0 := hb.out
 go_loopw [3,4] (fun lv hv wr => ∃ lo hi : Nat,lv = .int .i64 (lo : Int) ∧ hv = .int .i64 (hi : Int) ∧ Hid (1 ≤ lo ∧ lo ≤ hi ∧ hi ≤ 4294967295 ∧ lo * lo ≤ n ∧ n < (hi + 1) * (hi + 1)) ∧ w = wr) (fun lv hv _ => (intOf hv).toNat - (intOf lv).toNat)
 case atStart => exact ⟨1,h,rfl,rfl,hide ⟨by omega,hb0.1,hb0.2.1,by omega,hb0.2.2.1⟩,rfl⟩
 case round =>
   obtain ⟨lo,hi,rfl,rfl,I,rfl⟩ := hrel
   clear hb0
   by_cases hlt : lo < hi
   · have hlt' : (lo : Int) < (hi : Int) := by omega
     have hhi : (hi : Int) ≤ 4294967295 := by have := I.out; omega
     obtain ⟨m,hm⟩ : ∃ m : Nat,m = hi - (hi - lo) / 2 := ⟨_,rfl⟩
     have hml : lo < m := by omega
     have hmh : m ≤ hi := by omega
     have hmm : (hi : Int) - ((hi : Int) - (lo : Int)) / 2 = (m : Int) := by omega
     have hm1 : 1 < m := by have := I.out; omega
     obtain ⟨q,hq⟩ : ∃ q : Nat,q = n / m := ⟨_,rfl⟩
     have hqq : (n : Int) / (m : Int) = (q : Int) := by rw [hq]; simp
     have hqi : m ≤ q ↔ m * m ≤ n := by rw [hq,Nat.le_div_iff_mul_le (by omega)]
     have hqn : (q : Int) ≤ 9223372036854775807 := by have := Nat.div_le_self n m; omega
     have Hqi := hide hqi
     have Hm := hide hm
     clear hm hq hqi
     by_cases hc : m ≤ q
     · have hc' : (m : Int) ≤ (q : Int) := by omega
       go_wp2_with fail
       go_roundw
       case rel => exact ⟨m,hi,rfl,rfl,hide ⟨by omega,hmh,by omega,Hqi.out.1 hc,I.out.2.2.2.2⟩,trivial⟩
       case measure => simp [intOf]; omega
     · have hc' : (q : Int) < (m : Int) := by omega
       have hmm1 : (m : Int) - 1 = ((m - 1 : Nat) : Int) := by omega
       go_wp2_with fail
       go_roundw
       case rel => exact ⟨lo,m - 1,rfl,rfl,hide ⟨I.out.1,by omega,by omega,I.out.2.2.2.1,by rw [show m - 1 + 1 = m by omega]; exact Nat.lt_of_not_le fun h => hc (Hqi.out.2 h)⟩,trivial⟩
       case measure => simp [intOf]; omega
   · have e : lo = hi := by have := I.out; omega
     subst e
     have J := I.out
     go_wp2_with fail
     go_ret
     exact ⟨lo,rfl,⟨J.1,J.2.2.2.1,J.2.2.2.2⟩,J.2.2.1,rfl⟩
end Go.Proofs.YtkkcpblfheplaaaGreatDoor.Sol
namespace Go.Proofs.YtkkcpblfheplaaaGreatDoor.Sol
open Go.RowKit
theorem rt_le {n : Nat} (h0 : 1 ≤ n) (h1 : n ≤ 80) : 1 ≤ rt n ∧ rt n ≤ 9 := by
 have := rt_is n (by omega) h0
 refine ⟨this.1,?_⟩
 rcases Nat.lt_or_ge 9 (rt n) with h | h
 · have := Nat.mul_le_mul (show 10 ≤ rt n from h) (show 10 ≤ rt n from h)
   have := (rt_is n (by omega) h0).2.1
   omega
 · exact h
theorem root_small (n : Nat) (h0 : 1 ≤ n) (h1 : n ≤ 80) (w : World) : Calls Tryz.prog 268 #[.int .i64 n] w fun e w' => e = .returned (.int .i64 (rt n : Nat)) ∧ w = w' :=
 (root_any n h0 (by omega) w).mono fun _ _ ⟨r,h1',h2,_,h4⟩ => ⟨by rw [h1',h2.same (rt_is n (by omega) h0)],h4⟩
theorem natdiv (a b q : Nat) (h : a / b = q) : (a : Int) / (b : Int) = (q : Int) := by rw [← h]; simp
theorem weight_any (g n d : Nat) (h0 : 1 ≤ n) (h1 : n ≤ 80) (hd0 : 1 ≤ d) (hd : d ≤ n) (w : World) (hc : w.cell? ⟨g,0,none⟩ = some (.int .i64 (n : Int))) :
   Calls Tryz.prog 251 #[.pointer (some ⟨g,0,none⟩),.int .i64 d] w fun e w' => e = .returned (.int .u32 (wt n d : Nat)) ∧ w = w' := by
 have hr := rt_le h0 h1
 have hwt := wt_pos h0 h1 hd0 hd
 have hroot := root_small n h0 h1
 have E : Hid (wt n d = plainW n d + (if d < n / rt n then 262144 * rt n / (d * n) else if d = n / rt n then 524288 * rt n / n else 0)) := hide rfl
 obtain ⟨W,hW⟩ : ∃ W,wt n d = W := ⟨_,rfl⟩
 rw [hW] at E hwt
 rw [hW]
 clear hW
 generalize rt n = r at *
 obtain ⟨top,ht⟩ : ∃ top,n / r = top := ⟨_,rfl⟩
 have i1 := natdiv _ _ _ ht
 rw [ht] at E
 have htn : top ≤ n := by rw [← ht]; exact Nat.div_le_self _ _
 clear ht
 obtain ⟨pn,hpn⟩ : ∃ pn,1048576 / n = pn := ⟨_,rfl⟩
 have i2 : (1048576 : Int) / (n : Int) = (pn : Int) := natdiv 1048576 n pn hpn
 have hpn2 : pn ≤ 1048576 := by rw [← hpn]; exact Nat.div_le_self _ _
 obtain ⟨dd,hdd⟩ : ∃ dd,d * (d - 1) = dd := ⟨_,rfl⟩
 have i3 : (d : Int) * ((d : Int) - 1) = (dd : Int) := by
   rw [← hdd,Int.natCast_mul,show (((d - 1 : Nat)) : Int) = (d : Int) - 1 by omega]
 have hdd2 : dd ≤ 6400 := by rw [← hdd]; exact Nat.mul_le_mul (show d ≤ 80 by omega) (show d - 1 ≤ 80 by omega)
 have hdd3 : 1 < d → 1 ≤ dd := fun h => by rw [← hdd]; exact Nat.mul_pos (by omega) (by omega)
 obtain ⟨pd,hpd⟩ : ∃ pd,1048576 / dd = pd := ⟨_,rfl⟩
 have i4 : (1048576 : Int) / (dd : Int) = (pd : Int) := natdiv 1048576 dd pd hpd
 have hpd2 : pd ≤ 1048576 := by rw [← hpd]; exact Nat.div_le_self _ _
 have P : Hid (plainW n d = if 1 < d then pd else pn) := hide (by unfold plainW; rw [hdd,hpd,hpn])
 clear hpn hpd hdd
 obtain ⟨sr,hsr⟩ : ∃ sr,262144 * r = sr := ⟨_,rfl⟩
 have i5 : (262144 : Int) * (r : Int) = (sr : Int) := by omega
 obtain ⟨dn,hdn⟩ : ∃ dn,d * n = dn := ⟨_,rfl⟩
 have i6 : (d : Int) * (n : Int) = (dn : Int) := by rw [← hdn]; simp
 have hdn2 : dn ≤ 6400 := by rw [← hdn]; exact Nat.mul_le_mul (show d ≤ 80 by omega) h1
 have hdn3 : 1 ≤ dn := by rw [← hdn]; exact Nat.mul_pos hd0 h0
 obtain ⟨e1,he1⟩ : ∃ e1,sr / dn = e1 := ⟨_,rfl⟩
 have i7 := natdiv _ _ _ he1
 have he12 : e1 ≤ sr := by rw [← he1]; exact Nat.div_le_self _ _
 obtain ⟨kr,hkr⟩ : ∃ kr,524288 * r = kr := ⟨_,rfl⟩
 have i8 : (524288 : Int) * (r : Int) = (kr : Int) := by omega
 obtain ⟨e2,he2⟩ : ∃ e2,kr / n = e2 := ⟨_,rfl⟩
 have i9 := natdiv _ _ _ he2
 have he22 : e2 ≤ kr := by rw [← he2]; exact Nat.div_le_self _ _
 rw [hsr,hdn,he1,hkr,he2] at E
 have hsr2 : sr ≤ 2359296 := by omega
 have hkr2 : kr ≤ 4718592 := by omega
 clear hsr hdn he1 hkr he2
 have j1 : (1 : Int) ≤ (n : Int) := by omega
 have j2 : (n : Int) ≤ 80 := by omega
 have j3 : (1 : Int) ≤ (r : Int) := by omega
 have j5 : (r : Int) ≤ 9 := by omega
 have j4 : (1 : Int) ≤ (dn : Int) := by omega
 have j6 : (1 : Int) ≤ (d : Int) := by omega
 have j7 : (d : Int) ≤ 80 := by omega
 by_cases h1d : 1 < d
 · have hP : Hid (plainW n d = pd) := hide (by rw [P.out,if_pos h1d])
   have j8 : (1 : Int) < (d : Int) := by omega
   have j9 : (1 : Int) ≤ (dd : Int) := by have := hdd3 h1d; omega
   rcases Nat.lt_trichotomy d top with hlt | heq | hgt
   · have k1 : (d : Int) < (top : Int) := by omega
     have F : W = pd + e1 := by rw [E.out,hP.out,if_pos hlt]
     have F2 : (pd : Int) + (e1 : Int) = (W : Int) := by omega
     clear F
     go_enter Tryz.func251,Tryz.ntmps251
     go_wp2_with (go_at_call 268; refine (hroot _).mono ?_; rintro e w1 ⟨rfl,rfl⟩)
     go_ret
     exact ⟨rfl,rfl⟩
   · have k1 : (d : Int) = (top : Int) := by omega
     have F : W = pd + e2 := by rw [E.out,hP.out,if_neg (by omega),if_pos heq]
     have F2 : (pd : Int) + (e2 : Int) = (W : Int) := by omega
     clear F
     subst heq
     clear k1
     go_enter Tryz.func251,Tryz.ntmps251
     go_wp2_with (go_at_call 268; refine (hroot _).mono ?_; rintro e w1 ⟨rfl,rfl⟩)
     go_ret
     exact ⟨rfl,rfl⟩
   · have k1 : (top : Int) < (d : Int) := by omega
     have k2 : ¬ (d : Int) < (top : Int) := by omega
     have k3 : ¬ (d : Int) = (top : Int) := by omega
     have F : W = pd := by rw [E.out,hP.out,if_neg (by omega),if_neg (by omega)]; rfl
     have F2 : (pd : Int) = (W : Int) := by omega
     clear F
     go_enter Tryz.func251,Tryz.ntmps251
     go_wp2_with (go_at_call 268; refine (hroot _).mono ?_; rintro e w1 ⟨rfl,rfl⟩)
     go_ret
     exact ⟨rfl,rfl⟩
 · have hP : Hid (plainW n d = pn) := hide (by rw [P.out,if_neg h1d])
   have j8 : ¬ (1 : Int) < (d : Int) := by omega
   rcases Nat.lt_trichotomy d top with hlt | heq | hgt
   · have k1 : (d : Int) < (top : Int) := by omega
     have F : W = pn + e1 := by rw [E.out,hP.out,if_pos hlt]
     have F2 : (pn : Int) + (e1 : Int) = (W : Int) := by omega
     clear F
     go_enter Tryz.func251,Tryz.ntmps251
     go_wp2_with (go_at_call 268; refine (hroot _).mono ?_; rintro e w1 ⟨rfl,rfl⟩)
     go_ret
     exact ⟨rfl,rfl⟩
   · have k1 : (d : Int) = (top : Int) := by omega
     have F : W = pn + e2 := by rw [E.out,hP.out,if_neg (by omega),if_pos heq]
     have F2 : (pn : Int) + (e2 : Int) = (W : Int) := by omega
     clear F
     subst heq
     clear k1
     go_enter Tryz.func251,Tryz.ntmps251
     go_wp2_with (go_at_call 268; refine (hroot _).mono ?_; rintro e w1 ⟨rfl,rfl⟩)
     go_ret
     exact ⟨rfl,rfl⟩
   · have k1 : (top : Int) < (d : Int) := by omega
     have k2 : ¬ (d : Int) < (top : Int) := by omega
     have k3 : ¬ (d : Int) = (top : Int) := by omega
     have F : W = pn := by rw [E.out,hP.out,if_neg (by omega),if_neg (by omega)]; rfl
     have F2 : (pn : Int) = (W : Int) := by omega
     clear F
     go_enter Tryz.func251,Tryz.ntmps251
     go_wp2_with (go_at_call 268; refine (hroot _).mono ?_; rintro e w1 ⟨rfl,rfl⟩)
     go_ret
     exact ⟨rfl,rfl⟩
end Go.Proofs.YtkkcpblfheplaaaGreatDoor.Sol
namespace Go.Proofs.YtkkcpblfheplaaaGreatDoor.Sol
open Go.RowKit
theorem new_some (n : Nat) (h0 : 1 ≤ n) (h1 : n ≤ 80) (w : World) : Calls Tryz.prog 150 #[.int .i64 n] w fun e w' => e = .returned (.pointer (some ⟨w.heap.size,0,none⟩)) ∧ w' = w.alloc (.cells #[.int .i64 (n : Int),.int .u32 0,.int .i32 0,.int .u32 0,.slice none 0 0] 260) := by
 have h0' : (1 : Int) ≤ (n : Int) := by omega
 have h1' : (n : Int) ≤ 80 := by omega
 go_enter Tryz.func150,Tryz.ntmps150
 go_wp2_with fail
 go_ret
 exact ⟨rfl,rfl⟩
end Go.Proofs.YtkkcpblfheplaaaGreatDoor.Sol
namespace Go.Proofs.YtkkcpblfheplaaaGreatDoor.Sol
open Go.RowKit
theorem below_next {w a b : World} (h : Below w.heap.size w a) (k : Below a.heap.size a b) : Below w.heap.size w b := h.trans (k.mono h.size)
theorem addAt (g j : Nat) : (⟨g,0,none⟩ : Addr).add j = ⟨g,j,none⟩ := by unfold Addr.add; split <;> simp_all
def vals (k : IntKind) (f : Nat → Nat) (n : Nat) : List Value := (List.range n).map fun i => Value.int k (f i : Nat)
theorem vals_succ (k : IntKind) (f : Nat → Nat) (n : Nat) : vals k f (n + 1) = vals k f n ++ [Value.int k (f n : Nat)] := by simp [vals,List.range_succ]
theorem vals_get (k : IntKind) (f : Nat → Nat) (n i : Nat) (h : i < n) : (vals k f n)[i]? = some (Value.int k (f i : Nat)) := by simp [vals,h]
def OwnF (k : IntKind) (e : TypeId) (w : World) (base : Nat) (A : Option Addr) (n c : Nat) (f : Nat → Nat) : Prop := w.ownsRow base e 1 (.slice A n c) n (vals k f n)
section
variable {k : IntKind} {e : TypeId} {w w' : World} {base n c : Nat} {A : Option Addr} {f : Nat → Nat}
theorem OwnF.nil (k : IntKind) (e : TypeId) (w : World) (base : Nat) (f : Nat → Nat) : OwnF k e w base none 0 0 f := World.ownsRow_nil w base e 1
theorem OwnF.cap (h : OwnF k e w base A n c f) : n ≤ c ∧ c ≤ maxLen := by
 rcases h.2 with ⟨hv,h0⟩ | ⟨g,cap,cur,hv,_,_,hnc,hcm,_⟩
 · simp only [Value.slice.injEq] at hv
   exact ⟨by omega,by rw [hv.2.2]; exact Nat.zero_le _⟩
 · simp only [Value.slice.injEq] at hv
   exact ⟨by omega,by rw [hv.2.2]; exact hcm⟩
theorem OwnF.at_ (h : OwnF k e w base A n c f) {i : Nat} (hi : i < n) : ∃ g,A = some ⟨g,0,none⟩ ∧ base ≤ g ∧ g < w.heap.size ∧ w.cell? ⟨g,i,none⟩ = some (.int k (f i : Nat)) := by
 obtain ⟨g,cap,hv,h1,h2⟩ := h.form (by omega)
 simp only [Value.slice.injEq,true_and] at hv
 obtain ⟨rfl,rfl⟩ := hv
 have := World.ownsRow.cells h (g := g) rfl i _ (vals_get k f n i hi)
 rw [addAt] at this
 exact ⟨g,rfl,h1,h2,this⟩
theorem OwnF.grown {row : Option Nat} (h : OwnF k e w base A n c f) (hb : w.grownBy w' row) (hg : ∀ g,A = some ⟨g,0,none⟩ → some g ≠ row) : OwnF k e w' base A n c f := by
 refine ⟨h.1,?_⟩
 rcases h.2 with h2 | ⟨g,cap,cur,hv,hbg,hgg,r⟩
 · exact .inl h2
 · have hv' := hv
   simp only [Value.slice.injEq] at hv
   exact .inr ⟨g,cap,cur,hv',hbg,(hb.block g (Array.getElem?_eq_some_iff.1 hgg).1 (hg g hv.1)).trans hgg,r⟩
theorem OwnF.below (h : OwnF k e w base A n c f) (hb : Below w.heap.size w w') : OwnF k e w' base A n c f := by
 refine ⟨h.1,?_⟩
 rcases h.2 with h2 | ⟨g,cap,cur,hv,hbg,hgg,r⟩
 · exact .inl h2
 · exact .inr ⟨g,cap,cur,hv,hbg,(hb.block g (Array.getElem?_eq_some_iff.1 hgg).1).trans hgg,r⟩
theorem OwnF.mono {base' : Nat} (h : OwnF k e w base A n c f) (hb : base' ≤ base) : OwnF k e w base' A n c f := by
 refine ⟨h.1,?_⟩
 rcases h.2 with h2 | ⟨g,cap,cur,hv,hbg,r⟩
 · exact .inl h2
 · exact .inr ⟨g,cap,cur,hv,by omega,r⟩
theorem OwnF.apart {g : Nat} {cs : Array Value} {t : TypeId} {fr : Nat × Nat} (h : OwnF k e w base A n c f) (hg : w.heap[g]? = some (.cells cs t fr)) (hne : e ≠ t) : A.map (·.block) ≠ some g := by
 rcases h.2 with ⟨hv,h0⟩ | ⟨g2,cap,cur,hv,_,hgg,_⟩
 · simp only [Value.slice.injEq] at hv
   rw [hv.1]
   intro h; cases h
 · simp only [Value.slice.injEq] at hv
   rw [hv.1]
   intro h
   simp at h
   subst h
   rw [hgg] at hg
   simp only [Option.some.injEq,Obj.cells.injEq] at hg
   exact hne hg.2.1
theorem OwnF.set {g : Nat} {cs : Array Value} {t : TypeId} {fr : Nat × Nat} (h : OwnF k e w base A n c f) (hg : w.heap[g]? = some (.cells cs t fr)) (hne : e ≠ t) (j : Nat) (u : Value) : OwnF k e (w.setCell ⟨g,j,none⟩ u) base A n c f :=
 ownsRow_setCell_other h (a := ⟨g,j,none⟩) (fun hE => h.apart hg hne (by cases A with
   | none => simp [Value.ownBlock] at hE
   | some a => simpa [Value.ownBlock] using hE)) u
end
def IsNum (P : Program) (k : IntKind) (e bytes : Nat) : Prop := (P.info? e).map (fun i => (i.zero,i.size,i.bytes)) = some (some (.int k 0),1,bytes)
theorem num_parts {P : Program} {k : IntKind} {e bytes : Nat} (h : IsNum P k e bytes) : ∃ i,P.info? e = some i ∧ i.zero = some (.int k 0) ∧ i.size = 1 ∧ i.bytes = bytes := by
 unfold IsNum at h
 cases hi : P.info? e with
 | none => rw [hi] at h; cases h
 | some i =>
   rw [hi] at h
   simp only [Option.map_some,Option.some.injEq,Prod.mk.injEq] at h
   exact ⟨i,rfl,h.1,h.2.1,h.2.2⟩
theorem wpList_appendF {P : Program} (w : World) {ops : Array Oper} {rest : List Oper} {o : Oper} {a : Act} {Q : Exit → Act → World → Prop} (hgd : o.guard = none) (s x : Operand) (t : TypeId)
   (hop : o.op = .call { callee := .builtin .append,args := #[s,x],argTypes := #[t,t] })
   (base : Nat) (k : IntKind) (e bytes : Nat) (ht : P.underlying t = some (.slice e)) (hi : IsNum P k e bytes) (hby : bytes ≤ 8)
   (A : Option Addr) (n c : Nat) (f : Nat → Nat) (hs : a.eval s = .slice A n c) (ho : OwnF k e w base A n c f)
   (X : Addr) (d : Nat) (v : Nat) (hv : f n = v) (hx : a.eval x = .slice (some X) 1 d) (hc : w.cell? X = some (.int k (v : Nat)))
   (hsz : n ≤ 1000000) (hbase : base ≤ w.heap.size)
   (h : ∀ A' c' w',OwnF k e w' base A' (n + 1) c' f → Below base w w' → w.grownBy w' (A.map (·.block)) → wpList P ops Q rest (a.put o.dst (.slice A' (n + 1) c')) w') : wpList P ops Q (o :: rest) a w := by
 refine wpList_plain hgd fun K hK => ?_
 obtain ⟨i,hi,hz0,hz1,hz2⟩ := num_parts hi
 subst hv
 obtain ⟨v',w',hrun,k1,k2,_,k4⟩ := run_append_own_at (P := P) w base t o.type e i _ 1 bytes ht hi hz0 hz1 hz2 rfl (by omega) _ n _ ho X 1 d [.int k (f n : Nat)] rfl
   (fun j u hj => by
     match j,hj with
     | 0,hj => simp at hj; subst hj; exact hc)
   (by simp [Value.oneCell']) (by simp only [maxLen]; omega) (by have := Nat.mul_le_mul (show n + 1 ≤ 1000001 by omega) hby; omega) hbase
 have hown := k1
 obtain ⟨g,cap,rfl,_,_⟩ := k1.form (by omega)
 have eb : Value.ownBlock (.slice A n c) = A.map (·.block) := by cases A <;> rfl
 rw [eb] at k2 k4
 unfold Oper.wp execOp
 simp only [hop,resolve,invoke,builtin,Sem.run_bind,Sem.run_pure,Result.andThen_ok,List.map_toArray,List.map_cons,List.map_nil,hs,hx,hrun]
 refine hK _ _ (h _ cap w' (by unfold OwnF; rw [vals_succ]; exact hown) ((Below.refl _ _).grown k2 hbase (fun q hq => ?_)) k2)
 exact (World.ownsRow.lt ho q (by rw [eb]; exact hq)).1
def tabCells (n dn st : Int) (v : Value) : Array Value := #[.int .i64 n,.int .u32 dn,.int .i32 st,.int .u32 0,v]
def Tab (w : World) (g : Nat) (n dn st : Int) (v : Value) : Prop := w.heap[g]? = some (.cells (tabCells n dn st v) 260 (0,0))
section
variable {w w' : World} {g : Nat} {n dn st : Int} {v : Value}
theorem Tab.lt (h : Tab w g n dn st v) : g < w.heap.size := lt_of_block h
theorem Tab.cells (h : Tab w g n dn st v) : w.cell? ⟨g,0,none⟩ = some (.int .i64 n) ∧ w.cell? ⟨g,1,none⟩ = some (.int .u32 dn) ∧ w.cell? ⟨g,2,none⟩ = some (.int .i32 st) ∧ w.cell? ⟨g,4,none⟩ = some v :=
 ⟨by rw [cell_of_row w g 0 _ _ _ h]; rfl,by rw [cell_of_row w g 1 _ _ _ h]; rfl,by rw [cell_of_row w g 2 _ _ _ h]; rfl,by rw [cell_of_row w g 4 _ _ _ h]; rfl⟩
theorem Tab.free (h : Tab w g n dn st v) (j : Nat) : w.frozen? ⟨g,j,none⟩ = false := by
 unfold Tab at h
 simp [World.frozen?,h]
theorem Tab.below (h : Tab w g n dn st v) (hb : Below w.heap.size w w') : Tab w' g n dn st v := (hb.block g h.lt).trans h
theorem Tab.grown {row : Option Nat} (h : Tab w g n dn st v) (hb : w.grownBy w' row) (hr : row ≠ some g) : Tab w' g n dn st v := (hb.block g h.lt (fun e => hr e.symm)).trans h
theorem Tab.new (w : World) (n : Int) : Tab (w.alloc (.cells (tabCells n 0 0 (.slice none 0 0)) 260)) w.heap.size n 0 0 (.slice none 0 0) := heap_alloc_new w _
theorem tab_set (w : World) (g j : Nat) (u : Value) (cs : Array Value) (h : w.heap[g]? = some (.cells cs 260 (0,0))) : (w.setCell ⟨g,j,none⟩ u).heap[g]? = some (.cells (cs.setIfInBounds j u) 260 (0,0)) := by
 have hlt := lt_of_block h
 have h' : w.heap[g] = .cells cs 260 (0,0) := by simpa [Array.getElem?_eq_getElem hlt] using h
 show (w.heap.modify g _)[g]? = _
 rw [Array.getElem?_eq_getElem (by simpa using hlt),Array.getElem_modify_self,h']
 rfl
theorem Tab.set1 (h : Tab w g n dn st v) (x : Int) : Tab (w.setCell ⟨g,1,none⟩ (.int .u32 x)) g n x st v := tab_set w g 1 _ _ h
theorem Tab.set2 (h : Tab w g n dn st v) (x : Int) : Tab (w.setCell ⟨g,2,none⟩ (.int .i32 x)) g n dn x v := tab_set w g 2 _ _ h
theorem Tab.set4 (h : Tab w g n dn st v) (u : Value) : Tab (w.setCell ⟨g,4,none⟩ u) g n dn st u := tab_set w g 4 _ _ h
end
theorem isU32 : IsNum Tryz.prog .u32 30 4 := by unfold IsNum; kernel_rfl
theorem isU64 : IsNum Tryz.prog .u64 36 8 := by unfold IsNum; kernel_rfl
end Go.Proofs.YtkkcpblfheplaaaGreatDoor.Sol
namespace Go.Proofs.YtkkcpblfheplaaaGreatDoor.Sol
open Go.RowKit
def wtf (n i : Nat) : Nat := wt n (i + 1)
theorem weights_any (g n : Nat) (dn st : Int) (v : Value) (h0 : 1 ≤ n) (h1 : n ≤ 80) (w : World) (ht : Tab w g n dn st v) :
   Calls Tryz.prog 228 #[.pointer (some ⟨g,0,none⟩)] w fun e w' => ∃ A c,e = .returned (.slice A n c) ∧ OwnF .u32 30 w' w.heap.size A n c (wtf n) ∧ Below w.heap.size w w' := by
 have hc0 := ht.cells.1
 go_enter Tryz.func228,Tryz.ntmps228
 go_wp2_with fail
 go_loopw [3,4] (fun v3 v4 wr => ∃ k A c,k ≤ n ∧ v4 = .int .i64 ((k : Int) + 1) ∧ v3 = .slice A k c ∧ OwnF .u32 30 wr w.heap.size A k c (wtf n) ∧ Below w.heap.size w wr) (fun _ v4 _ => n + 1 - (intOf v4).toNat)
 case atStart => exact ⟨0,none,0,Nat.zero_le _,rfl,rfl,OwnF.nil _ _ _ _ _,Below.refl _ _⟩
 case round =>
   obtain ⟨k,A,c,hk,rfl,rfl,ho,hb⟩ := hrel
   have htr := ht.below hb
   have hc := htr.cells.1
   clear hc0
   by_cases hlt : k < n
   · have hlt' : (k : Int) + 1 ≤ (n : Int) := by omega
     have hn80 : (n : Int) ≤ 80 := by omega
     obtain ⟨W,hW⟩ : ∃ W,wtf n k = W := ⟨_,rfl⟩
     have hwt := (wt_pos h0 h1 (d := k + 1) (by omega) hlt).2
     have hwv := weight_any g n (k + 1) h0 h1 (by omega) hlt wr hc
     rw [show wt n (k + 1) = W from hW] at hwt hwv
     rw [show ((k + 1 : Nat) : Int) = (k : Int) + 1 by omega] at hwv
     have HW := hide hW
     clear hW
     go_wp2_with (first
       | (go_at_call 251; refine hwv.mono ?_; rintro e w1 ⟨rfl,rfl⟩)
       | (at_builtin
          refine wpList_appendF _ rfl _ _ _ rfl w.heap.size .u32 30 4 Tryz.underlying50 isU32 (by omega) A k c (wtf n) rfl (ho.below ((Below.refl _ _).alloc (Nat.le_refl _) _)) ⟨wr.heap.size,0,none⟩ 1 W HW.out rfl (by simp [World.cell?_alloc_new]) (by omega) (by have := hb.size; simp; omega) ?_
          intro A3 c3 w3 ho3 hb3 _))
     go_roundw
     case rel => exact ⟨k + 1,A3,c3,by omega,by go_num,rfl,ho3,(hb.alloc hb.size _).trans hb3⟩
     case measure => simp [intOf]; omega
   · obtain rfl : k = n := by omega
     have hlt' : (k : Int) < (k : Int) + 1 := by omega
     go_wp2_with fail
     go_ret
     exact ⟨A,c,rfl,ho,hb⟩
end Go.Proofs.YtkkcpblfheplaaaGreatDoor.Sol
namespace Go.Proofs.YtkkcpblfheplaaaGreatDoor.Sol
open Go.RowKit
def sumf (n i : Nat) : Nat := sums n (i + 1)
theorem rows_apart {k k' : IntKind} {e e' : TypeId} {w : World} {base base' n c n' c' : Nat} {A A' : Option Addr} {f f' : Nat → Nat} (h : OwnF k e w base A n c f) (h' : OwnF k' e' w base' A' n' c' f') (hne : e ≠ e') :
   ∀ g,A = some ⟨g,0,none⟩ → some g ≠ A'.map (·.block) := by
 intro g hA hg
 subst hA
 rcases h.2 with ⟨hv,_⟩ | ⟨g2,cap,cur,hv,_,hgg,_⟩
 · simp at hv
 · simp only [Value.slice.injEq,Option.some.injEq,Addr.mk.injEq,and_true] at hv
   have := h'.apart hgg (Ne.symm hne)
   rw [← hv.1] at this
   exact this hg.symm
def But (g : Nat) (w w' : World) : Prop := w.grownBy w' (some g)
theorem But.refl (g : Nat) (w : World) : But g w w := ⟨rfl,rfl,rfl,Nat.le_refl _,fun _ _ _ => rfl⟩
theorem But.trans {g : Nat} {w a b : World} (h : But g w a) (k : But g a b) : But g w b :=
 ⟨k.os.trans h.os,k.tape.trans h.tape,k.output.trans h.output,Nat.le_trans h.size k.size,fun i hi hne => (k.block i (Nat.lt_of_lt_of_le hi h.size) hne).trans (h.block i hi hne)⟩
theorem But.next {g : Nat} {w a b : World} (h : But g w a) (k : Below w.heap.size a b) : But g w b :=
 ⟨k.os.trans h.os,k.tape.trans h.tape,k.output.trans h.output,Nat.le_trans h.size k.size,fun i hi hne => (k.block i hi).trans (h.block i hi hne)⟩
theorem But.set {g : Nat} {w a : World} (h : But g w a) (j : Nat) (u : Value) : But g w (a.setCell ⟨g,j,none⟩ u) :=
 h.trans ⟨rfl,rfl,rfl,by simp [World.setCell],fun i _ hne => Below.heap_setCell _ _ _ _ (fun e => hne (by rw [e]))⟩
theorem But.below {g base : Nat} {w w' : World} (h : But g w w') (hb : base ≤ g) (hw : base ≤ w.heap.size) : Below base w w' :=
 ⟨h.os,h.tape,h.output,h.size,fun k hk => h.block k (by omega) (fun e => by cases e; omega)⟩
theorem But.cell {g : Nat} {w w' : World} (h : But g w w') {a : Addr} {v : Value} (hc : w.cell? a = some v) (hne : a.block ≠ g) : w'.cell? a = some v :=
 World.grownBy.cell h hc (fun e => hne (by cases e; rfl))
theorem fill_any (g n : Nat) (dn st : Int) (h0 : 1 ≤ n) (h1 : n ≤ 80) (w : World) (ht : Tab w g n dn st (.slice none 0 0)) :
   Calls Tryz.prog 199 #[.pointer (some ⟨g,0,none⟩)] w fun e w' => e = .returned (.tuple #[]) ∧ ∃ A c,Tab w' g n dn st (.slice A n c) ∧ OwnF .u64 36 w' w.heap.size A n c (sumf n) ∧ But g w w' := by
 go_enter Tryz.func199,Tryz.ntmps199
 go_wp2_with fail
 refine (weights_any g n dn st _ h0 h1 w ht).mono ?_
 rintro e w1 ⟨A1,c1,rfl,ho1,hb1⟩
 have ht1 := ht.below hb1
 have hb1' : But g w w1 := (But.refl g w).next hb1
 go_wp2_with fail
 go_loopw [2,8] (fun v2 v8 wr => ∃ k A c,k ≤ n ∧ v8 = .int .i64 (k : Int) ∧ v2 = .int .u64 (sums n k : Nat) ∧ Tab wr g n dn st (.slice A k c) ∧ OwnF .u64 36 wr w.heap.size A k c (sumf n) ∧ OwnF .u32 30 wr w.heap.size A1 n c1 (wtf n) ∧ But g w wr) (fun _ v8 _ => n - (intOf v8).toNat)
 case atStart => exact ⟨0,none,0,Nat.zero_le _,rfl,rfl,ht1,OwnF.nil _ _ _ _ _,ho1,hb1'⟩
 case round =>
   obtain ⟨k,A,c,hk,rfl,rfl,htr,ho,how,hb⟩ := hrel
   by_cases hlt : k < n
   · have hlt' : (k : Int) < (n : Int) := by omega
     have hn80 : (n : Int) ≤ 80 := by omega
     have hc4 := htr.cells.2.2.2
     obtain ⟨g1,rfl,hg1,hg1w,hcw⟩ := how.at_ hlt
     have hS : sumf n k = sums n k + wtf n k := rfl
     have hS2 : sumf n k ≤ 4294967296 := Nat.le_trans (sums_mono n (show k + 1 ≤ n by omega)) (sums_le h0 h1)
     obtain ⟨S,hSS⟩ : ∃ S,sumf n k = S := ⟨_,rfl⟩
     obtain ⟨S0,hS0⟩ : ∃ S0,sums n k = S0 := ⟨_,rfl⟩
     obtain ⟨W,hW⟩ : ∃ W,wtf n k = W := ⟨_,rfl⟩
     have hsum : sums n (k + 1) = S := hSS
     rw [hW] at hcw
     rw [hSS] at hS2 hS
     rw [hS0,hW] at hS
     have hsw : (S0 : Int) + (W : Int) = (S : Int) := by omega
     have HSS := hide hSS
     have Hsum := hide hsum
     rw [hS0]
     clear hSS hS0 hW hsum hS
     have hap := ho.apart htr (by decide)
     have hap2 := rows_apart how ho (by decide) g1 rfl
     have hbs := hb.size
     have hal : Below wr.heap.size wr (wr.alloc (.cells #[.int .u64 (S : Int)] 36)) := (Below.refl _ _).alloc (Nat.le_refl _) _
     have hta := htr.below hal
     have hba := hb.next (hal.mono hbs)
     have hwa := how.below hal
     go_wp2_with (first
       | (at_builtin
          refine wpList_appendF _ rfl _ _ _ rfl w.heap.size .u64 36 8 Tryz.underlying258 isU64 (by omega) A k c (sumf n) rfl (ho.below hal) ⟨wr.heap.size,0,none⟩ 1 S HSS.out rfl (by simp [World.cell?_alloc_new]) (by omega) (by simp; omega) ?_
          intro A3 c3 w3 ho3 hb3 hg3
          have ht3 := hta.grown hg3 hap
          have hw3 := hwa.grown hg3 (fun g hg => by simp at hg; subst hg; exact hap2)
          have hf3 := ht3.free 4
          have hc34 := ht3.cells.2.2.2))
     go_roundw
     case rel => exact ⟨k + 1,A3,c3,by omega,by go_num,by rw [Hsum.out],ht3.set4 _,ho3.set ht3 (by decide) _ _,hw3.set ht3 (by decide) _ _,(hba.next hb3).set 4 _⟩
     case measure => simp [intOf]; omega
   · obtain rfl : k = n := by omega
     go_wp2_with fail
     go_end0
     exact ⟨rfl,A,c,htr,ho,hb⟩
end Go.Proofs.YtkkcpblfheplaaaGreatDoor.Sol
namespace Go.Proofs.YtkkcpblfheplaaaGreatDoor.Sol
open Go.RowKit
theorem disable (w : World) : (callFunc 254 #[]).run Tryz.prog w = .ok (.value (.tuple #[])) w := run_call_mark0 Tryz.func254 (by kernel_rfl) (by kernel_rfl) (by kernel_rfl) .disable (by kernel_rfl) w
theorem enable (w : World) : (callFunc 256 #[]).run Tryz.prog w = .ok (.value (.tuple #[])) w := run_call_mark0 Tryz.func256 (by kernel_rfl) (by kernel_rfl) (by kernel_rfl) .enable (by kernel_rfl) w
theorem acquire (a : Addr) (w : World) : (callFunc 257 #[.pointer (some a)]).run Tryz.prog w = .ok (.value (.tuple #[])) w := run_call_marked Tryz.func257 (by kernel_rfl) (by kernel_rfl) (by kernel_rfl) .acquire (by kernel_rfl) a w
theorem releaseMerge (a : Addr) (w : World) : (callFunc 259 #[.pointer (some a)]).run Tryz.prog w = .ok (.value (.tuple #[])) w := run_call_marked Tryz.func259 (by kernel_rfl) (by kernel_rfl) (by kernel_rfl) .releaseMerge (by kernel_rfl) a w
theorem store_deferred (a : Addr) (x : Value) (u : FrameMode) (w : World) (hc : w.cell? a = some x) (hz : w.frozen? a = false) :
   CallsD Tryz.prog 223 #[.pointer (some a),.bool true] u w fun e u' w' => u' = u ∧ (e = .returned (.tuple #[]) ∧ w' = w.drew.setCell a (.int .u32 1)) := by
 have hc' : w.drew.cell? a = some x := by go_simp
 have hz' : w.drew.frozen? a = false := by go_simp
 have hst := run_call_store (P := Tryz.prog) Tryz.func225 (by kernel_rfl) (by kernel_rfl) (by kernel_rfl) (by kernel_rfl) (k := .u32) (y := 1) hc' hz'
 go_enter_d Tryz.func223,Tryz.ntmps223
 go_wp2
 go_region_calls
 all_goals (go_end0; exact ⟨rfl,rfl⟩)
theorem unlock_deferred (a : Addr) (u : FrameMode) (w : World) (hc : w.cell? a = some (.int .i32 1)) (hz : w.frozen? a = false) :
   CallsD Tryz.prog 222 #[.pointer (some a)] u w fun e u' w' => u' = u ∧ (e = .returned (.tuple #[]) ∧ w' = w.setCell a (.int .i32 0)) := by
 have hd := disable
 have he := enable
 have hr := releaseMerge
 have hadd := run_call_add (P := Tryz.prog) Tryz.func260 (by kernel_rfl) (by kernel_rfl) (by kernel_rfl) .i32 (by kernel_rfl) (y := -1) (s := 0) hc hz (by simp [go_sem]; rfl)
 have hcv := run_convert_to_unsafe (P := Tryz.prog) (src := 312) (dst := 73) Tryz.underlying312 Tryz.underlying73 (by kernel_rfl) hc
 go_enter_d Tryz.func222,Tryz.ntmps222
 go_wp2
 go_end0
 go_wp2
 go_end0
 exact ⟨rfl,rfl⟩
theorem lock_free (a : Addr) (w : World) (hc : w.cell? a = some (.int .i32 0)) (hz : w.frozen? a = false) :
   Calls Tryz.prog 221 #[.pointer (some a)] w fun e w' => e = .returned (.tuple #[]) ∧ w' = w.setCell a (.int .i32 1) := by
 have hd := disable
 have he := enable
 have ha := acquire
 have hcas := run_call_cas_hit (P := Tryz.prog) Tryz.func255 (by kernel_rfl) (by kernel_rfl) (by kernel_rfl) .i32 (by kernel_rfl) (y := 1) hc hz
 have hc' : (w.setCell a (.int .i32 1)).cell? a = some (.int .i32 1) := World.cell?_setCell_same w a _ hc
 have hcv := run_convert_to_unsafe (P := Tryz.prog) (src := 312) (dst := 73) Tryz.underlying312 Tryz.underlying73 (by kernel_rfl) hc'
 go_enter Tryz.func221,Tryz.ntmps221
 go_wp2
 first | go_end0 | (simp only [Exit.inBlock,Exit.then]; refine bodyPost_ret (results_none rfl _ _ _) rfl ?_) | refine bodyPost_ret (results_none rfl _ _ _) rfl ?_
 go_wp2
 go_end0
 exact ⟨rfl,rfl⟩
end Go.Proofs.YtkkcpblfheplaaaGreatDoor.Sol
namespace Go.Proofs.YtkkcpblfheplaaaGreatDoor.Sol
open Go.RowKit
theorem But.drew {g : Nat} {w a : World} (h : But g w a) : But g w a.drew := ⟨h.os,h.tape,h.output,h.size,h.block⟩
def Made (w : World) (g n base : Nat) : Prop := ∃ A c,Tab w g n 1 0 (.slice A n c) ∧ OwnF .u64 36 w base A n c (sumf n)
theorem slow_any (g n base : Nat) (h0 : 1 ≤ n) (h1 : n ≤ 80) (w : World) (hbg : base ≤ g) (ht : Tab w g n 0 0 (.slice none 0 0)) :
   Calls Tryz.prog 188 #[.pointer (some ⟨g,1,none⟩),.func (.func 199) #[.pointer (some ⟨g,0,none⟩)] #[]] w fun e w' => e = .returned (.tuple #[]) ∧ Made w' g n base ∧ But g w w' := by
 have c2 := ht.cells.2.2.1
 have f2 := ht.free 2
 have ht1 := ht.set2 1
 have hl := run_call_load (P := Tryz.prog) Tryz.func220 (by kernel_rfl) (by kernel_rfl) (by kernel_rfl) .u32 (by kernel_rfl) (w := w.setCell ⟨g,2,none⟩ (.int .i32 1)) (a := ⟨g,1,none⟩) (x := 0) ht1.cells.2.1
 have hnot : ∀ (x : Bool) (w : World),(Op.unary .not (.bool x)).run Tryz.prog w = .ok (.bool (!x)) w := fun _ _ => rfl
 have hb1 : But g w (w.setCell ⟨g,2,none⟩ (.int .i32 1)) := (But.refl g w).set 2 _
 have hgw := ht.lt
 have hsz : (w.setCell ⟨g,2,none⟩ (.int .i32 1)).heap.size = w.heap.size := by simp [World.setCell]
 go_enter_defers Tryz.func188,Tryz.ntmps188
 go_wp2_with (go_at_call 221; refine (lock_free ⟨g,2,none⟩ _ c2 f2).mono ?_; rintro e w' ⟨rfl,rfl⟩)
 go_wp2_with (first
   | (go_at_call 187; go_in)
   | (go_at_call 199; refine (fill_any g n 0 1 h0 h1 _ ht1).mono ?_; rintro e w2 ⟨rfl,A,c,ht2,ho2,hb2⟩))
 have ht2' : Tab w2.drew g n 0 1 (.slice A n c) := ht2
 have ht3 := ht2'.set1 1
 have ho3 : OwnF .u64 36 w2.drew base A n c (sumf n) := ho2.mono (by omega)
 have hb3 : But g w w2.drew := (hb1.trans hb2).drew
 refine leaves_cons (f := 223) (args := #[.pointer (some ⟨g,1,none⟩),.bool true]) (by simp) (by simp [go_sem]) ?_
 refine (store_deferred ⟨g,1,none⟩ (.int .u32 0) .returning _ ht2.cells.2.1 (ht2.free 1)).mono ?_
 rintro e u' w'' ⟨rfl,rfl,rfl⟩
 refine leaves_cons (f := 222) (args := #[.pointer (some ⟨g,2,none⟩)]) (by simp [settle]) (by simp [go_sem]) ?_
 refine (unlock_deferred ⟨g,2,none⟩ _ _ ht3.cells.2.2.1 (ht3.free 2)).mono ?_
 rintro e u' w'' ⟨rfl,rfl,rfl⟩
 simp [Leaves,settle,results,Tryz.results188]
 exact ⟨⟨A,c,ht3.set2 0,(ho3.set ht2' (by decide) 1 _).set ht3 (by decide) 2 _⟩,(hb3.set 1 _).set 2 _⟩
theorem do_first (g n base : Nat) (h0 : 1 ≤ n) (h1 : n ≤ 80) (w : World) (hbg : base ≤ g) (ht : Tab w g n 0 0 (.slice none 0 0)) :
   Calls Tryz.prog 142 #[.pointer (some ⟨g,1,none⟩),.func (.func 199) #[.pointer (some ⟨g,0,none⟩)] #[]] w fun e w' => e = .returned (.tuple #[]) ∧ Made w' g n base ∧ But g w w' := by
 have hl := run_call_load (P := Tryz.prog) Tryz.func220 (by kernel_rfl) (by kernel_rfl) (by kernel_rfl) .u32 (by kernel_rfl) ht.cells.2.1
 have hnot : ∀ (x : Bool) (w : World),(Op.unary .not (.bool x)).run Tryz.prog w = .ok (.bool (!x)) w := fun _ _ => rfl
 go_enter Tryz.func142,Tryz.ntmps142
 go_wp2_with (first | (go_at_call 188; refine (slow_any g n base h0 h1 _ hbg ht).mono ?_; rintro e w' ⟨rfl,hm,hb⟩) | (go_at_call 187; go_in))
 go_end0
 exact ⟨rfl,hm,hb⟩
theorem do_done (a : Addr) (fv : Value) (w : World) (hc : w.cell? a = some (.int .u32 1)) :
   Calls Tryz.prog 142 #[.pointer (some a),fv] w fun e w' => e = .returned (.tuple #[]) ∧ w' = w := by
 have hl := run_call_load (P := Tryz.prog) Tryz.func220 (by kernel_rfl) (by kernel_rfl) (by kernel_rfl) .u32 (by kernel_rfl) hc
 have hnot : ∀ (x : Bool) (w : World),(Op.unary .not (.bool x)).run Tryz.prog w = .ok (.bool (!x)) w := fun _ _ => rfl
 go_enter Tryz.func142,Tryz.ntmps142
 go_wp2
 go_end0
 exact ⟨rfl,rfl⟩
def Stands (w : World) (g n base : Nat) : Prop := base ≤ g ∧ (Tab w g n 0 0 (.slice none 0 0) ∨ Made w g n base)
theorem Made.below {w w' : World} {g n base : Nat} (h : Made w g n base) (hb : Below w.heap.size w w') : Made w' g n base := by
 obtain ⟨A,c,ht,ho⟩ := h
 exact ⟨A,c,ht.below hb,ho.below hb⟩
theorem Stands.below {w w' : World} {g n base : Nat} (h : Stands w g n base) (hb : Below w.heap.size w w') : Stands w' g n base :=
 ⟨h.1,h.2.imp (fun h => h.below hb) fun h => h.below hb⟩
theorem Stands.tab {w : World} {g n base : Nat} (h : Stands w g n base) : ∃ dn v,Tab w g n dn 0 v := by
 rcases h.2 with h | ⟨A,c,h,_⟩
 · exact ⟨_,_,h⟩
 · exact ⟨_,_,h⟩
theorem do_any (g n base : Nat) (h0 : 1 ≤ n) (h1 : n ≤ 80) (w : World) (h : Stands w g n base) :
   Calls Tryz.prog 142 #[.pointer (some ⟨g,1,none⟩),.func (.func 199) #[.pointer (some ⟨g,0,none⟩)] #[]] w fun e w' => e = .returned (.tuple #[]) ∧ Made w' g n base ∧ But g w w' := by
 rcases h.2 with ht | hm
 · exact do_first g n base h0 h1 w h.1 ht
 · have hm' := hm
   obtain ⟨A,c,ht,_⟩ := hm'
   exact (do_done ⟨g,1,none⟩ _ w ht.cells.2.1).mono fun e w' ⟨h1,h2⟩ => ⟨h1,by rw [h2]; exact hm,by rw [h2]; exact But.refl _ _⟩
end Go.Proofs.YtkkcpblfheplaaaGreatDoor.Sol
namespace Go.Proofs.YtkkcpblfheplaaaGreatDoor.Sol
open Go.RowKit
structure Ask (w : World) (g n base bt ba : Nat) (P : Nat) : Prop where
 made : Made w g n base
 t : w.cell? ⟨bt,0,none⟩ = some (.pointer (some ⟨g,0,none⟩))
 p : w.cell? ⟨ba,0,none⟩ = some (.int .u64 (P : Nat))
theorem Ask.below {w w' : World} {g n base bt ba P : Nat} (h : Ask w g n base bt ba P) (hb : Below w.heap.size w w') : Ask w' g n base bt ba P :=
 ⟨h.made.below hb,(hb.cell (World.block_lt_of_cell? w _ h.t)).trans h.t,(hb.cell (World.block_lt_of_cell? w _ h.p)).trans h.p⟩
theorem closure_any (g n base bt ba P i : Nat) (hi : i < n) (w : World) (h : Ask w g n base bt ba P) :
   Calls Tryz.prog 201 #[.int .i64 i,.pointer (some ⟨bt,0,none⟩),.pointer (some ⟨ba,0,none⟩)] w fun e w' => e = .returned (.bool (decide (P < sumf n i))) ∧ Below w.heap.size w w' := by
 obtain ⟨⟨A,c,ht,ho⟩,h1,h2⟩ := h
 have h4 := ht.cells.2.2.2
 obtain ⟨g1,rfl,_,_,hc⟩ := ho.at_ hi
 have hi' : (i : Int) < (n : Int) := by omega
 have e : decide ((P : Int) < ((sumf n i : Nat) : Int)) = decide (P < sumf n i) := by simp
 have E := hide e
 clear e
 generalize sumf n i = S at *
 go_enter Tryz.func201,Tryz.ntmps201
 go_wp2_with fail
 go_quiet (fail)
 go_wp2_with fail
 go_ret
 exact ⟨by rw [← E.out]; rfl,below_drewN (Below.refl _ _) _⟩
theorem sumf_mono (n : Nat) {a b : Nat} (h : a ≤ b) : sumf n a ≤ sumf n b := sums_mono n (by omega)
theorem search_any (g n base bt ba P : Nat) (h1 : n ≤ 80) (w : World) (h : Ask w g n base bt ba P) :
   Calls Tryz.prog 200 #[.int .i64 n,.func (.func 201) #[] #[.pointer (some ⟨bt,0,none⟩),.pointer (some ⟨ba,0,none⟩)]] w fun e w' =>
     ∃ j : Nat,e = .returned (.int .i64 j) ∧ j ≤ n ∧ (∀ t,t < j → sumf n t ≤ P) ∧ (∀ t,j ≤ t → t < n → P < sumf n t) ∧ Below w.heap.size w w' := by
 have hn80 : (n : Int) ≤ 80 := by omega
 have hnot : ∀ (x : Bool) (w : World),(Op.unary .not (.bool x)).run Tryz.prog w = .ok (.bool (!x)) w := fun _ _ => rfl
 go_enter Tryz.func200,Tryz.ntmps200
 go_wp2_with fail
 go_loopw [5,6] (fun v5 v6 wr => ∃ lo hi : Nat,v5 = .int .i64 (lo : Int) ∧ v6 = .int .i64 (hi : Int) ∧ lo ≤ hi ∧ hi ≤ n ∧ Hid ((∀ t,t < lo → sumf n t ≤ P) ∧ (∀ t,hi ≤ t → t < n → P < sumf n t)) ∧ Below w.heap.size w wr) (fun v5 v6 _ => (intOf v6).toNat - (intOf v5).toNat)
 case atStart => exact ⟨0,n,rfl,rfl,Nat.zero_le _,Nat.le_refl _,hide ⟨fun t ht => absurd ht (Nat.not_lt_zero _),fun t h1 h2 => by omega⟩,Below.refl _ _⟩
 case round =>
   obtain ⟨lo,hi,rfl,rfl,hlh,hin,I,hb⟩ := hrel
   by_cases hlt : lo < hi
   · have hlt' : (lo : Int) < (hi : Int) := by omega
     have hhi : (hi : Int) ≤ 80 := by omega
     obtain ⟨m,hm⟩ : ∃ m,(lo + hi) / 2 = m := ⟨_,rfl⟩
     have hm1 : lo ≤ m := by omega
     have hm2 : m < hi := by omega
     have hmm : ((lo : Int) + (hi : Int)) / 2 = (m : Int) := by omega
     have hcl := closure_any g n base bt ba P m (by omega) _ (h.below hb)
     clear hm
     by_cases hp : P < sumf n m
     · have HP := hide hp
       have hd : decide (P < sumf n m) = true := by simp [hp]
       rw [hd] at hcl
       clear hp hd
       go_wp2_with (go_at_call 201; refine hcl.mono ?_; rintro e w1 ⟨rfl,hb1⟩)
       go_roundw
       case rel => exact ⟨lo,m,rfl,rfl,hm1,by omega,hide ⟨I.out.1,fun t h1 _ => Nat.lt_of_lt_of_le HP.out (sumf_mono n h1)⟩,below_next hb hb1⟩
       case measure => simp [intOf]; omega
     · have HP := hide (Nat.le_of_not_lt hp)
       have hd : decide (P < sumf n m) = false := by simp [hp]
       rw [hd] at hcl
       clear hp hd
       go_wp2_with (go_at_call 201; refine hcl.mono ?_; rintro e w1 ⟨rfl,hb1⟩)
       go_roundw
       case rel => exact ⟨m + 1,hi,by go_num,rfl,by omega,hin,hide ⟨fun t h1 => Nat.le_trans (sumf_mono n (show t ≤ m by omega)) HP.out,I.out.2⟩,below_next hb hb1⟩
       case measure => simp [intOf]; omega
   · obtain rfl : lo = hi := by omega
     have J := I.out
     go_wp2_with fail
     go_ret
     exact ⟨lo,rfl,hin,J.1,J.2,hb⟩
end Go.Proofs.YtkkcpblfheplaaaGreatDoor.Sol
namespace Go.Proofs.YtkkcpblfheplaaaGreatDoor.Sol
open Go.RowKit
theorem deg_of {n x j : Nat} (hj : j ≤ n) (h1 : ∀ t,t < j → sumf n t ≤ place n x) (h2 : ∀ t,j ≤ t → t < n → place n x < sumf n t) : IsDeg n x (j + 1) := by
 refine ⟨by omega,fun t ht0 ht => ?_,fun t ht htn => ?_,by omega⟩
 · have := h1 (t - 1) (by omega)
   unfold sumf at this
   rwa [show t - 1 + 1 = t by omega] at this
 · have := h2 (t - 1) (by omega) (by omega)
   unfold sumf at this
   rwa [show t - 1 + 1 = t by omega] at this
theorem degree_any (g n base x : Nat) (h0 : 1 ≤ n) (h1 : n ≤ 80) (hx : x < 4294967296) (w : World) (h : Stands w g n base) :
   Calls Tryz.prog 151 #[.pointer (some ⟨g,0,none⟩),.int .u32 x] w fun e w' => ∃ r : Nat,e = .returned (.int .i64 r) ∧ IsDeg n x r ∧ Stands w' g n base ∧ Below base w w' := by
 have hmf : ∀ (fn : Fn) (first cap : Array Value) (w : World),(Instr.makeFunc fn first cap).run Tryz.prog w = .ok (.func fn first cap) w := fun _ _ _ _ => rfl
 have hbg := h.1
 obtain ⟨dn0,v0,htab⟩ := h.tab
 have hgw := htab.lt
 have hbw : base ≤ w.heap.size := by omega
 have ha : Below w.heap.size w (w.alloc (.cells #[.pointer (some ⟨g,0,none⟩)] 209)) := (Below.refl _ _).alloc (Nat.le_refl _) _
 have hst := h.below ha
 have hstd : Stands (w.alloc (.cells #[.pointer (some ⟨g,0,none⟩)] 209)).drew g n base := hst
 have hbt : (w.alloc (.cells #[.pointer (some ⟨g,0,none⟩)] 209)).cell? ⟨w.heap.size,0,none⟩ = some (.pointer (some ⟨g,0,none⟩)) := by simp [World.cell?_alloc_new]
 have hx0 : (0 : Int) ≤ (x : Int) := by omega
 have hx1 : (x : Int) ≤ 4294967295 := by omega
 go_enter Tryz.func151,Tryz.ntmps151
 go_wp2_with fail
 go_cut [13] (fun _ wx => Made wx g n base ∧ wx.cell? ⟨w.heap.size,0,none⟩ = some (.pointer (some ⟨g,0,none⟩)) ∧ Below base w wx)
 case first =>
   go_region_with (first | (go_at_call 142; refine (do_any g n base h0 h1 _ hstd).mono ?_; rintro e w1 ⟨rfl,hm,hb1⟩))
   all_goals
     go_wp2_with fail
     go_meet
     have hbt' : (w.alloc (.cells #[.pointer (some ⟨g,0,none⟩)] 209)).drew.cell? ⟨w.heap.size,0,none⟩ = some (.pointer (some ⟨g,0,none⟩)) := hbt
     exact ⟨hm,hb1.cell hbt' (by simp; omega),((ha.mono hbw).drew).trans (hb1.below hbg (by simp; omega))⟩
 case rest =>
   obtain ⟨hm,hct,hbc⟩ := hcut
   have hmade := hm
   obtain ⟨A,c,ht,ho⟩ := hm
   obtain ⟨m,rfl⟩ : ∃ m,n = m + 1 := ⟨n - 1,by omega⟩
   have hn0 := ht.cells.1
   have hn4 := ht.cells.2.2.2
   obtain ⟨g1,rfl,hg1,hg1w,hcs⟩ := ho.at_ (i := m) (by omega)
   have hS : sumf (m + 1) m = sums (m + 1) (m + 1) := rfl
   have hS2 := sums_le h0 h1
   obtain ⟨S,hSS⟩ : ∃ S,sums (m + 1) (m + 1) = S := ⟨_,rfl⟩
   rw [hS,hSS] at hcs
   rw [hSS] at hS2
   obtain ⟨Q,hQ⟩ : ∃ Q,x * S = Q := ⟨_,rfl⟩
   have hQ2 : Q ≤ 4294967295 * 4294967296 := by rw [← hQ]; exact Nat.mul_le_mul (by omega) hS2
   have hQi : (x : Int) * (S : Int) = (Q : Int) := by rw [← hQ]; simp
   have hQ3 : (Q : Int) ≤ 18446744069414584320 := by omega
   obtain ⟨P,hP⟩ : ∃ P,Q / 4294967296 = P := ⟨_,rfl⟩
   have hPi : (Q : Int) / 4294967296 = (P : Int) := by omega
   have HP : Hid (place (m + 1) x = P) := hide (by unfold place; rw [hSS,hQ,hP])
   have hm80 : (m : Int) + 1 ≤ 80 := by omega
   have hS3 : (S : Int) ≤ 4294967296 := by omega
   have hwc := hbc.size
   clear hS hSS hQ hP ho ht
   have q1 : (wc.alloc (.cells #[.int .u64 0] 36)).cell? ⟨w.heap.size,0,none⟩ = some (.pointer (some ⟨g,0,none⟩)) := (World.cell?_alloc_past _ _ _ (World.block_lt_of_cell? wc _ hct)).trans hct
   have q2 : (wc.alloc (.cells #[.int .u64 0] 36)).cell? ⟨g,0,none⟩ = some (.int .i64 ((m + 1 : Nat) : Int)) := (World.cell?_alloc_past _ _ _ (World.block_lt_of_cell? wc _ hn0)).trans hn0
   have q3 : (wc.alloc (.cells #[.int .u64 0] 36)).cell? ⟨g,4,none⟩ = some _ := (World.cell?_alloc_past _ _ _ (World.block_lt_of_cell? wc _ hn4)).trans hn4
   have q4 : (wc.alloc (.cells #[.int .u64 0] 36)).cell? ⟨g1,m,none⟩ = some _ := (World.cell?_alloc_past _ _ _ (World.block_lt_of_cell? wc _ hcs)).trans hcs
   have e1 : IntKind.i64.wrap (m : Int) = (m : Int) := by rw [IntKind.wrap_i64]; omega
   have e2 : IntKind.u64.wrap (Q : Int) = (Q : Int) := by rw [IntKind.wrap_u64]; omega
   go_wp2_with fail
   go_cut [5] (fun v wx => ∃ ba,v = .pointer (some ⟨ba,0,none⟩) ∧ Ask wx g (m + 1) base w.heap.size ba P ∧ Below wc.heap.size wc wx)
   case first =>
     go_region
     all_goals
       go_wp2_with fail
       go_meet
       have hal : Below wc.heap.size wc (wc.alloc (.cells #[.int .u64 (P : Int)] 36)) := (Below.refl _ _).alloc (Nat.le_refl _) _
       have hal2 : Below wc.heap.size wc (wc.alloc (.cells #[.int .u64 (P : Int)] 36)).drew := hal.drew
       refine ⟨wc.heap.size,rfl,⟨hmade.below hal2,(World.cell?_alloc_past _ _ _ (World.block_lt_of_cell? wc _ hct)).trans hct,?_⟩,hal2⟩
       show (wc.alloc (.cells #[.int .u64 (P : Int)] 36)).cell? ⟨wc.heap.size,0,none⟩ = _
       simp [World.cell?_alloc_new]
   case rest =>
     obtain ⟨ba,rfl,hask,hb3⟩ := hcut
     clear q1 q2 q3 q4 hn0 hn4 hcs e1 e2
     have hmd := hask.made
     obtain ⟨A2,c2,ht2,_⟩ := hask.made
     have r0 := ht2.cells.1
     have r1 := hask.t
     have hs := search_any g (m + 1) base w.heap.size ba P h1 _ hask
     go_wp2_with (go_at_call 200; refine hs.mono ?_; rintro e w3 ⟨j,rfl,hj,hj1,hj2,hb4⟩; have hjb : (j : Int) ≤ 80 := by omega)
     go_ret
     exact ⟨j + 1,by simp [Int.add_comm],deg_of hj (by rw [HP.out]; exact hj1) (by rw [HP.out]; exact hj2),⟨hbg,.inr (hmd.below hb4)⟩,(hbc.trans (hb3.mono (by omega))).trans (hb4.mono (by have := hb3.size; omega))⟩
end Go.Proofs.YtkkcpblfheplaaaGreatDoor.Sol
