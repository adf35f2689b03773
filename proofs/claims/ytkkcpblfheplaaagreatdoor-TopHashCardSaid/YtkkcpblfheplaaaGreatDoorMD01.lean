/- Contracts of functions that the laws of downpourtop reach, and plain facts; no condition beyond what each theorem states. -/
import Derived.WalkKit
import Derived.WalkSpells
import Derived.WalkLawsBesides
import Derived.Lib.Hide
import Derived.Maps.AppendAt
import Derived.Deep.AppendLies
import Derived.Deep.Draws
import Derived.Laws.IdiomStrings
import Derived.OpenShut
import Derived.Test.YtkkcpblfheplaaaGreatDoorRows
import Derived.Outline
import Derived.Deep.RegionHeld3
import Derived.BigQuiet
import Derived.Deep.QuietTactic
import Derived.Lib.SlBytesConst
set_option maxRecDepth 100000
set_option maxHeartbeats 8000000
set_option linter.all false
namespace Go.Proofs.YtkkcpblfheplaaaGreatDoor
namespace CrcP
abbrev W := BitVec 32
def poly : W := 0xedb88320#32
def st (c : W) : W := (c >>> 1) ^^^ (if c.getLsbD 0 then poly else 0#32)
def st8 (c : W) : W := st (st (st (st (st (st (st (st c)))))))
def up (c : W) (x : UInt8) : W := st8 (c ^^^ (x.toBitVec.setWidth 32))
def run (c : W) (l : List UInt8) : W := l.foldl up c
def add (s : W) (l : List UInt8) : W := ~~~ (run (~~~ s) l)
def sum (l : List UInt8) : W := add 0#32 l
theorem st_xor (a b : W) : st (a ^^^ b) = st a ^^^ st b := by
 unfold st
 have h : (a ^^^ b).getLsbD 0 = (a.getLsbD 0 ^^ b.getLsbD 0) := by simp
 rw [h]
 rw [BitVec.ushiftRight_xor_distrib]
 generalize a >>> 1 = x
 generalize b >>> 1 = y
 generalize poly = p
 cases a.getLsbD 0 <;> cases b.getLsbD 0 <;> simp only [Bool.xor_false,Bool.xor_true,Bool.not_true,Bool.not_false,if_true,if_false,BitVec.xor_zero,Bool.false_eq_true]
 · rw [BitVec.xor_assoc]
 · rw [BitVec.xor_assoc,BitVec.xor_assoc,BitVec.xor_comm y p]
 · rw [BitVec.xor_assoc x p,← BitVec.xor_assoc p y p,BitVec.xor_comm p y,BitVec.xor_assoc y p p,BitVec.xor_self,BitVec.xor_zero]
theorem st8_xor (a b : W) : st8 (a ^^^ b) = st8 a ^^^ st8 b := by simp only [st8,st_xor]
theorem st_msb (c : W) : (st c).getLsbD 31 = c.getLsbD 0 := by
 unfold st
 cases h : c.getLsbD 0 <;> simp [poly]
theorem st_zero {c : W} (h : st c = 0#32) : c = 0#32 := by
 have h0 : c.getLsbD 0 = false := by rw [← st_msb,h]; simp
 unfold st at h
 rw [h0] at h
 simp only [Bool.false_eq_true,if_false,BitVec.xor_zero] at h
 apply BitVec.eq_of_getLsbD_eq
 intro i hi
 rcases Nat.eq_zero_or_pos i with rfl | hp
 · simpa using h0
 · have := congrArg (fun b : W => b.getLsbD (i - 1)) h
   simp only [BitVec.getLsbD_ushiftRight] at this
   rw [show 1 + (i - 1) = i by omega] at this
   simpa using this
theorem st8_zero {c : W} (h : st8 c = 0#32) : c = 0#32 := by
 unfold st8 at h
 exact st_zero (st_zero (st_zero (st_zero (st_zero (st_zero (st_zero (st_zero h)))))))
theorem st8_0 : st8 0#32 = 0#32 := by decide
theorem st8_inj {a b : W} (h : st8 a = st8 b) : a = b := by
 have : st8 (a ^^^ b) = 0#32 := by rw [st8_xor,h,BitVec.xor_self]
 exact BitVec.xor_eq_zero_iff.1 (st8_zero this)
theorem xor_cancel_right {a b x : W} (h : a ^^^ x = b ^^^ x) : a = b := by
 have h2 := congrArg (· ^^^ x) h
 simpa only [BitVec.xor_assoc,BitVec.xor_self,BitVec.xor_zero] using h2
theorem up_inj {a b : W} {x : UInt8} (h : up a x = up b x) : a = b := xor_cancel_right (st8_inj h)
theorem run_cons (c : W) (x : UInt8) (l : List UInt8) : run c (x :: l) = run (up c x) l := rfl
theorem run_append (c : W) (a b : List UInt8) : run c (a ++ b) = run (run c a) b := by simp [run,List.foldl_append]
theorem run_inj {l : List UInt8} : ∀ {a b : W},run a l = run b l → a = b := by
 induction l with
 | nil => intro a b h; exact h
 | cons x l ih => intro a b h; exact up_inj (ih h)
theorem add_append (s : W) (a b : List UInt8) : add (add s a) b = add s (a ++ b) := by
 simp [add,run_append]
theorem not_inj {a b : W} (h : ~~~ a = ~~~ b) : a = b := by
 have := congrArg (~~~ ·) h
 simpa using this
theorem add_inj {a b : W} {l : List UInt8} (h : add a l = add b l) : a = b := not_inj (run_inj (not_inj h))
def bw (x : UInt8) : W := x.toBitVec.setWidth 32
theorem bw_xor (x y : UInt8) : bw (x ^^^ y) = bw x ^^^ bw y := by simp [bw]
theorem up_xor (a b : W) (x y : UInt8) : up (a ^^^ b) (x ^^^ y) = up a x ^^^ up b y := by
 unfold up
 rw [← st8_xor]
 congr 1
 show _ ^^^ bw (x ^^^ y) = (_ ^^^ bw x) ^^^ (_ ^^^ bw y)
 rw [bw_xor]
 ac_rfl
theorem run_xor : ∀ (l m : List UInt8),l.length = m.length → ∀ a b : W,run (a ^^^ b) (List.zipWith (· ^^^ ·) l m) = run a l ^^^ run b m := by
 intro l
 induction l with
 | nil => intro m h a b; cases m with
   | nil => rfl
   | cons => simp at h
 | cons x l ih => intro m h a b; cases m with
   | nil => simp at h
   | cons y m =>
     simp only [List.zipWith_cons_cons,run_cons,up_xor]
     exact ih m (by simpa using h) _ _
theorem shl_toNat {v : W} (h : v.toNat < 2 ^ 24) {k : Nat} (hk : k ≤ 8) : (v <<< k).toNat = v.toNat * 2 ^ k := by
 rw [BitVec.toNat_shiftLeft,Nat.shiftLeft_eq]
 apply Nat.mod_eq_of_lt
 have : 2 ^ k ≤ 2 ^ 8 := Nat.pow_le_pow_right (by omega) hk
 calc v.toNat * 2 ^ k < 2 ^ 24 * 2 ^ k := Nat.mul_lt_mul_of_pos_right h (Nat.two_pow_pos k)
   _ ≤ 2 ^ 24 * 2 ^ 8 := Nat.mul_le_mul_left _ this
   _ = 2 ^ 32 := by decide
theorem st_shl {v : W} (h : v.toNat < 2 ^ 24) {k : Nat} (hk : k + 1 ≤ 8) : st (v <<< (k + 1)) = v <<< k := by
 unfold st
 have h0 : (v <<< (k + 1)).getLsbD 0 = false := by simp
 rw [h0]
 simp only [Bool.false_eq_true,if_false,BitVec.xor_zero]
 apply BitVec.eq_of_toNat_eq
 rw [BitVec.toNat_ushiftRight,shl_toNat h hk,shl_toNat h (by omega),Nat.shiftRight_eq_div_pow,Nat.pow_succ,← Nat.mul_assoc,Nat.pow_one,Nat.mul_div_cancel _ (by omega)]
theorem st8_shl {v : W} (h : v.toNat < 2 ^ 24) : st8 (v <<< 8) = v := by
 unfold st8
 rw [st_shl h (k := 7) (by omega),st_shl h (k := 6) (by omega),st_shl h (k := 5) (by omega),st_shl h (k := 4) (by omega),st_shl h (k := 3) (by omega),
   st_shl h (k := 2) (by omega),st_shl h (k := 1) (by omega),st_shl h (k := 0) (by omega)]
 simp
theorem bw_toNat (x : UInt8) : (bw x).toNat = x.toNat := by
 simp [bw]
theorem bw_lt (x : UInt8) : (bw x).toNat < 2 ^ 8 := by rw [bw_toNat]; exact x.toNat_lt
theorem bw_inj {x : UInt8} (h : bw x = 0#32) : x = 0 := by
 have := bw_toNat x
 rw [h] at this
 exact UInt8.toNat_inj.1 (by simpa using this.symm)
theorem shl_lt {v : W} {n k : Nat} (h : v.toNat < 2 ^ n) (_hn : n + k ≤ 32) : (v <<< k).toNat < 2 ^ (n + k) := by
 rw [BitVec.toNat_shiftLeft,Nat.shiftLeft_eq]
 calc v.toNat * 2 ^ k % 2 ^ 32 ≤ v.toNat * 2 ^ k := Nat.mod_le _ _
   _ < 2 ^ n * 2 ^ k := Nat.mul_lt_mul_of_pos_right h (Nat.two_pow_pos k)
   _ = 2 ^ (n + k) := (Nat.pow_add ..).symm
theorem xor_lt {v u : W} {n : Nat} (h : v.toNat < 2 ^ n) (g : u.toNat < 2 ^ n) : (v ^^^ u).toNat < 2 ^ n := by
 rw [BitVec.toNat_xor]; exact Nat.xor_lt_two_pow h g
theorem lt_mono {v : W} {n m : Nat} (h : v.toNat < 2 ^ n) (g : n ≤ m) : v.toNat < 2 ^ m := Nat.lt_of_lt_of_le h (Nat.pow_le_pow_right (by omega) g)
theorem xor_move {a b c : W} (h : a ^^^ b = c) : a = c ^^^ b := by rw [← h,BitVec.xor_assoc,BitVec.xor_self,BitVec.xor_zero]
theorem back {t v : W} {d : UInt8} (h : st8 t ^^^ bw d = v) (hv : v.toNat < 2 ^ 24) : t = v <<< 8 ^^^ bw d <<< 8 := by
 have h1 := xor_move h
 have hl : (v ^^^ bw d).toNat < 2 ^ 24 := xor_lt hv (lt_mono (bw_lt d) (by omega))
 rw [← st8_shl hl] at h1
 have h2 := st8_inj h1
 rw [h2,BitVec.shiftLeft_xor_distrib]
theorem low_split {d : UInt8} {v : W} (h : bw d = v <<< 8) : d = 0 ∧ v <<< 8 = 0#32 := by
 have h1 := congrArg (fun b : W => b.toNat % 2 ^ 8) h
 simp only [bw_toNat,BitVec.toNat_shiftLeft,Nat.shiftLeft_eq] at h1
 have := d.toNat_lt
 have : d.toNat = 0 := by omega
 have hd : d = 0 := UInt8.toNat_inj.1 (by simpa using this)
 refine ⟨hd,?_⟩
 rw [← h,hd]; rfl
theorem shl8_zero {v : W} (h : v <<< 8 = 0#32) (hv : v.toNat < 2 ^ 24) : v = 0#32 := by
 have := congrArg st8 h
 rwa [st8_shl hv,st8_0] at this
theorem four_zero {d0 d1 d2 d3 : UInt8} (h : run 0#32 [d0,d1,d2,d3] = 0#32) : d0 = 0 ∧ d1 = 0 ∧ d2 = 0 ∧ d3 = 0 := by
 have h3 := st8_zero (show st8 (st8 (st8 (st8 (0#32 ^^^ bw d0) ^^^ bw d1) ^^^ bw d2) ^^^ bw d3) = 0#32 from h)
 have h2 := back h3 (by decide)
 have e2 : (0#32 <<< 8 ^^^ bw d3 <<< 8).toNat < 2 ^ 16 := xor_lt (by decide) (shl_lt (n := 8) (bw_lt d3) (by omega))
 have h1 := back h2 (lt_mono e2 (by omega))
 have e1 : ((0#32 <<< 8 ^^^ bw d3 <<< 8) <<< 8 ^^^ bw d2 <<< 8).toNat < 2 ^ 24 := xor_lt (shl_lt (n := 16) e2 (by omega)) (lt_mono (shl_lt (n := 8) (bw_lt d2) (by omega)) (by omega))
 have h0 := back h1 e1
 rw [BitVec.zero_xor,← BitVec.shiftLeft_xor_distrib] at h0
 obtain ⟨z0,q0⟩ := low_split h0
 have e0 : ((0#32 <<< 8 ^^^ bw d3 <<< 8) <<< 8 ^^^ bw d2 <<< 8 ^^^ bw d1).toNat < 2 ^ 24 := xor_lt e1 (lt_mono (bw_lt d1) (by omega))
 have q1 := shl8_zero q0 e0
 rw [← BitVec.shiftLeft_xor_distrib] at q1
 obtain ⟨z1,q1⟩ := low_split (xor_move (by rw [BitVec.xor_comm]; exact q1) |>.trans (BitVec.zero_xor))
 have e1' : (0#32 <<< 8 ^^^ bw d3 <<< 8 ^^^ bw d2).toNat < 2 ^ 24 := xor_lt (lt_mono e2 (by omega)) (lt_mono (bw_lt d2) (by omega))
 have q2 := shl8_zero q1 e1'
 rw [BitVec.zero_shiftLeft,BitVec.zero_xor] at q2
 obtain ⟨z2,q2⟩ := low_split (xor_move (by rw [BitVec.xor_comm]; exact q2) |>.trans (BitVec.zero_xor))
 exact ⟨z0,z1,z2,bw_inj (shl8_zero q2 (lt_mono (bw_lt d3) (by omega)))⟩
theorem run_eq_iff (c : W) (l m : List UInt8) (h : l.length = m.length) : run c l = run c m ↔ run 0#32 (List.zipWith (· ^^^ ·) l m) = 0#32 := by
 have := run_xor l m h c c
 rw [BitVec.xor_self] at this
 rw [this,BitVec.xor_eq_zero_iff]
theorem xor_eq_self {a x : UInt8} (h : a ^^^ (a ^^^ x) = 0) : x = 0 := by
 rwa [← UInt8.xor_assoc,UInt8.xor_self,UInt8.zero_xor] at h
theorem two_zero {d0 d1 : UInt8} (h : run 0#32 [d0,d1] = 0#32) : d0 = 0 ∧ d1 = 0 := by
 have := four_zero (d0 := 0) (d1 := 0) (d2 := d0) (d3 := d1) (by
   have e : up (up 0#32 0) 0 = 0#32 := by decide
   simp only [run_cons,e] at *
   exact h)
 exact ⟨this.2.2.1,this.2.2.2⟩
theorem two (s : W) (pre suf : List UInt8) (b0 b1 x0 x1 : UInt8) :
   add s (pre ++ [b0 ^^^ x0,b1 ^^^ x1] ++ suf) = add s (pre ++ [b0,b1] ++ suf) ↔ x0 = 0 ∧ x1 = 0 := by
 constructor
 · intro h
   rw [← add_append,← add_append,← add_append,← add_append] at h
   have h := (run_eq_iff _ _ _ (by rfl)).1 (not_inj (add_inj h)).symm
   obtain ⟨z0,z1⟩ := two_zero h
   exact ⟨xor_eq_self z0,xor_eq_self z1⟩
 · rintro ⟨rfl,rfl⟩
   simp
theorem low_one : ∀ n : Fin 256,(st8 (BitVec.ofNat 32 n.val)).setWidth 24 = 0#24 → n = 0 := by decide +kernel
theorem edge_zero {d y : UInt8} (h : run 0#32 [d] = bw y <<< 24) : d = 0 ∧ y = 0 := by
 have h0 : st8 (bw d) = bw y <<< 24 := by
   have : run 0#32 [d] = st8 (0#32 ^^^ bw d) := rfl
   rw [← h,this,BitVec.zero_xor]
 have h1 : (st8 (bw d)).setWidth 24 = 0#24 := by
   rw [h0]
   apply BitVec.eq_of_toNat_eq
   simp only [BitVec.toNat_setWidth,BitVec.toNat_shiftLeft,Nat.shiftLeft_eq,BitVec.toNat_ofNat]
   have : (bw y).toNat < 2 ^ 8 := bw_lt y
   omega
 have e : bw d = BitVec.ofNat 32 d.toNat := BitVec.eq_of_toNat_eq (by rw [bw_toNat]; have := d.toNat_lt; simp)
 rw [e] at h1
 have := low_one ⟨d.toNat,d.toNat_lt⟩ h1
 have hd : d = 0 := UInt8.toNat_inj.1 (by simpa using congrArg Fin.val this)
 subst hd
 refine ⟨rfl,?_⟩
 rw [show bw 0 = 0#32 from rfl,st8_0] at h0
 have := congrArg BitVec.toNat h0
 rw [BitVec.toNat_shiftLeft,bw_toNat,Nat.shiftLeft_eq] at this
 have hy := y.toNat_lt
 have : y.toNat = 0 := by simp at this; omega
 exact UInt8.toNat_inj.1 (by simpa using this)
end CrcP
open Go.RowKit
theorem hide {p : Prop} (h : p) : Hid p := h
theorem blockAdd (a : Addr) (n : Nat) : (a.add n).block = a.block := by unfold Addr.add; split <;> rfl
theorem addAdd (a : Addr) (i j : Nat) : (a.add i).add j = a.add (i + j) := by
 unfold Addr.add
 by_cases hi : i = 0 <;> by_cases hj : j = 0 <;> simp [hi,hj,Nat.add_assoc]
theorem addAt (g j : Nat) : (⟨g,0,none⟩ : Addr).add j = ⟨g,j,none⟩ := by unfold Addr.add; split <;> simp_all
theorem undrew {w w1 : World} (h : Below w.drew.heap.size w.drew w1) : Below w.heap.size w w1 := (Below.drew (Below.refl w.heap.size w)).trans h
def by8 (x : UInt8) : Value := .int .u8 x.toNat
def bys (l : List UInt8) : List Value := l.map by8
theorem bys_len (l : List UInt8) : (bys l).length = l.length := by simp [bys]
theorem bys_app (l r : List UInt8) : bys (l ++ r) = bys l ++ bys r := by simp [bys]
theorem bys_get (l : List UInt8) (j : Nat) : (bys l)[j]? = (l[j]?).map by8 := by simp [bys]
theorem bys_one (l : List UInt8) : ∀ u ∈ bys l,u.oneCell' = true := by
 intro u hu
 simp only [bys,List.mem_map] at hu
 obtain ⟨x,_,rfl⟩ := hu
 rfl
def str (l : List UInt8) : ByteArray := ⟨l.toArray⟩
theorem str_toList (l : List UInt8) : (str l).toList = l := by unfold str; simp
theorem str_same {l r : List UInt8} (h : l = r) : ((str l).toList == (str r).toList) = true := by simp [str_toList,h]
theorem str_other {l r : List UInt8} (h : l ≠ r) : ((str l).toList == (str r).toList) = false := by simp [str_toList,h]
def Rd (w : World) (A : Option Addr) (n c : Nat) (l : List UInt8) : Prop :=
 l.length = n ∧ n ≤ c ∧ c ≤ maxLen ∧ (0 < n → ∃ ad,A = some ad ∧ ∀ j x,l[j]? = some x → w.cell? (ad.add j) = some (by8 x))
section
variable {w w' : World} {A : Option Addr} {n c : Nat} {l : List UInt8}
theorem Rd.nil (w : World) (A : Option Addr) {c : Nat} (hc : c ≤ maxLen) : Rd w A 0 c [] := ⟨rfl,Nat.zero_le _,hc,fun h => absurd h (by omega)⟩
theorem Rd.at_ (h : Rd w A n c l) {k : Nat} (hk : k < n) : ∃ ad x,A = some ad ∧ l[k]? = some x ∧ w.cell? (ad.add k) = some (.int .u8 x.toNat) := by
 obtain ⟨h1,_,_,h3⟩ := h
 obtain ⟨ad,e,hc⟩ := h3 (by omega)
 have hl : k < l.length := by omega
 exact ⟨ad,l[k],e,List.getElem?_eq_getElem hl,hc k _ (List.getElem?_eq_getElem hl)⟩
theorem Rd.ptr (h : Rd w A n c l) (hn : 0 < n) : ∃ ad,A = some ad ∧ ad.block < w.heap.size := by
 obtain ⟨ad,x,e,_,hc⟩ := h.at_ hn
 exact ⟨ad,e,by have := World.block_lt_of_cell? w _ hc; rwa [blockAdd] at this⟩
theorem Rd.keep (h : Rd w A n c l) (hk : ∀ p v,w.cell? p = some v → w'.cell? p = some v) : Rd w' A n c l :=
 ⟨h.1,h.2.1,h.2.2.1,fun hn => by
   obtain ⟨ad,e,hc⟩ := h.2.2.2 hn
   exact ⟨ad,e,fun j x hx => hk _ _ (hc j x hx)⟩⟩
theorem Rd.below (h : Rd w A n c l) (hb : Below w.heap.size w w') : Rd w' A n c l :=
 h.keep fun p _ hv => (hb.cell (World.block_lt_of_cell? w p hv)).trans hv
theorem Rd.drewN (h : Rd w A n c l) (k : Nat) : Rd (w.drewN k) A n c l := h
theorem Rd.drew (h : Rd w A n c l) : Rd w.drew A n c l := h
theorem Rd.alloc (h : Rd w A n c l) (o : Obj) : Rd (w.alloc o) A n c l :=
 h.keep fun p _ hv => (World.cell?_alloc_lt w o p (World.block_lt_of_cell? w p hv)).trans hv
theorem Rd.hi (h : Rd w A n c l) {k : Nat} (hk : k ≤ n) : Rd w A k c (l.take k) :=
 ⟨by rw [List.length_take,h.1]; omega,by have := h.2.1; omega,h.2.2.1,fun hn => by
   obtain ⟨ad,e,hc⟩ := h.2.2.2 (by omega)
   exact ⟨ad,e,fun j x hx => hc j x (by rw [List.getElem?_take] at hx; split at hx <;> simp_all)⟩⟩
theorem Rd.lo (h : Rd w A n c l) {k : Nat} (hk : k ≤ n) : Rd w (if c = k then A else A.map (·.add k)) (n - k) (c - k) (l.drop k) :=
 ⟨by rw [List.length_drop,h.1],by have := h.2.1; omega,by have := h.2.2.1; omega,fun hn => by
   obtain ⟨ad,e,hc⟩ := h.2.2.2 (by omega)
   have := h.2.1
   rw [if_neg (by omega),e]
   refine ⟨ad.add k,rfl,fun j x hx => ?_⟩
   rw [addAdd]
   exact hc _ x (by rw [← hx,List.getElem?_drop])⟩
theorem Rd.lo_ne (h : Rd w A n c l) {k : Nat} (hk : k ≤ n) (hc : ¬ c = k) : Rd w (A.map fun x => x.add k) (n - k) (c - k) (l.drop k) := by
 have := h.lo hk
 rwa [if_neg hc] at this
theorem Rd.lo_eq (h : Rd w A n c l) {k : Nat} (hk : k ≤ n) (hc : c = k) : Rd w A (n - k) (c - k) (l.drop k) := by
 have := h.lo hk
 rwa [if_pos hc] at this
theorem Rd.mid (h : Rd w A n c l) {k m : Nat} (hk : k + m ≤ n) (hm : 0 < m) : Rd w (A.map fun x => x.add k) m (c - k) ((l.drop k).take m) :=
 (h.lo_ne (k := k) (by omega) (by have := h.2.1; omega)).hi (by omega)
theorem Rd.new (w : World) (e : TypeId) (cs : Array Value) {l : List UInt8} (h : cs.toList = bys l) (hl : l.length ≤ maxLen) :
   Rd (w.alloc (.cells cs e)) (some ⟨w.heap.size,0,none⟩) l.length l.length l :=
 ⟨rfl,Nat.le_refl _,hl,fun _ => ⟨_,rfl,fun j x hx => by
   rw [addAt,cell_of_row (w.alloc (.cells cs e)) w.heap.size j cs e (0,0) (heap_alloc_new w _)]
   have : cs.toList[j]? = some (by8 x) := by rw [h,bys_get,hx]; rfl
   simpa using this⟩⟩
theorem Rd.newFr (w : World) (e : TypeId) (cs : Array Value) (fr : Nat × Nat) {l : List UInt8} (h : cs.toList = bys l) (hl : l.length ≤ maxLen) :
   Rd (w.alloc (.cells cs e fr)) (some ⟨w.heap.size,0,none⟩) l.length l.length l :=
 ⟨rfl,Nat.le_refl _,hl,fun _ => ⟨_,rfl,fun j x hx => by
   rw [addAt,World.cell?_alloc_mark]
   have : cs.toList[j]? = some (by8 x) := by rw [h,bys_get,hx]; rfl
   simpa using this⟩⟩
theorem Rd.conv {P : Program} (h : Rd w A n c l) (src dst e : TypeId) (hs : P.underlying src = some (.slice e)) (he : P.underlying e = some (.int .u8)) (hd : P.underlying dst = some .string) :
   (convert src dst (.slice A n c)).run P w = .ok (.string (str l)) w := by
 obtain ⟨h1,h2,h3,h4⟩ := h
 rcases Nat.eq_zero_or_pos n with h0 | h0
 · have hl : l = [] := List.eq_nil_of_length_eq_zero (by omega)
   subst hl
   rcases A with _ | ad
   · rw [run_convert_bytes_string w src dst e none n c hs he hd]; rfl
   · have := run_convert_bytes_back (P := P) w src dst e ad c [] hs he hd (fun j hj => by simp at hj)
     simp only [List.length_nil] at this
     rw [h0]; exact this
 · obtain ⟨ad,rfl,hc⟩ := h4 h0
   subst h1
   exact run_convert_bytes_back (P := P) w src dst e ad c l hs he hd (fun j hj => hc j _ (List.getElem?_eq_getElem hj))
end
def Own (w : World) (base : Nat) (e : TypeId) (A : Option Addr) (n c : Nat) (l : List UInt8) : Prop := w.ownsRow base e 1 (.slice A n c) n (bys l)
section
variable {w w' : World} {base : Nat} {e : TypeId} {A : Option Addr} {n c : Nat} {l : List UInt8}
theorem Own.nil (w : World) (base : Nat) (e : TypeId) : Own w base e none 0 0 [] := World.ownsRow_nil w base e 1
theorem Own.len (h : Own w base e A n c l) : l.length = n := by have := h.1; simpa [bys_len] using this
theorem Own.cases (h : Own w base e A n c l) : (A = none ∧ n = 0 ∧ c = 0 ∧ l = []) ∨ ∃ g,A = some ⟨g,0,none⟩ ∧ base ≤ g ∧ g < w.heap.size ∧ n ≤ c ∧ c ≤ maxLen := by
 have hl := h.len
 rcases h.2 with ⟨hv,h0⟩ | ⟨g,cap,cur,hv,hb,hg,hnc,hcm,_⟩
 · simp only [Value.slice.injEq] at hv
   exact .inl ⟨hv.1,hv.2.1,hv.2.2,List.eq_nil_of_length_eq_zero (by omega)⟩
 · simp only [Value.slice.injEq,true_and] at hv
   obtain ⟨rfl,rfl⟩ := hv
   exact .inr ⟨g,rfl,hb,(Array.getElem?_eq_some_iff.1 hg).1,hnc,hcm⟩
theorem Own.form (h : Own w base e A n c l) (hn : 0 < n) : ∃ g,A = some ⟨g,0,none⟩ ∧ base ≤ g ∧ g < w.heap.size := by
 rcases h.cases with ⟨_,h0,_⟩ | ⟨g,hA,hb,hg,_⟩
 · omega
 · exact ⟨g,hA,hb,hg⟩
theorem Own.rd (h : Own w base e A n c l) : Rd w A n c l := by
 refine ⟨h.len,?_,?_,fun hn => ?_⟩
 · rcases h.cases with ⟨_,h0,h1,_⟩ | ⟨g,_,_,_,h1,_⟩ <;> omega
 · rcases h.cases with ⟨_,h0,h1,_⟩ | ⟨g,_,_,_,_,h1⟩
   · rw [h1]; exact Nat.zero_le _
   · exact h1
 · obtain ⟨g,rfl,_⟩ := h.form hn
   exact ⟨_,rfl,fun j x hx => World.ownsRow.cells h (g := g) rfl j (by8 x) (by rw [bys_get,hx]; rfl)⟩
theorem Own.keep {B : Nat} (h : Own w base e A n c l) (hb : Below B w w') (hg : ∀ g,A = some ⟨g,0,none⟩ → g < B) : Own w' base e A n c l := by
 refine ⟨h.1,?_⟩
 rcases h.2 with h2 | ⟨g,cap,cur,hv,hbg,hgg,r⟩
 · exact .inl h2
 · simp only [Value.slice.injEq,true_and] at hv
   obtain ⟨rfl,rfl⟩ := hv
   exact .inr ⟨g,c,cur,rfl,hbg,(hb.block g (hg g rfl)).trans hgg,r⟩
theorem Own.below (h : Own w base e A n c l) (hb : Below w.heap.size w w') : Own w' base e A n c l :=
 h.keep hb fun g hg => by
   rcases h.cases with ⟨h0,_⟩ | ⟨g',h0,_,hlt,_⟩
   · rw [h0] at hg; cases hg
   · rw [h0] at hg; simp only [Option.some.injEq,Addr.mk.injEq,and_true] at hg; omega
theorem Own.mono {base' : Nat} (h : Own w base e A n c l) (hb : base' ≤ base) : Own w base' e A n c l := by
 refine ⟨h.1,?_⟩
 rcases h.2 with h2 | ⟨g,cap,cur,hv,hbg,r⟩
 · exact .inl h2
 · exact .inr ⟨g,cap,cur,hv,by omega,r⟩
theorem Own.alloc (h : Own w base e A n c l) (o : Obj) : Own (w.alloc o) base e A n c l := World.ownsRow.alloc h o
theorem Own.drew (h : Own w base e A n c l) : Own w.drew base e A n c l := h
theorem Own.drewN (h : Own w base e A n c l) (k : Nat) : Own (w.drewN k) base e A n c l := h
theorem Own.cell {g : Nat} (h : Own w base e (some ⟨g,0,none⟩) n c l) {j : Nat} {x : UInt8} (hj : l[j]? = some x) : w.cell? ⟨g,j,none⟩ = some (.int .u8 x.toNat) := by
 have := World.ownsRow.cells h (g := g) rfl j (by8 x) (by rw [bys_get,hj]; rfl)
 rwa [addAt] at this
theorem Own.frozen {g : Nat} (h : Own w base e (some ⟨g,0,none⟩) n c l) (j : Nat) : w.frozen? ⟨g,j,none⟩ = false := World.ownsRow.frozenAt h j
theorem Own.set {g : Nat} (h : Own w base e (some ⟨g,0,none⟩) n c l) (j : Nat) (x : UInt8) : Own (w.setCell ⟨g,j,none⟩ (.int .u8 x.toNat)) base e (some ⟨g,0,none⟩) n c (l.set j x) := by
 have := (World.ownsRow.stored h j (by8 x)).1
 unfold Own
 have e2 : bys (l.set j x) = (bys l).set j (by8 x) := by simp [bys]
 rw [e2]
 exact this
end
def IsByte (P : Program) (e : TypeId) : Prop := (P.info? e).map (fun i => (i.zero,i.size,i.bytes)) = some (some (.int .u8 0),1,1)
theorem run_append_nil8 {P : Program} (w : World) (base : Nat) (t ty e : TypeId) (ht : P.underlying t = some (.slice e)) (hi : IsByte P e)
   {A : Option Addr} {n c : Nat} {l : List UInt8} (ho : Own w base e A n c l) (X : Option Addr) (d : Nat) : (Builtin.append_ #[t,t] ty #[.slice A n c,.slice X 0 d]).run P w = .ok (.slice A n c) w := by
 obtain ⟨i,hi,hz0,hz1,hz2⟩ := info_parts hi
 have hfc : (Builtin.firstCells 1 0 (.slice X 0 d)).run P w = .ok #[] w := by
   cases X with
   | none => simp [Builtin.firstCells]
   | some a => simp [Builtin.firstCells,loadCells,loadCellsFrom]
 rcases ho.cases with ⟨rfl,rfl,rfl,_⟩ | ⟨g,rfl,_,_,hnc,_⟩
 · simp [Builtin.append_,run_underlying ht,sizeOf,typeInfo,hi,hz1,Builtin.lenOf,hfc]
 · simp [Builtin.append_,run_underlying ht,sizeOf,typeInfo,hi,hz1,Builtin.lenOf,hfc,hnc,storeCells]
theorem run_append8 {P : Program} (w : World) (base : Nat) (t ty e : TypeId) (ht : P.underlying t = some (.slice e)) (hi : IsByte P e)
   {A : Option Addr} {n c : Nat} {l : List UInt8} (ho : Own w base e A n c l) {X : Option Addr} {m d : Nat} {r : List UInt8} (hr : Rd w X m d r)
   (hs : n + m ≤ 140737488355328) (hbase : base ≤ w.heap.size) :
   ∃ A' c' w',(Builtin.append_ #[t,t] ty #[.slice A n c,.slice X m d]).run P w = .ok (.slice A' (n + m) c') w' ∧ Own w' base e A' (n + m) c' (l ++ r) ∧ Below base w w' ∧
     w.grownBy w' (A.map (·.block)) ∧ (A'.map (·.block) = A.map (·.block) ∨ A'.map (·.block) = some w.heap.size) := by
 rcases Nat.eq_zero_or_pos m with h0 | h0
 · subst h0
   have hn : r = [] := List.eq_nil_of_length_eq_zero hr.1
   subst hn
   exact ⟨A,c,w,run_append_nil8 w base t ty e ht hi ho X d,by simpa using ho,Below.refl _ _,World.grownBy.refl w _,.inl rfl⟩
 · obtain ⟨h1,h2,h3,h4⟩ := hr
   obtain ⟨ad,rfl,hc⟩ := h4 h0
   obtain ⟨i,hi,hz0,hz1,hz2⟩ := info_parts hi
   have hcells : ∀ j u,(bys r)[j]? = some u → w.cell? (ad.add j) = some u := by
     intro j u hu
     rw [bys_get,Option.map_eq_some_iff] at hu
     obtain ⟨x,hx,rfl⟩ := hu
     exact hc j x hx
   obtain ⟨v',w',hrun,k1,k2,k3,k4⟩ := run_append_own_at (P := P) w base t ty e i _ 1 1 ht hi hz0 hz1 hz2 rfl (by omega) _ n (bys l) ho ad m d (bys r) (by rw [bys_len]; omega) hcells (bys_one r)
     (by simp only [maxLen]; omega) (by omega) hbase
   have hown := k1
   obtain ⟨g,cap,rfl,_,_⟩ := k1.form (by omega)
   have eb : Value.ownBlock (.slice A n c) = A.map (·.block) := by cases A <;> rfl
   rw [eb] at k2 k4
   refine ⟨_,cap,w',hrun,by unfold Own; rw [bys_app]; exact hown,(Below.refl _ _).grown k2 hbase (fun k hk => ?_),k2,k4⟩
   have := World.ownsRow.lt ho k (by rw [eb]; exact hk)
   exact this.1
theorem wp_append8 {P : Program} (w : World) {o : Oper} {a : Act} {K : Act → World → Prop} {Q : Exit → Act → World → Prop} (s x : Operand) (t : TypeId)
   (hop : o.op = .call { callee := .builtin .append,args := #[s,x],argTypes := #[t,t] })
   (base : Nat) (e : TypeId) (ht : P.underlying t = some (.slice e)) (hi : IsByte P e)
   (A : Option Addr) (n c : Nat) (l : List UInt8) (hs : a.eval s = .slice A n c) (ho : Own w base e A n c l) (X : Option Addr) (m d : Nat) (r : List UInt8) (hx : a.eval x = .slice X m d) (hr : Rd w X m d r)
   (hsz : n + m ≤ 140737488355328) (hbase : base ≤ w.heap.size)
   (h : ∀ A' c' w',Own w' base e A' (n + m) c' (l ++ r) → Below base w w' → w.grownBy w' (A.map (·.block)) → (A'.map (·.block) = A.map (·.block) ∨ A'.map (·.block) = some w.heap.size) →
     K (a.put o.dst (.slice A' (n + m) c')) w') : o.wp P a w K Q := by
 obtain ⟨A',c',w',hrun,h2,h3,h4,h5⟩ := run_append8 (P := P) w base t o.type e ht hi ho hr hsz hbase
 unfold Oper.wp execOp
 simp only [hop,resolve,invoke,builtin,Sem.run_bind,Sem.run_pure,Result.andThen_ok,List.map_toArray,List.map_cons,List.map_nil,hs,hx,hrun]
 exact h A' c' w' h2 h3 h4 h5
theorem wpList_append8 {P : Program} (w : World) {ops : Array Oper} {rest : List Oper} {o : Oper} {a : Act} {Q : Exit → Act → World → Prop} (hgd : o.guard = none) (s x : Operand) (t : TypeId)
   (hop : o.op = .call { callee := .builtin .append,args := #[s,x],argTypes := #[t,t] })
   (base : Nat) (e : TypeId) (ht : P.underlying t = some (.slice e)) (hi : IsByte P e)
   (A : Option Addr) (n c : Nat) (l : List UInt8) (hs : a.eval s = .slice A n c) (ho : Own w base e A n c l) (X : Option Addr) (m d : Nat) (r : List UInt8) (hx : a.eval x = .slice X m d) (hr : Rd w X m d r)
   (hsz : n + m ≤ 140737488355328) (hbase : base ≤ w.heap.size)
   (h : ∀ A' c' w',Own w' base e A' (n + m) c' (l ++ r) → Below base w w' → w.grownBy w' (A.map (·.block)) → (A'.map (·.block) = A.map (·.block) ∨ A'.map (·.block) = some w.heap.size) →
     wpList P ops Q rest (a.put o.dst (.slice A' (n + m) c')) w') : wpList P ops Q (o :: rest) a w :=
 wpList_plain hgd fun _ hK => wp_append8 w s x t hop base e ht hi A n c l hs ho X m d r hx hr hsz hbase fun A' c' w' h2 h3 h4 h5 => hK _ _ (h A' c' w' h2 h3 h4 h5)
def byt (x : Int) : UInt8 := UInt8.ofNat (x % 256).toNat
theorem byt_val (x : Int) : ((byt x).toNat : Int) = x % 256 := by
 unfold byt
 have : (x % 256).toNat < 256 := by omega
 rw [UInt8.toNat_ofNat']
 omega
theorem one8 (x : Int) : (#[Value.int .u8 (x % 256)] : Array Value).toList = bys [byt x] := by simp [bys,by8,byt_val]
theorem Rd.one (w : World) (e : TypeId) (x : Int) : Rd (w.alloc (.cells #[.int .u8 (x % 256)] e)) (some ⟨w.heap.size,0,none⟩) 1 1 [byt x] := Rd.new w e _ (one8 x) (by simp [maxLen])
theorem wf_u8 {x : Int} (h : (Lit.int .u8 x).wf = true) : 0 ≤ x ∧ x < 256 := by
 have := bounds_u8 h
 omega
theorem u8_of {x : Int} (h : (Lit.int .u8 x).wf = true) : ∃ b : UInt8,x = (b.toNat : Int) := by
 have hb := wf_u8 h
 exact ⟨byt x,by rw [byt_val,Int.emod_eq_of_lt hb.1 hb.2]⟩
theorem Rd.of_row {w : World} {a : Option Addr} {len cap : Nat} {zs : List Int} (h : (a = none ∧ len = 0 ∧ cap = 0 ∧ zs = []) ∨
   ∃ x,a = some x ∧ len ≤ cap ∧ cap ≤ maxLen ∧ zs.length = cap ∧ (∀ i,i < zs.length → w.cell? (x.add i) = some (.int .u8 (zs.getD i 0))) ∧ ∀ n ∈ zs,(Lit.int .u8 n).wf = true) : ∃ l,Rd w a len cap l := by
 rcases h with ⟨rfl,rfl,rfl,rfl⟩ | ⟨x,rfl,h1,h2,h3,h4,h5⟩
 · exact ⟨[],Rd.nil _ _ (Nat.zero_le _)⟩
 · refine ⟨(zs.take len).map byt,by simp; omega,h1,h2,fun _ => ⟨x,rfl,fun j u hu => ?_⟩⟩
   rw [List.getElem?_map,Option.map_eq_some_iff] at hu
   obtain ⟨v,hv,rfl⟩ := hu
   rw [List.getElem?_take] at hv
   split at hv
   case isFalse => cases hv
   have hj : j < zs.length := (List.getElem?_eq_some_iff.1 hv).1
   have hm : v ∈ zs := List.mem_of_getElem? hv
   rw [h4 j hj,List.getD_eq_getElem?_getD,hv]
   have hb := wf_u8 (h5 v hm)
   simp only [Option.getD_some,by8,byt_val]
   rw [Int.emod_eq_of_lt hb.1 hb.2]
def V (c : BitVec 32) : Int := (c.toNat : Int)
theorem V_bd (c : BitVec 32) : 0 ≤ V c ∧ V c < 4294967296 := by
 unfold V; have := c.isLt; omega
theorem ofInt_V (c : BitVec 32) : BitVec.ofInt 32 (V c) = c := by simp [V]
theorem V_wrap (c : BitVec 32) : IntKind.u32.wrap (V c) = V c := by
 have := V_bd c
 rw [IntKind.wrap_u32]; omega
theorem V_xor (a b : BitVec 32) : bits .xor .u32 (V a) (V b) = V (a ^^^ b) := by
 show IntKind.u32.wrap ((BitVec.ofInt 32 (V a) ^^^ BitVec.ofInt 32 (V b)).toNat : Int) = _
 rw [ofInt_V,ofInt_V]; exact V_wrap _
theorem V_and (a b : BitVec 32) : bits .and .u32 (V a) (V b) = V (a &&& b) := by
 show IntKind.u32.wrap ((BitVec.ofInt 32 (V a) &&& BitVec.ofInt 32 (V b)).toNat : Int) = _
 rw [ofInt_V,ofInt_V]; exact V_wrap _
theorem V_not (a : BitVec 32) : bits .xor .u32 IntKind.u32.max (V a) = V (~~~ a) := by
 have e : IntKind.u32.max = V (BitVec.allOnes 32) := by decide
 rw [e,V_xor,BitVec.xor_comm,BitVec.xor_allOnes]
theorem V_shr1 (a : BitVec 32) : V a / (2 : Int) = V (a >>> 1) := by
 unfold V; rw [BitVec.toNat_ushiftRight,Nat.shiftRight_eq_div_pow]; omega
theorem V_one : (1 : Int) = V 1#32 := by decide
theorem V_odd (a : BitVec 32) : (3988292384 * bits .and .u32 (V a) 1) % 4294967296 = V (if a.getLsbD 0 then CrcP.poly else 0#32) := by
 rw [V_one,V_and]
 have h : a &&& 1#32 = if a.getLsbD 0 then 1#32 else 0#32 := by
   apply BitVec.eq_of_getLsbD_eq
   intro i hi
   rw [BitVec.getLsbD_and,BitVec.getLsbD_one]
   rcases Nat.eq_zero_or_pos i with rfl | hp
   · cases a.getLsbD 0 <;> simp
   · have : i ≠ 0 := by omega
     cases a.getLsbD 0 <;> simp [this]
 rw [h]
 cases a.getLsbD 0 <;> decide
theorem V_st (a : BitVec 32) : bits .xor .u32 (V a / (2 : Int)) ((3988292384 * bits .and .u32 (V a) 1) % 4294967296) = V (CrcP.st a) := by
 rw [V_odd,V_shr1,V_xor]; rfl
theorem V_bw (a : BitVec 32) (x : UInt8) : bits .xor .u32 (V a) (x.toNat : Int) = V (a ^^^ CrcP.bw x) := by
 rw [← V_xor]
 have : V (CrcP.bw x) = (x.toNat : Int) := by unfold V; rw [CrcP.bw_toNat]
 rw [this]
def stN : Nat → BitVec 32 → BitVec 32
 | 0,c => c
 | j + 1,c => CrcP.st (stN j c)
theorem stN_8 (c : BitVec 32) : stN 8 c = CrcP.st8 c := rfl
theorem V_in (a : BitVec 32) (x : UInt8) : bits .xor .u32 (V a) ((x.toNat : Int) % 4294967296) = V (a ^^^ CrcP.bw x) := by
 have : (x.toNat : Int) % 4294967296 = (x.toNat : Int) := by have := x.toNat_lt; omega
 rw [this,V_bw]
theorem run_snoc (s : BitVec 32) (l : List UInt8) (k : Nat) (x : UInt8) (h : l[k]? = some x) : CrcP.run s (l.take (k + 1)) = CrcP.st8 (CrcP.run s (l.take k) ^^^ CrcP.bw x) := by
 rw [List.take_add_one,h,CrcP.run_append]; rfl
theorem add_any (s : BitVec 32) (A : Option Addr) (n c : Nat) (l : List UInt8) (w : World) (hr : Rd w A n c l) :
   Calls Tryz.prog 173 #[.int .u32 (V s),.slice A n c] w fun e w' => e = .returned (.int .u32 (V (CrcP.add s l))) ∧ w = w' := by
 have hn : n ≤ maxLen := by have := hr.2.1; have := hr.2.2.1; omega
 unfold maxLen at hn
 have Hll := hide hr.1
 go_enter Tryz.func173,Tryz.ntmps173
 go_wp2
 simp only [V_not]
 go_loop [5,13] (fun x i => ∃ k : Nat,k ≤ n ∧ i = .int .i64 k ∧ x = .int .u32 (V (CrcP.run (~~~ s) (l.take k)))) (fun _ i => n - (intOf i).toNat)
 case atStart => exact ⟨0,Nat.zero_le _,rfl,rfl⟩
 case round =>
   obtain ⟨k,hk,rfl,rfl⟩ := hrel
   by_cases hlt : k < n
   · obtain ⟨ad,x,rfl,hx,hc⟩ := hr.at_ hlt
     have hx' := hide hx
     clear hx
     go_wp2
     simp only [V_in]
     generalize hq : CrcP.run (~~~s) (List.take k l) ^^^ CrcP.bw x = q
     have hq' := hide hq
     clear hq
     go_loop [5,21] (fun y j => ∃ i : Nat,i ≤ 8 ∧ j = .int .i64 i ∧ y = .int .u32 (V (stN i q))) (fun _ j => 8 - (intOf j).toNat)
     case atStart => exact ⟨0,Nat.zero_le _,rfl,rfl⟩
     case round =>
       obtain ⟨i,hi,rfl,rfl⟩ := hrel
       by_cases h8 : i < 8
       · go_wp2
         go_round
         case rel => exact ⟨i + 1,by omega,by go_num,by rw [V_st]; rfl⟩
         case measure => simp [intOf]; omega
       · go_wp2
         go_round
         case rel => exact ⟨k + 1,by omega,by go_num,by rw [run_snoc _ _ _ _ hx'.out,hq'.out,← stN_8,show i = 8 by omega]⟩
         case measure => simp [intOf]; omega
   · go_wp2
     simp only [V_not]
     go_ret
     exact ⟨by rw [show k = n by omega,← Hll.out,List.take_length]; rfl,rfl⟩
theorem V_zero : (0 : Int) = V 0#32 := by decide
theorem sum_any (A : Option Addr) (n c : Nat) (l : List UInt8) (w : World) (hr : Rd w A n c l) :
   Calls Tryz.prog 127 #[.slice A n c] w fun e w' => e = .returned (.int .u32 (V (CrcP.sum l))) ∧ w = w' := by
 go_enter Tryz.func127,Tryz.ntmps127
 go_wp2_with (go_at_call 173; rw [V_zero]; refine (add_any _ _ _ _ l _ hr).mono ?_; rintro e w' ⟨rfl,rfl⟩)
 go_ret
 exact ⟨rfl,rfl⟩
theorem isByte : IsByte Tryz.prog 5 := by unfold IsByte; kernel_rfl
def four (s : BitVec 32) : List UInt8 := [byt (V s / 16777216),byt (V s / 65536),byt (V s / 256),byt (V s)]
theorem four_snoc (s : BitVec 32) (k : Nat) (h : k < 4) : (four s).take (k + 1) = (four s).take k ++ [byt (V s / 2 ^ (24 - 8 * k))] := by
 match k,h with
 | 0,_ => rfl
 | 1,_ => rfl
 | 2,_ => rfl
 | 3,_ => simp [four]
def putL (l : List UInt8) : List UInt8 := l ++ four (CrcP.sum l)
theorem put_any (A : Option Addr) (n c : Nat) (l : List UInt8) (w : World) (hr : Rd w A n c l) (hn : n ≤ 1000000) :
   Calls Tryz.prog 73 #[.slice A n c] w fun e w' => ∃ A' c',e = .returned (.slice A' (n + 4) c') ∧ Own w' w.heap.size 5 A' (n + 4) c' (putL l) ∧ Below w.heap.size w w' := by
 go_enter Tryz.func73,Tryz.ntmps73
 go_wp2_with (first
   | (at_builtin
      refine wpList_append8 w rfl _ _ _ rfl w.heap.size 5 Tryz.underlying22 isByte none 0 0 [] rfl (Own.nil _ _ _) A n c l rfl hr (by omega) (Nat.le_refl _) ?_
      intro A1 c1 w1 ho1 hb1 _ _)
   | (go_at_call 127; refine (sum_any _ _ _ l _ (hr.below hb1)).mono ?_; rintro e w' ⟨rfl,rfl⟩))
 have hb1' := hb1
 go_loopw [3,5] (fun v i wr => ∃ k A' c',k ≤ 4 ∧ i = .int .i64 (24 - 8 * (k : Nat)) ∧ v = .slice A' (n + k) c' ∧ Own wr w.heap.size 5 A' (n + k) c' (l ++ (four (CrcP.sum l)).take k) ∧ Below w.heap.size w wr) (fun _ i _ => (intOf i + 8).toNat)
 case atStart => exact ⟨0,A1,c1,by omega,by go_num,rfl,by simpa using ho1,hb1⟩
 case round =>
   obtain ⟨k,A2,c2,hk,rfl,rfl,ho2,hb2⟩ := hrel
   by_cases h4 : k = 4
   · subst h4
     go_wp2
     go_ret
     exact ⟨A2,c2,rfl,ho2,hb2⟩
   · have hk3 : 8 * (k : Int) ≤ 24 := by omega
     go_wp2_with (at_builtin
                  refine wpList_append8 _ rfl _ _ _ rfl w.heap.size 5 Tryz.underlying22 isByte A2 (n + k) c2 _ rfl (ho2.alloc _) (some ⟨wr.heap.size,0,none⟩) 1 1 [byt (V (CrcP.sum l) / 2 ^ (24 - 8 * k))] rfl (Rd.one _ _ _) (by omega) (by have := hb2.size; simp; omega) ?_
                  intro A3 c3 w3 ho3 hb3 _ _)
     go_roundw
     case rel => exact ⟨k + 1,A3,c3,by omega,by go_num,rfl,by rw [four_snoc _ _ (by omega),← List.append_assoc]; exact ho3,(hb2.alloc hb2.size _).trans hb3⟩
     case measure => simp [intOf]; omega
theorem conv22 {w : World} {A : Option Addr} {n c : Nat} {l : List UInt8} (h : Rd w A n c l) : (convert 22 9 (.slice A n c)).run Tryz.prog w = .ok (.string (str l)) w :=
 h.conv 22 9 5 Tryz.underlying22 Tryz.underlying5 Tryz.underlying9
theorem right_no (A : Option Addr) (n c : Nat) (l : List UInt8) (w : World) (hr : Rd w A n c l) (hn : 4 ≤ n) (hn2 : n ≤ 1000000) (he : putL (l.take (n - 4)) ≠ l) :
   Calls Tryz.prog 81 #[.slice A n c] w fun e w' => e = .returned (.tuple #[.slice none 0 0,.bool false]) ∧ Below w.heap.size w w' := by
 have h4 : (0 : Int) ≤ (n : Int) - 4 := by omega
 have h5 : (n : Int) - 4 ≤ (c : Int) := by have := hr.2.1; omega
 have hd : decide ((n : Int) - 4 < 0) = false := by simp; omega
 have hs := str_other he
 go_enter Tryz.func81,Tryz.ntmps81
 go_wp2_with fail
 have Hc : ∀ w',Rd w' A n c l → (convert 22 9 (.slice A n c)).run Tryz.prog w' = .ok (.string (str l)) w' := fun w' h => conv22 h
 go_region_held (fun w' => Rd w' A n c l) (first | exact hr | exact Rd.below (w := w.drew) hr hb1)
   ((go_at_call 73; refine (put_any _ _ _ _ _ (Rd.hi (w := w.drew) hr (by omega)) (by omega)).mono ?_; rintro e w1 ⟨A1,c1,rfl,ho1,hb1⟩; have hcv : (convert 22 9 (.slice A1 n c1)).run Tryz.prog w1 = _ := conv22 (n := n) (by have hq := ho1.rd; rwa [Nat.sub_add_cancel hn] at hq)))
 go_wp2_with fail
 go_ret2
 exact ⟨rfl,undrew hb1⟩
theorem right_yes (A : Option Addr) (n c : Nat) (l : List UInt8) (w : World) (hr : Rd w A n c l) (hn : 4 ≤ n) (hn2 : n ≤ 1000000) (he : putL (l.take (n - 4)) = l) :
   Calls Tryz.prog 81 #[.slice A n c] w fun e w' => ∃ A' c',e = .returned (.tuple #[.slice A' (n - 4) c',.bool true]) ∧ Own w' w.heap.size 5 A' (n - 4) c' (l.take (n - 4)) ∧ Below w.heap.size w w' := by
 have h4 : (0 : Int) ≤ (n : Int) - 4 := by omega
 have h5 : (n : Int) - 4 ≤ (c : Int) := by have := hr.2.1; omega
 have hd : decide ((n : Int) - 4 < 0) = false := by simp; omega
 have hs := str_same he
 have He := hide he
 clear he
 go_enter Tryz.func81,Tryz.ntmps81
 go_wp2_with fail
 have Hc : ∀ w',Rd w' A n c l → (convert 22 9 (.slice A n c)).run Tryz.prog w' = .ok (.string (str l)) w' := fun w' h => conv22 h
 go_region_held (fun w' => Rd w' A n c l) (first | exact hr | exact Rd.below (w := w.drew) hr hb1)
   ((go_at_call 73; refine (put_any _ _ _ _ _ (Rd.hi (w := w.drew) hr (by omega)) (by omega)).mono ?_; rintro e w1 ⟨A1,c1,rfl,ho1,hb1⟩; have hcv : (convert 22 9 (.slice A1 n c1)).run Tryz.prog w1 = _ := conv22 (n := n) (by have hq := ho1.rd; rwa [Nat.sub_add_cancel hn] at hq)))
 have hb1' : Below w.heap.size w w1 := undrew hb1
 go_wp2_with (at_builtin
              refine wpList_append8 _ rfl _ _ _ rfl w.heap.size 5 Tryz.underlying22 isByte none 0 0 [] rfl (Own.nil _ _ _) A (n - 4) c _ rfl (Rd.hi (Rd.below (w := w) hr hb1') (by omega)) (by omega) hb1'.size ?_
              intro A3 c3 w3 ho3 hb3 _ _)
 go_ret2
 exact ⟨A3,c3,by simp,by simpa using ho3,hb1'.trans hb3⟩
theorem rem_nat (x : Int) (m : Nat) (hm : 0 < m) (hs : m ≤ 1000000) : ∃ k : Nat,k < m ∧ wrap64 ((IntKind.u64.wrap x).tmod (m : Int)) = (k : Int) := by
 have h0 : 0 ≤ IntKind.u64.wrap x := wrap_u64_nonneg x
 rw [Int.tmod_eq_emod_of_nonneg h0]
 have h1 := Int.emod_nonneg (IntKind.u64.wrap x) (b := (m : Int)) (by omega)
 have h2 := Int.emod_lt_of_pos (IntKind.u64.wrap x) (b := (m : Int)) (by omega)
 refine ⟨(IntKind.u64.wrap x % (m : Int)).toNat,by omega,?_⟩
 unfold wrap64
 omega
theorem V_inj {a b : BitVec 32} (h : V a = V b) : a = b := by
 unfold V at h
 exact BitVec.eq_of_toNat_eq (by omega)
theorem four_inj {s t : BitVec 32} (h : four s = four t) : s = t := by
 unfold four at h
 simp only [List.cons.injEq,and_true] at h
 obtain ⟨h1,h2,h3,h4⟩ := h
 have e1 := congrArg (fun x : UInt8 => (x.toNat : Int)) h1
 have e2 := congrArg (fun x : UInt8 => (x.toNat : Int)) h2
 have e3 := congrArg (fun x : UInt8 => (x.toNat : Int)) h3
 have e4 := congrArg (fun x : UInt8 => (x.toNat : Int)) h4
 simp only [byt_val] at e1 e2 e3 e4
 have := V_bd s
 have := V_bd t
 exact V_inj (by omega)
theorem four_len (s : BitVec 32) : (four s).length = 4 := rfl
theorem putL_len (l : List UInt8) : (putL l).length = l.length + 4 := by simp [putL,four_len]
theorem putL_take (l : List UInt8) : (putL l).take l.length = l := by simp [putL]
def Rt (q : List UInt8) : Prop := putL (q.take (q.length - 4)) = q
theorem rt_iff (a f : List UInt8) (hf : f.length = 4) : Rt (a ++ f) ↔ four (CrcP.sum a) = f := by
 unfold Rt
 have e : (a ++ f).length - 4 = a.length := by simp [hf]
 rw [e,List.take_left]
 unfold putL
 exact List.append_right_inj a
theorem rt_put (l : List UInt8) : Rt (putL l) := (rt_iff l _ (four_len _)).2 rfl
def bend (q : List UInt8) (k : Nat) (x y : UInt8) : List UInt8 := (q.set k (q.getD k 0 ^^^ x)).set (k + 1) (q.getD (k + 1) 0 ^^^ y)
theorem bend_split (pre suf : List UInt8) (a b x y : UInt8) : bend (pre ++ a :: b :: suf) pre.length x y = pre ++ (a ^^^ x) :: (b ^^^ y) :: suf := by
 unfold bend
 have h1 : (pre ++ a :: b :: suf).getD pre.length 0 = a := by simp [List.getD_eq_getElem?_getD]
 have h2 : (pre ++ a :: b :: suf).getD (pre.length + 1) 0 = b := by simp [List.getD_eq_getElem?_getD]
 rw [h1,h2,List.set_append_right _ _ (Nat.le_refl _),Nat.sub_self,List.set_cons_zero,List.set_append_right _ _ (by omega),Nat.add_sub_cancel_left,List.set_cons_succ,List.set_cons_zero]
theorem split_at {q : List UInt8} {k : Nat} (h : k + 1 < q.length) : ∃ pre a b suf,q = pre ++ a :: b :: suf ∧ pre.length = k := by
 refine ⟨q.take k,q[k],q[k + 1],q.drop (k + 2),?_,by simp; omega⟩
 have e1 : q.drop k = q[k] :: q.drop (k + 1) := List.drop_eq_getElem_cons (by omega)
 have e2 : q.drop (k + 1) = q[k + 1] :: q.drop (k + 2) := List.drop_eq_getElem_cons h
 rw [← e2,← e1,List.take_append_drop]
theorem xor_right_eq {a x : UInt8} : a ^^^ x = a ↔ x = 0 := by
 constructor
 · intro h
   have := congrArg (a ^^^ ·) h
   simpa [← UInt8.xor_assoc] using this
 · rintro rfl; simp
theorem eq_xor_right {a x : UInt8} : a = a ^^^ x ↔ x = 0 := by rw [eq_comm]; exact xor_right_eq
theorem byt_bits (a : BitVec 32) (k : Nat) : byt (V a / 2 ^ k) = UInt8.ofBitVec ((a >>> k).setWidth 8) := by
 apply UInt8.toNat_inj.1
 have h := byt_val (V a / 2 ^ k)
 have e : (UInt8.ofBitVec ((a >>> k).setWidth 8)).toNat = (a.toNat / 2 ^ k) % 256 := by
   simp [Nat.shiftRight_eq_div_pow]
 rw [e]
 unfold V at h ⊢
 have : ((a.toNat : Int) / 2 ^ k) = ((a.toNat / 2 ^ k : Nat) : Int) := by simp
 rw [this] at h ⊢
 omega
theorem four_bits (a : BitVec 32) : four a = [UInt8.ofBitVec ((a >>> 24).setWidth 8),UInt8.ofBitVec ((a >>> 16).setWidth 8),UInt8.ofBitVec ((a >>> 8).setWidth 8),UInt8.ofBitVec (a.setWidth 8)] := by
 unfold four
 rw [← byt_bits,← byt_bits,← byt_bits]
 have := byt_bits a 0
 rw [Int.pow_zero,Int.ediv_one,BitVec.ushiftRight_zero] at this
 rw [this]
 rfl
theorem four_top (a : BitVec 32) (y : UInt8) : ∃ f1 f2 f3,four a = [byt (V a / 16777216),f1,f2,f3] ∧ four (a ^^^ CrcP.bw y <<< 24) = [byt (V a / 16777216) ^^^ y,f1,f2,f3] := by
 have e0 : byt (V a / 16777216) = UInt8.ofBitVec ((a >>> 24).setWidth 8) := byt_bits a 24
 refine ⟨_,_,_,four_bits a |>.trans (by rw [e0]),?_⟩
 rw [four_bits,e0]
 have k (j : Nat) (hj : j + 8 ≤ 24) : ((a ^^^ CrcP.bw y <<< 24) >>> j).setWidth 8 = (a >>> j).setWidth 8 := by
   apply BitVec.eq_of_getLsbD_eq
   intro i hi
   simp only [BitVec.getLsbD_setWidth,BitVec.getLsbD_ushiftRight,BitVec.getLsbD_xor,BitVec.getLsbD_shiftLeft]
   have : j + i < 24 := by omega
   simp [this]
 have k0 := k 0 (by omega)
 rw [BitVec.ushiftRight_zero,BitVec.ushiftRight_zero] at k0
 rw [k 16 (by omega),k 8 (by omega),k0]
 congr 1
 apply UInt8.toBitVec_inj.1
 rw [UInt8.toBitVec_xor]
 show ((a ^^^ CrcP.bw y <<< 24) >>> 24).setWidth 8 = (a >>> 24).setWidth 8 ^^^ y.toBitVec
 apply BitVec.eq_of_getLsbD_eq
 intro i hi
 simp only [BitVec.getLsbD_setWidth,BitVec.getLsbD_ushiftRight,BitVec.getLsbD_xor,BitVec.getLsbD_shiftLeft,CrcP.bw]
 have h1 : 24 + i < 32 := by omega
 have h2 : ¬ 24 + i < 24 := by omega
 have h3 : 24 + i - 24 = i := by omega
 have h4 : i < 32 := by omega
 simp [h1,h3,h4,hi]
theorem sum_last (pre : List UInt8) (b x : UInt8) : CrcP.sum (pre ++ [b ^^^ x]) = CrcP.sum (pre ++ [b]) ^^^ CrcP.run 0#32 [x] := by
 unfold CrcP.sum
 rw [← CrcP.add_append,← CrcP.add_append]
 generalize CrcP.add 0#32 pre = s
 unfold CrcP.add
 have h := CrcP.run_xor [b] [x] rfl (~~~ s) 0#32
 rw [BitVec.xor_zero] at h
 have e : List.zipWith (· ^^^ ·) [b] [x] = [b ^^^ x] := rfl
 rw [e] at h
 rw [h]
 generalize CrcP.run (~~~ s) [b] = p
 generalize CrcP.run 0#32 [x] = q
 rw [← BitVec.xor_allOnes,← BitVec.xor_allOnes (x := p),BitVec.xor_assoc,BitVec.xor_assoc,BitVec.xor_comm q]
theorem told (l : List UInt8) (k : Nat) (hk : k < l.length + 3) (x y : UInt8) : Rt (bend (putL l) k x y) ↔ x = 0 ∧ y = 0 := by
 rcases Nat.lt_or_ge (k + 1) l.length with h1 | h1
 · obtain ⟨pre,a,b,suf,rfl,rfl⟩ := split_at h1
   have e : putL (pre ++ a :: b :: suf) = pre ++ a :: b :: (suf ++ four (CrcP.sum (pre ++ a :: b :: suf))) := by simp [putL]
   rw [e,bend_split]
   have e2 : pre ++ (a ^^^ x) :: (b ^^^ y) :: (suf ++ four (CrcP.sum (pre ++ a :: b :: suf))) = (pre ++ [a ^^^ x,b ^^^ y] ++ suf) ++ four (CrcP.sum (pre ++ [a,b] ++ suf)) := by simp
   rw [e2,rt_iff _ _ (four_len _)]
   constructor
   · intro h
     exact (CrcP.two 0#32 pre suf a b x y).1 (four_inj h)
   · intro h
     exact congrArg four ((CrcP.two 0#32 pre suf a b x y).2 h)
 · rcases Nat.lt_or_ge k l.length with h2 | h2
   · obtain ⟨pre,a,rfl,rfl⟩ : ∃ pre a,l = pre ++ [a] ∧ pre.length = k := by
       refine ⟨l.take k,l[k],?_,by simp; omega⟩
       have e1 : l.drop k = l[k] :: l.drop (k + 1) := List.drop_eq_getElem_cons h2
       have e2 : l.drop (k + 1) = [] := List.drop_of_length_le (by omega)
       rw [← e2,← e1,List.take_append_drop]
     obtain ⟨f1,f2,f3,hf,hg⟩ := four_top (CrcP.sum (pre ++ [a])) y
     have e : putL (pre ++ [a]) = pre ++ a :: byt (V (CrcP.sum (pre ++ [a])) / 16777216) :: [f1,f2,f3] := by rw [putL,hf]; simp
     rw [e,bend_split]
     have e2 : pre ++ (a ^^^ x) :: (byt (V (CrcP.sum (pre ++ [a])) / 16777216) ^^^ y) :: [f1,f2,f3] = (pre ++ [a ^^^ x]) ++ four (CrcP.sum (pre ++ [a]) ^^^ CrcP.bw y <<< 24) := by rw [hg]; simp
     rw [e2,rt_iff _ _ (four_len _)]
     constructor
     · intro h
       have h := four_inj h
       rw [sum_last] at h
       refine CrcP.edge_zero ?_
       have h2 := congrArg (CrcP.sum (pre ++ [a]) ^^^ ·) h
       simpa only [← BitVec.xor_assoc,BitVec.xor_self,BitVec.zero_xor] using h2
     · rintro ⟨rfl,rfl⟩
       have e3 : CrcP.bw 0 <<< 24 = 0#32 := by decide
       simp [e3]
   · have hlt : k + 1 < (putL l).length := by rw [putL_len]; omega
     obtain ⟨j,hj,hj3⟩ : ∃ j,k = l.length + j ∧ j < 3 := ⟨k - l.length,by omega,by omega⟩
     subst hj
     obtain ⟨p,a,b,s,hf,hp⟩ := split_at (q := four (CrcP.sum l)) (k := j) (by rw [four_len]; omega)
     have e : putL l = (l ++ p) ++ a :: b :: s := by rw [putL,hf]; simp
     have hl : l.length + j = (l ++ p).length := by simp [hp]
     have e2 : bend (putL l) (l.length + j) x y = l ++ (p ++ (a ^^^ x) :: (b ^^^ y) :: s) := by rw [e,hl,bend_split]; simp
     have hlen : (p ++ (a ^^^ x) :: (b ^^^ y) :: s).length = 4 := by
       have := four_len (CrcP.sum l)
       rw [hf] at this
       simpa using this
     rw [e2,rt_iff _ _ hlen,hf,List.append_right_inj]
     simp only [List.cons.injEq,and_true]
     rw [eq_xor_right,eq_xor_right]
theorem right_not (A : Option Addr) (n c : Nat) (l : List UInt8) (w : World) (hr : Rd w A n c l) (hn : 4 ≤ n) (hn2 : n ≤ 1000000) (he : ¬ Rt l) :
   Calls Tryz.prog 81 #[.slice A n c] w fun e w' => e = .returned (.tuple #[.slice none 0 0,.bool false]) ∧ Below w.heap.size w w' :=
 right_no A n c l w hr hn hn2 (by unfold Rt at he; rw [hr.1] at he; exact he)
theorem right_is (A : Option Addr) (n c : Nat) (l : List UInt8) (w : World) (hr : Rd w A n c l) (hn : 4 ≤ n) (hn2 : n ≤ 1000000) (he : Rt l) :
   Calls Tryz.prog 81 #[.slice A n c] w fun e w' => ∃ A' c',e = .returned (.tuple #[.slice A' (n - 4) c',.bool true]) ∧ Own w' w.heap.size 5 A' (n - 4) c' (l.take (n - 4)) ∧ Below w.heap.size w w' :=
 right_yes A n c l w hr hn hn2 (by unfold Rt at he; rw [hr.1] at he; exact he)
theorem xor_u8 (a b : UInt8) : bits .xor .u8 (a.toNat : Int) (b.toNat : Int) = ((a ^^^ b).toNat : Int) := by
 rw [u8_xor_nat _ _ a.toNat_lt b.toNat_lt,UInt8.toNat_xor]
theorem Own.lit (w : World) (base : Nat) (e : TypeId) (cs : Array Value) {l : List UInt8} (h : cs.toList = bys l) (hl : l.length ≤ maxLen) (hb : base ≤ w.heap.size) :
   Own (w.alloc (.cells cs e)) base e (some ⟨w.heap.size,0,none⟩) l.length l.length l := by
 have hs : cs.size = l.length * 1 := by rw [← Array.length_toList,h,bys_len,Nat.mul_one]
 have := World.ownsRow_lit (base := base) (e := e) (size := 1) w cs l.length hb hl hs
 rw [h] at this
 exact this
def RdL (w : World) (A : Option Addr) (n c : Nat) (ls : List (List UInt8)) : Prop :=
 ls.length = n ∧ n ≤ c ∧ c ≤ maxLen ∧ (0 < n → ∃ ad,A = some ad ∧ ∀ j l,ls[j]? = some l → ∃ A' n' c',w.cell? (ad.add j) = some (.slice A' n' c') ∧ Rd w A' n' c' l)
theorem RdL.at_ {w : World} {A : Option Addr} {n c : Nat} {ls : List (List UInt8)} (h : RdL w A n c ls) {k : Nat} (hk : k < n) :
   ∃ ad l A' n' c',A = some ad ∧ ls[k]? = some l ∧ w.cell? (ad.add k) = some (.slice A' n' c') ∧ Rd w A' n' c' l := by
 obtain ⟨h1,_,_,h3⟩ := h
 obtain ⟨ad,e,hc⟩ := h3 (by omega)
 have hl : k < ls.length := by omega
 obtain ⟨A',n',c',hq,hr⟩ := hc k _ (List.getElem?_eq_getElem hl)
 exact ⟨ad,ls[k],A',n',c',e,List.getElem?_eq_getElem hl,hq,hr⟩
theorem RdL.below {w w' : World} {A : Option Addr} {n c : Nat} {ls : List (List UInt8)} (h : RdL w A n c ls) (hb : Below w.heap.size w w') : RdL w' A n c ls :=
 ⟨h.1,h.2.1,h.2.2.1,fun hn => by
   obtain ⟨ad,e,hc⟩ := h.2.2.2 hn
   refine ⟨ad,e,fun j l hj => ?_⟩
   obtain ⟨A',n',c',hq,hr⟩ := hc j l hj
   exact ⟨A',n',c',(hb.cell (World.block_lt_of_cell? w _ hq)).trans hq,hr.below hb⟩⟩
theorem RdL.new (w : World) (e : TypeId) (cs : Array Value) (ls : List (List UInt8)) (hl : ls.length ≤ maxLen)
   (h : ∀ (j : Nat) (l : List UInt8),ls[j]? = some l → ∃ A' n' c',cs[j]? = some (Value.slice A' n' c') ∧ Rd w A' n' c' l) :
   RdL (w.alloc (.cells cs e)) (some ⟨w.heap.size,0,none⟩) ls.length ls.length ls :=
 ⟨rfl,Nat.le_refl _,hl,fun _ => ⟨_,rfl,fun j l hj => by
   obtain ⟨A',n',c',hq,hr⟩ := h j l hj
   refine ⟨A',n',c',?_,hr.alloc _⟩
   rw [addAt,cell_of_row (w.alloc (.cells cs e)) w.heap.size j cs e (0,0) (heap_alloc_new w _)]
   exact hq⟩⟩
end Go.Proofs.YtkkcpblfheplaaaGreatDoor
