/- Contracts of functions that the laws of downpourtop reach, and plain facts; no condition beyond what each theorem states. -/
import Derived.Test.YtkkcpblfheplaaaGreatDoorMD02
import Derived.Laws.Rows
import Derived.Laws.Tables
import Derived.OneCell
import Derived.Deep.RegionWith
import Derived.StillTailTactics
import Derived.Deep.CutRange
import Derived.Deep.DeepCutAuto
import Derived.Deep.Cut
import Derived.Deep.DeepMust
set_option maxRecDepth 100000
set_option maxHeartbeats 8000000
set_option linter.all false
namespace Go.Proofs.YtkkcpblfheplaaaGreatDoor
open Go.RowKit
theorem V_or (a b : BitVec 32) : bits .or .u32 (V a) (V b) = V (a ||| b) := by
 unfold V
 rw [u32_or_nat _ _ a.isLt b.isLt,BitVec.toNat_or]
theorem V_add (a b : BitVec 32) : (V a + V b) % 4294967296 = V (a + b) := by
 unfold V
 rw [BitVec.toNat_add]
 omega
theorem V_shr (a : BitVec 32) (k : Nat) : V a / (2 : Int) ^ k = V (a >>> k) := by
 unfold V
 rw [BitVec.toNat_ushiftRight,Nat.shiftRight_eq_div_pow]
 simp
theorem V_shl (a : BitVec 32) (k : Nat) : V a * (2 : Int) ^ k % 4294967296 = V (a <<< k) := by
 unfold V
 rw [BitVec.toNat_shiftLeft,Nat.shiftLeft_eq]
 simp
def rotr (x : BitVec 32) (n : Nat) : BitVec 32 := x >>> n ||| x <<< (32 - n)
theorem and31 (n : Nat) (hn0 : 0 < n) (hn : n < 32) : bits .and .u64 (IntKind.u64.wrap (-(n : Int))) 31 = (((32 - n : Nat)) : Int) := by
 have : ∀ m : Nat,m < 32 → 0 < m → bits .and .u64 (IntKind.u64.wrap (-(m : Int))) 31 = (((32 - m : Nat)) : Int) := by decide +kernel
 exact this n hn hn0
theorem rotl_any (x : BitVec 32) (n : Nat) (hn0 : 0 < n) (hn : n < 32) (w : World) : Calls Tryz.prog 167 #[.int .u32 (V x),.int .i64 (-(n : Int))] w fun e w' => e = .returned (.int .u32 (V (rotr x n))) ∧ w = w' := by
 have hA := and31 n hn0 hn
 obtain ⟨k,hk⟩ : ∃ k,32 - n = k := ⟨_,rfl⟩
 rw [hk] at hA
 have Hk := hide hk
 have hk1 : k < 32 := by omega
 have hk2 : (k : Int) < 32 := by omega
 clear hk
 have hb := V_bd x
 go_enter Tryz.func167,Tryz.ntmps167
 go_wp2_with fail
 go_ret
 refine ⟨?_,rfl⟩
 rw [V_shl,V_shr,V_or]
 unfold rotr
 rw [Hk.out,show 32 - k = n by have := Hk.out; omega,BitVec.or_comm]
 rfl
theorem turned_any (x : BitVec 32) (n : Nat) (hn0 : 0 < n) (hn : n < 32) (w : World) : Calls Tryz.prog 114 #[.int .u32 (V x),.int .i64 n] w fun e w' => e = .returned (.int .u32 (V (rotr x n))) ∧ w = w' := by
 have h1 : (0 : Int) < (n : Int) := by omega
 have h2 : (n : Int) < 32 := by omega
 go_enter Tryz.func114,Tryz.ntmps114
 go_wp2_with fail
 refine (rotl_any x n hn0 hn w).mono ?_
 rintro e w1 ⟨rfl,rfl⟩
 go_wp2_with fail
 go_ret
 exact ⟨rfl,rfl⟩
theorem turn_any (x : BitVec 32) (n : Nat) (hn0 : 0 < n) (hn : n < 32) (w : World) : Calls Tryz.prog 58 #[.int .u32 (V x),.int .u64 n] w fun e w' => e = .returned (.int .u32 (V (rotr x n))) ∧ w = w' := by
 have h1 : (0 : Int) < (n : Int) := by omega
 have h2 : (n : Int) < 32 := by omega
 have hb := V_bd x
 go_enter Tryz.func58,Tryz.ntmps58
 go_wp2_with fail
 go_ret
 refine ⟨?_,rfl⟩
 rw [V_shl,V_shr,V_or]
 rfl
def cw (L : List (BitVec 32)) : Array Value := (L.map fun x => Value.int .u32 (V x)).toArray
theorem cw_size (L : List (BitVec 32)) : (cw L).size = L.length := by simp [cw]
theorem cw_get (L : List (BitVec 32)) (i : Nat) (h : i < L.length) : (cw L)[i]? = some (.int .u32 (V (L.getD i 0#32))) := by
 unfold cw
 simp [List.getD_eq_getElem?_getD,h]
theorem cw_set (L : List (BitVec 32)) (i : Nat) (x : BitVec 32) : (cw L).setIfInBounds i (.int .u32 (V x)) = cw (L.set i x) := by
 unfold cw
 apply Array.ext'
 simp
theorem cw_one (L : List (BitVec 32)) : (cw L).all (·.oneCell') = true := by
 unfold cw
 simp [Value.oneCell']
def Arr (w : World) (g : Nat) (t : TypeId) (L : List (BitVec 32)) : Prop := w.heap[g]? = some (.cells (cw L) t (0,0))
section
variable {w w' : World} {g : Nat} {t : TypeId} {L : List (BitVec 32)}
theorem Arr.lt (h : Arr w g t L) : g < w.heap.size := lt_of_block h
theorem Arr.cell (h : Arr w g t L) {i : Nat} (hi : i < L.length) : w.cell? ⟨g,i,none⟩ = some (.int .u32 (V (L.getD i 0#32))) := by
 rw [cell_of_row w g i _ _ _ h,cw_get L i hi]
theorem Arr.free (h : Arr w g t L) (i : Nat) : w.frozen? ⟨g,i,none⟩ = false := by
 unfold Arr at h
 simp [World.frozen?,h]
theorem Arr.below (h : Arr w g t L) (hb : Below w.heap.size w w') : Arr w' g t L := (hb.block g h.lt).trans h
theorem Arr.set (h : Arr w g t L) (i : Nat) (x : BitVec 32) : Arr (w.setCell ⟨g,i,none⟩ (.int .u32 (V x))) g t (L.set i x) := by
 have hlt := h.lt
 unfold Arr at h ⊢
 have h' : w.heap[g] = .cells (cw L) t (0,0) := by simpa [Array.getElem?_eq_getElem hlt] using h
 show (w.heap.modify g _)[g]? = _
 rw [Array.getElem?_eq_getElem (by simpa using hlt),Array.getElem_modify_self,h',← cw_set]
 rfl
theorem Arr.other (h : Arr w g t L) {a : Addr} (ha : g ≠ a.block) (v : Value) : Arr (w.setCell a v) g t L := by
 unfold Arr
 rw [Below.heap_setCell _ _ _ _ ha]
 exact h
theorem Arr.new (w : World) (t : TypeId) (L : List (BitVec 32)) : Arr (w.alloc (.cells (cw L) t)) w.heap.size t L := heap_alloc_new w _
theorem Arr.alloc (h : Arr w g t L) (o : Obj) : Arr (w.alloc o) g t L := (Below.heap_alloc w o g h.lt).trans h
end
def H0 : List (BitVec 32) := [0x6a09e667#32,0xbb67ae85#32,0x3c6ef372#32,0xa54ff53a#32,0x510e527f#32,0x9b05688c#32,0x1f83d9ab#32,0x5be0cd19#32]
theorem begin_any (w : World) : Calls Tryz.prog 52 #[] w fun e w' => e = .returned (.agg (cw H0)) ∧ Below w.heap.size w w' := by
 go_enter Tryz.func52,Tryz.ntmps52
 go_wp2_with fail
 have e0 : (#[Value.int IntKind.u32 1779033703,Value.int IntKind.u32 3144134277,Value.int IntKind.u32 1013904242,Value.int IntKind.u32 2773480762,Value.int IntKind.u32 1359893119,Value.int IntKind.u32 2600822924,Value.int IntKind.u32 528734635,Value.int IntKind.u32 1541459225] : Array Value) = cw H0 := by simp [cw,H0,V]
 rw [e0]
 refine bodyPost_ret (results_cell_row Tryz.results52 _ _ w.heap.size 102 (cw H0) (0,0) _ rfl (heap_alloc_new w _) Tryz.underlying102 rfl (by kernel_rfl)) rfl ?_
 exact ⟨rfl,(Below.refl _ _).alloc (Nat.le_refl _) _⟩
def KS : List (BitVec 32) := [
 0x428a2f98#32,0x71374491#32,0xb5c0fbcf#32,0xe9b5dba5#32,0x3956c25b#32,0x59f111f1#32,0x923f82a4#32,0xab1c5ed5#32,
 0xd807aa98#32,0x12835b01#32,0x243185be#32,0x550c7dc3#32,0x72be5d74#32,0x80deb1fe#32,0x9bdc06a7#32,0xc19bf174#32,
 0xe49b69c1#32,0xefbe4786#32,0x0fc19dc6#32,0x240ca1cc#32,0x2de92c6f#32,0x4a7484aa#32,0x5cb0a9dc#32,0x76f988da#32,
 0x983e5152#32,0xa831c66d#32,0xb00327c8#32,0xbf597fc7#32,0xc6e00bf3#32,0xd5a79147#32,0x06ca6351#32,0x14292967#32,
 0x27b70a85#32,0x2e1b2138#32,0x4d2c6dfc#32,0x53380d13#32,0x650a7354#32,0x766a0abb#32,0x81c2c92e#32,0x92722c85#32,
 0xa2bfe8a1#32,0xa81a664b#32,0xc24b8b70#32,0xc76c51a3#32,0xd192e819#32,0xd6990624#32,0xf40e3585#32,0x106aa070#32,
 0x19a4c116#32,0x1e376c08#32,0x2748774c#32,0x34b0bcb5#32,0x391c0cb3#32,0x4ed8aa4a#32,0x5b9cca4f#32,0x682e6ff3#32,
 0x748f82ee#32,0x78a5636f#32,0x84c87814#32,0x8cc70208#32,0x90befffa#32,0xa4506ceb#32,0xbef9a3f7#32,0xc67178f2#32]
def packed (L : List (BitVec 32)) (i : Nat) (c : UInt8) : List (BitVec 32) := L.set (i / 4) ((L.getD (i / 4) 0#32) <<< 8 ||| CrcP.bw c)
def mixed (L : List (BitVec 32)) (i : Nat) : BitVec 32 :=
 (rotr (L.getD (i - 2) 0#32) 17 ^^^ rotr (L.getD (i - 2) 0#32) 19 ^^^ L.getD (i - 2) 0#32 >>> 10) + L.getD (i - 7) 0#32 +
   (rotr (L.getD (i - 15) 0#32) 7 ^^^ rotr (L.getD (i - 15) 0#32) 18 ^^^ L.getD (i - 15) 0#32 >>> 3) + L.getD (i - 16) 0#32
def zeros : List (BitVec 32) := List.replicate 64 0#32
def packs (b : List UInt8) : Nat → List (BitVec 32)
 | 0 => zeros
 | k + 1 => packed (packs b k) k (b.getD k 0)
def grows (L : List (BitVec 32)) : Nat → List (BitVec 32)
 | 0 => L
 | k + 1 => (grows L k).set (16 + k) (mixed (grows L k) (16 + k))
def words (b : List UInt8) : List (BitVec 32) := grows (packs b 64) 48
theorem packs_len (b : List UInt8) : ∀ k,(packs b k).length = 64 := by
 intro k
 induction k with
 | zero => simp [packs,zeros]
 | succ k ih => simp [packs,packed,ih]
theorem grows_len (L : List (BitVec 32)) : ∀ k,(grows L k).length = L.length := by
 intro k
 induction k with
 | zero => rfl
 | succ k ih => simp [grows,ih]
def round (x : List (BitVec 32)) (k w : BitVec 32) : List (BitVec 32) :=
 let g := fun i => x.getD i 0#32
 let one := g 7 + (rotr (g 4) 6 ^^^ rotr (g 4) 11 ^^^ rotr (g 4) 25) + (g 4 &&& g 5 ||| ~~~ g 4 &&& g 6) + k + w
 let two := (rotr (g 0) 2 ^^^ rotr (g 0) 13 ^^^ rotr (g 0) 22) + (g 0 &&& g 1 ||| g 0 &&& g 2 ||| g 1 &&& g 2)
 [one + two,g 0,g 1,g 2,g 3 + one,g 4,g 5,g 6]
def rounds (s W : List (BitVec 32)) : Nat → List (BitVec 32)
 | 0 => s
 | k + 1 => round (rounds s W k) (KS.getD k 0#32) (W.getD k 0#32)
def blockOf (s : List (BitVec 32)) (b : List UInt8) : List (BitVec 32) := List.zipWith (· + ·) s (rounds s (words b) 64)
theorem V_byte (c : UInt8) : (c.toNat : Int) % 4294967296 = V (CrcP.bw c) := by
 have := c.toNat_lt
 simp [V,CrcP.bw]
 omega
theorem V_pack (a : BitVec 32) (c : UInt8) : bits .or .u32 (V a * 256 % 4294967296) ((c.toNat : Int) % 4294967296) = V (a <<< 8 ||| CrcP.bw c) := by
 rw [V_byte,show (256 : Int) = (2 : Int) ^ 8 by decide,V_shl,V_or]
theorem V_mix (a b x p c d y q : BitVec 32) : (bits .xor .u32 (bits .xor .u32 (V a) (V b)) (V x / (1024 : Int)) + V p + bits .xor .u32 (bits .xor .u32 (V c) (V d)) (V y / (8 : Int)) + V q) % (4294967296 : Int) =
   V ((a ^^^ b ^^^ x >>> 10) + p + (c ^^^ d ^^^ y >>> 3) + q) := by
 rw [show (1024 : Int) = (2 : Int) ^ 10 by decide,show (8 : Int) = (2 : Int) ^ 3 by decide,V_shr,V_shr,V_xor,V_xor,V_xor,V_xor]
 generalize a ^^^ b ^^^ x >>> 10 = m
 generalize c ^^^ d ^^^ y >>> 3 = n
 unfold V
 simp only [BitVec.toNat_add]
 omega
theorem below_setRow {B : Nat} {a w : World} (h : Below B a w) {g : Nat} (hg : B ≤ g) (cs : Array Value) : Below B a (w.setRow g cs) :=
 h.trans ⟨rfl,rfl,rfl,by simp,fun k hk => setRow_other _ _ _ _ (by omega)⟩
theorem turned_still (x : BitVec 32) (n : Nat) (hn0 : 0 < n) (hn : n < 32) (w : World) : Calls Tryz.prog 114 #[.int .u32 (V x),.int .i64 n] w fun e w'' => e = .returned (.int .u32 (V (rotr x n))) ∧ w'' = w :=
 (turned_any x n hn0 hn w).mono fun _ _ ⟨h1,h2⟩ => ⟨h1,h2.symm⟩
theorem words64_any (A : Option Addr) (c : Nat) (b : List UInt8) (w : World) (hr : Rd w A 64 c b) : Calls Tryz.prog 112 #[.slice A 64 c] w fun e w' => e = .returned (.agg (cw (words b))) ∧ Below w.heap.size w w' := by
 go_enter Tryz.func112,Tryz.ntmps112
 go_wp2_with fail
 go_loopw [11] (fun v11 wr => ∃ i : Nat,i ≤ 64 ∧ v11 = .int .i64 (i : Int) ∧ Arr wr (w.heap.size + 1) 106 (packs b i) ∧ Arr wr w.heap.size 106 zeros ∧ Below w.heap.size w wr) (fun v11 _ => 64 - (intOf v11).toNat)
 case atStart => exact ⟨0,by omega,rfl,by exact heap_alloc2_new w _ _,by exact heap_alloc2_old w _ _,((Below.refl _ _).alloc (Nat.le_refl _) _).alloc (by simp) _⟩
 case round =>
   obtain ⟨i,hi,rfl,ha,hz,hb⟩ := hrel
   by_cases hlt : i < 64
   · have hlt' : (i : Int) < 64 := by omega
     obtain ⟨ad,y,rfl,hy,hc⟩ := (hr.below hb).at_ hlt
     have Hy := hide hy
     clear hy
     obtain ⟨q,hq⟩ : ∃ q,i / 4 = q := ⟨_,rfl⟩
     have hqq : (i : Int) / 4 = (q : Int) := by omega
     have hq16 : q < 16 := by omega
     have hq16' : (q : Int) < 64 := by omega
     have hl := packs_len b i
     have hcell := ha.cell (i := q) (by omega)
     have hfr := ha.free q
     have HP : Hid (packs b (i + 1) = (packs b i).set q ((packs b i).getD q 0#32 <<< 8 ||| CrcP.bw y)) := hide (by
       show packed (packs b i) i (b.getD i 0) = _
       unfold packed
       rw [hq,List.getD_eq_getElem?_getD (l := b),Hy.out]
       rfl)
     have hset := ha.set q ((packs b i).getD q 0#32 <<< 8 ||| CrcP.bw y)
     have hz2 := hz.other (a := ⟨w.heap.size + 1,q,none⟩) (by simp) (.int .u32 (V ((packs b i).getD q 0#32 <<< 8 ||| CrcP.bw y)))
     have hb2 := hb.setCell (p := ⟨w.heap.size + 1,q,none⟩) (by simp) (.int .u32 (V ((packs b i).getD q 0#32 <<< 8 ||| CrcP.bw y)))
     have Hset := hide hset
     generalize (packs b i).getD q 0#32 = x at *
     clear hset hl hq
     go_wp2_with fail
     go_roundw
     case rel => rw [V_pack]; exact ⟨i + 1,by omega,by go_num,by rw [HP.out]; exact Hset.out,hz2,hb2⟩
     case measure => simp [intOf]; omega
   · obtain rfl : i = 64 := by omega
     have hl := packs_len b 64
     go_wp2_with fail
     go_loopw [6] (fun v6 wy => ∃ k : Nat,k ≤ 48 ∧ v6 = .int .i64 (((16 + k : Nat)) : Int) ∧ Arr wy (w.heap.size + 1) 106 (grows (packs b 64) k) ∧ Arr wy w.heap.size 106 zeros ∧ Below w.heap.size w wy) (fun v6 _ => 64 - (intOf v6).toNat)
     case atStart => exact ⟨0,by omega,rfl,ha,hz,hb⟩
     case round =>
       clear ha hz hb
       obtain ⟨k,hk,rfl,ha,hz,hb⟩ := hrel
       have hgl := grows_len (packs b 64) k
       rw [hl] at hgl
       by_cases hlt : k < 48
       · have HG : Hid (grows (packs b 64) (k + 1) = (grows (packs b 64) k).set (16 + k) (mixed (grows (packs b 64) k) (16 + k))) := hide rfl
         generalize grows (packs b 64) k = L at *
         obtain ⟨i,hi⟩ : ∃ i,i = 16 + k := ⟨_,rfl⟩
         have Hik := hide hi
         rw [← hi] at HG ⊢
         have hi1 : (16 : Int) ≤ (i : Int) := by omega
         have hi2 : (i : Int) < 64 := by omega
         have c2 := ha.cell (i := i - 2) (by omega)
         have c15 := ha.cell (i := i - 15) (by omega)
         have c7 := ha.cell (i := i - 7) (by omega)
         have c16 := ha.cell (i := i - 16) (by omega)
         have ci := ha.cell (i := i) (by omega)
         have fi := ha.free i
         have b7 : (7 : Int) ≤ (i : Int) := by omega
         have b7' : (i : Int) - 7 < 64 := by omega
         have b16' : (i : Int) - 16 < 64 := by omega
         have b0 : (0 : Int) ≤ (i : Int) := by omega
         have t2 : ((i : Int) - 2).toNat = i - 2 := by omega
         have t15 : ((i : Int) - 15).toNat = i - 15 := by omega
         have t7 : ((i : Int) - 7).toNat = i - 7 := by omega
         have t16 : ((i : Int) - 16).toNat = i - 16 := by omega
         have s2 : IntKind.i64.wrap ((i : Int) - 2) = (i : Int) - 2 := by rw [IntKind.wrap_i64]; omega
         have s15 : IntKind.i64.wrap ((i : Int) - 15) = (i : Int) - 15 := by rw [IntKind.wrap_i64]; omega
         have s7 : IntKind.i64.wrap ((i : Int) - 7) = (i : Int) - 7 := by rw [IntKind.wrap_i64]; omega
         have s16 : IntKind.i64.wrap ((i : Int) - 16) = (i : Int) - 16 := by rw [IntKind.wrap_i64]; omega
         have HM : Hid (mixed L i = (rotr (L.getD (i - 2) 0#32) 17 ^^^ rotr (L.getD (i - 2) 0#32) 19 ^^^ L.getD (i - 2) 0#32 >>> 10) + L.getD (i - 7) 0#32 +
           (rotr (L.getD (i - 15) 0#32) 7 ^^^ rotr (L.getD (i - 15) 0#32) 18 ^^^ L.getD (i - 15) 0#32 >>> 3) + L.getD (i - 16) 0#32) := hide rfl
         generalize L.getD (i - 2) 0#32 = x2 at *
         generalize L.getD (i - 15) 0#32 = x15 at *
         generalize L.getD (i - 7) 0#32 = x7 at *
         generalize L.getD (i - 16) 0#32 = x16 at *
         generalize L.getD i 0#32 = xi at *
         clear hi hl
         go_wp2_with fail
         go_quiet (fail)
         go_wp2_with fail
         have g7 : ∀ (t : _) (d : _) (o : _) (p : _),({ heap := wr.heap,tape := t,drawn := d,os := o,output := p } : World).cell? ⟨w.heap.size + 1,i - 7,none⟩ = some (.int .u32 (V x7)) := fun _ _ _ _ => c7
         have g16 : ∀ (t : _) (d : _) (o : _) (p : _),({ heap := wr.heap,tape := t,drawn := d,os := o,output := p } : World).cell? ⟨w.heap.size + 1,i - 16,none⟩ = some (.int .u32 (V x16)) := fun _ _ _ _ => c16
         go_still_tail 29,(by kernel_rfl)
         still_call (turned_still x2 17 (by omega) (by omega) _)
         repeat still_step
         still_call (turned_still x2 19 (by omega) (by omega) _)
         repeat still_step
         still_call (turned_still x15 7 (by omega) (by omega) _)
         repeat still_step
         still_call (turned_still x15 18 (by omega) (by omega) _)
         repeat still_step
         try refine wpStill_nil ?_
         change wpList _ _ _ _ _ (wr.drewN nq).drew
         go_wp2_with fail
         go_roundw
         case rel =>
           rw [V_mix,← HM.out]
           have hset := ha.set i (mixed L i)
           have hz2 := hz.other (a := ⟨w.heap.size + 1,i,none⟩) (by simp) (.int .u32 (V (mixed L i)))
           have hb2 := fun n => (below_drewN hb n).setCell (p := ⟨w.heap.size + 1,i,none⟩) (by simp) (.int .u32 (V (mixed L i)))
           rw [← HG.out] at hset
           have hi3 : i + 1 = 16 + (k + 1) := by have := Hik.out; omega
           (repeat apply Exists.intro)
           exact ⟨⟨k + 1,by omega,by rw [← hi3]; rfl,hset,hz2,hb2 _⟩,rfl⟩
         case measure => simp [intOf]; omega
       · obtain rfl : k = 48 := by omega
         have hsz : (Tryz.prog.info? 106).map (·.size) = some (cw (grows (packs b 64) 48)).size := by rw [cw_size,hgl]; kernel_rfl
         have hone := cw_one (grows (packs b 64) 48)
         have hold : (cw zeros).size = (cw (grows (packs b 64) 48)).size := by rw [cw_size,cw_size,hgl]; rfl
         go_wp2_with (first
           | (refine wpList_load_row rfl _ _ rfl (w.heap.size + 1) rfl 106 (cw (grows (packs b 64) 48)) (0,0) _ ha Tryz.underlying106 rfl hsz ?_)
           | (refine wpList_store_row rfl _ _ _ rfl w.heap.size (cw (grows (packs b 64) 48)) rfl rfl 106 (cw zeros) hz hsz hold hone ?_))
         refine bodyPost_ret (results_cell_row Tryz.results112 _ _ w.heap.size 106 (cw (grows (packs b 64) 48)) (0,0) _ rfl (setRow_heap _ _ _ _ _ _ hz) Tryz.underlying106 rfl hsz) rfl ?_
         exact ⟨rfl,below_setRow hb (Nat.le_refl _) _⟩
def Blk (w : World) (g : Nat) (cs : Array Value) (t : TypeId) : Prop := w.heap[g]? = some (.cells cs t (0,0))
structure Fr (S : Nat → Prop) (w w' : World) : Prop where
 os : w'.os = w.os
 tape : w'.tape = w.tape
 output : w'.output = w.output
 size : w.heap.size ≤ w'.heap.size
 block : ∀ g,g < w.heap.size → ¬ S g → w'.heap[g]? = w.heap[g]?
section
variable {S S' : Nat → Prop} {w w' a b : World} {g : Nat} {cs : Array Value} {t : TypeId}
theorem Fr.refl (S : Nat → Prop) (w : World) : Fr S w w := ⟨rfl,rfl,rfl,Nat.le_refl _,fun _ _ _ => rfl⟩
theorem Fr.step (h : Fr S w a) (k : Fr S' a b) (hs : ∀ g,g < w.heap.size → S' g → S g) : Fr S w b :=
 ⟨k.os.trans h.os,k.tape.trans h.tape,k.output.trans h.output,Nat.le_trans h.size k.size,fun g hg hn =>
   (k.block g (Nat.lt_of_lt_of_le hg h.size) fun hk => hn (hs g hg hk)).trans (h.block g hg hn)⟩
theorem Fr.trans (h : Fr S w a) (k : Fr S a b) : Fr S w b := h.step k fun _ _ h => h
theorem Fr.mono (h : Fr S w a) (hs : ∀ g,g < w.heap.size → S g → S' g) : Fr S' w a := ⟨h.os,h.tape,h.output,h.size,fun g hg hn => h.block g hg fun hk => hn (hs g hg hk)⟩
theorem Fr.of (h : Below w.heap.size w a) : Fr S w a := ⟨h.os,h.tape,h.output,h.size,fun g hg _ => h.block g hg⟩
theorem Fr.next (h : Fr S w a) (k : Below a.heap.size a b) : Fr S w b := h.trans (.of k)
theorem Fr.below {B : Nat} (h : Fr S w a) (hB : B ≤ w.heap.size) (hs : ∀ g,S g → B ≤ g) : Below B w a :=
 ⟨h.os,h.tape,h.output,h.size,fun g hg => h.block g (by omega) fun hk => by have := hs g hk; omega⟩
theorem Fr.set (h : Fr S w a) {p : Addr} (hp : p.block < w.heap.size → S p.block) (u : Value) : Fr S w (a.setCell p u) :=
 ⟨h.os,h.tape,h.output,by simpa [World.setCell] using h.size,fun g hg hn => by
   rw [Below.heap_setCell _ _ _ _ (fun e => hn (by rw [e]; exact hp (by omega)))]
   exact h.block g hg hn⟩
theorem Fr.alloc (h : Fr S w a) (o : Obj) : Fr S w (a.alloc o) := h.next ((Below.refl _ _).alloc (Nat.le_refl _) _)
theorem Fr.drew (h : Fr S w a) : Fr S w a.drew := ⟨h.os,h.tape,h.output,h.size,h.block⟩
theorem Fr.drewN (h : Fr S w a) (n : Nat) : Fr S w (a.drewN n) := ⟨h.os,h.tape,h.output,h.size,h.block⟩
theorem Fr.cell (h : Fr S w a) {p : Addr} {v : Value} (hc : w.cell? p = some v) (hn : ¬ S p.block) : a.cell? p = some v :=
 (World.cell?_of_block (w := w) (h.block p.block (World.block_lt_of_cell? w p hc) hn)).trans hc
theorem Blk.lt (h : Blk w g cs t) : g < w.heap.size := lt_of_block h
theorem Blk.cell (h : Blk w g cs t) {i : Nat} {v : Value} (hv : cs[i]? = some v) : w.cell? ⟨g,i,none⟩ = some v := by
 rw [cell_of_row w g i _ _ _ h,hv]
theorem Blk.free (h : Blk w g cs t) (i : Nat) : w.frozen? ⟨g,i,none⟩ = false := by
 unfold Blk at h
 simp [World.frozen?,h]
theorem Blk.below (h : Blk w g cs t) (hb : Below w.heap.size w a) : Blk a g cs t := (hb.block g h.lt).trans h
theorem Blk.fr (h : Blk w g cs t) (hb : Fr S w a) (hn : ¬ S g) : Blk a g cs t := (hb.block g h.lt hn).trans h
theorem Blk.drew (h : Blk w g cs t) : Blk w.drew g cs t := h
theorem Blk.drewN (h : Blk w g cs t) (n : Nat) : Blk (w.drewN n) g cs t := h
theorem Blk.set (h : Blk w g cs t) (i : Nat) (v : Value) : Blk (w.setCell ⟨g,i,none⟩ v) g (cs.setIfInBounds i v) t := by
 have hlt := h.lt
 unfold Blk at h ⊢
 have h' : w.heap[g] = .cells cs t (0,0) := by simpa [Array.getElem?_eq_getElem hlt] using h
 show (w.heap.modify g _)[g]? = _
 rw [Array.getElem?_eq_getElem (by simpa using hlt),Array.getElem_modify_self,h']
 rfl
theorem Blk.other (h : Blk w g cs t) {a : Addr} (ha : g ≠ a.block) (v : Value) : Blk (w.setCell a v) g cs t := by
 unfold Blk
 rw [Below.heap_setCell _ _ _ _ ha]
 exact h
theorem Blk.new (w : World) (cs : Array Value) (t : TypeId) : Blk (w.alloc (.cells cs t)) w.heap.size cs t := heap_alloc_new w _
theorem Blk.alloc (h : Blk w g cs t) (o : Obj) : Blk (w.alloc o) g cs t := (Below.heap_alloc w o g h.lt).trans h
theorem Blk.ne {g' : Nat} {cs' : Array Value} {t' : TypeId} (h : Blk w g cs t) (h' : Blk w g' cs' t') (hne : t ≠ t') : g ≠ g' := by
 rintro rfl
 unfold Blk at h h'
 rw [h] at h'
 simp only [Option.some.injEq,Obj.cells.injEq] at h'
 exact hne h'.2.1
theorem Rd.fr {A : Option Addr} {n c : Nat} {l : List UInt8} (h : Rd w A n c l) (hb : Fr S w a) (hn : 0 < n → ∀ ad,A = some ad → ¬ S ad.block) : Rd a A n c l :=
 ⟨h.1,h.2.1,h.2.2.1,fun h0 => by
   obtain ⟨ad,rfl,hc⟩ := h.2.2.2 h0
   exact ⟨ad,rfl,fun j x hx => hb.cell (hc j x hx) (by rw [blockAdd]; exact hn h0 ad rfl)⟩⟩
end
def cnt (L S : Nat) : Nat := if L < 1 ∨ 512 < L ∨ S < 1 ∨ 16 < S ∨ 64 < (L + S - 1) / S then 0 else (L + S - 1) / S
def spOk (K P S : Nat) : Bool := decide (1 ≤ K ∧ K ≤ 64 ∧ P ≤ 16 ∧ 1 ≤ S ∧ S ≤ 16)
theorem count_any (L S : Nat) (w : World) (hL : L ≤ 1000000) (hS : S ≤ 1000000) :
   Calls Tryz.prog 59 #[.int .i64 L,.int .i64 S] w fun e w' => e = .returned (.int .i64 (cnt L S : Nat)) ∧ w = w' := by
 have hL' : (L : Int) ≤ 1000000 := by omega
 have hS' : (S : Int) ≤ 1000000 := by omega
 by_cases h1 : L < 1
 · have hc : Hid (cnt L S = 0) := hide (by unfold cnt; rw [if_pos (.inl h1)])
   have d1 : decide ((L : Int) < 1) = true := by simp; omega
   go_enter Tryz.func59,Tryz.ntmps59
   go_wp2_with fail
   go_ret
   exact ⟨by rw [hc.out]; rfl,rfl⟩
 · have d1 : decide ((L : Int) < 1) = false := by simp; omega
   by_cases h2 : 512 < L
   · have hc : Hid (cnt L S = 0) := hide (by unfold cnt; rw [if_pos (.inr (.inl h2))])
     have d2 : decide (512 < (L : Int)) = true := by simp; omega
     go_enter Tryz.func59,Tryz.ntmps59
     go_wp2_with fail
     go_ret
     exact ⟨by rw [hc.out]; rfl,rfl⟩
   · have d2 : decide (512 < (L : Int)) = false := by simp; omega
     by_cases h3 : S < 1
     · have hc : Hid (cnt L S = 0) := hide (by unfold cnt; rw [if_pos (.inr (.inr (.inl h3)))])
       have d3 : decide ((S : Int) < 1) = true := by simp; omega
       go_enter Tryz.func59,Tryz.ntmps59
       go_wp2_with fail
       go_ret
       exact ⟨by rw [hc.out]; rfl,rfl⟩
     · have d3 : decide ((S : Int) < 1) = false := by simp; omega
       by_cases h4 : 16 < S
       · have hc : Hid (cnt L S = 0) := hide (by unfold cnt; rw [if_pos (.inr (.inr (.inr (.inl h4))))])
         have d4 : decide (16 < (S : Int)) = true := by simp; omega
         go_enter Tryz.func59,Tryz.ntmps59
         go_wp2_with fail
         go_ret
         exact ⟨by rw [hc.out]; rfl,rfl⟩
       · have d4 : decide (16 < (S : Int)) = false := by simp; omega
         obtain ⟨q,hq⟩ : ∃ q,(L + S - 1) / S = q := ⟨_,rfl⟩
         have hqi : ((L : Int) + (S : Int) - 1) / (S : Int) = (q : Int) := by
           rw [← hq]
           have : ((L : Int) + (S : Int) - 1) = ((L + S - 1 : Nat) : Int) := by omega
           rw [this]
           exact (Int.natCast_ediv _ _).symm
         have hqt : Int.tdiv ((L : Int) + (S : Int) - 1) (S : Int) = (q : Int) := by
           rw [Int.tdiv_eq_ediv_of_nonneg (by omega),hqi]
         have hS0 : ((S : Int) == 0) = false := by simp; omega
         have hS1 : (1 : Int) ≤ (S : Int) := by omega
         have hL1 : (1 : Int) ≤ (L : Int) := by omega
         have hql : q ≤ 1000000 := by
           rw [← hq]
           exact Nat.le_trans (Nat.div_le_self _ _) (by omega)
         have hql' : (q : Int) ≤ 1000000 := by omega
         by_cases h5 : 64 < q
         · have hc : Hid (cnt L S = 0) := hide (by unfold cnt; rw [hq,if_pos (.inr (.inr (.inr (.inr h5))))])
           have d5 : decide (64 < (q : Int)) = true := by simp; omega
           clear hq
           go_enter Tryz.func59,Tryz.ntmps59
           go_wp2_with fail
           go_ret
           exact ⟨by rw [hc.out]; rfl,rfl⟩
         · have hc : Hid (cnt L S = q) := hide (by unfold cnt; rw [hq,if_neg (by omega)])
           have d5 : decide (64 < (q : Int)) = false := by simp; omega
           clear hq
           go_enter Tryz.func59,Tryz.ntmps59
           go_wp2_with fail
           go_ret
           exact ⟨by rw [hc.out]; rfl,rfl⟩
def parC (s : BitVec 32) (K P S : Nat) : Array Value := #[.int .u32 (V s),.int .i64 K,.int .i64 P,.int .i64 S]
theorem spmay_any (s : BitVec 32) (K P S : Nat) (w : World) :
   Calls Tryz.prog 60 #[.agg (parC s K P S)] w fun e w' => e = .returned (.bool (spOk K P S)) ∧ Below w.heap.size w w' := by
 have hbx : Below w.heap.size w (w.alloc (.cells (parC s K P S) 59)) := (Below.refl _ _).alloc (Nat.le_refl _) _
 have hP0 : decide ((0 : Int) ≤ (P : Int)) = true := by simp
 unfold parC at *
 by_cases h1 : 1 ≤ K
 · have d1 : decide (1 ≤ (K : Int)) = true := by simp; omega
   by_cases h2 : K ≤ 64
   · have d2 : decide ((K : Int) ≤ 64) = true := by simp; omega
     by_cases h3 : P ≤ 16
     · have d3 : decide ((P : Int) ≤ 16) = true := by simp; omega
       by_cases h4 : 1 ≤ S
       · have d4 : decide (1 ≤ (S : Int)) = true := by simp; omega
         by_cases h5 : S ≤ 16
         · have d5 : decide ((S : Int) ≤ 16) = true := by simp; omega
           have hc : Hid (spOk K P S = true) := hide (by unfold spOk; simp; omega)
           go_enter Tryz.func60,Tryz.ntmps60
           go_wp2_with fail
           go_ret
           exact ⟨by rw [hc.out]; rfl,hbx⟩
         · have d5 : decide ((S : Int) ≤ 16) = false := by simp; omega
           have hc : Hid (spOk K P S = false) := hide (by unfold spOk; simp; omega)
           go_enter Tryz.func60,Tryz.ntmps60
           go_wp2_with fail
           go_ret
           exact ⟨by rw [hc.out]; rfl,hbx⟩
       · have d4 : decide (1 ≤ (S : Int)) = false := by simp; omega
         have hc : Hid (spOk K P S = false) := hide (by unfold spOk; simp; omega)
         go_enter Tryz.func60,Tryz.ntmps60
         go_wp2_with fail
         go_ret
         exact ⟨by rw [hc.out]; rfl,hbx⟩
     · have d3 : decide ((P : Int) ≤ 16) = false := by simp; omega
       have hc : Hid (spOk K P S = false) := hide (by unfold spOk; simp; omega)
       go_enter Tryz.func60,Tryz.ntmps60
       go_wp2_with fail
       go_ret
       exact ⟨by rw [hc.out]; rfl,hbx⟩
   · have d2 : decide ((K : Int) ≤ 64) = false := by simp; omega
     have hc : Hid (spOk K P S = false) := hide (by unfold spOk; simp; omega)
     go_enter Tryz.func60,Tryz.ntmps60
     go_wp2_with fail
     go_ret
     exact ⟨by rw [hc.out]; rfl,hbx⟩
 · have d1 : decide (1 ≤ (K : Int)) = false := by simp; omega
   have hc : Hid (spOk K P S = false) := hide (by unfold spOk; simp; omega)
   go_enter Tryz.func60,Tryz.ntmps60
   go_wp2_with fail
   go_ret
   exact ⟨by rw [hc.out]; rfl,hbx⟩
def padz (n : Nat) : Nat := (119 - n % 64) % 64
theorem padz_lt (n : Nat) : padz n < 64 := Nat.mod_lt _ (by decide)
theorem padz_at (n : Nat) : (n + 1 + padz n) % 64 = 56 := by unfold padz; omega
theorem padz_before (n k : Nat) (h : k < padz n) : (n + 1 + k) % 64 ≠ 56 := by
 have h1 := padz_lt n
 unfold padz at h h1
 intro h2
 omega
def eight (N : Nat) : List UInt8 := (List.range 8).map fun k => byt ((N : Int) / 2 ^ (56 - 8 * k))
def fill (b : List UInt8) : List UInt8 := b ++ [0x80] ++ List.replicate (padz b.length) 0 ++ eight (8 * b.length)
theorem eight_len (N : Nat) : (eight N).length = 8 := by simp [eight]
theorem fill_len (b : List UInt8) : (fill b).length = b.length + 9 + padz b.length := by simp [fill,eight_len]; omega
theorem fill_blocks (b : List UInt8) : ∃ k,(fill b).length = 64 * k := by
 refine ⟨(b.length + 9 + padz b.length) / 64,?_⟩
 rw [fill_len]
 have := padz_at b.length
 omega
def after (s : List (BitVec 32)) (l : List UInt8) : Nat → List (BitVec 32)
 | 0 => s
 | k + 1 => blockOf (after s l k) ((l.drop (64 * k)).take 64)
theorem rounds_len (s W : List (BitVec 32)) (hs : s.length = 8) : ∀ k,(rounds s W k).length = 8
 | 0 => hs
 | _ + 1 => rfl
theorem blockOf_len (s : List (BitVec 32)) (b : List UInt8) (hs : s.length = 8) : (blockOf s b).length = 8 := by
 unfold blockOf
 rw [List.length_zipWith,rounds_len s _ hs,hs]
 rfl
theorem after_len (s : List (BitVec 32)) (l : List UInt8) (hs : s.length = 8) : ∀ k,(after s l k).length = 8
 | 0 => hs
 | k + 1 => blockOf_len _ _ (after_len s l hs k)
theorem H0_len : H0.length = 8 := rfl
def bytesOf (s : List (BitVec 32)) : List UInt8 := s.flatMap four
theorem bytesOf_len (s : List (BitVec 32)) : (bytesOf s).length = 4 * s.length := by
 unfold bytesOf
 induction s with
 | nil => rfl
 | cons x r ih => rw [List.flatMap_cons,List.length_append,ih,four_len,List.length_cons]; omega
def sha (b : List UInt8) : List UInt8 := bytesOf (after H0 (fill b) ((fill b).length / 64))
theorem sha_len (b : List UInt8) : (sha b).length = 32 := by
 unfold sha
 rw [bytesOf_len,after_len _ _ H0_len]
def masked (key : List UInt8) (by_ : UInt8) : List UInt8 := (List.range 64).map fun i => key.getD i 0 ^^^ by_
def tag (key b : List UInt8) : List UInt8 := sha (masked key 0x5c ++ sha (masked key 0x36 ++ b))
theorem masked_len (key : List UInt8) (x : UInt8) : (masked key x).length = 64 := by simp [masked]
theorem tag_len (key b : List UInt8) : (tag key b).length = 32 := sha_len _
theorem wpList_build_as {P : Program} {ops : Array Oper} {rest : List Oper} {o : Oper} {a : Act} {w : World} {Q : Exit → Act → World → Prop} (hg : o.guard = none) (t : TypeId) (parts : Array (Nat × Operand)) (ho : o.op = .build t parts) (cells : Array Value)
   (hf : P.built t (parts.map fun (i,x) => (i,a.eval x)).toList = some cells)
   (h : wpList P ops Q rest (a.put o.dst (.agg cells)) w) : wpList P ops Q (o :: rest) a w :=
 wpList_build hg t parts ho (by rw [hf]; rfl) (by rw [hf]; exact h)
theorem KS_len : KS.length = 64 := rfl
theorem constants_any (w : World) : Calls Tryz.prog 113 #[] w fun e w' => e = .returned (.agg (cw KS)) ∧ Below w.heap.size w w' := by
 have e0 : (Tryz.prog.info? 106).map (·.size) = some (cw KS).size := by
   have h1 : (Tryz.prog.info? 106).map (·.size) = some 64 := by kernel_rfl
   rw [h1,cw_size,KS_len]
 have e1 : (cw zeros).size = (cw KS).size := by rw [cw_size,cw_size,KS_len]; rfl
 have hone := cw_one KS
 have hz : (w.alloc (.cells (cw zeros) 106)).heap[w.heap.size]? = some (.cells (cw zeros) 106 (0,0)) := heap_alloc_new w _
 go_enter Tryz.func113,Tryz.ntmps113
 go_wp2_with (first
   | (refine wpList_build_as rfl 106 _ rfl (cw KS) (by kernel_rfl) ?_)
   | (refine wpList_store_row rfl _ _ _ rfl w.heap.size (cw KS) rfl rfl 106 (cw zeros) hz e0 e1 hone ?_))
 refine bodyPost_ret (results_cell_row Tryz.results113 _ _ w.heap.size 106 (cw KS) (0,0) _ rfl (setRow_heap _ _ _ _ _ _ hz) Tryz.underlying106 rfl e0) rfl ?_
 exact ⟨rfl,below_setRow ((Below.refl _ _).alloc (Nat.le_refl _) _) (Nat.le_refl _) _⟩
theorem bw_words_len (b : List UInt8) : (words b).length = 64 := by
 unfold words
 rw [grows_len,packs_len]
def sumTo (s x : List (BitVec 32)) : Nat → List (BitVec 32)
 | 0 => s
 | i + 1 => (sumTo s x i).set i (s.getD i 0#32 + x.getD i 0#32)
theorem sumTo_len (s x : List (BitVec 32)) : ∀ i,(sumTo s x i).length = s.length := by
 intro i
 induction i with
 | zero => rfl
 | succ i ih => simp [sumTo,ih]
theorem sumTo_getD (s x : List (BitVec 32)) (hs : s.length = 8) (i j : Nat) (hi : i ≤ 8) (hj : j < 8) : (sumTo s x i).getD j 0#32 = if j < i then s.getD j 0#32 + x.getD j 0#32 else s.getD j 0#32 := by
 induction i with
 | zero => simp [sumTo]
 | succ i ih =>
   unfold sumTo
   have hl := sumTo_len s x i
   rw [List.getD_eq_getElem?_getD,List.getElem?_set]
   by_cases e : i = j
   · subst e
     simp [hl,hs,hj]
   · rw [if_neg e,← List.getD_eq_getElem?_getD,ih (by omega)]
     by_cases h : j < i
     · simp [h,show j < i + 1 by omega]
     · simp [h,show ¬ j < i + 1 by omega]
theorem sumTo_all (s x : List (BitVec 32)) (hs : s.length = 8) (hx : x.length = 8) : sumTo s x 8 = List.zipWith (· + ·) s x := by
 apply List.ext_getElem
 · rw [sumTo_len,List.length_zipWith,hs,hx]; rfl
 · intro j h1 h2
   have hj : j < 8 := by rw [sumTo_len,hs] at h1; exact h1
   have := sumTo_getD s x hs 8 j (Nat.le_refl _) hj
   rw [if_pos hj] at this
   simpa [List.getD_eq_getElem?_getD,h1,hs,hx,hj] using this
theorem not_max : (if IntKind.u32.signed = true then (-1 : Int) else IntKind.u32.max) = IntKind.u32.max := rfl
theorem at_store {P : Program} {ops : Array Oper} {Q : Exit → Act → World → Prop} {rest : List Oper} {a : Act} {w : World} {d : Option Tmp} {ty : TypeId} {x y : Operand} {t : TypeId} {pos : String} {af : _} {g : Option (Nat × Bool)}
   (h : wpList P ops Q (⟨d,.store ty x y,t,pos,af,g⟩ :: rest) a w) : wpList P ops Q (⟨d,.store ty x y,t,pos,af,g⟩ :: rest) a w := h
theorem at_load {P : Program} {ops : Array Oper} {Q : Exit → Act → World → Prop} {rest : List Oper} {a : Act} {w : World} {d : Option Tmp} {ty : TypeId} {x : Operand} {t : TypeId} {pos : String} {af : _} {g : Option (Nat × Bool)}
   (h : wpList P ops Q (⟨d,.load ty x,t,pos,af,g⟩ :: rest) a w) : wpList P ops Q (⟨d,.load ty x,t,pos,af,g⟩ :: rest) a w := h
theorem V_add5w (p q r s t : BitVec 32) : IntKind.u32.wrap (IntKind.u32.wrap (IntKind.u32.wrap (IntKind.u32.wrap (V p + V q) + V r) + V s) + V t) = V (p + q + r + s + t) := by
 simp only [IntKind.wrap_u32]
 unfold V
 simp only [BitVec.toNat_add]
 omega
theorem Arr.drewN {w : World} {g : Nat} {t : TypeId} {L : List (BitVec 32)} (h : Arr w g t L) (k : Nat) : Arr (w.drewN k) g t L := h
theorem Arr.setSame {w : World} {g : Nat} {t : TypeId} {L : List (BitVec 32)} (h : Arr w g t L) (L' : List (BitVec 32)) : Arr (w.setRow g (cw L')) g t L' := setRow_heap _ _ _ _ _ _ h
theorem Arr.setOther {w : World} {g : Nat} {t : TypeId} {L : List (BitVec 32)} (h : Arr w g t L) {k : Nat} (hk : g ≠ k) (cs : Array Value) : Arr (w.setRow k cs) g t L := (setRow_other _ _ _ _ hk).trans h
def z8 : List (BitVec 32) := List.replicate 8 0#32
theorem takes_any (A : Option Addr) (c : Nat) (s : List (BitVec 32)) (hs : s.length = 8) (b : List UInt8) (w : World) (hr : Rd w A 64 c b) :
   Calls Tryz.prog 54 #[.agg (cw s),.slice A 64 c] w fun e w' => e = .returned (.agg (cw (blockOf s b))) ∧ Below w.heap.size w w' := by
 have hsz2 : ∀ L : List (BitVec 32),L.length = 8 → (Tryz.prog.info? 102).map (·.size) = some (cw L).size := fun L h => by rw [cw_size,h]; kernel_rfl
 have hsz6 : ∀ L : List (BitVec 32),L.length = 64 → (Tryz.prog.info? 106).map (·.size) = some (cw L).size := fun L h => by rw [cw_size,h]; kernel_rfl
 have hz2 := hsz2 s hs
 go_enter Tryz.func54,Tryz.ntmps54
 go_wp2_with fail
 have hS0 : Arr ((w.alloc (.cells (cw s) 102)).alloc (.cells (cw z8) 102)) w.heap.size 102 s := heap_alloc2_old w _ _
 have hZ0 : Arr ((w.alloc (.cells (cw s) 102)).alloc (.cells (cw z8) 102)) (w.heap.size + 1) 102 z8 := heap_alloc2_new w _ _
 have hB0 : Below w.heap.size w ((w.alloc (.cells (cw s) 102)).alloc (.cells (cw z8) 102)) := ((Below.refl _ _).alloc (Nat.le_refl _) _).alloc (by simp) _
 refine (words64_any A c b _ ((hr.alloc _).alloc _)).mono ?_
 rintro e w1 ⟨rfl,hb1⟩
 have hS1 := hS0.below hb1
 have hZ1 := hZ0.below hb1
 have hB1 := below_next hB0 hb1
 go_wp2_with fail
 refine (constants_any _).mono ?_
 rintro e w2 ⟨rfl,hb2⟩
 have hS2 := hS1.below hb2
 have hZ2 := hZ1.below hb2
 have hB2 := below_next hB1 hb2
 clear hb1 hb2 hS0 hZ0 hB0 hS1 hZ1 hB1
 have hWl := bw_words_len b
 have hblk : Hid (blockOf s b = List.zipWith (· + ·) s (rounds s (words b) 64)) := hide rfl
 generalize words b = W at *
 have i1 := hsz6 W hWl
 have i2 := hsz6 KS KS_len
 have o1 : (cw zeros).size = (cw W).size := by rw [cw_size,cw_size,hWl]; rfl
 have o2 : (cw zeros).size = (cw KS).size := by rw [cw_size,cw_size,KS_len]; rfl
 have o3 : (cw z8).size = (cw s).size := by rw [cw_size,cw_size,hs]; rfl
 have u1 := cw_one W
 have u2 := cw_one KS
 have u3 := cw_one s
 have hW3 : Arr ((w2.alloc (.cells (cw zeros) 106)).alloc (.cells (cw zeros) 106)) w2.heap.size 106 zeros := heap_alloc2_old w2 _ _
 have hK3 : Arr ((w2.alloc (.cells (cw zeros) 106)).alloc (.cells (cw zeros) 106)) (w2.heap.size + 1) 106 zeros := heap_alloc2_new w2 _ _
 have n1 : w.heap.size ≠ w2.heap.size := by have := hS2.lt; omega
 have n2 : w.heap.size ≠ w2.heap.size + 1 := by have := hS2.lt; omega
 go_upto_region 2 with (first
   | (refine wpList_store_row rfl _ _ _ rfl w2.heap.size (cw W) rfl rfl 106 (cw zeros) hW3 i1 o1 u1 ?_)
   | (refine wpList_store_row rfl _ _ _ rfl (w2.heap.size + 1) (cw KS) rfl rfl 106 (cw zeros) (hK3.setOther (by simp) _) i2 o2 u2 ?_))
 have hS4 := (((hS2.alloc (.cells (cw zeros) 106)).alloc (.cells (cw zeros) 106)).setOther n1 (cw W)).setOther n2 (cw KS)
 have m1 : w.heap.size + 1 ≠ w2.heap.size := by have := hZ2.lt; omega
 have m2 : w.heap.size + 1 ≠ w2.heap.size + 1 := by have := hS2.lt; omega
 have hZ4 := (((hZ2.alloc (.cells (cw zeros) 106)).alloc (.cells (cw zeros) 106)).setOther m1 (cw W)).setOther m2 (cw KS)
 have hW4 := (hW3.setSame W).setOther (k := w2.heap.size + 1) (by omega) (cw KS)
 have hK4 := (hK3.setOther (k := w2.heap.size) (by omega) (cw W)).setSame KS
 have hB4 := below_setRow (below_setRow ((hB2.alloc hB2.size (.cells (cw zeros) 106)).alloc (by have := hB2.size; simp; omega) (.cells (cw zeros) 106)) (g := w2.heap.size) hB2.size (cw W)) (g := w2.heap.size + 1) (by have := hB2.size; omega) (cw KS)
 clear hW3 hK3 hS2 hZ2 hB2
 generalize w2.heap.size = b0 at *
 change Code.wp _ _ _ _ (World.setRow (World.setRow ((w2.alloc (.cells (cw zeros) 106)).alloc (.cells (cw zeros) 106)) b0 (cw W)) (b0 + 1) (cw KS))
 generalize World.setRow (World.setRow ((w2.alloc (.cells (cw zeros) 106)).alloc (.cells (cw zeros) 106)) b0 (cw W)) (b0 + 1) (cw KS) = w3 at *
 have hSn := hS4.alloc (.cells (cw z8) 102)
 have hXn : Arr (w3.alloc (.cells (cw z8) 102)) w3.heap.size 102 z8 := Arr.new _ _ _
 go_upto_region 3 with (first
   | (refine wpList_load_row rfl _ _ rfl w.heap.size rfl 102 (cw s) (0,0) _ hS4 Tryz.underlying102 rfl hz2 ?_)
   | (refine wpList_store_row rfl _ _ _ rfl w3.heap.size (cw s) rfl rfl 102 (cw z8) hXn hz2 o3 u3 ?_))
 have d1 : w.heap.size ≠ w3.heap.size := by have := hS4.lt; omega
 have d2 : w.heap.size + 1 ≠ w3.heap.size := by have := hZ4.lt; omega
 have d3 : b0 ≠ w3.heap.size := by have := hW4.lt; omega
 have d4 : b0 + 1 ≠ w3.heap.size := by have := hK4.lt; omega
 have hS5 := hSn.setOther d1 (cw s)
 have hZ5 := (hZ4.alloc (.cells (cw z8) 102)).setOther d2 (cw s)
 have hW5 := (hW4.alloc (.cells (cw z8) 102)).setOther d3 (cw s)
 have hK5 := (hK4.alloc (.cells (cw z8) 102)).setOther d4 (cw s)
 have hX5 := hXn.setSame s
 have hB5 := below_setRow (hB4.alloc hB4.size (.cells (cw z8) 102)) (g := w3.heap.size) hB4.size (cw s)
 have hx0 := hB4.size
 clear hS4 hZ4 hW4 hK4 hB4 hSn hXn
 generalize w3.heap.size = x0 at *
 change Code.wp _ _ _ _ (World.setRow (w3.alloc (.cells (cw z8) 102)) x0 (cw s))
 generalize World.setRow (w3.alloc (.cells (cw z8) 102)) x0 (cw s) = w4 at *
 clear o1 o2 o3 i1 i2 u1 u2 u3 n1 n2 m1 m2
 go_wp2_with fail
 go_loopw [20] (fun v wr => ∃ k : Nat,k ≤ 64 ∧ v = .int .i64 (k : Int) ∧ Arr wr x0 102 (rounds s W k) ∧ Arr wr b0 106 W ∧ Arr wr (b0 + 1) 106 KS ∧ Arr wr w.heap.size 102 s ∧ Arr wr (w.heap.size + 1) 102 z8 ∧ Below w.heap.size w wr) (fun v _ => 64 - (intOf v).toNat)
 case atStart => exact ⟨0,by omega,rfl,hX5,hW5,hK5,hS5,hZ5,hB5⟩
 case round =>
   clear hX5 hW5 hK5 hS5 hZ5 hB5
   obtain ⟨k,hk,rfl,hX,hW,hK,hS,hZ,hB⟩ := hrel
   have hl := rounds_len s W hs k
   by_cases hlt : k < 64
   · have hlt' : (k : Int) < 64 := by omega
     have x0c := hX.cell (i := 0) (by omega)
     have x1c := hX.cell (i := 1) (by omega)
     have x2c := hX.cell (i := 2) (by omega)
     have x3c := hX.cell (i := 3) (by omega)
     have x4c := hX.cell (i := 4) (by omega)
     have x5c := hX.cell (i := 5) (by omega)
     have x6c := hX.cell (i := 6) (by omega)
     have x7c := hX.cell (i := 7) (by omega)
     have kc := hK.cell (i := k) (by rw [KS_len]; exact hlt)
     have wc := hW.cell (i := k) (by rw [hWl]; exact hlt)
     have HR0 : ∀ (X : List (BitVec 32)) (kk wk : BitVec 32),round X kk wk = [X.getD 7 0#32 + (rotr (X.getD 4 0#32) 6 ^^^ rotr (X.getD 4 0#32) 11 ^^^ rotr (X.getD 4 0#32) 25) + (X.getD 4 0#32 &&& X.getD 5 0#32 ||| ~~~ X.getD 4 0#32 &&& X.getD 6 0#32) + kk + wk +
       ((rotr (X.getD 0 0#32) 2 ^^^ rotr (X.getD 0 0#32) 13 ^^^ rotr (X.getD 0 0#32) 22) + (X.getD 0 0#32 &&& X.getD 1 0#32 ||| X.getD 0 0#32 &&& X.getD 2 0#32 ||| X.getD 1 0#32 &&& X.getD 2 0#32)),X.getD 0 0#32,X.getD 1 0#32,X.getD 2 0#32,
       X.getD 3 0#32 + (X.getD 7 0#32 + (rotr (X.getD 4 0#32) 6 ^^^ rotr (X.getD 4 0#32) 11 ^^^ rotr (X.getD 4 0#32) 25) + (X.getD 4 0#32 &&& X.getD 5 0#32 ||| ~~~ X.getD 4 0#32 &&& X.getD 6 0#32) + kk + wk),X.getD 4 0#32,X.getD 5 0#32,X.getD 6 0#32] := fun _ _ _ => rfl
     have HR : Hid (rounds s W (k + 1) = _) := hide (HR0 (rounds s W k) (KS.getD k 0#32) (W.getD k 0#32))
     clear HR0
     generalize rounds s W k = X at *
     generalize X.getD 0 0#32 = a0 at *
     generalize X.getD 1 0#32 = a1 at *
     generalize X.getD 2 0#32 = a2 at *
     generalize X.getD 3 0#32 = a3 at *
     generalize X.getD 4 0#32 = a4 at *
     generalize X.getD 5 0#32 = a5 at *
     generalize X.getD 6 0#32 = a6 at *
     generalize X.getD 7 0#32 = a7 at *
     generalize KS.getD k 0#32 = kk at *
     generalize W.getD k 0#32 = wk at *
     go_wp2_with fail
     go_quiet (fail)
     go_upto_region 9 with fail
     simp only [not_max,V_not,V_and,V_or]
     generalize hch : a4 &&& a5 ||| ~~~a4 &&& a6 = ch
     generalize hmo : a0 &&& a1 ||| a0 &&& a2 ||| a1 &&& a2 = mo
     have Hch := hide hch
     have Hmo := hide hmo
     clear hch hmo
     have g7 : ∀ (t : _) (d : _) (o : _) (p : _),({ heap := wr.heap,tape := t,drawn := d,os := o,output := p } : World).cell? ⟨x0,7,none⟩ = some (.int .u32 (V a7)) := fun _ _ _ _ => x7c
     have gk : ∀ (t : _) (d : _) (o : _) (p : _),({ heap := wr.heap,tape := t,drawn := d,os := o,output := p } : World).cell? ⟨b0 + 1,k,none⟩ = some (.int .u32 (V kk)) := fun _ _ _ _ => kc
     have gw : ∀ (t : _) (d : _) (o : _) (p : _),({ heap := wr.heap,tape := t,drawn := d,os := o,output := p } : World).cell? ⟨b0,k,none⟩ = some (.int .u32 (V wk)) := fun _ _ _ _ => wc
     go_still_tail 21,(by kernel_rfl)
     still_call (turned_still a4 6 (by omega) (by omega) _)
     repeat still_step
     still_call (turned_still a4 11 (by omega) (by omega) _)
     repeat still_step
     still_call (turned_still a4 25 (by omega) (by omega) _)
     repeat still_step
     try refine wpStill_nil ?_
     change wpList _ _ _ _ _ ((wr.drewN nq).drew)
     clear g7 gk gw
     go_upto_region 10 with fail
     simp only [V_xor,V_add5w]
     generalize hone : a7 + (rotr a4 6 ^^^ rotr a4 11 ^^^ rotr a4 25) + ch + kk + wk = one
     have Hone := hide hone
     clear hone
     go_upto_region 11 with (first
       | (go_at_call 114; refine (turned_still a0 2 (by omega) (by omega) _).mono ?_; rintro e w' ⟨rfl,rfl⟩)
       | (go_at_call 114; refine (turned_still a0 13 (by omega) (by omega) _).mono ?_; rintro e w' ⟨rfl,rfl⟩)
       | (go_at_call 114; refine (turned_still a0 22 (by omega) (by omega) _).mono ?_; rintro e w' ⟨rfl,rfl⟩))
     simp only [V_xor,V_add]
     generalize htwo : (rotr a0 2 ^^^ rotr a0 13 ^^^ rotr a0 22) + mo = two
     have Htwo := hide htwo
     clear htwo
     have hRX : Hid (rounds s W (k + 1) = [one + two,a0,a1,a2,a3 + one,a4,a5,a6]) := hide (by rw [HR.out,Hch.out,Hmo.out,Hone.out,Htwo.out])
     have hnl : X.length = 8 := hl
     have hnew : (Tryz.prog.info? 102).map (·.size) = some (cw [one + two,a0,a1,a2,a3 + one,a4,a5,a6]).size := hsz2 _ rfl
     have hold : (cw X).size = (cw [one + two,a0,a1,a2,a3 + one,a4,a5,a6]).size := by rw [cw_size,cw_size,hnl]; rfl
     have hone1 := cw_one [one + two,a0,a1,a2,a3 + one,a4,a5,a6]
     have hagg : Hid (Value.agg #[.int .u32 ((V one + V two) % 4294967296),.int .u32 (V a0),.int .u32 (V a1),.int .u32 (V a2),.int .u32 ((V a3 + V one) % 4294967296),.int .u32 (V a4),.int .u32 (V a5),.int .u32 (V a6)] = Value.agg (cw [one + two,a0,a1,a2,a3 + one,a4,a5,a6])) := hide (by rw [V_add,V_add]; rfl)
     go_wp2_with (first
       | ((with_reducible refine at_store ?_); go_must (refine wpList_store_row rfl 102 (.tmp 7) (.tmp 100) rfl x0 (cw [one + two,a0,a1,a2,a3 + one,a4,a5,a6]) rfl ?hy 102 (cw X) (hX.drewN _) hnew hold hone1 ?_); case hy => exact hagg.out))
     go_roundw
     case rel =>
       exact ⟨k + 1,by omega,by go_num,by rw [hRX.out]; exact (hX.drewN _).setSame _,(hW.drewN _).setOther (by omega) _,(hK.drewN _).setOther (by omega) _,(hS.drewN _).setOther (by omega) _,(hZ.drewN _).setOther (by omega) _,below_setRow (below_drewN hB _) (by omega) _⟩
     case measure => simp [intOf]; omega
   · obtain rfl : k = 64 := by omega
     clear hW hK
     have HB : Hid (blockOf s b = List.zipWith (· + ·) s (rounds s W 64)) := hide (by rw [hblk.out])
     generalize rounds s W 64 = X at *
     go_wp2_with fail
     go_loopw [102] (fun v wy => ∃ i : Nat,i ≤ 8 ∧ v = .int .i64 (i : Int) ∧ Arr wy w.heap.size 102 (sumTo s X i) ∧ Arr wy x0 102 X ∧ Arr wy (w.heap.size + 1) 102 z8 ∧ Below w.heap.size w wy) (fun v _ => 8 - (intOf v).toNat)
     case atStart => exact ⟨0,by omega,rfl,hS,hX,hZ,hB⟩
     case round =>
       clear hX hS hZ hB
       obtain ⟨i,hi,rfl,hS,hX,hZ,hB⟩ := hrel
       have hsl := sumTo_len s X i
       rw [hs] at hsl
       by_cases hlt : i < 8
       · have hlt' : (i : Int) < 8 := by omega
         have hi0 : (0 : Int) ≤ (i : Int) := by omega
         have c1 := hS.cell (i := i) (by omega)
         have c2 := hX.cell (i := i) (by omega)
         rw [sumTo_getD s X hs i i hi hlt,if_neg (Nat.lt_irrefl i)] at c1
         have HR : Hid (sumTo s X (i + 1) = (sumTo s X i).set i (s.getD i 0#32 + X.getD i 0#32)) := hide rfl
         have fS := hS.free i
         generalize s.getD i 0#32 = p at *
         generalize X.getD i 0#32 = q at *
         generalize sumTo s X i = L at *
         have g1 : ∀ (t : _) (d : _) (o : _) (u : _),({ heap := wr.heap,tape := t,drawn := d,os := o,output := u } : World).cell? ⟨w.heap.size,i,none⟩ = some (.int .u32 (V p)) := fun _ _ _ _ => c1
         have g2 : ∀ (t : _) (d : _) (o : _) (u : _),({ heap := wr.heap,tape := t,drawn := d,os := o,output := u } : World).cell? ⟨x0,i,none⟩ = some (.int .u32 (V q)) := fun _ _ _ _ => c2
         go_wp2_with fail
         go_still_tail 8,(by kernel_rfl)
         try refine wpStill_nil ?_
         change wpList _ _ _ _ _ wr.drew
         clear g1 g2
         go_wp2_with fail
         go_roundw
         case rel =>
           rw [V_add]
           (repeat apply Exists.intro)
           exact ⟨⟨i + 1,by omega,by go_num,by rw [HR.out]; exact hS.set i (p + q),hX.other (a := ⟨w.heap.size,i,none⟩) (by show x0 ≠ w.heap.size; omega) _,hZ.other (a := ⟨w.heap.size,i,none⟩) (by show w.heap.size + 1 ≠ w.heap.size; omega) _,hB.drew.setCell (p := ⟨w.heap.size,i,none⟩) (Nat.le_refl _) _⟩,rfl⟩
         case measure => simp [intOf]; omega
       · obtain rfl : i = 8 := by omega
         rw [sumTo_all s X hs hl,← HB.out] at hS
         have hbl : (blockOf s b).length = 8 := blockOf_len s b hs
         obtain ⟨T,hT0⟩ : ∃ T,blockOf s b = T := ⟨_,rfl⟩
         rw [hT0] at hS hbl
         have HT := hide hT0
         clear hT0 HB hblk
         have hT := hsz2 T hbl
         have hT1 := cw_one T
         have hT2 : (cw z8).size = (cw T).size := by rw [cw_size,cw_size,hbl]; rfl
         go_wp2_with (first
           | ((with_reducible refine at_load ?_); refine wpList_load_row rfl 102 (.tmp 2) rfl w.heap.size rfl 102 (cw T) (0,0) _ hS Tryz.underlying102 rfl hT ?_)
           | ((with_reducible refine at_store ?_); refine wpList_store_row rfl 102 (.tmp 4) (.tmp 114) rfl (w.heap.size + 1) (cw T) rfl rfl 102 (cw z8) hZ hT hT2 hT1 ?_))
         refine bodyPost_ret (results_cell_row Tryz.results54 _ _ (w.heap.size + 1) 102 (cw T) (0,0) _ rfl (setRow_heap _ _ _ _ _ _ hZ) Tryz.underlying102 rfl hT) rfl ?_
         exact ⟨by rw [HT.out],below_setRow hB (by omega) _⟩
theorem eight_snoc (N k : Nat) (h : k < 8) : (eight N).take (k + 1) = (eight N).take k ++ [byt ((N : Int) / 2 ^ (56 - 8 * k))] := by
 unfold eight
 rw [List.take_add_one,List.getElem?_map,List.getElem?_range h]
 rfl
theorem filled_any (A : Option Addr) (n c : Nat) (l : List UInt8) (w : World) (hr : Rd w A n c l) (hn : n ≤ 1000000) :
   Calls Tryz.prog 53 #[.slice A n c] w fun e w' => ∃ A' c',e = .returned (.slice A' (n + 9 + padz n) c') ∧ Own w' w.heap.size 5 A' (n + 9 + padz n) c' (fill l) ∧ Below w.heap.size w w' := by
 have Hl := hide hr.1
 have hp := padz_lt n
 have h80 : ∀ w : World,Rd (w.alloc (.cells #[.int .u8 128] 5)) (some ⟨w.heap.size,0,none⟩) 1 1 [0x80] := fun w => Rd.one w 5 128
 have h00 : ∀ w : World,Rd (w.alloc (.cells #[.int .u8 0] 5)) (some ⟨w.heap.size,0,none⟩) 1 1 [0] := fun w => Rd.one w 5 0
 go_enter Tryz.func53,Tryz.ntmps53
 go_wp2_with (first
   | (at_builtin
      refine wpList_append8 w rfl _ _ _ rfl w.heap.size 5 Tryz.underlying22 isByte none 0 0 [] rfl (Own.nil _ _ _) A n c l rfl hr (by omega) (Nat.le_refl _) ?_
      intro A1 c1 w1 ho1 hb1 _ _
      simp only [Nat.zero_add,List.nil_append] at ho1 ⊢)
   | (at_builtin
      refine wpList_append8 _ rfl _ _ _ rfl w.heap.size 5 Tryz.underlying22 isByte A1 n c1 _ rfl (ho1.alloc _) (some ⟨w1.heap.size,0,none⟩) 1 1 [0x80] rfl (h80 _) (by omega) (by have := hb1.size; simp; omega) ?_
      intro A2 c2 w2 ho2 hb2 _ _))
 have hb2' : Below w.heap.size w w2 := (hb1.alloc hb1.size _).trans hb2
 go_loopw [3] (fun v wr => ∃ k A' c',k ≤ padz n ∧ v = .slice A' (n + 1 + k) c' ∧ Own wr w.heap.size 5 A' (n + 1 + k) c' (l ++ [0x80] ++ List.replicate k 0) ∧ Below w.heap.size w wr) (fun v _ => match v with | .slice _ m _ => n + 100 - m | _ => 0)
 case atStart => exact ⟨0,A2,c2,by omega,rfl,by simpa using ho2,hb2'⟩
 case round =>
   obtain ⟨k,A3,c3,hk,rfl,ho3,hb3⟩ := hrel
   by_cases hlt : k < padz n
   · have hne : ((((n + 1 + k : Nat)) : Int) % 64 != 56) = true := by
       have := padz_before n k hlt
       simp; omega
     obtain ⟨m,hm⟩ : ∃ m,n + 1 + k = m := ⟨_,rfl⟩
     rw [hm] at hne ho3 ⊢
     have Hm := hide hm
     have hm2 : m ≤ 1000100 := by omega
     clear hm
     go_wp2_with (at_builtin
                  refine wpList_append8 _ rfl _ _ _ rfl w.heap.size 5 Tryz.underlying22 isByte A3 m c3 _ rfl (ho3.alloc _) (some ⟨wr.heap.size,0,none⟩) 1 1 [0] rfl (h00 _) (by omega) (by have := hb3.size; simp; omega) ?_
                  intro A4 c4 w4 ho4 hb4 _ _)
     go_roundw
     case rel => exact ⟨k + 1,A4,c4,by omega,by rw [← Hm.out]; rfl,by rw [List.replicate_succ',← List.append_assoc,show n + 1 + (k + 1) = m + 1 by have := Hm.out; omega]; exact ho4,(hb3.alloc hb3.size _).trans hb4⟩
     case measure => have := Hm.out; simp; omega
   · obtain rfl : k = padz n := by omega
     have hne : ((((n + 1 + padz n : Nat)) : Int) % 64 != 56) = false := by
       have := padz_at n
       simp; omega
     obtain ⟨m,hm⟩ : ∃ m,n + 1 + padz n = m := ⟨_,rfl⟩
     rw [hm] at hne ho3 ⊢
     have Hm := hide hm
     have hm2 : m ≤ 1000100 := by omega
     have e9 := hide (show n + 9 + padz n = m + 8 by omega)
     have hHm := Hm
     clear hm Hm
     obtain ⟨N,hN⟩ : ∃ N,8 * n = N := ⟨_,rfl⟩
     have HN := hide hN
     clear hN
     obtain ⟨W0,hW0⟩ : ∃ W0,W0 = wr := ⟨_,rfl⟩
     subst hW0
     go_wp2_with fail
     go_loopw [3,5] (fun v i wr => ∃ k A' c',k ≤ 8 ∧ i = .int .i64 (56 - 8 * (k : Nat)) ∧ v = .slice A' (m + k) c' ∧ Own wr w.heap.size 5 A' (m + k) c' (l ++ [0x80] ++ List.replicate (padz n) 0 ++ (eight N).take k) ∧ Below w.heap.size w wr) (fun _ i _ => (intOf i + 8).toNat)
     case atStart => exact ⟨0,A3,c3,by omega,by go_num,rfl,by simpa using ho3,hb3⟩
     case round =>
       obtain ⟨k,A5,c5,hk,rfl,rfl,ho5,hb5⟩ := hrel
       by_cases h8 : k = 8
       · subst h8
         go_wp2
         go_ret
         exact ⟨A5,c5,by rw [e9.out]; rfl,by
           rw [e9.out]
           unfold fill
           rw [Hl.out,HN.out]
           rw [List.take_of_length_le (by rw [eight_len]; omega)] at ho5
           exact ho5,hb5⟩
       · have hk3 : 8 * (k : Int) ≤ 56 := by omega
         go_wp2_with (at_builtin
                      refine wpList_append8 _ rfl _ _ _ rfl w.heap.size 5 Tryz.underlying22 isByte A5 (m + k) c5 _ rfl (ho5.alloc _) (some ⟨wr.heap.size,0,none⟩) 1 1 [byt ((n : Int) * 8 / 2 ^ (56 - 8 * k))] rfl (Rd.one _ _ _) (by omega) (by have := hb5.size; simp; omega) ?_
                      intro A6 c6 w6 ho6 hb6 _ _)
         go_roundw
         case rel => exact ⟨k + 1,A6,c6,by omega,by go_num,rfl,by rw [eight_snoc _ _ (by omega),← List.append_assoc,show ((N : Nat) : Int) = (n : Int) * 8 by have := HN.out; omega]; exact ho6,(hb5.alloc hb5.size _).trans hb6⟩
         case measure => simp [intOf]; omega
end Go.Proofs.YtkkcpblfheplaaaGreatDoor
