/- Contracts of functions that the laws of downpourtop reach, and plain facts; no condition beyond what each theorem states. -/
import Derived.Test.YtkkcpblfheplaaaGreatDoorMD01
import Derived.ArgAppend
set_option maxRecDepth 100000
set_option maxHeartbeats 8000000
set_option linter.all false
namespace Go.Proofs.YtkkcpblfheplaaaGreatDoor
open Go.RowKit
namespace CrcP
def bst (r : W) (b : Bool) : W := (r >>> 1) ^^^ (if (r.getLsbD 0 ^^ b) then poly else 0#32)
def bitAt (l : List UInt8) (j : Nat) : Bool := (bw (l.getD (j / 8) 0)).getLsbD (j % 8)
def br (s : W) (l : List UInt8) : Nat → W
 | 0 => s
 | j + 1 => bst (br s l j) (bitAt l j)
theorem bst_st (r v : W) : bst r (v.getLsbD 0) ^^^ (v >>> 1) = st (r ^^^ v) := by
 unfold bst st
 have h : (r ^^^ v).getLsbD 0 = (r.getLsbD 0 ^^ v.getLsbD 0) := by simp
 rw [h,BitVec.ushiftRight_xor_distrib]
 generalize (if (r.getLsbD 0 ^^ v.getLsbD 0) = true then poly else 0#32) = p
 ac_rfl
theorem br_part (s : W) (l : List UInt8) (q : Nat) (hq : q < l.length) : ∀ t,t ≤ 8 → br s l (8 * q + t) ^^^ (bw l[q] >>> t) = stN t (br s l (8 * q) ^^^ bw l[q]) := by
 intro t
 induction t with
 | zero => intro _; simp [stN]
 | succ t ih =>
   intro ht
   have h := ih (by omega)
   show bst (br s l (8 * q + t)) (bitAt l (8 * q + t)) ^^^ _ = st _
   have e1 : (8 * q + t) / 8 = q := by omega
   have e2 : (8 * q + t) % 8 = t := by omega
   have e3 : bitAt l (8 * q + t) = (bw l[q] >>> t).getLsbD 0 := by
     unfold bitAt
     rw [e1,e2,List.getD_eq_getElem?_getD,List.getElem?_eq_getElem hq]
     simp
   rw [e3,← h,← bst_st,BitVec.shiftRight_add]
theorem br_byte (s : W) (l : List UInt8) (q : Nat) (hq : q < l.length) : br s l (8 * (q + 1)) = up (br s l (8 * q)) l[q] := by
 have h := br_part s l q hq 8 (Nat.le_refl _)
 have e : bw l[q] >>> 8 = 0#32 := by
   apply BitVec.eq_of_toNat_eq
   rw [BitVec.toNat_ushiftRight,Nat.shiftRight_eq_div_pow,bw_toNat]
   have := l[q].toNat_lt
   simp; omega
 rw [e,BitVec.xor_zero] at h
 rw [show 8 * (q + 1) = 8 * q + 8 by omega,h]
 rfl
theorem br_take (s : W) (l : List UInt8) : ∀ q,q ≤ l.length → br s l (8 * q) = run s (l.take q) := by
 intro q
 induction q with
 | zero => intro _; rfl
 | succ q ih =>
   intro h
   rw [br_byte s l q (by omega),ih (by omega),List.take_add_one,List.getElem?_eq_getElem (by omega),run_append]
   rfl
theorem br_all (s : W) (l : List UInt8) (n : Nat) (h : l.length = n) : br s l (8 * n) = run s l := by
 subst h
 rw [br_take s l l.length (Nat.le_refl _),List.take_length]
end CrcP
theorem and_one (a : BitVec 32) : a &&& 1#32 = if a.getLsbD 0 then 1#32 else 0#32 := by
 apply BitVec.eq_of_getLsbD_eq
 intro i hi
 rw [BitVec.getLsbD_and,BitVec.getLsbD_one]
 rcases Nat.eq_zero_or_pos i with rfl | hp
 · cases a.getLsbD 0 <;> simp
 · have : i ≠ 0 := by omega
   cases a.getLsbD 0 <;> simp [this]
theorem shr_V (x : UInt8) (t : Nat) : (x.toNat : Int) / 2 ^ t % 4294967296 = V (CrcP.bw x >>> t) := by
 unfold V
 rw [BitVec.toNat_ushiftRight,CrcP.bw_toNat,Nat.shiftRight_eq_div_pow]
 have h : ((x.toNat : Int) / 2 ^ t) = ((x.toNat / 2 ^ t : Nat) : Int) := by simp
 have h1 := x.toNat_lt
 have h2 := Nat.div_le_self x.toNat (2 ^ t)
 rw [h]
 generalize x.toNat / 2 ^ t = q at *
 omega
theorem test_val (r : BitVec 32) (x : UInt8) (t : Nat) :
   (bits .xor .u32 (bits .and .u32 (V r) 1) (bits .and .u32 ((x.toNat : Int) / 2 ^ t % 4294967296) 1) == 1) = (r.getLsbD 0 ^^ (CrcP.bw x).getLsbD t) := by
 rw [shr_V,V_one,V_and,V_and,V_xor,and_one,and_one]
 have e : (CrcP.bw x >>> t).getLsbD 0 = (CrcP.bw x).getLsbD t := by simp
 rw [e]
 cases r.getLsbD 0 <;> cases (CrcP.bw x).getLsbD t <;> decide
theorem bst_yes {r : BitVec 32} {b : Bool} (h : (r.getLsbD 0 ^^ b) = true) : bits .xor .u32 (V r / (2 : Int)) 3988292384 = V (CrcP.bst r b) := by
 have e : (3988292384 : Int) = V CrcP.poly := by decide
 rw [V_shr1,e,V_xor]
 unfold CrcP.bst
 rw [if_pos h]
theorem bst_no {r : BitVec 32} {b : Bool} (h : (r.getLsbD 0 ^^ b) = false) : V r / (2 : Int) = V (CrcP.bst r b) := by
 rw [V_shr1]
 unfold CrcP.bst
 rw [h]
 simp
def ones : BitVec 32 := BitVec.allOnes 32
theorem ones_val : (4294967295 : Int) = V ones := by decide
theorem rcrc_any (A : Option Addr) (n c : Nat) (l : List UInt8) (w : World) (hr : Rd w A n c l) (hn : n ≤ 1000000) :
   Calls Tryz.prog 128 #[.slice A n c] w fun e w' => e = .returned (.int .u32 (V (CrcP.sum l))) ∧ w = w' := by
 have Hll := hide hr.1
 go_enter Tryz.func128,Tryz.ntmps128
 go_wp2
 simp only [ones_val]
 go_loop [3,10] (fun x i => ∃ j : Nat,j ≤ 8 * n ∧ i = .int .i64 j ∧ x = .int .u32 (V (CrcP.br ones l j))) (fun _ i => 8 * n - (intOf i).toNat)
 case atStart => exact ⟨0,Nat.zero_le _,rfl,rfl⟩
 case round =>
   obtain ⟨j,hj,rfl,rfl⟩ := hrel
   by_cases hlt : j < 8 * n
   · obtain ⟨ad,x,rfl,hx,hc⟩ := hr.at_ (k := j / 8) (by omega)
     have b1 : (j : Int) / 8 < (n : Int) := by omega
     have b2 : (0 : Int) ≤ (j : Int) / 8 := by omega
     have hbit : CrcP.bitAt l j = (CrcP.bw x).getLsbD (j % 8) := by unfold CrcP.bitAt; rw [List.getD_eq_getElem?_getD,hx]; rfl
     have htest := test_val (CrcP.br ones l j) x (j % 8)
     rw [← hbit] at htest
     have Hs : Hid (CrcP.br ones l (j + 1) = CrcP.bst (CrcP.br ones l j) (CrcP.bitAt l j)) := hide rfl
     clear hx hbit
     by_cases hB : ((CrcP.br ones l j).getLsbD 0 ^^ CrcP.bitAt l j) = true
     · rw [hB] at htest
       have hv := bst_yes hB
       clear hB
       go_wp2_with fail
       go_round
       case rel => exact ⟨j + 1,by omega,by go_num,by rw [Hs.out,← hv]⟩
       case measure => simp [intOf]; omega
     · have hB' : ((CrcP.br ones l j).getLsbD 0 ^^ CrcP.bitAt l j) = false := by simpa using hB
       rw [hB'] at htest
       have hv := hide (bst_no hB')
       clear hB hB'
       go_wp2_with fail
       go_round
       case rel => exact ⟨j + 1,by omega,by go_num,by rw [Hs.out,← hv.out]⟩
       case measure => simp [intOf]; omega
   · go_wp2_with fail
     simp only [V_not]
     go_ret
     exact ⟨by rw [show j = 8 * n by omega,CrcP.br_all _ _ _ Hll.out]; rfl,rfl⟩
theorem four_cells (s : BitVec 32) : (#[Value.int .u8 (V s / 16777216 % 256),.int .u8 (V s / 65536 % 256),.int .u8 (V s / 256 % 256),.int .u8 (V s % 256)] : Array Value).toList = bys (four s) := by
 simp [bys,by8,four,byt_val]
theorem four_any (s : BitVec 32) (w : World) :
   Calls Tryz.prog 56 #[.int .u32 (V s)] w fun e w' => ∃ A c,e = .returned (.slice A 4 c) ∧ Own w' w.heap.size 5 A 4 c (four s) ∧ Below w.heap.size w w' := by
 go_enter Tryz.func56,Tryz.ntmps56
 go_wp2
 go_ret
 exact ⟨_,_,rfl,Own.lit w w.heap.size 5 _ (four_cells s) (by rw [four_len]; decide) (Nat.le_refl _),(Below.refl _ _).alloc (Nat.le_refl _) _⟩
theorem rput_any (A : Option Addr) (n c : Nat) (l : List UInt8) (w : World) (hr : Rd w A n c l) (hn : n ≤ 1000000) :
   Calls Tryz.prog 106 #[.slice A n c] w fun e w' => ∃ A' c',e = .returned (.slice A' (n + 4) c') ∧ Own w' w.heap.size 5 A' (n + 4) c' (putL l) ∧ Below w.heap.size w w' := by
 go_enter Tryz.func106,Tryz.ntmps106
 go_wp2_with (at_builtin
              refine wpList_append8 w rfl _ _ _ rfl w.heap.size 5 Tryz.underlying22 isByte none 0 0 [] rfl (Own.nil _ _ _) A n c l rfl hr (by omega) (Nat.le_refl _) ?_
              intro A1 c1 w1 ho1 hb1 _ _)
 refine (rcrc_any _ _ _ _ _ (hr.below hb1) hn).mono ?_
 rintro e w2 ⟨rfl,rfl⟩
 go_wp2_with fail
 refine (four_any _ _).mono ?_
 rintro e w2 ⟨A2,c2,rfl,ho2,hb2⟩
 have hb3 : Below w.heap.size w w2 := hb1.trans (hb2.mono hb1.size)
 go_wp2_with (at_builtin
              refine wpList_append8 w2 rfl _ _ _ rfl w.heap.size 5 Tryz.underlying22 isByte A1 n c1 l rfl (Own.below (by simpa using ho1) hb2) A2 4 c2 _ rfl ho2.rd (by omega) hb3.size ?_
              intro A3 c3 w3 ho3 hb4 _ _)
 go_ret
 refine ⟨A3,c3,by simp,by simpa [putL] using ho3,hb3.trans hb4⟩
theorem join_any (A : Option Addr) (n c : Nat) (ls : List (List UInt8)) (w : World) (hr : RdL w A n c ls) (hn : ls.flatten.length ≤ 1000000) :
   Calls Tryz.prog 75 #[.slice A n c] w fun e w' => ∃ A' c',e = .returned (.slice A' ls.flatten.length c') ∧ Own w' w.heap.size 5 A' ls.flatten.length c' ls.flatten ∧ Below w.heap.size w w' := by
 have hm : n ≤ maxLen := Nat.le_trans hr.2.1 hr.2.2.1
 unfold maxLen at hm
 have Hll := hide hr.1
 go_enter Tryz.func75,Tryz.ntmps75
 go_wp2
 go_loopw [3,8] (fun v i wr => ∃ k A' m c',k ≤ n ∧ i = .int .i64 (k : Nat) ∧ v = .slice A' m c' ∧ Own wr w.heap.size 5 A' m c' (ls.take k).flatten ∧ Below w.heap.size w wr) (fun _ i _ => n - (intOf i).toNat)
 case atStart => exact ⟨0,none,0,0,Nat.zero_le _,rfl,rfl,Own.nil _ _ _,Below.refl _ _⟩
 case round =>
   obtain ⟨k,A2,m,c2,hk,rfl,rfl,ho2,hb2⟩ := hrel
   by_cases hlt : k < n
   · obtain ⟨ad,l,A',n',c',rfl,hl,hc,hrl⟩ := (hr.below hb2).at_ hlt
     have Hl := hide hl
     have hsz : m + n' ≤ 140737488355328 := by
       have h1 := ho2.len
       have h2 := hrl.1
       have h3 : (ls.take (k + 1)).flatten = (ls.take k).flatten ++ l := by rw [List.take_add_one,hl]; simp
       have h4 : (ls.take (k + 1)).flatten.length ≤ ls.flatten.length := by
         have h5 : ls.flatten = (ls.take (k + 1)).flatten ++ (ls.drop (k + 1)).flatten := by rw [← List.flatten_append,List.take_append_drop]
         rw [h5,List.length_append]; omega
       rw [h3,List.length_append] at h4
       omega
     clear hl
     go_wp2_with (at_builtin
                  refine wpList_append8 wr rfl _ _ _ rfl w.heap.size 5 Tryz.underlying22 isByte A2 m c2 _ rfl ho2 A' n' c' l rfl hrl hsz hb2.size ?_
                  intro A3 c3 w3 ho3 hb3 _ _)
     go_roundw
     case rel => exact ⟨k + 1,A3,m + n',c3,by omega,by go_num,rfl,by rw [List.take_add_one,Hl.out]; simpa using ho3,hb2.trans hb3⟩
     case measure => simp [intOf]; omega
   · have ek : ls.take k = ls := by rw [List.take_of_length_le]; rw [Hll.out]; omega
     rw [ek] at ho2
     clear ek
     have hml : m = ls.flatten.length := ho2.len.symm
     subst hml
     go_wp2
     go_ret
     exact ⟨A2,c2,rfl,ho2,hb2⟩
theorem rt_split (l : List UInt8) (m : Nat) (h : l.length = m + 4) : Rt l ↔ four (CrcP.sum (l.take m)) = l.drop m := by
 have := rt_iff (l.take m) (l.drop m) (by simp [h])
 rwa [List.take_append_drop] at this
theorem rright_not (A : Option Addr) (m c : Nat) (l : List UInt8) (w : World) (hr : Rd w A (m + 4) c l) (hn2 : m ≤ 900000) (he : ¬ Rt l) :
   Calls Tryz.prog 74 #[.slice A (m + 4) c] w fun e w' => e = .returned (.tuple #[.slice none 0 0,.bool false]) ∧ Below w.heap.size w w' := by
 have hmc : m + 4 ≤ c := hr.2.1
 have h5 : (m : Int) ≤ (c : Int) := by omega
 have h6 : (0 : Int) ≤ (m : Int) := by omega
 have h7 : (m : Int) ≤ (m : Int) + 4 := by omega
 have hcm : ¬ c = m := by omega
 rw [rt_split l m hr.1] at he
 have hs := str_other he
 go_enter Tryz.func74,Tryz.ntmps74
 go_wp2_with fail
 have Hc : ∀ w',Rd w' A (m + 4) c l → (convert 22 9 (.slice (A.map fun x => x.add m) 4 (c - m))).run Tryz.prog w' = .ok (.string (str (l.drop m))) w' :=
   fun w' h => conv22 (by have h8 := h.lo_ne (k := m) (by omega) hcm; rwa [Nat.add_sub_cancel_left] at h8)
 go_region_held (fun w' => Rd w' A (m + 4) c l) (first | exact hr | exact Rd.below (w := w.drew) hr hb1)
   ((first
     | (go_at_call 128; refine (rcrc_any _ _ _ _ _ (Rd.hi (w := w.drew) hr (by omega)) (by omega)).mono ?_; rintro e w1 ⟨rfl,rfl⟩)
     | (go_at_call 56; refine (four_any _ _).mono ?_; rintro e w1 ⟨A1,c1,rfl,ho1,hb1⟩; have hcv := conv22 ho1.rd)))
 go_wp2_with fail
 go_ret2
 exact ⟨rfl,undrew hb1⟩
theorem rright_is (A : Option Addr) (m c : Nat) (l : List UInt8) (w : World) (hr : Rd w A (m + 4) c l) (hn2 : m ≤ 900000) (he : Rt l) :
   Calls Tryz.prog 74 #[.slice A (m + 4) c] w fun e w' => ∃ A' c',e = .returned (.tuple #[.slice A' m c',.bool true]) ∧ Own w' w.heap.size 5 A' m c' (l.take m) ∧ Below w.heap.size w w' := by
 have hmc : m + 4 ≤ c := hr.2.1
 have h5 : (m : Int) ≤ (c : Int) := by omega
 have h6 : (0 : Int) ≤ (m : Int) := by omega
 have h7 : (m : Int) ≤ (m : Int) + 4 := by omega
 have hcm : ¬ c = m := by omega
 rw [rt_split l m hr.1] at he
 have hs := str_same he
 have He := hide he
 clear he
 go_enter Tryz.func74,Tryz.ntmps74
 go_wp2_with fail
 have Hc : ∀ w',Rd w' A (m + 4) c l → (convert 22 9 (.slice (A.map fun x => x.add m) 4 (c - m))).run Tryz.prog w' = .ok (.string (str (l.drop m))) w' :=
   fun w' h => conv22 (by have h8 := h.lo_ne (k := m) (by omega) hcm; rwa [Nat.add_sub_cancel_left] at h8)
 go_region_held (fun w' => Rd w' A (m + 4) c l) (first | exact hr | exact Rd.below (w := w.drew) hr hb1)
   ((first
     | (go_at_call 128; refine (rcrc_any _ _ _ _ _ (Rd.hi (w := w.drew) hr (by omega)) (by omega)).mono ?_; rintro e w1 ⟨rfl,rfl⟩)
     | (go_at_call 56; refine (four_any _ _).mono ?_; rintro e w1 ⟨A1,c1,rfl,ho1,hb1⟩; have hcv := conv22 ho1.rd)))
 have hb1' : Below w.heap.size w w1 := undrew hb1
 go_wp2_with (at_builtin
              refine wpList_append8 _ rfl _ _ _ rfl w.heap.size 5 Tryz.underlying22 isByte none 0 0 [] rfl (Own.nil _ _ _) A m c _ rfl (Rd.hi (Rd.below (w := w) hr hb1') (by omega)) (by omega) hb1'.size ?_
              intro A3 c3 w3 ho3 hb3 _ _)
 go_ret2
 exact ⟨A3,c3,by simp,by simpa using ho3,hb1'.trans hb3⟩
theorem below_next {w a b : World} (h : Below w.heap.size w a) (k : Below a.heap.size a b) : Below w.heap.size w b := h.trans (k.mono h.size)
theorem wpList_appendFull8 {P : Program} (w : World) {ops : Array Oper} {rest : List Oper} {o : Oper} {a : Act} {Q : Exit → Act → World → Prop} (hgd : o.guard = none) (s x : Operand) (t : TypeId)
   (hop : o.op = .call { callee := .builtin .append,args := #[s,x],argTypes := #[t,t] })
   (e : TypeId) (ht : P.underlying t = some (.slice e)) (hi : IsByte P e)
   (A : Option Addr) (n : Nat) (l : List UInt8) (hs : a.eval s = .slice A n n) (ho : Rd w A n n l) (hn : 0 < n) (X : Option Addr) (m d : Nat) (r : List UInt8) (hx : a.eval x = .slice X m d) (hr : Rd w X m d r) (hm : 0 < m)
   (hsz : n + m ≤ 140737488355328)
   (h : ∀ A' c' w',Own w' w.heap.size e A' (n + m) c' (l ++ r) → Below w.heap.size w w' → wpList P ops Q rest (a.put o.dst (.slice A' (n + m) c')) w') : wpList P ops Q (o :: rest) a w := by
 obtain ⟨i,hi,hz0,hz1,hz2⟩ := info_parts hi
 obtain ⟨h1,_,_,h4⟩ := ho
 obtain ⟨ad,rfl,hc⟩ := h4 hn
 obtain ⟨k1,_,_,k4⟩ := hr
 obtain ⟨bd,rfl,kc⟩ := k4 hm
 refine wpList_append_grows w hgd s x t hop e i _ 1 1 ht hi hz0 hz1 hz2 rfl (by omega) (some ad) n n (bys l) hs (fun h => by cases h) (by rw [bys_len]; omega)
   (fun b hb j u hu => ?_) bd m d (bys r) hx (by rw [bys_len]; omega) (fun j u hu => ?_) (bys_one r) (by omega) (by simp only [maxLen]; omega) (by omega) (fun v' w' hown hg => ?_)
 · cases hb
   rw [bys_get,Option.map_eq_some_iff] at hu
   obtain ⟨y,hy,rfl⟩ := hu
   exact hc j y hy
 · rw [bys_get,Option.map_eq_some_iff] at hu
   obtain ⟨y,hy,rfl⟩ := hu
   exact kc j y hy
 · have h2 := hown
   obtain ⟨g,cap,rfl,_,_⟩ := hown.form (by omega)
   exact h _ cap w' (by unfold Own; rw [bys_app]; exact h2) ((Below.refl _ _).grown hg (Nat.le_refl _) (fun k hk => by cases hk))
theorem equal_any (A B : Option Addr) (n c m d : Nat) (l r : List UInt8) (w : World) (hl : Rd w A n c l) (hr : Rd w B m d r) :
   Calls Tryz.prog 130 #[.slice A n c,.slice B m d] w fun e w' => e = .returned (.bool ((str l).toList == (str r).toList)) ∧ w = w' := by
 have k1 := conv22 hl
 have k2 := conv22 hr
 go_enter Tryz.func130,Tryz.ntmps130
 go_wp2_with fail
 go_ret
 exact ⟨rfl,rfl⟩
theorem hasPrefix_any (A B : Option Addr) (n c m d : Nat) (l r : List UInt8) (w : World) (hl : Rd w A n c l) (hr : Rd w B m d r) (hmn : m ≤ n) :
   Calls Tryz.prog 79 #[.slice A n c,.slice B m d] w fun e w' => e = .returned (.bool ((str (l.take m)).toList == (str r).toList)) ∧ w = w' := by
 have h1 : (m : Int) ≤ (n : Int) := by omega
 have h2 : (m : Int) ≤ (c : Int) := by have := hl.2.1; omega
 go_enter Tryz.func79,Tryz.ntmps79
 go_wp2_with (go_at_call 130; refine (equal_any _ _ _ _ _ _ _ _ _ (hl.hi hmn) hr).mono ?_; rintro e w' ⟨rfl,rfl⟩)
 go_ret
 exact ⟨rfl,rfl⟩
def lenOf (l : List UInt8) : Nat := 9 + (l.getD 3 0).toNat * 256 + (l.getD 4 0).toNat
theorem length_any (A : Option Addr) (n c : Nat) (l : List UInt8) (w : World) (hr : Rd w A n c l) (hn : 5 ≤ n) :
   Calls Tryz.prog 80 #[.slice A n c] w fun e w' => e = .returned (.int .i64 (lenOf l : Nat)) ∧ Below w.heap.size w w' := by
 obtain ⟨ad,x,rfl,hx,hc3⟩ := hr.at_ (k := 3) (by omega)
 obtain ⟨ad',y,e,hy,hc4⟩ := hr.at_ (k := 4) (by omega)
 cases e
 have hc3 : w.cell? ⟨ad.block,ad.off + 3,none⟩ = some (.int .u8 x.toNat) := hc3
 have hc4 : w.cell? ⟨ad.block,ad.off + 4,none⟩ = some (.int .u8 y.toNat) := hc4
 have b3 : (3 : Int) < (n : Int) := by omega
 have b4 : (4 : Int) < (n : Int) := by omega
 have v3 : ((l.getD 3 0).toNat : Int) = (x.toNat : Int) := by rw [List.getD_eq_getElem?_getD,hx]; rfl
 have v4 : ((l.getD 4 0).toNat : Int) = (y.toNat : Int) := by rw [List.getD_eq_getElem?_getD,hy]; rfl
 have hv : ((lenOf l : Nat) : Int) = 9 + (x.toNat : Int) * 256 + (y.toNat : Int) := by unfold lenOf; omega
 have Hv := hide hv
 have l3 := x.toNat_lt
 have l4 := y.toNat_lt
 clear hx hy v3 v4 hv
 go_enter Tryz.func80,Tryz.ntmps80
 go_wp2_with fail
 go_quiet (fail)
 go_wp2_with fail
 go_ret
 refine ⟨?_,below_drewN (Below.refl _ _) _⟩
 rw [Hv.out]
 rfl
def innerL (k : Int) (l : List UInt8) : List UInt8 := [byt k,byt ((l.length : Int) / 256),byt (l.length : Int)] ++ l
def wrapL (k : Int) (l : List UInt8) : List UInt8 := [68,80] ++ putL (innerL k l)
theorem innerL_len (k : Int) (l : List UInt8) : (innerL k l).length = 3 + l.length := by simp [innerL]; omega
theorem wrapL_len (k : Int) (l : List UInt8) : (wrapL k l).length = l.length + 9 := by simp [wrapL,putL_len,innerL_len]; omega
theorem head_cells (k : Int) (n : Nat) (h0 : 0 ≤ k) (h1 : k ≤ 255) (h2 : n ≤ 291) : (#[Value.int .u8 k,.int .u8 ((n : Int) / 256),.int .u8 ((n : Int) % 256)] : Array Value).toList = bys [byt k,byt ((n : Int) / 256),byt (n : Int)] := by
 have e1 : k % 256 = k := by omega
 have e2 : (n : Int) / 256 % 256 = (n : Int) / 256 := by omega
 simp [bys,by8,byt_val,e1,e2]
theorem wrap_good (k : Int) (A : Option Addr) (n c : Nat) (l : List UInt8) (w : World) (hr : Rd w A n c l) (h0 : 0 ≤ k) (h1 : k ≤ 255) (h2 : n ≤ 291) :
   Calls Tryz.prog 30 #[.int .i64 k,.slice A n c] w fun e w' => ∃ A' c',e = .returned (.tuple #[.slice A' (n + 9) c',.int .i64 0]) ∧ Own w' w.heap.size 5 A' (n + 9) c' (wrapL k l) ∧ Below w.heap.size w w' := by
 have h2' : (n : Int) ≤ 291 := by omega
 have Hl := hide hr.1
 have kc := fun (w : World) (C : Array Value) (n c : Nat) => Lib.run_convert_bytes_const (P := Tryz.prog) w 22 5 C n c Tryz.underlying22 Tryz.underlying5
 have hb0 : Below w.heap.size w (w.alloc (.cells #[.int .u8 k,.int .u8 ((n : Int) / 256),.int .u8 ((n : Int) % 256)] 5)) := (Below.refl _ _).alloc (Nat.le_refl _) _
 have ho0 := Own.lit w w.heap.size 5 _ (head_cells k n h0 h1 h2) (by simp [maxLen]) (Nat.le_refl _)
 go_enter Tryz.func30,Tryz.ntmps30
 go_wp2_with (at_builtin
              refine wpList_append8 _ rfl _ _ _ rfl w.heap.size 5 Tryz.underlying22 isByte _ 3 3 _ rfl ho0 A n c l rfl (hr.below hb0) (by omega) (by simp) ?_
              intro A1 c1 w1 ho1 hb1 _ _)
 have ho1' : Own w1 w.heap.size 5 A1 (3 + n) c1 (innerL k l) := by unfold innerL; rw [Hl.out]; exact ho1
 have hbb1 := hb0.trans hb1
 have hmk : Rd (w1.alloc (.cells #[.int .u8 68,.int .u8 80] 5 (2,3))) (some ⟨w1.heap.size,0,none⟩) 2 2 [68,80] := Rd.newFr w1 5 _ _ rfl (by decide)
 have hba : Below w1.heap.size w1 (w1.alloc (.cells #[.int .u8 68,.int .u8 80] 5 (2,3))) := (Below.refl _ _).alloc (Nat.le_refl _) _
 refine (put_any _ _ _ _ _ (ho1'.rd.below hba) (by omega)).mono ?_
 rintro e w2 ⟨A2,c2,rfl,ho2,hb2⟩
 have hbb2 : Below w.heap.size w w2 := below_next (below_next hbb1 hba) hb2
 clear ho1
 go_wp2_with (at_builtin
              refine wpList_appendFull8 _ rfl _ _ _ rfl 5 Tryz.underlying22 isByte _ 2 _ rfl (hmk.below hb2) (by omega) A2 (3 + n + 4) c2 _ rfl ho2.rd (by omega) (by omega) ?_
              intro A3 c3 w3 ho3 hb3)
 have e9 : 2 + (3 + n + 4) = n + 9 := by omega
 rw [e9] at ho3 ⊢
 go_wp2_with fail
 go_ret2
 exact ⟨A3,c3,rfl,ho3.mono hbb2.size,below_next hbb2 hb3⟩
theorem two_any (n : Nat) (w : World) (hn : n ≤ 291) :
   Calls Tryz.prog 105 #[.int .i64 n] w fun e w' => ∃ A c,e = .returned (.slice A 2 c) ∧ Own w' w.heap.size 5 A 2 c [byt ((n : Int) / 256),byt (n : Int)] ∧ Below w.heap.size w w' := by
 have hn' : (n : Int) ≤ 291 := by omega
 have e := hide (show (#[Value.int .u8 ((n : Int) / 256),.int .u8 ((n : Int) % 256)] : Array Value).toList = bys [byt ((n : Int) / 256),byt (n : Int)] by
   have e2 : (n : Int) / 256 % 256 = (n : Int) / 256 := by omega
   simp [bys,by8,byt_val,e2])
 go_enter Tryz.func105,Tryz.ntmps105
 go_wp2
 go_ret
 exact ⟨_,_,rfl,Own.lit w w.heap.size 5 _ e.out (by simp [maxLen]) (Nat.le_refl _),(Below.refl _ _).alloc (Nat.le_refl _) _⟩
theorem join_as (A : Option Addr) (n c N : Nat) (ls : List (List UInt8)) (L : List UInt8) (w : World) (hL : ls.flatten = L) (hN : L.length = N) (hr : RdL w A n c ls) (hn : N ≤ 1000000) :
   Calls Tryz.prog 75 #[.slice A n c] w fun e w' => ∃ A' c',e = .returned (.slice A' N c') ∧ Own w' w.heap.size 5 A' N c' L ∧ Below w.heap.size w w' := by
 subst hL
 have h := join_any A n c ls w hr (by omega)
 rw [hN] at h
 exact h
theorem rdl_three {W : World} {g n m k c d e : Nat} {A B C : Option Addr} {l r s : List UInt8} (h0 : W.cell? ⟨g,0,none⟩ = some (.slice A n c)) (h1 : W.cell? ⟨g,1,none⟩ = some (.slice B m d)) (h2 : W.cell? ⟨g,2,none⟩ = some (.slice C k e))
   (hl : Rd W A n c l) (hr : Rd W B m d r) (hs : Rd W C k e s) : RdL W (some ⟨g,0,none⟩) 3 3 [l,r,s] :=
 ⟨rfl,Nat.le_refl _,by decide,fun _ => ⟨_,rfl,fun j x hj => by
   match j,hj with
   | 0,hj => simp at hj; subst hj; exact ⟨A,n,c,by rw [addAt]; exact h0,hl⟩
   | 1,hj => simp at hj; subst hj; exact ⟨B,m,d,by rw [addAt]; exact h1,hr⟩
   | 2,hj => simp at hj; subst hj; exact ⟨C,k,e,by rw [addAt]; exact h2,hs⟩⟩⟩
theorem rdl_two' {W : World} {g n m c d : Nat} {A B : Option Addr} {l r : List UInt8} (h0 : W.cell? ⟨g,0,none⟩ = some (.slice A n c)) (h1 : W.cell? ⟨g,1,none⟩ = some (.slice B m d)) (hl : Rd W A n c l) (hr : Rd W B m d r) :
   RdL W (some ⟨g,0,none⟩) 2 2 [l,r] :=
 ⟨rfl,Nat.le_refl _,by decide,fun _ => ⟨_,rfl,fun j x hj => by
   match j,hj with
   | 0,hj => simp at hj; subst hj; exact ⟨A,n,c,by rw [addAt]; exact h0,hl⟩
   | 1,hj => simp at hj; subst hj; exact ⟨B,m,d,by rw [addAt]; exact h1,hr⟩⟩⟩
theorem rdl_one {W : World} {g n c : Nat} {A : Option Addr} {l : List UInt8} (h0 : W.cell? ⟨g,0,none⟩ = some (.slice A n c)) (hl : Rd W A n c l) : RdL W (some ⟨g,0,none⟩) 1 1 [l] :=
 ⟨rfl,Nat.le_refl _,by decide,fun _ => ⟨_,rfl,fun j x hj => by
   match j,hj with
   | 0,hj => simp at hj; subst hj; exact ⟨A,n,c,by rw [addAt]; exact h0,hl⟩⟩⟩
theorem rwrap_good (k : Int) (A : Option Addr) (n c : Nat) (l : List UInt8) (w : World) (hr : Rd w A n c l) (h0 : 0 ≤ k) (h1 : k ≤ 255) (h2 : n ≤ 291) :
   Calls Tryz.prog 48 #[.int .i64 k,.slice A n c] w fun e w' => ∃ A' c',e = .returned (.tuple #[.slice A' (n + 9) c',.int .i64 0]) ∧ Own w' w.heap.size 5 A' (n + 9) c' (wrapL k l) ∧ Below w.heap.size w w' := by
 have h2' : (n : Int) ≤ 291 := by omega
 have Hl := hide hr.1
 have kc := fun (w : World) (C : Array Value) (n c : Nat) => Lib.run_convert_bytes_const (P := Tryz.prog) w 22 5 C n c Tryz.underlying22 Tryz.underlying5
 have hk : (#[Value.int .u8 k] : Array Value).toList = bys [byt k] := by
   have e1 : k % 256 = k := by omega
   simp [bys,by8,byt_val,e1]
 have hr0 := Rd.new w 5 _ hk (by simp [maxLen])
 clear hk
 have hb0 : Below w.heap.size w (w.alloc (.cells #[.int .u8 k] 5)) := (Below.refl _ _).alloc (Nat.le_refl _) _
 go_enter Tryz.func48,Tryz.ntmps48
 go_wp2_with fail
 refine (two_any n _ h2).mono ?_
 rintro e w1 ⟨A1,c1,rfl,ho1,hb1⟩
 have hbb1 := below_next hb0 hb1
 go_wp2_with fail
 have hq : Below w1.heap.size w1 (w1.alloc (.cells #[.slice (some ⟨w.heap.size,0,none⟩) 1 1,.slice A1 2 c1,.slice A n c] 22)) := (Below.refl _ _).alloc (Nat.le_refl _) _
 refine (join_as _ 3 3 (3 + n) [[byt k],[byt ((n : Int) / 256),byt (n : Int)],l] (innerL k l) _ (by unfold innerL; rw [Hl.out]; simp) (by rw [innerL_len,Hl.out])
   (rdl_three (by simp [World.cell?_alloc_new]) (by simp [World.cell?_alloc_new]) (by simp [World.cell?_alloc_new]) ((hr0.below hb1).below hq) (ho1.rd.below hq) ((hr.below hbb1).below hq)) (by omega)).mono ?_
 rintro e w2 ⟨A2,c2,rfl,ho2,hb2⟩
 have hbb2 := below_next (below_next hbb1 hq) hb2
 go_wp2_with fail
 have hmk : Rd (w2.alloc (.cells #[.int .u8 68,.int .u8 80] 5 (2,3))) (some ⟨w2.heap.size,0,none⟩) 2 2 [68,80] := Rd.newFr w2 5 _ _ rfl (by decide)
 have hba : Below w2.heap.size w2 (w2.alloc (.cells #[.int .u8 68,.int .u8 80] 5 (2,3))) := (Below.refl _ _).alloc (Nat.le_refl _) _
 refine (rput_any _ _ _ _ _ (ho2.rd.below hba) (by omega)).mono ?_
 rintro e w3 ⟨A3,c3,rfl,ho3,hb3⟩
 have hbb3 := below_next (below_next hbb2 hba) hb3
 have hmk3 := hmk.below hb3
 go_wp2_with fail
 have hs : Below w3.heap.size w3 (w3.alloc (.cells #[.slice (some ⟨w2.heap.size,0,none⟩) 2 2,.slice A3 (3 + n + 4) c3] 22)) := (Below.refl _ _).alloc (Nat.le_refl _) _
 refine (join_as _ 2 2 (n + 9) [[68,80],putL (innerL k l)] (wrapL k l) _ (by simp [wrapL]) (by rw [wrapL_len,Hl.out])
   (rdl_two' (by simp [World.cell?_alloc_new]) (by simp [World.cell?_alloc_new]) (hmk3.below hs) (ho3.rd.below hs)) (by omega)).mono ?_
 rintro e w4 ⟨A4,c4,rfl,ho4,hb4⟩
 have hbb4 := below_next (below_next hbb3 hs) hb4
 go_wp2_with fail
 go_ret2
 exact ⟨A4,c4,rfl,ho4.mono (below_next hbb3 hs).size,hbb4⟩
def rOk (l : List UInt8) : Bool := decide (4 ≤ l.length) && (putL (l.take (l.length - 4)) == l)
theorem rOk_iff (l : List UInt8) : rOk l = true ↔ 4 ≤ l.length ∧ Rt l := by simp [rOk,Rt]
def unw (l : List UInt8) : Int × List UInt8 × Int :=
 if 300 < l.length then (0,[],3)
 else if l.length < 9 then (0,[],2)
 else if l.take 2 = [68,80] ∧ lenOf l = l.length then (if rOk (l.drop 2) then ((l.getD 2 0).toNat,(l.drop 5).take (l.length - 9),0) else (0,[],4))
 else (0,[],3)
def Unw (l : List UInt8) (w : World) (e : Ending) (w' : World) : Prop :=
 ∃ A n c,e = .returned (.tuple #[.int .i64 (unw l).1,.slice A n c,.int .i64 (unw l).2.2]) ∧ Rd w' A n c (unw l).2.1 ∧ Below w.heap.size w w'
theorem rd_none (w : World) : Rd w none 0 0 [] := Rd.nil _ _ (Nat.zero_le _)
theorem right_at (A : Option Addr) (m c : Nat) (l : List UInt8) (w : World) (hr : Rd w A (m + 4) c l) (hn2 : m ≤ 900000) (he : Rt l) :
   Calls Tryz.prog 81 #[.slice A (m + 4) c] w fun e w' => ∃ A' c',e = .returned (.tuple #[.slice A' m c',.bool true]) ∧ Own w' w.heap.size 5 A' m c' (l.take m) ∧ Below w.heap.size w w' := by
 have h := right_is A (m + 4) c l w hr (by omega) (by omega) he
 simpa only [Nat.add_sub_cancel] using h
structure Good (l : List UInt8) (m : Nat) : Prop where
 len : l.length = m + 9
 short : m ≤ 291
 mark : l.take 2 = [68,80]
 says : lenOf l = m + 9
theorem unw_good {l : List UInt8} {m : Nat} (h : Good l m) : unw l = if rOk (l.drop 2) then (((l.getD 2 0).toNat : Int),(l.drop 5).take m,0) else (0,[],4) := by
 have h1 := h.len
 have h2 := h.short
 have h3 := h.says
 unfold unw
 rw [if_neg (by omega),if_neg (by omega),if_pos ⟨h.mark,by omega⟩,h1,Nat.add_sub_cancel]
theorem inner_drop (l : List UInt8) (m : Nat) : ((l.drop 2).take (m + 3)).drop 3 = (l.drop 5).take m := by
 rw [List.drop_take,List.drop_drop,Nat.add_sub_cancel]
theorem inner_first (l : List UInt8) (m : Nat) (h : 2 < l.length) : ((l.drop 2).take (m + 3))[0]? = some (l.getD 2 0) := by
 rw [List.getElem?_take,if_pos (by omega),List.getElem?_drop,List.getD_eq_getElem?_getD,List.getElem?_eq_getElem h]
 rfl
theorem unwrap_good (A : Option Addr) (m c : Nat) (l : List UInt8) (w : World) (hr : Rd w A (m + 9) c l) (hg : Good l m) : Calls Tryz.prog 34 #[.slice A (m + 9) c] w (Unw l w) := by
 have kc := fun (w : World) (C : Array Value) (n c : Nat) => Lib.run_convert_bytes_const (P := Tryz.prog) w 22 5 C n c Tryz.underlying22 Tryz.underlying5
 have h1 := hg.short
 have h1' : (m : Int) + 9 ≤ 300 := by omega
 have h2' : (9 : Int) ≤ (m : Int) + 9 := by omega
 have hnc : (m : Int) + 9 ≤ (c : Int) := by have := hr.2.1; omega
 have hnc2 : (2 : Int) ≤ (c : Int) := by omega
 have hc2 : ¬ c = 2 := by have := hr.2.1; omega
 have hmk : Rd (w.alloc (.cells #[.int .u8 68,.int .u8 80] 5 (2,3))) (some ⟨w.heap.size,0,none⟩) 2 2 [68,80] := Rd.newFr w 5 _ _ rfl (by decide)
 have hba : Below w.heap.size w (w.alloc (.cells #[.int .u8 68,.int .u8 80] 5 (2,3))) := (Below.refl _ _).alloc (Nat.le_refl _) _
 have hr1 := hr.below hba
 have hpb := str_same hg.mark
 have hqb : (((lenOf l : Nat) : Int) == (m : Int) + 9) = true := by rw [hg.says]; simp
 have E := hide (unw_good hg)
 have Hl := hide hg.len
 go_enter Tryz.func34,Tryz.ntmps34
 go_wp2_with (first
   | (go_at_call 79; refine (hasPrefix_any _ _ _ _ _ _ _ _ _ hr1 hmk (by omega)).mono ?_; rintro e w' ⟨rfl,rfl⟩)
   | (go_at_call 80; refine (length_any _ _ _ _ _ hr1 (by omega)).mono ?_; rintro e w1 ⟨rfl,hb1⟩))
 have hbb := below_next hba hb1
 have hr2 := (hr.below hbb).lo_ne (k := 2) (by omega) hc2
 by_cases hR : Rt (l.drop 2)
 · have hok : rOk (l.drop 2) = true := (rOk_iff _).2 ⟨by rw [List.length_drop,Hl.out]; omega,hR⟩
   have E2 : Hid (unw l = (((l.getD 2 0).toNat : Int),(l.drop 5).take m,0)) := hide (by rw [E.out,if_pos hok])
   clear hok E hpb hqb hr1 hmk
   refine (right_at _ (m + 3) _ _ _ hr2 (by omega) hR).mono ?_
   rintro e w2 ⟨A2,c2,rfl,ho2,hb2⟩
   obtain ⟨g,rfl,_,_⟩ := ho2.form (by omega)
   have hcell := ho2.cell (inner_first l m (by rw [Hl.out]; omega))
   have hb3 := below_next hbb hb2
   have hc3 : (m : Int) + 3 ≤ (c2 : Int) := by have := ho2.rd.2.1; omega
   have hc3' : (3 : Int) ≤ (c2 : Int) := by omega
   have p0 : (0 : Int) < (m : Int) + 3 := by omega
   have p3 : (3 : Int) ≤ (m : Int) + 3 := by omega
   generalize l.getD 2 0 = y at *
   have hlt := y.toNat_lt
   by_cases hc : c2 = 3
   · subst hc
     have hrd := ho2.rd.lo_eq (k := 3) (by omega) rfl
     rw [inner_drop,Nat.add_sub_cancel] at hrd
     go_wp2_with fail
     go_quiet (fail)
     go_wp2_with fail
     go_ret3
     exact ⟨_,_,_,by rw [E2.out]; rfl,by rw [E2.out]; exact hrd.drewN _,below_drewN hb3 _⟩
   · have hrd := ho2.rd.lo_ne (k := 3) (by omega) hc
     rw [inner_drop,Nat.add_sub_cancel] at hrd
     go_wp2_with fail
     go_quiet (fail)
     go_wp2_with fail
     go_ret3
     exact ⟨_,_,_,by rw [E2.out]; rfl,by rw [E2.out]; exact hrd.drewN _,below_drewN hb3 _⟩
 · have hok : ¬ rOk (l.drop 2) = true := fun h => hR ((rOk_iff _).1 h).2
   have E2 : Hid (unw l = (0,[],4)) := hide (by rw [E.out,if_neg hok])
   clear hok E hpb hqb hr1 hmk
   refine (right_not _ _ _ _ _ hr2 (by omega) (by omega) hR).mono ?_
   rintro e w2 ⟨rfl,hb2⟩
   go_wp2_with fail
   go_ret3
   exact ⟨none,0,0,by rw [E2.out]; rfl,by rw [E2.out]; exact rd_none _,below_next hbb hb2⟩
theorem unwrap_any (A : Option Addr) (n c : Nat) (l : List UInt8) (w : World) (hr : Rd w A n c l) : Calls Tryz.prog 34 #[.slice A n c] w (Unw l w) := by
 have hl := hr.1
 have kc := fun (w : World) (C : Array Value) (n c : Nat) => Lib.run_convert_bytes_const (P := Tryz.prog) w 22 5 C n c Tryz.underlying22 Tryz.underlying5
 by_cases h1 : 300 < n
 · have e : unw l = (0,[],3) := by unfold unw; rw [if_pos (by omega)]
   have h1' : (300 : Int) < (n : Int) := by omega
   clear hl
   have E := hide e
   clear e
   go_enter Tryz.func34,Tryz.ntmps34
   go_wp2_with fail
   go_ret3
   exact ⟨none,0,0,by rw [E.out]; rfl,by rw [E.out]; exact rd_none _,Below.refl _ _⟩
 · by_cases h2 : n < 9
   · have e : unw l = (0,[],2) := by unfold unw; rw [if_neg (by omega),if_pos (by omega)]
     have h1' : (n : Int) ≤ 300 := by omega
     have h2' : (n : Int) < 9 := by omega
     clear hl
     have E := hide e
     clear e
     go_enter Tryz.func34,Tryz.ntmps34
     go_wp2_with fail
     go_ret3
     exact ⟨none,0,0,by rw [E.out]; rfl,by rw [E.out]; exact rd_none _,Below.refl _ _⟩
   · have h1' : (n : Int) ≤ 300 := by omega
     have h2' : (9 : Int) ≤ (n : Int) := by omega
     have hmk : Rd (w.alloc (.cells #[.int .u8 68,.int .u8 80] 5 (2,3))) (some ⟨w.heap.size,0,none⟩) 2 2 [68,80] := Rd.newFr w 5 _ _ rfl (by decide)
     have hba : Below w.heap.size w (w.alloc (.cells #[.int .u8 68,.int .u8 80] 5 (2,3))) := (Below.refl _ _).alloc (Nat.le_refl _) _
     have hr1 := hr.below hba
     by_cases hp : l.take 2 = [68,80]
     · by_cases hq : lenOf l = n
       · obtain ⟨m,rfl⟩ : ∃ m,n = m + 9 := ⟨n - 9,by omega⟩
         exact unwrap_good A m c l w hr ⟨hl,by omega,hp,hq⟩
       · have hpb := str_same hp
         have hqb : (((lenOf l : Nat) : Int) == (n : Int)) = false := by simp; omega
         have E : Hid (unw l = (0,[],3)) := hide (by unfold unw; rw [if_neg (by omega),if_neg (by omega),if_neg (by omega)])
         clear hl hp hq
         go_enter Tryz.func34,Tryz.ntmps34
         go_wp2_with (first
           | (go_at_call 79; refine (hasPrefix_any _ _ _ _ _ _ _ _ _ hr1 hmk (by omega)).mono ?_; rintro e w' ⟨rfl,rfl⟩)
           | (go_at_call 80; refine (length_any _ _ _ _ _ hr1 (by omega)).mono ?_; rintro e w1 ⟨rfl,hb1⟩))
         go_ret3
         exact ⟨none,0,0,by rw [E.out]; rfl,by rw [E.out]; exact rd_none _,below_next hba hb1⟩
     · have hpb := str_other hp
       have E : Hid (unw l = (0,[],3)) := hide (by unfold unw; rw [if_neg (by omega),if_neg (by omega),if_neg (fun h => hp h.1)])
       clear hl hp
       go_enter Tryz.func34,Tryz.ntmps34
       go_wp2_with (go_at_call 79; refine (hasPrefix_any _ _ _ _ _ _ _ _ _ hr1 hmk (by omega)).mono ?_; rintro e w' ⟨rfl,rfl⟩)
       go_ret3
       exact ⟨none,0,0,by rw [E.out]; rfl,by rw [E.out]; exact rd_none _,hba⟩
theorem or_byte (a b : UInt8) : bits .or .u32 ((a.toNat : Int) * 256) (b.toNat : Int) = (a.toNat : Int) * 256 + (b.toNat : Int) := by
 have ha := a.toNat_lt
 have hb := b.toNat_lt
 show IntKind.u32.wrap ((BitVec.ofInt 32 ((a.toNat : Int) * 256) ||| BitVec.ofInt 32 (b.toNat : Int)).toNat : Int) = _
 have e1 : ((a.toNat : Int) * 256) = ((a.toNat * 256 : Nat) : Int) := by omega
 rw [e1,BitVec.ofInt_natCast,BitVec.ofInt_natCast,BitVec.toNat_or,BitVec.toNat_ofNat,BitVec.toNat_ofNat,Nat.mod_eq_of_lt (by omega),Nat.mod_eq_of_lt (by omega)]
 have e2 : a.toNat * 256 ||| b.toNat = a.toNat * 256 + b.toNat := by
   have := Nat.shiftLeft_add_eq_or_of_lt (b := b.toNat) (i := 8) (by omega) a.toNat
   rw [Nat.shiftLeft_eq] at this
   exact this.symm
 rw [e2,IntKind.wrap_u32]
 omega
theorem or_first (a : UInt8) : bits .or .u32 0 (a.toNat : Int) = (a.toNat : Int) := by
 have := or_byte 0 a
 simpa using this
theorem number_two (A : Option Addr) (c : Nat) (x y : UInt8) (w : World) (hr : Rd w A 2 c [x,y]) :
   Calls Tryz.prog 57 #[.slice A 2 c] w fun e w' => e = .returned (.int .u32 ((x.toNat : Int) * 256 + (y.toNat : Int))) ∧ w = w' := by
 have hx := x.toNat_lt
 have hy := y.toNat_lt
 obtain ⟨ad,x',rfl,h0,hc0⟩ := hr.at_ (k := 0) (by omega)
 obtain ⟨ad',y',e,h1,hc1⟩ := hr.at_ (k := 1) (by omega)
 cases e
 simp at h0 h1
 subst h0 h1
 have hc0 : w.cell? ad = some (.int .u8 x.toNat) := hc0
 have hc1 : w.cell? ⟨ad.block,ad.off + 1,none⟩ = some (.int .u8 y.toNat) := hc1
 have o1 := or_first x
 have o2 := or_byte x y
 go_enter Tryz.func57,Tryz.ntmps57
 go_wp2
 go_loop [3,8] (fun v i => (i = .int .i64 0 ∧ v = .int .u32 0) ∨ (i = .int .i64 1 ∧ v = .int .u32 (x.toNat : Int)) ∨ (i = .int .i64 2 ∧ v = .int .u32 ((x.toNat : Int) * 256 + (y.toNat : Int)))) (fun _ i => 2 - (intOf i).toNat)
 case atStart => exact .inl ⟨rfl,rfl⟩
 case round =>
   rcases hrel with ⟨rfl,rfl⟩ | ⟨rfl,rfl⟩ | ⟨rfl,rfl⟩
   · go_wp2
     go_round
     case rel => right; left; exact ⟨rfl,by simp⟩
     case measure => simp [intOf]
   · go_wp2
     go_round
     case rel => right; right; exact ⟨rfl,by simp⟩
     case measure => simp [intOf]
   · go_wp2
     go_ret
     exact ⟨rfl,rfl⟩
theorem two_of (l : List UInt8) (h : 5 ≤ l.length) : (l.drop 3).take 2 = [l.getD 3 0,l.getD 4 0] := by
 match l,h with
 | a :: b :: c :: d :: e :: r,_ => rfl
theorem runwrap_good (A : Option Addr) (m c : Nat) (l : List UInt8) (w : World) (hr : Rd w A (m + 9) c l) (hg : Good l m) : Calls Tryz.prog 31 #[.slice A (m + 9) c] w (Unw l w) := by
 have h1 := hg.short
 have h1' : (m : Int) + 9 ≤ 300 := by omega
 have h2' : (9 : Int) ≤ (m : Int) + 9 := by omega
 have hnc : (m : Int) + 9 ≤ (c : Int) := by have := hr.2.1; omega
 have hnc2 : (2 : Int) ≤ (c : Int) := by omega
 have hnc5 : (5 : Int) ≤ (c : Int) := by omega
 have hc2 : ¬ c = 2 := by have := hr.2.1; omega
 have hc3 : ¬ c = 3 := by have := hr.2.1; omega
 have hmark := conv22 (hr.hi (k := 2) (by omega))
 have hpb : ((str (l.take 2)).toList == [68,80]) = true := by rw [str_toList,hg.mark]; rfl
 have hmid := hr.mid (k := 3) (m := 2) (by omega) (by omega)
 rw [two_of l (by rw [hg.len]; omega)] at hmid
 have hqb : (((l.getD 3 0).toNat : Int) * 256 + ((l.getD 4 0).toNat : Int) == (m : Int)) = true := by
   have := hg.says
   unfold lenOf at this
   simp only [beq_iff_eq]
   omega
 have E := hide (unw_good hg)
 have Hl := hide hg.len
 generalize l.getD 3 0 = x3 at *
 generalize l.getD 4 0 = x4 at *
 have hx3 := x3.toNat_lt
 have hx4 := x4.toNat_lt
 go_enter Tryz.func31,Tryz.ntmps31
 go_wp2_with (go_at_call 57; refine (number_two _ _ _ _ _ hmid).mono ?_; rintro e w' ⟨rfl,rfl⟩)
 have hr2 := hr.lo_ne (k := 2) (by omega) hc2
 by_cases hR : Rt (l.drop 2)
 · have hok : rOk (l.drop 2) = true := (rOk_iff _).2 ⟨by rw [List.length_drop,Hl.out]; omega,hR⟩
   have E2 : Hid (unw l = (((l.getD 2 0).toNat : Int),(l.drop 5).take m,0)) := hide (by rw [E.out,if_pos hok])
   have hfirst := inner_first l m (by rw [Hl.out]; omega)
   have Hlen : Hid (((l.drop 5).take m).length = m) := hide (by rw [List.length_take,List.length_drop,Hl.out]; omega)
   clear hok E hpb hqb hmark hmid
   refine (rright_is _ (m + 3) _ _ _ hr2 (by omega) hR).mono ?_
   rintro e w2 ⟨A2,c2,rfl,ho2,hb2⟩
   obtain ⟨g,rfl,_,_⟩ := ho2.form (by omega)
   have hcell := ho2.cell hfirst
   clear hfirst
   have HC : ∀ w',Below w2.heap.size w2 w' → w'.cell? ⟨g,0,none⟩ = some (.int .u8 (l.getD 2 0).toNat) := fun w' h => (h.cell (World.block_lt_of_cell? w2 _ hcell)).trans hcell
   have hc3 : (m : Int) + 3 ≤ (c2 : Int) := by have := ho2.rd.2.1; omega
   have hc3' : (3 : Int) ≤ (c2 : Int) := by omega
   have p0 : (0 : Int) < (m : Int) + 3 := by omega
   have p3 : (3 : Int) ≤ (m : Int) + 3 := by omega
   generalize l.getD 2 0 = y at *
   have hlt := y.toNat_lt
   have hwr : IntKind.i64.wrap (y.toNat : Int) = (y.toNat : Int) := by rw [IntKind.wrap_i64]; omega
   by_cases hc : c2 = 3
   · subst hc
     have hrd := ho2.rd.lo_eq (k := 3) (by omega) rfl
     rw [inner_drop,Nat.add_sub_cancel] at hrd
     go_wp2_with fail
     go_region_held (fun w' => Below w2.heap.size w2 w')
       (first | exact (Below.refl _ _).drew | assumption | exact below_next (by assumption) hb | exact Below.alloc (by assumption) (Below.size (by assumption)) _)
       ((go_at_call 75; refine (join_as _ 1 1 m [(l.drop 5).take m] ((l.drop 5).take m) _ (by simp) Hlen.out (rdl_one (by simp [World.cell?_alloc_new]) (hrd.below (by assumption))) (by omega)).mono ?_; rintro e w5 ⟨A5,c5,rfl,ho5,hb⟩))
     all_goals (go_wp2_with fail; go_ret3; exact ⟨A5,_,c5,by rw [E2.out]; rfl,by rw [E2.out]; exact ho5.rd,below_next hb2 (by assumption)⟩)
   · have hrd := ho2.rd.lo_ne (k := 3) (by omega) hc
     rw [inner_drop,Nat.add_sub_cancel,Option.map_some,addAt] at hrd
     go_wp2_with fail
     go_region_held (fun w' => Below w2.heap.size w2 w')
       (first | exact (Below.refl _ _).drew | assumption | exact below_next (by assumption) hb | exact Below.alloc (by assumption) (Below.size (by assumption)) _)
       ((go_at_call 75; refine (join_as _ 1 1 m [(l.drop 5).take m] ((l.drop 5).take m) _ (by simp) Hlen.out (rdl_one (by simp [World.cell?_alloc_new]) (hrd.below (by assumption))) (by omega)).mono ?_; rintro e w5 ⟨A5,c5,rfl,ho5,hb⟩))
     all_goals (go_wp2_with fail; go_ret3; exact ⟨A5,_,c5,by rw [E2.out]; rfl,by rw [E2.out]; exact ho5.rd,below_next hb2 (by assumption)⟩)
 · have hok : ¬ rOk (l.drop 2) = true := fun h => hR ((rOk_iff _).1 h).2
   have E2 : Hid (unw l = (0,[],4)) := hide (by rw [E.out,if_neg hok])
   clear hok E hpb hqb hmark hmid
   refine (rright_not _ (m + 3) _ _ _ hr2 (by omega) hR).mono ?_
   rintro e w2 ⟨rfl,hb2⟩
   go_wp2_with fail
   go_ret3
   exact ⟨none,0,0,by rw [E2.out]; rfl,by rw [E2.out]; exact rd_none _,hb2⟩
theorem runwrap_any (A : Option Addr) (n c : Nat) (l : List UInt8) (w : World) (hr : Rd w A n c l) : Calls Tryz.prog 31 #[.slice A n c] w (Unw l w) := by
 have hl := hr.1
 by_cases h1 : 300 < n
 · have e : unw l = (0,[],3) := by unfold unw; rw [if_pos (by omega)]
   have h1' : (300 : Int) < (n : Int) := by omega
   clear hl
   have E := hide e
   clear e
   go_enter Tryz.func31,Tryz.ntmps31
   go_wp2_with fail
   go_ret3
   exact ⟨none,0,0,by rw [E.out]; rfl,by rw [E.out]; exact rd_none _,Below.refl _ _⟩
 · by_cases h2 : n < 9
   · have e : unw l = (0,[],2) := by unfold unw; rw [if_neg (by omega),if_pos (by omega)]
     have h1' : (n : Int) ≤ 300 := by omega
     have h2' : (n : Int) < 9 := by omega
     clear hl
     have E := hide e
     clear e
     go_enter Tryz.func31,Tryz.ntmps31
     go_wp2_with fail
     go_ret3
     exact ⟨none,0,0,by rw [E.out]; rfl,by rw [E.out]; exact rd_none _,Below.refl _ _⟩
   · have h1' : (n : Int) ≤ 300 := by omega
     have h2' : (9 : Int) ≤ (n : Int) := by omega
     have hnc2 : (2 : Int) ≤ (c : Int) := by have := hr.2.1; omega
     have hnc5 : (5 : Int) ≤ (c : Int) := by have := hr.2.1; omega
     have hc3 : ¬ c = 3 := by have := hr.2.1; omega
     have hmark := conv22 (hr.hi (k := 2) (by omega))
     by_cases hp : l.take 2 = [68,80]
     · by_cases hq : lenOf l = n
       · obtain ⟨m,rfl⟩ : ∃ m,n = m + 9 := ⟨n - 9,by omega⟩
         exact runwrap_good A m c l w hr ⟨hl,by omega,hp,hq⟩
       · have hpb : ((str (l.take 2)).toList == [68,80]) = true := by rw [str_toList,hp]; rfl
         have hmid := hr.mid (k := 3) (m := 2) (by omega) (by omega)
         rw [two_of l (by omega)] at hmid
         have hqb : (((l.getD 3 0).toNat : Int) * 256 + ((l.getD 4 0).toNat : Int) == (n : Int) - 9) = false := by
           unfold lenOf at hq
           simp only [beq_eq_false_iff_ne]
           omega
         have E : Hid (unw l = (0,[],3)) := hide (by unfold unw; rw [if_neg (by omega),if_neg (by omega),if_neg (by omega)])
         generalize l.getD 3 0 = x3 at *
         generalize l.getD 4 0 = x4 at *
         have hx3 := x3.toNat_lt
         have hx4 := x4.toNat_lt
         clear hl hp hq
         go_enter Tryz.func31,Tryz.ntmps31
         go_wp2_with (go_at_call 57; refine (number_two _ _ _ _ _ hmid).mono ?_; rintro e w' ⟨rfl,rfl⟩)
         go_ret3
         exact ⟨none,0,0,by rw [E.out]; rfl,by rw [E.out]; exact rd_none _,Below.refl _ _⟩
     · have hpb : ((str (l.take 2)).toList == [68,80]) = false := by rw [str_toList]; simpa using hp
       have E : Hid (unw l = (0,[],3)) := hide (by unfold unw; rw [if_neg (by omega),if_neg (by omega),if_neg (fun h => hp h.1)])
       clear hl hp
       go_enter Tryz.func31,Tryz.ntmps31
       go_wp2_with fail
       go_ret3
       exact ⟨none,0,0,by rw [E.out]; rfl,by rw [E.out]; exact rd_none _,Below.refl _ _⟩
theorem byt_toNat (x : Int) : (byt x).toNat = (x % 256).toNat := by
 have h := byt_val x
 omega
theorem wrapL_drop2 (k : Int) (l : List UInt8) : (wrapL k l).drop 2 = putL (innerL k l) := rfl
theorem wrapL_drop5 (k : Int) (l : List UInt8) : (wrapL k l).drop 5 = l ++ four (CrcP.sum (innerL k l)) := by
 simp [wrapL,putL,innerL]
theorem wrapL_getD (k : Int) (l : List UInt8) : (wrapL k l).getD 2 0 = byt k ∧ (wrapL k l).getD 3 0 = byt ((l.length : Int) / 256) ∧ (wrapL k l).getD 4 0 = byt (l.length : Int) := by
 simp [wrapL,putL,innerL]
theorem wrap_is_good (k : Int) (l : List UInt8) (h2 : l.length ≤ 291) : Good (wrapL k l) l.length := by
 refine ⟨wrapL_len k l,h2,rfl,?_⟩
 unfold lenOf
 rw [(wrapL_getD k l).2.1,(wrapL_getD k l).2.2,byt_toNat,byt_toNat]
 omega
theorem unw_wrap (k : Int) (l : List UInt8) (h0 : 0 ≤ k) (h1 : k ≤ 255) (h2 : l.length ≤ 291) : unw (wrapL k l) = (k,l,0) := by
 rw [unw_good (wrap_is_good k l h2),wrapL_drop2,wrapL_drop5,(wrapL_getD k l).1]
 have : rOk (putL (innerL k l)) = true := (rOk_iff _).2 ⟨by rw [putL_len]; omega,rt_put _⟩
 rw [if_pos this,byt_toNat]
 have : (((k % 256).toNat : Nat) : Int) = k := by omega
 rw [this,List.take_left' rfl]
theorem ownsRow_keep {w w' : World} {base : Nat} {e : TypeId} {size : Nat} {A : Option Addr} {n c m : Nat} {xs : List Value} {B : Nat} (h : w.ownsRow base e size (.slice A n c) m xs) (hb : Below B w w')
   (hg : ∀ g,A = some ⟨g,0,none⟩ → g < B) : w'.ownsRow base e size (.slice A n c) m xs := by
 refine ⟨h.1,?_⟩
 rcases h.2 with h2 | ⟨g,cap,cur,hv,hbg,hgg,r⟩
 · exact .inl h2
 · have hv' := hv
   simp only [Value.slice.injEq] at hv
   exact .inr ⟨g,cap,cur,hv',hbg,(hb.block g (hg g hv.1)).trans hgg,r⟩
theorem ownsRow_lt {w : World} {base : Nat} {e : TypeId} {size : Nat} {A : Option Addr} {n c m : Nat} {xs : List Value} (h : w.ownsRow base e size (.slice A n c) m xs) : ∀ g,A = some ⟨g,0,none⟩ → g < w.heap.size := by
 intro g hg
 subst hg
 exact (World.ownsRow.lt h g rfl).2
theorem ownsRow_grown {w w' : World} {base : Nat} {e : TypeId} {size : Nat} {A : Option Addr} {n c m : Nat} {xs : List Value} {row : Option Nat} (h : w.ownsRow base e size (.slice A n c) m xs) (hb : w.grownBy w' row)
   (hg : ∀ g,A = some ⟨g,0,none⟩ → some g ≠ row) : w'.ownsRow base e size (.slice A n c) m xs := by
 refine ⟨h.1,?_⟩
 rcases h.2 with h2 | ⟨g,cap,cur,hv,hbg,hgg,r⟩
 · exact .inl h2
 · have hv' := hv
   simp only [Value.slice.injEq] at hv
   exact .inr ⟨g,cap,cur,hv',hbg,(hb.block g (Array.getElem?_eq_some_iff.1 hgg).1 (hg g hv.1)).trans hgg,r⟩
theorem rows_apart {w : World} {base base' : Nat} {e e' : TypeId} {size size' : Nat} {g n c m n' c' m' : Nat} {A : Option Addr} {xs xs' : List Value} (h : w.ownsRow base e size (.slice (some ⟨g,0,none⟩) n c) m xs)
   (h' : w.ownsRow base' e' size' (.slice A n' c') m' xs') (hne : e ≠ e') : some g ≠ A.map (·.block) := by
 intro hg
 rcases h.2 with ⟨h2,_⟩ | ⟨g1,cap,cur,hv,_,hgg,_⟩
 · simp at h2
 · rcases h'.2 with ⟨h2',_⟩ | ⟨g2,cap',cur',hv',_,hgg',_⟩
   · simp only [Value.slice.injEq] at h2'
     rw [h2'.1] at hg
     cases hg
   · simp only [Value.slice.injEq,Option.some.injEq,Addr.mk.injEq,and_true] at hv
     simp only [Value.slice.injEq] at hv'
     rw [hv'.1] at hg
     simp at hg
     have e1 : g1 = g2 := by rw [← hv.1,hg]
     subst e1
     rw [hgg] at hgg'
     simp only [Option.some.injEq,Obj.cells.injEq] at hgg'
     exact hne hgg'.2.1
def OwnL (te e : TypeId) (w : World) (base : Nat) (A : Option Addr) (n c : Nat) (fs : List (List UInt8)) (bad : Option Nat) : Prop :=
 ∃ vs : List Value,w.ownsRow base te 1 (.slice A n c) n vs ∧ vs.length = fs.length ∧
   ∀ (j : Nat) (f : List UInt8),fs[j]? = some f → ∃ A' n' c',vs[j]? = some (Value.slice A' n' c') ∧ Own w base e A' n' c' f ∧ (bad = none ∨ A'.map (·.block) ≠ bad)
section
variable {te e : TypeId} {w w' : World} {base n c : Nat} {A : Option Addr} {fs : List (List UInt8)} {bad : Option Nat}
theorem OwnL.nil (te e : TypeId) (w : World) (base : Nat) (bad : Option Nat) : OwnL te e w base none 0 0 [] bad :=
 ⟨[],World.ownsRow_nil w base te 1,rfl,fun j f hj => by simp at hj⟩
theorem OwnL.len (h : OwnL te e w base A n c fs bad) : fs.length = n := by
 obtain ⟨vs,h1,h2,_⟩ := h
 have := h1.1
 omega
theorem OwnL.below (h : OwnL te e w base A n c fs bad) (hb : Below w.heap.size w w') : OwnL te e w' base A n c fs bad := by
 obtain ⟨vs,h1,h2,h3⟩ := h
 refine ⟨vs,ownsRow_keep h1 hb (ownsRow_lt h1),h2,fun j f hj => ?_⟩
 obtain ⟨A',n',c',k1,k2,k3⟩ := h3 j f hj
 exact ⟨A',n',c',k1,k2.below hb,k3⟩
theorem OwnL.at_ (h : OwnL te e w base A n c fs bad) {k : Nat} (hk : k < n) :
   ∃ g f A' n' c',A = some ⟨g,0,none⟩ ∧ fs[k]? = some f ∧ w.cell? ⟨g,k,none⟩ = some (.slice A' n' c') ∧ Own w base e A' n' c' f := by
 have hl := h.len
 obtain ⟨vs,h1,h2,h3⟩ := h
 obtain ⟨A',n',c',k1,k2,_⟩ := h3 k fs[k] (List.getElem?_eq_getElem (by omega))
 obtain ⟨g,cap,hv,_,_⟩ := h1.form (by omega)
 simp only [Value.slice.injEq,true_and] at hv
 obtain ⟨rfl,rfl⟩ := hv
 refine ⟨g,fs[k],A',n',c',rfl,List.getElem?_eq_getElem (by omega),?_,k2⟩
 have := World.ownsRow.cells h1 (g := g) rfl k _ k1
 rwa [addAt] at this
theorem OwnL.rdl (h : OwnL te e w base A n c fs bad) : RdL w A n c fs := by
 have hl := h.len
 have h0 := h
 obtain ⟨vs,h1,h2,h3⟩ := h
 refine ⟨hl,?_,?_,fun hn => ?_⟩
 · rcases h1.2 with ⟨hv,h0⟩ | ⟨g,cap,cur,hv,_,_,hnc,hcm,_⟩ <;> simp only [Value.slice.injEq] at hv <;> omega
 · rcases h1.2 with ⟨hv,h0⟩ | ⟨g,cap,cur,hv,_,_,hnc,hcm,_⟩
   · simp only [Value.slice.injEq] at hv; rw [hv.2.2]; exact Nat.zero_le _
   · simp only [Value.slice.injEq] at hv; rw [hv.2.2]; exact hcm
 · obtain ⟨g,f,A',n',c',hA,_⟩ := h0.at_ hn
   refine ⟨_,hA,fun j l hj => ?_⟩
   have hjl : j < n := by have := (List.getElem?_eq_some_iff.1 hj).1; omega
   obtain ⟨g',f',A1,n1,c1,hA',hf',hc',ho'⟩ := h0.at_ hjl
   rw [hA] at hA'
   simp only [Option.some.injEq,Addr.mk.injEq,and_true] at hA'
   subst hA'
   rw [hj] at hf'
   cases hf'
   exact ⟨A1,n1,c1,by rw [addAt]; exact hc',ho'.rd⟩
theorem OwnL.other {row : Option Nat} (h : OwnL te e w base A n c fs row) (hrow : row ≠ none) (hg : w.grownBy w' row) (hA : ∀ g,A = some ⟨g,0,none⟩ → some g ≠ row) : OwnL te e w' base A n c fs row := by
 obtain ⟨vs,h1,h2,h3⟩ := h
 refine ⟨vs,ownsRow_grown h1 hg hA,h2,fun j f hj => ?_⟩
 obtain ⟨A',n',c',k1,k2,k3⟩ := h3 j f hj
 refine ⟨A',n',c',k1,ownsRow_grown k2 hg (fun g hgA => ?_),k3⟩
 rcases k3 with k3 | k3
 · exact absurd k3 hrow
 · rw [hgA] at k3; exact k3
end
def IsRef (P : Program) (te : TypeId) : Prop := (P.info? te).map (fun i => (i.zero,i.size,i.bytes)) = some (some (.slice none 0 0),1,24)
theorem wpList_appendL {P : Program} (w : World) {ops : Array Oper} {rest : List Oper} {o : Oper} {a : Act} {Q : Exit → Act → World → Prop} (hgd : o.guard = none) (s x : Operand) (t : TypeId)
   (hop : o.op = .call { callee := .builtin .append,args := #[s,x],argTypes := #[t,t] })
   (base : Nat) (te e : TypeId) (hne : e ≠ te) (ht : P.underlying t = some (.slice te)) (hi : IsRef P te)
   (A : Option Addr) (n c : Nat) (fs : List (List UInt8)) (bad : Option Nat) (hs : a.eval s = .slice A n c) (ho : OwnL te e w base A n c fs bad)
   (X : Addr) (d : Nat) (A1 : Option Addr) (n1 c1 : Nat) (f : List UInt8) (hx : a.eval x = .slice (some X) 1 d) (hc : w.cell? X = some (.slice A1 n1 c1)) (hf : Own w base e A1 n1 c1 f) (hfb : bad = none ∨ A1.map (·.block) ≠ bad)
   (hsz : n ≤ 1000000) (hbase : base ≤ w.heap.size)
   (h : ∀ A' c' w',OwnL te e w' base A' (n + 1) c' (fs ++ [f]) bad → Below base w w' → w.grownBy w' (A.map (·.block)) → wpList P ops Q rest (a.put o.dst (.slice A' (n + 1) c')) w') : wpList P ops Q (o :: rest) a w := by
 refine wpList_plain hgd fun K hK => ?_
 obtain ⟨i,hi,hz0,hz1,hz2⟩ := info_parts hi
 obtain ⟨vs,h1,h2,h3⟩ := ho
 obtain ⟨v',w',hrun,k1,k2,_,k4⟩ := run_append_own_at (P := P) w base t o.type te i _ 1 24 ht hi hz0 hz1 hz2 rfl (by omega) _ n vs h1 X 1 d [.slice A1 n1 c1] rfl
   (fun j u hj => by
     match j,hj with
     | 0,hj => simp at hj; subst hj; exact hc)
   (by simp [Value.oneCell']) (by simp only [maxLen]; omega) (by omega) hbase
 have hown := k1
 obtain ⟨g,cap,rfl,_,_⟩ := k1.form (by omega)
 have eb : Value.ownBlock (.slice A n c) = A.map (·.block) := by cases A <;> rfl
 rw [eb] at k2 k4
 have hstay : ∀ (A' : Option Addr) (n' c' : Nat) (f' : List UInt8),Own w base e A' n' c' f' → Own w' base e A' n' c' f' := fun A' n' c' f' hq =>
   ownsRow_grown hq k2 (fun g' hg' => by subst hg'; exact rows_apart hq h1 hne)
 unfold Oper.wp execOp
 simp only [hop,resolve,invoke,builtin,Sem.run_bind,Sem.run_pure,Result.andThen_ok,List.map_toArray,List.map_cons,List.map_nil,hs,hx,hrun]
 refine hK _ _ (h _ cap w' ⟨vs ++ [.slice A1 n1 c1],hown,by simp [h2],fun j f' hj => ?_⟩ ((Below.refl _ _).grown k2 hbase (fun k hk => ?_)) k2)
 · rcases Nat.lt_or_ge j fs.length with hlt | hge
   · rw [List.getElem?_append_left hlt] at hj
     obtain ⟨A',n',c',q1,q2,q3⟩ := h3 j f' hj
     exact ⟨A',n',c',by rw [List.getElem?_append_left (by omega)]; exact q1,hstay _ _ _ _ q2,q3⟩
   · have hj0 : j = fs.length := by
       have := (List.getElem?_eq_some_iff.1 hj).1
       simp at this
       omega
     subst hj0
     simp at hj
     subst hj
     exact ⟨A1,n1,c1,by rw [← h2]; simp,hstay _ _ _ _ hf,hfb⟩
 · exact (World.ownsRow.lt h1 k (by rw [eb]; exact hk)).1
theorem unw_zero {l : List UInt8} (h : (unw l).2.2 = 0) : l.length ≤ 300 ∧ 9 ≤ l.length ∧ l.take 2 = [68,80] ∧ lenOf l = l.length ∧ rOk (l.drop 2) = true := by
 unfold unw at h
 split at h
 · simp at h
 · split at h
   · simp at h
   · split at h
     · rename_i h1 h2 h3
       split at h
       · rename_i h4
         exact ⟨by omega,by omega,h3.1,h3.2,h4⟩
       · simp at h
     · simp at h
theorem set_self (q : List UInt8) (k : Nat) : q.set k (q.getD k 0) = q := by
 apply List.ext_getElem?
 intro i
 rw [List.getElem?_set]
 split
 · rename_i h
   subst h
   split
   · rename_i h2
     rw [List.getD_eq_getElem?_getD,List.getElem?_eq_getElem h2]; rfl
   · rename_i h2
     rw [List.getElem?_eq_none (by omega)]
 · rfl
theorem bend_first (q : List UInt8) (k : Nat) (x : UInt8) : bend q k x 0 = q.set k (q.getD k 0 ^^^ x) := by
 unfold bend
 have h : (q.getD (k + 1) 0 ^^^ (0 : UInt8)) = q.getD (k + 1) 0 := by simp
 rw [h]
 rcases Nat.lt_or_ge (k + 1) q.length with h1 | h1
 · rw [List.set_comm _ _ (by omega),set_self]
 · rw [List.set_eq_of_length_le (by rw [List.length_set]; omega)]
theorem bend_second (q : List UInt8) (k : Nat) (x : UInt8) : bend q k 0 x = q.set (k + 1) (q.getD (k + 1) 0 ^^^ x) := by
 unfold bend
 have h : (q.getD k 0 ^^^ (0 : UInt8)) = q.getD k 0 := by simp
 rw [h,set_self]
theorem told_one (l : List UInt8) (k : Nat) (hk : k < l.length + 4) (x : UInt8) : Rt ((putL l).set k ((putL l).getD k 0 ^^^ x)) ↔ x = 0 := by
 rcases Nat.lt_or_ge k (l.length + 3) with h | h
 · rw [← bend_first,told l k h]
   exact ⟨fun h => h.1,fun h => ⟨h,rfl⟩⟩
 · obtain ⟨j,rfl⟩ : ∃ j,k = j + 1 := ⟨k - 1,by omega⟩
   rw [← bend_second,told l j (by omega)]
   exact ⟨fun h => h.2,fun h => ⟨rfl,h⟩⟩
theorem unw_bent (k : Int) (d : List UInt8) (j : Nat) (x : UInt8) (h0 : 0 ≤ k) (h1 : k ≤ 255) (h2 : d.length ≤ 291) (hj : j < d.length + 7) :
   (unw ((wrapL k d).set (2 + j) ((wrapL k d).getD (2 + j) 0 ^^^ x))).2.2 = 0 ↔ x = 0 := by
 constructor
 · intro h
   have h3 := (unw_zero h).2.2.2.2
   have h4 := ((rOk_iff _).1 h3).2
   have e : ((wrapL k d).set (2 + j) ((wrapL k d).getD (2 + j) 0 ^^^ x)).drop 2 = (putL (innerL k d)).set j ((putL (innerL k d)).getD j 0 ^^^ x) := by
     have e2 : (wrapL k d).getD (2 + j) 0 = (putL (innerL k d)).getD j 0 := by
       rw [← wrapL_drop2,List.getD_eq_getElem?_getD,List.getD_eq_getElem?_getD,List.getElem?_drop]
     rw [e2,← wrapL_drop2]
     rw [List.drop_set,if_neg (by omega),Nat.add_sub_cancel_left]
   rw [e] at h4
   exact (told_one _ _ (by rw [innerL_len]; omega) x).1 h4
 · rintro rfl
   have h : ((wrapL k d).getD (2 + j) 0 ^^^ (0 : UInt8)) = (wrapL k d).getD (2 + j) 0 := by simp
   rw [h,set_self,unw_wrap k d h0 h1 h2]
section
variable {te e : TypeId} {w w' : World} {base n c : Nat} {A : Option Addr} {fs : List (List UInt8)}
theorem OwnL.apart {base' n' c' : Nat} {B : Option Addr} {l : List UInt8} {bad : Option Nat} (h : OwnL te e w base A n c fs bad) (ho : Own w base' e B n' c' l) (hne : e ≠ te) : ∀ g,A = some ⟨g,0,none⟩ → some g ≠ B.map (·.block) := by
 intro g hA
 subst hA
 obtain ⟨vs,h1,_⟩ := h
 exact rows_apart h1 ho (Ne.symm hne)
theorem OwnL.beside {base' n' c' : Nat} {B : Option Addr} {l : List UInt8} {bad : Option Nat} (h : OwnL te e w base A n c fs bad) (ho : Own w base' e B n' c' l) (hne : e ≠ te) (hg : w.grownBy w' (A.map (·.block))) : Own w' base' e B n' c' l := by
 obtain ⟨vs,h1,_⟩ := h
 exact ownsRow_grown ho hg fun g hB => by subst hB; exact rows_apart ho h1 hne
theorem OwnL.step {B B' : Option Addr} (h : OwnL te e w base A n c fs (B.map (·.block))) (hg : w.grownBy w' (B.map (·.block))) (hA : ∀ g,A = some ⟨g,0,none⟩ → some g ≠ B.map (·.block))
   (hB : B'.map (·.block) = B.map (·.block) ∨ B'.map (·.block) = some w.heap.size) : OwnL te e w' base A n c fs (B'.map (·.block)) := by
 obtain ⟨vs,h1,h2,h3⟩ := h
 refine ⟨vs,ownsRow_grown h1 hg hA,h2,fun j f hj => ?_⟩
 obtain ⟨A',n',c',k1,k2,k3⟩ := h3 j f hj
 refine ⟨A',n',c',k1,ownsRow_grown k2 hg (fun g hgA => ?_),?_⟩
 · rcases k3 with k3 | k3
   · rw [k3]; intro h; cases h
   · rw [hgA] at k3; exact k3
 · rcases hB with hB | hB
   · rw [hB]; exact k3
   · right
     rw [hB]
     intro hE
     cases A' with
     | none => cases hE
     | some ad =>
       have := (World.ownsRow.lt k2 ad.block rfl).2
       simp at hE
       omega
end
end Go.Proofs.YtkkcpblfheplaaaGreatDoor
