/- Contracts of functions that the laws of downpourtop reach, and plain facts; no condition beyond what each theorem states. -/
import Derived.Test.YtkkcpblfheplaaaGreatDoorME01
set_option maxRecDepth 100000
set_option maxHeartbeats 8000000
set_option linter.all false
namespace Go.Proofs.YtkkcpblfheplaaaGreatDoor
open Go.RowKit
theorem rmay_any (s : BitVec 32) (K P S : Nat) (w : World) :
   Calls Tryz.prog 107 #[.agg (parC s K P S)] w fun e w' => e = .returned (.bool (spOk K P S)) ∧ Below w.heap.size w w' := by
 have hbx : Below w.heap.size w (w.alloc (.cells (parC s K P S) 59)) := (Below.refl _ _).alloc (Nat.le_refl _) _
 have hP0 : decide ((0 : Int) ≤ (P : Int)) = true := by simp
 unfold parC at *
 by_cases h1 : 1 ≤ K
 · have d1 : decide (1 ≤ (K : Int)) = true := by simp; omega
   by_cases h2 : K ≤ 64
   · have d2 : decide ((K : Int) ≤ 64) = true := by simp; omega
     by_cases h3 : P ≤ 16
     · have d3 : decide ((P : Int) ≤ 16) = true := by simp; omega
       by_cases h4 : 1 ≤ S
       · have d4 : decide (1 ≤ (S : Int)) = true := by simp; omega
         by_cases h5 : S ≤ 16
         · have d5 : decide ((S : Int) ≤ 16) = true := by simp; omega
           have hc : Hid (spOk K P S = true) := hide (by unfold spOk; simp; omega)
           go_enter Tryz.func107,Tryz.ntmps107
           go_wp2_with fail
           go_ret
           exact ⟨by rw [hc.out]; rfl,hbx⟩
         · have d5 : decide ((S : Int) ≤ 16) = false := by simp; omega
           have hc : Hid (spOk K P S = false) := hide (by unfold spOk; simp; omega)
           go_enter Tryz.func107,Tryz.ntmps107
           go_wp2_with fail
           go_ret
           exact ⟨by rw [hc.out]; rfl,hbx⟩
       · have d4 : decide (1 ≤ (S : Int)) = false := by simp; omega
         have hc : Hid (spOk K P S = false) := hide (by unfold spOk; simp; omega)
         go_enter Tryz.func107,Tryz.ntmps107
         go_wp2_with fail
         go_ret
         exact ⟨by rw [hc.out]; rfl,hbx⟩
     · have d3 : decide ((P : Int) ≤ 16) = false := by simp; omega
       have hc : Hid (spOk K P S = false) := hide (by unfold spOk; simp; omega)
       go_enter Tryz.func107,Tryz.ntmps107
       go_wp2_with fail
       go_ret
       exact ⟨by rw [hc.out]; rfl,hbx⟩
   · have d2 : decide ((K : Int) ≤ 64) = false := by simp; omega
     have hc : Hid (spOk K P S = false) := hide (by unfold spOk; simp; omega)
     go_enter Tryz.func107,Tryz.ntmps107
     go_wp2_with fail
     go_ret
     exact ⟨by rw [hc.out]; rfl,hbx⟩
 · have d1 : decide (1 ≤ (K : Int)) = false := by simp; omega
   have hc : Hid (spOk K P S = false) := hide (by unfold spOk; simp; omega)
   go_enter Tryz.func107,Tryz.ntmps107
   go_wp2_with fail
   go_ret
   exact ⟨by rw [hc.out]; rfl,hbx⟩
theorem rfour_any (s : BitVec 32) (w : World) :
   Calls Tryz.prog 56 #[.int .u32 (V s)] w fun e w' => ∃ A c,e = .returned (.slice A 4 c) ∧ Own w' w.heap.size 5 A 4 c (four s) ∧ Below w.heap.size w w' := by
 go_enter Tryz.func56,Tryz.ntmps56
 go_wp2
 go_ret
 exact ⟨_,_,rfl,Own.lit w w.heap.size 5 _ (four_cells s) (by rw [four_len]; decide) (Nat.le_refl _),(Below.refl _ _).alloc (Nat.le_refl _) _⟩
theorem refnum_any (A : Option Addr) (n c : Nat) (l : List UInt8) (w : World) (hr : Rd w A n c l) (hn : n ≤ 1000000) :
   Calls Tryz.prog 57 #[.slice A n c] w fun e w' => e = .returned (.int .u32 (V (numB l))) ∧ w = w' := by
 have Hl := hide hr.1
 go_enter Tryz.func57,Tryz.ntmps57
 go_wp2_with fail
 go_loop [3,8] (fun v i => ∃ k : Nat,k ≤ n ∧ i = .int .i64 (k : Int) ∧ v = .int .u32 (V (numB (l.take k)))) (fun _ i => n - (intOf i).toNat)
 case atStart => exact ⟨0,Nat.zero_le _,rfl,rfl⟩
 case round =>
   obtain ⟨k,hk,rfl,rfl⟩ := hrel
   by_cases hlt : k < n
   · obtain ⟨ad,x,rfl,hx,hc⟩ := hr.at_ hlt
     have hS : Hid (numB (l.take (k + 1)) = numB (l.take k) <<< 8 ||| CrcP.bw x) := hide (numB_snoc l k x hx)
     have hlt' : (k : Int) < (n : Int) := by omega
     generalize numB (l.take k) = p at *
     clear hx
     go_wp2_with fail
     go_round
     case rel => exact ⟨k + 1,by omega,by go_num,by rw [V_pack,hS.out]⟩
     case measure => simp [intOf]; omega
   · obtain rfl : n = k := by omega
     have hT : l.take n = l := List.take_of_length_le (by rw [Hl.out]; exact Nat.le_refl _)
     rw [hT]
     go_wp2_with fail
     go_ret
     exact ⟨rfl,rfl⟩
def symV (ps : List (List UInt8)) (v : Row) (n size : Nat) : List UInt8 := (List.range size).map fun t => vb (fun i t => (ps.getD i []).getD t 0) v t n
theorem symV_len (ps : List (List UInt8)) (v : Row) (n size : Nat) : (symV ps v n size).length = size := by simp [symV]
theorem symV_getD (ps : List (List UInt8)) (v : Row) (n size t : Nat) (h : t < size) : (symV ps v n size).getD t 0 = vb (fun i t => (ps.getD i []).getD t 0) v t n := by
 simp [symV,List.getD_eq_getElem?_getD,h]
theorem symV_zero (ps : List (List UInt8)) (v : Row) (size : Nat) : symV ps v 0 size = List.replicate size 0 := by
 apply List.ext_getElem
 · simp [symV]
 · intro i h1 h2
   simp [symV,vb]
theorem symV_no (ps : List (List UInt8)) (v : Row) (k size : Nat) (h : v k = false) : symV ps v (k + 1) size = symV ps v k size := by
 unfold symV
 apply List.map_congr_left
 intro t _
 show vb _ v t k ^^^ (if v k then _ else 0) = _
 simp [h]
theorem symV_yes (ps : List (List UInt8)) (v : Row) (k size : Nat) (h : v k = true) (hl : (ps.getD k []).length = size) : symV ps v (k + 1) size = dx (symV ps v k size) (ps.getD k []) := by
 apply List.ext_getElem
 · rw [dx_len (n := size) (symV_len ..) hl,symV_len]
 · intro t h1 h2
   have ht : t < size := by rw [symV_len] at h1; exact h1
   have e1 := symV_getD ps v (k + 1) size t ht
   have e2 := dx_getD (a := symV ps v k size) (b := ps.getD k []) (t := t) (by rw [symV_len]; exact ht) (by rw [hl]; exact ht)
   rw [List.getD_eq_getElem?_getD,List.getElem?_eq_getElem h1,Option.getD_some] at e1
   rw [List.getD_eq_getElem?_getD,List.getElem?_eq_getElem h2,Option.getD_some] at e2
   rw [e1,e2,symV_getD ps v k size t ht]
   show vb _ v t k ^^^ (if v k then _ else 0) = _
   simp [h]
theorem symV_says (ps : List (List UInt8)) (v : Row) (n size : Nat) : Says (fun i t => (ps.getD i []).getD t 0) n size (v,symV ps v n size) :=
 ⟨symV_len ..,fun t ht => symV_getD ps v n size t ht⟩
theorem vb_congr (P P' : Nat → Nat → UInt8) (u v : Row) (t : Nat) : ∀ k,(∀ i,i < k → u i = v i ∧ P i t = P' i t) → vb P u t k = vb P' v t k := by
 intro k
 induction k with
 | zero => intro _; rfl
 | succ k ih =>
   intro h
   unfold vb
   rw [ih (fun i hi => h i (by omega)),(h k (by omega)).1,(h k (by omega)).2]
theorem symV_congr (ps ps' : List (List UInt8)) (u v : Row) (n size : Nat) (h : ∀ i,i < n → u i = v i ∧ ps.getD i [] = ps'.getD i []) : symV ps u n size = symV ps' v n size := by
 unfold symV
 apply List.map_congr_left
 intro t _
 exact vb_congr _ _ _ _ _ _ fun i hi => ⟨(h i hi).1,by rw [(h i hi).2]⟩
def dxTo (a b : List UInt8) : Nat → List UInt8
 | 0 => a
 | i + 1 => (dxTo a b i).set i (a.getD i 0 ^^^ b.getD i 0)
theorem dxTo_len (a b : List UInt8) : ∀ i,(dxTo a b i).length = a.length := by
 intro i
 induction i with
 | zero => rfl
 | succ i ih => simp [dxTo,ih]
theorem dxTo_get (a b : List UInt8) (j : Nat) (hj : j < a.length) : ∀ i,(dxTo a b i)[j]? = some (if j < i then a.getD j 0 ^^^ b.getD j 0 else a.getD j 0) := by
 intro i
 induction i with
 | zero => simp [dxTo,hj]
 | succ i ih =>
   unfold dxTo
   rw [List.getElem?_set]
   by_cases e : i = j
   · subst e; simp [dxTo_len,hj]
   · rw [if_neg e,ih]
     by_cases h : j < i
     · simp [h,show j < i + 1 by omega]
     · simp [h,show ¬ j < i + 1 by omega]
theorem dxTo_all (a b : List UInt8) (n : Nat) (ha : a.length = n) (hb : b.length = n) : dxTo a b n = dx a b := by
 apply List.ext_getElem?
 intro j
 by_cases h : j < n
 · rw [dxTo_get a b j (by omega) n,if_pos h]
   have := dx_getD (a := a) (b := b) (t := j) (by omega) (by omega)
   rw [← this,List.getD_eq_getElem?_getD,List.getElem?_eq_getElem (by rw [dx_len ha hb]; exact h),Option.getD_some]
 · rw [List.getElem?_eq_none (by rw [dxTo_len]; omega),List.getElem?_eq_none (by rw [dx_len ha hb]; omega)]
def xsTo (a b : List UInt8) : Nat → List UInt8
 | 0 => List.replicate a.length 0
 | i + 1 => (xsTo a b i).set i (a.getD i 0 ^^^ b.getD i 0)
theorem xsTo_len (a b : List UInt8) : ∀ i,(xsTo a b i).length = a.length := by
 intro i
 induction i with
 | zero => simp [xsTo]
 | succ i ih => simp [xsTo,ih]
theorem xsTo_get (a b : List UInt8) (j : Nat) (hj : j < a.length) : ∀ i,j < i → (xsTo a b i)[j]? = some (a.getD j 0 ^^^ b.getD j 0) := by
 intro i
 induction i with
 | zero => intro h; omega
 | succ i ih =>
   intro h
   unfold xsTo
   rw [List.getElem?_set]
   by_cases e : i = j
   · subst e; simp [xsTo_len,hj]
   · rw [if_neg e,ih (by omega)]
theorem xsTo_all (a b : List UInt8) (n : Nat) (ha : a.length = n) (hb : b.length = n) : xsTo a b n = dx a b := by
 apply List.ext_getElem?
 intro j
 by_cases h : j < n
 · rw [xsTo_get a b j (by omega) n h]
   have := dx_getD (a := a) (b := b) (t := j) (by omega) (by omega)
   rw [← this,List.getD_eq_getElem?_getD,List.getElem?_eq_getElem (by rw [dx_len ha hb]; exact h),Option.getD_some]
 · rw [List.getElem?_eq_none (by rw [xsTo_len]; omega),List.getElem?_eq_none (by rw [dx_len ha hb]; omega)]
def fullL (img : List UInt8) (N : Nat) : List UInt8 := img ++ List.replicate (N - img.length) 0
theorem fullL_len (img : List UInt8) (N : Nat) (h : img.length ≤ N) : (fullL img N).length = N := by simp [fullL]; omega
def pieceL (img : List UInt8) (S K i : Nat) : List UInt8 := ((fullL img (K * S)).drop (i * S)).take S
def splitL (img : List UInt8) (S K : Nat) : List (List UInt8) := (List.range K).map (pieceL img S K)
theorem splitL_len (img : List UInt8) (S K : Nat) : (splitL img S K).length = K := by simp [splitL]
theorem pieceL_len (img : List UInt8) (S K i : Nat) (h : img.length ≤ K * S) (hi : i < K) : (pieceL img S K i).length = S := by
 unfold pieceL
 rw [List.length_take,List.length_drop,fullL_len _ _ h]
 have : (i + 1) * S ≤ K * S := Nat.mul_le_mul_right _ hi
 rw [Nat.add_mul,Nat.one_mul] at this
 omega
theorem splitL_get (img : List UInt8) (S K i : Nat) (hi : i < K) : (splitL img S K)[i]? = some (pieceL img S K i) := by simp [splitL,hi]
theorem splitL_getD (img : List UInt8) (S K i : Nat) (hi : i < K) : (splitL img S K).getD i [] = pieceL img S K i := by rw [List.getD_eq_getElem?_getD,splitL_get _ _ _ _ hi]; rfl
theorem chunks (l : List UInt8) (S : Nat) : ∀ K,((List.range K).map fun i => (l.drop (i * S)).take S).flatten = l.take (K * S) := by
 intro K
 induction K with
 | zero => simp
 | succ K ih =>
   rw [List.range_succ,List.map_append,List.flatten_append,ih]
   simp only [List.map_cons,List.map_nil,List.flatten_cons,List.flatten_nil,List.append_nil]
   rw [Nat.add_mul,Nat.one_mul,List.take_add]
theorem splitL_flat (img : List UInt8) (S K : Nat) (h : img.length ≤ K * S) : (splitL img S K).flatten = fullL img (K * S) := by
 unfold splitL pieceL
 rw [chunks,List.take_of_length_le (by rw [fullL_len _ _ h]; exact Nat.le_refl _)]
theorem splitL_back (img : List UInt8) (S K : Nat) (h : img.length ≤ K * S) : (splitL img S K).flatten.take img.length = img := by
 rw [splitL_flat _ _ _ h]
 unfold fullL
 exact List.take_left
def pcs (s : B32) (K P S : Nat) (img : List UInt8) : List (List UInt8) := splitL img S K ++ (List.range P).map fun j => symV (splitL img S K) (parRow s K j) K S
theorem pcs_len (s : B32) (K P S : Nat) (img : List UInt8) : (pcs s K P S img).length = K + P := by simp [pcs,splitL_len]
theorem pcs_low (s : B32) (K P S : Nat) (img : List UInt8) (i : Nat) (hi : i < K) : (pcs s K P S img).getD i [] = pieceL img S K i := by
 unfold pcs
 rw [List.getD_eq_getElem?_getD,List.getElem?_append_left (by rw [splitL_len]; exact hi),splitL_get _ _ _ _ hi]
 rfl
theorem pcs_high (s : B32) (K P S : Nat) (img : List UInt8) (j : Nat) (hj : j < P) : (pcs s K P S img).getD (K + j) [] = symV (splitL img S K) (parRow s K j) K S := by
 unfold pcs
 rw [List.getD_eq_getElem?_getD,List.getElem?_append_right (by rw [splitL_len]; omega),splitL_len,Nat.add_sub_cancel_left]
 simp [hj]
theorem pcs_all (s : B32) (K P S : Nat) (img : List UInt8) (h : img.length ≤ K * S) (i : Nat) (hi : i < K + P) : ((pcs s K P S img).getD i []).length = S := by
 by_cases hk : i < K
 · rw [pcs_low _ _ _ _ _ _ hk,pieceL_len _ _ _ _ h hk]
 · obtain ⟨j,rfl⟩ : ∃ j,i = K + j := ⟨i - K,by omega⟩
   rw [pcs_high _ _ _ _ _ _ (by omega),symV_len]
theorem pcs_take (s : B32) (K P S : Nat) (img : List UInt8) : (pcs s K P S img).take K = splitL img S K := by
 unfold pcs
 rw [List.take_append_of_le_length (by rw [splitL_len]; exact Nat.le_refl _),List.take_of_length_le (by rw [splitL_len]; exact Nat.le_refl _)]
theorem vb_more (P : Nat → Nat → UInt8) (v : Row) (t K : Nat) : ∀ m,(∀ i,K ≤ i → i < K + m → v i = false) → vb P v t (K + m) = vb P v t K := by
 intro m
 induction m with
 | zero => intro _; rfl
 | succ m ih =>
   intro h
   show vb P v t (K + m) ^^^ (if v (K + m) then _ else 0) = _
   rw [h (K + m) (by omega) (by omega),ih (fun i h1 h2 => h i h1 (by omega))]
   simp
theorem par_says (s : B32) (K P S : Nat) (img : List UInt8) (j : Nat) (hj : j < P) (v : Row) (hv : ∀ i,i < K + P → v i = parRow s K j i) :
   Says (fun i t => ((pcs s K P S img).getD i []).getD t 0) (K + P) S (v,List.replicate S 0) := by
 refine ⟨by simp,fun t ht => ?_⟩
 have e0 : (List.replicate S (0 : UInt8)).getD t 0 = 0 := by simp [List.getD_eq_getElem?_getD,ht]
 rw [show ((v,List.replicate S (0 : UInt8)) : Row × List UInt8).2 = List.replicate S 0 from rfl,e0]
 rw [vb_congr _ _ v (rx (fun i => decide (i < K) && parB s j i) (er (K + j))) t (K + P) (fun i hi => ⟨?_,rfl⟩),vb_rx,vb_er,if_pos (by omega)]
 · rw [vb_more _ _ _ K P (fun i h1 h2 => by simp; omega),pcs_high _ _ _ _ _ _ hj,symV_getD _ _ _ _ _ ht]
   rw [vb_congr _ (fun i t => ((splitL img S K).getD i []).getD t 0) (fun i => decide (i < K) && parB s j i) (parRow s K j) t K (fun i hi => ⟨?_,?_⟩),x8_self]
   · simp [parRow,hi,show ¬ i = K + j by omega]
   · show ((pcs s K P S img).getD i []).getD t 0 = ((splitL img S K).getD i []).getD t 0
     rw [pcs_low _ _ _ _ _ _ hi,splitL_getD _ _ _ _ hi]
 · show v i = xor (decide (i < K) && parB s j i) (decide (i = K + j))
   rw [hv i hi]
   unfold parRow
   by_cases h1 : i = K + j
   · subst h1; simp
   · by_cases h2 : i < K <;> simp [h1,h2]
def rws (b : List UInt8) : Nat → List (BitVec 32)
 | 0 => zeros
 | i + 1 => (rws b i).set i (if i < 16 then numB ((b.drop (4 * i)).take 4) else mixed (rws b i) i)
theorem rws_len (b : List UInt8) : ∀ i,(rws b i).length = 64 := by
 intro i
 induction i with
 | zero => simp [rws,zeros]
 | succ i ih => simp [rws,ih]
theorem zeros_getD (j : Nat) : zeros.getD j 0#32 = 0#32 := by
 unfold zeros
 rw [List.getD_eq_getElem?_getD,List.getElem?_replicate]
 split <;> rfl
theorem rws_rest (b : List UInt8) (j : Nat) : ∀ i,i ≤ j → (rws b i).getD j 0#32 = 0#32 := by
 intro i
 induction i with
 | zero => intro _; exact zeros_getD j
 | succ i ih =>
   intro h
   unfold rws
   rw [List.getD_eq_getElem?_getD,List.getElem?_set_ne (by omega),← List.getD_eq_getElem?_getD]
   exact ih (by omega)
theorem set_again (L : List (BitVec 32)) (i : Nat) (a b : BitVec 32) : (L.set i a).set i b = L.set i b := by simp
theorem set_getD (L : List (BitVec 32)) (i : Nat) (a : BitVec 32) (h : i < L.length) : (L.set i a).getD i 0#32 = a := by simp [List.getD_eq_getElem?_getD,h]
theorem packs_rws (b : List UInt8) (hb : b.length = 64) : ∀ i,i ≤ 16 → packs b (4 * i) = rws b i := by
 intro i
 induction i with
 | zero => intro _; rfl
 | succ i ih =>
   intro hi
   have hl := rws_len b i
   have hz := rws_rest b i i (Nat.le_refl _)
   have e := ih (by omega)
   have s1 : packs b (4 * i + 1) = packed (packs b (4 * i)) (4 * i) (b.getD (4 * i) 0) := rfl
   have s2 : packs b (4 * i + 2) = packed (packs b (4 * i + 1)) (4 * i + 1) (b.getD (4 * i + 1) 0) := rfl
   have s3 : packs b (4 * i + 3) = packed (packs b (4 * i + 2)) (4 * i + 2) (b.getD (4 * i + 2) 0) := rfl
   have s4 : packs b (4 * i + 4) = packed (packs b (4 * i + 3)) (4 * i + 3) (b.getD (4 * i + 3) 0) := rfl
   have hq : (b.drop (4 * i)).take 4 = [b.getD (4 * i) 0,b.getD (4 * i + 1) 0,b.getD (4 * i + 2) 0,b.getD (4 * i + 3) 0] := by
     apply List.ext_getElem?
     intro j
     rw [List.getElem?_take]
     by_cases hj : j < 4
     · rw [if_pos hj,List.getElem?_drop]
       have : ∀ k,k < 4 → b[4 * i + k]? = some (b.getD (4 * i + k) 0) := fun k hk => by
         rw [List.getD_eq_getElem?_getD,List.getElem?_eq_getElem (by omega)]
         rfl
       match j,hj with
       | 0,_ => exact this 0 (by omega)
       | 1,_ => exact this 1 (by omega)
       | 2,_ => exact this 2 (by omega)
       | 3,_ => exact this 3 (by omega)
     · rw [if_neg hj,List.getElem?_eq_none (by simp; omega)]
   rw [show 4 * (i + 1) = 4 * i + 4 by omega,s4,s3,s2,s1,e]
   unfold packed
   rw [show (4 * i) / 4 = i by omega,show (4 * i + 1) / 4 = i by omega,show (4 * i + 2) / 4 = i by omega,show (4 * i + 3) / 4 = i by omega,hz]
   simp only [set_again]
   rw [set_getD _ _ _ (by omega),set_getD _ _ _ (by omega),set_getD _ _ _ (by omega)]
   show _ = (rws b i).set i (if i < 16 then numB ((b.drop (4 * i)).take 4) else mixed (rws b i) i)
   rw [if_pos (by omega),hq]
   rfl
theorem grows_rws (b : List UInt8) (hb : b.length = 64) : ∀ k,grows (packs b 64) k = rws b (16 + k) := by
 intro k
 induction k with
 | zero => exact packs_rws b hb 16 (Nat.le_refl _)
 | succ k ih =>
   unfold grows
   rw [ih]
   show _ = (rws b (16 + k)).set (16 + k) (if 16 + k < 16 then _ else mixed (rws b (16 + k)) (16 + k))
   rw [if_neg (by omega)]
theorem rws_words (b : List UInt8) (hb : b.length = 64) : rws b 64 = words b := (grows_rws b hb 48).symm
theorem ch_xor (a b c : BitVec 32) : a &&& b ^^^ ~~~a &&& c = a &&& b ||| ~~~a &&& c := by
 ext i
 simp
 cases a[i] <;> cases b[i] <;> cases c[i] <;> rfl
theorem maj_xor (a b c : BitVec 32) : a &&& b ^^^ a &&& c ^^^ b &&& c = a &&& b ||| a &&& c ||| b &&& c := by
 ext i
 simp
 cases a[i] <;> cases b[i] <;> cases c[i] <;> rfl
theorem eight_four (N : Nat) (h : N < 4294967296) : eight N = four 0#32 ++ four (BitVec.ofNat 32 N) := by
 have e : V (BitVec.ofNat 32 N) = (N : Int) := by
   unfold V
   rw [BitVec.toNat_ofNat]
   omega
 unfold eight
 have hb : ∀ k : Nat,k < 4 → byt ((N : Int) / 2 ^ (56 - 8 * k)) = 0 := by
   intro k hk
   have : (N : Int) / 2 ^ (56 - 8 * k) = 0 := by
     apply Int.ediv_eq_zero_of_lt (by omega)
     have h2 : (2 : Int) ^ 32 ≤ 2 ^ (56 - 8 * k) := by
       have : (2 : Nat) ^ 32 ≤ 2 ^ (56 - 8 * k) := Nat.pow_le_pow_right (by omega) (by omega)
       exact_mod_cast this
     omega
   rw [this]
   rfl
 have h0 := hb 0 (by omega)
 have h1 := hb 1 (by omega)
 have h2 := hb 2 (by omega)
 have h3 := hb 3 (by omega)
 show [_,_,_,_,_,_,_,_] = _
 unfold four
 rw [e]
 simp only [List.cons_append,List.nil_append]
 rw [h0,h1,h2,h3]
 have z0 : V 0#32 = 0 := rfl
 rw [z0]
 simp
 decide
end Go.Proofs.YtkkcpblfheplaaaGreatDoor
