/- Contracts of functions that the laws of downpourtop reach, and plain facts; no condition beyond what each theorem states. -/
import Derived.Test.YtkkcpblfheplaaaGreatDoorMDx04
import Derived.Lib.MinMax
set_option maxRecDepth 100000
set_option maxHeartbeats 8000000
set_option linter.all false
namespace Go.Proofs.YtkkcpblfheplaaaGreatDoor
open Go.RowKit
theorem reg_listed {P : Program} {ops : Array Oper} {Q : Exit → Act → World → Prop} {md : Region.Mode} {S : World → Prop} {n m : Nat} {l l' : Array Bool} {a : Act} {w : World} (en : n = m) (e : l = l') (h : wpAnyH P md ops Q S m l' a w) : wpAnyH P md ops Q S n l a w := by
 subst en; subst e; exact h
def Itm (on : Bool) (base : Nat) (a : Act) (w : World) (sl r n : Nat) (l : List UInt8) : Prop :=
 on = true → base ≤ r ∧ r < w.heap.size ∧ ∃ A c,a.eval (.tmp sl) = .slice A n c ∧ Own w base 5 A n c l ∧ A.map (·.block) = some r
theorem eval_put {a : Act} {d sl : Nat} {v : Value} (h : d ≠ sl) : (a.put (some d) v).eval (.tmp sl) = a.eval (.tmp sl) :=
 Act.eval_put fun d' e e2 => by cases e; cases e2; exact h rfl
theorem put_same (a : Act) (d : Nat) (v : Value) (h : d < a.tmps.size) : (a.put (some d) v).eval (.tmp d) = v := by
 simp [Act.eval,Act.put,h]
theorem put_size (a : Act) (d : Option Tmp) (v : Value) : (a.put d v).tmps.size = a.tmps.size := by
 cases d <;> simp [Act.put]
theorem put_df (a : Act) (d : Option Tmp) (v : Value) : (a.put d v).defers = a.defers := by
 cases d <;> rfl
theorem Itm.put {on : Bool} {base : Nat} {a : Act} {w : World} {sl r n : Nat} {l : List UInt8} (h : Itm on base a w sl r n l) {d : Nat} (hd : d ≠ sl) (v : Value) : Itm on base (a.put (some d) v) w sl r n l := fun ho => by
 obtain ⟨h1,h2,A,c,h3,h4⟩ := h ho
 exact ⟨h1,h2,A,c,(eval_put hd).trans h3,h4⟩
theorem Itm.fr {on : Bool} {base : Nat} {a : Act} {w w' : World} {sl r n : Nat} {l : List UInt8} (h : Itm on base a w sl r n l) {q : Nat} (hF : Fr (· = q) w w') (hq : on = true → r ≠ q) : Itm on base a w' sl r n l := fun ho => by
 obtain ⟨h1,h2,A,c,h3,h4,h5⟩ := h ho
 have := hF.size
 exact ⟨h1,by omega,A,c,h3,own2_fr h4 hF (fun g hg hs => by rw [h5] at hg; cases hg; exact hq ho hs),h5⟩
theorem Itm.lt {on : Bool} {base : Nat} {a : Act} {w : World} {sl r n : Nat} {l : List UInt8} (h : Itm on base a w sl r n l) (ho : on = true) : r < w.heap.size := (h ho).2.1
theorem Itm.no {base : Nat} {a : Act} {w : World} {sl r n : Nat} {l : List UInt8} : Itm false base a w sl r n l := fun h => by cases h
theorem grown_fr {base r : Nat} {w w' : World} (hb : Below base w w') (hg : w.grownBy w' (some r)) : Fr (· = r) w w' := ⟨hb.os,hb.tape,hb.output,hb.size,fun g hl hn => hg.block g hl (fun e => hn (by cases e; rfl))⟩
def s0 : Nat → Nat
 | 0 => 6
 | 1 => 12
 | _ => 14
def n0 (k : Nat) : Nat → Nat
 | 0 => 0
 | 1 => k
 | _ => k + 1
def l0 (l : List UInt8) : Nat → List UInt8
 | 0 => []
 | 1 => l
 | _ => l ++ [1]
def s9 : Nat → Nat
 | 0 | 1 | 2 => 15
 | 3 => 21
 | _ => 23
def n9 (k : Nat) : Nat → Nat
 | 0 | 1 | 2 => 0
 | 3 => k
 | _ => k + 1
def l9 (l : List UInt8) : Nat → List UInt8
 | 0 | 1 | 2 => []
 | 3 => l
 | _ => l ++ [2]
structure Srcs (w0 : World) (X : Option Addr) (k cX : Nat) (lk : List UInt8) (Y : Option Addr) (m cY : Nat) (lm : List UInt8) : Prop where
 x : Rd w0 X k cX lk
 y : Rd w0 Y m cY lm
 k : k ≤ 60
 m : m ≤ 60
structure Img (w0 : World) (X : Option Addr) (k cX : Nat) (lk : List UInt8) (Y : Option Addr) (m cY : Nat) (lm : List UInt8) (p : Nat) (f0 f7 f9 f16 : Bool) (r0 r7 r9 r16 : Nat) (a : Act) (w : World) : Prop where
 bel : Below w0.heap.size w0 w
 sz : a.tmps.size = 24
 df : a.defers = []
 e11 : a.eval (.tmp 11) = .slice X k cX
 e20 : a.eval (.tmp 20) = .slice Y m cY
 i0 : Itm f0 w0.heap.size a w (s0 p) r0 (n0 k p) (l0 lk p)
 i7 : Itm f7 w0.heap.size a w 13 r7 1 [1]
 i9 : Itm f9 w0.heap.size a w (s9 p) r9 (n9 m p) (l9 lm p)
 i16 : Itm f16 w0.heap.size a w 22 r16 1 [2]
 d07 : f0 = true → f7 = true → r0 ≠ r7
 d09 : f0 = true → f9 = true → r0 ≠ r9
 d016 : f0 = true → f16 = true → r0 ≠ r16
 d79 : f7 = true → f9 = true → r7 ≠ r9
 d716 : f7 = true → f16 = true → r7 ≠ r16
 d916 : f9 = true → f16 = true → r9 ≠ r16
structure ImgOps (ops : Array Oper) : Prop where
 o0 : ∃ o,ops[0]? = some o ∧ o.dst = some 6 ∧ o.guard = none ∧ ∀ (a : Act) w,(execOp a.eval o).run Tryz.prog w = .ok (.value (.slice (some ⟨w.heap.size,0,none⟩) 0 0)) (w.alloc (.cells #[] 5))
 o7 : ∃ o,ops[7]? = some o ∧ o.dst = some 13 ∧ o.guard = none ∧ ∀ (a : Act) w,(execOp a.eval o).run Tryz.prog w = .ok (.value (.slice (some ⟨w.heap.size,0,none⟩) 1 1)) (w.alloc (.cells #[.int .u8 1] 5))
 o9 : ∃ o,ops[9]? = some o ∧ o.dst = some 15 ∧ o.guard = none ∧ ∀ (a : Act) w,(execOp a.eval o).run Tryz.prog w = .ok (.value (.slice (some ⟨w.heap.size,0,none⟩) 0 0)) (w.alloc (.cells #[] 5))
 o16 : ∃ o,ops[16]? = some o ∧ o.dst = some 22 ∧ o.guard = none ∧ ∀ (a : Act) w,(execOp a.eval o).run Tryz.prog w = .ok (.value (.slice (some ⟨w.heap.size,0,none⟩) 1 1)) (w.alloc (.cells #[.int .u8 2] 5))
 o6 : ∃ o,ops[6]? = some o ∧ o.dst = some 12 ∧ o.guard = none ∧ o.op = .call { callee := .builtin .append,args := #[.tmp 6,.tmp 11],argTypes := #[22,22] }
 o8 : ∃ o,ops[8]? = some o ∧ o.dst = some 14 ∧ o.guard = none ∧ o.op = .call { callee := .builtin .append,args := #[.tmp 12,.tmp 13],argTypes := #[22,22] }
 o15 : ∃ o,ops[15]? = some o ∧ o.dst = some 21 ∧ o.guard = none ∧ o.op = .call { callee := .builtin .append,args := #[.tmp 15,.tmp 20],argTypes := #[22,22] }
 o17 : ∃ o,ops[17]? = some o ∧ o.dst = some 23 ∧ o.guard = none ∧ o.op = .call { callee := .builtin .append,args := #[.tmp 21,.tmp 22],argTypes := #[22,22] }
theorem wanted_none {o : Oper} {ops : Array Oper} {a : Act} (h : o.guard = none) : Region.wanted o (yielded ops a.tmps) = true := by simp [Region.wanted,h]
section
variable {w0 : World} {X : Option Addr} {k cX : Nat} {lk : List UInt8} {Y : Option Addr} {m cY : Nat} {lm : List UInt8} {ops : Array Oper} {Q : Exit → Act → World → Prop} {f0 f7 f9 f16 : Bool} {r0 r7 r9 r16 : Nat} {a : Act} {w : World} {K : Act → World → Prop} {p : Nat}
theorem img_new0 (hO : ImgOps ops) (h : Img w0 X k cX lk Y m cY lm 0 false f7 f9 f16 r0 r7 r9 r16 a w) (hK : ∀ a' w',Img w0 X k cX lk Y m cY lm 0 true f7 f9 f16 w.heap.size r7 r9 r16 a' w' → K a' w') : wpOp Tryz.prog ops Q 0 K a w := by
 obtain ⟨o,h1,h2,h3,h4⟩ := hO.o0
 refine reg_val _ _ _ h1 h2 (wanted_none h3) (h4 _ _) (hK _ _ ?_)
 have hF : ∀ q,Fr (· = q) w (w.alloc (.cells #[] 5)) := fun q => .of (below_alloc1 w _)
 have hs := h.bel.size
 have hn : ∀ sl,6 = sl → ((a.put (some 6) (.slice (some ⟨w.heap.size,0,none⟩) 0 0)).eval (.tmp sl)) = .slice (some ⟨w.heap.size,0,none⟩) 0 0 := fun sl e => by subst e; exact put_same a _ _ (by have := h.sz; omega)
 refine ⟨h.bel.trans ((below_alloc1 w _).mono hs),(put_size _ _ _).trans h.sz,(put_df _ _ _).trans h.df,(eval_put (by decide)).trans h.e11,(eval_put (by decide)).trans h.e20,?_,?_,?_,?_,?_,?_,?_,?_,?_,?_⟩
 · exact fun _ => ⟨hs,by simp,_,_,hn _ rfl,Own.empty w _ hs,rfl⟩
 · exact (h.i7.put (d := 6) (by decide) _).fr (hF w.heap.size) (fun e => by have := h.i7.lt e; omega)
 · exact (h.i9.put (d := 6) (by decide) _).fr (hF w.heap.size) (fun e => by have := h.i9.lt e; omega)
 · exact (h.i16.put (d := 6) (by decide) _).fr (hF w.heap.size) (fun e => by have := h.i16.lt e; omega)
 · exact fun _ e => by have := h.i7.lt e; omega
 · exact fun _ e => by have := h.i9.lt e; omega
 · exact fun _ e => by have := h.i16.lt e; omega
 · exact h.d79
 · exact h.d716
 · exact h.d916
theorem img_new7 (hO : ImgOps ops) (hp : p ≤ 4) (h : Img w0 X k cX lk Y m cY lm p f0 false f9 f16 r0 r7 r9 r16 a w) (hK : ∀ a' w',Img w0 X k cX lk Y m cY lm p f0 true f9 f16 r0 w.heap.size r9 r16 a' w' → K a' w') : wpOp Tryz.prog ops Q 7 K a w := by
 obtain ⟨o,h1,h2,h3,h4⟩ := hO.o7
 refine reg_val _ _ _ h1 h2 (wanted_none h3) (h4 _ _) (hK _ _ ?_)
 have hF : ∀ q,Fr (· = q) w (w.alloc (.cells #[.int .u8 1] 5)) := fun q => .of (below_alloc1 w _)
 have hs := h.bel.size
 have hn : ∀ sl,13 = sl → ((a.put (some 13) (.slice (some ⟨w.heap.size,0,none⟩) 1 1)).eval (.tmp sl)) = .slice (some ⟨w.heap.size,0,none⟩) 1 1 := fun sl e => by subst e; exact put_same a _ _ (by have := h.sz; omega)
 refine ⟨h.bel.trans ((below_alloc1 w _).mono hs),(put_size _ _ _).trans h.sz,(put_df _ _ _).trans h.df,(eval_put (by decide)).trans h.e11,(eval_put (by decide)).trans h.e20,?_,?_,?_,?_,?_,?_,?_,?_,?_,?_⟩
 · exact (h.i0.put (d := 13) (by simp [s0]; split <;> omega) _).fr (hF w.heap.size) (fun e => by have := h.i0.lt e; omega)
 · exact fun _ => ⟨hs,by simp,_,_,hn _ rfl,Own.lit w _ 5 _ (l := [1]) rfl (by simp [maxLen]) hs,rfl⟩
 · exact (h.i9.put (d := 13) (by simp [s9]; split <;> omega) _).fr (hF w.heap.size) (fun e => by have := h.i9.lt e; omega)
 · exact (h.i16.put (d := 13) (by decide) _).fr (hF w.heap.size) (fun e => by have := h.i16.lt e; omega)
 · exact fun e _ => by have := h.i0.lt e; omega
 · exact h.d09
 · exact h.d016
 · exact fun _ e => by have := h.i9.lt e; omega
 · exact fun _ e => by have := h.i16.lt e; omega
 · exact h.d916
theorem img_new9 (hO : ImgOps ops) (hp : p ≤ 2) (h : Img w0 X k cX lk Y m cY lm p f0 f7 false f16 r0 r7 r9 r16 a w) (hK : ∀ a' w',Img w0 X k cX lk Y m cY lm p f0 f7 true f16 r0 r7 w.heap.size r16 a' w' → K a' w') : wpOp Tryz.prog ops Q 9 K a w := by
 obtain ⟨o,h1,h2,h3,h4⟩ := hO.o9
 refine reg_val _ _ _ h1 h2 (wanted_none h3) (h4 _ _) (hK _ _ ?_)
 have hF : ∀ q,Fr (· = q) w (w.alloc (.cells #[] 5)) := fun q => .of (below_alloc1 w _)
 have hs := h.bel.size
 have hn : ∀ sl,15 = sl → ((a.put (some 15) (.slice (some ⟨w.heap.size,0,none⟩) 0 0)).eval (.tmp sl)) = .slice (some ⟨w.heap.size,0,none⟩) 0 0 := fun sl e => by subst e; exact put_same a _ _ (by have := h.sz; omega)
 refine ⟨h.bel.trans ((below_alloc1 w _).mono hs),(put_size _ _ _).trans h.sz,(put_df _ _ _).trans h.df,(eval_put (by decide)).trans h.e11,(eval_put (by decide)).trans h.e20,?_,?_,?_,?_,?_,?_,?_,?_,?_,?_⟩
 · exact (h.i0.put (d := 15) (by simp [s0]; split <;> omega) _).fr (hF w.heap.size) (fun e => by have := h.i0.lt e; omega)
 · exact (h.i7.put (d := 15) (by decide) _).fr (hF w.heap.size) (fun e => by have := h.i7.lt e; omega)
 · intro _
   match p,hp with
   | 0,_ | 1,_ | 2,_ => exact ⟨hs,by simp,_,_,hn _ rfl,Own.empty w _ hs,rfl⟩
 · exact (h.i16.put (d := 15) (by decide) _).fr (hF w.heap.size) (fun e => by have := h.i16.lt e; omega)
 · exact h.d07
 · exact fun e _ => by have := h.i0.lt e; omega
 · exact h.d016
 · exact fun e _ => by have := h.i7.lt e; omega
 · exact h.d716
 · exact fun _ e => by have := h.i16.lt e; omega
theorem img_new16 (hO : ImgOps ops) (hp : p ≤ 4) (h : Img w0 X k cX lk Y m cY lm p f0 f7 f9 false r0 r7 r9 r16 a w) (hK : ∀ a' w',Img w0 X k cX lk Y m cY lm p f0 f7 f9 true r0 r7 r9 w.heap.size a' w' → K a' w') : wpOp Tryz.prog ops Q 16 K a w := by
 obtain ⟨o,h1,h2,h3,h4⟩ := hO.o16
 refine reg_val _ _ _ h1 h2 (wanted_none h3) (h4 _ _) (hK _ _ ?_)
 have hF : ∀ q,Fr (· = q) w (w.alloc (.cells #[.int .u8 2] 5)) := fun q => .of (below_alloc1 w _)
 have hs := h.bel.size
 have hn : ∀ sl,22 = sl → ((a.put (some 22) (.slice (some ⟨w.heap.size,0,none⟩) 1 1)).eval (.tmp sl)) = .slice (some ⟨w.heap.size,0,none⟩) 1 1 := fun sl e => by subst e; exact put_same a _ _ (by have := h.sz; omega)
 refine ⟨h.bel.trans ((below_alloc1 w _).mono hs),(put_size _ _ _).trans h.sz,(put_df _ _ _).trans h.df,(eval_put (by decide)).trans h.e11,(eval_put (by decide)).trans h.e20,?_,?_,?_,?_,?_,?_,?_,?_,?_,?_⟩
 · exact (h.i0.put (d := 22) (by simp [s0]; split <;> omega) _).fr (hF w.heap.size) (fun e => by have := h.i0.lt e; omega)
 · exact (h.i7.put (d := 22) (by decide) _).fr (hF w.heap.size) (fun e => by have := h.i7.lt e; omega)
 · exact (h.i9.put (d := 22) (by simp [s9]; split <;> omega) _).fr (hF w.heap.size) (fun e => by have := h.i9.lt e; omega)
 · exact fun _ => ⟨hs,by simp,_,_,hn _ rfl,Own.lit w _ 5 _ (l := [2]) rfl (by simp [maxLen]) hs,rfl⟩
 · exact h.d07
 · exact h.d09
 · exact fun e _ => by have := h.i0.lt e; omega
 · exact h.d79
 · exact fun e _ => by have := h.i7.lt e; omega
 · exact fun e _ => by have := h.i9.lt e; omega
theorem img_app6 (hO : ImgOps ops) (hS : Srcs w0 X k cX lk Y m cY lm) (h : Img w0 X k cX lk Y m cY lm 0 true f7 f9 f16 r0 r7 r9 r16 a w) (hK : ∀ a' w' r',Img w0 X k cX lk Y m cY lm 1 true f7 f9 f16 r' r7 r9 r16 a' w' → K a' w') : wpOp Tryz.prog ops Q 6 K a w := by
 obtain ⟨o,h1,h2,h3,h4⟩ := hO.o6
 obtain ⟨hr1,hr2,A,c,e1,ho,hA⟩ := h.i0 rfl
 have hs := h.bel.size
 refine reg_op h1 (wanted_none h3) (wp_append8 w _ _ 22 h4 w0.heap.size 5 Tryz.underlying22 isByte A _ c _ e1 ho _ _ _ _ h.e11 (hS.x.below h.bel) (by have := hS.k; have := hS.m; simp [n0,n9]; try omega) hs ?_)
 intro A' c' w' ho' hB hg hor
 rw [hA] at hg hor
 have hF := grown_fr hB hg
 have hB2 := h.bel.trans hB
 rw [h2]
 obtain ⟨r',hr'⟩ : ∃ r',A'.map (·.block) = some r' := by rcases hor with e | e; exact ⟨_,e⟩; exact ⟨_,e⟩
 have hr'' : r' = r0 ∨ r' = w.heap.size := by rcases hor with e | e <;> rw [hr'] at e <;> cases e; exact .inl rfl; exact .inr rfl
 have hlt : w0.heap.size ≤ r' ∧ r' < w'.heap.size := by rcases ho'.cases with ⟨e,_⟩ | ⟨g,e,e2,e3,_⟩ <;> rw [e] at hr' <;> cases hr'; exact ⟨e2,e3⟩
 have ez : n0 k 0 + k = k := Nat.zero_add _
 rw [ez] at ho' ⊢
 have hn : ∀ v,((a.put (some 12) v).eval (.tmp 12)) = v := fun v => put_same a _ v (by have := h.sz; omega)
 refine hK _ _ r' ⟨hB2,(put_size _ _ _).trans h.sz,(put_df _ _ _).trans h.df,(eval_put (by decide)).trans h.e11,(eval_put (by decide)).trans h.e20,?_,?_,?_,?_,?_,?_,?_,?_,?_,?_⟩
 · exact fun _ => ⟨hlt.1,hlt.2,A',c',hn _,ho',hr'⟩
 · exact (h.i7.put (d := 12) (by decide) _).fr hF (fun e => (h.d07 rfl e).symm)
 · exact (h.i9.put (d := 12) (by decide) _).fr hF (fun e => (h.d09 rfl e).symm)
 · exact (h.i16.put (d := 12) (by decide) _).fr hF (fun e => (h.d016 rfl e).symm)
 · exact fun _ e => by have h1 := h.i7.lt e; have h2 := h.d07 rfl e; omega
 · exact fun _ e => by have h1 := h.i9.lt e; have h2 := h.d09 rfl e; omega
 · exact fun _ e => by have h1 := h.i16.lt e; have h2 := h.d016 rfl e; omega
 · exact h.d79
 · exact h.d716
 · exact h.d916
theorem img_app8 (hO : ImgOps ops) (hS : Srcs w0 X k cX lk Y m cY lm) (h : Img w0 X k cX lk Y m cY lm 1 true true f9 f16 r0 r7 r9 r16 a w) (hK : ∀ a' w' r',Img w0 X k cX lk Y m cY lm 2 true true f9 f16 r' r7 r9 r16 a' w' → K a' w') : wpOp Tryz.prog ops Q 8 K a w := by
 obtain ⟨o,h1,h2,h3,h4⟩ := hO.o8
 obtain ⟨hr1,hr2,A,c,e1,ho,hA⟩ := h.i0 rfl
 obtain ⟨_,_,X1,cX1,e2,hoX,_⟩ := h.i7 rfl
 have hs := h.bel.size
 refine reg_op h1 (wanted_none h3) (wp_append8 w _ _ 22 h4 w0.heap.size 5 Tryz.underlying22 isByte A _ c _ e1 ho _ _ _ _ e2 hoX.rd (by have := hS.k; have := hS.m; simp [n0,n9]; try omega) hs ?_)
 intro A' c' w' ho' hB hg hor
 rw [hA] at hg hor
 have hF := grown_fr hB hg
 have hB2 := h.bel.trans hB
 rw [h2]
 obtain ⟨r',hr'⟩ : ∃ r',A'.map (·.block) = some r' := by rcases hor with e | e; exact ⟨_,e⟩; exact ⟨_,e⟩
 have hr'' : r' = r0 ∨ r' = w.heap.size := by rcases hor with e | e <;> rw [hr'] at e <;> cases e; exact .inl rfl; exact .inr rfl
 have hlt : w0.heap.size ≤ r' ∧ r' < w'.heap.size := by rcases ho'.cases with ⟨e,_⟩ | ⟨g,e,e2,e3,_⟩ <;> rw [e] at hr' <;> cases hr'; exact ⟨e2,e3⟩
 have hn : ∀ v,((a.put (some 14) v).eval (.tmp 14)) = v := fun v => put_same a _ v (by have := h.sz; omega)
 refine hK _ _ r' ⟨hB2,(put_size _ _ _).trans h.sz,(put_df _ _ _).trans h.df,(eval_put (by decide)).trans h.e11,(eval_put (by decide)).trans h.e20,?_,?_,?_,?_,?_,?_,?_,?_,?_,?_⟩
 · exact fun _ => ⟨hlt.1,hlt.2,A',c',hn _,ho',hr'⟩
 · exact (h.i7.put (d := 14) (by decide) _).fr hF (fun e => (h.d07 rfl e).symm)
 · exact (h.i9.put (d := 14) (by decide) _).fr hF (fun e => (h.d09 rfl e).symm)
 · exact (h.i16.put (d := 14) (by decide) _).fr hF (fun e => (h.d016 rfl e).symm)
 · exact fun _ e => by have h1 := h.i7.lt e; have h2 := h.d07 rfl e; omega
 · exact fun _ e => by have h1 := h.i9.lt e; have h2 := h.d09 rfl e; omega
 · exact fun _ e => by have h1 := h.i16.lt e; have h2 := h.d016 rfl e; omega
 · exact h.d79
 · exact h.d716
 · exact h.d916
theorem img_app15 (hO : ImgOps ops) (hS : Srcs w0 X k cX lk Y m cY lm) (h : Img w0 X k cX lk Y m cY lm 2 f0 f7 true f16 r0 r7 r9 r16 a w) (hK : ∀ a' w' r',Img w0 X k cX lk Y m cY lm 3 f0 f7 true f16 r0 r7 r' r16 a' w' → K a' w') : wpOp Tryz.prog ops Q 15 K a w := by
 obtain ⟨o,h1,h2,h3,h4⟩ := hO.o15
 obtain ⟨hr1,hr2,A,c,e1,ho,hA⟩ := h.i9 rfl
 have hs := h.bel.size
 refine reg_op h1 (wanted_none h3) (wp_append8 w _ _ 22 h4 w0.heap.size 5 Tryz.underlying22 isByte A _ c _ e1 ho _ _ _ _ h.e20 (hS.y.below h.bel) (by have := hS.k; have := hS.m; simp [n0,n9]; try omega) hs ?_)
 intro A' c' w' ho' hB hg hor
 rw [hA] at hg hor
 have hF := grown_fr hB hg
 have hB2 := h.bel.trans hB
 rw [h2]
 obtain ⟨r',hr'⟩ : ∃ r',A'.map (·.block) = some r' := by rcases hor with e | e; exact ⟨_,e⟩; exact ⟨_,e⟩
 have hr'' : r' = r9 ∨ r' = w.heap.size := by rcases hor with e | e <;> rw [hr'] at e <;> cases e; exact .inl rfl; exact .inr rfl
 have hlt : w0.heap.size ≤ r' ∧ r' < w'.heap.size := by rcases ho'.cases with ⟨e,_⟩ | ⟨g,e,e2,e3,_⟩ <;> rw [e] at hr' <;> cases hr'; exact ⟨e2,e3⟩
 have ez : n9 m 2 + m = m := Nat.zero_add _
 rw [ez] at ho' ⊢
 have hn : ∀ v,((a.put (some 21) v).eval (.tmp 21)) = v := fun v => put_same a _ v (by have := h.sz; omega)
 refine hK _ _ r' ⟨hB2,(put_size _ _ _).trans h.sz,(put_df _ _ _).trans h.df,(eval_put (by decide)).trans h.e11,(eval_put (by decide)).trans h.e20,?_,?_,?_,?_,?_,?_,?_,?_,?_,?_⟩
 · exact (h.i0.put (d := 21) (by decide) _).fr hF (fun e => (h.d09 e rfl))
 · exact (h.i7.put (d := 21) (by decide) _).fr hF (fun e => (h.d79 e rfl))
 · exact fun _ => ⟨hlt.1,hlt.2,A',c',hn _,ho',hr'⟩
 · exact (h.i16.put (d := 21) (by decide) _).fr hF (fun e => (h.d916 rfl e).symm)
 · exact h.d07
 · exact fun e _ => by have h1 := h.i0.lt e; have h2 := h.d09 e rfl; omega
 · exact h.d016
 · exact fun e _ => by have h1 := h.i7.lt e; have h2 := h.d79 e rfl; omega
 · exact h.d716
 · exact fun _ e => by have h1 := h.i16.lt e; have h2 := h.d916 rfl e; omega
theorem img_app17 (hO : ImgOps ops) (hS : Srcs w0 X k cX lk Y m cY lm) (h : Img w0 X k cX lk Y m cY lm 3 f0 f7 true true r0 r7 r9 r16 a w) (hK : ∀ a' w' r',Img w0 X k cX lk Y m cY lm 4 f0 f7 true true r0 r7 r' r16 a' w' → K a' w') : wpOp Tryz.prog ops Q 17 K a w := by
 obtain ⟨o,h1,h2,h3,h4⟩ := hO.o17
 obtain ⟨hr1,hr2,A,c,e1,ho,hA⟩ := h.i9 rfl
 obtain ⟨_,_,X1,cX1,e2,hoX,_⟩ := h.i16 rfl
 have hs := h.bel.size
 refine reg_op h1 (wanted_none h3) (wp_append8 w _ _ 22 h4 w0.heap.size 5 Tryz.underlying22 isByte A _ c _ e1 ho _ _ _ _ e2 hoX.rd (by have := hS.k; have := hS.m; simp [n0,n9]; try omega) hs ?_)
 intro A' c' w' ho' hB hg hor
 rw [hA] at hg hor
 have hF := grown_fr hB hg
 have hB2 := h.bel.trans hB
 rw [h2]
 obtain ⟨r',hr'⟩ : ∃ r',A'.map (·.block) = some r' := by rcases hor with e | e; exact ⟨_,e⟩; exact ⟨_,e⟩
 have hr'' : r' = r9 ∨ r' = w.heap.size := by rcases hor with e | e <;> rw [hr'] at e <;> cases e; exact .inl rfl; exact .inr rfl
 have hlt : w0.heap.size ≤ r' ∧ r' < w'.heap.size := by rcases ho'.cases with ⟨e,_⟩ | ⟨g,e,e2,e3,_⟩ <;> rw [e] at hr' <;> cases hr'; exact ⟨e2,e3⟩
 have hn : ∀ v,((a.put (some 23) v).eval (.tmp 23)) = v := fun v => put_same a _ v (by have := h.sz; omega)
 refine hK _ _ r' ⟨hB2,(put_size _ _ _).trans h.sz,(put_df _ _ _).trans h.df,(eval_put (by decide)).trans h.e11,(eval_put (by decide)).trans h.e20,?_,?_,?_,?_,?_,?_,?_,?_,?_,?_⟩
 · exact (h.i0.put (d := 23) (by decide) _).fr hF (fun e => (h.d09 e rfl))
 · exact (h.i7.put (d := 23) (by decide) _).fr hF (fun e => (h.d79 e rfl))
 · exact fun _ => ⟨hlt.1,hlt.2,A',c',hn _,ho',hr'⟩
 · exact (h.i16.put (d := 23) (by decide) _).fr hF (fun e => (h.d916 rfl e).symm)
 · exact h.d07
 · exact fun e _ => by have h1 := h.i0.lt e; have h2 := h.d09 e rfl; omega
 · exact h.d016
 · exact fun e _ => by have h1 := h.i7.lt e; have h2 := h.d79 e rfl; omega
 · exact h.d716
 · exact fun _ e => by have h1 := h.i16.lt e; have h2 := h.d916 rfl e; omega
def lb (n : Nat) : Array Bool := ((List.range 20).map fun i => n.testBit i).toArray
def imgTab : List (Nat × List Nat) := [(31806,[0,7,9,16]),(97342,[0,7,9]),(32318,[0,7,16]),(97854,[0,7]),(31934,[0,9,16]),(97470,[0,9]),(32446,[0,16]),(97982,[0]),(31807,[6,7,9,16]),(97343,[6,7,9]),(32319,[6,7,16]),(97855,[6,7]),(31935,[6,9,16]),(97471,[6,9]),(32447,[6,16]),(97983,[6]),(31871,[7,9,16]),(97407,[7,9]),(32383,[7,16]),(97919,[7]),(31999,[8,9,16]),(97535,[8,9]),(32511,[8,16]),(98047,[8]),(32255,[9,16]),(97791,[9]),(32767,[15,16]),(98303,[15]),(65535,[16]),(131071,[17])]
theorem img_states (hO : ImgOps ops) (hS : Srcs w0 X k cX lk Y m cY lm) (hT : imgTab.all (fun x => Region.ready .any ops (lb x.1) == x.2) = true)
   (hfin : ∀ r0 r7 r9 r16 a w,Img w0 X k cX lk Y m cY lm 4 true true true true r0 r7 r9 r16 a w → wpAnyH Tryz.prog .any ops Q (fun _ => True) 2 (lb 262143) a w) :
   ∀ r0 r7 r9 r16 a w,Img w0 X k cX lk Y m cY lm 0 false false false false r0 r7 r9 r16 a w → wpAnyH Tryz.prog .any ops Q (fun _ => True) 10 (lb 31806) a w := by
 have hR : ∀ {l rs},(l,rs) ∈ imgTab → Region.ready .any ops (lb l) = rs := fun hx => by have := List.all_eq_true.1 hT _ hx; exact eq_of_beq this
 let St := fun (p : Nat) (f0 f7 f9 f16 : Bool) (n l : Nat) => ∀ r0 r7 r9 r16 a w,Img w0 X k cX lk Y m cY lm p f0 f7 f9 f16 r0 r7 r9 r16 a w → wpAnyH Tryz.prog .any ops Q (fun _ => True) n (lb l) a w
 have nx : ∀ {i l l' n p f0 f7 f9 f16 r0 r7 r9 r16},(lb l).setIfInBounds i true = lb l' → St p f0 f7 f9 f16 n l' → ∀ a w,Img w0 X k cX lk Y m cY lm p f0 f7 f9 f16 r0 r7 r9 r16 a w → True ∧ wpAnyH Tryz.prog .any ops Q (fun _ => True) n ((lb l).setIfInBounds i true) a w := fun e s a w h => ⟨trivial,by rw [e]; exact s _ _ _ _ a w h⟩
 have go : ∀ (j : Nat) {l rs n a w},imgTab[j]? = some (l,rs) → rs ≠ [] → (∀ i ∈ rs,wpOp Tryz.prog ops Q i (fun a' w' => True ∧ wpAnyH Tryz.prog .any ops Q (fun _ => True) n ((lb l).setIfInBounds i true) a' w') a w) → wpAnyH Tryz.prog .any ops Q (fun _ => True) (n + 1) (lb l) a w := fun _ _ _ _ _ _ h1 h2 h3 => wpAnyH_all (hR (List.mem_of_getElem? h1)) h2 h3
 have s41111 : St 4 true true true true 2 262143 := hfin
 have s31111 : St 3 true true true true 3 131071 := fun _ _ _ _ _ _ h => go 29 (rs := [17]) rfl (by simp) (by
   simp only [List.forall_mem_cons]
   exact ⟨img_app17 hO hS h (fun a w _ => nx (by kernel_rfl) s41111 a w),fun _ h => by cases h⟩)
 have s21111 : St 2 true true true true 4 98303 := fun _ _ _ _ _ _ h => go 27 (rs := [15]) rfl (by simp) (by
   simp only [List.forall_mem_cons]
   exact ⟨img_app15 hO hS h (fun a w _ => nx (by kernel_rfl) s31111 a w),fun _ h => by cases h⟩)
 have s31110 : St 3 true true true false 4 65535 := fun _ _ _ _ _ _ h => go 28 (rs := [16]) rfl (by simp) (by
   simp only [List.forall_mem_cons]
   exact ⟨img_new16 hO (by omega) h (nx (by kernel_rfl) s31111),fun _ h => by cases h⟩)
 have s11111 : St 1 true true true true 5 98047 := fun _ _ _ _ _ _ h => go 23 (rs := [8]) rfl (by simp) (by
   simp only [List.forall_mem_cons]
   exact ⟨img_app8 hO hS h (fun a w _ => nx (by kernel_rfl) s21111 a w),fun _ h => by cases h⟩)
 have s21101 : St 2 true true false true 5 97791 := fun _ _ _ _ _ _ h => go 25 (rs := [9]) rfl (by simp) (by
   simp only [List.forall_mem_cons]
   exact ⟨img_new9 hO (by omega) h (nx (by kernel_rfl) s21111),fun _ h => by cases h⟩)
 have s21110 : St 2 true true true false 5 32767 := fun _ _ _ _ _ _ h => go 26 (rs := [15,16]) rfl (by simp) (by
   simp only [List.forall_mem_cons]
   exact ⟨img_app15 hO hS h (fun a w _ => nx (by kernel_rfl) s31110 a w),img_new16 hO (by omega) h (nx (by kernel_rfl) s21111),fun _ h => by cases h⟩)
 have s01111 : St 0 true true true true 6 97983 := fun _ _ _ _ _ _ h => go 15 (rs := [6]) rfl (by simp) (by
   simp only [List.forall_mem_cons]
   exact ⟨img_app6 hO hS h (fun a w _ => nx (by kernel_rfl) s11111 a w),fun _ h => by cases h⟩)
 have s11011 : St 1 true false true true 6 97919 := fun _ _ _ _ _ _ h => go 19 (rs := [7]) rfl (by simp) (by
   simp only [List.forall_mem_cons]
   exact ⟨img_new7 hO (by omega) h (nx (by kernel_rfl) s11111),fun _ h => by cases h⟩)
 have s11101 : St 1 true true false true 6 97535 := fun _ _ _ _ _ _ h => go 21 (rs := [8,9]) rfl (by simp) (by
   simp only [List.forall_mem_cons]
   exact ⟨img_app8 hO hS h (fun a w _ => nx (by kernel_rfl) s21101 a w),img_new9 hO (by omega) h (nx (by kernel_rfl) s11111),fun _ h => by cases h⟩)
 have s11110 : St 1 true true true false 6 32511 := fun _ _ _ _ _ _ h => go 22 (rs := [8,16]) rfl (by simp) (by
   simp only [List.forall_mem_cons]
   exact ⟨img_app8 hO hS h (fun a w _ => nx (by kernel_rfl) s21110 a w),img_new16 hO (by omega) h (nx (by kernel_rfl) s11111),fun _ h => by cases h⟩)
 have s21100 : St 2 true true false false 6 32255 := fun _ _ _ _ _ _ h => go 24 (rs := [9,16]) rfl (by simp) (by
   simp only [List.forall_mem_cons]
   exact ⟨img_new9 hO (by omega) h (nx (by kernel_rfl) s21110),img_new16 hO (by omega) h (nx (by kernel_rfl) s21101),fun _ h => by cases h⟩)
 have s00111 : St 0 false true true true 7 97982 := fun _ _ _ _ _ _ h => go 7 (rs := [0]) rfl (by simp) (by
   simp only [List.forall_mem_cons]
   exact ⟨img_new0 hO h (nx (by kernel_rfl) s01111),fun _ h => by cases h⟩)
 have s01011 : St 0 true false true true 7 97855 := fun _ _ _ _ _ _ h => go 11 (rs := [6,7]) rfl (by simp) (by
   simp only [List.forall_mem_cons]
   exact ⟨img_app6 hO hS h (fun a w _ => nx (by kernel_rfl) s11011 a w),img_new7 hO (by omega) h (nx (by kernel_rfl) s01111),fun _ h => by cases h⟩)
 have s01101 : St 0 true true false true 7 97471 := fun _ _ _ _ _ _ h => go 13 (rs := [6,9]) rfl (by simp) (by
   simp only [List.forall_mem_cons]
   exact ⟨img_app6 hO hS h (fun a w _ => nx (by kernel_rfl) s11101 a w),img_new9 hO (by omega) h (nx (by kernel_rfl) s01111),fun _ h => by cases h⟩)
 have s01110 : St 0 true true true false 7 32447 := fun _ _ _ _ _ _ h => go 14 (rs := [6,16]) rfl (by simp) (by
   simp only [List.forall_mem_cons]
   exact ⟨img_app6 hO hS h (fun a w _ => nx (by kernel_rfl) s11110 a w),img_new16 hO (by omega) h (nx (by kernel_rfl) s01111),fun _ h => by cases h⟩)
 have s11001 : St 1 true false false true 7 97407 := fun _ _ _ _ _ _ h => go 17 (rs := [7,9]) rfl (by simp) (by
   simp only [List.forall_mem_cons]
   exact ⟨img_new7 hO (by omega) h (nx (by kernel_rfl) s11101),img_new9 hO (by omega) h (nx (by kernel_rfl) s11011),fun _ h => by cases h⟩)
 have s11010 : St 1 true false true false 7 32383 := fun _ _ _ _ _ _ h => go 18 (rs := [7,16]) rfl (by simp) (by
   simp only [List.forall_mem_cons]
   exact ⟨img_new7 hO (by omega) h (nx (by kernel_rfl) s11110),img_new16 hO (by omega) h (nx (by kernel_rfl) s11011),fun _ h => by cases h⟩)
 have s11100 : St 1 true true false false 7 31999 := fun _ _ _ _ _ _ h => go 20 (rs := [8,9,16]) rfl (by simp) (by
   simp only [List.forall_mem_cons]
   exact ⟨img_app8 hO hS h (fun a w _ => nx (by kernel_rfl) s21100 a w),img_new9 hO (by omega) h (nx (by kernel_rfl) s11110),img_new16 hO (by omega) h (nx (by kernel_rfl) s11101),fun _ h => by cases h⟩)
 have s00011 : St 0 false false true true 8 97854 := fun _ _ _ _ _ _ h => go 3 (rs := [0,7]) rfl (by simp) (by
   simp only [List.forall_mem_cons]
   exact ⟨img_new0 hO h (nx (by kernel_rfl) s01011),img_new7 hO (by omega) h (nx (by kernel_rfl) s00111),fun _ h => by cases h⟩)
 have s00101 : St 0 false true false true 8 97470 := fun _ _ _ _ _ _ h => go 5 (rs := [0,9]) rfl (by simp) (by
   simp only [List.forall_mem_cons]
   exact ⟨img_new0 hO h (nx (by kernel_rfl) s01101),img_new9 hO (by omega) h (nx (by kernel_rfl) s00111),fun _ h => by cases h⟩)
 have s00110 : St 0 false true true false 8 32446 := fun _ _ _ _ _ _ h => go 6 (rs := [0,16]) rfl (by simp) (by
   simp only [List.forall_mem_cons]
   exact ⟨img_new0 hO h (nx (by kernel_rfl) s01110),img_new16 hO (by omega) h (nx (by kernel_rfl) s00111),fun _ h => by cases h⟩)
 have s01001 : St 0 true false false true 8 97343 := fun _ _ _ _ _ _ h => go 9 (rs := [6,7,9]) rfl (by simp) (by
   simp only [List.forall_mem_cons]
   exact ⟨img_app6 hO hS h (fun a w _ => nx (by kernel_rfl) s11001 a w),img_new7 hO (by omega) h (nx (by kernel_rfl) s01101),img_new9 hO (by omega) h (nx (by kernel_rfl) s01011),fun _ h => by cases h⟩)
 have s01010 : St 0 true false true false 8 32319 := fun _ _ _ _ _ _ h => go 10 (rs := [6,7,16]) rfl (by simp) (by
   simp only [List.forall_mem_cons]
   exact ⟨img_app6 hO hS h (fun a w _ => nx (by kernel_rfl) s11010 a w),img_new7 hO (by omega) h (nx (by kernel_rfl) s01110),img_new16 hO (by omega) h (nx (by kernel_rfl) s01011),fun _ h => by cases h⟩)
 have s01100 : St 0 true true false false 8 31935 := fun _ _ _ _ _ _ h => go 12 (rs := [6,9,16]) rfl (by simp) (by
   simp only [List.forall_mem_cons]
   exact ⟨img_app6 hO hS h (fun a w _ => nx (by kernel_rfl) s11100 a w),img_new9 hO (by omega) h (nx (by kernel_rfl) s01110),img_new16 hO (by omega) h (nx (by kernel_rfl) s01101),fun _ h => by cases h⟩)
 have s11000 : St 1 true false false false 8 31871 := fun _ _ _ _ _ _ h => go 16 (rs := [7,9,16]) rfl (by simp) (by
   simp only [List.forall_mem_cons]
   exact ⟨img_new7 hO (by omega) h (nx (by kernel_rfl) s11100),img_new9 hO (by omega) h (nx (by kernel_rfl) s11010),img_new16 hO (by omega) h (nx (by kernel_rfl) s11001),fun _ h => by cases h⟩)
 have s00001 : St 0 false false false true 9 97342 := fun _ _ _ _ _ _ h => go 1 (rs := [0,7,9]) rfl (by simp) (by
   simp only [List.forall_mem_cons]
   exact ⟨img_new0 hO h (nx (by kernel_rfl) s01001),img_new7 hO (by omega) h (nx (by kernel_rfl) s00101),img_new9 hO (by omega) h (nx (by kernel_rfl) s00011),fun _ h => by cases h⟩)
 have s00010 : St 0 false false true false 9 32318 := fun _ _ _ _ _ _ h => go 2 (rs := [0,7,16]) rfl (by simp) (by
   simp only [List.forall_mem_cons]
   exact ⟨img_new0 hO h (nx (by kernel_rfl) s01010),img_new7 hO (by omega) h (nx (by kernel_rfl) s00110),img_new16 hO (by omega) h (nx (by kernel_rfl) s00011),fun _ h => by cases h⟩)
 have s00100 : St 0 false true false false 9 31934 := fun _ _ _ _ _ _ h => go 4 (rs := [0,9,16]) rfl (by simp) (by
   simp only [List.forall_mem_cons]
   exact ⟨img_new0 hO h (nx (by kernel_rfl) s01100),img_new9 hO (by omega) h (nx (by kernel_rfl) s00110),img_new16 hO (by omega) h (nx (by kernel_rfl) s00101),fun _ h => by cases h⟩)
 have s01000 : St 0 true false false false 9 31807 := fun _ _ _ _ _ _ h => go 8 (rs := [6,7,9,16]) rfl (by simp) (by
   simp only [List.forall_mem_cons]
   exact ⟨img_app6 hO hS h (fun a w _ => nx (by kernel_rfl) s11000 a w),img_new7 hO (by omega) h (nx (by kernel_rfl) s01100),img_new9 hO (by omega) h (nx (by kernel_rfl) s01010),img_new16 hO (by omega) h (nx (by kernel_rfl) s01001),fun _ h => by cases h⟩)
 have s00000 : St 0 false false false false 10 31806 := fun _ _ _ _ _ _ h => go 0 (rs := [0,7,9,16]) rfl (by simp) (by
   simp only [List.forall_mem_cons]
   exact ⟨img_new0 hO h (nx (by kernel_rfl) s01000),img_new7 hO (by omega) h (nx (by kernel_rfl) s00100),img_new9 hO (by omega) h (nx (by kernel_rfl) s00010),img_new16 hO (by omega) h (nx (by kernel_rfl) s00001),fun _ h => by cases h⟩)
 exact s00000
end
theorem exec_min {ρ : Operand → Value} {o : Oper} (x y : Operand) (n c : Nat) (hop : o.op = .call { callee := .builtin .min,args := #[x,y],argTypes := #[3,3] }) (hx : ρ x = .int .i64 (n : Int)) (hy : ρ y = .int .i64 (c : Int)) (w : World) :
   (execOp ρ o).run Tryz.prog w = .ok (.value (.int .i64 ((min n c : Nat) : Int))) w := by
 have e : ((min n c : Nat) : Int) = min (n : Int) (c : Int) := by omega
 unfold execOp
 simp only [hop,resolve,invoke,builtin,Sem.run_bind,Sem.run_pure,Result.andThen_ok,List.map_toArray,List.map_cons,List.map_nil,hx,hy,Lib.run_min_ints,e]
theorem results_two {P : Program} {fn : Func} {p q : Tmp} (h : fn.results = #[.tmp p,.tmp q]) (tmps : Array Value) (w : World) (v u : Value)
   (hp : tmps.getD p undef = v) (hq : tmps.getD q undef = u) : (results fn tmps).run P w = .ok (.tuple #[v,u]) w := by
 have hp' : tmps[p]?.getD undef = v := by simpa using hp
 have hq' : tmps[q]?.getD undef = u := by simpa using hq
 simp [results,h,hp',hq']
theorem images_any (X Y : Option Addr) (n cX m cY : Nat) (la lb : List UInt8) (w : World) (hx : Rd w X n cX la) (hy : Rd w Y m cY lb) :
   Calls Tryz.prog 5 #[.slice X n cX,.slice Y m cY] w fun e w' => ∃ A c v,e = .returned (.tuple #[.slice A (imgOf la 1).length c,v]) ∧ Own w' w.heap.size 5 A (imgOf la 1).length c (imgOf la 1) ∧ Below w.heap.size w w' := by
 obtain ⟨k,hk⟩ : ∃ k,min n 60 = k := ⟨_,rfl⟩
 obtain ⟨j,hj⟩ : ∃ j,min m 60 = j := ⟨_,rfl⟩
 have hxk := hx.hi (k := k) (by omega)
 have hyj := hy.hi (k := j) (by omega)
 have hcx := hx.2.1
 have hcy := hy.2.1
 have hl : la.take k = la.take 60 := by
   have := hx.1
   subst hk
   by_cases h : n ≤ 60
   · rw [Nat.min_eq_left h,List.take_of_length_le (by omega),List.take_of_length_le (by omega)]
   · rw [Nat.min_eq_right (by omega)]
 have hil : (imgOf la 1).length = k + 1 := by
   have := hx.1
   unfold imgOf
   rw [← hl]
   simp
   omega
 unfold imgOf at hil ⊢
 rw [hil]
 rw [← hl]
 generalize la.take k = lk at *
 generalize lb.take j = lj at *
 have hS : Srcs w X k cX lk Y j cY lj := ⟨hxk,hyj,by omega,by omega⟩
 go_enter Tryz.func5,Tryz.ntmps5
 go_upto_region 1 with fail
 refine wp_region_noPanic ?_
 refine wp_region_held_drew (S := fun _ => True) (by kernel_rfl) trivial (fun _ => ?_)
 refine reg_take 1 (some 7) (.slice X n cX) rfl rfl (by kernel_rfl) (by kernel_rfl) (by kernel_rfl) (fun _ _ _ _ h => h) (by kernel_rfl) (fun w _ => by kernel_rfl) trivial ?_
 refine reg_take 2 (some 8) (.slice X n cX) rfl rfl (by kernel_rfl) (by kernel_rfl) (by kernel_rfl) (fun _ _ _ _ h => h) (by kernel_rfl) (fun w _ => by kernel_rfl) trivial ?_
 refine reg_take 3 (some 9) (.int .i64 (n : Int)) rfl rfl (by kernel_rfl) (by kernel_rfl) (by kernel_rfl) (fun _ _ _ _ h => h) (by kernel_rfl) (fun w _ => by kernel_rfl) trivial ?_
 refine reg_take 4 (some 10) (.int .i64 (k : Int)) rfl rfl (by kernel_rfl) (by kernel_rfl) (by kernel_rfl) (fun _ _ _ _ h => h) (by kernel_rfl) (fun w _ => by rw [← hk]; exact exec_min (.tmp 9) (.const (.int .i64 60)) n 60 rfl (by kernel_rfl) rfl w) trivial ?_
 refine reg_take 5 (some 11) (.slice X k cX) rfl rfl (by kernel_rfl) (by kernel_rfl) (by kernel_rfl) (fun _ _ _ _ h => h) (by kernel_rfl) (fun w _ => exec_cut (.tmp 7) (.tmp 10) X n k cX rfl (by kernel_rfl) (by kernel_rfl) (by omega) w) trivial ?_
 refine reg_take 10 (some 16) (.slice Y m cY) rfl rfl (by kernel_rfl) (by kernel_rfl) (by kernel_rfl) (fun _ _ _ _ h => h) (by kernel_rfl) (fun w _ => by kernel_rfl) trivial ?_
 refine reg_take 11 (some 17) (.slice Y m cY) rfl rfl (by kernel_rfl) (by kernel_rfl) (by kernel_rfl) (fun _ _ _ _ h => h) (by kernel_rfl) (fun w _ => by kernel_rfl) trivial ?_
 refine reg_take 12 (some 18) (.int .i64 (m : Int)) rfl rfl (by kernel_rfl) (by kernel_rfl) (by kernel_rfl) (fun _ _ _ _ h => h) (by kernel_rfl) (fun w _ => by kernel_rfl) trivial ?_
 refine reg_take 13 (some 19) (.int .i64 (j : Int)) rfl rfl (by kernel_rfl) (by kernel_rfl) (by kernel_rfl) (fun _ _ _ _ h => h) (by kernel_rfl) (fun w _ => by rw [← hj]; exact exec_min (.tmp 18) (.const (.int .i64 60)) m 60 rfl (by kernel_rfl) rfl w) trivial ?_
 refine reg_take 14 (some 20) (.slice Y j cY) rfl rfl (by kernel_rfl) (by kernel_rfl) (by kernel_rfl) (fun _ _ _ _ h => h) (by kernel_rfl) (fun w _ => exec_cut (.tmp 16) (.tmp 19) Y m j cY rfl (by kernel_rfl) (by kernel_rfl) (by omega) w) trivial ?_
 refine reg_listed (by kernel_rfl) (by kernel_rfl) (img_states (w0 := w) (X := X) (k := k) (cX := cX) (lk := lk) (Y := Y) (m := j) (cY := cY) (lm := lj) ?hO hS (by kernel_rfl) ?hfin 0 0 0 0 _ _ ?h0)
 case hO => exact ⟨⟨_,rfl,rfl,rfl,fun _ _ => by kernel_rfl⟩,⟨_,rfl,rfl,rfl,fun _ _ => by kernel_rfl⟩,⟨_,rfl,rfl,rfl,fun _ _ => by kernel_rfl⟩,⟨_,rfl,rfl,rfl,fun _ _ => by kernel_rfl⟩,⟨_,rfl,rfl,rfl,rfl⟩,⟨_,rfl,rfl,rfl,rfl⟩,⟨_,rfl,rfl,rfl,rfl⟩,⟨_,rfl,rfl,rfl,rfl⟩⟩
 case h0 => exact ⟨(Below.refl _ _).drew,by kernel_rfl,by kernel_rfl,by kernel_rfl,by kernel_rfl,Itm.no,Itm.no,Itm.no,Itm.no,(fun h => by cases h),(fun h => by cases h),(fun h => by cases h),(fun h => by cases h),(fun h => by cases h),(fun h => by cases h)⟩
 case hfin =>
   intro r0 r7 r9 r16 a w1 h
   obtain ⟨_,_,A,c,e0,ho,_⟩ := h.i0 rfl
   obtain ⟨_,_,B,d,e9,_,_⟩ := h.i9 rfl
   have e0' : a.eval (.tmp 14) = .slice A (k + 1 : Nat) c := e0
   have ho' : Own w1 w.heap.size 5 A (k + 1) c (lk ++ [1]) := ho
   have e9' : a.eval (.tmp 23) = .slice B (j + 1 : Nat) d := e9
   have hB := h.bel
   have hsz := h.sz
   have hdf := h.df
   clear h hx hy hxk hyj hS
   refine reg_take 18 (some 4) (.slice A (k + 1 : Nat) c) rfl rfl (by kernel_rfl) (by kernel_rfl) (by kernel_rfl) (fun _ _ _ _ h => h) (wanted_none rfl) (fun w _ => by rw [← e0']; kernel_rfl) trivial ?_
   refine reg_take 19 (some 5) (.slice B (j + 1 : Nat) d) rfl rfl (by kernel_rfl) (by kernel_rfl) (by kernel_rfl) (fun _ _ _ _ h => h) (wanted_none rfl) (fun w _ => by rw [← e9',← eval_put (a := a) (d := 4) (sl := 23) (v := .slice A (k + 1 : Nat) c) (by decide)]; kernel_rfl) trivial ?_
   refine wpAnyH_done (by kernel_rfl) (NoPanic.normal ?_) _
   go_wp2_with fail
   have h5 : (((a.put (some 4) (.slice A (k + 1 : Nat) c)).put (some 5) (.slice B (j + 1 : Nat) d))).eval (.tmp 5) = .slice B (j + 1 : Nat) d := put_same _ _ _ (by rw [put_size]; omega)
   have h4 : (((a.put (some 4) (.slice A (k + 1 : Nat) c)).put (some 5) (.slice B (j + 1 : Nat) d))).eval (.tmp 4) = .slice A (k + 1 : Nat) c := (eval_put (by decide)).trans (put_same _ _ _ (by omega))
   refine bodyPost_ret (results_two Tryz.results5 _ _ _ _ h4 h5) ((put_df _ _ _).trans ((put_df _ _ _).trans hdf)) ?_
   exact ⟨_,_,_,rfl,ho',hB⟩
theorem awI_new {B u : Nat} {w1 w2 w3 w4 : World} {d g : Nat} (hB1 : 1 < B) (hB : B ≤ w1.heap.size) (hc : CarS (fun b => b < B) w1 g keyL 9#32 4#32 1 2 4 rainL) (hb12 : Below w1.heap.size w1 w2) (hb23 : Below w2.heap.size w2 w3)
   (hd : OffD (Mine w2 w3) w3 d (offQ 0#32 0#32 1#32 3 (sha sunL)) 1 sunL) (hb34 : Below w3.heap.size w3 w4) (hu : w3.heap.size ≤ u) (hu2 : u < w4.heap.size) : AwI (fun b => b < B ∨ b = u) w4 d g [] := by
 have hs2 := hb12.size
 have hs3 := hb23.size
 have hs4 := hb34.size
 refine ⟨Mine w2 w3,⟨fun b => (b < B ∨ b = u) ∨ Mine w2 w3 b,hc.step (.of (below_next (below_next hb12 hb23) hb34)) (fun b k => ?_),fun b k => .inr k,fun b k => ⟨.inl k,fun k2 => ?_⟩,fun b k => ?_⟩,.inl ⟨rfl,hd.below hb34⟩⟩
 · rcases k with (k | k) | k | k
   · exact .inl k
   · exact .inr (by omega)
   · exact .inl (by omega)
   · exact .inr (by omega)
 · rcases k2 with k2 | k2
   · exact k2
   · omega
 · rcases k with k | k
   · omega
   · have := hd.lt b k
     omega
theorem fr_base {B u : Nat} {base w w' : World} (hB : Below B base w) (hb : B ≤ w.heap.size) (hF : Fr (fun b => ¬ (b < B ∨ b = u)) w w') : Below B base w' :=
 hB.trans (hF.below hb fun g hg => Nat.le_of_not_lt fun k => hg (.inl k))
def idsC : Array Value := #[.int .u32 3,.int .u32 1,.int .u32 0]
theorem idsC_at : ∀ i,i < 3 → ∃ id : B32,([3#32,1#32,0#32] : List B32)[i]? = some id ∧ idsC[i]? = some (.int .u32 (V id)) := by
 intro i hi
 match i,hi with
 | 0,_ => exact ⟨3#32,rfl,rfl⟩
 | 1,_ => exact ⟨1#32,rfl,rfl⟩
 | 2,_ => exact ⟨0#32,rfl,rfl⟩
theorem awake_any (w : World) (hT : Tab64 w) : Calls Tryz.prog 9 #[] w fun e w' => e = .returned (.bool true) ∧ Below w.heap.size w w' := by
 have kc := fun (w : World) (C : Array Value) (n c : Nat) => Lib.run_convert_bytes_const (P := Tryz.prog) w 22 5 C n c Tryz.underlying22 Tryz.underlying5
 have hT1 : 1 < w.heap.size := World.block_lt_of_cell? w _ (hT 0 (by omega))
 go_enter Tryz.func9,Tryz.ntmps9
 go_wp2_with fail
 refine (key7_any w).mono ?_
 rintro e w1 ⟨kA,kc1,rfl,hk,hkf,hb1⟩
 have hs1 := hb1.size
 go_wp2_with fail
 refine (cnew_any (fun b => b < w.heap.size) kA 3 kc1 keyL 9#32 4#32 1 2 4 _ _ rainL _ (fun b k => ?_) (hk.below (below_alloc1 _ _)) (by omega) (Rd.newFr w1 5 _ _ (l := rainL) rfl (by decide)) rain_sess.man rain_sess.len (by omega) rain_sess.cn).mono ?_
 · simp; omega
 rintro e w2 ⟨g,rfl,hc,hgl,hb2⟩
 have hB2 : Below w.heap.size w w2 := below_next (below_next hb1 (below_alloc1 w1 _)) hb2
 have hs2 := hB2.size
 go_wp2_with fail
 refine (key7_any w2).mono ?_
 rintro e w3 ⟨kB,kc2,rfl,hk3,hkf3,hb3⟩
 go_wp2_with fail
 have hb3' := below_next hb3 (below_alloc1 w3 (.cells #[.int .u8 115,.int .u8 117,.int .u8 110] 5 (3,4)))
 refine (make_off kB kc2 _ _ _ (hk3.below (below_alloc1 _ _)) (Rd.newFr w3 5 _ _ (l := sunL) rfl (by decide)) (hT.below (below_next hB2 hb3'))).mono ?_
 rintro e w4 ⟨d,rfl,hd,hb4⟩
 have hd' := hd
 have hs3 := hb3'.size
 have hs4 := hb4.size
 have hB4 : Below w.heap.size w w4 := below_next (below_next hB2 hb3') hb4
 have hal := below_alloc1 w4 (.cells idsC 30)
 have hI0 : AwI (fun b => b < w.heap.size ∨ b = w4.heap.size) (w4.alloc (.cells idsC 30)) d g [] :=
   awI_new hT1 hs2 hc hb3' hb4 hd hal (Nat.le_refl _) (by simp)
 have hbk0 : Blk (w4.alloc (.cells idsC 30)) w4.heap.size idsC 30 := Blk.new _ _ _
 have hB5 := below_next hB4 hal
 have hsz5 : (w4.alloc (.cells idsC 30)).heap.size = w4.heap.size + 1 := by simp
 clear hd hd' hc hk hk3 hkf hkf3 hb1 hb2 hb3 hb4 hb3' hB2 hB4 hT hal hs1 hs3
 go_wp2_with fail
 change Code.wp _ _ _ _ (w4.alloc (.cells idsC 30))
 obtain ⟨u,hu⟩ : ∃ u,w4.heap.size = u := ⟨_,rfl⟩
 rw [hu] at hI0 hbk0 ⊢
 generalize w4.alloc (.cells idsC 30) = w5 at *
 have hsu : ((str sunL).toList == [115,117,110]) = true := by rw [str_toList]; rfl
 have hra : ((str rainL).toList == [114,97,105,110]) = true := by rw [str_toList]; rfl
 go_loopw [30] (fun v wr => ∃ i : Nat,i ≤ 3 ∧ v = .int .i64 (i : Int) ∧ AwI (fun b => b < w.heap.size ∨ b = u) wr d g (([3#32,1#32,0#32] : List B32).take i) ∧ Blk wr u idsC 30 ∧ Below w.heap.size w wr) (fun v _ => 3 - (intOf v).toNat)
 case atStart => exact ⟨0,by omega,rfl,hI0,hbk0,hB5⟩
 case round =>
   clear hI0 hbk0 hB5
   obtain ⟨i,hi,rfl,hI,hbk,hB⟩ := hrel
   have hs0 := hB.size
   by_cases hlt : i < 3
   · obtain ⟨id,hid,hcid⟩ := idsC_at i hlt
     have hcell : wr.cell? ⟨u,i,none⟩ = some (.int .u32 (V id)) := hbk.cell hcid
     have hput : Hid (([3#32,1#32,0#32] : List B32).take (i + 1) = ([3#32,1#32,0#32] : List B32).take i ++ [id]) := hide (by rw [List.take_add_one,hid]; rfl)
     have hpl : (([3#32,1#32,0#32] : List B32).take i).length < 3 := by rw [List.length_take]; omega
     have hlt' : (i : Int) < 3 := by omega
     have hi0 : (0 : Int) ≤ (i : Int) := by omega
     clear hid hcid
     go_wp2_with fail
     refine hI.first.mono ?_
     rintro e w6 ⟨A1,c1,rfl,hr1,hI1,hF1⟩
     go_wp2_with fail
     refine (hI1.packet A1 c1 hr1).mono ?_
     rintro e w7 ⟨r1,rfl,hO1,hF2⟩
     go_wp2_with fail
     refine (hO1.sym id).mono ?_
     rintro e w8 ⟨A2,c2,rfl,hr2,hO2,hF3⟩
     go_wp2_with fail
     refine (hO2.hear id hpl A2 c2 hr2).mono ?_
     rintro e w9 ⟨r2,rfl,hI3,hF4⟩
     have hF := hF1.trans (hF2.trans (hF3.trans hF4))
     rw [← hput.out] at hI3
     go_wp2_with fail
     go_roundw
     case rel => exact ⟨i + 1,by omega,by go_num,hI3,hbk.fr hF (fun k => k (.inr rfl)),fr_base hB hs0 hF⟩
     case measure => simp [intOf]; omega
   · obtain rfl : i = 3 := by omega
     have hO : AwO (fun b => b < w.heap.size ∨ b = u) wr d g [3#32,1#32,0#32] := hI.on (by decide)
     clear hI hbk
     go_wp2_with fail
     refine hO.running.mono ?_
     rintro e w6 ⟨A1,c1,rfl,hr1,hb6⟩
     have k1 := conv22 hr1
     have hO1 := hO.below hb6
     go_wp2_with fail
     refine (hO1.sym 2#32).mono ?_
     rintro e w7 ⟨A2,c2,rfl,hr2,hO2,hF7⟩
     go_wp2_with fail
     refine (hO2.last 2#32 (by intro j hj; match j,hj with | 0,_ | 1,_ | 2,_ | 3,_ => decide) A2 c2 hr2).mono ?_
     rintro e w8 ⟨r2,rfl,F',hT,hF8⟩
     have hB6 := below_next hB hb6
     have hB8 := fr_base hB6 hB6.size (hF7.trans hF8)
     go_wp2_with fail
     refine hT.running.mono ?_
     rintro e w9 ⟨A3,c3,rfl,hr3,hb9⟩
     have k3 := conv22 hr3
     have hB9 := below_next hB8 hb9
     go_wp2_with fail
     go_ret
     exact ⟨rfl,hB9⟩
end Go.Proofs.YtkkcpblfheplaaaGreatDoor
