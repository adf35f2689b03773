/- Contracts of functions that the laws of downpourtop reach, and plain facts; no condition beyond what each theorem states. -/
import Derived.Test.YtkkcpblfheplaaaGreatDoorMD08
import Derived.Test.YtkkcpblfheplaaaGreatDoorMS01
import Derived.Lib.TrailingZeros
import Derived.Laws.Bits64b
set_option maxRecDepth 100000
set_option maxHeartbeats 8000000
set_option linter.all false
namespace Go.Proofs.YtkkcpblfheplaaaGreatDoor
open Go.RowKit
section
variable {P : Program}
theorem z_parts {e : TypeId} {z : Value} {bytes : Nat} (h : IsZ P e z bytes) : ∃ i,P.info? e = some i ∧ i.zero = some z ∧ i.size = 1 ∧ i.bytes = bytes := by
 unfold IsZ at h
 cases hi : P.info? e with
 | none => rw [hi] at h; cases h
 | some i =>
   rw [hi] at h
   simp only [Option.map_some,Option.some.injEq,Prod.mk.injEq] at h
   exact ⟨i,rfl,h.1,h.2.1,h.2.2⟩
theorem run_appendV (w : World) (base : Nat) (t ty e : TypeId) (z : Value) (bytes : Nat) (ht : P.underlying t = some (.slice e)) (hi : IsZ P e z bytes) (hz : z.cells.size = 1) (hby : bytes ≤ 24)
   (A : Option Addr) (n c : Nat) (xs : List Value) (ho : w.ownsRow base e 1 (.slice A n c) n xs) (X : Addr) (m d : Nat) (news : List Value) (hm : news.length = m) (hm0 : 0 < m)
   (hc : ∀ j v,news[j]? = some v → w.cell? (X.add j) = some v) (h1 : ∀ v ∈ news,v.oneCell' = true) (hsz : n + m ≤ 1000000) (hbase : base ≤ w.heap.size) :
   ∃ A' c' w',(Builtin.append_ #[t,t] ty #[.slice A n c,.slice (some X) m d]).run P w = .ok (.slice A' (n + m) c') w' ∧ w'.ownsRow base e 1 (.slice A' (n + m) c') (n + m) (xs ++ news) ∧ Below base w w' ∧
     w.grownBy w' (A.map (·.block)) ∧ (A'.map (·.block) = A.map (·.block) ∨ A'.map (·.block) = some w.heap.size) := by
 obtain ⟨i,hi,hz0,hz1,hz2⟩ := z_parts hi
 obtain ⟨v',w',hrun,k1,k2,k3,k4⟩ := run_append_own_at (P := P) w base t ty e i z 1 bytes ht hi hz0 hz1 hz2 hz (by omega) _ n xs ho X m d news (by omega) hc h1
   (by simp only [maxLen]; omega) (by have := Nat.mul_le_mul (show n + m ≤ 1000000 by omega) hby; omega) hbase
 have hown := k1
 obtain ⟨g,cap,rfl,_,_⟩ := k1.form (by omega)
 have eb : Value.ownBlock (.slice A n c) = A.map (·.block) := by cases A <;> rfl
 rw [eb] at k2 k4
 refine ⟨_,cap,w',hrun,hown,(Below.refl _ _).grown k2 hbase (fun k hk => ?_),k2,k4⟩
 exact (World.ownsRow.lt ho k (by rw [eb]; exact hk)).1
theorem wpList_appendV (w : World) {ops : Array Oper} {rest : List Oper} {o : Oper} {a : Act} {Q : Exit → Act → World → Prop} (hgd : o.guard = none) (s x : Operand) (t : TypeId)
   (hop : o.op = .call { callee := .builtin .append,args := #[s,x],argTypes := #[t,t] })
   (base : Nat) (e : TypeId) (z : Value) (bytes : Nat) (ht : P.underlying t = some (.slice e)) (hi : IsZ P e z bytes) (hz : z.cells.size = 1) (hby : bytes ≤ 24)
   (A : Option Addr) (n c : Nat) (xs : List Value) (hs : a.eval s = .slice A n c) (ho : w.ownsRow base e 1 (.slice A n c) n xs) (X : Addr) (m d : Nat) (news : List Value) (hx : a.eval x = .slice (some X) m d) (hm : news.length = m) (hm0 : 0 < m)
   (hc : ∀ j v,news[j]? = some v → w.cell? (X.add j) = some v) (h1 : ∀ v ∈ news,v.oneCell' = true) (hsz : n + m ≤ 1000000) (hbase : base ≤ w.heap.size)
   (h : ∀ A' c' w',w'.ownsRow base e 1 (.slice A' (n + m) c') (n + m) (xs ++ news) → Below base w w' → w.grownBy w' (A.map (·.block)) → (A'.map (·.block) = A.map (·.block) ∨ A'.map (·.block) = some w.heap.size) →
     wpList P ops Q rest (a.put o.dst (.slice A' (n + m) c')) w') : wpList P ops Q (o :: rest) a w := by
 refine wpList_plain hgd fun K hK => ?_
 obtain ⟨A',c',w',hrun,k1,k2,k3,k4⟩ := run_appendV (P := P) w base t o.type e z bytes ht hi hz hby A n c xs ho X m d news hm hm0 hc h1 hsz hbase
 unfold Oper.wp execOp
 simp only [hop,resolve,invoke,builtin,Sem.run_bind,Sem.run_pure,Result.andThen_ok,List.map_toArray,List.map_cons,List.map_nil,hs,hx,hrun]
 exact hK _ _ (h A' c' w' k1 k2 k3 k4)
end
theorem row_blk {w : World} {base g n c : Nat} {e : TypeId} {xs : List Value} (h : w.ownsRow base e 1 (.slice (some ⟨g,0,none⟩) n c) n xs) : ∃ cs,Blk w g cs e ∧ base ≤ g ∧ n ≤ c ∧ c ≤ maxLen ∧ cs.size = c ∧ cs.toList.take n = xs := by
 rcases h.2 with ⟨h2,_⟩ | ⟨g2,cap,cur,hv,hb,hg,h3,h4,hs,ht⟩
 · simp at h2
 · simp only [Value.slice.injEq,Option.some.injEq,Addr.mk.injEq,and_true,true_and] at hv
   obtain ⟨rfl,rfl⟩ := hv
   rw [Nat.mul_one] at hs ht
   exact ⟨cur,hg,hb,h3,h4,hs,ht⟩
theorem row_form {w : World} {base n c : Nat} {e : TypeId} {A : Option Addr} {xs : List Value} (h : w.ownsRow base e 1 (.slice A n c) n xs) (hn : 0 < n) : ∃ g,A = some ⟨g,0,none⟩ ∧ base ≤ g ∧ g < w.heap.size := by
 obtain ⟨g,cap,hv,h1,h2⟩ := h.form (by omega)
 simp only [Value.slice.injEq,true_and] at hv
 exact ⟨g,hv.1,h1,h2⟩
theorem row_empty (w : World) (base : Nat) (e : TypeId) (hb : base ≤ w.heap.size) : (w.alloc (.cells #[] e)).ownsRow base e 1 (.slice (some ⟨w.heap.size,0,none⟩) 0 0) 0 [] :=
 World.ownsRow_lit (base := base) (e := e) (size := 1) w #[] 0 hb (by simp [maxLen]) rfl
theorem row_below {w w' : World} {base : Nat} {e : TypeId} {A : Option Addr} {n c m : Nat} {xs : List Value} (h : w.ownsRow base e 1 (.slice A n c) m xs) (hb : Below w.heap.size w w') : w'.ownsRow base e 1 (.slice A n c) m xs :=
 ownsRow_keep h hb (ownsRow_lt h)
theorem row_mono {w : World} {base base' : Nat} {e : TypeId} {v : Value} {m : Nat} {xs : List Value} (h : w.ownsRow base e 1 v m xs) (hb : base' ≤ base) : w.ownsRow base' e 1 v m xs := by
 refine ⟨h.1,?_⟩
 rcases h.2 with h2 | ⟨g,cap,cur,hv,hbg,r⟩
 · exact .inl h2
 · exact .inr ⟨g,cap,cur,hv,by omega,r⟩
theorem row_cell {w : World} {base g n c : Nat} {e : TypeId} {xs : List Value} (h : w.ownsRow base e 1 (.slice (some ⟨g,0,none⟩) n c) n xs) {j : Nat} {v : Value} (hj : xs[j]? = some v) : w.cell? ⟨g,j,none⟩ = some v := by
 have := World.ownsRow.cells h (g := g) rfl j v hj
 rwa [addAt] at this
theorem row_len {w : World} {base : Nat} {e : TypeId} {A : Option Addr} {n c : Nat} {xs : List Value} (h : w.ownsRow base e 1 (.slice A n c) n xs) : xs.length = n := by
 have := h.1
 omega
abbrev Row := Nat → Bool
def rx (u v : Row) : Row := fun i => xor (u i) (v i)
def zr : Row := fun _ => false
def er (i : Nat) : Row := fun j => decide (j = i)
def dx (a b : List UInt8) : List UInt8 := List.zipWith (· ^^^ ·) a b
abbrev Mat := Nat → Option (Row × List UInt8)
theorem rx_zr (u : Row) : rx u zr = u := by funext i; simp [rx,zr]
theorem zr_rx (u : Row) : rx zr u = u := by funext i; simp [rx,zr]
theorem rx_self (u : Row) : rx u u = zr := by funext i; simp [rx,zr]
theorem rx_comm (u v : Row) : rx u v = rx v u := by funext i; simp [rx,Bool.xor_comm]
theorem rx_assoc (u v w : Row) : rx (rx u v) w = rx u (rx v w) := by funext i; simp [rx]
theorem rx_cancel (u v : Row) : rx (rx u v) v = u := by rw [rx_assoc,rx_self,rx_zr]
def stepR (R : Mat) (i : Nat) (r : Row × List UInt8) : Row × List UInt8 :=
 match R i with
 | some x => if r.1 i then (rx r.1 x.1,dx r.2 x.2) else r
 | none => r
def redN (R : Mat) (r : Row × List UInt8) : Nat → Row × List UInt8
 | 0 => r
 | k + 1 => stepR R k (redN R r k)
def vstep (R : Mat) (i : Nat) (v : Row) : Row :=
 match R i with
 | some x => if v i then rx v x.1 else v
 | none => v
def vred (R : Mat) (v : Row) : Nat → Row
 | 0 => v
 | k + 1 => vstep R k (vred R v k)
theorem redN_fst (R : Mat) (r : Row × List UInt8) : ∀ k,(redN R r k).1 = vred R r.1 k := by
 intro k
 induction k with
 | zero => rfl
 | succ k ih =>
   unfold redN vred stepR vstep
   rw [← ih]
   cases R k with
   | none => rfl
   | some x => by_cases h : (redN R r k).1 k <;> simp [h]
theorem vstep_rx (R : Mat) (i : Nat) (u v : Row) : vstep R i (rx u v) = rx (vstep R i u) (vstep R i v) := by
 unfold vstep
 cases R i with
 | none => rfl
 | some x =>
   have hb : rx u v i = xor (u i) (v i) := rfl
   rw [hb]
   cases hu : u i <;> cases hv : v i <;> simp
   · rw [rx_assoc]
   · rw [rx_assoc,rx_comm v x.1,← rx_assoc]
   · rw [rx_assoc u x.1,rx_comm v x.1,← rx_assoc x.1,rx_self,zr_rx]
theorem vred_rx (R : Mat) (u v : Row) : ∀ k,vred R (rx u v) k = rx (vred R u k) (vred R v k) := by
 intro k
 induction k with
 | zero => rfl
 | succ k ih => unfold vred; rw [ih,vstep_rx]
theorem vred_zr (R : Mat) : ∀ k,vred R zr k = zr := by
 intro k
 induction k with
 | zero => rfl
 | succ k ih => unfold vred; rw [ih]; unfold vstep; cases R k <;> simp [zr]
inductive Sp (R : Mat) : Row → Prop
 | zero : Sp R zr
 | add {u : Row} {i : Nat} {x : Row × List UInt8} : Sp R u → R i = some x → Sp R (rx u x.1)
theorem Sp.sum {R : Mat} {u v : Row} (hu : Sp R u) (hv : Sp R v) : Sp R (rx u v) := by
 induction hv with
 | zero => rwa [rx_zr]
 | add _ hx ih => rw [← rx_assoc]; exact .add ih hx
theorem Sp.row {R : Mat} {i : Nat} {x : Row × List UInt8} (h : R i = some x) : Sp R x.1 := by
 have := Sp.add (.zero) h
 rwa [zr_rx] at this
theorem vred_sp (R : Mat) (v : Row) : ∀ k,Sp R (rx v (vred R v k)) := by
 intro k
 induction k with
 | zero => unfold vred; rw [rx_self]; exact .zero
 | succ k ih =>
   unfold vred vstep
   cases h : R k with
   | none => exact ih
   | some x =>
     by_cases hb : vred R v k k
     · simp [hb]; rw [← rx_assoc]; exact .add ih h
     · simp [hb]; exact ih
theorem sp_of_red {R : Mat} {v : Row} {k : Nat} (h : Sp R (vred R v k)) : Sp R v := by
 have := (vred_sp R v k).sum h
 rwa [rx_cancel] at this
structure Inv (R : Mat) (n : Nat) : Prop where
 lt : ∀ i x,R i = some x → i < n
 one : ∀ i x,R i = some x → x.1 i = true
 off : ∀ i x j y,R i = some x → R j = some y → j ≠ i → x.1 j = false
 out : ∀ i x j,R i = some x → n ≤ j → x.1 j = false
theorem vred_piv {R : Mat} {n : Nat} (h : Inv R n) (v : Row) {j : Nat} {y : Row × List UInt8} (hj : R j = some y) : ∀ k,j < k → vred R v k j = false := by
 intro k hk
 induction k with
 | zero => omega
 | succ k ih =>
   unfold vred vstep
   by_cases e : k = j
   · subst e
     rw [hj]
     by_cases hb : vred R v k k
     · simp [hb,rx,h.one k y hj]
     · simp [hb]
   · have := ih (by omega)
     cases hx : R k with
     | none => exact this
     | some x =>
       by_cases hb : vred R v k k
       · simp [hb,rx,this,h.off k x j y hx hj (Ne.symm e)]
       · simp [hb,this]
theorem vred_out {R : Mat} {n : Nat} (h : Inv R n) (v : Row) (hv : ∀ j,n ≤ j → v j = false) : ∀ k j,n ≤ j → vred R v k j = false := by
 intro k j hj
 induction k with
 | zero => exact hv j hj
 | succ k ih =>
   unfold vred vstep
   cases hx : R k with
   | none => exact ih
   | some x =>
     by_cases hb : vred R v k k
     · simp [hb,rx,ih,h.out k x j hx hj]
     · simp [hb,ih]
theorem vred_stay {R : Mat} {v : Row} (lo : Nat) : ∀ k,(∀ j y,lo ≤ j → j < lo + k → R j = some y → v j = false) → vred R v lo = v → vred R v (lo + k) = v := by
 intro k hk h0
 induction k with
 | zero => exact h0
 | succ k ih =>
   show vstep R (lo + k) (vred R v (lo + k)) = v
   rw [ih fun j y h1 h2 h3 => hk j y h1 (by omega) h3]
   unfold vstep
   cases hx : R (lo + k) with
   | none => rfl
   | some x => simp [hk _ x (by omega) (by omega) hx]
theorem vred_row {R : Mat} {n : Nat} (h : Inv R n) {i : Nat} {x : Row × List UInt8} (hi : R i = some x) : vred R x.1 n = zr := by
 have hin := h.lt i x hi
 have h1 : vred R x.1 i = x.1 := by
   have := vred_stay (R := R) (v := x.1) 0 i (fun j y _ h2 h3 => h.off i x j y hi h3 (by omega)) rfl
   simpa using this
 have h2 : vred R x.1 (i + 1) = zr := by
   show vstep R i (vred R x.1 i) = zr
   rw [h1]
   unfold vstep
   simp [hi,h.one i x hi,rx_self]
 have : ∀ k,vred R x.1 (i + 1 + k) = zr := by
   intro k
   induction k with
   | zero => exact h2
   | succ k ih =>
     show vstep R (i + 1 + k) (vred R x.1 (i + 1 + k)) = zr
     rw [ih]
     unfold vstep
     cases R (i + 1 + k) <;> simp [zr]
 have := this (n - (i + 1))
 rwa [show i + 1 + (n - (i + 1)) = n by omega] at this
theorem red_of_sp {R : Mat} {n : Nat} (h : Inv R n) {v : Row} (hv : Sp R v) : vred R v n = zr := by
 induction hv with
 | zero => exact vred_zr R n
 | add _ hx ih => rw [vred_rx,ih,vred_row h hx,zr_rx]
def addM (R : Mat) (at_ : Nat) (r : Row × List UInt8) : Mat := fun i =>
 if i = at_ then some r else match R i with
   | some x => if x.1 at_ then some (rx x.1 r.1,dx x.2 r.2) else some x
   | none => none
theorem addM_at (R : Mat) (at_ : Nat) (r : Row × List UInt8) : addM R at_ r at_ = some r := by simp [addM]
theorem addM_ne {R : Mat} {at_ i : Nat} {r z : Row × List UInt8} (h : addM R at_ r i = some z) (hi : i ≠ at_) :
   ∃ x,R i = some x ∧ ((x.1 at_ = true ∧ z = (rx x.1 r.1,dx x.2 r.2)) ∨ (x.1 at_ = false ∧ z = x)) := by
 unfold addM at h
 rw [if_neg hi] at h
 cases hx : R i with
 | none => rw [hx] at h; cases h
 | some x =>
   rw [hx] at h
   cases hb : x.1 at_ with
   | false => simp [hb] at h; exact ⟨x,rfl,.inr ⟨hb,h.symm⟩⟩
   | true => simp [hb] at h; exact ⟨x,rfl,.inl ⟨hb,h.symm⟩⟩
theorem inv_add {R : Mat} {n at_ : Nat} {r : Row × List UInt8} (h : Inv R n) (ha : at_ < n) (h1 : r.1 at_ = true) (hp : ∀ j y,R j = some y → r.1 j = false) (ho : ∀ j,n ≤ j → r.1 j = false) : Inv (addM R at_ r) n := by
 have hnone : R at_ = none := by
   cases hx : R at_ with
   | none => rfl
   | some x => have := hp at_ x hx; rw [h1] at this; cases this
 refine ⟨fun i x hx => ?_,fun i x hx => ?_,fun i x j y hx hy hne => ?_,fun i x j hx hj => ?_⟩
 · by_cases e : i = at_
   · omega
   · obtain ⟨z,hz,_⟩ := addM_ne hx e
     exact h.lt i z hz
 · by_cases e : i = at_
   · subst e; rw [addM_at] at hx; cases hx; exact h1
   · obtain ⟨z,hz,⟨_,rfl⟩ | ⟨_,rfl⟩⟩ := addM_ne hx e
     · simp [rx,h.one i z hz,hp i z hz]
     · exact h.one i _ hz
 · by_cases e : i = at_
   · subst e; rw [addM_at] at hx; cases hx
     obtain ⟨z,hz,_⟩ := addM_ne hy hne
     exact hp j z hz
   · obtain ⟨z,hz,hq⟩ := addM_ne hx e
     by_cases e2 : j = at_
     · subst e2
       rcases hq with ⟨hb,rfl⟩ | ⟨hb,rfl⟩
       · simp [rx,hb,h1]
       · exact hb
     · obtain ⟨z2,hz2,_⟩ := addM_ne hy e2
       rcases hq with ⟨hb,rfl⟩ | ⟨hb,rfl⟩
       · simp [rx,h.off i z j z2 hz hz2 hne,hp j z2 hz2]
       · exact h.off i _ j z2 hz hz2 hne
 · by_cases e : i = at_
   · subst e; rw [addM_at] at hx; cases hx; exact ho j hj
   · obtain ⟨z,hz,⟨_,rfl⟩ | ⟨_,rfl⟩⟩ := addM_ne hx e
     · simp [rx,h.out i z j hz hj,ho j hj]
     · exact h.out i _ j hz hj
theorem sp_add {R : Mat} {at_ : Nat} {r : Row × List UInt8} (hn : R at_ = none) {v : Row} (h : Sp R v) : Sp (addM R at_ r) v := by
 induction h with
 | zero => exact .zero
 | @add u i x _ hx ih =>
   have hi : i ≠ at_ := by rintro rfl; rw [hn] at hx; cases hx
   cases hb : x.1 at_ with
   | false => exact .add ih (x := x) (i := i) (by simp [addM,hi,hx,hb])
   | true =>
     have h1 : Sp (addM R at_ r) (rx u (rx x.1 r.1)) := .add ih (x := (rx x.1 r.1,dx x.2 r.2)) (i := i) (by simp [addM,hi,hx,hb])
     have h2 := h1.sum (Sp.row (addM_at R at_ r))
     rwa [rx_assoc,rx_cancel] at h2
theorem full_rows {R : Mat} {n : Nat} (h : Inv R n) (hs : ∀ i,i < n → Sp R (er i)) (i : Nat) (hi : i < n) : ∃ x,R i = some x ∧ x.1 = er i := by
 have hz := red_of_sp h (hs i hi)
 cases hx : R i with
 | none =>
   exfalso
   have := vred_stay (R := R) (v := er i) 0 n (fun j y _ _ h3 => by
     have : j ≠ i := by rintro rfl; rw [hx] at h3; cases h3
     simp [er,this]) rfl
   rw [Nat.zero_add,hz] at this
   have := congrFun this i
   simp [zr,er] at this
 | some x =>
   refine ⟨x,rfl,?_⟩
   have h1 : vred R (er i) i = er i := by
     have := vred_stay (R := R) (v := er i) 0 i (fun j y _ h2 _ => by simp [er]; omega) rfl
     simpa using this
   have h2 : vred R (er i) (i + 1) = rx (er i) x.1 := by
     show vstep R i (vred R (er i) i) = _
     rw [h1]
     unfold vstep
     simp [hx,er]
   have h3 : vred R (er i) n = rx (er i) x.1 := by
     have : ∀ k,vred R (er i) (i + 1 + k) = rx (er i) x.1 := by
       intro k
       induction k with
       | zero => exact h2
       | succ k ih =>
         show vstep R (i + 1 + k) (vred R (er i) (i + 1 + k)) = _
         rw [ih]
         unfold vstep
         cases hy : R (i + 1 + k) with
         | none => rfl
         | some y =>
           have : rx (er i) x.1 (i + 1 + k) = false := by
             simp [rx,er,h.off i x (i + 1 + k) y hx hy (by omega)]
             omega
           simp [this]
     have := this (n - (i + 1))
     rwa [show i + 1 + (n - (i + 1)) = n by omega] at this
   rw [hz] at h3
   have := congrArg (rx (er i)) h3.symm
   rw [← rx_assoc,rx_self,zr_rx,rx_zr] at this
   exact this
def vb (P : Nat → Nat → UInt8) (v : Row) (t : Nat) : Nat → UInt8
 | 0 => 0
 | k + 1 => vb P v t k ^^^ (if v k then P k t else 0)
theorem x8_comm (a b : UInt8) : a ^^^ b = b ^^^ a := UInt8.xor_comm a b
theorem x8_assoc (a b c : UInt8) : a ^^^ b ^^^ c = a ^^^ (b ^^^ c) := UInt8.xor_assoc a b c
theorem x8_self (a : UInt8) : a ^^^ a = 0 := UInt8.xor_self
theorem x8_four (a b c d : UInt8) : a ^^^ b ^^^ (c ^^^ d) = a ^^^ c ^^^ (b ^^^ d) := by
 rw [x8_assoc,x8_assoc,← x8_assoc b c d,x8_comm b c,x8_assoc c b d]
theorem vb_rx (P : Nat → Nat → UInt8) (u v : Row) (t : Nat) : ∀ k,vb P (rx u v) t k = vb P u t k ^^^ vb P v t k := by
 intro k
 induction k with
 | zero => simp [vb]
 | succ k ih =>
   unfold vb
   rw [ih]
   have : rx u v k = xor (u k) (v k) := rfl
   rw [this,x8_four]
   congr 1
   cases u k <;> cases v k <;> simp
theorem vb_er (P : Nat → Nat → UInt8) (i t : Nat) : ∀ k,vb P (er i) t k = if i < k then P i t else 0 := by
 intro k
 induction k with
 | zero => rfl
 | succ k ih =>
   unfold vb
   rw [ih]
   by_cases h : i < k
   · simp [h,er,show i < k + 1 by omega,show ¬ k = i by omega]
   · by_cases e : k = i
     · subst e; simp [er]
     · simp [h,er,e,show ¬ i < k + 1 by omega]
def Says (P : Nat → Nat → UInt8) (n size : Nat) (r : Row × List UInt8) : Prop := r.2.length = size ∧ ∀ t,t < size → r.2.getD t 0 = vb P r.1 t n
theorem dx_len {a b : List UInt8} {n : Nat} (ha : a.length = n) (hb : b.length = n) : (dx a b).length = n := by simp [dx,ha,hb]
theorem dx_getD {a b : List UInt8} {t : Nat} (ha : t < a.length) (hb : t < b.length) : (dx a b).getD t 0 = a.getD t 0 ^^^ b.getD t 0 := by
 simp [dx,List.getD_eq_getElem?_getD,List.getElem?_zipWith,ha,hb]
theorem Says.sum {P : Nat → Nat → UInt8} {n size : Nat} {r x : Row × List UInt8} (hr : Says P n size r) (hx : Says P n size x) : Says P n size (rx r.1 x.1,dx r.2 x.2) := by
 refine ⟨dx_len hr.1 hx.1,fun t ht => ?_⟩
 rw [vb_rx,dx_getD (by rw [hr.1]; exact ht) (by rw [hx.1]; exact ht),hr.2 t ht,hx.2 t ht]
def Cons (P : Nat → Nat → UInt8) (n size : Nat) (R : Mat) : Prop := ∀ i x,R i = some x → Says P n size x
theorem Cons.red {P : Nat → Nat → UInt8} {n size : Nat} {R : Mat} (h : Cons P n size R) {r : Row × List UInt8} (hr : Says P n size r) : ∀ k,Says P n size (redN R r k) := by
 intro k
 induction k with
 | zero => exact hr
 | succ k ih =>
   unfold redN stepR
   cases hx : R k with
   | none => exact ih
   | some x =>
     by_cases hb : (redN R r k).1 k
     · simp [hb]; exact ih.sum (h k x hx)
     · simp [hb]; exact ih
theorem Cons.add {P : Nat → Nat → UInt8} {n size : Nat} {R : Mat} (h : Cons P n size R) {r : Row × List UInt8} (hr : Says P n size r) (at_ : Nat) : Cons P n size (addM R at_ r) := by
 intro i x hx
 by_cases e : i = at_
 · subst e; rw [addM_at] at hx; cases hx; exact hr
 · obtain ⟨z,hz,⟨_,rfl⟩ | ⟨_,rfl⟩⟩ := addM_ne hx e
   · exact (h i z hz).sum hr
   · exact h i _ hz
abbrev B32 := BitVec 32
def mixB (x : B32) : B32 :=
 let x1 := x ^^^ (x >>> 16)
 let x2 := x1 * 0x7feb352d#32
 let x3 := x2 ^^^ (x2 >>> 15)
 let x4 := x3 * 0x846ca68b#32
 x4 ^^^ (x4 >>> 16)
def newS (a b : B32) : B32 := mixB a + b * 0x9e3779b9#32 + 1#32
def oneS (s : B32) : B32 := if s = 0#32 then 1#32 else s
def turnS (x : B32) : B32 :=
 let x1 := x ^^^ (x <<< 13)
 let x2 := x1 ^^^ (x1 >>> 17)
 x2 ^^^ (x2 <<< 5)
def nextS (s : B32) : B32 := turnS (oneS s)
def outS (s : B32) : B32 := mixB (nextS s)
def belowS (s : B32) (n : Nat) : Nat := (outS s).toNat * n / 4294967296
theorem belowS_lt (s : B32) {n : Nat} (h : 0 < n) : belowS s n < n := by
 unfold belowS
 rw [Nat.div_lt_iff_lt_mul (by omega),Nat.mul_comm n]
 exact Nat.mul_lt_mul_of_pos_right (outS s).isLt h
def swapL (l : List Nat) (i j : Nat) : List Nat := (l.set i (l.getD j 0)).set j (l.getD i 0)
theorem swapL_len (l : List Nat) (i j : Nat) : (swapL l i j).length = l.length := by simp [swapL]
def stS (s : B32) : Nat → B32
 | 0 => s
 | k + 1 => nextS (stS s k)
def shuf (n : Nat) (s : B32) : Nat → List Nat
 | 0 => List.range n
 | k + 1 => swapL (shuf n s k) k (k + belowS (stS s k) (n - k))
theorem shuf_len (n : Nat) (s : B32) : ∀ k,(shuf n s k).length = n := by
 intro k
 induction k with
 | zero => simp [shuf]
 | succ k ih => unfold shuf; rw [swapL_len,ih]
theorem shuf_lt (n : Nat) (s : B32) : ∀ (k i x : Nat),(shuf n s k)[i]? = some x → x < n := by
 intro k
 induction k with
 | zero =>
   intro i x h
   have := List.mem_of_getElem? h
   simpa [shuf] using this
 | succ k ih =>
   intro i x h
   unfold shuf swapL at h
   have hg : ∀ j,j < n → (shuf n s k).getD j 0 < n := by
     intro j hj
     have : (shuf n s k)[j]? = some ((shuf n s k)[j]'(by rw [shuf_len]; exact hj)) := List.getElem?_eq_getElem _
     rw [List.getD_eq_getElem?_getD,this]
     exact ih j _ this
   have hz : ∀ j,(shuf n s k).getD j 0 < n ∨ n ≤ j := by
     intro j
     rcases Nat.lt_or_ge j n with h | h
     · exact .inl (hg j h)
     · exact .inr h
   rw [List.getElem?_set] at h
   split at h
   · split at h
     · rename_i h1 h2
       rw [List.length_set,shuf_len] at h2
       simp at h
       rw [← h]
       rcases hz k with h | h
       · simpa using h
       · exfalso; omega
     · cases h
   · rw [List.getElem?_set] at h
     split at h
     · split at h
       · rename_i h0 h1 h2
         rw [shuf_len] at h2
         simp at h
         rw [← h]
         rcases hz (k + belowS (stS s k) (n - k)) with h | h
         · simpa using h
         · have := belowS_lt (stS s k) (n := n - k) (by omega)
           omega
       · cases h
     · exact ih i x h
def someL (n : Nat) (s : B32) (k : Nat) : List Nat := (shuf n s k).take k
def degF (n x : Nat) : Nat := ((List.range (n + 1)).find? fun r => decide (1 ≤ r ∧ Sol.place n x < Sol.sums n r)).getD 0
theorem degF_is {n x : Nat} (h0 : 1 ≤ n) (h1 : n ≤ 80) (hx : x < 4294967296) : Sol.IsDeg n x (degF n x) := by
 unfold degF
 cases h : (List.range (n + 1)).find? fun r => decide (1 ≤ r ∧ Sol.place n x < Sol.sums n r) with
 | none =>
   exfalso
   rw [List.find?_eq_none] at h
   have := h n (by simp)
   have hp := Sol.place_lt h0 h1 hx
   simp at this
   have := this h0
   omega
 | some r =>
   have h2 := List.find?_some h
   rw [List.find?_range_eq_some] at h
   simp at h2
   obtain ⟨_,hm,hall⟩ := h
   simp at hm
   refine ⟨h2.1,fun t ht0 ht => ?_,fun t ht htn => ?_,by show r ≤ n + 1; omega⟩
   · have := hall t ht
     simp at this
     omega
   · have := Sol.sums_mono n (show r ≤ t from ht)
     have h3 := h2.2
     show Sol.place n x < Sol.sums n t
     omega
theorem degF_le {n x : Nat} (h0 : 1 ≤ n) (h1 : n ≤ 80) (hx : x < 4294967296) : degF n x ≤ n := (degF_is h0 h1 hx).le h0 h1 hx
theorem degF_pos {n x : Nat} (h0 : 1 ≤ n) (h1 : n ≤ 80) (hx : x < 4294967296) : 1 ≤ degF n x := (degF_is h0 h1 hx).1
def rowL (ss : B32) (K P : Nat) (id : B32) : List Nat :=
 if id.toNat < K then [id.toNat] else someL (K + P) (nextS (newS ss id)) (degF (K + P) (outS (newS ss id)).toNat)
def rowOf (L : List Nat) : Row := fun i => decide (i ∈ L)
def parB (ss : B32) (j i : Nat) : Bool := (outS (stS (newS ss (BitVec.ofNat 32 (2147483648 + j))) i)).getLsbD 0
def parRow (ss : B32) (K j : Nat) : Row := fun i => decide (i = K + j) || (decide (i < K) && parB ss j i)
theorem V_mul (a b : BitVec 32) : (V a * V b) % 4294967296 = V (a * b) := by
 unfold V
 rw [BitVec.toNat_mul]
 simp
theorem mix_any (x : B32) (w : World) : Calls Tryz.prog 195 #[.int .u32 (V x)] w fun e w' => e = .returned (.int .u32 (V (mixB x))) ∧ w = w' := by
 obtain ⟨y1,h1⟩ : ∃ y,x ^^^ (x >>> 16) = y := ⟨_,rfl⟩
 obtain ⟨y2,h2⟩ : ∃ y,y1 * 0x7feb352d#32 = y := ⟨_,rfl⟩
 obtain ⟨y3,h3⟩ : ∃ y,y2 ^^^ (y2 >>> 15) = y := ⟨_,rfl⟩
 obtain ⟨y4,h4⟩ : ∃ y,y3 * 0x846ca68b#32 = y := ⟨_,rfl⟩
 obtain ⟨y5,h5⟩ : ∃ y,y4 ^^^ (y4 >>> 16) = y := ⟨_,rfl⟩
 have e1 : bits .xor .u32 (V x) (V x / 65536) = V y1 := by rw [← h1,← V_xor,← V_shr]; rfl
 have e2 : V y1 * 2146121005 % 4294967296 = V y2 := by rw [← h2,← V_mul]; rfl
 have e3 : bits .xor .u32 (V y2) (V y2 / 32768) = V y3 := by rw [← h3,← V_xor,← V_shr]; rfl
 have e4 : V y3 * 2221713035 % 4294967296 = V y4 := by rw [← h4,← V_mul]; rfl
 have e5 : bits .xor .u32 (V y4) (V y4 / 65536) = V y5 := by rw [← h5,← V_xor,← V_shr]; rfl
 have hr : Hid (mixB x = y5) := hide (by unfold mixB; simp only [h1,h2,h3,h4,h5])
 have b0 := V_bd x
 have b1 := V_bd y1
 have b2 := V_bd y2
 have b3 := V_bd y3
 have b4 := V_bd y4
 have b5 := V_bd y5
 clear h1 h2 h3 h4 h5
 go_enter Tryz.func195,Tryz.ntmps195
 go_wp2_with fail
 go_ret
 exact ⟨by rw [hr.out]; rfl,rfl⟩
theorem mix_still (x : B32) (w : World) : Calls Tryz.prog 195 #[.int .u32 (V x)] w fun e w' => e = .returned (.int .u32 (V (mixB x))) ∧ w' = w :=
 (mix_any x w).mono fun _ _ ⟨h,k⟩ => ⟨h,k.symm⟩
theorem wrapU32 (n : Int) : IntKind.u32.wrap n = n % 4294967296 := by simp [IntKind.wrap,IntKind.bits,IntKind.signed]
abbrev Src (w : World) (g : Nat) (s : B32) : Prop := Blk w g #[.int .u32 (V s)] 253
theorem ustore_any (g : Nat) (s t : B32) (w : World) (h : Src w g s) :
   Calls Tryz.prog 194 #[.pointer (some ⟨g,0,none⟩),.int .u32 (V t)] w fun e w' => e = .returned (.tuple #[]) ∧ Src w' g t ∧ Fr (· = g) w w' := by
 have hc := h.cell (i := 0) (v := .int .u32 (V s)) rfl
 have hz := h.free 0
 have hst := run_call_store (P := Tryz.prog) Tryz.func225 (by kernel_rfl) (by kernel_rfl) (by kernel_rfl) (by kernel_rfl) (k := .u32) (y := V t) hc hz
 have hB := h.set 0 (.int .u32 (V t))
 have hF : Fr (· = g) w (w.setCell ⟨g,0,none⟩ (.int .u32 (V t))) := Fr.set (S := (· = g)) (Fr.refl _ _) (p := ⟨g,0,none⟩) (fun _ => rfl) _
 go_enter Tryz.func194,Tryz.ntmps194
 go_wp2_with fail
 go_end0
 exact ⟨rfl,hB,hF⟩
theorem uload_any (g : Nat) (s : B32) (w : World) (h : Src w g s) :
   Calls Tryz.prog 203 #[.pointer (some ⟨g,0,none⟩)] w fun e w' => e = .returned (.int .u32 (V s)) ∧ w = w' := by
 have hc := h.cell (i := 0) (v := .int .u32 (V s)) rfl
 have hl := run_call_load (P := Tryz.prog) Tryz.func220 (by kernel_rfl) (by kernel_rfl) (by kernel_rfl) .u32 (by kernel_rfl) hc
 go_enter Tryz.func203,Tryz.ntmps203
 go_wp2_with fail
 go_ret
 exact ⟨rfl,rfl⟩
theorem ucas_any (g : Nat) (s : B32) (w : World) (h : Src w g s) :
   Calls Tryz.prog 202 #[.pointer (some ⟨g,0,none⟩),.int .u32 0,.int .u32 1] w fun e w' => ∃ b,e = .returned (.bool b) ∧ Src w' g (oneS s) ∧ Fr (· = g) w w' := by
 have hc := h.cell (i := 0) (v := .int .u32 (V s)) rfl
 have hz := h.free 0
 by_cases hs : s = 0#32
 · subst hs
   have hone : Hid (oneS 0#32 = 1#32) := hide rfl
   have hcas := run_call_cas_hit (P := Tryz.prog) Tryz.func229 (by kernel_rfl) (by kernel_rfl) (by kernel_rfl) .u32 (by kernel_rfl) (y := 1) (x := 0) hc hz
   have hB := h.set 0 (.int .u32 1)
   have hF : Fr (· = g) w (w.setCell ⟨g,0,none⟩ (.int .u32 1)) := Fr.set (S := (· = g)) (Fr.refl _ _) (p := ⟨g,0,none⟩) (fun _ => rfl) _
   go_enter Tryz.func202,Tryz.ntmps202
   go_wp2_with fail
   go_ret
   exact ⟨true,rfl,by rw [hone.out]; exact hB,hF⟩
 · have hone : Hid (oneS s = s) := hide (by unfold oneS; rw [if_neg hs])
   have hv : ¬ V s = 0 := by
     intro h
     exact hs (V_inj (h.trans (show (0 : Int) = V 0#32 by decide)))
   have hcas := run_call_cas_miss (P := Tryz.prog) Tryz.func229 (by kernel_rfl) (by kernel_rfl) (by kernel_rfl) .u32 (by kernel_rfl) (y := 1) (o := 0) hc hz hv
   clear hs
   go_enter Tryz.func202,Tryz.ntmps202
   go_wp2_with fail
   go_ret
   exact ⟨false,rfl,by rw [hone.out]; exact h,Fr.refl _ _⟩
theorem rnew_any (a b : B32) (w : World) :
   Calls Tryz.prog 148 #[.int .u32 (V a),.int .u32 (V b)] w fun e w' => e = .returned (.pointer (some ⟨w.heap.size,0,none⟩)) ∧ Src w' w.heap.size (newS a b) ∧ Below w.heap.size w w' := by
 obtain ⟨m,hm⟩ : ∃ m,mixB a = m := ⟨_,rfl⟩
 have hmx := fun w => mix_still a w
 rw [hm] at hmx
 obtain ⟨y1,h1⟩ : ∃ y,b * 0x9e3779b9#32 = y := ⟨_,rfl⟩
 obtain ⟨y2,h2⟩ : ∃ y,m + y1 = y := ⟨_,rfl⟩
 obtain ⟨y3,h3⟩ : ∃ y,y2 + 1#32 = y := ⟨_,rfl⟩
 have e1 : IntKind.u32.wrap (V b * 2654435769) = V y1 := by rw [← h1,← V_mul,wrapU32]; rfl
 have e2 : IntKind.u32.wrap (V m + V y1) = V y2 := by rw [← h2,← V_add,wrapU32]
 have e3 : IntKind.u32.wrap (V y2 + 1) = V y3 := by rw [← h3,← V_add,wrapU32]; rfl
 have hr : Hid (newS a b = y3) := hide (by unfold newS; rw [hm,h1,h2,h3])
 have hS : Src (w.alloc (.cells #[.int .u32 0] 253)) w.heap.size 0#32 := Blk.new _ _ _
 have hB : Below w.heap.size w (w.alloc (.cells #[.int .u32 0] 253)) := below_alloc1 _ _
 clear h1 h2 h3 hm
 go_enter Tryz.func148,Tryz.ntmps148
 go_wp2_with fail
 go_still_tail 9,(by kernel_rfl)
 all_goals
   repeat (first | still_step | still_call (hmx _))
   try refine wpStill_nil ?_
   change wpList _ _ _ _ _ (World.drew (w.alloc (.cells #[.int .u32 0] 253)))
   go_wp2_with fail
   refine (ustore_any w.heap.size 0#32 y3 _ (Blk.drew hS)).mono ?_
   rintro e w1 ⟨rfl,hS1,hF1⟩
   go_wp2_with fail
   go_ret
   exact ⟨rfl,by rw [hr.out]; exact hS1,hB.drew.trans (hF1.below (by simp) (fun g hg => by omega))⟩
theorem rnext_any (g : Nat) (s : B32) (w : World) (h : Src w g s) :
   Calls Tryz.prog 152 #[.pointer (some ⟨g,0,none⟩)] w fun e w' => e = .returned (.int .u32 (V (outS s))) ∧ Src w' g (nextS s) ∧ Fr (· = g) w w' := by
 obtain ⟨x,hx⟩ : ∃ x,oneS s = x := ⟨_,rfl⟩
 obtain ⟨y1,h1⟩ : ∃ y,x ^^^ (x <<< 13) = y := ⟨_,rfl⟩
 obtain ⟨y2,h2⟩ : ∃ y,y1 ^^^ (y1 >>> 17) = y := ⟨_,rfl⟩
 obtain ⟨y3,h3⟩ : ∃ y,y2 ^^^ (y2 <<< 5) = y := ⟨_,rfl⟩
 have e1 : bits .xor .u32 (V x) (V x * 8192 % 4294967296) = V y1 := by rw [← h1,← V_xor,← V_shl]; rfl
 have e2 : bits .xor .u32 (V y1) (V y1 / 131072) = V y2 := by rw [← h2,← V_xor,← V_shr]; rfl
 have e3 : bits .xor .u32 (V y2) (V y2 * 32 % 4294967296) = V y3 := by rw [← h3,← V_xor,← V_shl]; rfl
 have hn : nextS s = y3 := by unfold nextS turnS; simp only [hx,h1,h2,h3]
 have hr : Hid (nextS s = y3 ∧ outS s = mixB y3) := hide ⟨hn,by unfold outS; rw [hn]⟩
 have Hx := hide hx
 have b0 := V_bd x
 have b1 := V_bd y1
 have b2 := V_bd y2
 have b3 := V_bd y3
 clear h1 h2 h3 hn hx
 go_enter Tryz.func152,Tryz.ntmps152
 go_wp2_with fail
 refine (ucas_any g s w h).mono ?_
 rw [Hx.out]
 rintro e w1 ⟨b,rfl,hS1,hF1⟩
 go_wp2_with fail
 refine (uload_any g x w1 hS1).mono ?_
 rintro e w' ⟨rfl,rfl⟩
 go_wp2_with fail
 refine (ustore_any g x y3 w1 hS1).mono ?_
 rintro e w2 ⟨rfl,hS2,hF2⟩
 go_wp2_with fail
 refine (mix_any y3 w2).mono ?_
 rintro e w' ⟨rfl,rfl⟩
 go_wp2_with fail
 go_ret
 exact ⟨by rw [hr.out.2]; rfl,by rw [hr.out.1]; exact hS2,hF1.trans hF2⟩
theorem rbelow_any (g n : Nat) (s : B32) (w : World) (h : Src w g s) (h1 : 1 ≤ n) (h2 : n ≤ 256) :
   Calls Tryz.prog 196 #[.pointer (some ⟨g,0,none⟩),.int .i64 n] w fun e w' => e = .returned (.int .i64 (belowS s n : Nat)) ∧ Src w' g (nextS s) ∧ Fr (· = g) w w' := by
 have d1 : decide ((n : Int) < 1) = false := by simp; omega
 have d2 : decide (2147483648 < (n : Int)) = false := by simp; omega
 have hn0 : (1 : Int) ≤ (n : Int) := by omega
 have hn1 : (n : Int) ≤ 256 := by omega
 obtain ⟨o,ho⟩ : ∃ o,outS s = o := ⟨_,rfl⟩
 have hb := V_bd o
 obtain ⟨Q,hQ⟩ : ∃ Q,o.toNat * n = Q := ⟨_,rfl⟩
 have hQ2 : Q ≤ 4294967295 * 256 := by rw [← hQ]; exact Nat.mul_le_mul (by have := o.isLt; omega) h2
 have hQi : V o * (n : Int) = (Q : Int) := by rw [← hQ]; unfold V; simp
 obtain ⟨P,hP⟩ : ∃ P,Q / 4294967296 = P := ⟨_,rfl⟩
 have hPi : (Q : Int) / 4294967296 = (P : Int) := by omega
 have hQ3 : (Q : Int) ≤ 1099511627520 := by omega
 have hP3 : (P : Int) ≤ 256 := by omega
 have hr : Hid (belowS s n = P) := hide (by unfold belowS; rw [ho,hQ,hP])
 have Ho := hide ho
 clear hQ hP ho
 go_enter Tryz.func196,Tryz.ntmps196
 go_wp2_with fail
 refine (rnext_any g s w h).mono ?_
 rw [Ho.out]
 rintro e w1 ⟨rfl,hS1,hF1⟩
 go_wp2_with fail
 go_ret
 exact ⟨by rw [hr.out]; rfl,hS1,hF1⟩
abbrev B64 := BitVec 64
def UV (x : B64) : Int := (x.toNat : Int)
theorem UV_bd (x : B64) : 0 ≤ UV x ∧ UV x < 18446744073709551616 := by
 unfold UV
 have := x.isLt
 omega
theorem ofInt_UV (x : B64) : BitVec.ofInt 64 (UV x) = x := by simp [UV]
theorem UV_wrap (x : B64) : IntKind.u64.wrap (UV x) = UV x := by
 have := UV_bd x
 rw [IntKind.wrap_u64]
 omega
theorem UV_and (a b : B64) : bits .and .u64 (UV a) (UV b) = UV (a &&& b) := by
 show IntKind.u64.wrap ((BitVec.ofInt 64 (UV a) &&& BitVec.ofInt 64 (UV b)).toNat : Int) = _
 rw [ofInt_UV,ofInt_UV]
 exact UV_wrap _
theorem UV_or (a b : B64) : bits .or .u64 (UV a) (UV b) = UV (a ||| b) := by
 show IntKind.u64.wrap ((BitVec.ofInt 64 (UV a) ||| BitVec.ofInt 64 (UV b)).toNat : Int) = _
 rw [ofInt_UV,ofInt_UV]
 exact UV_wrap _
theorem UV_xor (a b : B64) : bits .xor .u64 (UV a) (UV b) = UV (a ^^^ b) := by
 show IntKind.u64.wrap ((BitVec.ofInt 64 (UV a) ^^^ BitVec.ofInt 64 (UV b)).toNat : Int) = _
 rw [ofInt_UV,ofInt_UV]
 exact UV_wrap _
theorem UV_andNot (a b : B64) : bits .andNot .u64 (UV a) (UV b) = UV (a &&& ~~~b) := by
 show IntKind.u64.wrap ((BitVec.ofInt 64 (UV a) &&& ~~~BitVec.ofInt 64 (UV b)).toNat : Int) = _
 rw [ofInt_UV,ofInt_UV]
 exact UV_wrap _
theorem UV_shr (a : B64) (k : Nat) : UV a / (2 : Int) ^ k = UV (a >>> k) := by
 unfold UV
 rw [BitVec.toNat_ushiftRight,Nat.shiftRight_eq_div_pow]
 simp
theorem UV_mask (i : Nat) : IntKind.u64.wrap (2 ^ i) = UV (1#64 <<< i) := by
 rw [IntKind.wrap_u64]
 unfold UV
 rw [BitVec.toNat_shiftLeft,Nat.shiftLeft_eq]
 simp
theorem UV_bit (x : B64) (i : Nat) : (bits .and .u64 (UV x / 2 ^ i) 1 == 1) = x.getLsbD i := by
 have h1 : (1 : Int) = UV 1#64 := by decide
 rw [UV_shr,h1,UV_and,BitVec.and_one_eq_setWidth_ofBool_getLsbD]
 have h2 : (x >>> i).getLsbD 0 = x.getLsbD i := by simp
 rw [h2]
 cases x.getLsbD i <;> decide
def VecAt (w : World) (p wb n : Nat) (x : B64) : Prop := ∃ cp cs,Blk w p #[.int .i64 (n : Int),.slice (some ⟨wb,0,none⟩) 1 cp] 264 ∧ Blk w wb cs 36 ∧ cs[0]? = some (.int .u64 (UV x)) ∧ 1 ≤ cp ∧ cp ≤ maxLen
theorem vwithin_any (p wb n i : Nat) (x : B64) (w : World) (h : VecAt w p wb n x) (hi : i < n) (hn : n ≤ 64) :
   Calls Tryz.prog 204 #[.pointer (some ⟨p,0,none⟩),.int .i64 i] w fun e w' => e = .returned (.bool true) ∧ w = w' := by
 obtain ⟨cp,cs,h1,h2,h3,h4,h5⟩ := h
 have c0 := h1.cell (i := 0) (v := .int .i64 (n : Int)) rfl
 have d1 : decide (0 ≤ (i : Int)) = true := by simp
 have d2 : decide ((i : Int) < (n : Int)) = true := by simp; omega
 go_enter Tryz.func204,Tryz.ntmps204
 go_wp2_with fail
 go_ret
 exact ⟨rfl,rfl⟩
theorem vlen_any (p wb n : Nat) (x : B64) (w : World) (h : VecAt w p wb n x) :
   Calls Tryz.prog 153 #[.pointer (some ⟨p,0,none⟩)] w fun e w' => e = .returned (.int .i64 n) ∧ w = w' := by
 obtain ⟨cp,cs,h1,h2,h3,h4,h5⟩ := h
 have c0 := h1.cell (i := 0) (v := .int .i64 (n : Int)) rfl
 go_enter Tryz.func153,Tryz.ntmps153
 go_wp2_with fail
 go_ret
 exact ⟨rfl,rfl⟩
theorem vhas_any (p wb n i : Nat) (x : B64) (w : World) (h : VecAt w p wb n x) (hi : i < n) (hn : n ≤ 64) :
   Calls Tryz.prog 154 #[.pointer (some ⟨p,0,none⟩),.int .i64 i] w fun e w' => e = .returned (.bool (x.getLsbD i)) ∧ w = w' := by
 have h0 := h
 obtain ⟨cp,cs,h1,h2,h3,h4,h5⟩ := h
 have c1 := h1.cell (i := 1) (v := .slice (some ⟨wb,0,none⟩) 1 cp) rfl
 have cw := h2.cell h3
 have hb := UV_bd x
 have hi' : (i : Int) < 64 := by omega
 have q1 : i / 64 = 0 := by omega
 have q2 : (i : Int) / 64 = 0 := by omega
 have q3 : i % 64 = i := by omega
 have q4 : (i : Int) % 64 = (i : Int) := by omega
 go_enter Tryz.func154,Tryz.ntmps154
 go_wp2_with fail
 refine (vwithin_any p wb n i x w h0 hi hn).mono ?_
 rintro e w' ⟨rfl,rfl⟩
 go_wp2_with fail
 go_ret
 exact ⟨by rw [UV_bit]; rfl,rfl⟩
theorem or_mask (x m : B64) : x &&& ~~~m ||| m = x ||| m := by
 ext i
 simp
 cases x[i] <;> cases m[i] <;> rfl
theorem vset_any (p wb n i : Nat) (x : B64) (w : World) (h : VecAt w p wb n x) (hi : i < n) (hn : n ≤ 64) :
   Calls Tryz.prog 193 #[.pointer (some ⟨p,0,none⟩),.int .i64 i,.bool true] w fun e w' => e = .returned (.bool true) ∧ VecAt w' p wb n (x ||| (1#64 <<< i)) ∧ Fr (· = wb) w w' := by
 have h0 := h
 obtain ⟨cp,cs,h1,h2,h3,h4,h5⟩ := h
 have c1 := h1.cell (i := 1) (v := .slice (some ⟨wb,0,none⟩) 1 cp) rfl
 have cw := h2.cell h3
 have hb := UV_bd x
 have hi' : (i : Int) < 64 := by omega
 have q1 : i / 64 = 0 := by omega
 have q2 : (i : Int) / 64 = 0 := by omega
 have q3 : i % 64 = i := by omega
 have q4 : (i : Int) % 64 = (i : Int) := by omega
 have fw := h2.free 0
 have hpw : p ≠ wb := h1.ne h2 (by decide)
 have hcs0 : 0 < cs.size := (Array.getElem?_eq_some_iff.1 h3).1
 go_enter Tryz.func193,Tryz.ntmps193
 go_wp2_with fail
 refine (vwithin_any p wb n i x w h0 hi hn).mono ?_
 rintro e w' ⟨rfl,rfl⟩
 go_wp2_with fail
 go_ret
 have e : bits BinOp.or IntKind.u64 (bits BinOp.andNot IntKind.u64 (UV x) (IntKind.u64.wrap (2 ^ i))) (IntKind.u64.wrap (2 ^ i)) = UV (x ||| 1#64 <<< i) := by
   rw [UV_mask,UV_andNot,UV_or,or_mask]
 rw [e]
 exact ⟨rfl,⟨cp,_,(h1.other (a := ⟨wb,0,none⟩) hpw _).other (a := ⟨wb,0,none⟩) hpw _,(h2.set 0 _).set 0 _,by simp [hcs0],h4,h5⟩,(Fr.set (S := (· = wb)) (Fr.set (S := (· = wb)) (Fr.refl _ _) (p := ⟨wb,0,none⟩) (fun _ => rfl) _) (p := ⟨wb,0,none⟩) (fun _ => rfl) _)⟩
theorem vunset_any (p wb n i : Nat) (x : B64) (w : World) (h : VecAt w p wb n x) (hi : i < n) (hn : n ≤ 64) :
   Calls Tryz.prog 193 #[.pointer (some ⟨p,0,none⟩),.int .i64 i,.bool false] w fun e w' => e = .returned (.bool true) ∧ VecAt w' p wb n (x &&& ~~~(1#64 <<< i)) ∧ Fr (· = wb) w w' := by
 have h0 := h
 obtain ⟨cp,cs,h1,h2,h3,h4,h5⟩ := h
 have c1 := h1.cell (i := 1) (v := .slice (some ⟨wb,0,none⟩) 1 cp) rfl
 have cw := h2.cell h3
 have hb := UV_bd x
 have hi' : (i : Int) < 64 := by omega
 have q1 : i / 64 = 0 := by omega
 have q2 : (i : Int) / 64 = 0 := by omega
 have q3 : i % 64 = i := by omega
 have q4 : (i : Int) % 64 = (i : Int) := by omega
 have fw := h2.free 0
 have hpw : p ≠ wb := h1.ne h2 (by decide)
 have hcs0 : 0 < cs.size := (Array.getElem?_eq_some_iff.1 h3).1
 go_enter Tryz.func193,Tryz.ntmps193
 go_wp2_with fail
 refine (vwithin_any p wb n i x w h0 hi hn).mono ?_
 rintro e w' ⟨rfl,rfl⟩
 go_wp2_with fail
 go_ret
 have e : bits BinOp.andNot IntKind.u64 (UV x) (IntKind.u64.wrap (2 ^ i)) = UV (x &&& ~~~(1#64 <<< i)) := by
   rw [UV_mask,UV_andNot]
 rw [e]
 exact ⟨rfl,⟨cp,_,h1.other (a := ⟨wb,0,none⟩) hpw _,h2.set 0 _,by simp [hcs0],h4,h5⟩,Fr.set (S := (· = wb)) (Fr.refl _ _) (p := ⟨wb,0,none⟩) (fun _ => rfl) _⟩
theorem isZ36 : IsZ Tryz.prog 36 (.int .u64 0) 8 := by unfold IsZ; kernel_rfl
theorem isZ3 : IsZ Tryz.prog 3 (.int .i64 0) 8 := by unfold IsZ; kernel_rfl
theorem VecAt.below {w w' : World} {p wb n : Nat} {x : B64} (h : VecAt w p wb n x) (hb : Below w.heap.size w w') : VecAt w' p wb n x := by
 obtain ⟨cp,cs,h1,h2,h3,h4,h5⟩ := h
 exact ⟨cp,cs,h1.below hb,h2.below hb,h3,h4,h5⟩
theorem VecAt.fr {w w' : World} {p wb n : Nat} {x : B64} {S : Nat → Prop} (h : VecAt w p wb n x) (hb : Fr S w w') (hp : ¬ S p) (hw : ¬ S wb) : VecAt w' p wb n x := by
 obtain ⟨cp,cs,h1,h2,h3,h4,h5⟩ := h
 exact ⟨cp,cs,h1.fr hb hp,h2.fr hb hw,h3,h4,h5⟩
theorem VecAt.lt {w : World} {p wb n : Nat} {x : B64} (h : VecAt w p wb n x) : p < w.heap.size ∧ wb < w.heap.size ∧ p ≠ wb := by
 obtain ⟨cp,cs,h1,h2,h3,h4,h5⟩ := h
 exact ⟨h1.lt,h2.lt,h1.ne h2 (by decide)⟩
theorem vnew_any (n : Nat) (w : World) (h1 : 1 ≤ n) (hn : n ≤ 64) :
   Calls Tryz.prog 192 #[.int .i64 n] w fun e w' => e = .returned (.pointer (some ⟨w.heap.size + 1,0,none⟩)) ∧ VecAt w' (w.heap.size + 1) w.heap.size n 0#64 ∧ Below w.heap.size w w' := by
 have d1 : decide ((n : Int) < 0) = false := by simp
 have d2 : decide (256 < (n : Int)) = false := by simp; omega
 have q2 : ((n : Int) + 64 - 1) / 64 = 1 := by omega
 have hn' : (n : Int) ≤ 64 := by omega
 go_enter Tryz.func192,Tryz.ntmps192
 go_wp2_with (at_make; refine wpList_makeZ _ rfl _ _ _ rfl 36 (.int .u64 0) 8 Tryz.underlying258 isZ36 rfl _ _ _ _ 1 rfl rfl (by omega) (by omega) (by omega) (by omega) ?_)
 go_ret
 refine ⟨rfl,⟨1,_,heap_alloc2_new w _ _,heap_alloc2_old w _ _,rfl,by omega,by decide⟩,ba (below_alloc1 _ _) _⟩
def RdI (w : World) (A : Option Addr) (m c : Nat) (L : List Nat) : Prop := L.length = m ∧ m ≤ c ∧ c ≤ maxLen ∧ (0 < m → ∃ g,A = some ⟨g,0,none⟩ ∧ ∃ cs,Blk w g cs 3 ∧ ∀ (j : Nat) x,L[j]? = some x → cs[j]? = some (.int .i64 ((x : Nat) : Int)))
theorem RdI.below {w w' : World} {A : Option Addr} {m c : Nat} {L : List Nat} (h : RdI w A m c L) (hb : Below w.heap.size w w') : RdI w' A m c L :=
 ⟨h.1,h.2.1,h.2.2.1,fun h0 => by
   obtain ⟨g,hA,cs,hg,hc⟩ := h.2.2.2 h0
   exact ⟨g,hA,cs,hg.below hb,hc⟩⟩
theorem RdI.fr {w w' : World} {A : Option Addr} {m c wb : Nat} {L : List Nat} {ds : Array Value} {t : TypeId} (h : RdI w A m c L) (hw : Blk w wb ds t) (ht : t ≠ 3) (hF : Fr (· = wb) w w') : RdI w' A m c L :=
 ⟨h.1,h.2.1,h.2.2.1,fun h0 => by
   obtain ⟨g,hA,cs,hg,hc⟩ := h.2.2.2 h0
   exact ⟨g,hA,cs,hg.fr hF (hg.ne hw (Ne.symm ht)),hc⟩⟩
theorem RdI.at_ {w : World} {A : Option Addr} {m c : Nat} {L : List Nat} (h : RdI w A m c L) {k : Nat} (hk : k < m) : ∃ g x,A = some ⟨g,0,none⟩ ∧ L[k]? = some x ∧ w.cell? ⟨g,k,none⟩ = some (.int .i64 ((x : Nat) : Int)) := by
 obtain ⟨g,hA,cs,hg,hc⟩ := h.2.2.2 (by omega)
 have hl : k < L.length := by have := h.1; omega
 exact ⟨g,L[k],hA,List.getElem?_eq_getElem hl,hg.cell (hc k _ (List.getElem?_eq_getElem hl))⟩
theorem RdI.of_row {w : World} {base : Nat} {A : Option Addr} {m c : Nat} {L : List Nat} (h : w.ownsRow base 3 1 (.slice A m c) m (ints L).toList) : RdI w A m c L := by
 have hl := row_len h
 have hl2 : L.length = m := by simpa [ints] using hl
 refine ⟨hl2,?_,?_,fun h0 => ?_⟩
 · rcases h.2 with ⟨hv,h0⟩ | ⟨g,cap,cur,hv,_,_,hnc,hcm,_⟩ <;> simp only [Value.slice.injEq] at hv <;> omega
 · rcases h.2 with ⟨hv,h0⟩ | ⟨g,cap,cur,hv,_,_,hnc,hcm,_⟩
   · simp only [Value.slice.injEq] at hv; rw [hv.2.2]; exact Nat.zero_le _
   · simp only [Value.slice.injEq] at hv; rw [hv.2.2]; exact hcm
 · obtain ⟨g,rfl,_⟩ := row_form h h0
   obtain ⟨cs,hg,_,_,_,hs,ht⟩ := row_blk h
   refine ⟨g,rfl,cs,hg,fun j x hj => ?_⟩
   have hjm : j < m := by have := (List.getElem?_eq_some_iff.1 hj).1; omega
   have : (cs.toList.take m)[j]? = some (.int .i64 ((x : Nat) : Int)) := by rw [ht]; simp [ints,hj]
   rw [List.getElem?_take_of_lt hjm] at this
   simpa using this
def ofL (L : List Nat) : B64 := L.foldl (fun x i => x ||| 1#64 <<< i) 0#64
theorem ofL_snoc (L : List Nat) (k x : Nat) (h : L[k]? = some x) : ofL (L.take (k + 1)) = ofL (L.take k) ||| 1#64 <<< x := by
 rw [List.take_add_one,h]
 unfold ofL
 rw [List.foldl_append]
 rfl
theorem ofL_bit (L : List Nat) (i : Nat) (hi : i < 64) : (ofL L).getLsbD i = decide (i ∈ L) := by
 have key : ∀ (L : List Nat) (x : B64),(L.foldl (fun x i => x ||| 1#64 <<< i) x).getLsbD i = (x.getLsbD i || decide (i ∈ L)) := by
   intro L
   induction L with
   | nil => intro x; simp
   | cons a r ih =>
     intro x
     rw [List.foldl_cons,ih]
     have : (x ||| 1#64 <<< a).getLsbD i = (x.getLsbD i || decide (i = a)) := by
       rw [BitVec.getLsbD_or,BitVec.getLsbD_shiftLeft]
       congr 1
       by_cases h : i = a
       · subst h; simp [hi]
       · by_cases h2 : i < a
         · simp [h2,h]
         · have : (1#64).getLsbD (i - a) = false := by
             rw [BitVec.getLsbD_one]
             simp
             omega
           simp [h2,h,this]
     rw [this]
     simp [Bool.or_assoc]
 rw [ofL,key]
 simp
theorem vof_any (n : Nat) (A : Option Addr) (m c : Nat) (L : List Nat) (w : World) (h1 : 1 ≤ n) (hn : n ≤ 64) (hL : ∀ x ∈ L,x < n) (hr : RdI w A m c L) (hm : m ≤ 1000) :
   Calls Tryz.prog 147 #[.int .i64 n,.slice A m c] w fun e w' => e = .returned (.pointer (some ⟨w.heap.size + 1,0,none⟩)) ∧ VecAt w' (w.heap.size + 1) w.heap.size n (ofL L) ∧ Below w.heap.size w w' := by
 have HL := hide hL
 have hm' : (m : Int) ≤ 1000 := by omega
 have Hlen := hide hr.1
 clear hL
 go_enter Tryz.func147,Tryz.ntmps147
 go_wp2_with fail
 refine (vnew_any n w h1 hn).mono ?_
 rintro e w1 ⟨rfl,hv1,hb1⟩
 have hr1 := hr.below hb1
 go_wp2_with fail
 go_loopw [12] (fun u wr => ∃ k : Nat,k ≤ m ∧ u = .int .i64 (k : Int) ∧ VecAt wr (w.heap.size + 1) w.heap.size n (ofL (L.take k)) ∧ RdI wr A m c L ∧ Below w.heap.size w wr) (fun u _ => m - (intOf u).toNat)
 case atStart => exact ⟨0,Nat.zero_le _,rfl,hv1,hr1,hb1⟩
 case round =>
   clear hv1 hr1 hb1
   obtain ⟨k,hk,rfl,hv,hr1,hB⟩ := hrel
   by_cases hlt : k < m
   · obtain ⟨g,x,rfl,hx,hc⟩ := hr1.at_ hlt
     have hlt' : (k : Int) < (m : Int) := by omega
     have hxn : x < n := HL.out x (List.mem_of_getElem? hx)
     have hS := hide (ofL_snoc L k x hx)
     clear hx
     go_wp2_with fail
     refine (vset_any (w.heap.size + 1) w.heap.size n x _ wr hv hxn hn).mono ?_
     rintro e w2 ⟨rfl,hv2,hF2⟩
     have hvb := hv
     obtain ⟨cp,cs,_,hwb,_⟩ := hvb
     have hr2 := hr1.fr hwb (by decide) hF2
     have hB2 := hB.trans (hF2.below hB.size (fun g hg => by omega))
     go_wp2_with fail
     go_roundw
     case rel => exact ⟨k + 1,by omega,by go_num,by rw [hS.out]; exact hv2,hr2,hB2⟩
     case measure => simp [intOf]; omega
   · obtain rfl : m = k := by omega
     have e : L.take m = L := List.take_of_length_le (by rw [Hlen.out]; exact Nat.le_refl _)
     rw [e] at hv
     go_wp2_with fail
     go_ret
     exact ⟨rfl,hv,hB⟩
def Tab64 (w : World) : Prop := ∀ j,j < 64 → w.cell? ⟨1,j,none⟩ = some (.int .u8 ((Lib.deBruijn64tab.getD j 0 : Nat) : Int))
theorem Tab64.keep {w w' : World} {S : Nat → Prop} (h : Tab64 w) (hF : Fr S w w') (hn : ¬ S 1) : Tab64 w' := fun j hj => hF.cell (h j hj) hn
theorem Tab64.below {w w' : World} (h : Tab64 w) (hb : Below w.heap.size w w') : Tab64 w' := fun j hj => (hb.cell (World.block_lt_of_cell? w _ (h j hj))).trans (h j hj)
theorem tz_key (x a : Nat) (hx : x < 18446744073709551616) (hx0 : x ≠ 0) (hlow : x &&& (18446744073709551616 - x) = a) :
   IntKind.u64.wrap (bits BinOp.and IntKind.u64 (x : Int) (IntKind.u64.wrap (-(x : Int))) * 285870213051353865) / 288230376151711744 = ((a * 285870213051353865 % 18446744073709551616 / 288230376151711744 : Nat) : Int) := by
 have e1 : IntKind.u64.wrap (-(x : Int)) = ((18446744073709551616 - x : Nat) : Int) := by rw [IntKind.wrap_u64]; omega
 rw [e1,bits_and_u64_nat x _ hx (by omega),hlow,IntKind.wrap_u64]
 omega
theorem tz_any (x : B64) (w : World) (hx0 : x ≠ 0#64) (hT : Tab64 w) :
   Calls Tryz.prog 233 #[.int .u64 (UV x)] w fun e w' => ∃ k : Nat,e = .returned (.int .i64 k) ∧ k < 64 ∧ x.getLsbD k = true ∧ w = w' := by
 obtain ⟨X,hX⟩ : ∃ X,x.toNat = X := ⟨_,rfl⟩
 have hXl : X < 18446744073709551616 := by rw [← hX]; exact x.isLt
 have hX0 : X ≠ 0 := by
   intro h
   rw [h] at hX
   exact hx0 (BitVec.eq_of_toNat_eq (by simpa using hX))
 obtain ⟨hlow,hk⟩ := Lib.lowest_bit 64 X hX0 hXl
 obtain ⟨k,hkk⟩ : ∃ k,Lib.ctz 64 X = k := ⟨_,rfl⟩
 rw [hkk] at hlow hk
 obtain ⟨hi,htab⟩ := Lib.deBruijn64_at k hk
 have hcell := hT _ hi
 rw [htab] at hcell
 have key := tz_key X _ hXl hX0 hlow
 obtain ⟨idx,hidx⟩ : ∃ idx,2 ^ k * 285870213051353865 % 18446744073709551616 / 288230376151711744 = idx := ⟨_,rfl⟩
 rw [hidx] at key hi hcell
 have hbit : Hid (x.getLsbD k = true) := hide (by
   have h1 : (X &&& (18446744073709551616 - X)).testBit k = true := by rw [hlow]; simp
   rw [Nat.testBit_and] at h1
   have h2 : X.testBit k = true := by
     cases h : X.testBit k with
     | true => rfl
     | false => rw [h] at h1; simp at h1
   rw [← hX] at h2
   exact h2)
 have hU : UV x = (X : Int) := by unfold UV; rw [hX]
 rw [hU]
 have hz : ((X : Int) == 0) = false := by simp; omega
 clear hlow htab hkk hidx hX hU hX0
 go_enter Tryz.func233,Tryz.ntmps233
 go_wp2_with (simp only [key])
 go_ret
 exact ⟨k,rfl,hk,hbit.out,rfl⟩
theorem vfirst_none (p wb n : Nat) (w : World) (h : VecAt w p wb n 0#64) :
   Calls Tryz.prog 214 #[.pointer (some ⟨p,0,none⟩)] w fun e w' => e = .returned (.int .i64 (-1)) ∧ w = w' := by
 obtain ⟨cp,cs,h1,h2,h3,h4,h5⟩ := h
 have c1 := h1.cell (i := 1) (v := .slice (some ⟨wb,0,none⟩) 1 cp) rfl
 have cw : w.cell? ⟨wb,0,none⟩ = some (.int .u64 0) := h2.cell h3
 go_enter Tryz.func214,Tryz.ntmps214
 go_wp2_with fail
 go_loop [12] (fun u => ∃ k : Nat,k ≤ 1 ∧ u = .int .i64 (k : Int)) (fun u => 1 - (intOf u).toNat)
 case atStart => exact ⟨0,by omega,rfl⟩
 case round =>
   obtain ⟨k,hk,rfl⟩ := hrel
   match k,hk with
   | 0,_ =>
     go_wp2_with fail
     go_round
     case rel => exact ⟨1,by omega,rfl⟩
     case measure => simp [intOf]
   | 1,_ =>
     go_wp2_with fail
     go_ret
     exact ⟨rfl,rfl⟩
theorem vfirst_some (p wb n : Nat) (x : B64) (w : World) (h : VecAt w p wb n x) (hx : x ≠ 0#64) (hT : Tab64 w) :
   Calls Tryz.prog 214 #[.pointer (some ⟨p,0,none⟩)] w fun e w' => ∃ k : Nat,e = .returned (.int .i64 k) ∧ k < 64 ∧ x.getLsbD k = true ∧ w = w' := by
 obtain ⟨cp,cs,h1,h2,h3,h4,h5⟩ := h
 have c1 := h1.cell (i := 1) (v := .slice (some ⟨wb,0,none⟩) 1 cp) rfl
 have cw : w.cell? ⟨wb,0,none⟩ = some (.int .u64 (UV x)) := h2.cell h3
 have hz : (UV x != 0) = true := by
   simp
   intro h
   unfold UV at h
   exact hx (BitVec.eq_of_toNat_eq (by simpa using h))
 have htz := tz_any x w hx hT
 have Htz := hide htz
 clear htz hT
 go_enter Tryz.func214,Tryz.ntmps214
 go_wp2_with fail
 go_loop [12] (fun u => u = .int .i64 0) (fun u => 1 - (intOf u).toNat)
 case atStart => rfl
 case round =>
   subst hrel
   go_wp2_with fail
   refine Htz.out.mono ?_
   rintro e w' ⟨k,rfl,hk,hb,rfl⟩
   have hk' : (k : Int) < 64 := by omega
   have Hb := hide hb
   clear hb
   go_wp2_with fail
   go_ret
   exact ⟨k,rfl,hk,Hb.out,rfl⟩
end Go.Proofs.YtkkcpblfheplaaaGreatDoor
namespace Go.Proofs.YtkkcpblfheplaaaGreatDoor
open Go.RowKit
open Sol (store_deferred unlock_deferred lock_free)
theorem slow_217 (g t : Nat) (cs : Array Value) (w : World) (hb : Blk w g cs t) (h0 : cs[6]? = some (.int .u32 0)) (h1 : cs[7]? = some (.int .i32 0)) (cap : Value) (Q : World → Prop)
   (hF : Calls Tryz.prog 217 #[cap] (w.setCell ⟨g,7,none⟩ (.int .i32 1)) fun e w' => e = .returned (.tuple #[]) ∧ Q w' ∧ ∃ cs',Blk w' g cs' t ∧ cs'[6]? = some (.int .u32 0) ∧ cs'[7]? = some (.int .i32 1)) :
   Calls Tryz.prog 188 #[.pointer (some ⟨g,6,none⟩),.func (.func 217) #[] #[cap]] w fun e w' => e = .returned (.tuple #[]) ∧ ∃ w2,Q w2 ∧ w' = (w2.drew.setCell ⟨g,6,none⟩ (.int .u32 1)).setCell ⟨g,7,none⟩ (.int .i32 0) := by
 have c2 := hb.cell h1
 have f2 := hb.free 7
 have c1 : (w.setCell ⟨g,7,none⟩ (.int .i32 1)).cell? ⟨g,6,none⟩ = some (.int .u32 0) := (hb.setCellAt 7 (.int .i32 1) rfl).cell (by rw [Array.getElem?_setIfInBounds]; simp [h0])
 have hl := run_call_load (P := Tryz.prog) Tryz.func220 (by kernel_rfl) (by kernel_rfl) (by kernel_rfl) .u32 (by kernel_rfl) (w := w.setCell ⟨g,7,none⟩ (.int .i32 1)) (a := ⟨g,6,none⟩) (x := 0) c1
 have hnot : ∀ (x : Bool) (w : World),(Op.unary .not (.bool x)).run Tryz.prog w = .ok (.bool (!x)) w := fun _ _ => rfl
 go_enter_defers Tryz.func188,Tryz.ntmps188
 go_wp2_with (go_at_call 221; refine (lock_free ⟨g,7,none⟩ _ c2 f2).mono ?_; rintro e w' ⟨rfl,rfl⟩)
 go_wp2_with (first
   | (go_at_call 187; go_in)
   | (go_at_call 217; refine hF.mono ?_; rintro e w2 ⟨rfl,hQ,cs2,hb2,k0,k1⟩))
 refine leaves_cons (f := 223) (args := #[.pointer (some ⟨g,6,none⟩),.bool true]) (by simp) (by simp [go_sem]) ?_
 refine (store_deferred ⟨g,6,none⟩ (.int .u32 0) .returning _ (hb2.cell k0) (hb2.free 6)).mono ?_
 rintro e u' w'' ⟨rfl,rfl,rfl⟩
 have hb3 := (show Blk w2.drew g cs2 t from hb2).setCellAt 6 (.int .u32 1) rfl
 refine leaves_cons (f := 222) (args := #[.pointer (some ⟨g,7,none⟩)]) (by simp [settle]) (by simp [go_sem]) ?_
 refine (unlock_deferred ⟨g,7,none⟩ _ _ (hb3.cell (by rw [Array.getElem?_setIfInBounds]; simp [k1])) (hb3.free 7)).mono ?_
 rintro e u' w'' ⟨rfl,rfl,rfl⟩
 simp [Leaves,settle,results,Tryz.results188]
 exact ⟨w2,hQ,rfl⟩
theorem do_217 (g t : Nat) (cs : Array Value) (w : World) (hb : Blk w g cs t) (h0 : cs[6]? = some (.int .u32 0)) (h1 : cs[7]? = some (.int .i32 0)) (cap : Value) (Q : World → Prop)
   (hF : Calls Tryz.prog 217 #[cap] (w.setCell ⟨g,7,none⟩ (.int .i32 1)) fun e w' => e = .returned (.tuple #[]) ∧ Q w' ∧ ∃ cs',Blk w' g cs' t ∧ cs'[6]? = some (.int .u32 0) ∧ cs'[7]? = some (.int .i32 1)) :
   Calls Tryz.prog 142 #[.pointer (some ⟨g,6,none⟩),.func (.func 217) #[] #[cap]] w fun e w' => e = .returned (.tuple #[]) ∧ ∃ w2,Q w2 ∧ w' = (w2.drew.setCell ⟨g,6,none⟩ (.int .u32 1)).setCell ⟨g,7,none⟩ (.int .i32 0) := by
 have hl := run_call_load (P := Tryz.prog) Tryz.func220 (by kernel_rfl) (by kernel_rfl) (by kernel_rfl) .u32 (by kernel_rfl) (hb.cell h0)
 have hnot : ∀ (x : Bool) (w : World),(Op.unary .not (.bool x)).run Tryz.prog w = .ok (.bool (!x)) w := fun _ _ => rfl
 go_enter Tryz.func142,Tryz.ntmps142
 go_wp2_with (first | (go_at_call 188; refine (slow_217 g t cs _ hb h0 h1 cap Q hF).mono ?_; rintro e w' ⟨rfl,hm⟩) | (go_at_call 187; go_in))
 go_end0
 exact ⟨rfl,hm⟩
theorem slow_143 (g t : Nat) (cs : Array Value) (w : World) (hb : Blk w g cs t) (h0 : cs[5]? = some (.int .u32 0)) (h1 : cs[6]? = some (.int .i32 0)) (cap : Value) (Q : World → Prop)
   (hF : Calls Tryz.prog 143 #[cap] (w.setCell ⟨g,6,none⟩ (.int .i32 1)) fun e w' => e = .returned (.tuple #[]) ∧ Q w' ∧ ∃ cs',Blk w' g cs' t ∧ cs'[5]? = some (.int .u32 0) ∧ cs'[6]? = some (.int .i32 1)) :
   Calls Tryz.prog 188 #[.pointer (some ⟨g,5,none⟩),.func (.func 143) #[] #[cap]] w fun e w' => e = .returned (.tuple #[]) ∧ ∃ w2,Q w2 ∧ w' = (w2.drew.setCell ⟨g,5,none⟩ (.int .u32 1)).setCell ⟨g,6,none⟩ (.int .i32 0) := by
 have c2 := hb.cell h1
 have f2 := hb.free 6
 have c1 : (w.setCell ⟨g,6,none⟩ (.int .i32 1)).cell? ⟨g,5,none⟩ = some (.int .u32 0) := (hb.setCellAt 6 (.int .i32 1) rfl).cell (by rw [Array.getElem?_setIfInBounds]; simp [h0])
 have hl := run_call_load (P := Tryz.prog) Tryz.func220 (by kernel_rfl) (by kernel_rfl) (by kernel_rfl) .u32 (by kernel_rfl) (w := w.setCell ⟨g,6,none⟩ (.int .i32 1)) (a := ⟨g,5,none⟩) (x := 0) c1
 have hnot : ∀ (x : Bool) (w : World),(Op.unary .not (.bool x)).run Tryz.prog w = .ok (.bool (!x)) w := fun _ _ => rfl
 go_enter_defers Tryz.func188,Tryz.ntmps188
 go_wp2_with (go_at_call 221; refine (lock_free ⟨g,6,none⟩ _ c2 f2).mono ?_; rintro e w' ⟨rfl,rfl⟩)
 go_wp2_with (first
   | (go_at_call 187; go_in)
   | (go_at_call 143; refine hF.mono ?_; rintro e w2 ⟨rfl,hQ,cs2,hb2,k0,k1⟩))
 refine leaves_cons (f := 223) (args := #[.pointer (some ⟨g,5,none⟩),.bool true]) (by simp) (by simp [go_sem]) ?_
 refine (store_deferred ⟨g,5,none⟩ (.int .u32 0) .returning _ (hb2.cell k0) (hb2.free 5)).mono ?_
 rintro e u' w'' ⟨rfl,rfl,rfl⟩
 have hb3 := (show Blk w2.drew g cs2 t from hb2).setCellAt 5 (.int .u32 1) rfl
 refine leaves_cons (f := 222) (args := #[.pointer (some ⟨g,6,none⟩)]) (by simp [settle]) (by simp [go_sem]) ?_
 refine (unlock_deferred ⟨g,6,none⟩ _ _ (hb3.cell (by rw [Array.getElem?_setIfInBounds]; simp [k1])) (hb3.free 6)).mono ?_
 rintro e u' w'' ⟨rfl,rfl,rfl⟩
 simp [Leaves,settle,results,Tryz.results188]
 exact ⟨w2,hQ,rfl⟩
theorem do_143 (g t : Nat) (cs : Array Value) (w : World) (hb : Blk w g cs t) (h0 : cs[5]? = some (.int .u32 0)) (h1 : cs[6]? = some (.int .i32 0)) (cap : Value) (Q : World → Prop)
   (hF : Calls Tryz.prog 143 #[cap] (w.setCell ⟨g,6,none⟩ (.int .i32 1)) fun e w' => e = .returned (.tuple #[]) ∧ Q w' ∧ ∃ cs',Blk w' g cs' t ∧ cs'[5]? = some (.int .u32 0) ∧ cs'[6]? = some (.int .i32 1)) :
   Calls Tryz.prog 142 #[.pointer (some ⟨g,5,none⟩),.func (.func 143) #[] #[cap]] w fun e w' => e = .returned (.tuple #[]) ∧ ∃ w2,Q w2 ∧ w' = (w2.drew.setCell ⟨g,5,none⟩ (.int .u32 1)).setCell ⟨g,6,none⟩ (.int .i32 0) := by
 have hl := run_call_load (P := Tryz.prog) Tryz.func220 (by kernel_rfl) (by kernel_rfl) (by kernel_rfl) .u32 (by kernel_rfl) (hb.cell h0)
 have hnot : ∀ (x : Bool) (w : World),(Op.unary .not (.bool x)).run Tryz.prog w = .ok (.bool (!x)) w := fun _ _ => rfl
 go_enter Tryz.func142,Tryz.ntmps142
 go_wp2_with (first | (go_at_call 188; refine (slow_143 g t cs _ hb h0 h1 cap Q hF).mono ?_; rintro e w' ⟨rfl,hm⟩) | (go_at_call 187; go_in))
 go_end0
 exact ⟨rfl,hm⟩
end Go.Proofs.YtkkcpblfheplaaaGreatDoor
