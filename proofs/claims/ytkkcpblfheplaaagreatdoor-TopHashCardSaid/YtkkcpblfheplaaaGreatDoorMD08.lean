/- Contracts of functions that the laws of downpourtop reach, and plain facts; no condition beyond what each theorem states. -/
import Derived.Test.YtkkcpblfheplaaaGreatDoorMP01
set_option maxRecDepth 100000
set_option maxHeartbeats 8000000
set_option linter.all false
namespace Go.Proofs.YtkkcpblfheplaaaGreatDoor
open Go.RowKit
structure SSt where
 act : Nat
 trial : Nat
 fl : BitVec 32
 ge : BitVec 32
 v0 : BitVec 32
 n0 : Nat
 H0 : Option (List UInt8)
 v1 : BitVec 32
 n1 : Nat
 H1 : Option (List UInt8)
 on : Bool
 s : BitVec 32
 v : BitVec 32
 L : Nat
 S : Nat
 P : Nat
 H2 : Option (List UInt8)
def HSt (w : World) (x : Value) : Option (List UInt8) → Prop
 | none => x = .slice none 0 0
 | some H => ∃ A c,x = .slice A 32 c ∧ Rd w A 32 c H
theorem HSt.below {w w' : World} {x : Value} {H : Option (List UInt8)} (h : HSt w x H) (hb : Below w.heap.size w w') : HSt w' x H := by
 cases H with
 | none => exact h
 | some H =>
   obtain ⟨A,c,h1,h2⟩ := h
   exact ⟨A,c,h1,h2.below hb⟩
theorem HSt.set {w : World} {x : Value} {H : Option (List UInt8)} (h : HSt w x H) {g : Nat} {cs : Array Value} {t : TypeId} (hg : Blk w g cs t) (hu : ∀ (i : Nat) (y : Nat),cs[i]? ≠ some (.int .u8 (y : Int))) (i : Nat) (u : Value) : HSt (w.setCell ⟨g,i,none⟩ u) x H := by
 cases H with
 | none => exact h
 | some H =>
   obtain ⟨A,c,h1,h2⟩ := h
   exact ⟨A,c,h1,h2.fr (Fr.set (S := (· = g)) (Fr.refl _ _) (p := ⟨g,i,none⟩) (fun _ => rfl) u) (fun hn ad hA => h2.apart hg hu hn ad hA)⟩
theorem HSt.setRow {w : World} {x : Value} {H : Option (List UInt8)} (h : HSt w x H) {g : Nat} {cs : Array Value} {t : TypeId} (hg : Blk w g cs t) (hu : ∀ (i : Nat) (y : Nat),cs[i]? ≠ some (.int .u8 (y : Int))) (new : Array Value) : HSt (w.setRow g new) x H := by
 cases H with
 | none => exact h
 | some H =>
   obtain ⟨A,c,h1,h2⟩ := h
   exact ⟨A,c,h1,h2.fr (fr_setRow w g new) (fun hn ad hA => h2.apart hg hu hn ad hA)⟩
theorem HSt.fr {w w' : World} {S : Nat → Prop} {x : Value} {H : Option (List UInt8)} (h : HSt w x H) (hF : Fr S w w') (hn : ∀ A n c ad,x = .slice A n c → A = some ad → ¬ S ad.block) : HSt w' x H := by
 cases H with
 | none => exact h
 | some H =>
   obtain ⟨A,c,h1,h2⟩ := h
   exact ⟨A,c,h1,h2.fr hF (fun _ ad hA => hn A 32 c ad h1 hA)⟩
theorem HSt.form {w : World} {x : Value} {H : Option (List UInt8)} (h : HSt w x H) : ∃ A n c,x = .slice A n c := by
 cases H with
 | none => exact ⟨none,0,0,h⟩
 | some H => obtain ⟨A,c,h1,_⟩ := h; exact ⟨A,32,c,h1⟩
def stArr (q : SSt) (x0 x1 x2 : Value) : Array Value := steC q.act q.trial q.fl q.ge q.v0 q.n0 x0 q.v1 q.n1 x1 q.on q.s q.v q.L q.S q.P x2
def StC (w : World) (st : Array Value) (q : SSt) : Prop := ∃ x0 x1 x2,st = stArr q x0 x1 x2 ∧ HSt w x0 q.H0 ∧ HSt w x1 q.H1 ∧ HSt w x2 q.H2
theorem StC.below {w w' : World} {st : Array Value} {q : SSt} (h : StC w st q) (hb : Below w.heap.size w w') : StC w' st q := by
 obtain ⟨x0,x1,x2,h1,h2,h3,h4⟩ := h
 exact ⟨x0,x1,x2,h1,h2.below hb,h3.below hb,h4.below hb⟩
theorem StC.size {w : World} {st : Array Value} {q : SSt} (h : StC w st q) : (Tryz.prog.info? 46).map (·.size) = some st.size := by
 obtain ⟨x0,x1,x2,h1,_⟩ := h
 have : (Tryz.prog.info? 46).map (·.size) = some 17 := by kernel_rfl
 rw [this,h1]; rfl
theorem StC.size17 {w : World} {st : Array Value} {q : SSt} (h : StC w st q) : st.size = 17 := by
 obtain ⟨x0,x1,x2,h1,_⟩ := h
 rw [h1]; rfl
theorem stArr_u8 (q : SSt) (A0 A1 A2 : Option Addr) (a0 a1 a2 c0 c1 c2 : Nat) (i y : Nat) : (stArr q (.slice A0 a0 c0) (.slice A1 a1 c1) (.slice A2 a2 c2))[i]? ≠ some (.int .u8 (y : Int)) := by
 unfold stArr steC
 match i with
 | 0 | 1 | 2 | 3 | 4 | 5 | 6 | 7 | 8 | 9 | 10 | 11 | 12 | 13 | 14 | 15 | 16 => simp
 | k + 17 => simp
theorem StC.u8 {w : World} {st : Array Value} {q : SSt} (h : StC w st q) (i y : Nat) : st[i]? ≠ some (.int .u8 (y : Int)) := by
 obtain ⟨x0,x1,x2,h1,h2,h3,h4⟩ := h
 obtain ⟨A0,a0,c0,rfl⟩ := h2.form
 obtain ⟨A1,a1,c1,rfl⟩ := h3.form
 obtain ⟨A2,a2,c2,rfl⟩ := h4.form
 rw [h1]
 exact stArr_u8 q _ _ _ _ _ _ _ _ _ i y
theorem StC.one {w : World} {st : Array Value} {q : SSt} (h : StC w st q) : st.all (·.oneCell') = true := by
 obtain ⟨x0,x1,x2,h1,h2,h3,h4⟩ := h
 obtain ⟨A0,a0,c0,rfl⟩ := h2.form
 obtain ⟨A1,a1,c1,rfl⟩ := h3.form
 obtain ⟨A2,a2,c2,rfl⟩ := h4.form
 rw [h1]
 simp [stArr,steC,Value.oneCell']
theorem StC.setRow {w : World} {st : Array Value} {q : SSt} (h : StC w st q) {g : Nat} {cs : Array Value} {t : TypeId} (hg : Blk w g cs t) (hu : ∀ (i : Nat) (y : Nat),cs[i]? ≠ some (.int .u8 (y : Int))) (new : Array Value) : StC (w.setRow g new) st q := by
 obtain ⟨x0,x1,x2,h1,h2,h3,h4⟩ := h
 exact ⟨x0,x1,x2,h1,h2.setRow hg hu new,h3.setRow hg hu new,h4.setRow hg hu new⟩
theorem StC.set {w : World} {st : Array Value} {q : SSt} (h : StC w st q) {g : Nat} {cs : Array Value} {t : TypeId} (hg : Blk w g cs t) (hu : ∀ (i : Nat) (y : Nat),cs[i]? ≠ some (.int .u8 (y : Int))) (i : Nat) (u : Value) : StC (w.setCell ⟨g,i,none⟩ u) st q := by
 obtain ⟨x0,x1,x2,h1,h2,h3,h4⟩ := h
 exact ⟨x0,x1,x2,h1,h2.set hg hu i u,h3.set hg hu i u,h4.set hg hu i u⟩
def FrV (B : Nat) (x : Value) : Prop := ∀ A n c,x = .slice A n c → ∀ ad,A = some ad → B ≤ ad.block
def StF (B : Nat) (st : Array Value) : Prop := ∀ (i : Nat) x,st[i]? = some x → FrV B x
theorem FrV.nil (B : Nat) : FrV B (.slice none 0 0) := by
 intro A n c h ad hA
 simp only [Value.slice.injEq] at h
 rw [← h.1] at hA
 cases hA
theorem FrV.mono {B B' : Nat} {x : Value} (h : FrV B x) (hb : B' ≤ B) : FrV B' x := fun A n c e ad hA => Nat.le_trans hb (h A n c e ad hA)
theorem StF.mono {B B' : Nat} {st : Array Value} (h : StF B st) (hb : B' ≤ B) : StF B' st := fun i x e => (h i x e).mono hb
theorem FrV.mk {B n c : Nat} {A : Option Addr} (h : ∀ ad,A = some ad → B ≤ ad.block) : FrV B (.slice A n c) := by
 intro A' n' c' e ad hA
 simp only [Value.slice.injEq] at e
 rw [← e.1] at hA
 exact h ad hA
theorem FrV.own {w : World} {B n c : Nat} {e : TypeId} {A : Option Addr} {l : List UInt8} (h : Own w B e A n c l) : FrV B (.slice A n c) := FrV.mk fun ad hA => by
 rcases h.cases with ⟨h0,_⟩ | ⟨g,h0,hb,_⟩
 · rw [h0] at hA; cases hA
 · rw [h0] at hA; cases hA; exact hb
theorem frv_int (B : Nat) (k : IntKind) (n : Int) : FrV B (.int k n) := fun _ _ _ h => by cases h
theorem frv_bool (B : Nat) (b : Bool) : FrV B (.bool b) := fun _ _ _ h => by cases h
theorem stf_arr (q : SSt) {B : Nat} {x0 x1 x2 : Value} (h0 : FrV B x0) (h1 : FrV B x1) (h2 : FrV B x2) : StF B (stArr q x0 x1 x2) := by
 intro i x hx
 unfold stArr steC at hx
 match i,hx with
 | 0,hx | 1,hx | 2,hx | 3,hx | 4,hx | 5,hx | 7,hx | 8,hx | 11,hx | 12,hx | 13,hx | 14,hx | 15,hx => simp at hx; rw [← hx]; exact frv_int _ _ _
 | 6,hx => simp at hx; rw [← hx]; exact h0
 | 9,hx => simp at hx; rw [← hx]; exact h1
 | 10,hx => simp at hx; rw [← hx]; exact frv_bool _ _
 | 16,hx => simp at hx; rw [← hx]; exact h2
 | k + 17,hx => simp at hx
theorem StF.get {q : SSt} {B : Nat} {x0 x1 x2 : Value} (h : StF B (stArr q x0 x1 x2)) : FrV B x0 ∧ FrV B x1 ∧ FrV B x2 := ⟨h 6 _ rfl,h 9 _ rfl,h 16 _ rfl⟩
inductive SSt.Ok : SSt → Prop
 | off (fl ge v0 : BitVec 32) (n0 : Nat) (H0 : List UInt8) (h1 : 1 ≤ n0) (h2 : n0 ≤ 512) (h3 : H0.length = 32) : Ok ⟨0,0,fl,ge,v0,n0,some H0,0#32,0,none,false,0#32,0#32,0,0,0,none⟩
 | on (fl ge v0 : BitVec 32) (n0 : Nat) (H0 : List UInt8) (s v : BitVec 32) (L S P : Nat) (H2 : List UInt8) (h1 : 1 ≤ n0) (h2 : n0 ≤ 512) (h3 : H0.length = 32) (hm : manOk L S P = true) (hL : L ≤ 512) (hS : S ≤ 16) (hP : P ≤ 16) (h4 : H2.length = 32) :
     Ok ⟨0,0,fl,ge,v0,n0,some H0,0#32,0,none,true,s,v,L,S,P,some H2⟩
 | two (trial : Nat) (fl ge v0 v1 : BitVec 32) (n0 n1 : Nat) (H0 H1 : List UInt8) (ht : trial ≤ 3) (h1 : 1 ≤ n0) (h2 : n0 ≤ 512) (k1 : 1 ≤ n1) (k2 : n1 ≤ 512) (h3 : H0.length = 32) (h4 : H1.length = 32) :
     Ok ⟨1,trial,fl,ge,v0,n0,some H0,v1,n1,some H1,false,0#32,0#32,0,0,0,none⟩
theorem stmay_st (q : SSt) (hq : q.Ok) (st : Array Value) (w : World) (h : StC w st q) :
   Calls Tryz.prog 102 #[.agg st] w fun e w' => e = .returned (.bool true) ∧ Below w.heap.size w w' := by
 obtain ⟨x0,x1,x2,h1,h2,h3,h4⟩ := h
 subst h1
 cases hq with
 | off fl ge v0 n0 H0 k1 k2 k3 =>
   obtain ⟨A,c,rfl,_⟩ := h2
   cases h3
   cases h4
   exact stmay_first fl ge v0 n0 A c w k1 k2
 | on fl ge v0 n0 H0 s v L S P H2 k1 k2 k3 hm hL hS hP k4 =>
   obtain ⟨A,c,rfl,_⟩ := h2
   cases h3
   obtain ⟨B,d,rfl,_⟩ := h4
   exact stmay_on fl ge v0 s v n0 L S P A B c d w k1 k2 hm (by omega) (by omega)
 | two trial fl ge v0 v1 n0 n1 H0 H1 ht k1 k2 j1 j2 k3 k4 =>
   obtain ⟨A,c,rfl,_⟩ := h2
   obtain ⟨B,d,rfl,_⟩ := h3
   cases h4
   exact stmay_two trial fl ge v0 v1 n0 n1 A B c d w ht k1 k2 j1 j2
def slotL (v : BitVec 32) (n : Nat) : Option (List UInt8) → List UInt8
 | none => [0]
 | some H => [1] ++ four v ++ [byt ((n : Int) / 256),byt (n : Int)] ++ H
def nowL (q : SSt) : List UInt8 := match q.H2 with
 | none => [0]
 | some H => [1] ++ plainL q.s q.v q.L q.S q.P H
def bytesS (q : SSt) : List UInt8 := headL q.act q.trial q.fl q.ge ++ slotL q.v0 q.n0 q.H0 ++ slotL q.v1 q.n1 q.H1 ++ nowL q
theorem bytesS_len (q : SSt) (hq : q.Ok) : (bytesS q).length ≤ 133 := by
 cases hq with
 | off fl ge v0 n0 H0 k1 k2 k3 => simp [bytesS,headL_len,slotL,nowL,four_len,k3]
 | on fl ge v0 n0 H0 s v L S P H2 k1 k2 k3 hm hL hS hP k4 => simp [bytesS,headL_len,slotL,nowL,four_len,k3,plainL_len,k4]
 | two trial fl ge v0 v1 n0 n1 H0 H1 ht k1 k2 j1 j2 k3 k4 => simp [bytesS,headL_len,slotL,nowL,four_len,k3,k4]
theorem stbytes_st (q : SSt) (hq : q.Ok) (st : Array Value) (w : World) (h : StC w st q) :
   Calls Tryz.prog 68 #[.agg st] w fun e w' => ∃ A N c,e = .returned (.tuple #[.slice A N c,.int .i64 0]) ∧ Own w' w.heap.size 5 A N c (bytesS q) ∧ Below w.heap.size w w' := by
 have hm : ∀ w',Below w.heap.size w w' → Calls Tryz.prog 102 #[.agg st] w' fun e w'' => e = .returned (.bool true) ∧ Below w'.heap.size w' w'' := fun w' hb => stmay_st q hq st w' (h.below hb)
 obtain ⟨x0,x1,x2,h1,h2,h3,h4⟩ := h
 subst h1
 cases hq with
 | off fl ge v0 n0 H0 k1 k2 k3 =>
   obtain ⟨A,c,rfl,hA⟩ := h2
   cases h3
   cases h4
   exact stbytes_off 0 0 fl ge v0 0#32 n0 0 _ _ _ _ w (.inr ⟨k1,k2,A,c,H0,rfl,hA,rfl⟩) (.inl ⟨rfl,rfl,rfl,rfl⟩) hm
 | on fl ge v0 n0 H0 s v L S P H2 k1 k2 k3 hmo hL hS hP k4 =>
   obtain ⟨A,c,rfl,hA⟩ := h2
   cases h3
   obtain ⟨B,d,rfl,hB⟩ := h4
   exact stbytes_on 0 0 fl ge v0 0#32 n0 0 _ _ _ _ H2 s v L S P B d w hmo (by omega) (by omega) hB (.inr ⟨k1,k2,A,c,H0,rfl,hA,rfl⟩) (.inl ⟨rfl,rfl,rfl,rfl⟩) hm
 | two trial fl ge v0 v1 n0 n1 H0 H1 ht k1 k2 j1 j2 k3 k4 =>
   obtain ⟨A,c,rfl,hA⟩ := h2
   obtain ⟨B,d,rfl,hB⟩ := h3
   cases h4
   exact stbytes_off 1 trial fl ge v0 v1 n0 n1 _ _ _ _ w (.inr ⟨k1,k2,A,c,H0,rfl,hA,rfl⟩) (.inr ⟨j1,j2,B,d,H1,rfl,hB,rfl⟩) hm
theorem clone_nil (w : World) : Calls Tryz.prog 23 #[.slice none 0 0] w fun e w' => e = .returned (.slice none 0 0) ∧ w = w' := by
 have he := fun (w : World) => Lib.run_eql_slice_nil (P := Tryz.prog) (w := w)
 go_enter Tryz.func23,Tryz.ntmps23
 go_wp2_with fail
 go_ret
 exact ⟨rfl,rfl⟩
theorem clone_h (x : Value) (H : Option (List UInt8)) (w : World) (h : HSt w x H) : Calls Tryz.prog 23 #[x] w fun e w' => ∃ A n c,e = .returned (.slice A n c) ∧ HSt w' (.slice A n c) H ∧ Below w.heap.size w w' ∧ ∀ ad,A = some ad → w.heap.size ≤ ad.block := by
 cases H with
 | none =>
   cases h
   refine (clone_nil w).mono ?_
   rintro e w' ⟨rfl,rfl⟩
   exact ⟨none,0,0,rfl,rfl,Below.refl _ _,fun ad h => by cases h⟩
 | some H =>
   obtain ⟨A,c,rfl,hA⟩ := h
   refine (clone_any A 32 c H w hA (by omega)).mono ?_
   rintro e w' ⟨A',c',rfl,ho,hb⟩
   refine ⟨A',32,c',rfl,⟨A',c',rfl,ho.rd⟩,hb,fun ad hA => ?_⟩
   obtain ⟨g,rfl,hg,_⟩ := ho.form (by omega)
   cases hA
   exact hg
theorem Blk.setCellAt {w : World} {g : Nat} {cs cs' : Array Value} {t : TypeId} (h : Blk w g cs t) (i : Nat) (u : Value) (hcs : cs.setIfInBounds i u = cs') : Blk (w.setCell ⟨g,i,none⟩ u) g cs' t := by
 subst hcs
 exact h.set i u
theorem copied_st (q : SSt) (st : Array Value) (w : World) (h : StC w st q) :
   Calls Tryz.prog 186 #[.agg st] w fun e w' => ∃ st',e = .returned (.agg st') ∧ StC w' st' q ∧ Below w.heap.size w w' ∧ StF w.heap.size st' := by
 have hsz := h.size
 obtain ⟨x0,x1,x2,rfl,h2,h3,h4⟩ := h
 obtain ⟨st,hst⟩ : ∃ st,stArr q x0 x1 x2 = st := ⟨_,rfl⟩
 rw [hst] at hsz ⊢
 have hz0 : Blk ((w.alloc (.cells st 46)).alloc (.cells (steC 0 0 0#32 0#32 0#32 0 (.slice none 0 0) 0#32 0 (.slice none 0 0) false 0#32 0#32 0 0 0 (.slice none 0 0)) 46)) w.heap.size st 46 := heap_alloc2_old w _ _
 have hz1 : Blk ((w.alloc (.cells st 46)).alloc (.cells (steC 0 0 0#32 0#32 0#32 0 (.slice none 0 0) 0#32 0 (.slice none 0 0) false 0#32 0#32 0 0 0 (.slice none 0 0)) 46)) (w.heap.size + 1) (steC 0 0 0#32 0#32 0#32 0 (.slice none 0 0) 0#32 0 (.slice none 0 0) false 0#32 0#32 0 0 0 (.slice none 0 0)) 46 := heap_alloc2_new w _ _
 have hB0 : Below w.heap.size w ((w.alloc (.cells st 46)).alloc (.cells (steC 0 0 0#32 0#32 0#32 0 (.slice none 0 0) 0#32 0 (.slice none 0 0) false 0#32 0#32 0 0 0 (.slice none 0 0)) 46)) := ba (below_alloc1 _ _) _
 have h2 := h2.below hB0
 have h3 := h3.below hB0
 have h4 := h4.below hB0
 have H1 := hide hst
 clear hst
 go_enter Tryz.func186,Tryz.ntmps186
 go_wp2_with fail
 change Code.wp _ _ _ _ ((w.alloc (.cells st 46)).alloc (.cells (steC 0 0 0#32 0#32 0#32 0 (.slice none 0 0) 0#32 0 (.slice none 0 0) false 0#32 0#32 0 0 0 (.slice none 0 0)) 46))
 generalize (w.alloc (.cells st 46)).alloc (.cells (steC 0 0 0#32 0#32 0#32 0 (.slice none 0 0) 0#32 0 (.slice none 0 0) false 0#32 0#32 0 0 0 (.slice none 0 0)) 46) = w0 at *
 go_loopw [4] (fun u wr => ∃ (k : Nat) (y0 y1 : Value),k ≤ 2 ∧ u = .int .i64 (k : Int) ∧ Blk wr w.heap.size (stArr q y0 y1 x2) 46 ∧ Blk wr (w.heap.size + 1) (steC 0 0 0#32 0#32 0#32 0 (.slice none 0 0) 0#32 0 (.slice none 0 0) false 0#32 0#32 0 0 0 (.slice none 0 0)) 46 ∧ HSt wr y0 q.H0 ∧ HSt wr y1 q.H1 ∧ HSt wr x2 q.H2 ∧ Below w.heap.size w wr ∧ Hid ((1 ≤ k → FrV w.heap.size y0) ∧ (2 ≤ k → FrV w.heap.size y1))) (fun u _ => 2 - (intOf u).toNat)
 case atStart => exact ⟨0,x0,x1,by omega,rfl,by rw [H1.out]; exact hz0,hz1,h2,h3,h4,hB0,hide ⟨fun h => by omega,fun h => by omega⟩⟩
 case round =>
   clear hz0 hz1 h2 h3 h4 hB0
   obtain ⟨k,y0,y1,hk,rfl,hz0,hz1,h2,h3,h4,hB,hFR⟩ := hrel
   have hu : ∀ (i : Nat) (y : Nat),(stArr q y0 y1 x2)[i]? ≠ some (.int .u8 (y : Int)) := fun i y => StC.u8 ⟨y0,y1,x2,rfl,h2,h3,h4⟩ i y
   have hsr := hB.size
   have hlt := hz1.lt
   match k,hk with
   | 0,_ =>
     have c6 := hz0.cell (i := 6) (v := y0) rfl
     go_wp2_with fail
     refine (clone_h y0 q.H0 _ h2).mono ?_
     rintro e w1 ⟨A,n,c,rfl,hx,hb1,hfr⟩
     have hz0' := hz0.below hb1
     have hz1' := hz1.below hb1
     have h3' := h3.below hb1
     have h4' := h4.below hb1
     have hB1 := below_next hB hb1
     have c6' := hz0'.cell (i := 6) (v := y0) rfl
     have f6 := hz0'.free 6
     have hset := hz0'.setCellAt 6 (.slice A n c) (cs' := stArr q (.slice A n c) y1 x2) rfl
     clear hz0 hz1 h2 h3 h4 hB c6
     go_wp2_with fail
     go_roundw
     case rel => exact ⟨1,.slice A n c,y1,by omega,rfl,hset,hz1'.other (a := ⟨w.heap.size,6,none⟩) (show w.heap.size + 1 ≠ w.heap.size by omega) _,hx.set hz0' hu 6 _,h3'.set hz0' hu 6 _,h4'.set hz0' hu 6 _,hB1.setCell (p := ⟨w.heap.size,6,none⟩) (Nat.le_refl _) _,hide ⟨fun _ => FrV.mk fun ad hA => Nat.le_trans hsr (hfr ad hA),fun h => by omega⟩⟩
     case measure => simp [intOf]
   | 1,_ =>
     have c9 := hz0.cell (i := 9) (v := y1) rfl
     go_wp2_with fail
     refine (clone_h y1 q.H1 _ h3).mono ?_
     rintro e w1 ⟨A,n,c,rfl,hx,hb1,hfr⟩
     have hz0' := hz0.below hb1
     have hz1' := hz1.below hb1
     have h2' := h2.below hb1
     have h4' := h4.below hb1
     have hB1 := below_next hB hb1
     have c9' := hz0'.cell (i := 9) (v := y1) rfl
     have f9 := hz0'.free 9
     have hset := hz0'.setCellAt 9 (.slice A n c) (cs' := stArr q y0 (.slice A n c) x2) rfl
     clear hz0 hz1 h2 h3 h4 hB c9
     go_wp2_with fail
     go_roundw
     case rel => exact ⟨2,y0,.slice A n c,by omega,rfl,hset,hz1'.other (a := ⟨w.heap.size,9,none⟩) (show w.heap.size + 1 ≠ w.heap.size by omega) _,h2'.set hz0' hu 9 _,hx.set hz0' hu 9 _,h4'.set hz0' hu 9 _,hB1.setCell (p := ⟨w.heap.size,9,none⟩) (Nat.le_refl _) _,hide ⟨fun _ => hFR.out.1 (by omega),fun _ => FrV.mk fun ad hA => Nat.le_trans hsr (hfr ad hA)⟩⟩
     case measure => simp [intOf]
   | 2,_ =>
     have c16 := hz0.cell (i := 16) (v := x2) rfl
     go_wp2_with fail
     refine (clone_h x2 q.H2 _ h4).mono ?_
     rintro e w1 ⟨A,n,c,rfl,hx,hb1,hfr⟩
     have hz0' := hz0.below hb1
     have hz1' := hz1.below hb1
     have h2' := h2.below hb1
     have h3' := h3.below hb1
     have hB1 := below_next hB hb1
     have c16' := hz0'.cell (i := 16) (v := x2) rfl
     have f16 := hz0'.free 16
     have hset := hz0'.setCellAt 16 (.slice A n c) (cs' := stArr q y0 y1 (.slice A n c)) rfl
     have hz1s := hz1'.other (a := ⟨w.heap.size,16,none⟩) (show w.heap.size + 1 ≠ w.heap.size by omega) (.slice A n c)
     have hfin : StC (w1.setCell ⟨w.heap.size,16,none⟩ (.slice A n c)) (stArr q y0 y1 (.slice A n c)) q := ⟨y0,y1,_,rfl,h2'.set hz0' hu 16 _,h3'.set hz0' hu 16 _,hx.set hz0' hu 16 _⟩
     have hBf := hB1.setCell (p := ⟨w.heap.size,16,none⟩) (Nat.le_refl _) (.slice A n c)
     have hszf := hfin.size
     have h1f := hfin.one
     have hs17 := hfin.size17
     clear hz0 hz1 h2 h3 h4 hB c16
     go_upto_region 7 with fail
     change Code.wp _ _ _ _ (w1.setCell ⟨w.heap.size,16,none⟩ (.slice A n c))
     generalize w1.setCell ⟨w.heap.size,16,none⟩ (.slice A n c) = w2 at *
     go_wp2_with (first
       | ((with_reducible refine at_load ?_); refine wpList_load_row rfl 46 (.tmp 1) rfl w.heap.size rfl 46 (stArr q y0 y1 (.slice A n c)) (0,0) _ hset Tryz.underlying46 rfl hszf ?_)
       | ((with_reducible refine at_store ?_); refine wpList_store_row rfl 46 (.tmp 2) (.tmp 24) rfl (w.heap.size + 1) (stArr q y0 y1 (.slice A n c)) rfl rfl 46 _ hz1s hszf (by rw [hs17]; rfl) h1f ?_))
     refine bodyPost_ret (results_cell_row Tryz.results186 _ _ (w.heap.size + 1) 46 (stArr q y0 y1 (.slice A n c)) (0,0) _ rfl (hz1s.setRow _) Tryz.underlying46 rfl hszf) rfl ?_
     refine ⟨_,rfl,hfin.setRow hz1s ?_ _,below_setRow hBf (by omega) _,stf_arr q (hFR.out.1 (by omega)) (hFR.out.2 (by omega)) (FrV.mk fun ad hA => Nat.le_trans hsr (hfr ad hA))⟩
     intro i y
     exact stArr_u8 ⟨0,0,0#32,0#32,0#32,0,none,0#32,0,none,false,0#32,0#32,0,0,0,none⟩ none none none 0 0 0 0 0 0 i y
def stZ : Array Value := steC 0 0 0#32 0#32 0#32 0 (.slice none 0 0) 0#32 0 (.slice none 0 0) false 0#32 0#32 0 0 0 (.slice none 0 0)
theorem stZ_u8 (i y : Nat) : stZ[i]? ≠ some (.int .u8 (y : Int)) := stArr_u8 ⟨0,0,0#32,0#32,0#32,0,none,0#32,0,none,false,0#32,0#32,0,0,0,none⟩ none none none 0 0 0 0 0 0 i y
theorem slotC_u8 (v : BitVec 32) (n : Nat) (A : Option Addr) (a c : Nat) (i y : Nat) : (slotC v n (.slice A a c))[i]? ≠ some (.int .u8 (y : Int)) := by
 unfold slotC
 match i with
 | 0 | 1 | 2 => simp
 | k + 3 => simp
def offQ (fl ge v0 : BitVec 32) (n0 : Nat) (H0 : List UInt8) : SSt := ⟨0,0,fl,ge,v0,n0,some H0,0#32,0,none,false,0#32,0#32,0,0,0,none⟩
def onQ (fl ge v0 : BitVec 32) (n0 : Nat) (H0 : List UInt8) (s v : BitVec 32) (L S P : Nat) (H2 : List UInt8) : SSt := ⟨0,0,fl,ge,v0,n0,some H0,0#32,0,none,true,s,v,L,S,P,some H2⟩
def twoQ (trial : Nat) (fl ge v0 v1 : BitVec 32) (n0 n1 : Nat) (H0 H1 : List UInt8) : SSt := ⟨1,trial,fl,ge,v0,n0,some H0,v1,n1,some H1,false,0#32,0#32,0,0,0,none⟩
theorem bootfirst_any (v : BitVec 32) (A : Option Addr) (n c : Nat) (b : List UInt8) (w : World) (hr : Rd w A n c b) (h1 : 1 ≤ n) (h2 : n ≤ 512) :
   Calls Tryz.prog 25 #[.int .u32 (V v),.slice A n c] w fun e w' => ∃ st,e = .returned (.tuple #[.agg st,.bool true]) ∧ StC w' st (offQ 0#32 0#32 v n (sha b)) ∧ Below w.heap.size w w' ∧ StF w.heap.size st := by
 have hz0 : Blk (w.alloc (.cells stZ 46)) w.heap.size stZ 46 := Blk.new _ _ _
 have hB0 : Below w.heap.size w (w.alloc (.cells stZ 46)) := below_alloc1 _ _
 have hsl := fun w hr => slotof_any v A n c b w hr h1 h2
 unfold stZ at hz0 hB0
 go_enter Tryz.func25,Tryz.ntmps25
 go_wp2_with fail
 refine (hsl _ (hr.below hB0)).mono ?_
 rintro e w1 ⟨H,f,rfl,ho,hb1⟩
 have hFro := (FrV.own ho).mono hB0.size
 have hz1 := hz0.below hb1
 have hB1 := below_next hB0 hb1
 have hs0 := hB0.size
 have hs1 := hb1.size
 have hsz := size41 v n (.slice H 32 f)
 have hz2 : Blk (w1.alloc (.cells (slotC 0#32 0 (.slice none 0 0)) 41)) w1.heap.size (slotC 0#32 0 (.slice none 0 0)) 41 := Blk.new _ _ _
 have hB2 := ba hB1 (.cells (slotC 0#32 0 (.slice none 0 0)) 41)
 have hz1' := hz1.alloc (.cells (slotC 0#32 0 (.slice none 0 0)) 41)
 have ho2 := ho.rd.alloc (.cells (slotC 0#32 0 (.slice none 0 0)) 41)
 have hlt := hz1.lt
 go_upto_region 2 with (first
   | ((with_reducible refine at_store ?_); refine wpList_store_row rfl 41 (.tmp 6) (.tmp 12) rfl w1.heap.size (slotC v n (.slice H 32 f)) rfl rfl 41 (slotC 0#32 0 (.slice none 0 0)) hz2 hsz rfl (one41 _ _ _ _ _) ?_))
 have hz3 := hz2.setRow (slotC v n (.slice H 32 f))
 have hz13 := hz1'.setRow_other (k := w1.heap.size) (by omega) (slotC v n (.slice H 32 f))
 have hB3 := below_setRow hB2 (g := w1.heap.size) (by omega) (slotC v n (.slice H 32 f))
 have ho3 := ho2.fr (fr_setRow _ w1.heap.size (slotC v n (.slice H 32 f))) (fun hn ad hA => ho2.apart hz2 (slotC_u8 _ _ _ _ _) hn ad hA)
 change Code.wp _ _ _ _ (World.setRow (w1.alloc (.cells (slotC 0#32 0 (.slice none 0 0)) 41)) w1.heap.size (slotC v n (.slice H 32 f)))
 generalize World.setRow (w1.alloc (.cells (slotC 0#32 0 (.slice none 0 0)) 41)) w1.heap.size (slotC v n (.slice H 32 f)) = w3 at *
 clear hz2 hB2 hz1' ho2 hz1 ho hb1
 have hst : (Tryz.prog.info? 46).map (·.size) = some (stArr (offQ 0#32 0#32 v n (sha b)) (.slice H 32 f) (.slice none 0 0) (.slice none 0 0)).size := by
   have : (Tryz.prog.info? 46).map (·.size) = some 17 := by kernel_rfl
   rw [this]; rfl
 unfold slotC at *
 go_wp2_with (first
   | ((with_reducible refine at_load ?_); refine wpList_load_row rfl 41 (.tmp 6) rfl w1.heap.size rfl 41 #[.int .u32 (V v),.int .i64 n,.slice H 32 f] (0,0) _ hz3 Tryz.underlying41 rfl hsz ?_)
   | ((with_reducible refine at_store ?_); refine wpList_store_row rfl 46 (.tmp 4) (.tmp 19) rfl w.heap.size (stArr (offQ 0#32 0#32 v n (sha b)) (.slice H 32 f) (.slice none 0 0) (.slice none 0 0)) rfl rfl 46 _ hz13 hst rfl (by simp [stArr,steC,Value.oneCell',offQ]) ?_))
 refine bodyPost_ret (results_cell_slot Tryz.results25 _ _ w.heap.size 46 (stArr (offQ 0#32 0#32 v n (sha b)) (.slice H 32 f) (.slice none 0 0) (.slice none 0 0)) (0,0) _ _ rfl rfl (hz13.setRow _) Tryz.underlying46 rfl hst) rfl ?_
 refine ⟨_,rfl,⟨.slice H 32 f,.slice none 0 0,.slice none 0 0,rfl,⟨H,f,rfl,?_⟩,rfl,rfl⟩,below_setRow hB3 (Nat.le_refl _) _,stf_arr _ hFro (FrV.nil _) (FrV.nil _)⟩
 exact ho3.fr (fr_setRow _ w.heap.size _) (fun hn ad hA => ho3.apart hz13 stZ_u8 hn ad hA)
theorem drop_on (fl ge v0 : BitVec 32) (n0 : Nat) (H0 : List UInt8) (s v : BitVec 32) (L S P : Nat) (H2 : List UInt8) (hq : (onQ fl ge v0 n0 H0 s v L S P H2).Ok) (st : Array Value) (w : World) (h : StC w st (onQ fl ge v0 n0 H0 s v L S P H2)) :
   Calls Tryz.prog 140 #[.agg st] w fun e w' => ∃ st',e = .returned (.agg st') ∧ StC w' st' (offQ fl ge v0 n0 H0) ∧ Below w.heap.size w w' ∧ StF w.heap.size st' := by
 have hsz := h.size
 have hsz17 := h.size17
 have hz0 : Blk ((w.alloc (.cells st 46)).alloc (.cells stZ 46)) w.heap.size st 46 := heap_alloc2_old w _ _
 have hz1 : Blk ((w.alloc (.cells st 46)).alloc (.cells stZ 46)) (w.heap.size + 1) stZ 46 := heap_alloc2_new w _ _
 have hB0 : Below w.heap.size w ((w.alloc (.cells st 46)).alloc (.cells stZ 46)) := ba (below_alloc1 _ _) _
 have hC := h.below hB0
 unfold stZ at hz0 hz1 hB0 hC
 go_enter Tryz.func140,Tryz.ntmps140
 go_wp2_with (first
   | ((with_reducible refine at_load ?_); refine wpList_load_row rfl 46 (.tmp 1) rfl w.heap.size rfl 46 st (0,0) _ hz0 Tryz.underlying46 rfl hsz ?_))
 refine (stmay_st _ hq st _ hC).mono ?_
 rintro e w1 ⟨rfl,hb1⟩
 have hz0' := hz0.below hb1
 have hz1' := hz1.below hb1
 have hC1 := hC.below hb1
 have hB1 := below_next hB0 hb1
 clear hz0 hz1 hC hB0 hb1
 go_wp2_with (first
   | ((with_reducible refine at_load ?_); refine wpList_load_row rfl 46 (.tmp 1) rfl w.heap.size rfl 46 st (0,0) _ hz0' Tryz.underlying46 rfl hsz ?_))
 refine (copied_st _ st _ hC1).mono ?_
 rintro e w2 ⟨st2,rfl,hC2,hb2,hF2⟩
 have hF2 := hF2.mono hB1.size
 have hz0 := hz0'.below hb2
 have hz1 := hz1'.below hb2
 have hB2 := below_next hB1 hb2
 have hsz2 := hC2.size
 have hone2 := hC2.one
 have h172 := hC2.size17
 have hC3 := hC2.setRow hz0 h.u8 st2
 have hz03 := hz0.setRow st2
 have hz13 := hz1.setRow_other (k := w.heap.size) (by omega) st2
 have hB3 := below_setRow hB2 (g := w.heap.size) (by omega) st2
 go_upto_region 4 with (first
   | ((with_reducible refine at_store ?_); refine wpList_store_row rfl 46 (.tmp 1) (.tmp 8) rfl w.heap.size st2 rfl rfl 46 st hz0 hsz2 (by rw [hsz17,h172]) hone2 ?_))
 change Code.wp _ _ _ _ (World.setRow w2 w.heap.size st2)
 generalize World.setRow w2 w.heap.size st2 = w3 at *
 clear hz0 hz1 hC2 hB2 hz0' hz1' hC1 hB1 hb2
 obtain ⟨x0,x1,x2,rfl,k0,k1,k2⟩ := hC3
 obtain ⟨A,c,rfl,hA⟩ := k0
 cases k1
 obtain ⟨B,d,rfl,hBd⟩ := k2
 have c10 := hz03.cell (i := 10) (v := .bool true) rfl
 have f10 := hz03.free 10
 have hz04 := hz03.setCellAt 10 (.bool false) (cs' := steC 0 0 fl ge v0 n0 (.slice A 32 c) 0#32 0 (.slice none 0 0) false s v L S P (.slice B 32 d)) rfl
 have hu3 : ∀ (i y : Nat),(stArr (onQ fl ge v0 n0 H0 s v L S P H2) (.slice A 32 c) (.slice none 0 0) (.slice B 32 d))[i]? ≠ some (.int .u8 (y : Int)) := fun i y => stArr_u8 _ _ _ _ _ _ _ _ _ _ i y
 have hsz44 := size44 0#32 0#32 0 0 0 (.slice none 0 0)
 have hz14 := hz13.other (a := ⟨w.heap.size,10,none⟩) (show w.heap.size + 1 ≠ w.heap.size by omega) (.bool false)
 have hA4 := (HSt.set (H := some H0) ⟨A,c,rfl,hA⟩ hz03 hu3 10 (.bool false))
 have hB4 := hB3.setCell (p := ⟨w.heap.size,10,none⟩) (Nat.le_refl _) (.bool false)
 have hu4 : ∀ (i y : Nat),(steC 0 0 fl ge v0 n0 (.slice A 32 c) 0#32 0 (.slice none 0 0) false s v L S P (.slice B 32 d))[i]? ≠ some (.int .u8 (y : Int)) := fun i y => stArr_u8 ⟨0,0,fl,ge,v0,n0,none,0#32,0,none,false,s,v,L,S,P,none⟩ _ _ _ _ _ _ _ _ _ i y
 go_upto_region 5 with (first
   | ((with_reducible refine at_build ?_); refine wpList_build_as rfl 44 #[] rfl (manC 0#32 0#32 0 0 0 (.slice none 0 0)) (by kernel_rfl) ?_)
   | ((with_reducible refine at_store ?_); refine wpList_store_part rfl 44 (.tmp 11) (.tmp 9) rfl w.heap.size 11 (manC 0#32 0#32 0 0 0 (.slice none 0 0)) rfl rfl 46 _ (stArr (offQ fl ge v0 n0 H0) (.slice A 32 c) (.slice none 0 0) (.slice none 0 0)) hz04 hsz44 (by simp [manC,steC]) rfl (one44 _ _ _ _ _ _ _ _) ?_))
 have hz05 := hz04.setRow (stArr (offQ fl ge v0 n0 H0) (.slice A 32 c) (.slice none 0 0) (.slice none 0 0))
 have hz15 := hz14.setRow_other (k := w.heap.size) (by omega) (stArr (offQ fl ge v0 n0 H0) (.slice A 32 c) (.slice none 0 0) (.slice none 0 0))
 have hC5 : StC (World.setRow (w3.setCell ⟨w.heap.size,10,none⟩ (.bool false)) w.heap.size (stArr (offQ fl ge v0 n0 H0) (.slice A 32 c) (.slice none 0 0) (.slice none 0 0))) (stArr (offQ fl ge v0 n0 H0) (.slice A 32 c) (.slice none 0 0) (.slice none 0 0)) (offQ fl ge v0 n0 H0) := ⟨_,_,_,rfl,hA4.setRow hz04 hu4 _,rfl,rfl⟩
 have hB5 := below_setRow hB4 (g := w.heap.size) (by omega) (stArr (offQ fl ge v0 n0 H0) (.slice A 32 c) (.slice none 0 0) (.slice none 0 0))
 have hsz5 := hC5.size
 have hone5 := hC5.one
 change Code.wp _ _ _ _ (World.setRow (w3.setCell ⟨w.heap.size,10,none⟩ (.bool false)) w.heap.size (stArr (offQ fl ge v0 n0 H0) (.slice A 32 c) (.slice none 0 0) (.slice none 0 0)))
 generalize World.setRow (w3.setCell ⟨w.heap.size,10,none⟩ (.bool false)) w.heap.size (stArr (offQ fl ge v0 n0 H0) (.slice A 32 c) (.slice none 0 0) (.slice none 0 0)) = w5 at *
 go_wp2_with (first
   | ((with_reducible refine at_load ?_); refine wpList_load_row rfl 46 (.tmp 1) rfl w.heap.size rfl 46 _ (0,0) _ hz05 Tryz.underlying46 rfl hsz5 ?_)
   | ((with_reducible refine at_store ?_); refine wpList_store_row rfl 46 (.tmp 2) (.tmp 12) rfl (w.heap.size + 1) (stArr (offQ fl ge v0 n0 H0) (.slice A 32 c) (.slice none 0 0) (.slice none 0 0)) rfl rfl 46 _ hz15 hsz5 rfl hone5 ?_))
 refine bodyPost_ret (results_cell_row Tryz.results140 _ _ (w.heap.size + 1) 46 (stArr (offQ fl ge v0 n0 H0) (.slice A 32 c) (.slice none 0 0) (.slice none 0 0)) (0,0) _ rfl (hz15.setRow _) Tryz.underlying46 rfl hsz5) rfl ?_
 exact ⟨_,rfl,hC5.setRow hz15 stZ_u8 _,below_setRow hB5 (by omega) _,stf_arr _ hF2.get.1 (FrV.nil _) (FrV.nil _)⟩
theorem numB_four (v : BitVec 32) : numB (four v) = v := by
 apply BitVec.eq_of_toNat_eq
 rw [numB_num _ (by simp [four_len])]
 have hb := v.isLt
 have e1 := byt_val (V v / 16777216)
 have e2 := byt_val (V v / 65536)
 have e3 := byt_val (V v / 256)
 have e4 := byt_val (V v)
 simp only [num,four,List.foldl]
 unfold V at *
 omega
theorem numB_pair (n : Nat) (h : n < 65536) : V (numB [byt ((n : Int) / 256),byt (n : Int)]) = (n : Int) := by
 have e1 := byt_val ((n : Int) / 256)
 have e2 := byt_val (n : Int)
 have h2 := numB_num [byt ((n : Int) / 256),byt (n : Int)] (by simp)
 simp only [num,List.foldl] at h2
 unfold V
 omega
theorem eraseN_get (l : List UInt8) (s j : Nat) (x : UInt8) (hx : l[j]? = some x) : ∀ k,(eraseN l s k)[j]? = some (if s * 256 ≤ j ∧ j < s * 256 + k then 255 else x) := by
 intro k
 induction k with
 | zero => rw [if_neg (by omega)]; exact hx
 | succ k ih =>
   have hj : j < l.length := (List.getElem?_eq_some_iff.1 hx).1
   unfold eraseN
   rw [List.getElem?_set]
   by_cases e : s * 256 + k = j
   · rw [if_pos e,if_pos (by rw [eraseN_len]; omega),if_pos (by omega)]
   · rw [if_neg e,ih]
     by_cases h : s * 256 ≤ j ∧ j < s * 256 + k
     · rw [if_pos h,if_pos (by omega)]
     · rw [if_neg h,if_neg (by omega)]
theorem writeC_len (l b : List UInt8) : (writeC l b).length = l.length := by unfold writeC; rw [progN_len,progN_len,eraseN_len]
theorem writeC_other (l b : List UInt8) (j : Nat) (hl : b.length ≤ 245) (h : ¬ (toC l * 256 ≤ j ∧ j < toC l * 256 + 256)) : (writeC l b)[j]? = l[j]? := by
 by_cases hj : j < l.length
 · have hx : l[j]? = some l[j] := List.getElem?_eq_getElem hj
   have h1 := eraseN_get l (toC l) j _ hx 256
   rw [if_neg h] at h1
   have h2 := progN_get _ (toC l * 256) (putL (copL (numC l + 1#32) b)) j _ h1 (6 + b.length + 4)
   rw [if_neg (by omega)] at h2
   have h3 := progN_get _ (toC l * 256 + (6 + b.length + 4)) [0] j _ h2 1
   rw [if_neg (by omega)] at h3
   unfold writeC
   rw [h3,hx]
 · rw [List.getElem?_eq_none (by rw [writeC_len]; omega),List.getElem?_eq_none (by omega)]
theorem sec_get (l : List UInt8) (s i : Nat) (hi : i < 256) : (sec l s)[i]? = l[s * 256 + i]? := by
 unfold sec
 rw [List.getElem?_take,if_pos hi,List.getElem?_drop]
theorem sec_same {l l' : List UInt8} {s : Nat} (h : ∀ j,s * 256 ≤ j → j < s * 256 + 256 → l'[j]? = l[j]?) : sec l' s = sec l s := by
 apply List.ext_getElem?
 intro i
 by_cases hi : i < 256
 · rw [sec_get _ _ _ hi,sec_get _ _ _ hi,h _ (by omega) (by omega)]
 · unfold sec
   rw [List.getElem?_take,List.getElem?_take,if_neg hi,if_neg hi]
theorem writeC_at (l b : List UInt8) (i : Nat) (hl : l.length = 3584) (hb : b.length ≤ 245) (hi : i < 256) :
   (writeC l b)[toC l * 256 + i]? = some (if i < 6 + b.length + 4 then (putL (copL (numC l + 1#32) b)).getD i 0 else if i = 6 + b.length + 4 then 0 else 255) := by
 have ht := toC_lt l
 have hj : toC l * 256 + i < l.length := by omega
 have hx : l[toC l * 256 + i]? = some l[toC l * 256 + i] := List.getElem?_eq_getElem hj
 have h1 := eraseN_get l (toC l) _ _ hx 256
 rw [if_pos (by omega)] at h1
 have h2 := progN_get _ (toC l * 256) (putL (copL (numC l + 1#32) b)) _ _ h1 (6 + b.length + 4)
 by_cases c1 : i < 6 + b.length + 4
 · rw [if_pos (by omega),and_255,Nat.add_sub_cancel_left] at h2
   have h3 := progN_get _ (toC l * 256 + (6 + b.length + 4)) [0] _ _ h2 1
   rw [if_neg (by omega)] at h3
   unfold writeC
   rw [h3,if_pos c1]
 · rw [if_neg (by omega)] at h2
   have h3 := progN_get _ (toC l * 256 + (6 + b.length + 4)) [0] _ _ h2 1
   unfold writeC
   rw [h3,if_neg c1]
   by_cases c2 : i = 6 + b.length + 4
   · subst c2
     rw [if_pos (by omega),if_pos rfl,and_255,Nat.sub_self]
     rfl
   · rw [if_neg (by omega),if_neg c2]
theorem num4_four (v : BitVec 32) : num4 (byt (V v / 16777216)) (byt (V v / 65536)) (byt (V v / 256)) (byt (V v)) = v := by
 apply V_inj
 rw [← V_num4]
 have hb := V_bd v
 have e1 := byt_val (V v / 16777216)
 have e2 := byt_val (V v / 65536)
 have e3 := byt_val (V v / 256)
 have e4 := byt_val (V v)
 have h := numB_four v
 have h2 := numB_num (four v) (by simp [four_len])
 rw [h] at h2
 have h3 := V_num4 (byt (V v / 16777216)) (byt (V v / 65536)) (byt (V v / 256)) (byt (V v))
 rw [h3]
 unfold num4
 have e : four v = [byt (V v / 16777216),byt (V v / 65536),byt (V v / 256),byt (V v)] := rfl
 have hn : numB (four v) = (((0#32 <<< 8 ||| CrcP.bw (byt (V v / 16777216))) <<< 8 ||| CrcP.bw (byt (V v / 65536))) <<< 8 ||| CrcP.bw (byt (V v / 256))) <<< 8 ||| CrcP.bw (byt (V v)) := by rw [e]; rfl
 have hq : num4 (byt (V v / 16777216)) (byt (V v / 65536)) (byt (V v / 256)) (byt (V v)) = numB (four v) := by
   rw [hn]
   unfold num4
   generalize CrcP.bw (byt (V v / 16777216)) = a
   generalize CrcP.bw (byt (V v / 65536)) = b
   generalize CrcP.bw (byt (V v / 256)) = c
   generalize CrcP.bw (byt (V v)) = d
   simp only [BitVec.shiftLeft_or_distrib,← BitVec.shiftLeft_add,BitVec.zero_shiftLeft,BitVec.zero_or]
 unfold num4 at hq
 rw [hq,h]
theorem wholeC_write (l b : List UInt8) (hl : l.length = 3584) (hb : b.length ≤ 245) : wholeC (sec (writeC l b) (toC l)) = some (numC l + 1#32,b) := by
 obtain ⟨N,hN⟩ : ∃ N,numC l + 1#32 = N := ⟨_,rfl⟩
 obtain ⟨q,hq⟩ : ∃ q,sec (writeC l b) (toC l) = q := ⟨_,rfl⟩
 have hg : ∀ i,i < 256 → q[i]? = some (if i < 6 + b.length + 4 then (putL (copL N b)).getD i 0 else if i = 6 + b.length + 4 then 0 else 255) := by
   intro i hi
   rw [← hq,sec_get _ _ _ hi,writeC_at l b i hl hb hi,hN]
 have hcl := copL_len N b
 have hpl := putL_len (copL N b)
 have h8 : ∀ i,i < 6 + b.length + 4 → q8 q i = (putL (copL N b)).getD i 0 := by
   intro i hi
   unfold q8
   rw [List.getD_eq_getElem?_getD,hg i (by omega),if_pos hi]
   rfl
 have hput : ∀ i,i < 6 + b.length → (putL (copL N b)).getD i 0 = (copL N b).getD i 0 := by
   intro i hi
   rw [List.getD_eq_getElem?_getD,List.getD_eq_getElem?_getD]
   unfold putL
   rw [List.getElem?_append_left (by omega)]
 have e0 : q8 q 0 = byt (V N / 16777216) := by rw [h8 0 (by omega),hput 0 (by omega)]; rfl
 have e1 : q8 q 1 = byt (V N / 65536) := by rw [h8 1 (by omega),hput 1 (by omega)]; rfl
 have e2 : q8 q 2 = byt (V N / 256) := by rw [h8 2 (by omega),hput 2 (by omega)]; rfl
 have e3 : q8 q 3 = byt (V N) := by rw [h8 3 (by omega),hput 3 (by omega)]; rfl
 have e4 : q8 q 4 = byt ((b.length : Int) / 256) := by rw [h8 4 (by omega),hput 4 (by omega)]; rfl
 have e5 : q8 q 5 = byt (b.length : Int) := by rw [h8 5 (by omega),hput 5 (by omega)]; rfl
 have hcn : copN q = b.length := by
   unfold copN
   rw [e4,e5]
   have h1 := byt_val ((b.length : Int) / 256)
   have h2 := byt_val (b.length : Int)
   omega
 have hmark : q8 q (copN q + 10) = 0 := by
   rw [hcn]
   unfold q8
   rw [List.getD_eq_getElem?_getD,hg _ (by omega),if_neg (by omega),if_pos (by omega)]
   rfl
 have t10 : q.take (b.length + 10) = putL (copL N b) := by
   apply List.ext_getElem?
   intro i
   rw [List.getElem?_take]
   by_cases hi : i < b.length + 10
   · rw [if_pos hi,hg i (by omega),if_pos (by omega),List.getD_eq_getElem?_getD,List.getElem?_eq_getElem (by omega)]
     rfl
   · rw [if_neg hi,List.getElem?_eq_none (by omega)]
 have t6 : q.take (b.length + 6) = copL N b := by
   have : q.take (b.length + 6) = (q.take (b.length + 10)).take (b.length + 6) := by rw [List.take_take]; congr 1; omega
   rw [this,t10]
   have := putL_take (copL N b)
   rw [hcl] at this
   rw [show b.length + 6 = 6 + b.length by omega]
   exact this
 unfold wholeC
 rw [hq,hcn,if_neg (by omega)]
 rw [hcn] at hmark
 rw [if_neg (by simp [hmark]),t6,t10,if_neg (by simp),e0,e1,e2,e3,num4_four,hN]
 rfl
theorem found_write (l b : List UInt8) (hl : l.length = 3584) (hb : b.length ≤ 245) (hn : (numC l).toNat + 1 < 4294967296) : foundC (writeC l b) = some (toC l,numC l + 1#32,b) := by
 have hw := wholeC_write l b hl hb
 have ho : ∀ s,s ≠ toC l → s < 2 → sec (writeC l b) s = sec l s := fun s hs _ => sec_same fun j h1 h2 => writeC_other l b j hb (by omega)
 have hN : (numC l + 1#32).toNat = (numC l).toNat + 1 := by
   rw [BitVec.toNat_add]
   show ((numC l).toNat + 1) % 4294967296 = _
   omega
 cases hf : foundC l with
 | none =>
   have ht : toC l = 0 := by unfold toC; rw [hf]
   have h1 := ho 1 (by omega) (by omega)
   rw [ht] at hw ⊢
   have hf' := hf
   unfold foundC stC at hf'
   have hw1 : wholeC (sec l 1) = none := by
     cases h : wholeC (sec l 1) with
     | none => rfl
     | some p =>
       obtain ⟨x,d⟩ := p
       rw [h] at hf'
       unfold nextC at hf'
       cases h2 : stC l 1 with
       | none => rw [h2] at hf'; cases hf'
       | some r =>
         obtain ⟨j,y,d2⟩ := r
         rw [h2] at hf'
         simp only at hf'
         split at hf' <;> cases hf'
   show nextC (nextC none 0 (wholeC (sec (writeC l b) 0))) 1 (wholeC (sec (writeC l b) 1)) = _
   rw [h1,hw1,hw]
   rfl
 | some r =>
   obtain ⟨i,x,d⟩ := r
   have hx : numC l = x := by unfold numC; rw [hf]
   have hi := stC_lt l 2 i x d hf
   have hf' := hf
   unfold foundC at hf'
   have hst1 : stC l 1 = nextC none 0 (wholeC (sec l 0)) := rfl
   have hst2 : stC l 2 = nextC (stC l 1) 1 (wholeC (sec l 1)) := rfl
   rw [hst2,hst1] at hf'
   match i,hi with
   | 0,_ =>
     have ht : toC l = 1 := by unfold toC; rw [hf]; rfl
     rw [ht] at hw ⊢
     have h0 := ho 0 (by omega) (by omega)
     show nextC (nextC none 0 (wholeC (sec (writeC l b) 0))) 1 (wholeC (sec (writeC l b) 1)) = _
     rw [h0,hw]
     have hw0 : wholeC (sec l 0) = some (x,d) := by
       cases h : wholeC (sec l 0) with
       | none =>
         rw [h] at hf'
         unfold nextC at hf'
         simp only at hf'
         cases h2 : wholeC (sec l 1) with
         | none => rw [h2] at hf'; cases hf'
         | some p => rw [h2] at hf'; simp at hf'
       | some p =>
         obtain ⟨y,e⟩ := p
         rw [h] at hf'
         unfold nextC at hf'
         simp only at hf'
         cases h2 : wholeC (sec l 1) with
         | none => rw [h2] at hf'; simp at hf'; simp [hf']
         | some p2 =>
           obtain ⟨z,e2⟩ := p2
           rw [h2] at hf'
           simp only at hf'
           split at hf'
           · simp at hf'
           · simp at hf'; simp [hf']
     rw [hw0]
     unfold nextC
     simp only
     rw [if_pos (by rw [← hx]; omega)]
   | 1,_ =>
     have ht : toC l = 0 := by unfold toC; rw [hf]; rfl
     rw [ht] at hw ⊢
     have h1 := ho 1 (by omega) (by omega)
     show nextC (nextC none 0 (wholeC (sec (writeC l b) 0))) 1 (wholeC (sec (writeC l b) 1)) = _
     rw [h1,hw]
     have hw1 : wholeC (sec l 1) = some (x,d) := by
       cases h2 : wholeC (sec l 1) with
       | none =>
         rw [h2] at hf'
         unfold nextC at hf'
         simp only at hf'
         cases h : wholeC (sec l 0) with
         | none => rw [h] at hf'; cases hf'
         | some p => rw [h] at hf'; simp at hf'
       | some p2 =>
         obtain ⟨z,e2⟩ := p2
         rw [h2] at hf'
         unfold nextC at hf'
         simp only at hf'
         cases h : wholeC (sec l 0) with
         | none => rw [h] at hf'; simp at hf'; simp [hf']
         | some p =>
           obtain ⟨y,e⟩ := p
           rw [h] at hf'
           simp only at hf'
           split at hf'
           · simp at hf'; simp [hf']
           · simp at hf'
     rw [hw1]
     unfold nextC
     simp only
     rw [if_neg (by rw [← hx]; omega)]
theorem found_same {l l' : List UInt8} (h : ∀ j,j < 512 → l'[j]? = l[j]?) : foundC l' = foundC l := by
 have h0 : sec l' 0 = sec l 0 := sec_same fun j _ h2 => h j (by omega)
 have h1 : sec l' 1 = sec l 1 := sec_same fun j _ h2 => h j (by omega)
 show nextC (nextC none 0 (wholeC (sec l' 0))) 1 (wholeC (sec l' 1)) = nextC (nextC none 0 (wholeC (sec l 0))) 1 (wholeC (sec l 1))
 rw [h0,h1]
theorem run_call_loadp {P : Program} {f : FuncId} {fn : Func} (hf : P.funcs[f]? = some fn) (hname : (fn.name == "runtime.NumGoroutine") = false) (hb : fn.body.isNone = true) (hn : Extern.findNext fn = none)
   (he : Extern.find fn = some (Extern.Atomic.loadT .ptr)) {a : Addr} {x : Option Addr} {w : World} (hc : w.cell? a = some (.pointer x)) :
   (callFunc f #[.pointer (some a)]).run P w = .ok (.value (.pointer x)) w := by
 rw [run_callFunc_extern hf hname hb hn he]
 change (Sem.run P (do Extern.Atomic.read .ptr (← asAddr (.pointer (some a)))) w).andThen _ = _
 simp [Extern.Atomic.read,asAddr,hc,Result.andThen]
theorem run_call_storep {P : Program} {f : FuncId} {fn : Func} (hf : P.funcs[f]? = some fn) (hname : (fn.name == "runtime.NumGoroutine") = false) (hb : fn.body.isNone = true) (hn : Extern.findNext fn = none)
   (he : Extern.find fn = some Extern.Atomic.storeT) {a : Addr} {y : Option Addr} {u : Value} {w : World} (hc : w.cell? a = some u) (hz : w.frozen? a = false) :
   (callFunc f #[.pointer (some a),.pointer y]).run P w = .ok (.value (.tuple #[])) (w.setCell a (.pointer y)) := by
 rw [run_callFunc_extern hf hname hb hn he]
 change (Sem.run P (do
   store (← asAddr (.pointer (some a))) (.pointer y) .atomic
   pure Extern.Atomic.none_) w).andThen _ = _
 simp [asAddr,hc,hz,run_store P w a (.pointer y) .atomic rfl,Result.andThen,Extern.Atomic.none_]
theorem run_from_unsafe (w : World) (g : Nat) (cs : Array Value) (h : Blk w g cs 90) (hs : cs.size = 18) : (convert 73 69 (.pointer (some ⟨g,0,none⟩))).run Tryz.prog w = .ok (.pointer (some ⟨g,0,none⟩)) w := by
 have hz : (Tryz.prog.info? 90).map (fun i => decide (i.size = 0)) = some false := by kernel_rfl
 obtain ⟨i,hi,hz0⟩ := Option.map_eq_some_iff.1 hz
 have hz1 : i.size ≠ 0 := by simpa using hz0
 unfold Blk at h
 have hl : liesAt Tryz.prog Tryz.prog.depth 90 (18 / Tryz.prog.cellsOf 90) 0 90 1 = true := by kernel_rfl
 have hsh : w.shape? g = some (90,18) := by
   unfold World.shape?
   simp [h,hs]
 simp [convert,Conv.unsafePointer,Conv.seenAt,viewAt,variablesAt,sizeOf,typeInfo,run_underlying Tryz.underlying73,run_underlying Tryz.underlying69,hi,hz1,hsh,hl,Result.andThen]
def devC (K : Value) (f : Nat) (m : Option Addr) : Array Value := #[K,.pointer (some ⟨f,0,none⟩),.pointer m]
def MemAt (w : World) (mb : Nat) (st : Array Value) (lp : Option Addr) : Prop := Blk w mb (st.push (.pointer lp)) 90
theorem pload_any (d f mb : Nat) (K : Value) (st : Array Value) (lp : Option Addr) (w : World) (h : Blk w d (devC K f (some ⟨mb,0,none⟩)) 77) (hm : MemAt w mb st lp) (hs : st.size = 17) :
   Calls Tryz.prog 33 #[.pointer (some ⟨d,2,none⟩)] w fun e w' => e = .returned (.pointer (some ⟨mb,0,none⟩)) ∧ w = w' := by
 have hc := h.cell (i := 2) (v := .pointer (some ⟨mb,0,none⟩)) rfl
 have hl := run_call_loadp (P := Tryz.prog) Tryz.func78 (by kernel_rfl) (by kernel_rfl) (by kernel_rfl) (by kernel_rfl) hc
 have hcv := run_from_unsafe w mb _ hm (by rw [Array.size_push,hs])
 clear h hm hs
 go_enter Tryz.func33,Tryz.ntmps33
 go_wp2_with fail
 go_ret
 exact ⟨rfl,rfl⟩
theorem pload_still (d f mb : Nat) (K : Value) (st : Array Value) (lp : Option Addr) (w : World) (h : Blk w d (devC K f (some ⟨mb,0,none⟩)) 77) (hm : MemAt w mb st lp) (hs : st.size = 17) :
   Calls Tryz.prog 33 #[.pointer (some ⟨d,2,none⟩)] w fun e w' => e = .returned (.pointer (some ⟨mb,0,none⟩)) ∧ w' = w :=
 (pload_any d f mb K st lp w h hm hs).mono fun _ _ ⟨h,k⟩ => ⟨h,k.symm⟩
theorem pstore_any (d f mb : Nat) (K : Value) (m : Option Addr) (st : Array Value) (lp : Option Addr) (w : World) (h : Blk w d (devC K f m) 77) (hm : MemAt w mb st lp) :
   Calls Tryz.prog 70 #[.pointer (some ⟨d,2,none⟩),.pointer (some ⟨mb,0,none⟩)] w fun e w' => e = .returned (.tuple #[]) ∧ Blk w' d (devC K f (some ⟨mb,0,none⟩)) 77 ∧ Fr (· = d) w w' := by
 have hc := h.cell (i := 2) (v := .pointer m) rfl
 have hz := h.free 2
 have hst := run_call_storep (P := Tryz.prog) Tryz.func123 (by kernel_rfl) (by kernel_rfl) (by kernel_rfl) (by kernel_rfl) (y := some ⟨mb,0,none⟩) hc hz
 have hcm : ∃ v,w.cell? ⟨mb,0,none⟩ = some v := by
   refine ⟨(st.push (.pointer lp))[0]'(by simp),?_⟩
   exact Blk.cell hm (by simp)
 obtain ⟨v0,hcm⟩ := hcm
 have hcv := run_convert_to_unsafe (P := Tryz.prog) (src := 69) (dst := 73) Tryz.underlying69 Tryz.underlying73 (by kernel_rfl) hcm
 have hB := h.setCellAt 2 (.pointer (some ⟨mb,0,none⟩)) (cs' := devC K f (some ⟨mb,0,none⟩)) rfl
 have hF : Fr (· = d) w (w.setCell ⟨d,2,none⟩ (.pointer (some ⟨mb,0,none⟩))) := Fr.set (S := (· = d)) (Fr.refl _ _) (p := ⟨d,2,none⟩) (fun _ => rfl) _
 clear h hm hcm
 go_enter Tryz.func70,Tryz.ntmps70
 go_wp2_with fail
 go_end0
 exact ⟨rfl,hB,hF⟩
theorem now_any (d f mb : Nat) (K : Value) (st : Array Value) (lp : Option Addr) (w : World) (h : Blk w d (devC K f (some ⟨mb,0,none⟩)) 77) (hm : MemAt w mb st lp) (hs : st.size = 17) :
   Calls Tryz.prog 40 #[.pointer (some ⟨d,0,none⟩)] w fun e w' => e = .returned (.pointer (some ⟨mb,0,none⟩)) ∧ w = w' := by
 go_enter Tryz.func40,Tryz.ntmps40
 go_wp2_with fail
 refine (pload_any d f mb K st lp w h hm hs).mono ?_
 rintro e w' ⟨rfl,rfl⟩
 go_wp2_with fail
 go_ret
 exact ⟨rfl,rfl⟩
theorem met_any (d : Nat) (e0 : Int) (w : World) (h : (e0 == 11) = false) :
   Calls Tryz.prog 35 #[.pointer (some ⟨d,0,none⟩),.int .i64 e0] w fun e w' => e = .returned (.int .i64 e0) ∧ w = w' := by
 go_enter Tryz.func35,Tryz.ntmps35
 go_wp2_with fail
 go_ret
 exact ⟨rfl,rfl⟩
theorem push_get {st : Array Value} {u : Value} (j : Nat) (v : Value) (h : st[j]? = some v) : (st.push u)[0 + j]? = some v := by
 rw [Nat.zero_add]
 have hlt : j < st.size := (Array.getElem?_eq_some_iff.1 h).1
 rw [Array.getElem?_push]
 simp [h,show ¬ j = st.size by omega]
theorem dstate_any (d f mb : Nat) (K : Value) (q : SSt) (st : Array Value) (lp : Option Addr) (w : World) (hd : Blk w d (devC K f (some ⟨mb,0,none⟩)) 77) (hm : MemAt w mb st lp) (h : StC w st q) :
   Calls Tryz.prog 14 #[.pointer (some ⟨d,0,none⟩)] w fun e w' => ∃ st',e = .returned (.tuple #[.agg st',.bool true]) ∧ StC w' st' q ∧ Below w.heap.size w w' := by
 have hsz := h.size
 have hone := h.one
 have h17 := h.size17
 have hdl := hd.lt
 have hml : mb < w.heap.size := Blk.lt hm
 have hz1 : Blk (w.alloc (.cells stZ 46)) w.heap.size stZ 46 := Blk.new _ _ _
 have hB0 : Below w.heap.size w (w.alloc (.cells stZ 46)) := below_alloc1 _ _
 have hd0 := hd.below hB0
 have hm0 : MemAt (w.alloc (.cells stZ 46)) mb st lp := Blk.below hm hB0
 have h0 := h.below hB0
 unfold stZ at hz1 hB0 hd0 hm0 h0
 go_enter Tryz.func14,Tryz.ntmps14
 go_wp2_with fail
 refine (now_any d f mb K st lp _ hd0 hm0 h17).mono ?_
 rintro e w' ⟨rfl,rfl⟩
 have hs0 := hB0.size
 generalize w.alloc (.cells (steC 0 0 0#32 0#32 0#32 0 (.slice none 0 0) 0#32 0 (.slice none 0 0) false 0#32 0#32 0 0 0 (.slice none 0 0)) 46) = w0 at *
 have hz1s := hz1.alloc (.cells stZ 46)
 have hz2 : Blk (w0.alloc (.cells stZ 46)) w0.heap.size stZ 46 := Blk.new _ _ _
 have hB1 := ba hB0 (.cells stZ 46)
 have h1 := h0.below (below_alloc1 w0 (.cells stZ 46))
 have hlt0 := hz1.lt
 have h2 := h1.setRow hz2 stZ_u8 st
 have hz12 := hz1s.setRow_other (k := w0.heap.size) (by omega) st
 have hz22 := hz2.setRow st
 have hB2 := below_setRow hB1 (g := w0.heap.size) (by omega) st
 unfold stZ at hz2 hz1s hz12 hz22 hB2 h2
 go_upto_region 5 with (first
   | ((with_reducible refine at_load ?_); refine wpList_load_part rfl 46 (.tmp 14) rfl mb 0 rfl 90 (st.push (.pointer lp)) st (0,0) _ hm0 push_get Tryz.underlying46 rfl hsz ?_)
   | ((with_reducible refine at_store ?_); refine wpList_store_row rfl 46 (.tmp 5) (.tmp 15) rfl w0.heap.size st rfl rfl 46 _ hz2 hsz (by rw [h17]; rfl) hone ?_))
 change Code.wp _ _ _ _ (World.setRow (w0.alloc (.cells (steC 0 0 0#32 0#32 0#32 0 (.slice none 0 0) 0#32 0 (.slice none 0 0) false 0#32 0#32 0 0 0 (.slice none 0 0)) 46)) w0.heap.size st)
 generalize World.setRow (w0.alloc (.cells (steC 0 0 0#32 0#32 0#32 0 (.slice none 0 0) 0#32 0 (.slice none 0 0) false 0#32 0#32 0 0 0 (.slice none 0 0)) 46)) w0.heap.size st = w2 at *
 obtain ⟨b,hb⟩ : ∃ b,w0.heap.size = b := ⟨_,rfl⟩
 rw [hb] at hz22 hlt0 ⊢
 have hlt2 := hz22.lt
 have hbw : w.heap.size ≤ b := by omega
 clear hz2 hz1s hB1 h1 hz1 hB0 hd0 hm0 h0 hb
 obtain ⟨x0,x1,x2,hst,k0,k1,k2⟩ := h2
 have Hst := hide hst
 go_wp2_with fail
 go_loopw [16] (fun u wr => ∃ (k : Nat) (y0 y1 : Value),k ≤ 2 ∧ u = .int .i64 (k : Int) ∧ Blk wr b (stArr q y0 y1 x2) 46 ∧ Blk wr w.heap.size stZ 46 ∧ HSt wr y0 q.H0 ∧ HSt wr y1 q.H1 ∧ HSt wr x2 q.H2 ∧ Below w.heap.size w wr) (fun u _ => 2 - (intOf u).toNat)
 case atStart => exact ⟨0,x0,x1,by omega,rfl,by rw [← Hst.out]; exact hz22,hz12,k0,k1,k2,hB2⟩
 case round =>
   clear hz22 hz12 k0 k1 k2 hB2 hst
   obtain ⟨k,y0,y1,hk,rfl,hz0,hz1,h2,h3,h4,hB⟩ := hrel
   have hu : ∀ (i : Nat) (y : Nat),(stArr q y0 y1 x2)[i]? ≠ some (.int .u8 (y : Int)) := fun i y => StC.u8 ⟨y0,y1,x2,rfl,h2,h3,h4⟩ i y
   have hsr := hB.size
   match k,hk with
   | 0,_ =>
     have c6 := hz0.cell (i := 6) (v := y0) rfl
     go_wp2_with fail
     refine (clone_h y0 q.H0 _ h2).mono ?_
     rintro e w1 ⟨A,n,c,rfl,hx,hb1,hfr⟩
     have hz0' := hz0.below hb1
     have hz1' := hz1.below hb1
     have h3' := h3.below hb1
     have h4' := h4.below hb1
     have hB1 := below_next hB hb1
     have c6' := hz0'.cell (i := 6) (v := y0) rfl
     have f6 := hz0'.free 6
     have hset := hz0'.setCellAt 6 (.slice A n c) (cs' := stArr q (.slice A n c) y1 x2) rfl
     clear hz0 hz1 h2 h3 h4 hB c6
     go_wp2_with fail
     go_roundw
     case rel => exact ⟨1,.slice A n c,y1,by omega,rfl,hset,hz1'.other (a := ⟨b,6,none⟩) (show w.heap.size ≠ b by omega) _,hx.set hz0' hu 6 _,h3'.set hz0' hu 6 _,h4'.set hz0' hu 6 _,hB1.setCell (p := ⟨b,6,none⟩) hbw _⟩
     case measure => simp [intOf]
   | 1,_ =>
     have c9 := hz0.cell (i := 9) (v := y1) rfl
     go_wp2_with fail
     refine (clone_h y1 q.H1 _ h3).mono ?_
     rintro e w1 ⟨A,n,c,rfl,hx,hb1,hfr⟩
     have hz0' := hz0.below hb1
     have hz1' := hz1.below hb1
     have h2' := h2.below hb1
     have h4' := h4.below hb1
     have hB1 := below_next hB hb1
     have c9' := hz0'.cell (i := 9) (v := y1) rfl
     have f9 := hz0'.free 9
     have hset := hz0'.setCellAt 9 (.slice A n c) (cs' := stArr q y0 (.slice A n c) x2) rfl
     clear hz0 hz1 h2 h3 h4 hB c9
     go_wp2_with fail
     go_roundw
     case rel => exact ⟨2,y0,.slice A n c,by omega,rfl,hset,hz1'.other (a := ⟨b,9,none⟩) (show w.heap.size ≠ b by omega) _,h2'.set hz0' hu 9 _,hx.set hz0' hu 9 _,h4'.set hz0' hu 9 _,hB1.setCell (p := ⟨b,9,none⟩) hbw _⟩
     case measure => simp [intOf]
   | 2,_ =>
     have c16 := hz0.cell (i := 16) (v := x2) rfl
     go_wp2_with fail
     refine (clone_h x2 q.H2 _ h4).mono ?_
     rintro e w1 ⟨A,n,c,rfl,hx,hb1,hfr⟩
     have hz0' := hz0.below hb1
     have hz1' := hz1.below hb1
     have h2' := h2.below hb1
     have h3' := h3.below hb1
     have hB1 := below_next hB hb1
     have c16' := hz0'.cell (i := 16) (v := x2) rfl
     have f16 := hz0'.free 16
     have hset := hz0'.setCellAt 16 (.slice A n c) (cs' := stArr q y0 y1 (.slice A n c)) rfl
     have hz1s := hz1'.other (a := ⟨b,16,none⟩) (show w.heap.size ≠ b by omega) (.slice A n c)
     have hfin : StC (w1.setCell ⟨b,16,none⟩ (.slice A n c)) (stArr q y0 y1 (.slice A n c)) q := ⟨y0,y1,_,rfl,h2'.set hz0' hu 16 _,h3'.set hz0' hu 16 _,hx.set hz0' hu 16 _⟩
     have hBf := hB1.setCell (p := ⟨b,16,none⟩) hbw (.slice A n c)
     have hszf := hfin.size
     have h1f := hfin.one
     have hs17 := hfin.size17
     clear hz0 hz1 h2 h3 h4 hB c16
     go_upto_region 11 with fail
     change Code.wp _ _ _ _ (w1.setCell ⟨b,16,none⟩ (.slice A n c))
     generalize w1.setCell ⟨b,16,none⟩ (.slice A n c) = w2 at *
     go_wp2_with (first
       | ((with_reducible refine at_load ?_); refine wpList_load_row rfl 46 (.tmp 5) rfl b rfl 46 (stArr q y0 y1 (.slice A n c)) (0,0) _ hset Tryz.underlying46 rfl hszf ?_)
       | ((with_reducible refine at_store ?_); refine wpList_store_row rfl 46 (.tmp 2) (.tmp 36) rfl w.heap.size (stArr q y0 y1 (.slice A n c)) rfl rfl 46 _ hz1s hszf (by rw [hs17]; rfl) h1f ?_))
     refine bodyPost_ret (results_cell_slot Tryz.results14 _ _ w.heap.size 46 (stArr q y0 y1 (.slice A n c)) (0,0) _ _ rfl rfl (hz1s.setRow _) Tryz.underlying46 rfl hszf) rfl ?_
     exact ⟨_,rfl,hfin.setRow hz1s stZ_u8 _,below_setRow hBf (by omega) _⟩
def takErr (m : Nat) : Int := if pktErr m = 0 then 14 else pktErr m
theorem takes_off (d f mb : Nat) (Kk : Value) (st : Array Value) (lp : Option Addr) (X : Option Addr) (m c : Nat) (l : List UInt8) (w : World) (hd : Blk w d (devC Kk f (some ⟨mb,0,none⟩)) 77) (hm : MemAt w mb st lp) (hs : st.size = 17) (hoff : st[10]? = some (.bool false)) (hr : Rd w X m c l) :
   Calls Tryz.prog 37 #[.pointer (some ⟨d,0,none⟩),.slice X m c] w fun e w' => e = .returned (.int .i64 (takErr m)) ∧ Below w.heap.size w w' := by
 have hpl := pload_still d f mb Kk st lp w hd hm hs
 have hpk := fun w hr => pktparse_all X m c l w hr
 have Hhid : Hid (takErr m = if pktErr m = 0 then 14 else pktErr m) := hide rfl
 obtain ⟨E,hE⟩ : ∃ E,pktErr m = E := ⟨_,rfl⟩
 have HE := hide hE
 rw [hE] at Hhid
 obtain ⟨R,hR⟩ : ∃ R,takErr m = R := ⟨_,rfl⟩
 rw [hR] at Hhid ⊢
 simp only [hE] at hpk
 clear hE hR
 go_enter Tryz.func37,Tryz.ntmps37
 go_wp2_with fail
 refine hpl.mono ?_
 rintro e w0 ⟨rfl,rfl⟩
 go_wp2_with fail
 refine (hpk _ hr).mono ?_
 rintro e w1 ⟨cs,H,fh,rfl,_,hb1,x,i,A',n',c',rfl⟩
 have hz1 : Blk (w1.alloc (.cells (symC 0#32 0#32 (.slice none 0 0)) 94)) w1.heap.size (symC 0#32 0#32 (.slice none 0 0)) 94 := Blk.new _ _ _
 have hsz := size94 x i (.slice A' n' c')
 have hs1 := hb1.size
 have hB2 : Below w0.heap.size w0 ((w1.alloc (.cells (symC 0#32 0#32 (.slice none 0 0)) 94)).setRow w1.heap.size (symC x i (.slice A' n' c'))) := below_setRow (hb1.alloc hs1 _) hs1 _
 go_upto_region 3 with (first
   | ((with_reducible refine at_store ?_); refine wpList_store_row rfl 94 (.tmp 6) (.tmp 19) rfl w1.heap.size (symC x i (.slice A' n' c')) rfl rfl 94 (symC 0#32 0#32 (.slice none 0 0)) hz1 hsz rfl (one94 _ _ _ _ _) ?_))
 change Code.wp _ _ _ _ ((w1.alloc (.cells (symC 0#32 0#32 (.slice none 0 0)) 94)).setRow w1.heap.size (symC x i (.slice A' n' c')))
 generalize (w1.alloc (.cells (symC 0#32 0#32 (.slice none 0 0)) 94)).setRow w1.heap.size (symC x i (.slice A' n' c')) = w2 at *
 have hm2 := Blk.below hm hB2
 have c10 : w2.cell? ⟨mb,10,none⟩ = some (.bool false) := Blk.cell hm2 (by have := push_get (u := .pointer lp) 10 _ hoff; simpa using this)
 clear hz1 hb1 hm hd hr hpl hpk
 by_cases h0 : E = 0
 · subst h0
   rw [if_pos rfl] at Hhid
   go_wp2_with fail
   go_ret
   exact ⟨by rw [Hhid.out]; rfl,hB2⟩
 · have hne : (E != 0) = true := by simp [h0]
   rw [if_neg h0] at Hhid
   go_wp2_with fail
   go_ret
   exact ⟨by rw [Hhid.out]; rfl,hB2⟩
theorem hears_bad (d f mb : Nat) (kA : Option Addr) (kn kc : Nat) (key : List UInt8) (X : Option Addr) (m c : Nat) (l : List UInt8) (mm : Option Addr) (w : World) (hd : Blk w d (devC (.slice kA kn kc) f mm) 77) (hk : Rd w kA kn kc key) (hkn : kn ≤ 64) (hr : Rd w X m c l) (hbad : manErr key l ≠ 0) :
   Calls Tryz.prog 36 #[.pointer (some ⟨d,0,none⟩),.slice X m c] w fun e w' => e = .returned (.int .i64 (manErr key l)) ∧ Below w.heap.size w w' := by
 have c0 := hd.cell (i := 0) (v := .slice kA kn kc) rfl
 have hmp := fun w hk hr => manparse_all kA X kn kc m c key l w hk hkn hr
 obtain ⟨E,hE⟩ : ∃ E,manErr key l = E := ⟨_,rfl⟩
 rw [hE] at hbad ⊢
 simp only [hE] at hmp
 have hne : (E != 0) = true := by simp [hbad]
 clear hE hbad
 go_enter Tryz.func36,Tryz.ntmps36
 go_wp2_with fail
 refine (hmp _ hk hr).mono ?_
 rintro e w1 ⟨cs,H,fh,rfl,_,hb1,s,v,L,S,P,A',n',c',rfl⟩
 have hz1 : Blk (w1.alloc (.cells (manC 0#32 0#32 0 0 0 (.slice none 0 0)) 44)) w1.heap.size (manC 0#32 0#32 0 0 0 (.slice none 0 0)) 44 := Blk.new _ _ _
 have hsz := size44 s v L S P (.slice A' n' c')
 have hs1 := hb1.size
 have hB2 : Below w.heap.size w ((w1.alloc (.cells (manC 0#32 0#32 0 0 0 (.slice none 0 0)) 44)).setRow w1.heap.size (manC s v L S P (.slice A' n' c'))) := below_setRow (hb1.alloc hs1 _) hs1 _
 go_upto_region 3 with (first
   | ((with_reducible refine at_store ?_); refine wpList_store_row rfl 44 (.tmp 5) (.tmp 16) rfl w1.heap.size (manC s v L S P (.slice A' n' c')) rfl rfl 44 (manC 0#32 0#32 0 0 0 (.slice none 0 0)) hz1 hsz rfl (one44 _ _ _ _ _ _ _ _) ?_))
 change Code.wp _ _ _ _ ((w1.alloc (.cells (manC 0#32 0#32 0 0 0 (.slice none 0 0)) 44)).setRow w1.heap.size (manC s v L S P (.slice A' n' c')))
 generalize (w1.alloc (.cells (manC 0#32 0#32 0 0 0 (.slice none 0 0)) 44)).setRow w1.heap.size (manC s v L S P (.slice A' n' c')) = w2 at *
 clear hz1 hb1 hd hr hmp hk c0
 go_wp2_with fail
 go_ret
 exact ⟨rfl,hB2⟩
end Go.Proofs.YtkkcpblfheplaaaGreatDoor
