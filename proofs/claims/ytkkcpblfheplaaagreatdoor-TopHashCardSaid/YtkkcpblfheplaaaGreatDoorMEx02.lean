/- Contracts of functions that the laws of downpourtop reach, and plain facts; no condition beyond what each theorem states. -/
import Derived.Test.YtkkcpblfheplaaaGreatDoorMEx01
set_option maxRecDepth 100000
set_option maxHeartbeats 8000000
set_option linter.all false
namespace Go.Proofs.YtkkcpblfheplaaaGreatDoor
open Go.RowKit
def cs8 (l : List UInt8) : Array Value := (bys l).toArray
theorem cs8_size (l : List UInt8) : (cs8 l).size = l.length := by simp [cs8,bys_len]
theorem cs8_get (l : List UInt8) (j : Nat) (x : UInt8) (h : l[j]? = some x) : (cs8 l)[j]? = some (.int .u8 x.toNat) := by
 have : (bys l)[j]? = some (by8 x) := by rw [bys_get,h]; rfl
 simpa [cs8,by8] using this
theorem cs8_set (l : List UInt8) (j : Nat) (x : UInt8) : (cs8 l).setIfInBounds j (.int .u8 x.toNat) = cs8 (l.set j x) := by
 apply Array.ext'
 simp [cs8,bys,by8]
theorem cs8_zero (n : Nat) : Array.replicate n (Value.int .u8 0) = cs8 (List.replicate n 0) := by
 apply Array.ext'
 simp [cs8,bys,by8]
theorem own_of_blk {w : World} {g n base : Nat} {l : List UInt8} (h : Blk w g (cs8 l) 5) (hl : l.length = n) (hn : n ≤ maxLen) (hb : base ≤ g) : Own w base 5 (some ⟨g,0,none⟩) n n l :=
 ⟨by rw [bys_len,hl,Nat.mul_one],.inr ⟨g,n,_,rfl,hb,h,Nat.le_refl _,hn,by rw [cs8_size,hl,Nat.mul_one],by rw [Nat.mul_one,← hl,← bys_len]; simp [cs8]⟩⟩
theorem blk_of_own {w : World} {g n base : Nat} {l : List UInt8} (h : Own w base 5 (some ⟨g,0,none⟩) n n l) : Blk w g (cs8 l) 5 := blk_of_row h
theorem rd_of_blk {w : World} {g n : Nat} {l : List UInt8} (h : Blk w g (cs8 l) 5) (hl : l.length = n) (hn : n ≤ maxLen) : Rd w (some ⟨g,0,none⟩) n n l :=
 ⟨hl,Nat.le_refl _,hn,fun _ => ⟨_,rfl,fun j x hx => by rw [addAt]; exact h.cell (cs8_get l j x hx)⟩⟩
structure RowAt (w : World) (r vb wb db n size : Nat) (x : B64) (d : List UInt8) : Prop where
 row : Blk w r #[.pointer (some ⟨vb,0,none⟩),.slice (some ⟨db,0,none⟩) size size] 277
 vec : VecAt w vb wb n x
 dat : Blk w db (cs8 d) 5
 len : d.length = size
theorem RowAt.below {w w' : World} {r vb wb db n size : Nat} {x : B64} {d : List UInt8} (h : RowAt w r vb wb db n size x d) (hb : Below w.heap.size w w') : RowAt w' r vb wb db n size x d :=
 ⟨h.row.below hb,h.vec.below hb,h.dat.below hb,h.len⟩
theorem RowAt.fr {w w' : World} {r vb wb db n size : Nat} {x : B64} {d : List UInt8} {S : Nat → Prop} (h : RowAt w r vb wb db n size x d) (hb : Fr S w w') (h1 : ¬ S r) (h2 : ¬ S vb) (h3 : ¬ S wb) (h4 : ¬ S db) : RowAt w' r vb wb db n size x d :=
 ⟨h.row.fr hb h1,h.vec.fr hb h2 h3,h.dat.fr hb h4,h.len⟩
theorem VecAt.blk36 {w : World} {p wb n : Nat} {x : B64} (h : VecAt w p wb n x) : (∃ cs,Blk w wb cs 36) ∧ ∃ cs,Blk w p cs 264 := by
 obtain ⟨cp,cs,k1,k2,_⟩ := h
 exact ⟨⟨_,k2⟩,⟨_,k1⟩⟩
theorem RowAt.ne {w : World} {r vb wb db n size r' vb' wb' db' n' size' : Nat} {x y : B64} {d e : List UInt8} (h : RowAt w r vb wb db n size x d) (k : RowAt w r' vb' wb' db' n' size' y e) : r ≠ wb' ∧ r ≠ db' ∧ vb ≠ wb' ∧ vb ≠ db' ∧ wb ≠ db' ∧ db ≠ wb' := by
 obtain ⟨⟨c1,v1⟩,⟨c2,v2⟩⟩ := h.vec.blk36
 obtain ⟨⟨e1,u1⟩,⟨e2,u2⟩⟩ := k.vec.blk36
 exact ⟨h.row.ne u1 (by decide),h.row.ne k.dat (by decide),v2.ne u1 (by decide),v2.ne k.dat (by decide),v1.ne k.dat (by decide),h.dat.ne u1 (by decide)⟩
theorem RowAt.lt {w : World} {r vb wb db n size : Nat} {x : B64} {d : List UInt8} (h : RowAt w r vb wb db n size x d) : r < w.heap.size ∧ vb < w.heap.size ∧ wb < w.heap.size ∧ db < w.heap.size :=
 ⟨h.row.lt,h.vec.lt.1,h.vec.lt.2.1,h.dat.lt⟩
theorem VecAt.drew {w : World} {p wb n : Nat} {x : B64} (h : VecAt w p wb n x) : VecAt w.drew p wb n x := by
 obtain ⟨cp,cs,k1,k2,k3,k4,k5⟩ := h
 exact ⟨cp,cs,k1,k2,k3,k4,k5⟩
theorem RowAt.drew {w : World} {r vb wb db n size : Nat} {x : B64} {d : List UInt8} (h : RowAt w r vb wb db n size x d) : RowAt w.drew r vb wb db n size x d := ⟨h.row,h.vec.drew,h.dat,h.len⟩
def dxN (d e : List UInt8) : Nat → List UInt8
 | 0 => d
 | k + 1 => (dxN d e k).set k ((dxN d e k).getD k 0 ^^^ e.getD k 0)
theorem dxN_len (d e : List UInt8) : ∀ k,(dxN d e k).length = d.length := by
 intro k
 induction k with
 | zero => rfl
 | succ k ih => simp [dxN,ih]
theorem dxN_get (d e : List UInt8) (k j : Nat) (hj : j < d.length) : (dxN d e k).getD j 0 = if j < k then d.getD j 0 ^^^ e.getD j 0 else d.getD j 0 := by
 induction k with
 | zero => simp [dxN]
 | succ k ih =>
   unfold dxN
   rw [List.getD_eq_getElem?_getD,List.getElem?_set]
   by_cases h : k = j
   · subst h
     rw [if_pos rfl,if_pos (by rw [dxN_len]; exact hj),if_pos (by omega),ih,if_neg (by omega)]
     rfl
   · rw [if_neg h,← List.getD_eq_getElem?_getD,ih]
     by_cases h2 : j < k
     · rw [if_pos h2,if_pos (by omega)]
     · rw [if_neg h2,if_neg (by omega)]
theorem dxN_all (d e : List UInt8) (h : d.length = e.length) : dxN d e d.length = dx d e := by
 apply List.ext_getElem
 · rw [dxN_len,dx_len rfl h.symm]
 · intro j h1 h2
   have hj : j < d.length := by rwa [dxN_len] at h1
   have := dxN_get d e d.length j hj
   rw [if_pos hj] at this
   have k2 := dx_getD (a := d) (b := e) hj (by omega)
   rw [← this] at k2
   rw [List.getD_eq_getElem?_getD,List.getD_eq_getElem?_getD,List.getElem?_eq_getElem h2,List.getElem?_eq_getElem h1] at k2
   simpa using k2.symm
theorem rxor_any (r vb wb db r2 vb2 wb2 db2 n size : Nat) (x y : B64) (d e : List UInt8) (w : World) (h : RowAt w r vb wb db n size x d) (k : RowAt w r2 vb2 wb2 db2 n size y e) (h1 : wb ≠ wb2) (h2 : db ≠ db2) (hs : size ≤ 16) :
   Calls Tryz.prog 215 #[.pointer (some ⟨r,0,none⟩),.pointer (some ⟨r2,0,none⟩)] w fun z w' => z = .returned (.tuple #[]) ∧ RowAt w' r vb wb db n size (x ^^^ y) (dx d e) ∧ RowAt w' r2 vb2 wb2 db2 n size y e ∧ Fr (fun g => g = wb ∨ g = db) w w' := by
 have hne := h.ne k
 have hne2 := k.ne h
 have hself := h.ne h
 have c0 := h.row.cell (i := 0) (v := .pointer (some ⟨vb,0,none⟩)) rfl
 have e0 := k.row.cell (i := 0) (v := .pointer (some ⟨vb2,0,none⟩)) rfl
 have hcells : w.drew.cell? ⟨r,0,none⟩ = some (.pointer (some ⟨vb,0,none⟩)) ∧ w.drew.cell? ⟨r2,0,none⟩ = some (.pointer (some ⟨vb2,0,none⟩)) := ⟨c0,e0⟩
 have hs' : (size : Int) ≤ 16 := by omega
 go_enter Tryz.func215,Tryz.ntmps215
 go_wp2_with fail
 go_cut [] (fun wx => RowAt wx r vb wb db n size (x ^^^ y) d ∧ RowAt wx r2 vb2 wb2 db2 n size y e ∧ Fr (fun g => g = wb ∨ g = db) w wx)
 case first =>
   go_region_held3 (fun z => z.cell? ⟨r,0,none⟩ = some (.pointer (some ⟨vb,0,none⟩)) ∧ z.cell? ⟨r2,0,none⟩ = some (.pointer (some ⟨vb2,0,none⟩)))
     (first | (with_reducible exact hcells) | (with_reducible exact hcells2))
     ((go_at_call 234; (with_reducible refine (vxor_any vb wb vb2 wb2 n x y w.drew h.vec.drew k.vec.drew h1).mono ?_); rintro z w1 ⟨rfl,hv1,hF1⟩
       have hF1' : Fr (fun g => g = wb) w w1 := (Fr.drew (Fr.refl _ w)).trans hF1
       have hcells2 : w1.cell? ⟨r,0,none⟩ = some (.pointer (some ⟨vb,0,none⟩)) ∧ w1.cell? ⟨r2,0,none⟩ = some (.pointer (some ⟨vb2,0,none⟩)) := ⟨(h.row.fr hF1' hself.1).cell rfl,(k.row.fr hF1' hne2.1).cell rfl⟩))
   all_goals
     go_wp2_with fail
     go_meet
     exact ⟨⟨h.row.fr hF1' hself.1,hv1,h.dat.fr hF1' (by have := hself.2.2.2.2.2; omega),h.len⟩,k.fr hF1' hne2.1 hne2.2.2.1 (fun q => h1 q.symm) (by have := hne2.2.2.2.2.2; omega),hF1'.mono fun g _ hg => .inl hg⟩
 case rest =>
   obtain ⟨hr,hk,hF⟩ := hcut
   clear c0 e0 hcells
   have f1 := hk.row.cell (i := 1) (v := .slice (some ⟨db2,0,none⟩) size size) rfl
   have hl := h.len
   have hlk := k.len
   have Hl := hide hl
   have Hlk := hide hlk
   clear hl hlk h k
   go_wp2_with fail
   clear f1
   go_loopw [20,4,5] (fun u _ _ wr => ∃ j : Nat,j ≤ size ∧ u = .int .i64 (j : Int) ∧ RowAt wr r vb wb db n size (x ^^^ y) (dxN d e j) ∧ RowAt wr r2 vb2 wb2 db2 n size y e ∧ Fr (fun g => g = wb ∨ g = db) w wr) (fun u _ _ _ => size - (intOf u).toNat)
   case atStart => exact ⟨0,by omega,rfl,hr,hk,hF⟩
   case round =>
     clear hr hk hF
     obtain ⟨j,hj,rfl,hr,hk,hF⟩ := hrel
     by_cases hlt : j < size
     · have hlt' : (j : Int) < (size : Int) := by omega
       have q1 := hr.row.cell (i := 1) (v := .slice (some ⟨db,0,none⟩) size size) rfl
       have hld := dxN_len d e j
       have hx : (dxN d e j)[j]? = some ((dxN d e j).getD j 0) := by
         have : j < (dxN d e j).length := by have := Hl.out; omega
         rw [List.getD_eq_getElem?_getD,List.getElem?_eq_getElem this]; rfl
       have hy : e[j]? = some (e.getD j 0) := by
         have : j < e.length := by have := Hlk.out; omega
         rw [List.getD_eq_getElem?_getD,List.getElem?_eq_getElem this]; rfl
       have cx := hr.dat.cell (cs8_get _ _ _ hx)
       have cy := hk.dat.cell (cs8_get _ _ _ hy)
       have fx := hr.dat.free j
       have hset := hr.dat.setCellAt j (.int .u8 (((dxN d e j).getD j 0 ^^^ e.getD j 0).toNat)) (cs' := cs8 (dxN d e (j + 1))) (by rw [cs8_set]; rfl)
       have hlen : (dxN d e (j + 1)).length = size := by rw [dxN_len]; exact Hl.out
       have hxo := xor_u8 ((dxN d e j).getD j 0) (e.getD j 0)
       have Hlen := hide hlen
       have Hset := hide hset
       clear hld hx hy hset hlen
       generalize (dxN d e j).getD j 0 ^^^ e.getD j 0 = z at *
       generalize (dxN d e j).getD j 0 = a at *
       generalize e.getD j 0 = b at *
       have hF2 : Fr (fun g => g = wb ∨ g = db) w (wr.setCell ⟨db,j,none⟩ (.int .u8 z.toNat)) := Fr.set (S := fun g => g = wb ∨ g = db) hF (p := ⟨db,j,none⟩) (fun _ => .inr rfl) _
       have hS1 : Fr (fun g => g = db) wr (wr.setCell ⟨db,j,none⟩ (.int .u8 z.toNat)) := Fr.set (S := fun g => g = db) (Fr.refl _ _) (p := ⟨db,j,none⟩) (fun _ => rfl) _
       have hr2 : RowAt (wr.setCell ⟨db,j,none⟩ (.int .u8 z.toNat)) r vb wb db n size (x ^^^ y) (dxN d e (j + 1)) := ⟨hr.row.fr hS1 hself.2.1,hr.vec.fr hS1 hself.2.2.2.1 hself.2.2.2.2.1,Hset.out,Hlen.out⟩
       have hk2 := hk.fr hS1 hne2.2.1 hne2.2.2.2.1 hne2.2.2.2.2.1 (fun q => h2 q.symm)
       clear hr hk hF
       go_wp2_with fail
       go_roundw
       case rel => exact ⟨j + 1,by omega,by go_num,hr2,hk2,hF2⟩
       case measure => simp [intOf]; omega
     · obtain rfl : size = j := by omega
       have e1 : dxN d e size = dx d e := by rw [← Hl.out]; exact dxN_all d e (by rw [Hl.out,Hlk.out])
       rw [e1] at hr
       go_wp2_with fail
       go_end0
       exact ⟨rfl,hr,hk,hF⟩
abbrev MatB := Nat → Option (B64 × List UInt8)
def stepB (M : MatB) (i : Nat) (r : B64 × List UInt8) : B64 × List UInt8 :=
 match M i with
 | some x => if r.1.getLsbD i then (r.1 ^^^ x.1,dx r.2 x.2) else r
 | none => r
def redB (M : MatB) (r : B64 × List UInt8) : Nat → B64 × List UInt8
 | 0 => r
 | k + 1 => stepB M k (redB M r k)
structure RB where
 r : Nat
 v : Nat
 w : Nat
 d : Nat
def rowsC (n : Nat) (M : MatB) (bk : Nat → RB) : Array Value := ((List.range n).map fun i => if (M i).isSome then Value.pointer (some ⟨(bk i).r,0,none⟩) else Value.pointer none).toArray
theorem rowsC_size (n : Nat) (M : MatB) (bk : Nat → RB) : (rowsC n M bk).size = n := by simp [rowsC]
theorem rowsC_some (n : Nat) (M : MatB) (bk : Nat → RB) (i : Nat) (hi : i < n) (h : (M i).isSome = true) : (rowsC n M bk)[i]? = some (.pointer (some ⟨(bk i).r,0,none⟩)) := by simp [rowsC,hi,h]
theorem rowsC_none (n : Nat) (M : MatB) (bk : Nat → RB) (i : Nat) (hi : i < n) (h : M i = none) : (rowsC n M bk)[i]? = some (.pointer none) := by simp [rowsC,hi,h]
structure MatAt (w : World) (g rb : Nat) (bk : Nat → RB) (n size : Nat) (M : MatB) (rank : Nat) : Prop where
 head : Blk w g #[.int .i64 (n : Int),.int .i64 (size : Int),.slice (some ⟨rb,0,none⟩) n n,.int .i64 (rank : Int)] 280
 rows : Blk w rb (rowsC n M bk) 274
 row : ∀ i x,M i = some x → RowAt w (bk i).r (bk i).v (bk i).w (bk i).d n size x.1 x.2
 apart : ∀ i j x y,M i = some x → M j = some y → i ≠ j → (bk i).w ≠ (bk j).w ∧ (bk i).d ≠ (bk j).d
 out : ∀ i x,M i = some x → i < n
theorem MatAt.below {w w' : World} {g rb n size rank : Nat} {bk : Nat → RB} {M : MatB} (h : MatAt w g rb bk n size M rank) (hb : Below w.heap.size w w') : MatAt w' g rb bk n size M rank :=
 ⟨h.head.below hb,h.rows.below hb,fun i x hx => (h.row i x hx).below hb,h.apart,h.out⟩
theorem MatAt.drew {w : World} {g rb n size rank : Nat} {bk : Nat → RB} {M : MatB} (h : MatAt w g rb bk n size M rank) : MatAt w.drew g rb bk n size M rank :=
 ⟨h.head,h.rows,fun i x hx => (h.row i x hx).drew,h.apart,h.out⟩
def MatF (g rb : Nat) (bk : Nat → RB) (M : MatB) : Nat → Prop := fun b => b = g ∨ b = rb ∨ ∃ i x,M i = some x ∧ (b = (bk i).r ∨ b = (bk i).v ∨ b = (bk i).w ∨ b = (bk i).d)
theorem MatAt.fr {w w' : World} {g rb n size rank : Nat} {bk : Nat → RB} {M : MatB} {S : Nat → Prop} (h : MatAt w g rb bk n size M rank) (hF : Fr S w w') (hn : ∀ b,MatF g rb bk M b → ¬ S b) : MatAt w' g rb bk n size M rank :=
 ⟨h.head.fr hF (hn _ (.inl rfl)),h.rows.fr hF (hn _ (.inr (.inl rfl))),fun i x hx => (h.row i x hx).fr hF (hn _ (.inr (.inr ⟨i,x,hx,.inl rfl⟩))) (hn _ (.inr (.inr ⟨i,x,hx,.inr (.inl rfl)⟩))) (hn _ (.inr (.inr ⟨i,x,hx,.inr (.inr (.inl rfl))⟩))) (hn _ (.inr (.inr ⟨i,x,hx,.inr (.inr (.inr rfl))⟩))),h.apart,h.out⟩
theorem MatAt.lt {w : World} {g rb n size rank : Nat} {bk : Nat → RB} {M : MatB} (h : MatAt w g rb bk n size M rank) : ∀ b,MatF g rb bk M b → b < w.heap.size := by
 rintro b (rfl | rfl | ⟨i,x,hx,rfl | rfl | rfl | rfl⟩)
 · exact h.head.lt
 · exact h.rows.lt
 · exact (h.row i x hx).lt.1
 · exact (h.row i x hx).lt.2.1
 · exact (h.row i x hx).lt.2.2.1
 · exact (h.row i x hx).lt.2.2.2
theorem vlen_still (p wb n : Nat) (x : B64) (w : World) (h : VecAt w p wb n x) : Calls Tryz.prog 153 #[.pointer (some ⟨p,0,none⟩)] w fun e w' => e = .returned (.int .i64 n) ∧ w' = w :=
 (vlen_any p wb n x w h).mono fun _ _ ⟨h,k⟩ => ⟨h,k.symm⟩
theorem run_make22 (k : Nat) (hk : k ≤ 16) (w : World) : (Instr.makeSlice 22 (.int .i64 (k : Int)) (.int .i64 (k : Int))).run Tryz.prog w = .ok (.slice (some ⟨w.heap.size,0,none⟩) k k) (w.alloc (.cells (cs8 (List.replicate k 0)) 5)) := by
 obtain ⟨i,hi,hz0,hz1,hz2⟩ := info_parts isByte
 have hrun := run_make (P := Tryz.prog) w 22 5 i (.int .u8 0) Tryz.underlying22 hi hz0 .i64 .i64 (k : Int) (k : Int) (by omega) (by omega) (by rw [hz2]; omega) (by omega)
 rw [hz1,Int.toNat_natCast,madeZ _ rfl,cs8_zero] at hrun
 exact hrun
def padB (l : List UInt8) (size : Nat) : List UInt8 := l.take size ++ (List.replicate size 0).drop l.length
theorem padB_len (l : List UInt8) (size : Nat) (h : l.length ≤ size) : (padB l size).length = size := by
 simp [padB]; omega
theorem reduced_any (g rb : Nat) (bk : Nat → RB) (n size : Nat) (M : MatB) (rank p wbv : Nat) (x : B64) (X : Option Addr) (m c : Nat) (l : List UInt8) (w : World) (h : MatAt w g rb bk n size M rank) (hv : VecAt w p wbv n x) (hr : Rd w X m c l) (hm : m ≤ size) (hn : n ≤ 64) (hn1 : 1 ≤ n) (hs : size ≤ 16) :
   Calls Tryz.prog 213 #[.pointer (some ⟨g,0,none⟩),.pointer (some ⟨p,0,none⟩),.slice X m c] w fun e w' => ∃ q : RB,e = .returned (.pointer (some ⟨q.r,0,none⟩)) ∧
     RowAt w' q.r q.v q.w q.d n size (redB M (x,padB l size) n).1 (redB M (x,padB l size) n).2 ∧ (w.heap.size ≤ q.r ∧ w.heap.size ≤ q.v ∧ w.heap.size ≤ q.w ∧ w.heap.size ≤ q.d) ∧ Below w.heap.size w w' := by
 have c0 := h.head.cell (i := 0) (v := .int .i64 (n : Int)) rfl
 have hnn : ((n : Int) != (n : Int)) = false := by simp
 have hn' : (n : Int) ≤ 64 := by omega
 have hs' : (size : Int) ≤ 16 := by omega
 have hmk := run_make22 size hs
 have Hml := hide hr.1
 go_enter Tryz.func213,Tryz.ntmps213
 go_wp2_with fail
 go_quiet ((go_at_call 153; exact Calls.quiet_of_same (vlen_still p wbv n x _ hv)))
 go_wp2_with fail
 obtain ⟨w0,hw0⟩ : ∃ w0,w.drewN nq = w0 := ⟨_,rfl⟩
 have hB0 : Below w.heap.size w w0 := by rw [← hw0]; exact below_drewN (Below.refl _ _) nq
 have hh0 : Hid (w0.heap.size = w.heap.size) := hide (by rw [← hw0]; rfl)
 have h0 := h.below hB0
 have hv0 := hv.below hB0
 have hr0 := hr.below hB0
 rw [hw0]
 clear c0 hnn
 have hcells : ∀ z,Below w0.heap.size w0 z → z.cell? ⟨g,1,none⟩ = some (.int .i64 (size : Int)) := fun z hz => (h0.head.below hz).cell rfl
 have hS0 := hcells w0.drew (Below.refl _ _).drew
 have hS1 := fun o => hcells (w0.alloc o).drew (below_alloc1 w0 o).drew
 have hv1 := hv0.drew
 have hv2 := fun o => (hv0.below (below_alloc1 w0 o)).drew
 go_cut [7] (fun u wx => ∃ q : RB,u = .pointer (some ⟨q.r,0,none⟩) ∧ RowAt wx q.r q.v q.w q.d n size x (List.replicate size 0) ∧ (w.heap.size ≤ q.r ∧ w.heap.size ≤ q.v ∧ w.heap.size ≤ q.w ∧ w.heap.size ≤ q.d) ∧ Below w.heap.size w wx)
 case first =>
   go_region_held3 (fun z => z.cell? ⟨g,1,none⟩ = some (.int .i64 (size : Int)))
     (first | (with_reducible exact hS0) | (with_reducible exact hS1 _) | (with_reducible exact hS2) | (with_reducible exact hS3 _) | (with_reducible exact hS4 _ _))
     ((go_at_call 232; (with_reducible refine (vcopy_any p wbv n x _ ?_).mono ?_); (first | (with_reducible exact hv1) | (with_reducible exact hv2 _)); rintro z w1 ⟨p',wb',rfl,hvn,hp',hw',hb1⟩
       have hB1 : Below w0.heap.size w0 w1 := by first | exact (Below.refl w0.heap.size w0).drew.trans hb1 | exact (below_alloc1 w0 _).drew.trans (hb1.mono (by simp))
       have hS2 := hcells w1 hB1
       have hS3 := fun o => hcells (w1.alloc o) (hB1.alloc hB1.size o)
       have hS4 := fun o o2 => hcells ((w1.alloc o).alloc o2) ((hB1.alloc hB1.size o).alloc (hB1.alloc hB1.size o).size o2)))
   all_goals
     go_wp2_with fail
     go_meet
     have hsz := hB1.size
     have hh := hh0.out
     have hal := (hB1.alloc hB1.size (.cells (cs8 (List.replicate size 0)) 5))
     first
       | exact ⟨⟨w1.heap.size + 1,p',wb',w1.heap.size⟩,rfl,⟨heap_alloc2_new w1 _ _,(hvn.below (below_alloc1 _ _)).below (below_alloc1 _ _),heap_alloc2_old w1 _ _,by simp⟩,⟨by show w.heap.size ≤ w1.heap.size + 1; omega,by show w.heap.size ≤ p'; simp at hp'; omega,by show w.heap.size ≤ wb'; simp at hw'; omega,by show w.heap.size ≤ w1.heap.size; omega⟩,hB0.trans ((hal.alloc hal.size _).mono (by omega))⟩
       | exact ⟨⟨w1.heap.size,p',wb',w0.heap.size⟩,rfl,⟨Blk.new w1 _ _,hvn.below (below_alloc1 _ _),((Blk.drew (Blk.new w0 _ _)).below hb1).alloc _,by simp⟩,⟨by show w.heap.size ≤ w1.heap.size; omega,by show w.heap.size ≤ p'; simp at hp'; omega,by show w.heap.size ≤ wb'; simp at hw'; omega,by show w.heap.size ≤ w0.heap.size; omega⟩,hB0.trans ((hB1.alloc hB1.size _).mono (by omega))⟩
 case rest =>
   obtain ⟨q,rfl,hq,hfr,hB⟩ := hcut
   have hhc := h.below hB
   have hrc := hr.below hB
   clear hS0 hS1 hv1 hv2 hcells h0 hv0 hr0 hB0 hh0
   have q1 := hq.row.cell (i := 1) (v := .slice (some ⟨q.d,0,none⟩) size size) rfl
   have hml := hhc.head.cell (i := 2) (v := .slice (some ⟨rb,0,none⟩) n n) rfl
   have how := own_of_blk (base := q.d) hq.dat (by simp) (show size ≤ maxLen by unfold maxLen; omega) (Nat.le_refl _)
   go_upto_region 5 with (first
     | ((with_reducible refine at_copy ?_); refine wpList_copy8 wc rfl _ _ _ rfl q.d 5 Tryz.underlying22 isByte q.d size size _ rfl how X m c l rfl hrc ?_
        intro w2 ho2 hF2))
   have hself := hq.ne hq
   have hpad : l.take size ++ (List.replicate size 0).drop m = padB l size := by unfold padB; rw [Hml.out]
   rw [hpad] at ho2
   have hq2 : RowAt w2 q.r q.v q.w q.d n size x (padB l size) := ⟨hq.row.fr hF2 hself.2.1,hq.vec.fr hF2 hself.2.2.2.1 hself.2.2.2.2.1,blk_of_own ho2,padB_len l size (by rw [Hml.out]; exact hm)⟩
   have hB2 : Below w.heap.size w w2 := hB.trans (hF2.below hB.size (fun b hb => by have := hfr.2.2.2; omega))
   clear hq hhc hrc q1 hml how ho2 hF2 hself hpad hB
   have hh2 := h.below hB2
   have hml := hh2.head.cell (i := 2) (v := .slice (some ⟨rb,0,none⟩) n n) rfl
   go_wp2_with fail
   clear hml hh2
   go_loopw [41,8,9] (fun u _ _ wr => ∃ k : Nat,k ≤ n ∧ u = .int .i64 (k : Int) ∧ RowAt wr q.r q.v q.w q.d n size (redB M (x,padB l size) k).1 (redB M (x,padB l size) k).2 ∧ Below w.heap.size w wr) (fun u _ _ _ => n - (intOf u).toNat)
   case atStart => exact ⟨0,by omega,rfl,hq2,hB2⟩
   case round =>
     clear hq2 hB2
     obtain ⟨k,hk,rfl,hq,hB⟩ := hrel
     have hM := h.below hB
     by_cases hlt : k < n
     · have hlt' : (k : Int) < (n : Int) := by omega
       have hstep : redB M (x,padB l size) (k + 1) = stepB M k (redB M (x,padB l size) k) := rfl
       have Hstep := hide hstep
       clear hstep
       generalize redB M (x,padB l size) k = R at *
       have cv := hq.row.cell (i := 0) (v := .pointer (some ⟨q.v,0,none⟩)) rfl
       cases hMk : M k with
       | none =>
         have crow := hM.rows.cell (rowsC_none n M bk k hlt hMk)
         have hS : Hid (redB M (x,padB l size) (k + 1) = R) := hide (by rw [Hstep.out]; unfold stepB; rw [hMk])
         clear hMk
         go_wp2_with fail
         go_roundw
         case rel => exact ⟨k + 1,by omega,by go_num,by rw [hS.out]; exact hq,hB⟩
         case measure => simp [intOf]; omega
       | some y =>
         have crow := hM.rows.cell (rowsC_some n M bk k hlt (by rw [hMk]; rfl))
         have hrow := hM.row k y hMk
         have hh := vhas_any q.v q.w n k R.1 wr hq.vec hlt hn
         have hlrow := (h.row k y hMk).lt
         rcases Bool.eq_false_or_eq_true (R.1.getLsbD k) with hb | hb
         · have hS : Hid (redB M (x,padB l size) (k + 1) = (R.1 ^^^ y.1,dx R.2 y.2)) := hide (by rw [Hstep.out]; unfold stepB; rw [hMk]; simp only [hb,if_true])
           rw [hb] at hh
           clear hMk hb
           go_wp2_with fail
           refine hh.mono ?_
           rintro e w' ⟨rfl,rfl⟩
           go_wp2_with fail
           refine (rxor_any q.r q.v q.w q.d (bk k).r (bk k).v (bk k).w (bk k).d n size R.1 y.1 R.2 y.2 wr hq hrow (by omega) (by omega) hs).mono ?_
           rintro e w3 ⟨rfl,hq3,_,hF3⟩
           have hB3 : Below w.heap.size w w3 := hB.trans (hF3.below hB.size (fun b hb => by omega))
           go_wp2_with fail
           go_roundw
           case rel => exact ⟨k + 1,by omega,by go_num,by rw [hS.out]; exact hq3,hB3⟩
           case measure => simp [intOf]; omega
         · have hS : Hid (redB M (x,padB l size) (k + 1) = R) := hide (by rw [Hstep.out]; unfold stepB; rw [hMk]; simp [hb])
           rw [hb] at hh
           clear hMk hb
           go_wp2_with fail
           refine hh.mono ?_
           rintro e w' ⟨rfl,rfl⟩
           go_wp2_with fail
           go_roundw
           case rel => exact ⟨k + 1,by omega,by go_num,by rw [hS.out]; exact hq,hB⟩
           case measure => simp [intOf]; omega
     · obtain rfl : n = k := by omega
       go_wp2_with fail
       go_ret
       exact ⟨q,rfl,hq,hfr,hB⟩
theorem padB_nil (size : Nat) : padB [] size = List.replicate size 0 := by simp [padB]
theorem padB_full (l : List UInt8) (size : Nat) (h : l.length = size) : padB l size = l := by
 unfold padB
 rw [List.take_of_length_le (by omega),List.drop_of_length_le (by simp; omega),List.append_nil]
theorem msays_any (g rb : Nat) (bk : Nat → RB) (n size : Nat) (M : MatB) (rank p wbv : Nat) (x : B64) (w : World) (h : MatAt w g rb bk n size M rank) (hv : VecAt w p wbv n x) (hn : n ≤ 64) (hn1 : 1 ≤ n) (hs : size ≤ 16) (hT : Tab64 w) :
   Calls Tryz.prog 177 #[.pointer (some ⟨g,0,none⟩),.pointer (some ⟨p,0,none⟩)] w fun e w' => e = .returned (.bool ((redB M (x,List.replicate size 0) n).1 != 0#64)) ∧ Below w.heap.size w w' := by
 have hred := reduced_any g rb bk n size M rank p wbv x none 0 0 [] w h hv (Rd.nil _ _ (Nat.zero_le _)) (Nat.zero_le _) hn hn1 hs
 rw [padB_nil] at hred
 generalize redB M (x,List.replicate size 0) n = R at *
 go_enter Tryz.func177,Tryz.ntmps177
 go_wp2_with fail
 refine hred.mono ?_
 rintro e w1 ⟨q,rfl,hq,hfr,hb1⟩
 have cv := hq.row.cell (i := 0) (v := .pointer (some ⟨q.v,0,none⟩)) rfl
 have hT1 := hT.below hb1
 by_cases hz : R.1 = 0#64
 · have hvec := hq.vec
   rw [hz] at hvec
   have hb : Hid ((R.1 != 0#64) = false) := hide (by rw [hz]; rfl)
   clear hz hred
   go_wp2_with fail
   refine (vfirst_none q.v q.w n w1 hvec).mono ?_
   rintro e w' ⟨rfl,rfl⟩
   go_wp2_with fail
   go_ret
   exact ⟨by rw [hb.out]; rfl,hb1⟩
 · have hb : Hid ((R.1 != 0#64) = true) := hide (by simpa using hz)
   have hf := vfirst_some q.v q.w n R.1 w1 hq.vec hz hT1
   have Hf := hide hf
   clear hz hred hf hT1 hT
   go_wp2_with fail
   refine Hf.out.mono ?_
   rintro e w' ⟨k,rfl,hk,_,rfl⟩
   have dk : decide (0 ≤ (k : Int)) = true := by simp
   go_wp2_with fail
   go_ret
   exact ⟨by rw [hb.out]; rfl,hb1⟩
def addB (M : MatB) (at_ : Nat) (r : B64 × List UInt8) : MatB := fun i =>
 if i = at_ then some r else match M i with
   | some x => if x.1.getLsbD at_ then some (x.1 ^^^ r.1,dx x.2 r.2) else some x
   | none => none
def addP (M : MatB) (at_ : Nat) (r : B64 × List UInt8) (k : Nat) : MatB := fun i =>
 if i < k then match M i with
   | some x => if x.1.getLsbD at_ then some (x.1 ^^^ r.1,dx x.2 r.2) else some x
   | none => none
 else M i
theorem addP_some (M : MatB) (at_ : Nat) (r : B64 × List UInt8) (k i : Nat) : (addP M at_ r k i).isSome = (M i).isSome := by
 unfold addP
 split
 · cases h : M i with
   | none => rfl
   | some x => simp only; split <;> rfl
 · rfl
theorem rowsC_addP (n : Nat) (M : MatB) (bk : Nat → RB) (at_ : Nat) (r : B64 × List UInt8) (k : Nat) : rowsC n (addP M at_ r k) bk = rowsC n M bk := by
 unfold rowsC
 congr 1
 apply List.map_congr_left
 intro i _
 rw [addP_some]
theorem addP_zero (M : MatB) (at_ : Nat) (r : B64 × List UInt8) : addP M at_ r 0 = M := by
 funext i
 simp [addP]
theorem addP_ne (M : MatB) (at_ : Nat) (r : B64 × List UInt8) (k i : Nat) (h : i ≠ k) : addP M at_ r (k + 1) i = addP M at_ r k i := by
 unfold addP
 by_cases h1 : i < k
 · rw [if_pos h1,if_pos (by omega)]
 · rw [if_neg h1,if_neg (by omega)]
theorem addP_at (M : MatB) (at_ : Nat) (r : B64 × List UInt8) (k : Nat) : addP M at_ r k k = M k := by simp [addP]
theorem addP_none (M : MatB) (at_ : Nat) (r : B64 × List UInt8) (k : Nat) (h : M k = none) : addP M at_ r (k + 1) = addP M at_ r k := by
 funext i
 by_cases e : i = k
 · subst e; simp [addP,h]
 · exact addP_ne M at_ r k i e
theorem addP_off (M : MatB) (at_ : Nat) (r : B64 × List UInt8) (k : Nat) (x : B64 × List UInt8) (h : M k = some x) (hb : x.1.getLsbD at_ = false) : addP M at_ r (k + 1) = addP M at_ r k := by
 funext i
 by_cases e : i = k
 · subst e; simp [addP,h,hb]
 · exact addP_ne M at_ r k i e
theorem addP_on (M : MatB) (at_ : Nat) (r : B64 × List UInt8) (k : Nat) (x : B64 × List UInt8) (h : M k = some x) (hb : x.1.getLsbD at_ = true) : addP M at_ r (k + 1) k = some (x.1 ^^^ r.1,dx x.2 r.2) := by
 simp [addP,h,hb]
theorem addB_of (M : MatB) (at_ : Nat) (r : B64 × List UInt8) (n : Nat) (ho : ∀ i x,M i = some x → i < n) (i : Nat) (h : i ≠ at_) : addB M at_ r i = addP M at_ r n i := by
 unfold addB addP
 rw [if_neg h]
 by_cases hi : i < n
 · rw [if_pos hi]
 · rw [if_neg hi]
   cases hx : M i with
   | none => rfl
   | some x => exact absurd (ho i x hx) hi
theorem addB_at (M : MatB) (at_ : Nat) (r : B64 × List UInt8) : addB M at_ r at_ = some r := by simp [addB]
def bkSet (bk : Nat → RB) (at_ : Nat) (q : RB) : Nat → RB := fun i => if i = at_ then q else bk i
theorem rowsC_addB (n : Nat) (M : MatB) (bk : Nat → RB) (at_ : Nat) (r : B64 × List UInt8) (q : RB) (ho : ∀ i x,M i = some x → i < n) : (rowsC n M bk).setIfInBounds at_ (.pointer (some ⟨q.r,0,none⟩)) = rowsC n (addB M at_ r) (bkSet bk at_ q) := by
 apply Array.ext
 · simp [rowsC]
 · intro i h1 h2
   have hi : i < n := by simpa [rowsC] using h2
   rw [Array.getElem_setIfInBounds]
   · by_cases e : at_ = i
     · subst e
       simp [rowsC,addB_at,bkSet]
     · rw [if_neg e]
       have := addB_of M at_ r n ho i (fun h => e h.symm)
       simp [rowsC,this,addP_some,bkSet,show ¬ i = at_ by omega]
   · rw [rowsC_size]; exact hi
theorem madd_any (g rb : Nat) (bk : Nat → RB) (n size : Nat) (M : MatB) (rank p wbv : Nat) (x : B64) (X : Option Addr) (c : Nat) (l : List UInt8) (w : World) (h : MatAt w g rb bk n size M rank) (hv : VecAt w p wbv n x) (hr : Rd w X size c l)
   (hn : n ≤ 64) (hn1 : 1 ≤ n) (hs : size ≤ 16) (hT : Tab64 w) (hT1 : ¬ MatF g rb bk M 1) (hbits : ∀ k,(redB M (x,l) n).1.getLsbD k = true → k < n) (hrk : rank ≤ 1000) :
   Calls Tryz.prog 183 #[.pointer (some ⟨g,0,none⟩),.pointer (some ⟨p,0,none⟩),.slice X size c] w fun e w' =>
     ((redB M (x,l) n).1 = 0#64 ∧ e = .returned (.bool false) ∧ Below w.heap.size w w') ∨
     ∃ at_ q,(redB M (x,l) n).1.getLsbD at_ = true ∧ e = .returned (.bool true) ∧ MatAt w' g rb (bkSet bk at_ q) n size (addB M at_ (redB M (x,l) n)) (rank + 1) ∧ (w.heap.size ≤ q.r ∧ w.heap.size ≤ q.v ∧ w.heap.size ≤ q.w ∧ w.heap.size ≤ q.d) ∧ Fr (MatF g rb bk M) w w' := by
 have hred := reduced_any g rb bk n size M rank p wbv x X size c l w h hv hr (Nat.le_refl _) hn hn1 hs
 rw [padB_full l size hr.1] at hred
 obtain ⟨R,hR⟩ : ∃ R,redB M (x,l) n = R := ⟨_,rfl⟩
 rw [hR] at hred hbits ⊢
 clear hR
 have c1 := h.head.cell (i := 1) (v := .int .i64 (size : Int)) rfl
 have hss : ((size : Int) != (size : Int)) = false := by simp
 go_enter Tryz.func183,Tryz.ntmps183
 go_wp2_with fail
 refine hred.mono ?_
 rintro e w1 ⟨q,rfl,hq,hfr,hb1⟩
 have cv := hq.row.cell (i := 0) (v := .pointer (some ⟨q.v,0,none⟩)) rfl
 have hTw := hT.below hb1
 clear hred c1 hss
 by_cases hz : R.1 = 0#64
 · have hvec := hq.vec
   rw [hz] at hvec
   have Hz := hide hz
   clear hz
   go_wp2_with fail
   refine (vfirst_none q.v q.w n w1 hvec).mono ?_
   rintro e w' ⟨rfl,rfl⟩
   go_wp2_with fail
   go_ret
   exact .inl ⟨Hz.out,rfl,hb1⟩
 · have hf := vfirst_some q.v q.w n R.1 w1 hq.vec hz hTw
   have Hf := hide hf
   clear hz hf hT hTw
   go_wp2_with fail
   refine Hf.out.mono ?_
   rintro e w' ⟨k0,rfl,hk0,_,rfl⟩
   have dk : decide ((k0 : Int) < 0) = false := by simp
   go_wp2_with fail
   refine Hf.out.mono ?_
   rintro e w' ⟨at_,rfl,_,hbit,rfl⟩
   have hat := hbits at_ hbit
   have hat' : (at_ : Int) < (n : Int) := by omega
   have hn' : (n : Int) ≤ 64 := by omega
   have h1 := h.below hb1
   have Hbit := hide hbit
   have hmf := h.lt
   have hml := h1.head.cell (i := 2) (v := .slice (some ⟨rb,0,none⟩) n n) rfl
   have hs1 := hb1.size
   have hF0 : Fr (MatF g rb bk M) w w1 := Fr.of hb1
   clear dk cv hbit hbits Hf
   go_wp2_with fail
   clear hml
   go_loopw [46,10] (fun u _ wr => ∃ k : Nat,k ≤ n ∧ u = .int .i64 (k : Int) ∧ MatAt wr g rb bk n size (addP M at_ R k) rank ∧ RowAt wr q.r q.v q.w q.d n size R.1 R.2 ∧ Fr (MatF g rb bk M) w wr) (fun u _ _ => n - (intOf u).toNat)
   case atStart => exact ⟨0,by omega,rfl,by rw [addP_zero]; exact h1,hq,hF0⟩
   case round =>
     clear h1 hq hF0
     obtain ⟨k,hk,rfl,hM,hq,hF⟩ := hrel
     by_cases hlt : k < n
     · have hlt' : (k : Int) < (n : Int) := by omega
       cases hMk : M k with
       | none =>
         have crow := hM.rows.cell (rowsC_none n _ bk k hlt (by rw [addP_at]; exact hMk))
         have hS : Hid (addP M at_ R (k + 1) = addP M at_ R k) := hide (addP_none M at_ R k hMk)
         clear hMk
         go_wp2_with fail
         go_roundw
         case rel => exact ⟨k + 1,by omega,by go_num,by rw [hS.out]; exact hM,hq,hF⟩
         case measure => simp [intOf]; omega
       | some y =>
         have hMk2 : addP M at_ R k k = some y := by rw [addP_at]; exact hMk
         have crow := hM.rows.cell (rowsC_some n _ bk k hlt (by rw [hMk2]; rfl))
         have hrow := hM.row k y hMk2
         have hvv := hrow.row.cell (i := 0) (v := .pointer (some ⟨(bk k).v,0,none⟩)) rfl
         have hh := vhas_any (bk k).v (bk k).w n at_ y.1 wr hrow.vec hat hn
         have hlrow := (h.row k y hMk).lt
         rcases Bool.eq_false_or_eq_true (y.1.getLsbD at_) with hb | hb
         · rw [hb] at hh
           have hSk : Hid (addP M at_ R (k + 1) k = some (y.1 ^^^ R.1,dx y.2 R.2)) := hide (addP_on M at_ R k y hMk hb)
           have HMk := hide hMk
           have HMk2 := hide hMk2
           clear hMk hMk2 hb
           go_wp2_with fail
           refine hh.mono ?_
           rintro e w' ⟨rfl,rfl⟩
           go_wp2_with fail
           refine (rxor_any (bk k).r (bk k).v (bk k).w (bk k).d q.r q.v q.w q.d n size y.1 R.1 y.2 R.2 wr hrow hq (by omega) (by omega) hs).mono ?_
           rintro e w3 ⟨rfl,hrow3,hq3,hF3⟩
           have hF3' : Fr (MatF g rb bk M) w w3 := hF.step hF3 (fun b _ hb => by
             rcases hb with rfl | rfl
             · exact .inr (.inr ⟨k,y,HMk.out,.inr (.inr (.inl rfl))⟩)
             · exact .inr (.inr ⟨k,y,HMk.out,.inr (.inr (.inr rfl))⟩))
           have hM3 : MatAt w3 g rb bk n size (addP M at_ R (k + 1)) rank := by
             have hnh : ∀ (i : Nat) z,addP M at_ R k i = some z → i ≠ k → (bk i).w ≠ (bk k).w ∧ (bk i).d ≠ (bk k).d := fun i z hz hne => hM.apart i k z y hz HMk2.out hne
             have hg36 : g ≠ (bk k).w := by obtain ⟨⟨cs,k1⟩,_⟩ := hrow.vec.blk36; exact hM.head.ne k1 (by decide)
             have hg5 : g ≠ (bk k).d := hM.head.ne hrow.dat (by decide)
             have hr36 : rb ≠ (bk k).w := by obtain ⟨⟨cs,k1⟩,_⟩ := hrow.vec.blk36; exact hM.rows.ne k1 (by decide)
             have hr5 : rb ≠ (bk k).d := hM.rows.ne hrow.dat (by decide)
             refine ⟨hM.head.fr hF3 (by omega),by rw [rowsC_addP]; have := hM.rows.fr hF3 (by omega); rwa [rowsC_addP] at this,fun i z hz => ?_,fun i j z z' hz hz' hne => ?_,fun i z hz => ?_⟩
             · by_cases e : i = k
               · subst e
                 rw [hSk.out] at hz
                 cases hz
                 exact hrow3
               · rw [addP_ne M at_ R k i e] at hz
                 have hri := hM.row i z hz
                 have hn1 := hri.ne hrow
                 have hn2 := hnh i z hz e
                 exact hri.fr hF3 (by omega) (by omega) (by omega) (by omega)
             · have fix : ∀ (i : Nat) z,addP M at_ R (k + 1) i = some z → ∃ z',addP M at_ R k i = some z' := fun i z hz => by
                 have h1 : (addP M at_ R k i).isSome = true := by
                   rw [addP_some,← addP_some M at_ R (k + 1) i,hz]; rfl
                 exact Option.isSome_iff_exists.1 h1
               obtain ⟨a,ha⟩ := fix i z hz
               obtain ⟨b,hb⟩ := fix j z' hz'
               exact hM.apart i j a b ha hb hne
             · have h1 : (addP M at_ R k i).isSome = true := by
                 rw [addP_some,← addP_some M at_ R (k + 1) i,hz]; rfl
               obtain ⟨a,ha⟩ := Option.isSome_iff_exists.1 h1
               exact hM.out i a ha
           clear hM hq hF hrow hh hvv crow
           go_wp2_with fail
           go_roundw
           case rel => exact ⟨k + 1,by omega,by go_num,hM3,hq3,hF3'⟩
           case measure => simp [intOf]; omega
         · rw [hb] at hh
           have hS : Hid (addP M at_ R (k + 1) = addP M at_ R k) := hide (addP_off M at_ R k y hMk hb)
           clear hMk hMk2 hb
           go_wp2_with fail
           refine hh.mono ?_
           rintro e w' ⟨rfl,rfl⟩
           go_wp2_with fail
           go_roundw
           case rel => exact ⟨k + 1,by omega,by go_num,by rw [hS.out]; exact hM,hq,hF⟩
           case measure => simp [intOf]; omega
     · obtain rfl : n = k := by omega
       have hml := hM.head.cell (i := 2) (v := .slice (some ⟨rb,0,none⟩) n n) rfl
       have hrs : (rowsC n (addP M at_ R n) bk).size = n := rowsC_size _ _ _
       have crow : ∃ v,wr.cell? ⟨rb,at_,none⟩ = some v := ⟨_,hM.rows.cell (Array.getElem?_eq_getElem (by rw [hrs]; exact hat))⟩
       obtain ⟨v0,crow⟩ := crow
       have frow := hM.rows.free at_
       have hgr : g ≠ rb := hM.head.ne hM.rows (by decide)
       have hset := hM.rows.setCellAt at_ (.pointer (some ⟨q.r,0,none⟩)) (cs' := rowsC n (addB M at_ R) (bkSet bk at_ q)) (by rw [rowsC_addP]; exact rowsC_addB n M bk at_ R q h.out)
       have hS1 : Fr (· = rb) wr (wr.setCell ⟨rb,at_,none⟩ (.pointer (some ⟨q.r,0,none⟩))) := Fr.set (S := (· = rb)) (Fr.refl _ _) (p := ⟨rb,at_,none⟩) (fun _ => rfl) _
       have hhead := hM.head.fr hS1 hgr
       have c3 := hhead.cell (i := 3) (v := .int .i64 (rank : Int)) rfl
       have f3 := hhead.free 3
       have hwr : IntKind.i64.wrap ((rank : Int) + 1) = ((rank + 1 : Nat) : Int) := by rw [IntKind.wrap_i64]; omega
       clear hrs
       go_upto_region 14 with fail
       change Code.wp _ _ _ _ (wr.setCell ⟨rb,at_,none⟩ (.pointer (some ⟨q.r,0,none⟩)))
       generalize wr.setCell ⟨rb,at_,none⟩ (.pointer (some ⟨q.r,0,none⟩)) = w3 at *
       clear hml crow frow
       go_wp2_with fail
       refine (aadd_any g 3 (rank : Int) 1 w3 c3 f3).mono ?_
       rintro e w4 ⟨rfl,rfl⟩
       have hhead2 : Blk (w3.setCell ⟨g,3,none⟩ (.int .i64 ((rank + 1 : Nat) : Int))) g #[.int .i64 (n : Int),.int .i64 (size : Int),.slice (some ⟨rb,0,none⟩) n n,.int .i64 ((rank + 1 : Nat) : Int)] 280 := hhead.setCellAt 3 _ rfl
       have hS2 : Fr (· = g) w3 (w3.setCell ⟨g,3,none⟩ (.int .i64 ((rank + 1 : Nat) : Int))) := Fr.set (S := (· = g)) (Fr.refl _ _) (p := ⟨g,3,none⟩) (fun _ => rfl) _
       rw [hwr]
       have Hwr := hide hwr
       clear hwr c3 f3
       have hset2 := hset.fr hS2 (Ne.symm hgr)
       have hkeep : ∀ r vb wb db x d,RowAt wr r vb wb db n size x d → RowAt (w3.setCell ⟨g,3,none⟩ (.int .i64 ((rank + 1 : Nat) : Int))) r vb wb db n size x d := fun r vb wb db x d hx => by
         obtain ⟨⟨cs1,b1⟩,⟨cs2,b2⟩⟩ := hx.vec.blk36
         have hx2 := hx.fr hS1 (hx.row.ne hM.rows (by decide)) (b2.ne hM.rows (by decide)) (b1.ne hM.rows (by decide)) (hx.dat.ne hM.rows (by decide))
         obtain ⟨⟨ds1,d1⟩,⟨ds2,d2⟩⟩ := hx2.vec.blk36
         exact hx2.fr hS2 (hx2.row.ne hhead (by decide)) (d2.ne hhead (by decide)) (d1.ne hhead (by decide)) (hx2.dat.ne hhead (by decide))
       have hFF : Fr (MatF g rb bk M) w (w3.setCell ⟨g,3,none⟩ (.int .i64 ((rank + 1 : Nat) : Int))) := (hF.trans (hS1.mono (S' := MatF g rb bk M) fun b _ hb => .inr (.inl hb))).trans (hS2.mono (S' := MatF g rb bk M) fun b _ hb => .inl hb)
       have hMf : MatAt (w3.setCell ⟨g,3,none⟩ (.int .i64 ((rank + 1 : Nat) : Int))) g rb (bkSet bk at_ q) n size (addB M at_ R) (rank + 1) := by
         refine ⟨hhead2,hset2,fun i z hz => ?_,fun i j z z' hz hz' hne => ?_,fun i z hz => ?_⟩
         · by_cases e : i = at_
           · subst e
             rw [addB_at] at hz
             cases hz
             have := hkeep _ _ _ _ _ _ hq
             simpa [bkSet] using this
           · rw [addB_of M at_ R n h.out i e] at hz
             have := hkeep _ _ _ _ _ _ (hM.row i z hz)
             simpa [bkSet,e] using this
         · have old : ∀ (i : Nat) z,i ≠ at_ → addB M at_ R i = some z → ∃ a b,addP M at_ R n i = some a ∧ M i = some b := fun i z e hz => by
             rw [addB_of M at_ R n h.out i e] at hz
             have h1 : (M i).isSome = true := by rw [← addP_some M at_ R n i,hz]; rfl
             obtain ⟨b,hb⟩ := Option.isSome_iff_exists.1 h1
             exact ⟨z,b,hz,hb⟩
           by_cases e : i = at_
           · have e2 : j ≠ at_ := fun h => hne (e.trans h.symm)
             obtain ⟨a,b,ha,hb⟩ := old j z' e2 hz'
             have hl := (h.row j b hb).lt
             simp only [bkSet,e,e2,if_true,if_false]
             omega
           · obtain ⟨a,b,ha,hb⟩ := old i z e hz
             by_cases e2 : j = at_
             · have hl := (h.row i b hb).lt
               simp only [bkSet,e,e2,if_true,if_false]
               omega
             · obtain ⟨a2,b2,ha2,hb2⟩ := old j z' e2 hz'
               simp only [bkSet,e,e2,if_false]
               exact hM.apart i j a a2 ha ha2 hne
         · by_cases e : i = at_
           · omega
           · rw [addB_of M at_ R n h.out i e] at hz
             exact hM.out i z hz
       clear hM hq hF hset hS1 hhead hhead2 hS2 hset2 hkeep
       go_wp2_with fail
       go_ret
       exact .inr ⟨at_,q,Hbit.out,rfl,hMf,hfr,hFF⟩
theorem isZ274 : IsZ Tryz.prog 274 (.pointer none) 8 := by unfold IsZ; kernel_rfl
theorem isRef22 : IsRef Tryz.prog 22 := by unfold IsRef; kernel_rfl
def noM : MatB := fun _ => none
theorem rowsC_noM (n : Nat) (bk : Nat → RB) : Array.replicate n (Value.pointer none) = rowsC n noM bk := by
 apply Array.ext
 · simp [rowsC]
 · intro i h1 h2
   simp [rowsC,noM]
theorem mnew_any (n size : Nat) (w : World) (h1 : 1 ≤ n) (hn : n ≤ 64) (h2 : 1 ≤ size) (hs : size ≤ 16) :
   Calls Tryz.prog 212 #[.int .i64 n,.int .i64 size] w fun e w' => e = .returned (.pointer (some ⟨w.heap.size + 1,0,none⟩)) ∧ MatAt w' (w.heap.size + 1) w.heap.size (fun _ => ⟨0,0,0,0⟩) n size noM 0 ∧ Below w.heap.size w w' := by
 have d1 : decide ((n : Int) < 1) = false := by simp; omega
 have d2 : decide (256 < (n : Int)) = false := by simp; omega
 have d3 : decide ((size : Int) < 1) = false := by simp; omega
 have d4 : decide (16 < (size : Int)) = false := by simp; omega
 go_enter Tryz.func212,Tryz.ntmps212
 go_wp2_with (at_make; refine wpList_makeZ _ rfl _ _ _ rfl 274 (.pointer none) 8 Tryz.underlying278 isZ274 rfl _ _ _ _ n rfl rfl rfl rfl (by omega) (by omega) ?_)
 go_ret
 have hM : MatAt ((w.alloc (.cells (Array.replicate n (.pointer none)) 274)).alloc (.cells #[.int .i64 (n : Int),.int .i64 (size : Int),.slice (some ⟨w.heap.size,0,none⟩) n n,.int .i64 0] 280)) (w.heap.size + 1) w.heap.size (fun _ => ⟨0,0,0,0⟩) n size noM 0 := by
   refine ⟨heap_alloc2_new w _ _,?_,(fun i x h => by cases h),(fun i j x y h => by cases h),(fun i x h => by cases h)⟩
   rw [← rowsC_noM]
   exact heap_alloc2_old w _ _
 first
   | exact ⟨rfl,hM,ba (below_alloc1 _ _) _⟩
   | exact ⟨hM,ba (below_alloc1 _ _) _⟩
theorem VecAt.heap {w w' : World} {p wb n : Nat} {x : B64} (h : VecAt w p wb n x) (hh : w'.heap = w.heap) : VecAt w' p wb n x := by
 obtain ⟨cp,cs,h1,h2,h3⟩ := h
 unfold VecAt Blk at *
 rw [hh]
 exact ⟨cp,cs,h1,h2,h3⟩
theorem MatAt.heap {w w' : World} {g rb n size rank : Nat} {bk : Nat → RB} {M : MatB} (h : MatAt w g rb bk n size M rank) (hh : w'.heap = w.heap) : MatAt w' g rb bk n size M rank :=
 ⟨by have := h.head; unfold Blk at *; rw [hh]; exact this,by have := h.rows; unfold Blk at *; rw [hh]; exact this,fun i x hx => by
   have := h.row i x hx
   exact ⟨by have := this.row; unfold Blk at *; rw [hh]; exact this,this.vec.heap hh,by have := this.dat; unfold Blk at *; rw [hh]; exact this,this.len⟩,h.apart,h.out⟩
theorem mrank_any (g rb : Nat) (bk : Nat → RB) (n size : Nat) (M : MatB) (rank : Nat) (w : World) (h : MatAt w g rb bk n size M rank) (hr : rank ≤ 1000) :
   Calls Tryz.prog 184 #[.pointer (some ⟨g,0,none⟩)] w fun e w' => e = .returned (.int .i64 rank) ∧ w' = w := by
 have c3 := h.head.cell (i := 3) (v := .int .i64 (rank : Int)) rfl
 have hr' : (rank : Int) ≤ 1000 := by omega
 go_enter Tryz.func184,Tryz.ntmps184
 go_wp2_with fail
 refine (aload_any g 3 (rank : Int) w c3).mono ?_
 rintro e w' ⟨rfl,rfl⟩
 go_wp2_with fail
 go_ret
 exact ⟨rfl,rfl⟩
theorem mfull_any (g rb : Nat) (bk : Nat → RB) (n size : Nat) (M : MatB) (w : World) (h : MatAt w g rb bk n size M n) (hn : n ≤ 64) :
   Calls Tryz.prog 236 #[.pointer (some ⟨g,0,none⟩)] w fun e w' => e = .returned (.bool true) ∧ Below w.heap.size w w' := by
 have c0 := h.head.cell (i := 0) (v := .int .i64 (n : Int)) rfl
 have hnn : ((n : Int) == (n : Int)) = true := by simp
 go_enter Tryz.func236,Tryz.ntmps236
 go_wp2_with fail
 go_quiet ((go_at_call 184; exact Calls.quiet_of_same (mrank_any g rb bk n size M n _ (h.heap rfl) (by omega))))
 go_wp2_with fail
 go_ret
 exact ⟨rfl,below_drewN (Below.refl _ _) _⟩
theorem msolve_any (g rb : Nat) (bk : Nat → RB) (n size : Nat) (M : MatB) (ds : List (List UInt8)) (w : World) (h : MatAt w g rb bk n size M n) (hn : n ≤ 64) (hs : size ≤ 16) (hl : ds.length = n) (hd : ∀ (i : Nat) d,ds[i]? = some d → ∃ x,M i = some (x,d)) :
   Calls Tryz.prog 218 #[.pointer (some ⟨g,0,none⟩)] w fun e w' => ∃ A c,e = .returned (.slice A n c) ∧ OwnL 22 5 w' w.heap.size A n c ds none ∧ Below w.heap.size w w' := by
 have hn' : (n : Int) ≤ 64 := by omega
 have hs' : (size : Int) ≤ 16 := by omega
 have Hl := hide hl
 have Hd := hide hd
 clear hl hd
 go_enter Tryz.func218,Tryz.ntmps218
 go_wp2_with fail
 refine (mfull_any g rb bk n size M w h hn).mono ?_
 rintro e w1 ⟨rfl,hb1⟩
 have h1 := h.below hb1
 have hml := h1.head.cell (i := 2) (v := .slice (some ⟨rb,0,none⟩) n n) rfl
 go_wp2_with fail
 clear hml
 go_loopw [3,14,5] (fun v u _ wr => ∃ (k : Nat) (A : Option Addr) (c : Nat),k ≤ n ∧ u = .int .i64 (k : Int) ∧ v = .slice A k c ∧ OwnL 22 5 wr w.heap.size A k c (ds.take k) none ∧ Below w.heap.size w wr) (fun _ u _ _ => n - (intOf u).toNat)
 case atStart => exact ⟨0,none,0,by omega,rfl,rfl,OwnL.nil _ _ _ _ _,hb1⟩
 case round =>
   clear h1 hb1
   obtain ⟨k,A,c,hk,rfl,rfl,ho,hB⟩ := hrel
   by_cases hlt : k < n
   · have hlt' : (k : Int) < (n : Int) := by omega
     have hkl : k < ds.length := by have := Hl.out; omega
     obtain ⟨x,hx⟩ := Hd.out k ds[k] (List.getElem?_eq_getElem hkl)
     have hM := h.below hB
     have crow := hM.rows.cell (rowsC_some n M bk k hlt (by rw [hx]; rfl))
     have hrow := hM.row k _ hx
     have hvd := hrow.row.cell (i := 1) (v := .slice (some ⟨(bk k).d,0,none⟩) size size) rfl
     have hrd := rd_of_blk hrow.dat hrow.len (show size ≤ maxLen by unfold maxLen; omega)
     have htk : Hid (ds.take (k + 1) = ds.take k ++ [ds[k]]) := hide (by rw [List.take_add_one,List.getElem?_eq_getElem hkl]; rfl)
     have hsr := hB.size
     generalize ds[k] = D at *
     clear hx
     go_wp2_with fail
     refine (clone_any (some ⟨(bk k).d,0,none⟩) size size _ wr hrd (by omega)).mono ?_
     rintro e w2 ⟨A2,c2,rfl,ho2,hb2⟩
     have hal := below_alloc1 w2 (.cells #[.slice A2 size c2] 22)
     have ho2' := (ho2.mono hsr).below hal
     have hoa := (ho.below hb2).below hal
     have hB2 := below_next hB hb2
     have hs2 := hB2.size
     have hc2 : (w2.alloc (.cells #[.slice A2 size c2] 22)).cell? ⟨w2.heap.size,0,none⟩ = some (.slice A2 size c2) := cell1 w2 _ 22 0 _ rfl
     clear crow hvd hrow hM ho hrd
     go_wp2_with (at_builtin
                  refine wpList_appendL _ rfl _ _ _ rfl w.heap.size 22 5 (by decide) Tryz.underlying23 isRef22 A k c _ none rfl hoa ⟨w2.heap.size,0,none⟩ 1 A2 size c2 D rfl hc2 ho2' (.inl rfl) (by omega) (by simp; omega) ?_
                  intro A6 c6 w6 ho6 hb6 _)
     go_roundw
     case rel => exact ⟨k + 1,A6,c6,by omega,by go_num,rfl,by rw [htk.out]; exact ho6,(hB2.alloc hs2 _).trans hb6⟩
     case measure => simp [intOf]; omega
   · obtain rfl : n = k := by omega
     have e : ds.take n = ds := List.take_of_length_le (by rw [Hl.out]; exact Nat.le_refl _)
     rw [e] at ho
     go_wp2_with fail
     go_ret
     exact ⟨A,c,rfl,ho,hB⟩
end Go.Proofs.YtkkcpblfheplaaaGreatDoor
