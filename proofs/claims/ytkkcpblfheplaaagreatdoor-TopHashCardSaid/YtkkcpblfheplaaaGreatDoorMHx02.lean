/- Contracts of functions that the laws of downpourtop reach, and plain facts; no condition beyond what each theorem states. -/
import Derived.Test.YtkkcpblfheplaaaGreatDoorMHx01
set_option maxRecDepth 100000
set_option maxHeartbeats 8000000
set_option linter.all false
namespace Go.Proofs.YtkkcpblfheplaaaGreatDoor
open Go.RowKit
theorem done_143 (g t : Nat) (cs : Array Value) (w : World) (hb : Blk w g cs t) (h0 : cs[5]? = some (.int .u32 1)) (cap : Value) :
   Calls Tryz.prog 142 #[.pointer (some ⟨g,5,none⟩),.func (.func 143) #[] #[cap]] w fun e w' => e = .returned (.tuple #[]) ∧ w = w' := by
 have hl := run_call_load (P := Tryz.prog) Tryz.func220 (by kernel_rfl) (by kernel_rfl) (by kernel_rfl) .u32 (by kernel_rfl) (hb.cell h0)
 have hnot : ∀ (x : Bool) (w : World),(Op.unary .not (.bool x)).run Tryz.prog w = .ok (.bool (!x)) w := fun _ _ => rfl
 go_enter Tryz.func142,Tryz.ntmps142
 go_wp2_with (first | (go_at_call 187; go_in))
 go_end0
 exact ⟨rfl,rfl⟩
def HeadS (F : Nat → Prop) (w : World) (h : Nat) (s : B32) (K P S : Nat) (img : List UInt8) : Prop :=
 ∃ A c dn l8,Blk w h (headC s K P S (.slice A img.length c) dn 0 l8) 121 ∧ ¬ F h ∧ Rd w A img.length c img ∧ (∀ ad,A = some ad → ¬ F ad.block ∧ ad.block < w.heap.size) ∧
   (dn = 0 ∧ l8 = .slice none 0 0 ∨ dn = 1 ∧ ∃ B d,l8 = .slice B (K + P : Nat) d ∧ ∀ w',Fr F w w' → RdL w' B (K + P) d (pcs s K P S img))
theorem HeadS.step {F F1 : Nat → Prop} {w w1 : World} {h : Nat} {s : B32} {K P S : Nat} {img : List UInt8} (H : HeadS F w h s K P S img) (hF : Fr F w w1) (hg : ∀ b,F1 b → F b ∨ w.heap.size ≤ b) : HeadS F1 w1 h s K P S img := by
 obtain ⟨A,c,dn,l8,hb,hn,hr,hA,hor⟩ := H
 have hl := hb.lt
 have hs := hF.size
 refine ⟨A,c,dn,l8,hb.fr hF hn,fun k => ?_,hr.fr hF (fun _ ad e => (hA ad e).1),fun ad e => ⟨fun k => ?_,by have := (hA ad e).2; omega⟩,?_⟩
 · rcases hg h k with k | k
   · exact hn k
   · omega
 · have h2 := hA ad e
   rcases hg _ k with k | k
   · exact h2.1 k
   · omega
 · rcases hor with h0 | ⟨h1,B,d,e,hp⟩
   · exact .inl h0
   · exact .inr ⟨h1,B,d,e,fun w' hw' => hp w' (hF.step hw' (fun g hg1 k => by rcases hg g k with k | k; exact k; omega))⟩
theorem pieces_any (F : Nat → Prop) (h : Nat) (s : B32) (K P S : Nat) (img : List UInt8) (w : World) (H : HeadS F w h s K P S img) (hFl : ∀ b,F b → b < w.heap.size) (hok : spOk K P S = true) (hn : K + P ≤ 64) (hcn : cnt img.length S = K) :
   Calls Tryz.prog 90 #[.pointer (some ⟨h,0,none⟩)] w fun e w' => ∃ B d,e = .returned (.slice B (K + P : Nat) d) ∧ RdL w' B (K + P) d (pcs s K P S img) ∧ HeadS F w' h s K P S img ∧ (∃ A c dn l8,Blk w' h (headC s K P S (.slice A img.length c) dn 0 l8) 121) ∧ Fr (· = h) w w' := by
 obtain ⟨A,c,dn,l8,hb,hnF,hr,hA,hor⟩ := H
 obtain ⟨W,hW⟩ : ∃ W,W = w.alloc (.cells #[.pointer (some ⟨h,0,none⟩)] 62) := ⟨_,rfl⟩
 have hBW : Below w.heap.size w W := by rw [hW]; exact below_alloc1 _ _
 have hxW : Blk W w.heap.size #[.pointer (some ⟨h,0,none⟩)] 62 := by rw [hW]; exact Blk.new _ _ _
 have hbW := hb.below hBW
 have hrW := hr.below hBW
 have hsW := hBW.size
 have hhl := hb.lt
 have hne : w.heap.size ≠ h := by omega
 have hl8 : ∃ B n d,l8 = .slice B n d := by
   rcases hor with ⟨_,h0⟩ | ⟨_,B,d,h0,_⟩
   · exact ⟨none,0,0,h0⟩
   · exact ⟨B,_,d,h0⟩
 have hL0 : 0 < img.length := by
   have hK : 1 ≤ K := by unfold spOk at hok; simp at hok; omega
   exact (cnt_div hcn hK).2.1
 have hA2 : ∀ ad,A = some ad → ad.block ≠ h := hr.apart hb (fun i y hy => by
   obtain ⟨B,n,d,rfl⟩ := hl8
   unfold headC at hy
   match i,hy with
   | 0,hy | 1,hy | 2,hy | 3,hy | 4,hy | 5,hy | 6,hy | 7,hy | 8,hy => simp at hy
   | k + 9,hy => simp at hy) hL0
 have p0 := hxW.cell (i := 0) (v := .pointer (some ⟨h,0,none⟩)) rfl
 go_enter Tryz.func90,Tryz.ntmps90
 go_upto_region 1 with fail
 change Code.wp _ _ _ _ (w.alloc (.cells #[.pointer (some ⟨h,0,none⟩)] 62))
 rw [← hW]
 clear hW
 rcases hor with ⟨rfl,rfl⟩ | ⟨rfl,B,d,rfl,hp⟩
 · have hF6 : Fr (· = h) W (W.setCell ⟨h,6,none⟩ (.int .i32 1)) := Fr.set (S := (· = h)) (Fr.refl _ _) (p := ⟨h,6,none⟩) (fun _ => rfl) _
   have hz6 : (W.setCell ⟨h,6,none⟩ (.int .i32 1)).heap.size = W.heap.size := by simp [World.setCell]
   have hd6 := hbW.setCellAt 6 (.int .i32 1) (cs' := headC s K P S (.slice A img.length c) 0 1 (.slice none 0 0)) rfl
   have hcl := hclos_any w.heap.size h s K P S A img.length c img 0 1 (.slice none 0 0) _ (hxW.fr hF6 hne) hd6 (hrW.fr hF6 (fun _ ad e => hA2 ad e)) hok hn hcn
   rw [hz6] at hcl
   have hdo := do_143 h 121 _ W hbW rfl rfl (.pointer (some ⟨w.heap.size,0,none⟩)) (fun w' => ∃ B d,OwnL 22 5 w' W.heap.size B (K + P) d (pcs s K P S img) none ∧ Blk w' h (headC s K P S (.slice A img.length c) 0 1 (.slice B (K + P : Nat) d)) 121 ∧ Fr (· = h) W w')
     (hcl.mono (by
       rintro e w' ⟨rfl,B,d,h1,h2,h3⟩
       exact ⟨rfl,⟨B,d,h1,h2,hF6.trans h3⟩,_,h2,rfl,rfl⟩))
   go_wp2_with fail
   (with_reducible refine hdo.mono ?_)
   rintro e w5 ⟨rfl,w3,⟨B,d,ho,hb3,hF3⟩,hw5⟩
   have hb4 := (show Blk w3.drew h _ 121 from hb3).setCellAt 5 (.int .u32 1) (cs' := headC s K P S (.slice A img.length c) 1 1 (.slice B (K + P : Nat) d)) rfl
   have hb5 := hb4.setCellAt 6 (.int .i32 0) (cs' := headC s K P S (.slice A img.length c) 1 0 (.slice B (K + P : Nat) d)) rfl
   have hF4 : Fr (· = h) w3.drew (w3.drew.setCell ⟨h,5,none⟩ (.int .u32 1)) := Fr.set (S := (· = h)) (Fr.refl _ _) (p := ⟨h,5,none⟩) (fun _ => rfl) _
   have hF5 : Fr (· = h) w3 ((w3.drew.setCell ⟨h,5,none⟩ (.int .u32 1)).setCell ⟨h,6,none⟩ (.int .i32 0)) := Fr.set (S := (· = h)) ((Fr.refl _ w3).drew.trans hF4) (p := ⟨h,6,none⟩) (fun _ => rfl) _
   rw [← hw5] at hb5 hF5
   have hF7 := hF3.trans hF5
   have ho5 := ho.fr hF5 (fun g hg => by have h2 : g = h := hg; omega)
   have hx5 := hxW.fr hF7 hne
   have hFw : Fr (· = h) w w5 := (Fr.of hBW).step hF7 (fun _ _ k => k)
   have q0 := hx5.cell (i := 0) (v := .pointer (some ⟨h,0,none⟩)) rfl
   have q8 := hb5.cell (i := 8) (v := .slice B (K + P : Nat) d) rfl
   have hr5 := hr.fr hFw (fun _ ad e => hA2 ad e)
   have hs5 := hFw.size
   clear hdo hcl hw5 p0
   go_wp2_with fail
   go_ret
   exact ⟨B,d,rfl,ho5.rdl,⟨A,c,1,_,hb5,hnF,hr5,fun ad e => ⟨(hA ad e).1,by have := (hA ad e).2; omega⟩,.inr ⟨rfl,B,d,rfl,fun w' hw' => (ho5.fr hw' (fun g hg => by have := hFl g hg; omega)).rdl⟩⟩,⟨A,c,1,_,hb5⟩,hFw⟩
 · have hdo := done_143 h 121 _ W hbW rfl (.pointer (some ⟨w.heap.size,0,none⟩))
   have q8 := hbW.cell (i := 8) (v := .slice B (K + P : Nat) d) rfl
   have hFw : Fr (· = h) w W := Fr.of hBW
   have hpW := hp W (Fr.of hBW)
   go_wp2_with fail
   (with_reducible refine hdo.mono ?_)
   rintro e w5 ⟨rfl,rfl⟩
   go_wp2_with fail
   go_ret
   exact ⟨B,d,rfl,hpW,⟨A,c,1,_,hbW,hnF,hrW,fun ad e => ⟨(hA ad e).1,by have := (hA ad e).2; omega⟩,.inr ⟨rfl,B,d,rfl,fun w' hw' => hp w' ((Fr.of hBW).trans hw')⟩⟩,⟨A,c,1,_,hbW⟩,hFw⟩
theorem sumsL_pre (S : Nat) (a b : List (List UInt8)) : ∀ k,k ≤ a.length → sumsL S (a ++ b) k = sumsL S a k := by
 intro k
 induction k with
 | zero => intro _; rfl
 | succ k ih =>
   intro h
   unfold sumsL
   rw [ih (by omega),List.getD_eq_getElem?_getD,List.getD_eq_getElem?_getD,List.getElem?_append_left (by omega)]
def pick (ps : List (List UInt8)) (x : B64) (k : Nat) : List (List UInt8) := (bitsL x k).map fun i => ps.getD i []
theorem pick_sum (ps : List (List UInt8)) (x : B64) (S : Nat) (hps : ∀ i,i < ps.length → (ps.getD i []).length = S) : ∀ k,k ≤ ps.length → sumsL S (pick ps x k) (pick ps x k).length = symV ps (bR x) k S := by
 intro k
 induction k with
 | zero => intro _; rw [symV_zero]; rfl
 | succ k ih =>
   intro h
   have e : pick ps x (k + 1) = pick ps x k ++ (if x.getLsbD k then [ps.getD k []] else []) := by
     unfold pick
     rw [bitsL_succ,List.map_append]
     split <;> rfl
   rw [e]
   rcases Bool.eq_false_or_eq_true (x.getLsbD k) with hb | hb
   · rw [hb,if_pos rfl,List.length_append,List.length_singleton]
     show dx (sumsL S (pick ps x k ++ [ps.getD k []]) (pick ps x k).length) ((pick ps x k ++ [ps.getD k []]).getD (pick ps x k).length []) = _
     rw [sumsL_pre _ _ _ _ (Nat.le_refl _),ih (by omega),symV_yes ps (bR x) k S hb (hps k (by omega))]
     congr 1
     rw [List.getD_eq_getElem?_getD,List.getElem?_append_right (Nat.le_refl _),Nat.sub_self]
     rfl
   · rw [hb]
     simp only [Bool.false_eq_true,if_false,List.append_nil]
     rw [ih (by omega),symV_no ps (bR x) k S hb]
theorem rowL_ne (s : B32) (K P : Nat) (id : B32) (hn1 : 1 ≤ K + P) (hn : K + P ≤ 64) : ∃ x,x ∈ rowL s K P id ∧ x < K + P := by
 unfold rowL
 by_cases h : id.toNat < K
 · rw [if_pos h]; exact ⟨id.toNat,by simp,by omega⟩
 · rw [if_neg h]
   have h1 := degF_pos hn1 (show K + P ≤ 80 by omega) (outS (newS s id)).isLt
   have hl := shuf_len (K + P) (nextS (newS s id)) (degF (K + P) (outS (newS s id)).toNat)
   obtain ⟨x,hx⟩ : ∃ x,(someL (K + P) (nextS (newS s id)) (degF (K + P) (outS (newS s id)).toNat))[0]? = some x := by
     unfold someL
     rw [List.getElem?_take,if_pos (by omega)]
     exact ⟨_,List.getElem?_eq_getElem (by omega)⟩
   exact ⟨x,List.mem_of_getElem? hx,someL_lt _ _ _ _ (List.mem_of_getElem? hx)⟩
theorem bits_ne (s : B32) (K P : Nat) (id : B32) (hn1 : 1 ≤ K + P) (hn : K + P ≤ 64) : 1 ≤ (bitsL (rowB s K P id) (K + P)).length := by
 obtain ⟨x,hx,hlt⟩ := rowL_ne s K P id hn1 hn
 have : x ∈ bitsL (rowB s K P id) (K + P) := by
   unfold bitsL
   rw [List.mem_filter]
   exact ⟨by simpa using hlt,by unfold rowB; rw [ofL_bit _ _ (by omega)]; simpa using hx⟩
 exact List.length_pos_of_mem this
theorem isZ22 : IsZ Tryz.prog 22 (.slice none 0 0) 24 := by unfold IsZ; kernel_rfl
theorem hsym_any (F : Nat → Prop) (h : Nat) (s : B32) (K P S : Nat) (img : List UInt8) (id : B32) (w : World) (H : HeadS F w h s K P S img) (hFl : ∀ b,F b → b < w.heap.size) (hok : spOk K P S = true) (hn : K + P ≤ 64) (hcn : cnt img.length S = K) :
   Calls Tryz.prog 39 #[.pointer (some ⟨h,0,none⟩),.int .u32 (V id)] w fun e w' => ∃ A c,e = .returned (.slice A S c) ∧ Own w' w.heap.size 5 A S c (symV (pcs s K P S img) (rowOf (rowL s K P id)) (K + P) S) ∧ HeadS F w' h s K P S img ∧ Fr (· = h) w w' := by
 have hK : 1 ≤ K ∧ K ≤ 64 ∧ P ≤ 16 ∧ 1 ≤ S ∧ S ≤ 16 := by unfold spOk at hok; simp at hok; omega
 have hpl := pieces_any F h s K P S img w H hFl hok hn hcn
 have hrow : ∀ y,Calls Tryz.prog 91 #[.agg #[.int .u32 (V s),.int .i64 K,.int .i64 P,.int .i64 S],.int .u32 (V id)] y fun e w' => ∃ p wb,e = .returned (.pointer (some ⟨p,0,none⟩)) ∧ VecAt w' p wb (K + P) (rowB s K P id) ∧ y.heap.size ≤ p ∧ y.heap.size ≤ wb ∧ Below y.heap.size y w' := fun y => srow_any s K P S id y hok hn
 have hpall : ∀ i,i < K + P → ((pcs s K P S img).getD i []).length = S := fun i hi => pcs_all s K P S img (cnt_cover hcn hK.1) i hi
 have hplen := pcs_len s K P S img
 have hsum := hide (pick_sum (pcs s K P S img) (rowB s K P id) S (by rw [hplen]; exact hpall) (K + P) (by rw [hplen]; exact Nat.le_refl _))
 have hcong : Hid (symV (pcs s K P S img) (bR (rowB s K P id)) (K + P) S = symV (pcs s K P S img) (rowOf (rowL s K P id)) (K + P) S) := hide (symV_congr _ _ _ _ _ _ fun i hi => ⟨by
   show (rowB s K P id).getLsbD i = _
   unfold rowB rowOf
   rw [ofL_bit _ _ (by omega)],rfl⟩)
 have hne := bits_ne s K P id (by omega) hn
 have hbl := bitsL_len (rowB s K P id) (K + P)
 have hbm : Hid (∀ (j : Nat) x,(bitsL (rowB s K P id) (K + P))[j]? = some x → x < K + P) := hide (fun j x hx => by
   have := List.mem_of_getElem? hx
   unfold bitsL at this
   rw [List.mem_filter] at this
   simpa using this.1)
 have hpk : Hid (pick (pcs s K P S img) (rowB s K P id) (K + P) = (bitsL (rowB s K P id) (K + P)).map fun i => (pcs s K P S img).getD i []) := hide rfl
 have hid := V_bd id
 have Hpall := hide hpall
 clear hok hcn hpall H
 generalize pick (pcs s K P S img) (rowB s K P id) (K + P) = PK at *
 generalize symV (pcs s K P S img) (rowOf (rowL s K P id)) (K + P) S = D at *
 go_enter Tryz.func39,Tryz.ntmps39
 go_wp2_with fail
 refine hpl.mono ?_
 rintro e w1 ⟨B,d,rfl,hrl,hH1,⟨A0,c0,dn,l8,hb1⟩,hF1⟩
 have p0 := hb1.cell (i := 0) (v := .int .u32 (V s)) rfl
 have p1 := hb1.cell (i := 1) (v := .int .i64 (K : Int)) rfl
 have p2 := hb1.cell (i := 2) (v := .int .i64 (P : Int)) rfl
 have p3 := hb1.cell (i := 3) (v := .int .i64 (S : Int)) rfl
 have hs1 := hF1.size
 clear hpl hb1
 go_wp2_with fail
 (with_reducible refine (hrow _).mono ?_)
 rintro e w2 ⟨p,wb,rfl,hv2,_,_,hb2⟩
 clear p0 p1 p2 p3 hrow
 go_wp2_with fail
 refine (vlist_any p wb (K + P) (rowB s K P id) w2 hv2 hn).mono ?_
 rintro e w3 ⟨A3,m,c3,rfl,ho3,hb3⟩
 have hml : (bitsL (rowB s K P id) (K + P)).length = m := by have := row_len ho3; simpa [ints] using this
 have hm64 : m ≤ 64 := by omega
 have hm1 : 1 ≤ m := by omega
 have hrd3 := RdI.of_row ho3
 have hB3 := below_next hb2 hb3
 have hH3 := hH1.step (F1 := F) (Fr.of hB3) (fun b hb => .inl hb)
 have hrl3 := hrl.below hB3
 have hF3 := hF1.next hB3
 have hs3 := hF3.size
 have Hml := hide hml
 have hm' : (m : Int) ≤ 64 := by omega
 clear hv2 ho3 hb2 hb3 hrl hH1 hF1 hne hbl hml
 generalize bitsL (rowB s K P id) (K + P) = L at *
 go_wp2_with fail
 go_loopw [6,21] (fun v u wr => ∃ (j d' : Nat) (A' : Option Addr) (vs : List Value),j ≤ m ∧ u = .int .i64 (j : Int) ∧ v = .slice A' j d' ∧ wr.ownsRow w3.heap.size 22 1 (.slice A' j d') j vs ∧ Hid (∀ (i x : Nat),i < j → L[i]? = some x → ∃ A'' n'' c'',vs[i]? = some (.slice A'' n'' c'') ∧ Rd w3 A'' n'' c'' ((pcs s K P S img).getD x [])) ∧ Below w3.heap.size w3 wr) (fun _ u _ => m - (intOf u).toNat)
 case atStart => exact ⟨0,0,none,[],by omega,rfl,rfl,World.ownsRow_nil w3 w3.heap.size 22 1,hide (fun i x h => absurd h (by omega)),Below.refl _ _⟩
 case round =>
   obtain ⟨j,d',A',vs,hj,rfl,rfl,ho,hvs,hB⟩ := hrel
   by_cases hlt : j < m
   · have hlt' : (j : Int) < (m : Int) := by omega
     obtain ⟨g,x,rfl,hx,hcx⟩ := (hrd3.below hB).at_ hlt
     have hxn := hbm.out j x hx
     have hx0 : (0 : Int) ≤ (x : Int) := by omega
     have hxn' : (x : Int) < ((K + P : Nat) : Int) := by omega
     obtain ⟨ad,l,A4,n4,c4,rfl,hl,hcl0,hrdl⟩ := hrl3.at_ hxn
     have hcl := (Fr.of (S := fun _ => False) hB).cell hcl0 (fun h => h)
     have hgd : Hid ((pcs s K P S img).getD x [] = l) := hide (by rw [List.getD_eq_getElem?_getD,hl]; rfl)
     have Hx := hide hx
     have hal := below_alloc1 wr (.cells #[.slice A4 n4 c4] 22)
     have hoa := row_below ho hal
     have hsrc : ∀ (i : Nat) u,([.slice A4 n4 c4] : List Value)[i]? = some u → (wr.alloc (.cells #[.slice A4 n4 c4] 22)).cell? ((⟨wr.heap.size,0,none⟩ : Addr).add i) = some u := by
       intro i u hi
       match i,hi with
       | 0,hi => simp at hi; subst hi; rw [addAt]; exact cell1 wr _ 22 0 _ rfl
     have hsr := hB.size
     have hvl := row_len ho
     clear hx hl hcl0
     go_wp2_with (at_builtin
                  refine wpList_appendV _ rfl _ _ _ rfl w3.heap.size 22 (.slice none 0 0) 24 Tryz.underlying23 isZ22 rfl (by omega) A' j d' vs rfl hoa ⟨wr.heap.size,0,none⟩ 1 1 [.slice A4 n4 c4] rfl rfl (by omega) hsrc (by simp [Value.oneCell']) (by omega) (by simp; omega) ?_
                  intro A6 c6 w6 ho6 hb6 hg6 _)
     go_roundw
     case rel =>
       refine ⟨j + 1,c6,A6,vs ++ [.slice A4 n4 c4],by omega,by go_num,rfl,ho6,hide (fun i x' hi hx' => ?_),(hB.alloc hsr _).trans hb6⟩
       rcases Nat.lt_or_ge i j with hij | hij
       · obtain ⟨A'',n'',c'',k1,k2⟩ := hvs.out i x' hij hx'
         exact ⟨A'',n'',c'',by rw [List.getElem?_append_left (by omega)]; exact k1,k2⟩
       · obtain rfl : i = j := by omega
         rw [Hx.out] at hx'
         cases hx'
         exact ⟨A4,n4,c4,by rw [List.getElem?_append_right (by omega),hvl,Nat.sub_self]; rfl,by rw [hgd.out]; exact hrdl⟩
     case measure => simp [intOf]; omega
   · obtain rfl : m = j := by omega
     have hls : PK.length = m := by rw [hpk.out,List.length_map,Hml.out]
     have hcap : m ≤ d' ∧ d' ≤ maxLen := by
       rcases ho.2 with ⟨hv,h0⟩ | ⟨g,cap,cur,hv,_,_,hnc,hcm,_⟩ <;> simp only [Value.slice.injEq] at hv
       · omega
       · rw [hv.2.2]; exact ⟨hnc,hcm⟩
     have hR : RdL wr A' m d' PK := ⟨hls,hcap.1,hcap.2,fun h0 => by
       obtain ⟨g,rfl,_,_⟩ := row_form ho h0
       refine ⟨⟨g,0,none⟩,rfl,fun i l hl => ?_⟩
       rw [hpk.out,List.getElem?_map] at hl
       cases hx : L[i]? with
       | none => rw [hx] at hl; cases hl
       | some x =>
         rw [hx] at hl
         simp only [Option.map_some,Option.some.injEq] at hl
         subst hl
         have him : i < m := by have := (List.getElem?_eq_some_iff.1 hx).1; rw [Hml.out] at this; exact this
         obtain ⟨A'',n'',c'',k1,k2⟩ := hvs.out i x him hx
         exact ⟨A'',n'',c'',by rw [addAt]; exact row_cell ho k1,k2.below hB⟩⟩
     have hPK : ∀ l,l ∈ PK → l.length = S := fun l hl => by
       rw [hpk.out] at hl
       obtain ⟨i,hi⟩ := List.getElem?_of_mem hl
       rw [List.getElem?_map] at hi
       cases hx : L[i]? with
       | none => rw [hx] at hi; cases hi
       | some x =>
         rw [hx] at hi
         simp only [Option.map_some,Option.some.injEq] at hi
         rw [← hi]
         exact Hpall.out x (hbm.out i x hx)
     have hsumc := hsum_any A' m d' S PK wr hR hm1 (by omega) (by omega) hPK
     have hDD : Hid (sumsL S PK m = D) := hide (by rw [← hcong.out,← hsum.out,hls])
     have Hsc := hide hsumc
     have hsr := hB.size
     clear hR hPK hls hcap hsumc ho hvs
     go_wp2_with fail
     refine Hsc.out.mono ?_
     rintro e w5 ⟨A5,c5,rfl,ho5,hb5⟩
     rw [hDD.out] at ho5
     have hB5 := below_next hB hb5
     go_wp2_with fail
     go_ret
     exact ⟨A5,c5,rfl,ho5.mono (by omega),hH3.step (F1 := F) (Fr.of hB5) (fun b hb => .inl hb),hF3.next hB5⟩
def carC (key : Value) (s v : B32) (L S P : Nat) (hash : Value) (K h : Nat) : Array Value :=
 #[key,.int .u32 (V s),.int .u32 (V v),.int .i64 L,.int .i64 S,.int .i64 P,hash,.int .u32 (V s),.int .i64 K,.int .i64 P,.int .i64 S,.pointer (some ⟨h,0,none⟩)]
def CarS (F : Nat → Prop) (w : World) (g : Nat) (key : List UInt8) (s v : B32) (S P K : Nat) (img : List UInt8) : Prop :=
 ∃ kA kn kc hA hc h,Blk w g (carC (.slice kA kn kc) s v img.length S P (.slice hA 32 hc) K h) 65 ∧ ¬ F g ∧ Rd w kA kn kc key ∧ kn ≤ 64 ∧ (0 < kn → ∀ ad,kA = some ad → ¬ F ad.block ∧ ad.block < w.heap.size) ∧
   Rd w hA 32 hc (sha img) ∧ (∀ ad,hA = some ad → ¬ F ad.block ∧ ad.block < w.heap.size) ∧ HeadS F w h s K P S img ∧ g ≠ h
theorem CarS.step {F F1 : Nat → Prop} {w w1 : World} {g : Nat} {key : List UInt8} {s v : B32} {S P K : Nat} {img : List UInt8} (H : CarS F w g key s v S P K img) (hF : Fr F w w1) (hg : ∀ b,F1 b → F b ∨ w.heap.size ≤ b) : CarS F1 w1 g key s v S P K img := by
 obtain ⟨kA,kn,kc,hA,hc,h,hb,hn,hk,hk64,hka,hh,hha,hH,hne⟩ := H
 have hl := hb.lt
 have hs := hF.size
 refine ⟨kA,kn,kc,hA,hc,h,hb.fr hF hn,fun k => ?_,hk.fr hF (fun h0 ad e => (hka h0 ad e).1),hk64,fun h0 ad e => ⟨fun k => ?_,by have := (hka h0 ad e).2; omega⟩,hh.fr hF (fun _ ad e => (hha ad e).1),fun ad e => ⟨fun k => ?_,by have := (hha ad e).2; omega⟩,hH.step hF hg,hne⟩
 · rcases hg g k with k | k
   · exact hn k
   · omega
 · have h2 := hka h0 ad e
   rcases hg _ k with k | k
   · exact h2.1 k
   · omega
 · have h2 := hha ad e
   rcases hg _ k with k | k
   · exact h2.1 k
   · omega
theorem manOk_sp {L S P : Nat} (h : manOk L S P = true) : spOk (cnt L S) P S = true := h
theorem cfirst_any (F : Nat → Prop) (g : Nat) (key : List UInt8) (s v : B32) (S P K : Nat) (img : List UInt8) (w : World) (H : CarS F w g key s v S P K img) (hm : manOk img.length S P = true) (hL : img.length ≤ 512) (hS : S ≤ 16) :
   Calls Tryz.prog 10 #[.pointer (some ⟨g,0,none⟩)] w fun e w' => ∃ A c,e = .returned (.slice A 85 c) ∧ Own w' w.heap.size 5 A 85 c (wrapL 1 (plainL s v img.length S P (sha img) ++ tag key (plainL s v img.length S P (sha img)))) ∧ Below w.heap.size w w' := by
 obtain ⟨kA,kn,kc,hA,hc,h,hb,hn,hk,hk64,hka,hh,hha,hH,hne⟩ := H
 have hP : ∀ y,Below w.heap.size w y → ((y.cell? ⟨g,0,none⟩ = some (.slice kA kn kc) ∧ y.cell? ⟨g,1,none⟩ = some (.int .u32 (V s)) ∧ y.cell? ⟨g,2,none⟩ = some (.int .u32 (V v)) ∧ y.cell? ⟨g,3,none⟩ = some (.int .i64 img.length) ∧ y.cell? ⟨g,4,none⟩ = some (.int .i64 S) ∧ y.cell? ⟨g,5,none⟩ = some (.int .i64 P) ∧ y.cell? ⟨g,6,none⟩ = some (.slice hA 32 hc)) ∧ Below w.heap.size w y) := fun y hy => by
   have h1 := hb.below hy
   exact ⟨⟨h1.cell rfl,h1.cell rfl,h1.cell rfl,h1.cell rfl,h1.cell rfl,h1.cell rfl,h1.cell rfl⟩,hy⟩
 have hS0 := hP w.drew (Below.refl _ _).drew
 have hS2 : True := trivial
 have hmb : ∀ y,Below w.heap.size w y → Calls Tryz.prog 29 #[.slice kA kn kc,.agg #[.int .u32 (V s),.int .u32 (V v),.int .i64 img.length,.int .i64 S,.int .i64 P,.slice hA 32 hc]] y fun e w' => ∃ A' c',e = .returned (.tuple #[.slice A' 76 c',.int .i64 0]) ∧ Own w' y.heap.size 5 A' 76 c' (plainL s v img.length S P (sha img) ++ tag key (plainL s v img.length S P (sha img))) ∧ Below y.heap.size y w' :=
   fun y hy => manbytes_any s v img.length S P hA kA hc kn kc (sha img) key y hm (by omega) (by omega) (hh.below hy) (hk.below hy) hk64
 generalize plainL s v img.length S P (sha img) ++ tag key (plainL s v img.length S P (sha img)) = D at *
 clear hH hn hha hka hb hh hk
 go_enter Tryz.func10,Tryz.ntmps10
 go_upto_region 3 with fail
 go_cut [3,4] (fun x y wx => ∃ B' d',x = .slice B' 76 d' ∧ y = .int .i64 0 ∧ Own wx w.heap.size 5 B' 76 d' D ∧ Below w.heap.size w wx)
 case first =>
   go_region_held3 (fun y => (y.cell? ⟨g,0,none⟩ = some (.slice kA kn kc) ∧ y.cell? ⟨g,1,none⟩ = some (.int .u32 (V s)) ∧ y.cell? ⟨g,2,none⟩ = some (.int .u32 (V v)) ∧ y.cell? ⟨g,3,none⟩ = some (.int .i64 img.length) ∧ y.cell? ⟨g,4,none⟩ = some (.int .i64 S) ∧ y.cell? ⟨g,5,none⟩ = some (.int .i64 P) ∧ y.cell? ⟨g,6,none⟩ = some (.slice hA 32 hc)) ∧ Below w.heap.size w y)
     (first | (with_reducible exact hS0) | (with_reducible exact hS2))
     ((go_at_call 29; (with_reducible refine (hmb _ hS0.2).mono ?_); rintro e w2 ⟨A2,c2,rfl,ho2,hb2⟩; have hB2 := below_next hS0.2 hb2; have hS2 := hP w2 hB2))
   all_goals
     go_wp2_with fail
     go_meet
     exact ⟨A2,c2,rfl,rfl,ho2.mono hS0.2.size,hB2⟩
 case rest =>
   obtain ⟨B',d',rfl,rfl,ho,hB⟩ := hcut
   have hw1 : Calls Tryz.prog 30 #[.int .i64 1,.slice B' 76 d'] wc fun e w' => ∃ A' c',e = .returned (.tuple #[.slice A' (76 + 9) c',.int .i64 0]) ∧ Own w' wc.heap.size 5 A' (76 + 9) c' (wrapL 1 D) ∧ Below wc.heap.size wc w' := wrap_good 1 B' 76 d' D wc ho.rd (by omega) (by omega) (by omega)
   go_wp2_with fail
   refine hw1.mono ?_
   rintro e w3 ⟨A3,c3,rfl,ho3,hb3⟩
   go_wp2_with fail
   go_ret
   exact ⟨A3,c3,rfl,ho3.mono hB.size,below_next hB hb3⟩
theorem csym_any (F : Nat → Prop) (g : Nat) (key : List UInt8) (s v : B32) (S P K : Nat) (img : List UInt8) (id : B32) (w : World) (H : CarS F w g key s v S P K img) (hFl : ∀ b,F b → b < w.heap.size) (hok : spOk K P S = true) (hn : K + P ≤ 64) (hcn : cnt img.length S = K) :
   Calls Tryz.prog 13 #[.pointer (some ⟨g,0,none⟩),.int .u32 (V id)] w fun e w' => ∃ A c,e = .returned (.slice A (8 + S + 9 : Nat) c) ∧ Own w' w.heap.size 5 A (8 + S + 9) c (wrapL 2 (four s ++ four id ++ symV (pcs s K P S img) (rowOf (rowL s K P id)) (K + P) S)) ∧ CarS F w' g key s v S P K img ∧ ∃ h,¬ F h ∧ Fr (· = h) w w' := by
 obtain ⟨kA,kn,kc,hA,hc,h,hb,hnF,hk,hk64,hka,hh,hha,hH,hne⟩ := H
 have hSS : 1 ≤ S ∧ S ≤ 16 := by unfold spOk at hok; simp at hok; omega
 have hhF : ¬ F h := by obtain ⟨_,_,_,_,_,k,_⟩ := hH; exact k
 have hH0 := hH
 obtain ⟨hA1,hc1,hdn,hl8,hhb,_,_,_,hor⟩ := hH0
 have hl8e : ∃ B n d,hl8 = .slice B n d := by
   rcases hor with ⟨_,h0⟩ | ⟨_,B,d,h0,_⟩
   · exact ⟨none,0,0,h0⟩
   · exact ⟨B,_,d,h0⟩
 clear hor
 have hP : ∀ y,Fr (· = h) w y → ((y.cell? ⟨g,1,none⟩ = some (.int .u32 (V s)) ∧ y.cell? ⟨g,11,none⟩ = some (.pointer (some ⟨h,0,none⟩))) ∧ Fr (· = h) w y) := fun y hy => by
   have h1 := hb.fr hy hne
   exact ⟨⟨h1.cell rfl,h1.cell rfl⟩,hy⟩
 have hS0 := hP w.drew (Fr.refl _ _).drew
 have hS2 : True := trivial
 have hS3 : True := trivial
 have h39 := hsym_any F h s K P S img id w.drew (hH.step (F1 := F) (Fr.refl _ _).drew (fun b k => .inl k)) hFl hok hn hcn
 have hpk : ∀ y A c l,Rd y A S c l → Calls Tryz.prog 38 #[.agg #[.int .u32 (V s),.int .u32 (V id),.slice A S c]] y fun e w' => ∃ A' c',e = .returned (.tuple #[.slice A' (8 + S : Nat) c',.int .i64 0]) ∧ Own w' y.heap.size 5 A' (8 + S) c' (four s ++ four id ++ l) ∧ Below y.heap.size y w' := fun y A c l hr => pktbytes_any s id A S c l y hr hSS.1 hSS.2
 have hkx : ∀ w1,Fr (· = h) w w1 → HeadS F w1 h s K P S img → CarS F w1 g key s v S P K img := fun w1 hF1 hH1 => by
   have hs := hF1.size
   have hst : ∀ (i y : Nat),(headC s K P S (.slice hA1 img.length hc1) hdn 0 hl8)[i]? = some (Value.int .u8 (y : Int)) → False := fun i y hy => by
     obtain ⟨B,n,d,rfl⟩ := hl8e
     unfold headC at hy
     match i,hy with
     | 0,hy | 1,hy | 2,hy | 3,hy | 4,hy | 5,hy | 6,hy | 7,hy | 8,hy => simp at hy
     | k + 9,hy => simp at hy
   exact ⟨kA,kn,kc,hA,hc,h,hb.fr hF1 hne,hnF,hk.fr hF1 (fun h0 ad e => hk.apart hhb (fun i y hy => hst i y hy) h0 ad e),hk64,fun h0 ad e => ⟨(hka h0 ad e).1,by have := (hka h0 ad e).2; omega⟩,
     hh.fr hF1 (fun h0 ad e => hh.apart hhb (fun i y hy => hst i y hy) h0 ad e),fun ad e => ⟨(hha ad e).1,by have := (hha ad e).2; omega⟩,hH1,hne⟩
 have Hkx := hide hkx
 have hb' := hide hb
 generalize symV (pcs s K P S img) (rowOf (rowL s K P id)) (K + P) S = D at *
 have hid := V_bd id
 clear hkx hH hk hh hka hha hhb hok hcn
 go_enter Tryz.func13,Tryz.ntmps13
 go_upto_region 3 with fail
 go_cut [5,6] (fun x y wx => ∃ B' d',x = .slice B' (8 + S : Nat) d' ∧ y = .int .i64 0 ∧ Own wx w.heap.size 5 B' (8 + S) d' (four s ++ four id ++ D) ∧ HeadS F wx h s K P S img ∧ Fr (· = h) w wx)
 case first =>
   go_region_held3 (fun y => (y.cell? ⟨g,1,none⟩ = some (.int .u32 (V s)) ∧ y.cell? ⟨g,11,none⟩ = some (.pointer (some ⟨h,0,none⟩))) ∧ Fr (· = h) w y)
     (first | (with_reducible exact hS0) | (with_reducible exact hS2) | (with_reducible exact hS3))
     (first
       | (go_at_call 39; (with_reducible refine h39.mono ?_); rintro e w2 ⟨A2,c2,rfl,ho2,hH2,hF2⟩; have hF2' : Fr (· = h) w w2 := hS0.2.trans hF2; have hS2 := hP w2 hF2')
       | (go_at_call 38; (with_reducible refine (hpk _ A2 c2 D ho2.rd).mono ?_); rintro e w3 ⟨A3,c3,rfl,ho3,hb3⟩; have hF3 := hF2'.next hb3; have hS3 := hP w3 hF3))
   all_goals
     go_wp2_with fail
     go_meet
     exact ⟨A3,c3,rfl,rfl,ho3.mono hF2'.size,hH2.step (F1 := F) (Fr.of hb3) (fun b k => .inl k),hF3⟩
 case rest =>
   obtain ⟨B',d',rfl,rfl,ho,hHc,hFc⟩ := hcut
   have hw1 : Calls Tryz.prog 30 #[.int .i64 2,.slice B' (8 + S : Nat) d'] wc fun e w' => ∃ A' c',e = .returned (.tuple #[.slice A' (8 + S + 9 : Nat) c',.int .i64 0]) ∧ Own w' wc.heap.size 5 A' (8 + S + 9) c' (wrapL 2 (four s ++ four id ++ D)) ∧ Below wc.heap.size wc w' := wrap_good 2 B' (8 + S) d' _ wc ho.rd (by omega) (by omega) (by omega)
   have hCc := Hkx.out wc hFc hHc
   have hsc := hFc.size
   clear hS0 hP h39
   go_wp2_with fail
   refine hw1.mono ?_
   rintro e w3 ⟨A3,c3,rfl,ho3,hb3⟩
   go_wp2_with fail
   go_ret
   exact ⟨A3,c3,rfl,ho3.mono hsc,hCc.step (F1 := F) (Fr.of hb3) (fun b k => .inl k),h,hhF,hFc.next hb3⟩
theorem cnew_any (F : Nat → Prop) (kA0 : Option Addr) (kn kc0 : Nat) (key : List UInt8) (s v : B32) (S P K : Nat) (A : Option Addr) (c : Nat) (img : List UInt8) (w : World) (hFl : ∀ b,F b → b < w.heap.size) (hk : Rd w kA0 kn kc0 key) (hkn : kn ≤ 64) (hr : Rd w A img.length c img) (hm : manOk img.length S P = true) (hL : img.length ≤ 512) (hS : S ≤ 16) (hcn : cnt img.length S = K) :
   Calls Tryz.prog 6 #[.slice kA0 kn kc0,.int .u32 (V s),.int .u32 (V v),.slice A img.length c,.int .i64 S,.int .i64 P] w fun e w' => ∃ g,e = .returned (.tuple #[.pointer (some ⟨g,0,none⟩),.int .i64 0]) ∧ CarS F w' g key s v S P K img ∧ w.heap.size ≤ g ∧ Below w.heap.size w w' := by
 have hok : spOk K P S = true := by rw [← hcn]; exact manOk_sp hm
 have hd64 : decide (64 < (kn : Int)) = false := by simp; omega
 have hsb := V_bd s
 have hvb := V_bd v
 obtain ⟨N,hN⟩ : ∃ N,img.length = N := ⟨_,rfl⟩
 have hsum := fun w hr => shasum_any A N c img w hr (by omega)
 go_enter Tryz.func6,Tryz.ntmps6
 rw [hN] at hr ⊢
 go_wp2_with fail
 refine (hsum w hr).mono ?_
 rintro e w1 ⟨hA,hc,rfl,hoh,hb1⟩
 have hz1 : Blk (w1.alloc (.cells (manC 0#32 0#32 0 0 0 (.slice none 0 0)) 44)) w1.heap.size (manC 0#32 0#32 0 0 0 (.slice none 0 0)) 44 := Blk.new _ _ _
 have hszm := size44 s v N S P (.slice hA 32 hc)
 have hs1 := hb1.size
 clear hsum
 go_upto_region 2 with (first
   | ((with_reducible refine at_store ?_); refine wpList_store_row rfl 44 (.tmp 14) (.tmp 25) rfl w1.heap.size (manC s v N S P (.slice hA 32 hc)) rfl rfl 44 (manC 0#32 0#32 0 0 0 (.slice none 0 0)) hz1 hszm rfl (one44 _ _ _ _ _ _ _ _) ?_))
 have hm2 := hz1.setRow (manC s v N S P (.slice hA 32 hc))
 have hB2 : Below w.heap.size w (World.setRow (w1.alloc (.cells (manC 0#32 0#32 0 0 0 (.slice none 0 0)) 44)) w1.heap.size (manC s v N S P (.slice hA 32 hc))) := below_setRow (hb1.alloc hs1 _) hs1 _
 have hB12 : Below w1.heap.size w1 (World.setRow (w1.alloc (.cells (manC 0#32 0#32 0 0 0 (.slice none 0 0)) 44)) w1.heap.size (manC s v N S P (.slice hA 32 hc))) := below_setRow (below_alloc1 _ _) (Nat.le_refl _) _
 change Code.wp _ _ _ _ (World.setRow (w1.alloc (.cells (manC 0#32 0#32 0 0 0 (.slice none 0 0)) 44)) w1.heap.size (manC s v N S P (.slice hA 32 hc)))
 generalize World.setRow (w1.alloc (.cells (manC 0#32 0#32 0 0 0 (.slice none 0 0)) 44)) w1.heap.size (manC s v N S P (.slice hA 32 hc)) = w2 at *
 have hoh2 := hoh.below hB12
 have hmay := may_any s v N S P hA 32 hc w2 (by omega) (by omega)
 rw [← hN,hm,hN] at hmay
 have hofc := fun y => of_any s v N S P hA 32 hc y (by omega) (by omega)
 have hofe : ofC s N S P = parC s K P S ∧ manOk N S P = true := by
   rw [hN] at hm hcn
   refine ⟨?_,hm⟩
   unfold ofC
   rw [if_pos hm,hcn]
 rw [hofe.1,hofe.2] at hofc
 have Hofe := hide hofe
 clear hz1 hofe hb1 hB12 hoh
 go_wp2_with (first
   | ((with_reducible refine at_load ?_); refine wpList_load_row_w rfl 44 (.tmp 14) rfl w1.heap.size rfl 44 (manC s v N S P (.slice hA 32 hc)) (0,0) _ hm2 Tryz.underlying44 rfl hszm ?_))
 refine hmay.mono ?_
 rintro e w3 ⟨rfl,hb3⟩
 have hm3 := hm2.below hb3
 have hB3 := below_next hB2 hb3
 go_wp2_with (first
   | ((with_reducible refine at_load ?_); refine wpList_load_row rfl 44 (.tmp 14) rfl w1.heap.size rfl 44 (manC s v N S P (.slice hA 32 hc)) (0,0) _ hm3 Tryz.underlying44 rfl hszm ?_))
 refine (hofc w3).mono ?_
 rintro e w4 ⟨rfl,hb4⟩
 have hm4 := hm3.below hb4
 have hB4 := below_next hB3 hb4
 have hoh4 := (hoh2.below hb3).below hb4
 have hzp : Blk (w4.alloc (.cells (parC 0#32 0 0 0) 59)) w4.heap.size (parC 0#32 0 0 0) 59 := Blk.new _ _ _
 have hszp := size59 s K P S
 have hs4 := hB4.size
 clear hm2 hm3 hB2 hB3 hb3 hb4 hmay hofc hoh2
 go_upto_region 5 with (first
   | ((with_reducible refine at_store ?_); refine wpList_store_row rfl 59 (.tmp 15) (.tmp 37) rfl w4.heap.size (parC s K P S) rfl rfl 59 (parC 0#32 0 0 0) hzp hszp rfl (one59 _ _ _ _) ?_))
 have hp5 := hzp.setRow (parC s K P S)
 have hB45 : Below w4.heap.size w4 (World.setRow (w4.alloc (.cells (parC 0#32 0 0 0) 59)) w4.heap.size (parC s K P S)) := below_setRow (below_alloc1 _ _) (Nat.le_refl _) _
 change Code.wp _ _ _ _ (World.setRow (w4.alloc (.cells (parC 0#32 0 0 0) 59)) w4.heap.size (parC s K P S))
 generalize World.setRow (w4.alloc (.cells (parC 0#32 0 0 0) 59)) w4.heap.size (parC s K P S) = w5 at *
 have hm5 := hm4.below hB45
 have hB5 := below_next hB4 hB45
 have hoh5 := hoh4.below hB45
 have hs5 := hB5.size
 have hkey5 := hk.below hB5
 have himg5 := hr.below hB5
 obtain ⟨gm,hgm⟩ : ∃ gm,w1.heap.size = gm := ⟨_,rfl⟩
 obtain ⟨gp,hgp⟩ : ∃ gp,w4.heap.size = gp := ⟨_,rfl⟩
 rw [hgm] at hm5 ⊢
 rw [hgp] at hp5 ⊢
 clear hzp hm4 hB45 hoh4 hs1 hB4 hgm hgp hs4
 have hP : ∀ y,Below w5.heap.size w5 y → ((y.cell? ⟨gm,0,none⟩ = some (.int .u32 (V s)) ∧ y.cell? ⟨gm,1,none⟩ = some (.int .u32 (V v)) ∧ y.cell? ⟨gm,2,none⟩ = some (.int .i64 N) ∧ y.cell? ⟨gm,3,none⟩ = some (.int .i64 S) ∧ y.cell? ⟨gm,4,none⟩ = some (.int .i64 P) ∧ y.cell? ⟨gm,5,none⟩ = some (.slice hA 32 hc) ∧ y.cell? ⟨gp,0,none⟩ = some (.int .u32 (V s)) ∧ y.cell? ⟨gp,1,none⟩ = some (.int .i64 K) ∧ y.cell? ⟨gp,2,none⟩ = some (.int .i64 P) ∧ y.cell? ⟨gp,3,none⟩ = some (.int .i64 S)) ∧ Below w5.heap.size w5 y) := fun y hy => by
   have h1 := hm5.below hy
   have h2 := hp5.below hy
   exact ⟨⟨h1.cell rfl,h1.cell rfl,h1.cell rfl,h1.cell rfl,h1.cell rfl,h1.cell rfl,h2.cell rfl,h2.cell rfl,h2.cell rfl,h2.cell rfl⟩,hy⟩
 have hS0 := hP w5.drew (Below.refl _ _).drew
 have hS2 : True := trivial
 have hS3 : True := trivial
 have hkc := fun y hy => clone_any kA0 kn kc0 key y hy (by omega)
 have hnw : ∀ y,Rd y A N c img → Calls Tryz.prog 24 #[.agg #[.int .u32 (V s),.int .i64 K,.int .i64 P,.int .i64 S],.slice A N c] y fun e w' => ∃ h A' c',e = .returned (.pointer (some ⟨h,0,none⟩)) ∧ Blk w' h (headC s K P S (.slice A' N c') 0 0 (.slice none 0 0)) 121 ∧ Rd w' A' N c' img ∧ y.heap.size ≤ h ∧ (∀ ad,A' = some ad → y.heap.size ≤ ad.block) ∧ Below y.heap.size y w' := fun y hy => hnew_any s K P S A N c img y hy hok (by rw [← hN]; exact hcn)
 have HN := hide hN
 have Hfin := hide (And.intro hm (And.intro hok hcn))
 clear hm hok hcn hN hm5 hp5
 go_cut [12,13] (fun x y wx => ∃ g kA kc h A' c',x = .pointer (some ⟨g,0,none⟩) ∧ y = .int .i64 0 ∧ Blk wx g (carC (.slice kA kn kc) s v N S P (.slice hA 32 hc) K h) 65 ∧ Own wx w5.heap.size 5 kA kn kc key ∧ Blk wx h (headC s K P S (.slice A' N c') 0 0 (.slice none 0 0)) 121 ∧ Rd wx A' N c' img ∧ w5.heap.size ≤ g ∧ w5.heap.size ≤ h ∧ (∀ ad,A' = some ad → w5.heap.size ≤ ad.block) ∧ Below w5.heap.size w5 wx)
 case first =>
   go_region_held3 (fun y => (y.cell? ⟨gm,0,none⟩ = some (.int .u32 (V s)) ∧ y.cell? ⟨gm,1,none⟩ = some (.int .u32 (V v)) ∧ y.cell? ⟨gm,2,none⟩ = some (.int .i64 N) ∧ y.cell? ⟨gm,3,none⟩ = some (.int .i64 S) ∧ y.cell? ⟨gm,4,none⟩ = some (.int .i64 P) ∧ y.cell? ⟨gm,5,none⟩ = some (.slice hA 32 hc) ∧ y.cell? ⟨gp,0,none⟩ = some (.int .u32 (V s)) ∧ y.cell? ⟨gp,1,none⟩ = some (.int .i64 K) ∧ y.cell? ⟨gp,2,none⟩ = some (.int .i64 P) ∧ y.cell? ⟨gp,3,none⟩ = some (.int .i64 S)) ∧ Below w5.heap.size w5 y)
     (first | (with_reducible exact hS0) | (with_reducible exact hS2) | (with_reducible exact hS3) | (with_reducible exact hS4 _))
     (first
       | (go_at_call 23; (with_reducible refine (hkc _ (hkey5.below hS0.2)).mono ?_); rintro e w6 ⟨kA,kc,rfl,hok6,hb6⟩; have hB6 := below_next hS0.2 hb6; have hS2 := hP w6 hB6)
       | (go_at_call 24; (with_reducible refine (hnw _ (himg5.below hB6)).mono ?_); rintro e w7 ⟨h,A',c',rfl,hh7,hr7,hhs,hAs,hb7⟩; have hB7 := below_next hB6 hb7; have hS3 := hP w7 hB7; have hS4 := fun o => hP (w7.alloc o) (below_next hB7 (below_alloc1 w7 o))))
   all_goals
     go_wp2_with fail
     go_meet
     have hs6 := hB6.size
     have hba := below_alloc1 w7 (.cells (carC (.slice kA kn kc) s v N S P (.slice hA 32 hc) K h) 65)
     exact ⟨w7.heap.size,kA,kc,h,A',c',rfl,rfl,Blk.new w7 _ _,((hok6.mono hS0.2.size).below hb7).below hba,hh7.below hba,hr7.below hba,hB7.size,by omega,fun ad e => by have := hAs ad e; omega,below_next hB7 hba⟩
 case rest =>
   obtain ⟨g,kA,kc,h,A',c',rfl,rfl,hbg,hok',hbh,hr',hg1,hh1,hA1,hBc⟩ := hcut
   have hsc := hBc.size
   have hohc := hoh5.below hBc
   have hbgl := hbg.lt
   have hne := hbg.ne hbh (by decide)
   have hBw := below_next hB5 hBc
   clear hS0 hP hS2 hS3
   go_wp2_with fail
   go_ret2
   refine ⟨g,rfl,⟨kA,kn,kc,hA,hc,h,by rw [HN.out]; exact hbg,fun k => by have := hFl _ k; omega,hok'.rd,hkn,fun h0 ad e => ?_,hohc.rd,fun ad e => ?_,⟨A',c',0,_,by rw [HN.out]; exact hbh,fun k => by have := hFl _ k; omega,by rw [HN.out]; exact hr',fun ad e => ⟨fun k => by have h1 := hFl _ k; have h2 := hA1 ad e; omega,?_⟩,.inl ⟨rfl,rfl⟩⟩,hne⟩,by omega,hBw⟩
   · obtain ⟨q,hq,q1,q2⟩ := Own.form hok' h0
     rw [hq] at e
     cases e
     exact ⟨fun k => by have h1 : q < w.heap.size := hFl _ k; omega,q2⟩
   · obtain ⟨q,hq,q1,q2⟩ := Own.form hohc (by omega)
     rw [hq] at e
     cases e
     exact ⟨fun k => by have h1 : q < w.heap.size := hFl _ k; omega,q2⟩
   · have hK : 1 ≤ K := by have := Hfin.out.2.1; unfold spOk at this; simp at this; omega
     have h0 := (cnt_div Hfin.out.2.2 hK).2.1
     rw [HN.out] at h0
     obtain ⟨ad',x,e',_,hcx⟩ := hr'.at_ (k := 0) (by omega)
     rw [e'] at e
     cases e
     have := World.block_lt_of_cell? _ _ hcx
     rwa [blockAdd] at this
end Go.Proofs.YtkkcpblfheplaaaGreatDoor
