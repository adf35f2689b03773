/- Contracts of functions that the laws of downpourtop reach, and plain facts; no condition beyond what each theorem states. -/
import Derived.Test.YtkkcpblfheplaaaGreatDoorMD09
import Derived.Test.YtkkcpblfheplaaaGreatDoorME02
import Derived.Test.YtkkcpblfheplaaaGreatDoorMEx02
set_option maxRecDepth 100000
set_option maxHeartbeats 8000000
set_option linter.all false
namespace Go.Proofs.YtkkcpblfheplaaaGreatDoor
open Go.RowKit
theorem matF_add {g rb : Nat} {bk : Nat → RB} {M : MatB} {at_ : Nat} {q : RB} {R : B64 × List UInt8} {b : Nat} (h : MatF g rb (bkSet bk at_ q) (addB M at_ R) b) : MatF g rb bk M b ∨ b = q.r ∨ b = q.v ∨ b = q.w ∨ b = q.d := by
 rcases h with h | h | ⟨i,x,hx,h⟩
 · exact .inl (.inl h)
 · exact .inl (.inr (.inl h))
 · by_cases hi : i = at_
   · right
     simpa [bkSet,hi] using h
   · left
     unfold addB at hx
     rw [if_neg hi] at hx
     simp only [bkSet,if_neg hi] at h
     cases hM : M i with
     | none => rw [hM] at hx; cases hx
     | some y => exact .inr (.inr ⟨i,y,hM,h⟩)
def decC (s : B32) (K P S g : Nat) (taken : Int) (done : Int) (L : Value) : Array Value :=
 #[.int .u32 (V s),.int .i64 (K : Int),.int .i64 (P : Int),.int .i64 (S : Int),.pointer (some ⟨g,0,none⟩),.int .i64 taken,.int .u32 done,.int .i32 0,.int .u32 0,L]
abbrev DCells (s : B32) (K P S g d : Nat) (y : World) : Prop :=
 y.cell? ⟨d,0,none⟩ = some (.int .u32 (V s)) ∧ y.cell? ⟨d,1,none⟩ = some (.int .i64 (K : Int)) ∧ y.cell? ⟨d,2,none⟩ = some (.int .i64 (P : Int)) ∧ y.cell? ⟨d,3,none⟩ = some (.int .i64 (S : Int)) ∧ y.cell? ⟨d,4,none⟩ = some (.pointer (some ⟨g,0,none⟩))
theorem dcells {s : B32} {K P S g d : Nat} {taken done : Int} {L : Value} {y : World} (h : Blk y d (decC s K P S g taken done L) 239) : DCells s K P S g d y := ⟨h.cell rfl,h.cell rfl,h.cell rfl,h.cell rfl,h.cell rfl⟩
theorem dneeds_any (s : B32) (K P S g rb d : Nat) (bk : Nat → RB) (M : MatB) (rank : Nat) (taken done : Int) (L : Value) (w : World) (hd : Blk w d (decC s K P S g taken done L) 239) (hm : MatAt w g rb bk (K + P) S M rank) (hok : spOk K P S = true) (hn : K + P ≤ 64) (hr : rank ≤ 64) :
   Calls Tryz.prog 138 #[.pointer (some ⟨d,0,none⟩)] w fun e w' => e = .returned (.int .i64 (((K + P : Nat) : Int) - (rank : Int))) ∧ Below w.heap.size w w' := by
 have hc : ∀ y,Below w.heap.size w y → DCells s K P S g d y := fun y hy => dcells (hd.below hy)
 have hc0 : DCells s K P S g d w.drew := hc _ (Below.refl _ _).drew
 have hB0 : Below w.heap.size w w.drew := (Below.refl _ _).drew
 have hi1 : ((K + P : Nat) : Int) ≤ 64 := by omega
 have hi2 : (rank : Int) ≤ 64 := by omega
 have hi3 : (0 : Int) ≤ (rank : Int) := by omega
 have hi4 : (0 : Int) ≤ ((K + P : Nat) : Int) := by omega
 have hE : Hid (((K + P : Nat) : Int) - (rank : Int) = ((K + P : Nat) : Int) - (rank : Int)) := hide rfl
 obtain ⟨N,hN⟩ : ∃ N : Int,((K + P : Nat) : Int) = N := ⟨_,rfl⟩
 have hpc : ∀ w,Calls Tryz.prog 146 #[.agg #[.int .u32 (V s),.int .i64 (K : Int),.int .i64 (P : Int),.int .i64 (S : Int)]] w fun e w' => e = .returned (.int .i64 ((K + P : Nat) : Int)) ∧ Below w.heap.size w w' := fun w => spieces_any s K P S w hok
 rw [hN] at hi1 hi4 hpc ⊢
 have hmr := fun w hw => mrank_any g rb bk (K + P) S M rank w hw (by omega)
 have hwr : IntKind.i64.wrap (N - (rank : Int)) = N - (rank : Int) := by rw [IntKind.wrap_i64]; omega
 clear hok hn hN hE
 go_enter Tryz.func138,Tryz.ntmps138
 go_wp2_with fail
 go_region_held3 (fun y => y.cell? ⟨d,0,none⟩ = some (.int .u32 (V s)) ∧ y.cell? ⟨d,1,none⟩ = some (.int .i64 (K : Int)) ∧ y.cell? ⟨d,2,none⟩ = some (.int .i64 (P : Int)) ∧ y.cell? ⟨d,3,none⟩ = some (.int .i64 (S : Int)) ∧ y.cell? ⟨d,4,none⟩ = some (.pointer (some ⟨g,0,none⟩)))
   (first | (with_reducible exact hc0) | (with_reducible exact hc1))
   ((first
     | (go_at_call 146; (with_reducible refine (hpc _).mono ?_); rintro e w1 ⟨rfl,hb1⟩; have hB1 := below_next hB0 hb1; have hc1 := hc w1 hB1)
     | (go_at_call 184; first | ((with_reducible refine (hmr _ (hm.below hB1)).mono ?_); rintro e w2 ⟨rfl,rfl⟩) | ((with_reducible refine (hmr _ (hm.below hB0)).mono ?_); rintro e w2 ⟨rfl,rfl⟩))))
 all_goals
   go_wp2_with fail
   go_ret
   first | exact ⟨rfl,hB1⟩ | exact ⟨rfl,below_next hB1 (Below.refl _ _)⟩
theorem dsays_any (s : B32) (K P S g rb d : Nat) (bk : Nat → RB) (M : MatB) (rank : Nat) (taken done : Int) (L : Value) (id : B32) (w : World) (hd : Blk w d (decC s K P S g taken done L) 239) (hm : MatAt w g rb bk (K + P) S M rank) (hok : spOk K P S = true) (hn : K + P ≤ 64) (hS : S ≤ 16) (hn1 : 1 ≤ K + P) (hT : Tab64 w) :
   Calls Tryz.prog 135 #[.pointer (some ⟨d,0,none⟩),.int .u32 (V id)] w fun e w' => e = .returned (.bool ((redB M (rowB s K P id,List.replicate S 0) (K + P)).1 != 0#64)) ∧ Below w.heap.size w w' := by
 have hc : ∀ y,Below w.heap.size w y → DCells s K P S g d y := fun y hy => dcells (hd.below hy)
 have hc0 : DCells s K P S g d w.drew := hc _ (Below.refl _ _).drew
 have hB0 : Below w.heap.size w w.drew := (Below.refl _ _).drew
 have hrow : ∀ w,Calls Tryz.prog 91 #[.agg #[.int .u32 (V s),.int .i64 (K : Int),.int .i64 (P : Int),.int .i64 (S : Int)],.int .u32 (V id)] w fun e w' => ∃ p wb,e = .returned (.pointer (some ⟨p,0,none⟩)) ∧ VecAt w' p wb (K + P) (rowB s K P id) ∧ w.heap.size ≤ p ∧ w.heap.size ≤ wb ∧ Below w.heap.size w w' := fun w => srow_any s K P S id w hok hn
 have hsays := fun p wb w hw hv hT => msays_any g rb bk (K + P) S M rank p wb (rowB s K P id) w hw hv hn hn1 hS hT
 obtain ⟨bb,hbb⟩ : ∃ bb,((redB M (rowB s K P id,List.replicate S 0) (K + P)).1 != 0#64) = bb := ⟨_,rfl⟩
 rw [hbb] at hsays ⊢
 clear hok hn hbb
 go_enter Tryz.func135,Tryz.ntmps135
 go_wp2_with fail
 go_region_held3 (fun y => y.cell? ⟨d,0,none⟩ = some (.int .u32 (V s)) ∧ y.cell? ⟨d,1,none⟩ = some (.int .i64 (K : Int)) ∧ y.cell? ⟨d,2,none⟩ = some (.int .i64 (P : Int)) ∧ y.cell? ⟨d,3,none⟩ = some (.int .i64 (S : Int)) ∧ y.cell? ⟨d,4,none⟩ = some (.pointer (some ⟨g,0,none⟩)))
   (first | (with_reducible exact hc0) | (with_reducible exact hc1) | (with_reducible exact hc2))
   ((first
     | (go_at_call 91; (with_reducible refine (hrow _).mono ?_); rintro e w1 ⟨p,wb,rfl,hv1,hp1,hp2,hb1⟩; have hB1 := below_next hB0 hb1; have hc1 := hc w1 hB1; have hc2 : True := trivial)
     | (go_at_call 177; (with_reducible refine (hsays p wb _ (hm.below hB1) hv1 (hT.below hB1)).mono ?_); rintro e w2 ⟨rfl,hb2⟩; have hB2 := below_next hB1 hb2; have hc2 := hc w2 hB2)))
 all_goals
   go_wp2_with fail
   go_ret
   exact ⟨rfl,hB2⟩
theorem dtake_any (s : B32) (K P S g rb d : Nat) (bk : Nat → RB) (M : MatB) (rank : Nat) (taken : Nat) (done : Int) (L : Value) (id : B32) (X : Option Addr) (c : Nat) (l : List UInt8) (w : World) (hd : Blk w d (decC s K P S g taken done L) 239) (hm : MatAt w g rb bk (K + P) S M rank)
   (hdn : ¬ MatF g rb bk M d) (hr : Rd w X S c l) (hok : spOk K P S = true) (hn : K + P ≤ 64) (hS : S ≤ 16) (hn1 : 1 ≤ K + P) (hT : Tab64 w) (hT1 : ¬ MatF g rb bk M 1) (hbits : ∀ k,(redB M (rowB s K P id,l) (K + P)).1.getLsbD k = true → k < K + P) (hrk : rank ≤ 1000) (htk : taken ≤ 1000) :
   Calls Tryz.prog 137 #[.pointer (some ⟨d,0,none⟩),.int .u32 (V id),.slice X S c] w fun e w' =>
     ((redB M (rowB s K P id,l) (K + P)).1 = 0#64 ∧ e = .returned (.bool false) ∧ Below w.heap.size w w') ∨
     ∃ at_ q,(redB M (rowB s K P id,l) (K + P)).1.getLsbD at_ = true ∧ e = .returned (.bool true) ∧ MatAt w' g rb (bkSet bk at_ q) (K + P) S (addB M at_ (redB M (rowB s K P id,l) (K + P))) (rank + 1) ∧ Blk w' d (decC s K P S g (taken + 1 : Nat) done L) 239 ∧
       (w.heap.size ≤ q.r ∧ w.heap.size ≤ q.v ∧ w.heap.size ≤ q.w ∧ w.heap.size ≤ q.d) ∧ Fr (fun b => b = d ∨ MatF g rb bk M b) w w' := by
 have hc : ∀ y,Below w.heap.size w y → DCells s K P S g d y := fun y hy => dcells (hd.below hy)
 have hc0 : DCells s K P S g d w.drew := hc _ (Below.refl _ _).drew
 have hB0 : Below w.heap.size w w.drew := (Below.refl _ _).drew
 have hrow : ∀ w,Calls Tryz.prog 91 #[.agg #[.int .u32 (V s),.int .i64 (K : Int),.int .i64 (P : Int),.int .i64 (S : Int)],.int .u32 (V id)] w fun e w' => ∃ p wb,e = .returned (.pointer (some ⟨p,0,none⟩)) ∧ VecAt w' p wb (K + P) (rowB s K P id) ∧ w.heap.size ≤ p ∧ w.heap.size ≤ wb ∧ Below w.heap.size w w' := fun w => srow_any s K P S id w hok hn
 have hadd := fun p wb w hw hv hr hT => madd_any g rb bk (K + P) S M rank p wb (rowB s K P id) X c l w hw hv hr hn hn1 hS hT hT1 hbits hrk
 obtain ⟨R,hR⟩ : ∃ R,redB M (rowB s K P id,l) (K + P) = R := ⟨_,rfl⟩
 rw [hR] at hadd ⊢
 clear hok hn hR hbits
 by_cases hz : R.1 = 0#64
 · have hadd0 : ∀ p wb w,MatAt w g rb bk (K + P) S M rank → VecAt w p wb (K + P) (rowB s K P id) → Rd w X S c l → Tab64 w → Calls Tryz.prog 183 #[.pointer (some ⟨g,0,none⟩),.pointer (some ⟨p,0,none⟩),.slice X S c] w fun e w' => e = .returned (.bool false) ∧ Below w.heap.size w w' := by
     intro p wb w h1 h2 h3 h4
     refine (hadd p wb w h1 h2 h3 h4).mono ?_
     rintro e w' (⟨_,h⟩ | ⟨at_,q,h,_⟩)
     · exact h
     · rw [hz] at h
       simp at h
   have Hz := hide hz
   clear hz hadd
   go_enter Tryz.func137,Tryz.ntmps137
   go_wp2_with fail
   go_region_held3 (fun y => y.cell? ⟨d,0,none⟩ = some (.int .u32 (V s)) ∧ y.cell? ⟨d,1,none⟩ = some (.int .i64 (K : Int)) ∧ y.cell? ⟨d,2,none⟩ = some (.int .i64 (P : Int)) ∧ y.cell? ⟨d,3,none⟩ = some (.int .i64 (S : Int)) ∧ y.cell? ⟨d,4,none⟩ = some (.pointer (some ⟨g,0,none⟩)))
     (first | (with_reducible exact hc0) | (with_reducible exact hc1) | (with_reducible exact hc2))
     ((first
       | (go_at_call 91; (with_reducible refine (hrow _).mono ?_); rintro e w1 ⟨p,wb,rfl,hv1,hp1,hp2,hb1⟩; have hB1 := below_next hB0 hb1; have hc1 := hc w1 hB1; have hc2 : True := trivial)
       | (go_at_call 183; (with_reducible refine (hadd0 p wb _ (hm.below hB1) hv1 (hr.below hB1) (hT.below hB1)).mono ?_); rintro e w2 ⟨rfl,hb2⟩; have hB2 := below_next hB1 hb2; have hc2 := hc w2 hB2)))
   all_goals
     go_wp2_with fail
     go_ret
     exact .inl ⟨Hz.out,rfl,hB2⟩
 · have hadd1 : ∀ p wb w,MatAt w g rb bk (K + P) S M rank → VecAt w p wb (K + P) (rowB s K P id) → Rd w X S c l → Tab64 w → Calls Tryz.prog 183 #[.pointer (some ⟨g,0,none⟩),.pointer (some ⟨p,0,none⟩),.slice X S c] w fun e w' => ∃ at_ q,R.1.getLsbD at_ = true ∧ e = .returned (.bool true) ∧ MatAt w' g rb (bkSet bk at_ q) (K + P) S (addB M at_ R) (rank + 1) ∧ (w.heap.size ≤ q.r ∧ w.heap.size ≤ q.v ∧ w.heap.size ≤ q.w ∧ w.heap.size ≤ q.d) ∧ Fr (MatF g rb bk M) w w' := by
     intro p wb w h1 h2 h3 h4
     refine (hadd p wb w h1 h2 h3 h4).mono ?_
     rintro e w' (⟨h,_⟩ | ⟨at_,q,h⟩)
     · exact absurd h hz
     · exact ⟨at_,q,h⟩
   clear hz hadd
   have hc2' : ∀ w1 y,Below w.heap.size w w1 → Fr (MatF g rb bk M) w1 y → Blk y d (decC s K P S g taken done L) 239 := fun w1 y h1 h2 => (hd.below h1).fr h2 hdn
   go_enter Tryz.func137,Tryz.ntmps137
   go_wp2_with fail
   go_region_held3 (fun y => y.cell? ⟨d,0,none⟩ = some (.int .u32 (V s)) ∧ y.cell? ⟨d,1,none⟩ = some (.int .i64 (K : Int)) ∧ y.cell? ⟨d,2,none⟩ = some (.int .i64 (P : Int)) ∧ y.cell? ⟨d,3,none⟩ = some (.int .i64 (S : Int)) ∧ y.cell? ⟨d,4,none⟩ = some (.pointer (some ⟨g,0,none⟩)))
     (first | (with_reducible exact hc0) | (with_reducible exact hc1) | (with_reducible exact hc2))
     ((first
       | (go_at_call 91; (with_reducible refine (hrow _).mono ?_); rintro e w1 ⟨p,wb,rfl,hv1,hp1,hp2,hb1⟩; have hB1 := below_next hB0 hb1; have hc1 := hc w1 hB1; have hc2 : True := trivial)
       | (go_at_call 183; (with_reducible refine (hadd1 p wb _ (hm.below hB1) hv1 (hr.below hB1) (hT.below hB1)).mono ?_); rintro e w2 ⟨at_,q,hat,rfl,hm2,hq2,hF2⟩; have hd2 := hc2' _ _ hB1 hF2; have hc2 : DCells s K P S g d w2 := dcells hd2)))
   all_goals
     have c5 := hd2.cell (i := 5) (v := .int .i64 (taken : Int)) rfl
     have z5 := hd2.free 5
     have hti : (taken : Int) ≤ 1000 := by omega
     have hwr : IntKind.i64.wrap ((taken : Int) + 1) = ((taken + 1 : Nat) : Int) := by rw [IntKind.wrap_i64]; omega
     have hd3 := hd2.setCellAt 5 (.int .i64 ((taken + 1 : Nat) : Int)) (cs' := decC s K P S g (taken + 1 : Nat) done L) rfl
     have hF3 : Fr (· = d) w2 (w2.setCell ⟨d,5,none⟩ (.int .i64 ((taken + 1 : Nat) : Int))) := Fr.set (S := (· = d)) (Fr.refl _ _) (p := ⟨d,5,none⟩) (fun _ => rfl) _
     have hm3 := hm2.fr hF3 (fun b hb hbd => by
       subst hbd
       have hs1 := hB1.size
       have hdl := hd.lt
       rcases matF_add hb with k | k | k | k | k
       · exact hdn k
       all_goals omega)
     have hF4 : Fr (fun b => b = d ∨ MatF g rb bk M b) w (w2.setCell ⟨d,5,none⟩ (.int .i64 ((taken + 1 : Nat) : Int))) := ((Fr.of hB1).step hF2 (fun _ _ h => .inr h)).step hF3 (fun _ _ h => .inl h)
     have hs1 := hB1.size
     clear hd2 hc2 hc1 hc0 hc
     go_wp2_with fail
     refine (aadd_any d 5 (taken : Int) 1 w2 c5 z5).mono ?_
     rintro e w3 ⟨rfl,rfl⟩
     rw [hwr]
     generalize w2.setCell ⟨d,5,none⟩ (.int .i64 ((taken + 1 : Nat) : Int)) = w3 at *
     clear hwr c5 z5
     go_wp2_with fail
     go_ret
     exact .inr ⟨at_,q,hat,rfl,hm3,hd3,by omega,hF4⟩
def bR (x : B64) : Row := fun i => x.getLsbD i
def toM (M : MatB) : Mat := fun i => (M i).map fun x => (bR x.1,x.2)
theorem bR_xor (x y : B64) : bR (x ^^^ y) = rx (bR x) (bR y) := by
 funext i
 simp [bR,rx]
theorem bR_zero : bR 0#64 = zr := by
 funext i
 simp [bR,zr]
theorem toM_some {M : MatB} {i : Nat} {x : B64 × List UInt8} (h : M i = some x) : toM M i = some (bR x.1,x.2) := by simp [toM,h]
theorem toM_none {M : MatB} {i : Nat} (h : M i = none) : toM M i = none := by simp [toM,h]
theorem toM_inv {M : MatB} {i : Nat} {z : Row × List UInt8} (h : toM M i = some z) : ∃ x,M i = some x ∧ z = (bR x.1,x.2) := by
 unfold toM at h
 cases hM : M i with
 | none => rw [hM] at h; cases h
 | some x =>
   rw [hM] at h
   exact ⟨x,rfl,(Option.some.inj h).symm⟩
theorem red_to (M : MatB) (r : B64 × List UInt8) : ∀ k,redN (toM M) (bR r.1,r.2) k = (bR (redB M r k).1,(redB M r k).2)
 | 0 => rfl
 | k + 1 => by
   show stepR (toM M) k (redN (toM M) (bR r.1,r.2) k) = _
   rw [red_to M r k]
   unfold stepR
   show _ = (bR (stepB M k (redB M r k)).1,(stepB M k (redB M r k)).2)
   unfold stepB
   cases hM : M k with
   | none => rw [toM_none hM]
   | some x =>
     rw [toM_some hM]
     by_cases hb : (redB M r k).1.getLsbD k = true
     · have hb' : (bR (redB M r k).1,(redB M r k).2).1 k = true := hb
       simp only [if_pos hb,if_pos hb']
       rw [bR_xor]
     · have hb' : ¬ (bR (redB M r k).1,(redB M r k).2).1 k = true := hb
       simp only [if_neg hb,if_neg hb']
theorem add_to (M : MatB) (at_ : Nat) (r : B64 × List UInt8) : toM (addB M at_ r) = addM (toM M) at_ (bR r.1,r.2) := by
 funext i
 unfold addM addB toM
 by_cases h : i = at_
 · simp [h]
 · simp only [if_neg h]
   cases hM : M i with
   | none => rfl
   | some x =>
     simp only [Option.map_some]
     by_cases hb : x.1.getLsbD at_ = true
     · have : bR x.1 at_ = true := hb
       rw [if_pos hb,if_pos this,Option.map_some,bR_xor]
     · have : ¬ bR x.1 at_ = true := hb
       rw [if_neg hb,if_neg this,Option.map_some]
def cnt1 (M : MatB) : Nat → Nat
 | 0 => 0
 | k + 1 => cnt1 M k + if (M k).isSome then 1 else 0
theorem cnt1_le (M : MatB) : ∀ n,cnt1 M n ≤ n
 | 0 => Nat.le_refl _
 | k + 1 => by
   have := cnt1_le M k
   unfold cnt1
   split <;> omega
theorem cnt1_full (M : MatB) : ∀ n,cnt1 M n = n → ∀ i,i < n → (M i).isSome = true
 | 0,_,i,hi => by omega
 | k + 1,h,i,hi => by
   have hk := cnt1_le M k
   unfold cnt1 at h
   by_cases hs : (M k).isSome = true
   · rw [if_pos hs] at h
     by_cases hik : i = k
     · subst hik; exact hs
     · exact cnt1_full M k (by omega) i (by omega)
   · rw [if_neg hs] at h
     omega
theorem cnt1_all (M : MatB) : ∀ n,(∀ i,i < n → (M i).isSome = true) → cnt1 M n = n
 | 0,_ => rfl
 | k + 1,h => by
   unfold cnt1
   rw [cnt1_all M k fun i hi => h i (by omega),if_pos (h k (by omega))]
theorem cnt1_add (M : MatB) (at_ : Nat) (r : B64 × List UInt8) (h : M at_ = none) : ∀ n,cnt1 (addB M at_ r) n = cnt1 M n + if at_ < n then 1 else 0
 | 0 => rfl
 | k + 1 => by
   unfold cnt1
   rw [cnt1_add M at_ r h k]
   by_cases hk : k = at_
   · subst hk
     rw [addB_at,h]
     simp
   · have : (addB M at_ r k).isSome = (M k).isSome := by
       unfold addB
       rw [if_neg hk]
       cases M k with
       | none => rfl
       | some x => simp only; split <;> rfl
     rw [this]
     by_cases h1 : at_ < k
     · rw [if_pos h1,if_pos (show at_ < k + 1 by omega)]; omega
     · rw [if_neg h1,if_neg (show ¬ at_ < k + 1 by omega)]; omega
structure DInv (n size : Nat) (rows : List (B64 × List UInt8)) (M : MatB) (rank : Nat) : Prop where
 inv : Inv (toM M) n
 rank : rank = cnt1 M n
 span : ∀ r,r ∈ rows → Sp (toM M) (bR r.1)
 cons : ∀ P,(∀ r,r ∈ rows → Says P n size (bR r.1,r.2)) → Cons P n size (toM M)
 cf : cnt1 M n ≤ rows.length
theorem DInv.few {n size rank : Nat} {rows : List (B64 × List UInt8)} {M : MatB} (h : DInv n size rows M rank) : rank ≤ rows.length := by
 have h1 := h.cf
 have h2 := h.rank
 omega
theorem DInv.none (n size : Nat) : DInv n size [] noM 0 where
 inv := ⟨(fun i x h => by cases h),(fun i x h => by cases h),(fun i x j y h => by cases h),(fun i x j h => by cases h)⟩
 rank := by
   have : ∀ n,cnt1 noM n = 0 := by
     intro n
     induction n with
     | zero => rfl
     | succ k ih => unfold cnt1; rw [ih]; rfl
   exact (this n).symm
 span := fun r h => by cases h
 cons := fun P _ i x h => by cases h
 cf := by
   have : ∀ n,cnt1 noM n = 0 := by
     intro n
     induction n with
     | zero => rfl
     | succ k ih => unfold cnt1; rw [ih]; rfl
   rw [this n]
   exact Nat.zero_le _
theorem DInv.bits {n size rank : Nat} {rows : List (B64 × List UInt8)} {M : MatB} (h : DInv n size rows M rank) (r : B64 × List UInt8) (hr : ∀ k,r.1.getLsbD k = true → k < n) : ∀ k,(redB M r n).1.getLsbD k = true → k < n := by
 intro k hk
 rcases Nat.lt_or_ge k n with h1 | h1
 · exact h1
 · exfalso
   have h2 := vred_out h.inv (bR r.1) (fun j hj => by
     cases hb : r.1.getLsbD j with
     | false => exact hb
     | true => have := hr j hb; omega) n k h1
   have h3 := redN_fst (toM M) (bR r.1,r.2) n
   rw [red_to] at h3
   have h4 : bR (redB M r n).1 = vred (toM M) (bR r.1) n := h3
   rw [← h4] at h2
   unfold bR at h2
   rw [hk] at h2
   cases h2
theorem DInv.dup {n size rank : Nat} {rows : List (B64 × List UInt8)} {M : MatB} (h : DInv n size rows M rank) (r : B64 × List UInt8) (hz : (redB M r n).1 = 0#64) : DInv n size (rows ++ [r]) M rank := by
 have hfew := h.cf
 refine ⟨h.inv,h.rank,?_,?_,by rw [List.length_append]; omega⟩
 · intro x hx
   rcases List.mem_append.1 hx with hx | hx
   · exact h.span x hx
   · have e : x = r := by simpa using hx
     subst e
     refine sp_of_red (k := n) ?_
     have h3 := redN_fst (toM M) (bR x.1,x.2) n
     rw [red_to,hz,bR_zero] at h3
     rw [← h3]
     exact .zero
 · intro P hP
   exact h.cons P fun x hx => hP x (List.mem_append_left _ hx)
theorem DInv.add {n size rank at_ : Nat} {rows : List (B64 × List UInt8)} {M : MatB} (h : DInv n size rows M rank) (r : B64 × List UInt8) (hb : (redB M r n).1.getLsbD at_ = true) (hr : ∀ k,r.1.getLsbD k = true → k < n) : DInv n size (rows ++ [r]) (addB M at_ (redB M r n)) (rank + 1) := by
 have hlt := h.bits r hr at_ hb
 have h4 : bR (redB M r n).1 = vred (toM M) (bR r.1) n := by
   have h3 := redN_fst (toM M) (bR r.1,r.2) n
   rw [red_to] at h3
   exact h3
 have hpiv : ∀ j y,toM M j = some y → bR (redB M r n).1 j = false := by
   intro j y hj
   rw [h4]
   exact vred_piv h.inv _ hj n (h.inv.lt j y hj)
 have hnone : toM M at_ = Option.none := by
   cases hM : toM M at_ with
   | none => rfl
   | some y =>
     have := hpiv at_ y hM
     unfold bR at this
     rw [hb] at this
     cases this
 have hnoneB : M at_ = Option.none := by
   cases hM : M at_ with
   | none => rfl
   | some y => rw [toM_some hM] at hnone; cases hnone
 have hfew := h.cf
 refine ⟨?_,?_,?_,?_,by rw [cnt1_add M at_ _ hnoneB,if_pos hlt,List.length_append,List.length_singleton]; omega⟩
 · rw [add_to]
   refine inv_add h.inv hlt hb hpiv (fun j hj => ?_)
   cases hbj : (redB M r n).1.getLsbD j with
   | false => exact hbj
   | true => have := h.bits r hr j hbj; omega
 · rw [cnt1_add M at_ _ hnoneB,if_pos hlt,h.rank]
 · rw [add_to]
   intro x hx
   rcases List.mem_append.1 hx with hx | hx
   · exact sp_add hnone (h.span x hx)
   · have e : x = r := by simpa using hx
     subst e
     have h5 := vred_sp (toM M) (bR x.1) n
     have h6 : Sp (addM (toM M) at_ (bR (redB M x n).1,(redB M x n).2)) (bR (redB M x n).1) := Sp.row (addM_at _ _ _)
     have h7 := (sp_add (at_ := at_) (r := (bR (redB M x n).1,(redB M x n).2)) hnone h5).sum h6
     rw [h4,rx_cancel] at h7
     rw [h4]
     exact h7
 · intro P hP
   rw [add_to]
   refine (h.cons P fun x hx => hP x (List.mem_append_left _ hx)).add (r := (bR (redB M r n).1,(redB M r n).2)) ?_ at_
   have := (h.cons P fun x hx => hP x (List.mem_append_left _ hx)).red (r := (bR r.1,r.2)) (hP r (List.mem_append_right _ (by simp))) n
   rw [red_to] at this
   exact this
theorem DInv.full {n size rank : Nat} {rows : List (B64 × List UInt8)} {M : MatB} (h : DInv n size rows M rank) (hf : rank = n) (P : Nat → Nat → UInt8) (hP : ∀ r,r ∈ rows → Says P n size (bR r.1,r.2)) (i : Nat) (hi : i < n) : ∃ x,M i = some (x,(List.range size).map (P i)) := by
 have hall := cnt1_full M n (by rw [← h.rank,hf])
 obtain ⟨x,hx⟩ := Option.isSome_iff_exists.1 (hall i hi)
 have hrow : bR x.1 = er i := by
   funext j
   by_cases hji : j = i
   · subst hji
     have : bR x.1 j = true := h.inv.one j _ (toM_some hx)
     rw [this]
     simp [er]
   · have : bR x.1 j = false := by
       rcases Nat.lt_or_ge j n with hj | hj
       · obtain ⟨y,hy⟩ := Option.isSome_iff_exists.1 (hall j hj)
         exact h.inv.off i _ j _ (toM_some hx) (toM_some hy) hji
       · exact h.inv.out i _ j (toM_some hx) hj
     rw [this]
     simp [er,hji]
 have hs := h.cons P hP i _ (toM_some hx)
 refine ⟨x.1,?_⟩
 have : x.2 = (List.range size).map (P i) := by
   apply List.ext_getElem
   · simp [hs.1]
   · intro t h1 h2
     have ht : t < size := by simpa using h2
     have := hs.2 t ht
     rw [hrow,vb_er,if_pos hi] at this
     rw [List.getElem_map,List.getElem_range,← this,List.getD_eq_getElem?_getD,List.getElem?_eq_getElem h1]
     rfl
 rw [hx,← this]
theorem DInv.spans {n size rank : Nat} {rows : List (B64 × List UInt8)} {M : MatB} (h : DInv n size rows M rank) (hs : ∀ i,i < n → Sp (toM M) (er i)) : rank = n := by
 rw [h.rank]
 refine cnt1_all M n fun i hi => ?_
 obtain ⟨x,hx,_⟩ := full_rows h.inv hs i hi
 obtain ⟨y,hy,_⟩ := toM_inv hx
 rw [hy]
 rfl
theorem DInv.le {n size rank : Nat} {rows : List (B64 × List UInt8)} {M : MatB} (h : DInv n size rows M rank) : rank ≤ n := by
 rw [h.rank]
 exact cnt1_le M n
def parRs (s : B32) (K S : Nat) (j : Nat) : List (B64 × List UInt8) := (List.range j).map fun i => (parX s K i K,List.replicate S 0)
theorem parRs_succ (s : B32) (K S j : Nat) : parRs s K S (j + 1) = parRs s K S j ++ [(parX s K j K,List.replicate S 0)] := by
 unfold parRs
 rw [List.range_succ,List.map_append]
 rfl
theorem dnew_any (s : B32) (K P S : Nat) (w : World) (hok : spOk K P S = true) (hn : K + P ≤ 64) (hT : Tab64 w) (hw1 : 1 < w.heap.size) (hbit : ∀ j k,j < P → (parX s K j K).getLsbD k = true → k < K + P) :
   Calls Tryz.prog 175 #[.agg (parC s K P S)] w fun e w' => ∃ d g rb bk M rank,e = .returned (.pointer (some ⟨d,0,none⟩)) ∧ Blk w' d (decC s K P S g 0 0 (.slice none 0 0)) 239 ∧ MatAt w' g rb bk (K + P) S M rank ∧
     DInv (K + P) S (parRs s K S P) M rank ∧ w.heap.size ≤ d ∧ (∀ b,MatF g rb bk M b → w.heap.size ≤ b ∧ b ≠ d) ∧ Below w.heap.size w w' := by
 have hb0 : Blk (w.alloc (.cells (parC s K P S) 59)) w.heap.size (parC s K P S) 59 := Blk.new _ _ _
 have hB0 := below_alloc1 w (.cells (parC s K P S) 59)
 have hsz := size59 s K P S
 have hK : 1 ≤ K ∧ K ≤ 64 ∧ P ≤ 16 ∧ 1 ≤ S ∧ S ≤ 16 := by unfold spOk at hok; simp at hok; omega
 have hpc : ∀ w,Calls Tryz.prog 146 #[.agg #[.int .u32 (V s),.int .i64 (K : Int),.int .i64 (P : Int),.int .i64 (S : Int)]] w fun e w' => e = .returned (.int .i64 ((K + P : Nat) : Int)) ∧ Below w.heap.size w w' := fun w => spieces_any s K P S w hok
 have hsp : ∀ w,Calls Tryz.prog 60 #[.agg (parC s K P S)] w fun e w' => e = .returned (.bool true) ∧ Below w.heap.size w w' := fun w => by have := spmay_any s K P S w; rw [hok] at this; exact this
 have hpr : ∀ w,Calls Tryz.prog 191 #[.agg (parC s K P S)] w _ := fun w => prows_any s K P S w hok hn
 obtain ⟨n,hnn⟩ : ∃ n,K + P = n := ⟨_,rfl⟩
 rw [hnn] at hn hpc hpr hbit ⊢
 have hn1 : 1 ≤ n := by omega
 have hnew := fun w => mnew_any n S w hn1 hn hK.2.2.2.1 hK.2.2.2.2
 clear hok
 go_enter Tryz.func175,Tryz.ntmps175
 go_wp2_with (first
   | ((with_reducible refine at_load ?_); refine wpList_load_row rfl 59 (.tmp 1) rfl w.heap.size rfl 59 (parC s K P S) (0,0) _ hb0 Tryz.underlying59 rfl hsz ?_))
 refine (hsp _).mono ?_
 rintro e w1 ⟨rfl,hb1⟩
 have hb := hb0.below hb1
 have hB1 := below_next hB0 hb1
 clear hb0 hB0 hb1 hsp
 go_wp2_with fail
 have hc : ∀ y,Below w1.heap.size w1 y → y.cell? ⟨w.heap.size,0,none⟩ = some (.int .u32 (V s)) ∧ y.cell? ⟨w.heap.size,1,none⟩ = some (.int .i64 (K : Int)) ∧ y.cell? ⟨w.heap.size,2,none⟩ = some (.int .i64 (P : Int)) ∧ y.cell? ⟨w.heap.size,3,none⟩ = some (.int .i64 (S : Int)) := fun y hy => ⟨(hb.below hy).cell rfl,(hb.below hy).cell rfl,(hb.below hy).cell rfl,(hb.below hy).cell rfl⟩
 have hcr := hc w1.drew (Below.refl _ _).drew
 have hBr : Below w1.heap.size w1 w1.drew := (Below.refl _ _).drew
 have hlb := hb.lt
 go_cut [3] (fun v wx => ∃ d g rb,v = .pointer (some ⟨d,0,none⟩) ∧ Blk wx d (decC s K P S g 0 0 (.slice none 0 0)) 239 ∧ MatAt wx g rb (fun _ => ⟨0,0,0,0⟩) n S noM 0 ∧ w1.heap.size ≤ g ∧ w1.heap.size ≤ rb ∧ w1.heap.size ≤ d ∧ d ≠ g ∧ d ≠ rb ∧ Below w1.heap.size w1 wx)
 case first =>
   go_region_held3 (fun y => y.cell? ⟨w.heap.size,0,none⟩ = some (.int .u32 (V s)) ∧ y.cell? ⟨w.heap.size,1,none⟩ = some (.int .i64 (K : Int)) ∧ y.cell? ⟨w.heap.size,2,none⟩ = some (.int .i64 (P : Int)) ∧ y.cell? ⟨w.heap.size,3,none⟩ = some (.int .i64 (S : Int)))
     (first | (with_reducible exact hcr) | (with_reducible exact hc2) | (with_reducible exact hc3) | (with_reducible exact hc4 _))
     ((first
       | (go_at_call 146; (with_reducible refine (hpc _).mono ?_); rintro e w2 ⟨rfl,hb2⟩; have hB2 := below_next hBr hb2; have hc2 := hc w2 hB2; have hc3 : True := trivial; have hc4 : True → True := fun _ => trivial)
       | (go_at_call 212; (with_reducible refine (hnew _).mono ?_); rintro e w3 ⟨rfl,hm3,hb3⟩; have hB3 := below_next hB2 hb3; have hc3 := hc w3 hB3; have hc4 := fun o => hc (w3.alloc o) (hB3.alloc hB3.size o))))
   all_goals
     have hs2 := hB2.size
     have hl3 := hm3.head.lt
     have hl4 := hm3.rows.lt
     have hs3 := hB3.size
     go_wp2_with fail
     go_meet
     exact ⟨w3.heap.size,w2.heap.size + 1,w2.heap.size,rfl,Blk.new _ _ _,hm3.below (below_alloc1 _ _),by omega,by omega,by omega,by omega,by omega,hB3.alloc hs3 _⟩
 case rest =>
   obtain ⟨d,g,rb,rfl,hd,hm,hg,hrb,hdd,hdg,hdr,hBc⟩ := hcut
   have hbc := hb.below hBc
   have hBw := below_next hB1 hBc
   have hsw1 := hB1.size
   have hsw := hBw.size
   clear hb hB1 hc hcr hBr hnew hpc hBc
   go_wp2_with (first
     | ((with_reducible refine at_load ?_); refine wpList_load_row rfl 59 (.tmp 1) rfl w.heap.size rfl 59 (parC s K P S) (0,0) _ hbc Tryz.underlying59 rfl hsz ?_))
   refine (hpr _).mono ?_
   rintro e w5 ⟨A,c,ps,rfl,ho,hvs,hb5⟩
   have hd5 := hd.below hb5
   have hm5 := hm.below hb5
   have hbx := hbc.below hb5
   have hB5 := below_next hBw hb5
   have hgl := hm.head.lt
   have hrl := hm.rows.lt
   have hdl := hd.lt
   have hbl := hbc.lt
   have hs5 := hb5.size
   have hA : ∀ gg,A.map (·.block) = some gg → wc.heap.size ≤ gg ∧ gg < w5.heap.size := by
     intro gg hgg
     by_cases hP : 0 < P
     · obtain ⟨g1,rfl,h1,h2⟩ := row_form ho hP
       obtain rfl : g1 = gg := by simpa using hgg
       exact ⟨h1,h2⟩
     · rcases ho.2 with ⟨h1,_⟩ | ⟨g2,cap,cur,hv,h1,h2,_⟩
       · simp only [Value.slice.injEq] at h1
         rw [h1.1] at hgg
         cases hgg
       · simp only [Value.slice.injEq] at hv
         rw [hv.1] at hgg
         obtain rfl : g2 = gg := by simpa using hgg
         exact ⟨h1,lt_of_block h2⟩
   have hvl : ∀ (j : Nat) p,ps[j]? = some p → ∃ wb,VecAt w5 p wb n (parX s K j K) ∧ wc.heap.size ≤ p ∧ wc.heap.size ≤ wb ∧ p < w5.heap.size ∧ wb < w5.heap.size := by
     intro j p hp
     obtain ⟨wb,h1,h2,h3⟩ := hvs j p hp
     exact ⟨wb,h1,h2,h3,(by have := h1.lt; omega),(by have := h1.lt; omega)⟩
   have hTw := hT
   have hmk := run_make22 S hK.2.2.2.2
   have hpl : ps.length = P := by
     have := row_len ho
     simpa [PtrV] using this
   clear hbc hd hm hpr hvs
   go_wp2_with fail
   go_loopw [20] (fun u wr => ∃ (j : Nat) (bk : Nat → RB) (M : MatB) (rank : Nat),j ≤ P ∧ u = .int .i64 (j : Int) ∧ Blk wr w.heap.size (parC s K P S) 59 ∧ Blk wr d (decC s K P S g 0 0 (.slice none 0 0)) 239 ∧ MatAt wr g rb bk n S M rank ∧ Hid (DInv n S (parRs s K S j) M rank) ∧
     Hid (∀ b,MatF g rb bk M b → b = g ∨ b = rb ∨ w5.heap.size ≤ b) ∧ wr.ownsRow wc.heap.size 158 1 (.slice A P c) P (PtrV ps) ∧ Hid (∀ (j : Nat) p,ps[j]? = some p → ∃ wb,VecAt wr p wb n (parX s K j K) ∧ wc.heap.size ≤ p ∧ wc.heap.size ≤ wb ∧ p < w5.heap.size ∧ wb < w5.heap.size) ∧ w5.heap.size ≤ wr.heap.size ∧ Below w.heap.size w wr) (fun u _ => P - (intOf u).toNat)
   case atStart =>
     refine ⟨0,(fun _ => ⟨0,0,0,0⟩),noM,0,by omega,rfl,hbx,hd5,hm5,hide (DInv.none n S),hide ?_,ho,hide hvl,Nat.le_refl _,hB5⟩
     rintro b (h | h | ⟨i,x,h,_⟩)
     · exact .inl h
     · exact .inr (.inl h)
     · cases h
   case round =>
     clear hbx hd5 hm5 ho hvl hB5
     obtain ⟨j,bk,M,rank,hj,rfl,hbx,hd,hm,hI,hMF,ho,hvl,hs6,hB⟩ := hrel
     have hjP : (j : Int) ≤ (P : Int) := by omega
     by_cases hlt : j < P
     · have hlt' : (j : Int) < (P : Int) := by omega
       have hj0 : (0 : Int) ≤ (j : Int) := by omega
       obtain ⟨gA,rfl,hgA1,hgA2⟩ := row_form ho (by omega)
       obtain ⟨p,hp⟩ : ∃ p,ps[j]? = some p := ⟨_,List.getElem?_eq_getElem (by omega)⟩
       have cA : wr.cell? ⟨gA,j,none⟩ = some (.pointer (some ⟨p,0,none⟩)) := row_cell ho (by simp [PtrV,hp])
       obtain ⟨wb,hv,hp1,hp2,hp3,hp4⟩ := hvl.out j p hp
       have hne : ∀ b,wc.heap.size ≤ b → b < w5.heap.size → ¬ MatF g rb bk M b := by
         intro b h1 h2 h3
         rcases hMF.out b h3 with h | h | h
         · subst h; omega
         · subst h; omega
         · omega
       have hnd : ¬ MatF g rb bk M d := by
         intro h3
         rcases hMF.out d h3 with h | h | h
         · exact hdg h
         · exact hdr h
         · omega
       have hnb : ¬ MatF g rb bk M w.heap.size := by
         intro h3
         rcases hMF.out _ h3 with h | h | h
         · omega
         · omega
         · omega
       have hn1' : ¬ MatF g rb bk M 1 := by
         intro h3
         rcases hMF.out _ h3 with h | h | h
         · omega
         · omega
         · omega
       have hTr := hT.below hB
       have hxb : ∀ k,(parX s K j K).getLsbD k = true → k < n := fun k hk => hbit j k hlt hk
       have hbits := hI.out.bits (parX s K j K,List.replicate S 0) hxb
       have hadd := fun w hw hv hr hT => madd_any g rb bk n S M rank p wb (parX s K j K) (some ⟨wr.heap.size,0,none⟩) S (List.replicate S 0) w hw hv hr hn hn1 hK.2.2.2.2 hT hn1' hbits (by have := hI.out.le; omega)
       obtain ⟨R,hR⟩ : ∃ R,redB M (parX s K j K,List.replicate S 0) n = R := ⟨_,rfl⟩
       have hIz : Hid (R.1 = 0#64 → DInv n S (parRs s K S (j + 1)) M rank) := hide (fun hz => by rw [parRs_succ]; exact hI.out.dup _ (by rw [hR]; exact hz))
       have hIa : Hid (∀ at_,R.1.getLsbD at_ = true → DInv n S (parRs s K S (j + 1)) (addB M at_ R) (rank + 1)) := hide (fun at_ hb => by rw [parRs_succ,← hR]; exact hI.out.add _ (by rw [hR]; exact hb) hxb)
       rw [hR] at hadd
       clear hR hbits hI
       have hcs : ∀ y,Fr (MatF g rb bk M) wr y → y.cell? ⟨d,4,none⟩ = some (.pointer (some ⟨g,0,none⟩)) ∧ y.cell? ⟨w.heap.size,3,none⟩ = some (.int .i64 (S : Int)) := fun y hy => ⟨(hd.fr hy hnd).cell rfl,(hbx.fr hy hnb).cell rfl⟩
       have hcs0 := hcs wr.drew (Fr.refl _ _).drew
       have hrdz : ∀ y : World,y.heap.size = wr.heap.size → Rd (y.alloc (.cells (cs8 (List.replicate S 0)) 5)) (some ⟨wr.heap.size,0,none⟩) S S (List.replicate S 0) := by
         intro y hy
         rw [← hy]
         exact rd_of_blk (Blk.new y _ 5) (by simp) (by unfold maxLen; omega)
       by_cases hz : R.1 = 0#64
       · have hadd0 : ∀ y,MatAt y g rb bk n S M rank → VecAt y p wb n (parX s K j K) → Rd y (some ⟨wr.heap.size,0,none⟩) S S (List.replicate S 0) → Tab64 y → Calls Tryz.prog 183 #[.pointer (some ⟨g,0,none⟩),.pointer (some ⟨p,0,none⟩),.slice (some ⟨wr.heap.size,0,none⟩) S S] y fun e w' => e = .returned (.bool false) ∧ Below y.heap.size y w' := by
           intro y h1 h2 h3 h4
           refine (hadd y h1 h2 h3 h4).mono ?_
           rintro e w' (⟨_,h⟩ | ⟨at_,q,h,_⟩)
           · exact h
           · rw [hz] at h
             simp at h
         have hIz' := hide (hIz.out hz)
         clear hz hadd hIz hIa
         have hBW : Below wr.heap.size wr ((wr.drew).alloc (.cells (cs8 (List.replicate S 0)) 5)) := (Below.refl _ _).drew.alloc (Nat.le_refl _) _
         have hBV : Below wr.heap.size wr (wr.alloc (.cells (cs8 (List.replicate S 0)) 5)).drew := ((Below.refl _ _).alloc (Nat.le_refl _) _).drew
         have hrW := hrdz wr.drew rfl
         have hrV : Rd (wr.alloc (.cells (cs8 (List.replicate S 0)) 5)).drew (some ⟨wr.heap.size,0,none⟩) S S (List.replicate S 0) := (hrdz wr rfl).below (Below.refl _ _).drew
         have hcsW := hcs _ (Fr.of hBW)
         have hcsV := hcs _ (Fr.of hBV)
         have hc1 := hadd0 _ (hm.below hBW) (hv.below hBW) hrW (hTr.below hBW)
         have hc2 := hadd0 _ (hm.below hBV) (hv.below hBV) hrV (hTr.below hBV)
         have hcs1 : True := trivial
         go_wp2_with fail
         go_region_held3 (fun y => y.cell? ⟨d,4,none⟩ = some (.pointer (some ⟨g,0,none⟩)) ∧ y.cell? ⟨w.heap.size,3,none⟩ = some (.int .i64 (S : Int)))
           (first | (with_reducible exact hcs0) | (with_reducible exact hcsW) | (with_reducible exact hcsV) | (with_reducible exact hcs1))
           ((first
             | (go_at_call 183; (with_reducible refine hc1.mono ?_); rintro e w7 ⟨rfl,hb7⟩; have hB7 : Below wr.heap.size wr w7 := below_next hBW hb7; have hcs1 := hcs w7 (Fr.of hB7))
             | (go_at_call 183; (with_reducible refine hc2.mono ?_); rintro e w7 ⟨rfl,hb7⟩; have hB7 : Below wr.heap.size wr w7 := below_next hBV hb7; have hcs1 := hcs w7 (Fr.of hB7))))
         all_goals
           go_wp2_with fail
           go_roundw
           case rel => exact ⟨j + 1,bk,M,rank,by omega,by go_num,hbx.below hB7,hd.below hB7,hm.below hB7,hIz',hMF,own2_below ho hB7,hide (fun i q hq => by
             obtain ⟨wq,k1,k2⟩ := hvl.out i q hq
             exact ⟨wq,k1.below hB7,k2⟩),Nat.le_trans hs6 hB7.size,below_next hB hB7⟩
           case measure => simp [intOf]; omega
       · have hadd1 : ∀ y,MatAt y g rb bk n S M rank → VecAt y p wb n (parX s K j K) → Rd y (some ⟨wr.heap.size,0,none⟩) S S (List.replicate S 0) → Tab64 y → Calls Tryz.prog 183 #[.pointer (some ⟨g,0,none⟩),.pointer (some ⟨p,0,none⟩),.slice (some ⟨wr.heap.size,0,none⟩) S S] y fun e w' => ∃ at_ q,R.1.getLsbD at_ = true ∧ e = .returned (.bool true) ∧ MatAt w' g rb (bkSet bk at_ q) n S (addB M at_ R) (rank + 1) ∧ (y.heap.size ≤ q.r ∧ y.heap.size ≤ q.v ∧ y.heap.size ≤ q.w ∧ y.heap.size ≤ q.d) ∧ Fr (MatF g rb bk M) y w' := by
           intro y h1 h2 h3 h4
           refine (hadd y h1 h2 h3 h4).mono ?_
           rintro e w' (⟨h,_⟩ | ⟨at_,q,h⟩)
           · exact absurd h hz
           · exact ⟨at_,q,h⟩
         clear hz hadd hIz
         have hBW : Below wr.heap.size wr ((wr.drew).alloc (.cells (cs8 (List.replicate S 0)) 5)) := (Below.refl _ _).drew.alloc (Nat.le_refl _) _
         have hBV : Below wr.heap.size wr (wr.alloc (.cells (cs8 (List.replicate S 0)) 5)).drew := ((Below.refl _ _).alloc (Nat.le_refl _) _).drew
         have hrW := hrdz wr.drew rfl
         have hrV : Rd (wr.alloc (.cells (cs8 (List.replicate S 0)) 5)).drew (some ⟨wr.heap.size,0,none⟩) S S (List.replicate S 0) := (hrdz wr rfl).below (Below.refl _ _).drew
         have hcsW := hcs _ (Fr.of hBW)
         have hcsV := hcs _ (Fr.of hBV)
         have hc1 := hadd1 _ (hm.below hBW) (hv.below hBW) hrW (hTr.below hBW)
         have hc2 := hadd1 _ (hm.below hBV) (hv.below hBV) hrV (hTr.below hBV)
         have hcs1 : True := trivial
         go_wp2_with fail
         go_region_held3 (fun y => y.cell? ⟨d,4,none⟩ = some (.pointer (some ⟨g,0,none⟩)) ∧ y.cell? ⟨w.heap.size,3,none⟩ = some (.int .i64 (S : Int)))
           (first | (with_reducible exact hcs0) | (with_reducible exact hcsW) | (with_reducible exact hcsV) | (with_reducible exact hcs1))
           ((first
             | (go_at_call 183; (with_reducible refine hc1.mono ?_); rintro e w7 ⟨at_,q,hat,rfl,hm7,hq7,hf7⟩; have hF7 : Fr (MatF g rb bk M) wr w7 := (Fr.of hBW).trans hf7; have hs7 : wr.heap.size ≤ q.r ∧ wr.heap.size ≤ q.v ∧ wr.heap.size ≤ q.w ∧ wr.heap.size ≤ q.d := (by have := hBW.size; omega); have hcs1 := hcs w7 hF7)
             | (go_at_call 183; (with_reducible refine hc2.mono ?_); rintro e w7 ⟨at_,q,hat,rfl,hm7,hq7,hf7⟩; have hF7 : Fr (MatF g rb bk M) wr w7 := (Fr.of hBV).trans hf7; have hs7 : wr.heap.size ≤ q.r ∧ wr.heap.size ≤ q.v ∧ wr.heap.size ≤ q.w ∧ wr.heap.size ≤ q.d := (by have := hBV.size; omega); have hcs1 := hcs w7 hF7)))
         all_goals
           go_wp2_with fail
           go_roundw
           case rel =>
             refine ⟨j + 1,bkSet bk at_ q,addB M at_ R,rank + 1,by omega,by go_num,hbx.fr hF7 hnb,hd.fr hF7 hnd,hm7,hide (hIa.out at_ hat),hide (fun b hb => ?_),own2_fr ho hF7 (fun gg hgg => by have hgx : gA = gg := (by simpa using hgg); rw [← hgx]; exact hne gA hgA1 (hA gA rfl).2),hide (fun i q hq => ?_),Nat.le_trans hs6 hF7.size,?_⟩
             · rcases matF_add hb with k | k | k | k | k
               · exact hMF.out b k
               all_goals (right; right; omega)
             · obtain ⟨wq,k1,k2,k3,k4,k5⟩ := hvl.out i q hq
               exact ⟨wq,k1.fr hF7 (hne q k2 k4) (hne wq k3 k5),k2,k3,k4,k5⟩
             · exact (Fr.of (S := fun b => w.heap.size ≤ b ∧ b ≠ w.heap.size) hB |>.step hF7 (fun b hbw hb => by
                 rcases hMF.out b hb with k | k | k
                 · omega
                 · omega
                 · omega)).below (Nat.le_refl _) (fun b hb => hb.1)
           case measure => simp [intOf]; omega
     · obtain rfl : P = j := by omega
       go_wp2_with fail
       go_ret
       refine ⟨d,g,rb,bk,M,rank,rfl,hd,hm,hI.out,by omega,?_,hB⟩
       intro b hb
       rcases hMF.out b hb with h | h | h
       · subst h; omega
       · subst h; omega
       · omega
theorem own2_ge {w : World} {base : Nat} {e : TypeId} {A : Option Addr} {n c m sz : Nat} {xs : List Value} (h : w.ownsRow base e sz (.slice A n c) m xs) {g : Nat} (hg : A.map (·.block) = some g) : base ≤ g := by
 rcases h.2 with ⟨h2,_⟩ | ⟨g2,cap,cur,hv,hb,hh,_⟩
 · simp only [Value.slice.injEq] at h2
   rw [h2.1] at hg
   cases hg
 · simp only [Value.slice.injEq] at hv
   rw [hv.1] at hg
   obtain rfl : g2 = g := by simpa using hg
   exact hb
theorem OwnL.fr {te e : TypeId} {w w' : World} {base : Nat} {A : Option Addr} {n c : Nat} {fs : List (List UInt8)} {S : Nat → Prop} (h : OwnL te e w base A n c fs none) (hF : Fr S w w') (hS : ∀ g,S g → g < base) : OwnL te e w' base A n c fs none := by
 obtain ⟨vs,h1,h2,h3⟩ := h
 refine ⟨vs,own2_fr h1 hF (fun g hg hs => by have := own2_ge h1 hg; have := hS g hs; omega),h2,fun j f hj => ?_⟩
 obtain ⟨A',n',c',k1,k2,k3⟩ := h3 j f hj
 exact ⟨A',n',c',k1,own2_fr k2 hF (fun g hg hs => by have := own2_ge k2 hg; have := hS g hs; omega),.inl rfl⟩
theorem dsolve_any (b0 d g rb n S : Nat) (bk : Nat → RB) (M : MatB) (ds : List (List UInt8)) (cs : Array Value) (w : World) (hb : Blk w b0 #[.pointer (some ⟨d,0,none⟩)] 195) (hd : Blk w d cs 239) (hsz : cs.size = 10) (h4 : cs[4]? = some (.pointer (some ⟨g,0,none⟩)))
   (hm : MatAt w g rb bk n S M n) (hn : n ≤ 64) (hS : S ≤ 16) (hl : ds.length = n) (hds : ∀ (i : Nat) l,ds[i]? = some l → ∃ x,M i = some (x,l)) :
   Calls Tryz.prog 217 #[.pointer (some ⟨b0,0,none⟩)] w fun e w' => e = .returned (.tuple #[]) ∧ ∃ A c,OwnL 22 5 w' w.heap.size A n c ds none ∧ Blk w' d (cs.setIfInBounds 9 (.slice A n c)) 239 ∧ Fr (· = d) w w' := by
 have hc : ∀ y,Below w.heap.size w y → y.cell? ⟨b0,0,none⟩ = some (.pointer (some ⟨d,0,none⟩)) ∧ y.cell? ⟨d,4,none⟩ = some (.pointer (some ⟨g,0,none⟩)) := fun y hy => ⟨(hb.below hy).cell rfl,(hd.below hy).cell h4⟩
 have hc0 := hc w.drew (Below.refl _ _).drew
 have hB0 : Below w.heap.size w w.drew := (Below.refl _ _).drew
 have hsv := fun y hy => msolve_any g rb bk n S M ds y hy hn hS hl hds
 have hne : b0 ≠ d := hb.ne hd (by decide)
 have hdl := hd.lt
 obtain ⟨v9,hv9⟩ : ∃ v,cs[9]? = some v := ⟨cs[9],by simp [hsz]⟩
 go_enter Tryz.func217,Tryz.ntmps217
 go_wp2_with fail
 have hc1 : True := trivial
 have hc2 : True := trivial
 go_region_held3 (fun y => y.cell? ⟨b0,0,none⟩ = some (.pointer (some ⟨d,0,none⟩)) ∧ y.cell? ⟨d,4,none⟩ = some (.pointer (some ⟨g,0,none⟩)))
   (first | (with_reducible exact hc0) | (with_reducible exact hc1) | (with_reducible exact hc2))
   ((first
     | (go_at_call 218; (with_reducible refine (hsv _ (hm.below hB0)).mono ?_); rintro e w1 ⟨A,c,rfl,ho,hb1⟩
        have hB1 := below_next hB0 hb1
        have hd1 := hd.below hB1
        have hc1 := hc w1 hB1
        have e9 := hd1.cell hv9
        have z9 := hd1.free 9
        have hF1 : Fr (· = d) w1 (w1.setCell ⟨d,9,none⟩ (.slice A n c)) := Fr.set (S := (· = d)) (Fr.refl _ _) (p := ⟨d,9,none⟩) (fun _ => rfl) _
        have hd2 := hd1.setCellAt 9 (.slice A n c) rfl
        have hc2 : (w1.setCell ⟨d,9,none⟩ (.slice A n c)).cell? ⟨b0,0,none⟩ = some (.pointer (some ⟨d,0,none⟩)) ∧ (w1.setCell ⟨d,9,none⟩ (.slice A n c)).cell? ⟨d,4,none⟩ = some (.pointer (some ⟨g,0,none⟩)) 
          := ⟨((hb.below hB1).fr hF1 hne).cell rfl,hd2.cell (by rw [Array.getElem?_setIfInBounds]; simp [h4])⟩)))
 all_goals
   have ho : OwnL 22 5 w1 w.heap.size A n c ds none := ho
   have ho3 : OwnL 22 5 (w1.setCell ⟨d,9,none⟩ (.slice A n c)) w.heap.size A n c ds none := ho.fr hF1 (fun g hg => by have h2 : g = d := hg; omega)
   go_end0
   exact ⟨rfl,A,c,ho3,hd2,(Fr.of hB1).step hF1 (fun _ _ h => h)⟩
theorem dimage_any (s : B32) (K P S g rb d : Nat) (bk : Nat → RB) (M : MatB) (taken : Int) (L : Value) (ds : List (List UInt8)) (len : Nat) (w : World) (hd : Blk w d (decC s K P S g taken 0 L) 239) (hm : MatAt w g rb bk (K + P) S M (K + P))
   (hok : spOk K P S = true) (hn : K + P ≤ 64) (hS : S ≤ 16) (hdn : ¬ MatF g rb bk M d) (hl : ds.length = K + P) (hds : ∀ (i : Nat) l,ds[i]? = some l → ∃ x,M i = some (x,l)) (hlen : cnt len S = K) (h1 : 1 ≤ len) (h2 : len ≤ 512) (hfl : len ≤ (ds.take K).flatten.length) (hsm : ∀ l,l ∈ ds → l.length ≤ 1000) :
   Calls Tryz.prog 185 #[.pointer (some ⟨d,0,none⟩),.int .i64 len] w fun e w' => ∃ A c,e = .returned (.tuple #[.slice A len c,.bool true]) ∧ Own w' w.heap.size 5 A len c ((ds.take K).flatten.take len) ∧ (∃ L',Blk w' d (decC s K P S g taken 1 L') 239) ∧ Fr (· = d) w w' := by
 obtain ⟨W,hW⟩ : ∃ W,W = w.alloc (.cells #[.pointer (some ⟨d,0,none⟩)] 195) := ⟨_,rfl⟩
 have hBW : Below w.heap.size w W := by rw [hW]; exact below_alloc1 _ _
 have hbW : Blk W w.heap.size #[.pointer (some ⟨d,0,none⟩)] 195 := by rw [hW]; exact Blk.new _ _ _
 have hsW : W.heap.size = w.heap.size + 1 := by rw [hW]; simp
 have hdW := hd.below hBW
 have hmW := hm.below hBW
 have hdl := hd.lt
 have hdK : (K : Int) ≤ 64 := by omega
 have hlen' : (len : Int) ≤ 512 := by omega
 have hne : ((K : Int) != (K : Int)) = false := by simp
 have hc : ∀ y,Below W.heap.size W y → y.cell? ⟨w.heap.size,0,none⟩ = some (.pointer (some ⟨d,0,none⟩)) ∧ y.cell? ⟨d,3,none⟩ = some (.int .i64 (S : Int)) ∧ y.cell? ⟨d,1,none⟩ = some (.int .i64 (K : Int)) := fun y hy => ⟨(hbW.below hy).cell rfl,(hdW.below hy).cell rfl,(hdW.below hy).cell rfl⟩
 have hc0 := hc W.drew (Below.refl _ _).drew
 have hB0 : Below W.heap.size W W.drew := (Below.refl _ _).drew
 have hnd : ∀ y,Blk y d (decC s K P S g taken 0 L) 239 → MatAt y g rb bk (K + P) S M (K + P) → Calls Tryz.prog 138 #[.pointer (some ⟨d,0,none⟩)] y fun e w' => e = .returned (.int .i64 0) ∧ Below y.heap.size y w' := by
   intro y k1 k2
   have := dneeds_any s K P S g rb d bk M (K + P) taken 0 L y k1 k2 hok hn hn
   simpa using this
 have hct : ∀ y,Calls Tryz.prog 59 #[.int .i64 len,.int .i64 S] y fun e w' => e = .returned (.int .i64 K) ∧ w' = y := by
   intro y
   have := count_any len S y (by omega) (by omega)
   rw [hlen] at this
   exact this.mono fun _ _ ⟨a,b⟩ => ⟨a,b.symm⟩
 clear hlen
 go_enter Tryz.func185,Tryz.ntmps185
 go_wp2_with fail
 change Code.wp _ _ _ _ (w.alloc (.cells #[.pointer (some ⟨d,0,none⟩)] 195))
 rw [← hW]
 clear hW
 have hc1 : True := trivial
 go_region_held3 (fun y => y.cell? ⟨w.heap.size,0,none⟩ = some (.pointer (some ⟨d,0,none⟩)) ∧ y.cell? ⟨d,3,none⟩ = some (.int .i64 (S : Int)) ∧ y.cell? ⟨d,1,none⟩ = some (.int .i64 (K : Int)))
   (first | (with_reducible exact hc0) | (with_reducible exact hc1))
   ((first
     | (go_at_call 138; (with_reducible refine (hnd _ (hdW.below hB0) (hmW.below hB0)).mono ?_); rintro e w1 ⟨rfl,hb1⟩; have hB1 := below_next hB0 hb1; have hc1 := hc w1 hB1)
     | (go_at_call 59; (with_reducible refine (hct _).mono ?_); rintro e w2 ⟨rfl,rfl⟩)))
 have hd2 := hdW.below hB1
 have hm2 := hmW.below hB1
 have hb2 := hbW.below hB1
 have hs2 := hB1.size
 clear hc0 hc1 hc hnd hct hb1 hdW hmW hbW hne
 have hF7 : Fr (· = d) w2 (w2.setCell ⟨d,7,none⟩ (.int .i32 1)) := Fr.set (S := (· = d)) (Fr.refl _ _) (p := ⟨d,7,none⟩) (fun _ => rfl) _
 have hz7 : (w2.setCell ⟨d,7,none⟩ (.int .i32 1)).heap.size = w2.heap.size := by simp [World.setCell]
 have hd7 := hd2.setCellAt 7 (.int .i32 1) rfl
 have hnb : w.heap.size ≠ d := by omega
 have hsv := dsolve_any w.heap.size d g rb (K + P) S bk M ds _ _ (hb2.fr hF7 hnb) hd7 rfl rfl (hm2.fr hF7 (fun b hb hbd => by subst hbd; exact hdn hb)) hn hS hl hds
 rw [hz7] at hsv
 have hdo := do_217 d 239 _ w2 hd2 rfl rfl (.pointer (some ⟨w.heap.size,0,none⟩)) (fun w' => ∃ A c,OwnL 22 5 w' w2.heap.size A (K + P) c ds none ∧ Blk w' d (((decC s K P S g taken 0 L).setIfInBounds 7 (.int .i32 1)).setIfInBounds 9 (.slice A (K + P : Nat) c)) 239 ∧ Fr (· = d) w2 w')
   (hsv.mono (by
     rintro e w' ⟨rfl,A,c,h1,h2,h3⟩
     exact ⟨rfl,⟨A,c,h1,h2,hF7.trans h3⟩,_,h2,rfl,rfl⟩))
 go_wp2_with fail
 (with_reducible refine hdo.mono ?_)
 rintro e w5 ⟨rfl,w3,⟨A,c,ho,hd3,hF3⟩,hw5⟩
 have hd4 := (show Blk w3.drew d _ 239 from hd3).setCellAt 6 (.int .u32 1) rfl
 have hd5 := hd4.setCellAt 7 (.int .i32 0) (cs' := decC s K P S g taken 1 (.slice A (K + P : Nat) c)) rfl
 have hF4 : Fr (· = d) w3.drew (w3.drew.setCell ⟨d,6,none⟩ (.int .u32 1)) := Fr.set (S := (· = d)) (Fr.refl _ _) (p := ⟨d,6,none⟩) (fun _ => rfl) _
 have hF5 : Fr (· = d) w3 ((w3.drew.setCell ⟨d,6,none⟩ (.int .u32 1)).setCell ⟨d,7,none⟩ (.int .i32 0)) := Fr.set (S := (· = d)) ((Fr.refl _ w3).drew.trans hF4) (p := ⟨d,7,none⟩) (fun _ => rfl) _
 rw [← hw5] at hd5 hF5
 have hF6 := hF3.trans hF5
 have ho5 := ho.fr hF5 (fun g hg => by have h2 : g = d := hg; omega)
 have hb5 := hb2.fr hF6 hnb
 have hs5 := hF6.size
 clear hd4 hF4 hw5 ho hd3 hF3 hF5 hdo hsv hd7 hF7 hz7 hd2 hm2 hb2
 have hrd := ho5.rdl.hi (k := K) (by omega)
 have hjn := fun y hr => join_block A K c len (ds.take K) y hr h1 h2 hfl (fun l hl => hsm l (List.mem_of_mem_take hl))
 have hcap := ho5.rdl.2.1
 have hck : (K : Int) ≤ (c : Int) := by omega
 have hK0 : (0 : Int) ≤ (K : Int) := by omega
 have hc5 : ∀ y,Below w5.heap.size w5 y → y.cell? ⟨w.heap.size,0,none⟩ = some (.pointer (some ⟨d,0,none⟩)) ∧ y.cell? ⟨d,9,none⟩ = some (.slice A (K + P : Nat) c) ∧ y.cell? ⟨d,1,none⟩ = some (.int .i64 (K : Int)) := fun y hy => ⟨(hb5.below hy).cell rfl,(hd5.below hy).cell rfl,(hd5.below hy).cell rfl⟩
 have hc50 := hc5 w5.drew (Below.refl _ _).drew
 have hB50 : Below w5.heap.size w5 w5.drew := (Below.refl _ _).drew
 have hc51 : True := trivial
 go_wp2_with fail
 go_region_held3 (fun y => y.cell? ⟨w.heap.size,0,none⟩ = some (.pointer (some ⟨d,0,none⟩)) ∧ y.cell? ⟨d,9,none⟩ = some (.slice A (K + P : Nat) c) ∧ y.cell? ⟨d,1,none⟩ = some (.int .i64 (K : Int)))
   (first | (with_reducible exact hc50) | (with_reducible exact hc51))
   ((go_at_call 219; (with_reducible refine (hjn _ (hrd.below hB50)).mono ?_); rintro e w6 ⟨A6,c6,rfl,ho6,hb6⟩; have hB6 := below_next hB50 hb6; have hc51 := hc5 w6 hB6))
 all_goals
   go_wp2_with fail
   go_ret2
   have hFF : Fr (· = d) w w6 := (((Fr.of (S := (· = d)) (below_next hBW hB1)).step hF6 (fun _ _ h => h))).next hB6
   have hz6 : w5.drew.heap.size = w5.heap.size := rfl
   exact ⟨A6,c6,rfl,ho6.mono (by omega),⟨_,hd5.below hB6⟩,hFF⟩
end Go.Proofs.YtkkcpblfheplaaaGreatDoor
