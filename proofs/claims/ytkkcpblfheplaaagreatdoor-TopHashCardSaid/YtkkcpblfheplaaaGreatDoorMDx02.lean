/- Contracts of functions that the laws of downpourtop reach, and plain facts; no condition beyond what each theorem states. -/
import Derived.Test.YtkkcpblfheplaaaGreatDoorMPx01
set_option maxRecDepth 100000
set_option maxHeartbeats 8000000
set_option linter.all false
namespace Go.Proofs.YtkkcpblfheplaaaGreatDoor
open Go.RowKit
section
variable {w : World} {B sp wp f bb d g rb : Nat} {bk : Nat → RB} {gen s : B32} {K P S L : Nat} {LA : Option Addr} {nl cl next : Nat} {l : List UInt8} {er : Nat → Int} {wear : Int} {rows : List (B64 × List UInt8)} {M : MatB} {rank taken : Nat}
theorem StAt.lt (h : StAt w B sp wp f bb d g rb bk gen s K P S L LA nl cl next l er wear rows M rank taken) : ∀ b,StoF wp f bb LA d g rb bk M b → b < w.heap.size := by
 obtain ⟨xs,ho⟩ := h.own
 obtain ⟨_,_,hfb⟩ := h.fl.blk
 rintro b (k | k | k | k | k | k)
 · subst k; exact h.wh.lt
 · subst k; exact hfb.lt
 · subst k; exact h.fl.2.1.lt
 · obtain ⟨cur,hb⟩ := own2_at ho k; exact hb.lt
 · subst k; exact h.dc.lt
 · obtain ⟨cs,t,hb,_⟩ := h.mt.typ k; exact hb.lt
theorem StAt.not (h : StAt w B sp wp f bb d g rb bk gen s K P S L LA nl cl next l er wear rows M rank taken) {b : Nat} {cs : Array Value} {t : TypeId} (hb : Blk w b cs t) (ht : ¬ (t = 280 ∨ t = 274 ∨ t = 277 ∨ t = 264 ∨ t = 36 ∨ t = 5) ∧ t ≠ 242 ∧ t ≠ 130 ∧ t ≠ 5 ∧ t ≠ 236 ∧ t ≠ 239) : ¬ StoF wp f bb LA d g rb bk M b := by
 obtain ⟨xs,ho⟩ := h.own
 obtain ⟨_,_,hfb⟩ := h.fl.blk
 rintro (k | k | k | k | k | k)
 · exact hb.ne h.wh ht.2.1 k
 · exact hb.ne hfb ht.2.2.1 k
 · exact h.fl.2.1.ne hb ht.2.2.2.1 k.symm
 · obtain ⟨cur,hb2⟩ := own2_at ho k; exact hb.ne hb2 ht.2.2.2.2.1 rfl
 · exact hb.ne h.dc ht.2.2.2.2.2 k
 · exact h.mt.not hb ht.1 k
end
theorem takes_dup (d f bb mb B sp wp dd g rb : Nat) (bk : Nat → RB) (Kk : Value) (fl ge v0 : B32) (n0 : Nat) (x0 x1 : Value) (s v : B32) (L S P K : Nat) (A2 : Option Addr) (a2 : Nat) (LA : Option Addr) (nl cl next : Nat) (fls : List UInt8) (er : Nat → Int) (wear : Int) (rows : List (B64 × List UInt8)) (M : MatB) (rank taken : Nat)
   (X : Option Addr) (c : Nat) (l : List UInt8) (id : B32) (w : World) (hd : Blk w d (devC Kk f (some ⟨mb,0,none⟩)) 77) (hm : MemAt w mb (onA fl ge v0 n0 x0 x1 s v L S P A2 a2) (some ⟨sp,0,none⟩))
   (hSt : StAt w B sp wp f bb dd g rb bk ge s K P S L LA nl cl next fls er wear rows M rank taken) (hKe : cnt L S = K) (hok : spOk K P S = true) (hn : K + P ≤ 64) (hn1 : 1 ≤ K + P) (hSz : Sz S) (hL : L ≤ 1000000) (hT : Tab64 w)
   (hr : Rd w X (8 + S) c l) (hse : numB (l.take 4) = s) (hid : numB ((l.drop 4).take 4) = id)
   (hz : (redB M (rowB s K P id,l.drop 8) (K + P)).1 = 0#64) :
   Calls Tryz.prog 37 #[.pointer (some ⟨d,0,none⟩),.slice X (8 + S : Nat) c] w fun e w' => e = .returned (.int .i64 8) ∧ Below w.heap.size w w' := by
 have hpl := pload_still d f mb _ (onA fl ge v0 n0 x0 x1 s v L S P A2 a2) (some ⟨sp,0,none⟩) w hd hm rfl
 have hpk := pktparse_all X (8 + S) c l w hr
 have hpe : pktErr (8 + S) = 0 := by
   unfold pktErr
   rw [if_neg (by rcases hSz with rfl | rfl <;> decide),if_neg (by rcases hSz with rfl | rfl <;> decide)]
 have h8 : 8 + S - 8 = S := by omega
 rw [hpe,h8] at hpk
 have hof : ∀ y,Calls Tryz.prog 22 #[.agg #[.int .u32 (V s),.int .u32 (V v),.int .i64 L,.int .i64 S,.int .i64 P,.slice A2 32 a2]] y fun e w' => e = .returned (.tuple #[.agg (parC s K P S),.bool true]) ∧ Below y.heap.size y w' := by
   intro y
   have := of_any s v L S P A2 32 a2 y hL (by rcases hSz with rfl | rfl <;> decide)
   have hmk : manOk L S P = true := by unfold manOk; rw [hKe]; exact hok
   unfold ofC at this
   rw [hmk,if_pos rfl,hKe] at this
   exact this
 have hft : ∀ y (H : Option Addr) (fh : Nat),Calls Tryz.prog 86 #[.agg (symC s id (.slice H S fh)),.agg (parC s K P S)] y fun e w' => e = .returned (.int .i64 0) ∧ Below y.heap.size y w' := by
   intro y H fh
   have := fits_any s id s H S fh K P S y
   have hfe : fitErr s s S K P S = 0 := by simp [fitErr,hok]
   rw [hfe] at this
   exact this
 clear hpe h8
 go_enter Tryz.func37,Tryz.ntmps37
 go_wp2_with fail
 refine hpl.mono ?_
 rintro e w0 ⟨rfl,rfl⟩
 go_wp2_with fail
 refine hpk.mono ?_
 rintro e w1 ⟨cs,H,fh,rfl,hcs,hb1,_⟩
 obtain ⟨rfl,ho1⟩ := hcs (by first | rfl | trivial)
 rw [hse,hid] at *
 have hz1 : Blk (w1.alloc (.cells (symC 0#32 0#32 (.slice none 0 0)) 94)) w1.heap.size (symC 0#32 0#32 (.slice none 0 0)) 94 := Blk.new _ _ _
 have hsz := size94 s id (.slice H S fh)
 have hs1 := hb1.size
 have hB2' : Below w1.heap.size w1 ((w1.alloc (.cells (symC 0#32 0#32 (.slice none 0 0)) 94)).setRow w1.heap.size (symC s id (.slice H S fh))) := below_setRow (below_alloc1 _ _) (Nat.le_refl _) _
 have hB2 : Below w0.heap.size w0 ((w1.alloc (.cells (symC 0#32 0#32 (.slice none 0 0)) 94)).setRow w1.heap.size (symC s id (.slice H S fh))) := below_next hb1 hB2'
 have hz2 := hz1.setRow (symC s id (.slice H S fh))
 go_upto_region 5 with (first
   | ((with_reducible refine at_store ?_); refine wpList_store_row rfl 94 (.tmp 6) (.tmp 19) rfl w1.heap.size (symC s id (.slice H S fh)) rfl rfl 94 (symC 0#32 0#32 (.slice none 0 0)) hz1 hsz rfl (one94 _ _ _ _ _) ?_))
 change Code.wp _ _ _ _ ((w1.alloc (.cells (symC 0#32 0#32 (.slice none 0 0)) 94)).setRow w1.heap.size (symC s id (.slice H S fh)))
 generalize (w1.alloc (.cells (symC 0#32 0#32 (.slice none 0 0)) 94)).setRow w1.heap.size (symC s id (.slice H S fh)) = w2 at *
 have ho2 := ho1.below hB2'
 have hm2 : Blk w2 mb ((onA fl ge v0 n0 x0 x1 s v L S P A2 a2).push (.pointer (some ⟨sp,0,none⟩))) 90 := Blk.below hm hB2
 have c10 := hm2.cell (i := 10) (v := .bool true) rfl
 have c11 := hm2.cell (i := 11) (v := .int .u32 (V s)) rfl
 have c12 := hm2.cell (i := 12) (v := .int .u32 (V v)) rfl
 have c13 := hm2.cell (i := 13) (v := .int .i64 L) rfl
 have c14 := hm2.cell (i := 14) (v := .int .i64 S) rfl
 have c15 := hm2.cell (i := 15) (v := .int .i64 P) rfl
 have c16 := hm2.cell (i := 16) (v := .slice A2 32 a2) rfl
 have hlw1 : w1.heap.size < w2.heap.size := hz2.lt
 clear hz1 hB2' hpl hpk hcs ho1
 go_wp2_with fail
 refine (hof _).mono ?_
 rintro e w3 ⟨rfl,hb3⟩
 clear c10 c11 c12 c13 c14 c15 c16
 have hB3 := below_next hB2 hb3
 have hz3 := hz2.below hb3
 have ho3 := ho2.below hb3
 have hs3 := hb3.size
 have hp3 : Blk (w3.alloc (.cells (parC 0#32 0 0 0) 59)) w3.heap.size (parC 0#32 0 0 0) 59 := Blk.new _ _ _
 have hszp := size59 s K P S
 have hp4 := hp3.setRow (parC s K P S)
 have hB4' : Below w3.heap.size w3 ((w3.alloc (.cells (parC 0#32 0 0 0) 59)).setRow w3.heap.size (parC s K P S)) := below_setRow (below_alloc1 _ _) (Nat.le_refl _) _
 go_upto_region 8 with (first
   | ((with_reducible refine at_store ?_); refine wpList_store_row rfl 59 (.tmp 8) (.tmp 37) rfl w3.heap.size (parC s K P S) rfl rfl 59 (parC 0#32 0 0 0) hp3 hszp rfl (one59 _ _ _ _) ?_))
 change Code.wp _ _ _ _ ((w3.alloc (.cells (parC 0#32 0 0 0) 59)).setRow w3.heap.size (parC s K P S))
 generalize (w3.alloc (.cells (parC 0#32 0 0 0) 59)).setRow w3.heap.size (parC s K P S) = w4 at *
 have hB4 := below_next hB3 hB4'
 have hz4 := hz3.below hB4'
 have ho4 := ho3.below hB4'
 have hs4 := hB4'.size
 clear hp3 hB4' hz3 hz2 hof
 go_wp2_with (first
   | ((with_reducible refine at_load ?_); refine wpList_load_row rfl 94 (.tmp 6) rfl w1.heap.size rfl 94 (symC s id (.slice H S fh)) (0,0) _ hz4 Tryz.underlying94 rfl hsz ?_)
   | ((with_reducible refine at_load ?_); refine wpList_load_row rfl 59 (.tmp 8) rfl w3.heap.size rfl 59 (parC s K P S) (0,0) _ hp4 Tryz.underlying59 rfl hszp ?_))
 refine (hft _ _ _).mono ?_
 rintro e w5 ⟨rfl,hb5⟩
 have hB5 := below_next hB4 hb5
 have hz5 := hz4.below hb5
 have ho5 := (ho4.below hb5).rd
 have hs5 := hb5.size
 have hH : ∀ ad,H = some ad → w0.heap.size ≤ ad.block := by
   intro ad had
   subst had
   obtain ⟨gq,hq,hq2,_⟩ := ho4.form (by rcases hSz with rfl | rfl <;> decide)
   have hq3 : ad = ⟨gq,0,none⟩ := by simpa using hq
   rw [hq3]; exact hq2
 clear hz4 hp4 hft ho2 ho3 ho4 hB2 hB3 hB4
 go_upto_region 11 with fail
 have hmA : ∀ y,Below w0.heap.size w0 y → Blk y mb ((onA fl ge v0 n0 x0 x1 s v L S P A2 a2).push (.pointer (some ⟨sp,0,none⟩))) 90 := fun y hy => Blk.below hm hy
 have hcA : ∀ y,Blk y mb ((onA fl ge v0 n0 x0 x1 s v L S P A2 a2).push (.pointer (some ⟨sp,0,none⟩))) 90 → Blk y w1.heap.size (symC s id (.slice H S fh)) 94 → y.cell? ⟨mb,17,none⟩ = some (.pointer (some ⟨sp,0,none⟩)) ∧ y.cell? ⟨w1.heap.size,1,none⟩ = some (.int .u32 (V id)) ∧ y.cell? ⟨w1.heap.size,2,none⟩ = some (.slice H S fh) := fun y k1 k2 => ⟨k1.cell rfl,k2.cell rfl,k2.cell rfl⟩
 have hBr : Below w5.heap.size w5 w5.drew := (Below.refl _ _).drew
 have hB5r : Below w0.heap.size w0 w5.drew := below_next hB5 hBr
 have hc0 := hcA w5.drew (hmA _ hB5r) (hz5.below hBr)
 have hc1 : True := trivial
 have hput : ∀ y,Below w0.heap.size w0 y → Calls Tryz.prog 87 #[.pointer (some ⟨sp,0,none⟩),.int .u32 (V id),.slice H S fh] y fun e w' => e = .returned (.int .i64 8) ∧ Below y.heap.size y w' := fun y hy => sput_dup id H fh (l.drop 8) (hSt.below hy) hok hn hn1 hSz (hT.below hy) hz
 go_region_held3 (fun y => y.cell? ⟨mb,17,none⟩ = some (.pointer (some ⟨sp,0,none⟩)) ∧ y.cell? ⟨w1.heap.size,1,none⟩ = some (.int .u32 (V id)) ∧ y.cell? ⟨w1.heap.size,2,none⟩ = some (.slice H S fh))
   (first | (with_reducible exact hc0) | (with_reducible exact hc1))
   ((go_at_call 87; (with_reducible refine (hput _ hB5r).mono ?_); rintro e w6 ⟨rfl,hb6⟩; have hB6 := below_next hB5r hb6; have hc1 := hcA w6 (hmA _ hB6) ((hz5.below hBr).below hb6)))
 all_goals
   go_wp2_with fail
   go_ret
   exact ⟨rfl,hB6⟩
theorem takes_new (d f bb mb B sp wp dd g rb : Nat) (bk : Nat → RB) (Kk : Value) (fl ge v0 : B32) (n0 : Nat) (x0 x1 : Value) (s v : B32) (L S P K : Nat) (A2 : Option Addr) (a2 : Nat) (LA : Option Addr) (nl cl next : Nat) (fls : List UInt8) (er : Nat → Int) (wear : Int) (rows : List (B64 × List UInt8)) (M : MatB) (rank taken : Nat)
   (X : Option Addr) (c : Nat) (l : List UInt8) (id : B32) (w : World) (hd : Blk w d (devC Kk f (some ⟨mb,0,none⟩)) 77) (hm : MemAt w mb (onA fl ge v0 n0 x0 x1 s v L S P A2 a2) (some ⟨sp,0,none⟩))
   (hSt : StAt w B sp wp f bb dd g rb bk ge s K P S L LA nl cl next fls er wear rows M rank taken) (hKe : cnt L S = K) (hok : spOk K P S = true) (hn : K + P ≤ 64) (hn1 : 1 ≤ K + P) (hSz : Sz S) (hL : L ≤ 1000000) (hT : Tab64 w)
   (hr : Rd w X (8 + S) c l) (hse : numB (l.take 4) = s) (hid : numB ((l.drop 4).take 4) = id)
   (h1B : 1 < B) (hfb1 : 1 < f ∧ 1 < bb) (hnx : next ≤ 17) (hnl : nl ≤ 1000) (htk : taken ≤ 1000)
   (hz : (redB M (rowB s K P id,l.drop 8) (K + P)).1 ≠ 0#64) (hrk : rank + 1 < K + P) :
   Calls Tryz.prog 37 #[.pointer (some ⟨d,0,none⟩),.slice X (8 + S : Nat) c] w fun e w' => e = .returned (.int .i64 0) ∧ ∃ bk' LA' cl' M',
     StAt w' B sp wp f bb dd g rb bk' ge s K P S L LA' (nl + 1) cl' (next + 1) (addL fls ge id S next (l.drop 8)) er wear (rows ++ [(rowB s K P id,l.drop 8)]) M' (rank + 1) (taken + 1) ∧
     Blk w' d (devC Kk f (some ⟨mb,0,none⟩)) 77 ∧ MemAt w' mb (onA fl ge v0 n0 x0 x1 s v L S P A2 a2) (some ⟨sp,0,none⟩) ∧ Fr (StoF wp f bb LA dd g rb bk M) w w' ∧ (∀ b,StoF wp f bb LA' dd g rb bk' M' b → StoF wp f bb LA dd g rb bk M b ∨ w.heap.size ≤ b) := by
 have hpl := pload_still d f mb _ (onA fl ge v0 n0 x0 x1 s v L S P A2 a2) (some ⟨sp,0,none⟩) w hd hm rfl
 have hpk := pktparse_all X (8 + S) c l w hr
 have hpe : pktErr (8 + S) = 0 := by
   unfold pktErr
   rw [if_neg (by rcases hSz with rfl | rfl <;> decide),if_neg (by rcases hSz with rfl | rfl <;> decide)]
 have h8 : 8 + S - 8 = S := by omega
 rw [hpe,h8] at hpk
 have hof : ∀ y,Calls Tryz.prog 22 #[.agg #[.int .u32 (V s),.int .u32 (V v),.int .i64 L,.int .i64 S,.int .i64 P,.slice A2 32 a2]] y fun e w' => e = .returned (.tuple #[.agg (parC s K P S),.bool true]) ∧ Below y.heap.size y w' := by
   intro y
   have := of_any s v L S P A2 32 a2 y hL (by rcases hSz with rfl | rfl <;> decide)
   have hmk : manOk L S P = true := by unfold manOk; rw [hKe]; exact hok
   unfold ofC at this
   rw [hmk,if_pos rfl,hKe] at this
   exact this
 have hft : ∀ y (H : Option Addr) (fh : Nat),Calls Tryz.prog 86 #[.agg (symC s id (.slice H S fh)),.agg (parC s K P S)] y fun e w' => e = .returned (.int .i64 0) ∧ Below y.heap.size y w' := by
   intro y H fh
   have := fits_any s id s H S fh K P S y
   have hfe : fitErr s s S K P S = 0 := by simp [fitErr,hok]
   rw [hfe] at this
   exact this
 clear hpe h8
 go_enter Tryz.func37,Tryz.ntmps37
 go_wp2_with fail
 refine hpl.mono ?_
 rintro e w0 ⟨rfl,rfl⟩
 go_wp2_with fail
 refine hpk.mono ?_
 rintro e w1 ⟨cs,H,fh,rfl,hcs,hb1,_⟩
 obtain ⟨rfl,ho1⟩ := hcs (by first | rfl | trivial)
 rw [hse,hid] at *
 have hz1 : Blk (w1.alloc (.cells (symC 0#32 0#32 (.slice none 0 0)) 94)) w1.heap.size (symC 0#32 0#32 (.slice none 0 0)) 94 := Blk.new _ _ _
 have hsz := size94 s id (.slice H S fh)
 have hs1 := hb1.size
 have hB2' : Below w1.heap.size w1 ((w1.alloc (.cells (symC 0#32 0#32 (.slice none 0 0)) 94)).setRow w1.heap.size (symC s id (.slice H S fh))) := below_setRow (below_alloc1 _ _) (Nat.le_refl _) _
 have hB2 : Below w0.heap.size w0 ((w1.alloc (.cells (symC 0#32 0#32 (.slice none 0 0)) 94)).setRow w1.heap.size (symC s id (.slice H S fh))) := below_next hb1 hB2'
 have hz2 := hz1.setRow (symC s id (.slice H S fh))
 go_upto_region 5 with (first
   | ((with_reducible refine at_store ?_); refine wpList_store_row rfl 94 (.tmp 6) (.tmp 19) rfl w1.heap.size (symC s id (.slice H S fh)) rfl rfl 94 (symC 0#32 0#32 (.slice none 0 0)) hz1 hsz rfl (one94 _ _ _ _ _) ?_))
 change Code.wp _ _ _ _ ((w1.alloc (.cells (symC 0#32 0#32 (.slice none 0 0)) 94)).setRow w1.heap.size (symC s id (.slice H S fh)))
 generalize (w1.alloc (.cells (symC 0#32 0#32 (.slice none 0 0)) 94)).setRow w1.heap.size (symC s id (.slice H S fh)) = w2 at *
 have ho2 := ho1.below hB2'
 have hm2 : Blk w2 mb ((onA fl ge v0 n0 x0 x1 s v L S P A2 a2).push (.pointer (some ⟨sp,0,none⟩))) 90 := Blk.below hm hB2
 have c10 := hm2.cell (i := 10) (v := .bool true) rfl
 have c11 := hm2.cell (i := 11) (v := .int .u32 (V s)) rfl
 have c12 := hm2.cell (i := 12) (v := .int .u32 (V v)) rfl
 have c13 := hm2.cell (i := 13) (v := .int .i64 L) rfl
 have c14 := hm2.cell (i := 14) (v := .int .i64 S) rfl
 have c15 := hm2.cell (i := 15) (v := .int .i64 P) rfl
 have c16 := hm2.cell (i := 16) (v := .slice A2 32 a2) rfl
 have hlw1 : w1.heap.size < w2.heap.size := hz2.lt
 clear hz1 hB2' hpl hpk hcs ho1
 go_wp2_with fail
 refine (hof _).mono ?_
 rintro e w3 ⟨rfl,hb3⟩
 clear c10 c11 c12 c13 c14 c15 c16
 have hB3 := below_next hB2 hb3
 have hz3 := hz2.below hb3
 have ho3 := ho2.below hb3
 have hs3 := hb3.size
 have hp3 : Blk (w3.alloc (.cells (parC 0#32 0 0 0) 59)) w3.heap.size (parC 0#32 0 0 0) 59 := Blk.new _ _ _
 have hszp := size59 s K P S
 have hp4 := hp3.setRow (parC s K P S)
 have hB4' : Below w3.heap.size w3 ((w3.alloc (.cells (parC 0#32 0 0 0) 59)).setRow w3.heap.size (parC s K P S)) := below_setRow (below_alloc1 _ _) (Nat.le_refl _) _
 go_upto_region 8 with (first
   | ((with_reducible refine at_store ?_); refine wpList_store_row rfl 59 (.tmp 8) (.tmp 37) rfl w3.heap.size (parC s K P S) rfl rfl 59 (parC 0#32 0 0 0) hp3 hszp rfl (one59 _ _ _ _) ?_))
 change Code.wp _ _ _ _ ((w3.alloc (.cells (parC 0#32 0 0 0) 59)).setRow w3.heap.size (parC s K P S))
 generalize (w3.alloc (.cells (parC 0#32 0 0 0) 59)).setRow w3.heap.size (parC s K P S) = w4 at *
 have hB4 := below_next hB3 hB4'
 have hz4 := hz3.below hB4'
 have ho4 := ho3.below hB4'
 have hs4 := hB4'.size
 clear hp3 hB4' hz3 hz2 hof
 go_wp2_with (first
   | ((with_reducible refine at_load ?_); refine wpList_load_row rfl 94 (.tmp 6) rfl w1.heap.size rfl 94 (symC s id (.slice H S fh)) (0,0) _ hz4 Tryz.underlying94 rfl hsz ?_)
   | ((with_reducible refine at_load ?_); refine wpList_load_row rfl 59 (.tmp 8) rfl w3.heap.size rfl 59 (parC s K P S) (0,0) _ hp4 Tryz.underlying59 rfl hszp ?_))
 refine (hft _ _ _).mono ?_
 rintro e w5 ⟨rfl,hb5⟩
 have hB5 := below_next hB4 hb5
 have hz5 := hz4.below hb5
 have ho5 := (ho4.below hb5).rd
 have hs5 := hb5.size
 have hH : ∀ ad,H = some ad → w0.heap.size ≤ ad.block := by
   intro ad had
   subst had
   obtain ⟨gq,hq,hq2,_⟩ := ho4.form (by rcases hSz with rfl | rfl <;> decide)
   have hq3 : ad = ⟨gq,0,none⟩ := by simpa using hq
   rw [hq3]; exact hq2
 clear hz4 hp4 hft ho2 ho3 ho4 hB2 hB3 hB4
 go_upto_region 11 with fail
 have hmA : ∀ y,Below w0.heap.size w0 y → Blk y mb ((onA fl ge v0 n0 x0 x1 s v L S P A2 a2).push (.pointer (some ⟨sp,0,none⟩))) 90 := fun y hy => Blk.below hm hy
 have hcA : ∀ y,Blk y mb ((onA fl ge v0 n0 x0 x1 s v L S P A2 a2).push (.pointer (some ⟨sp,0,none⟩))) 90 → Blk y w1.heap.size (symC s id (.slice H S fh)) 94 → y.cell? ⟨mb,17,none⟩ = some (.pointer (some ⟨sp,0,none⟩)) ∧ y.cell? ⟨w1.heap.size,1,none⟩ = some (.int .u32 (V id)) ∧ y.cell? ⟨w1.heap.size,2,none⟩ = some (.slice H S fh) := fun y k1 k2 => ⟨k1.cell rfl,k2.cell rfl,k2.cell rfl⟩
 have hBr : Below w5.heap.size w5 w5.drew := (Below.refl _ _).drew
 have hB5r : Below w0.heap.size w0 w5.drew := below_next hB5 hBr
 have hc0 := hcA w5.drew (hmA _ hB5r) (hz5.below hBr)
 have hc1 : True := trivial
 have hlt0 := hSt.lt
 have hput : ∀ y,Below w0.heap.size w0 y → Rd y H S fh (l.drop 8) → Calls Tryz.prog 87 #[.pointer (some ⟨sp,0,none⟩),.int .u32 (V id),.slice H S fh] y _ := fun y hy hyr => sput_new id H fh (l.drop 8) (hSt.below hy) hok hn hn1 hSz (hT.below hy) h1B hfb1 hyr (fun ad had => by
   have h1 := hH ad had
   exact ⟨fun k => by have := hlt0 _ (.inl k); omega,fun k => by have := hlt0 _ (.inr (.inl k)); omega,fun k => by have := hlt0 _ (.inr (.inr (.inl k))); omega,fun k => by have := hlt0 _ (.inr (.inr (.inr (.inl k)))); omega⟩) hnx hnl htk hz
 have hm5 := hmA _ hB5r
 have hd5 := hd.below hB5r
 have hz5r := hz5.below hBr
 have hnm := (hSt.below hB5r).not hm5 (by decide)
 have hndv := (hSt.below hB5r).not hd5 (by decide)
 have hnb : ¬ StoF wp f bb LA dd g rb bk M w1.heap.size := fun k => by have := hlt0 _ k; omega
 go_region_held3 (fun y => y.cell? ⟨mb,17,none⟩ = some (.pointer (some ⟨sp,0,none⟩)) ∧ y.cell? ⟨w1.heap.size,1,none⟩ = some (.int .u32 (V id)) ∧ y.cell? ⟨w1.heap.size,2,none⟩ = some (.slice H S fh))
   (first | (with_reducible exact hc0) | (with_reducible exact hc1))
   ((go_at_call 87; (with_reducible refine (hput _ hB5r (ho5.below hBr)).mono ?_); rintro e w6 ⟨rfl,bk',LA',cl',M',hSt6,hF6,hsub6⟩; have hm6 := hm5.fr hF6 hnm; have hd6 := hd5.fr hF6 hndv; have hc1 := hcA w6 hm6 (hz5r.fr hF6 hnb)))
 all_goals
   have hrd5 := ho5
   have hFw : Fr (StoF wp f bb LA dd g rb bk M) w0 w6 := (Fr.of hB5r).trans hF6
   have c17 := hm6.cell (i := 17) (v := .pointer (some ⟨sp,0,none⟩)) rfl
   have hsz5 := hB5r.size
   have hnd := sneeds_any hSt6 hok hn
   clear hc0 hc1 hcA hmA hput
   have hnz : ((((K + P : Nat) : Int) - ((rank + 1 : Nat) : Int)) == 0) = false := by simp; omega
   obtain ⟨N,hN⟩ : ∃ N : Int,((K + P : Nat) : Int) - ((rank + 1 : Nat) : Int) = N := ⟨_,rfl⟩
   rw [hN] at hnd hnz
   clear hN
   go_wp2_with fail
   refine hnd.mono ?_
   rintro e w7 ⟨rfl,hb7⟩
   go_wp2_with fail
   go_ret
   refine ⟨rfl,bk',LA',cl',M',hSt6.below hb7,hd6.below hb7,Blk.below hm6 hb7,hFw.next hb7,fun b hb => ?_⟩
   rcases hsub6 b hb with k | k
   · exact .inl k
   · exact .inr (by omega)
theorem takes_full (d f bb mb B sp wp dd g rb : Nat) (bk : Nat → RB) (Kk : Value) (fl ge v0 : B32) (n0 : Nat) (x0 x1 : Value) (s v : B32) (L S P K : Nat) (A2 : Option Addr) (a2 : Nat) (LA : Option Addr) (nl cl next : Nat) (fls : List UInt8) (er : Nat → Int) (wear : Int) (rows : List (B64 × List UInt8)) (M : MatB) (rank taken : Nat)
   (X : Option Addr) (c : Nat) (l : List UInt8) (id : B32) (w : World) (hd : Blk w d (devC Kk f (some ⟨mb,0,none⟩)) 77) (hm : MemAt w mb (onA fl ge v0 n0 x0 x1 s v L S P A2 a2) (some ⟨sp,0,none⟩))
   (hSt : StAt w B sp wp f bb dd g rb bk ge s K P S L LA nl cl next fls er wear rows M rank taken) (hKe : cnt L S = K) (hok : spOk K P S = true) (hn : K + P ≤ 64) (hn1 : 1 ≤ K + P) (hSz : Sz S) (hL : L ≤ 1000000) (hT : Tab64 w)
   (hr : Rd w X (8 + S) c l) (hse : numB (l.take 4) = s) (hid : numB ((l.drop 4).take 4) = id)
   (h1B : 1 < B) (hfb1 : 1 < f ∧ 1 < bb) (hnx : next ≤ 17) (hnl : nl ≤ 1000) (htk : taken ≤ 1000)
   (hz : (redB M (rowB s K P id,l.drop 8) (K + P)).1 ≠ 0#64) (hrk : rank + 1 = K + P) (Q : Int → World → Prop)
   (hfin : ∀ w7 bk' LA' cl' M',StAt w7 B sp wp f bb dd g rb bk' ge s K P S L LA' (nl + 1) cl' (next + 1) (addL fls ge id S next (l.drop 8)) er wear (rows ++ [(rowB s K P id,l.drop 8)]) M' (K + P) (taken + 1) →
     Blk w7 d (devC Kk f (some ⟨mb,0,none⟩)) 77 → MemAt w7 mb (onA fl ge v0 n0 x0 x1 s v L S P A2 a2) (some ⟨sp,0,none⟩) → Fr (StoF wp f bb LA dd g rb bk M) w w7 → Calls Tryz.prog 89 #[.pointer (some ⟨d,0,none⟩)] w7 fun e w' => ∃ r,e = .returned (.int .i64 r) ∧ Q r w') :
   Calls Tryz.prog 37 #[.pointer (some ⟨d,0,none⟩),.slice X (8 + S : Nat) c] w fun e w' => ∃ r,e = .returned (.int .i64 r) ∧ Q r w' := by
 have hpl := pload_still d f mb _ (onA fl ge v0 n0 x0 x1 s v L S P A2 a2) (some ⟨sp,0,none⟩) w hd hm rfl
 have hpk := pktparse_all X (8 + S) c l w hr
 have hpe : pktErr (8 + S) = 0 := by
   unfold pktErr
   rw [if_neg (by rcases hSz with rfl | rfl <;> decide),if_neg (by rcases hSz with rfl | rfl <;> decide)]
 have h8 : 8 + S - 8 = S := by omega
 rw [hpe,h8] at hpk
 have hof : ∀ y,Calls Tryz.prog 22 #[.agg #[.int .u32 (V s),.int .u32 (V v),.int .i64 L,.int .i64 S,.int .i64 P,.slice A2 32 a2]] y fun e w' => e = .returned (.tuple #[.agg (parC s K P S),.bool true]) ∧ Below y.heap.size y w' := by
   intro y
   have := of_any s v L S P A2 32 a2 y hL (by rcases hSz with rfl | rfl <;> decide)
   have hmk : manOk L S P = true := by unfold manOk; rw [hKe]; exact hok
   unfold ofC at this
   rw [hmk,if_pos rfl,hKe] at this
   exact this
 have hft : ∀ y (H : Option Addr) (fh : Nat),Calls Tryz.prog 86 #[.agg (symC s id (.slice H S fh)),.agg (parC s K P S)] y fun e w' => e = .returned (.int .i64 0) ∧ Below y.heap.size y w' := by
   intro y H fh
   have := fits_any s id s H S fh K P S y
   have hfe : fitErr s s S K P S = 0 := by simp [fitErr,hok]
   rw [hfe] at this
   exact this
 clear hpe h8
 go_enter Tryz.func37,Tryz.ntmps37
 go_wp2_with fail
 refine hpl.mono ?_
 rintro e w0 ⟨rfl,rfl⟩
 go_wp2_with fail
 refine hpk.mono ?_
 rintro e w1 ⟨cs,H,fh,rfl,hcs,hb1,_⟩
 obtain ⟨rfl,ho1⟩ := hcs (by first | rfl | trivial)
 rw [hse,hid] at *
 have hz1 : Blk (w1.alloc (.cells (symC 0#32 0#32 (.slice none 0 0)) 94)) w1.heap.size (symC 0#32 0#32 (.slice none 0 0)) 94 := Blk.new _ _ _
 have hsz := size94 s id (.slice H S fh)
 have hs1 := hb1.size
 have hB2' : Below w1.heap.size w1 ((w1.alloc (.cells (symC 0#32 0#32 (.slice none 0 0)) 94)).setRow w1.heap.size (symC s id (.slice H S fh))) := below_setRow (below_alloc1 _ _) (Nat.le_refl _) _
 have hB2 : Below w0.heap.size w0 ((w1.alloc (.cells (symC 0#32 0#32 (.slice none 0 0)) 94)).setRow w1.heap.size (symC s id (.slice H S fh))) := below_next hb1 hB2'
 have hz2 := hz1.setRow (symC s id (.slice H S fh))
 go_upto_region 5 with (first
   | ((with_reducible refine at_store ?_); refine wpList_store_row rfl 94 (.tmp 6) (.tmp 19) rfl w1.heap.size (symC s id (.slice H S fh)) rfl rfl 94 (symC 0#32 0#32 (.slice none 0 0)) hz1 hsz rfl (one94 _ _ _ _ _) ?_))
 change Code.wp _ _ _ _ ((w1.alloc (.cells (symC 0#32 0#32 (.slice none 0 0)) 94)).setRow w1.heap.size (symC s id (.slice H S fh)))
 generalize (w1.alloc (.cells (symC 0#32 0#32 (.slice none 0 0)) 94)).setRow w1.heap.size (symC s id (.slice H S fh)) = w2 at *
 have ho2 := ho1.below hB2'
 have hm2 : Blk w2 mb ((onA fl ge v0 n0 x0 x1 s v L S P A2 a2).push (.pointer (some ⟨sp,0,none⟩))) 90 := Blk.below hm hB2
 have c10 := hm2.cell (i := 10) (v := .bool true) rfl
 have c11 := hm2.cell (i := 11) (v := .int .u32 (V s)) rfl
 have c12 := hm2.cell (i := 12) (v := .int .u32 (V v)) rfl
 have c13 := hm2.cell (i := 13) (v := .int .i64 L) rfl
 have c14 := hm2.cell (i := 14) (v := .int .i64 S) rfl
 have c15 := hm2.cell (i := 15) (v := .int .i64 P) rfl
 have c16 := hm2.cell (i := 16) (v := .slice A2 32 a2) rfl
 have hlw1 : w1.heap.size < w2.heap.size := hz2.lt
 clear hz1 hB2' hpl hpk hcs ho1
 go_wp2_with fail
 refine (hof _).mono ?_
 rintro e w3 ⟨rfl,hb3⟩
 clear c10 c11 c12 c13 c14 c15 c16
 have hB3 := below_next hB2 hb3
 have hz3 := hz2.below hb3
 have ho3 := ho2.below hb3
 have hs3 := hb3.size
 have hp3 : Blk (w3.alloc (.cells (parC 0#32 0 0 0) 59)) w3.heap.size (parC 0#32 0 0 0) 59 := Blk.new _ _ _
 have hszp := size59 s K P S
 have hp4 := hp3.setRow (parC s K P S)
 have hB4' : Below w3.heap.size w3 ((w3.alloc (.cells (parC 0#32 0 0 0) 59)).setRow w3.heap.size (parC s K P S)) := below_setRow (below_alloc1 _ _) (Nat.le_refl _) _
 go_upto_region 8 with (first
   | ((with_reducible refine at_store ?_); refine wpList_store_row rfl 59 (.tmp 8) (.tmp 37) rfl w3.heap.size (parC s K P S) rfl rfl 59 (parC 0#32 0 0 0) hp3 hszp rfl (one59 _ _ _ _) ?_))
 change Code.wp _ _ _ _ ((w3.alloc (.cells (parC 0#32 0 0 0) 59)).setRow w3.heap.size (parC s K P S))
 generalize (w3.alloc (.cells (parC 0#32 0 0 0) 59)).setRow w3.heap.size (parC s K P S) = w4 at *
 have hB4 := below_next hB3 hB4'
 have hz4 := hz3.below hB4'
 have ho4 := ho3.below hB4'
 have hs4 := hB4'.size
 clear hp3 hB4' hz3 hz2 hof
 go_wp2_with (first
   | ((with_reducible refine at_load ?_); refine wpList_load_row rfl 94 (.tmp 6) rfl w1.heap.size rfl 94 (symC s id (.slice H S fh)) (0,0) _ hz4 Tryz.underlying94 rfl hsz ?_)
   | ((with_reducible refine at_load ?_); refine wpList_load_row rfl 59 (.tmp 8) rfl w3.heap.size rfl 59 (parC s K P S) (0,0) _ hp4 Tryz.underlying59 rfl hszp ?_))
 refine (hft _ _ _).mono ?_
 rintro e w5 ⟨rfl,hb5⟩
 have hB5 := below_next hB4 hb5
 have hz5 := hz4.below hb5
 have ho5 := (ho4.below hb5).rd
 have hs5 := hb5.size
 have hH : ∀ ad,H = some ad → w0.heap.size ≤ ad.block := by
   intro ad had
   subst had
   obtain ⟨gq,hq,hq2,_⟩ := ho4.form (by rcases hSz with rfl | rfl <;> decide)
   have hq3 : ad = ⟨gq,0,none⟩ := by simpa using hq
   rw [hq3]; exact hq2
 clear hz4 hp4 hft ho2 ho3 ho4 hB2 hB3 hB4
 go_upto_region 11 with fail
 have hmA : ∀ y,Below w0.heap.size w0 y → Blk y mb ((onA fl ge v0 n0 x0 x1 s v L S P A2 a2).push (.pointer (some ⟨sp,0,none⟩))) 90 := fun y hy => Blk.below hm hy
 have hcA : ∀ y,Blk y mb ((onA fl ge v0 n0 x0 x1 s v L S P A2 a2).push (.pointer (some ⟨sp,0,none⟩))) 90 → Blk y w1.heap.size (symC s id (.slice H S fh)) 94 → y.cell? ⟨mb,17,none⟩ = some (.pointer (some ⟨sp,0,none⟩)) ∧ y.cell? ⟨w1.heap.size,1,none⟩ = some (.int .u32 (V id)) ∧ y.cell? ⟨w1.heap.size,2,none⟩ = some (.slice H S fh) := fun y k1 k2 => ⟨k1.cell rfl,k2.cell rfl,k2.cell rfl⟩
 have hBr : Below w5.heap.size w5 w5.drew := (Below.refl _ _).drew
 have hB5r : Below w0.heap.size w0 w5.drew := below_next hB5 hBr
 have hc0 := hcA w5.drew (hmA _ hB5r) (hz5.below hBr)
 have hc1 : True := trivial
 have hlt0 := hSt.lt
 have hput : ∀ y,Below w0.heap.size w0 y → Rd y H S fh (l.drop 8) → Calls Tryz.prog 87 #[.pointer (some ⟨sp,0,none⟩),.int .u32 (V id),.slice H S fh] y _ := fun y hy hyr => sput_new id H fh (l.drop 8) (hSt.below hy) hok hn hn1 hSz (hT.below hy) h1B hfb1 hyr (fun ad had => by
   have h1 := hH ad had
   exact ⟨fun k => by have := hlt0 _ (.inl k); omega,fun k => by have := hlt0 _ (.inr (.inl k)); omega,fun k => by have := hlt0 _ (.inr (.inr (.inl k))); omega,fun k => by have := hlt0 _ (.inr (.inr (.inr (.inl k)))); omega⟩) hnx hnl htk hz
 have hm5 := hmA _ hB5r
 have hd5 := hd.below hB5r
 have hz5r := hz5.below hBr
 have hnm := (hSt.below hB5r).not hm5 (by decide)
 have hndv := (hSt.below hB5r).not hd5 (by decide)
 have hnb : ¬ StoF wp f bb LA dd g rb bk M w1.heap.size := fun k => by have := hlt0 _ k; omega
 go_region_held3 (fun y => y.cell? ⟨mb,17,none⟩ = some (.pointer (some ⟨sp,0,none⟩)) ∧ y.cell? ⟨w1.heap.size,1,none⟩ = some (.int .u32 (V id)) ∧ y.cell? ⟨w1.heap.size,2,none⟩ = some (.slice H S fh))
   (first | (with_reducible exact hc0) | (with_reducible exact hc1))
   ((go_at_call 87; (with_reducible refine (hput _ hB5r (ho5.below hBr)).mono ?_); rintro e w6 ⟨rfl,bk',LA',cl',M',hSt6,hF6,hsub6⟩; have hm6 := hm5.fr hF6 hnm; have hd6 := hd5.fr hF6 hndv; have hc1 := hcA w6 hm6 (hz5r.fr hF6 hnb)))
 all_goals
   have hrd5 := ho5
   have hFw : Fr (StoF wp f bb LA dd g rb bk M) w0 w6 := (Fr.of hB5r).trans hF6
   have c17 := hm6.cell (i := 17) (v := .pointer (some ⟨sp,0,none⟩)) rfl
   have hsz5 := hB5r.size
   have hnd := sneeds_any hSt6 hok hn
   clear hc0 hc1 hcA hmA hput
   rw [hrk] at hSt6 hnd
   have hnz : ((K + P : Nat) : Int) - ((K + P : Nat) : Int) = 0 := by omega
   rw [hnz] at hnd
   clear hnz
   go_wp2_with fail
   refine hnd.mono ?_
   rintro e w7 ⟨rfl,hb7⟩
   have hf := hfin w7 bk' LA' cl' M' (hSt6.below hb7) (hd6.below hb7) (Blk.below hm6 hb7) (hFw.next hb7)
   go_wp2_with fail
   refine hf.mono ?_
   rintro e w8 ⟨r,rfl,hq⟩
   go_wp2_with fail
   go_ret
   exact ⟨r,rfl,hq⟩
section
variable {P : Program} {ops : Array Oper} {Q : Exit → Act → World → Prop} {md : Region.Mode} {S : World → Prop}
theorem reg_two (i j : Nat) {fuel : Nat} {listed : Array Bool} {a : Act} {w : World} (hr : Region.ready md ops listed = [i,j])
   (h1 : wpOp P ops Q i (fun a' w' => S w' ∧ wpAnyH P md ops Q S fuel (listed.setIfInBounds i true) a' w') a w)
   (h2 : wpOp P ops Q j (fun a' w' => S w' ∧ wpAnyH P md ops Q S fuel (listed.setIfInBounds j true) a' w') a w) : wpAnyH P md ops Q S (fuel + 1) listed a w := by
 refine wpAnyH_all hr (by simp) fun k hk => ?_
 simp only [List.mem_cons,List.not_mem_nil,or_false] at hk
 rcases hk with rfl | rfl
 · exact h1
 · exact h2
theorem reg_op {i : Nat} {oi : Oper} {K : Act → World → Prop} {a : Act} {w : World} (hi : ops[i]? = some oi) (hw : Region.wanted oi (yielded ops a.tmps) = true)
   (h : oi.wp P a w K Q) : wpOp P ops Q i K a w := by
 unfold wpOp
 simp only [hi,hw,if_true]
 exact .inl h
theorem reg_store {i : Nat} (ty : TypeId) (x y : Operand) (g : Nat) (cells old : Array Value) (t : TypeId) {oi : Oper} {K : Act → World → Prop} {a : Act} {w : World} (hi : ops[i]? = some oi) (hd : oi.dst = none) (hw : Region.wanted oi (yielded ops a.tmps) = true) (ho : oi.op = .store ty x y)
   (hx : a.eval x = .pointer (some ⟨g,0,none⟩)) (hy : a.eval y = .agg cells) (hg : w.heap[g]? = some (.cells old t (0,0))) (hsz : (P.info? ty).map (·.size) = some cells.size)
   (hold : old.size = cells.size) (h1 : cells.all (·.oneCell') = true) (h : K a (w.setRow g cells)) : wpOp P ops Q i K a w := by
 refine reg_op hi hw (wp_store_row ty x y ho g cells hx hy t old hg hsz hold h1 ?_)
 rw [hd]
 exact h
end
def Shp (a : Array Value) : Prop := ∃ (a0 a1 a2 a3 a4 a5 : Int) (A6 : Option Addr) (n6 k6 : Nat) (a7 a8 : Int) (A9 : Option Addr) (n9 k9 : Nat) (a10 : Bool) (a11 a12 a13 a14 a15 : Int) (A16 : Option Addr) (n16 k16 : Nat),a = #[Value.int .i64 a0,Value.int .i64 a1,Value.int .u32 a2,Value.int .u32 a3,Value.int .u32 a4,Value.int .i64 a5,Value.slice A6 n6 k6,Value.int .u32 a7,Value.int .i64 a8,Value.slice A9 n9 k9,Value.bool a10,Value.int .u32 a11,Value.int .u32 a12,Value.int .i64 a13,Value.int .i64 a14,Value.int .i64 a15,Value.slice A16 n16 k16]
theorem Shp.size {a : Array Value} (h : Shp a) : (Tryz.prog.info? 46).map (·.size) = some a.size := by
 obtain ⟨a0,a1,a2,a3,a4,a5,A6,n6,k6,a7,a8,A9,n9,k9,a10,a11,a12,a13,a14,a15,A16,n16,k16,rfl⟩ := h
 kernel_rfl
theorem Shp.one {a : Array Value} (h : Shp a) : a.all (·.oneCell') = true := by
 obtain ⟨a0,a1,a2,a3,a4,a5,A6,n6,k6,a7,a8,A9,n9,k9,a10,a11,a12,a13,a14,a15,A16,n16,k16,rfl⟩ := h
 simp [Value.oneCell']
theorem Shp.old {a : Array Value} (h : Shp a) : stZ.size = a.size := by
 obtain ⟨a0,a1,a2,a3,a4,a5,A6,n6,k6,a7,a8,A9,n9,k9,a10,a11,a12,a13,a14,a15,A16,n16,k16,rfl⟩ := h
 rfl
theorem info46_17 : (Tryz.prog.info? 46).map (·.size) = some 17 := by kernel_rfl
theorem hears_gen (E : Int) (R R2 : Array Value → World → Prop) (Q : Int → World → Prop) (d f mb : Nat) (kA : Option Addr) (kn kc : Nat) (key : List UInt8) (X : Option Addr) (m c : Nat) (l : List UInt8) (st : Array Value) (lp : Option Addr) (w : World)
   (hd : Blk w d (devC (.slice kA kn kc) f (some ⟨mb,0,none⟩)) 77) (hm : MemAt w mb st lp) (hs : st.size = 17) (hk : Rd w kA kn kc key) (hkn : kn ≤ 64) (hr : Rd w X m c l) (hgood : manErr key l = 0)
   (hadm : ∀ H fh y,Below w.heap.size w y → Rd y H 32 fh ((l.take 44).drop 12) → Calls Tryz.prog 83 #[.agg st,.agg (manC (mS (l.take 44)) (mV (l.take 44)) (mL (l.take 44)) (mZ (l.take 44)) (mP (l.take 44)) (.slice H 32 fh))] y fun e w' => ∃ st' : Array Value,Shp st' ∧ e = .returned (.tuple #[.agg st',.int .i64 E]) ∧ R st' w' ∧ Below y.heap.size y w')
   (hRb : ∀ a y y',R a y → Below y.heap.size y y' → R a y') (hRf : ∀ a g y y',R a y → Blk y g stZ 46 → Fr (· = g) y y' → R a y')
   (hE : E ≠ 0 → ∀ y,Below w.heap.size w y → Q E y)
   (hkeep : E = 0 → ∀ y a,R a y → Below w.heap.size w y → Calls Tryz.prog 28 #[.pointer (some ⟨d,0,none⟩),.agg a,.pointer none] y fun e w' => e = .returned (.int .i64 0) ∧ R2 a w' ∧ Fr (fun b => b < w.heap.size) y w')
   (hopen : E = 0 → ∀ y a,R2 a y → Calls Tryz.prog 84 #[.pointer (some ⟨d,0,none⟩),.agg a] y fun e w' => e = .returned (.int .i64 0) ∧ Q 0 w') :
   Calls Tryz.prog 36 #[.pointer (some ⟨d,0,none⟩),.slice X m c] w fun e w' => ∃ r,e = .returned (.int .i64 r) ∧ Q r w' := by
 have ck := hd.cell (i := 0) (v := .slice kA kn kc) rfl
 have hmp := fun w hk hr => manparse_all kA X kn kc m c key l w hk hkn hr
 rw [hgood] at hmp
 obtain ⟨s,hs1⟩ : ∃ s,mS (l.take 44) = s := ⟨_,rfl⟩
 obtain ⟨v,hv1⟩ : ∃ v,mV (l.take 44) = v := ⟨_,rfl⟩
 obtain ⟨L,hL1⟩ : ∃ L,mL (l.take 44) = L := ⟨_,rfl⟩
 obtain ⟨S,hS1⟩ : ∃ S,mZ (l.take 44) = S := ⟨_,rfl⟩
 obtain ⟨Pp,hP1⟩ : ∃ Pp,mP (l.take 44) = Pp := ⟨_,rfl⟩
 obtain ⟨hh,hh1⟩ : ∃ hh,(l.take 44).drop 12 = hh := ⟨_,rfl⟩
 simp only [hs1,hv1,hL1,hS1,hP1,hh1] at hmp hadm
 clear hs1 hv1 hL1 hS1 hP1 hh1 hgood
 go_enter Tryz.func36,Tryz.ntmps36
 go_wp2_with fail
 refine (hmp _ hk hr).mono ?_
 rintro e w1 ⟨cs,H,fh,rfl,hcs,hb1,-⟩
 obtain ⟨rfl,ho1⟩ := hcs trivial
 have hz1 : Blk (w1.alloc (.cells (manC 0#32 0#32 0 0 0 (.slice none 0 0)) 44)) w1.heap.size (manC 0#32 0#32 0 0 0 (.slice none 0 0)) 44 := Blk.new _ _ _
 have hsz := size44 s v L S Pp (.slice H 32 fh)
 have hs1 := hb1.size
 have hB2 : Below w.heap.size w ((w1.alloc (.cells (manC 0#32 0#32 0 0 0 (.slice none 0 0)) 44)).setRow w1.heap.size (manC s v L S Pp (.slice H 32 fh))) := below_setRow (hb1.alloc hs1 _) hs1 _
 have hB12 : Below w1.heap.size w1 ((w1.alloc (.cells (manC 0#32 0#32 0 0 0 (.slice none 0 0)) 44)).setRow w1.heap.size (manC s v L S Pp (.slice H 32 fh))) := below_setRow (below_alloc1 _ _) (Nat.le_refl _) _
 have hm2 := hz1.setRow (manC s v L S Pp (.slice H 32 fh))
 go_upto_region 3 with (first
   | ((with_reducible refine at_store ?_); refine wpList_store_row rfl 44 (.tmp 5) (.tmp 16) rfl w1.heap.size (manC s v L S Pp (.slice H 32 fh)) rfl rfl 44 (manC 0#32 0#32 0 0 0 (.slice none 0 0)) hz1 hsz rfl (one44 _ _ _ _ _ _ _ _) ?_))
 change Code.wp _ _ _ _ ((w1.alloc (.cells (manC 0#32 0#32 0 0 0 (.slice none 0 0)) 44)).setRow w1.heap.size (manC s v L S Pp (.slice H 32 fh)))
 have ho2 := ho1.rd.below hB12
 obtain ⟨gm,hgm⟩ : ∃ gm,gm = w1.heap.size := ⟨_,rfl⟩
 have hgl : w.heap.size ≤ gm := by omega
 have hm2' : Blk ((w1.alloc (.cells (manC 0#32 0#32 0 0 0 (.slice none 0 0)) 44)).setRow w1.heap.size (manC s v L S Pp (.slice H 32 fh))) gm (manC s v L S Pp (.slice H 32 fh)) 44 := by rw [hgm]; exact hm2
 generalize (w1.alloc (.cells (manC 0#32 0#32 0 0 0 (.slice none 0 0)) 44)).setRow w1.heap.size (manC s v L S Pp (.slice H 32 fh)) = w2 at *
 rw [← hgm]
 have hd2 := hd.below hB2
 have hmm2 : Blk w2 mb (st.push (.pointer lp)) 90 := hm.below hB2
 have hs2 := hB2.size
 clear hz1 hm2 hb1 hB12 hmp hk ck hcs hr ho1 hgm
 have hpl := fun (y : World) (hy : Below w2.heap.size w2 y) => pload_still d f mb _ _ lp y (hd2.below hy) (hmm2.below hy) hs
 have hs46 : (Tryz.prog.info? 46).map (·.size) = some st.size := by rw [hs]; exact info46_17
 have hpre : ∀ (j : Nat) v,st[j]? = some v → (st.push (.pointer lp))[j]? = some v := fun j v hj => by
   have hlt : j < st.size := (Array.getElem?_eq_some_iff.1 hj).1
   rw [Array.getElem?_push_lt hlt]
   rw [Array.getElem?_eq_getElem hlt] at hj
   exact hj
 have hadm2 : ∀ y,Below w2.heap.size w2 y → Calls Tryz.prog 83 #[.agg st,.agg (manC s v L S Pp (.slice H 32 fh))] y fun e w' => ∃ a,e = .returned (.tuple #[.agg a,.int .i64 E]) ∧ Shp a ∧ R a w' ∧ Below y.heap.size y w' := fun y hy => by
   refine (hadm H fh y (below_next hB2 hy) (ho2.below hy)).mono ?_
   rintro e w' ⟨st',hst',rfl,hR,hb⟩
   exact ⟨st',rfl,hst',hR,hb⟩
 clear hadm
 go_cut [7,6] (fun p q wx => ∃ (g : Nat) (a : Array Value),p = .pointer (some ⟨g,0,none⟩) ∧ q = .int .i64 E ∧ Shp a ∧ Blk wx g a 46 ∧ R a wx ∧ w2.heap.size ≤ g ∧ Below w2.heap.size w2 wx)
 case first =>
   have hS : Below w2.heap.size w2 w2.drew := (Below.refl _ _).drew
   refine wp_region_noPanic ?_
   refine wp_region_held_drew (S := fun x => Below w2.heap.size w2 x) (by kernel_rfl) hS (fun _ => ?_)
   refine reg_take 0 (some 22) (.pointer (some ⟨d,0,none⟩)) rfl rfl (by kernel_rfl) (by kernel_rfl) (by kernel_rfl) (fun _ _ _ _ h => h) (by kernel_rfl) (fun _ _ => by kernel_rfl) hS ?_
   refine reg_take 1 (some 23) (.pointer (some ⟨d,0,none⟩)) rfl rfl (by kernel_rfl) (by kernel_rfl) (by kernel_rfl) (fun _ _ _ _ h => h) (by kernel_rfl) (fun _ _ => by kernel_rfl) hS ?_
   refine reg_take 2 (some 24) (.pointer (some ⟨d,2,none⟩)) rfl rfl (by kernel_rfl) (by kernel_rfl) (by kernel_rfl) (fun _ _ _ _ h => h) (by kernel_rfl) (fun _ _ => by kernel_rfl) hS ?_
   refine reg_load 7 (some 29) 44 (.tmp 5) gm (manC s v L S Pp (.slice H 32 fh)) 44 rfl rfl rfl (by kernel_rfl) (by kernel_rfl) (by kernel_rfl) (fun _ _ _ _ h => h) (by kernel_rfl) (by kernel_rfl) _ (fun y hy => hm2'.below hy) (fun _ _ h => h) _ Tryz.underlying44 rfl hsz hS ?_
   refine reg_two 3 12 (by kernel_rfl) ?_ ?_
   · refine reg_call (some 25) 33 #[.pointer (some ⟨d,2,none⟩)] rfl rfl rfl (by kernel_rfl) ((hpl _ hS).mono ?_)
     rintro e y33 ⟨rfl,rfl⟩
     refine ⟨_,rfl,hS,?_⟩
     refine reg_take 4 (some 26) (.pointer (some ⟨mb,0,none⟩)) rfl rfl (by kernel_rfl) (by kernel_rfl) (by kernel_rfl) (fun _ _ _ _ h => h) (by kernel_rfl) (fun _ _ => by kernel_rfl) hS ?_
     refine reg_take 5 (some 27) (.pointer (some ⟨mb,0,none⟩)) rfl rfl (by kernel_rfl) (by kernel_rfl) (by kernel_rfl) (fun _ _ _ _ h => h) (by kernel_rfl) (fun _ _ => by kernel_rfl) hS ?_
     refine reg_load 6 (some 28) 46 (.tmp 27) mb st 90 rfl rfl rfl (by kernel_rfl) (by kernel_rfl) (by kernel_rfl) (fun _ _ _ _ h => h) (by kernel_rfl) (by kernel_rfl) _ (fun y hy => hmm2.below hy) hpre _ Tryz.underlying46 rfl hs46 hS ?_
     refine reg_two 8 12 (by kernel_rfl) ?_ ?_
     · refine reg_call (some 30) 83 #[.agg st,.agg (manC s v L S Pp (.slice H 32 fh))] rfl rfl (by kernel_rfl) (by kernel_rfl) ((hadm2 _ hS).mono ?_)
       rintro e w3 ⟨a,rfl,ha3,hR3,hb3⟩
       replace hS := below_next hS hb3
       refine ⟨_,rfl,hS,?_⟩
       refine reg_take 9 (some 21) (.tuple #[.agg a,.int .i64 E]) rfl rfl (by kernel_rfl) (by kernel_rfl) (by kernel_rfl) (fun _ _ _ _ h => h) (by kernel_rfl) (fun _ _ => by kernel_rfl) hS ?_
       refine reg_take 10 (some 31) (.agg a) rfl rfl (by kernel_rfl) (by kernel_rfl) (by kernel_rfl) (fun _ _ _ _ h => h) (by kernel_rfl) (fun _ _ => by kernel_rfl) hS ?_
       refine reg_take 11 (some 32) (.int .i64 E) rfl rfl (by kernel_rfl) (by kernel_rfl) (by kernel_rfl) (fun _ _ _ _ h => h) (by kernel_rfl) (fun _ _ => by kernel_rfl) hS ?_
       refine reg_one 12 (by kernel_rfl) ?_
       refine reg_val (some 7) (.pointer (some ⟨w3.heap.size,0,none⟩)) (World.alloc w3 (.cells stZ 46)) rfl rfl (by kernel_rfl) (by kernel_rfl) ?_
       have hS0 := hS
       replace hS := below_next hS (below_alloc1 _ (.cells stZ 46))
       refine ⟨hS,?_⟩
       have hsz3 := hS0.size
       refine reg_one 13 (by kernel_rfl) ?_
       refine reg_store 46 (.tmp 7) (.tmp 31) (w3.heap.size) a stZ 46 rfl rfl (by kernel_rfl) rfl (by kernel_rfl) (by kernel_rfl) (Blk.new w3 stZ 46) ha3.size ha3.old ha3.one ⟨below_setRow hS (by omega) a,?_⟩
       have hS := below_setRow hS (g := w3.heap.size) (by omega) a
       refine reg_take 14 (some 6) (.int .i64 E) rfl rfl (by kernel_rfl) (by kernel_rfl) (by kernel_rfl) (fun _ _ _ _ h => h) (by kernel_rfl) (fun _ _ => by kernel_rfl) hS ?_
       refine wpAnyH_done (by kernel_rfl) (NoPanic.normal ?_) _
       simp only [Act.put,List.setIfInBounds_toArray,List.set_cons_zero,List.set_cons_succ]
       go_wp2_with fail
       go_meet
       exact ⟨w3.heap.size,a,rfl,rfl,ha3,(Blk.new w3 stZ 46).setRow a,hRf a w3.heap.size (w3.alloc (.cells stZ 46)) _ (hRb a w3 _ hR3 (below_alloc1 w3 _)) (Blk.new w3 stZ 46) (fr_setRow _ _ _),hS0.size,hS⟩
     · refine reg_val (some 7) (.pointer (some ⟨w2.drew.heap.size,0,none⟩)) (World.alloc w2.drew (.cells stZ 46)) rfl rfl (by kernel_rfl) (by kernel_rfl) ?_
       have hS0 := hS
       replace hS := below_next hS (below_alloc1 _ (.cells stZ 46))
       refine ⟨hS,?_⟩
       have hbk : Blk (World.alloc w2.drew (.cells stZ 46)) w2.heap.size stZ 46 := Blk.new w2.drew stZ 46
       refine reg_one 8 (by kernel_rfl) ?_
       refine reg_call (some 30) 83 #[.agg st,.agg (manC s v L S Pp (.slice H 32 fh))] rfl rfl (by kernel_rfl) (by kernel_rfl) ((hadm2 _ hS).mono ?_)
       rintro e w3 ⟨a,rfl,ha3,hR3,hb3⟩
       replace hS := below_next hS hb3
       refine ⟨_,rfl,hS,?_⟩
       refine reg_take 9 (some 21) (.tuple #[.agg a,.int .i64 E]) rfl rfl (by kernel_rfl) (by kernel_rfl) (by kernel_rfl) (fun _ _ _ _ h => h) (by kernel_rfl) (fun _ _ => by kernel_rfl) hS ?_
       refine reg_take 10 (some 31) (.agg a) rfl rfl (by kernel_rfl) (by kernel_rfl) (by kernel_rfl) (fun _ _ _ _ h => h) (by kernel_rfl) (fun _ _ => by kernel_rfl) hS ?_
       refine reg_take 11 (some 32) (.int .i64 E) rfl rfl (by kernel_rfl) (by kernel_rfl) (by kernel_rfl) (fun _ _ _ _ h => h) (by kernel_rfl) (fun _ _ => by kernel_rfl) hS ?_
       have hbk3 := hbk.below hb3
       refine reg_one 13 (by kernel_rfl) ?_
       refine reg_store 46 (.tmp 7) (.tmp 31) (w2.heap.size) a stZ 46 rfl rfl (by kernel_rfl) rfl (by kernel_rfl) (by kernel_rfl) hbk3 ha3.size ha3.old ha3.one ⟨below_setRow hS (by omega) a,?_⟩
       have hS := below_setRow hS (g := w2.heap.size) (by omega) a
       refine reg_take 14 (some 6) (.int .i64 E) rfl rfl (by kernel_rfl) (by kernel_rfl) (by kernel_rfl) (fun _ _ _ _ h => h) (by kernel_rfl) (fun _ _ => by kernel_rfl) hS ?_
       refine wpAnyH_done (by kernel_rfl) (NoPanic.normal ?_) _
       simp only [Act.put,List.setIfInBounds_toArray,List.set_cons_zero,List.set_cons_succ]
       go_wp2_with fail
       go_meet
       exact ⟨w2.heap.size,a,rfl,rfl,ha3,hbk3.setRow a,hRf a w2.heap.size w3 _ hR3 hbk3 (fr_setRow _ _ _),Nat.le_refl _,hS⟩
   · refine reg_val (some 7) (.pointer (some ⟨w2.drew.heap.size,0,none⟩)) (World.alloc w2.drew (.cells stZ 46)) rfl rfl (by kernel_rfl) (by kernel_rfl) ?_
     have hS0 := hS
     replace hS := below_next hS (below_alloc1 _ (.cells stZ 46))
     refine ⟨hS,?_⟩
     have hbk : Blk (World.alloc w2.drew (.cells stZ 46)) w2.heap.size stZ 46 := Blk.new w2.drew stZ 46
     refine reg_one 3 (by kernel_rfl) ?_
     refine reg_call (some 25) 33 #[.pointer (some ⟨d,2,none⟩)] rfl rfl rfl (by kernel_rfl) ((hpl _ hS).mono ?_)
     rintro e y33 ⟨rfl,rfl⟩
     refine ⟨_,rfl,hS,?_⟩
     refine reg_take 4 (some 26) (.pointer (some ⟨mb,0,none⟩)) rfl rfl (by kernel_rfl) (by kernel_rfl) (by kernel_rfl) (fun _ _ _ _ h => h) (by kernel_rfl) (fun _ _ => by kernel_rfl) hS ?_
     refine reg_take 5 (some 27) (.pointer (some ⟨mb,0,none⟩)) rfl rfl (by kernel_rfl) (by kernel_rfl) (by kernel_rfl) (fun _ _ _ _ h => h) (by kernel_rfl) (fun _ _ => by kernel_rfl) hS ?_
     refine reg_load 6 (some 28) 46 (.tmp 27) mb st 90 rfl rfl rfl (by kernel_rfl) (by kernel_rfl) (by kernel_rfl) (fun _ _ _ _ h => h) (by kernel_rfl) (by kernel_rfl) _ (fun y hy => hmm2.below hy) hpre _ Tryz.underlying46 rfl hs46 hS ?_
     refine reg_one 8 (by kernel_rfl) ?_
     refine reg_call (some 30) 83 #[.agg st,.agg (manC s v L S Pp (.slice H 32 fh))] rfl rfl (by kernel_rfl) (by kernel_rfl) ((hadm2 _ hS).mono ?_)
     rintro e w3 ⟨a,rfl,ha3,hR3,hb3⟩
     replace hS := below_next hS hb3
     refine ⟨_,rfl,hS,?_⟩
     refine reg_take 9 (some 21) (.tuple #[.agg a,.int .i64 E]) rfl rfl (by kernel_rfl) (by kernel_rfl) (by kernel_rfl) (fun _ _ _ _ h => h) (by kernel_rfl) (fun _ _ => by kernel_rfl) hS ?_
     refine reg_take 10 (some 31) (.agg a) rfl rfl (by kernel_rfl) (by kernel_rfl) (by kernel_rfl) (fun _ _ _ _ h => h) (by kernel_rfl) (fun _ _ => by kernel_rfl) hS ?_
     refine reg_take 11 (some 32) (.int .i64 E) rfl rfl (by kernel_rfl) (by kernel_rfl) (by kernel_rfl) (fun _ _ _ _ h => h) (by kernel_rfl) (fun _ _ => by kernel_rfl) hS ?_
     have hbk3 := hbk.below hb3
     refine reg_one 13 (by kernel_rfl) ?_
     refine reg_store 46 (.tmp 7) (.tmp 31) (w2.heap.size) a stZ 46 rfl rfl (by kernel_rfl) rfl (by kernel_rfl) (by kernel_rfl) hbk3 ha3.size ha3.old ha3.one ⟨below_setRow hS (by omega) a,?_⟩
     have hS := below_setRow hS (g := w2.heap.size) (by omega) a
     refine reg_take 14 (some 6) (.int .i64 E) rfl rfl (by kernel_rfl) (by kernel_rfl) (by kernel_rfl) (fun _ _ _ _ h => h) (by kernel_rfl) (fun _ _ => by kernel_rfl) hS ?_
     refine wpAnyH_done (by kernel_rfl) (NoPanic.normal ?_) _
     simp only [Act.put,List.setIfInBounds_toArray,List.set_cons_zero,List.set_cons_succ]
     go_wp2_with fail
     go_meet
     exact ⟨w2.heap.size,a,rfl,rfl,ha3,hbk3.setRow a,hRf a w2.heap.size w3 _ hR3 hbk3 (fr_setRow _ _ _),Nat.le_refl _,hS⟩
 case rest =>
   obtain ⟨g,a,rfl,rfl,ha,hbg,hR,hg,hB⟩ := hcut
   have hBw := below_next hB2 hB
   clear hpl hadm2 hd2 hmm2 hm2' ho2 hRb hRf hd hm
   by_cases he : E = 0
   · subst he
     have hkp := hkeep rfl
     have hop := hopen rfl
     have hsz := ha.size
     have hgw : w.heap.size ≤ g := by omega
     clear hE hkeep hopen
     go_wp2_with (first
       | ((with_reducible refine at_load ?_); refine wpList_load_row rfl 46 (.tmp 7) rfl g rfl 46 a (0,0) _ hbg Tryz.underlying46 rfl hsz ?_))
     refine (hkp _ a hR hBw).mono ?_
     rintro e w4 ⟨rfl,hR2,hF4⟩
     have hb4 := hbg.fr hF4 (by omega)
     go_wp2_with (first
       | ((with_reducible refine at_load ?_); refine wpList_load_row rfl 46 (.tmp 7) rfl g rfl 46 a (0,0) _ hb4 Tryz.underlying46 rfl hsz ?_))
     refine (hop _ a hR2).mono ?_
     rintro e w5 ⟨rfl,hQ⟩
     go_wp2_with fail
     go_ret
     exact ⟨0,rfl,hQ⟩
   · have hne : (E != 0) = true := by simp [he]
     have hq := hE he _ hBw
     clear hkeep hopen
     go_wp2_with fail
     go_ret
     exact ⟨E,rfl,hq⟩
theorem StC.frZ {w w' : World} {st : Array Value} {q : SSt} {g : Nat} (h : StC w st q) (hb : Blk w g stZ 46) (hF : Fr (· = g) w w') : StC w' st q := by
 obtain ⟨x0,x1,x2,rfl,h2,h3,h4⟩ := h
 have key : ∀ {x : Value} {H : Option (List UInt8)},HSt w x H → HSt w' x H := fun {x H} hx => by
   cases H with
   | none => exact hx
   | some H =>
     obtain ⟨A,c,h1,h2⟩ := hx
     exact ⟨A,c,h1,h2.fr hF (fun hn ad hA => h2.apart hb stZ_u8 hn ad hA)⟩
 exact ⟨x0,x1,x2,rfl,key h2,key h3,key h4⟩
theorem StC.shp {w : World} {st : Array Value} {q : SSt} (h : StC w st q) : Shp st := by
 obtain ⟨x0,x1,x2,rfl,h2,h3,h4⟩ := h
 obtain ⟨A0,a0,c0,rfl⟩ := h2.form
 obtain ⟨A1,a1,c1,rfl⟩ := h3.form
 obtain ⟨A2,a2,c2,rfl⟩ := h4.form
 exact ⟨_,_,_,_,_,_,_,_,_,_,_,_,_,_,_,_,_,_,_,_,_,_,_,rfl⟩
theorem onA_slice {fl ge v0 : B32} {n0 : Nat} {x0 x1 : Value} {s v : B32} {L S P : Nat} {A2 : Option Addr} {a2 : Nat} {i : Nat} {A : Option Addr} {n c : Nat} (h : (onA fl ge v0 n0 x0 x1 s v L S P A2 a2)[i]? = some (.slice A n c)) : x0 = .slice A n c ∨ x1 = .slice A n c ∨ (.slice A2 32 a2 : Value) = .slice A n c := by
 unfold onA at h
 match i with
 | 0 | 1 | 2 | 3 | 4 | 5 | 7 | 8 | 10 | 11 | 12 | 13 | 14 | 15 => simp at h
 | 6 => left; simpa using h
 | 9 => right; left; simpa using h
 | 16 => right; right; simpa using h
 | k + 17 => simp at h
theorem hears_on (d f bb mb : Nat) (kA : Option Addr) (kn kc : Nat) (key : List UInt8) (X : Option Addr) (m c : Nat) (l : List UInt8) (st : Array Value) (lp : Option Addr) (fl ge v0 s v : B32) (n0 L S P K : Nat) (H0 H2 fls : List UInt8) (er : Nat → Int) (w : World)
   (hd : Blk w d (devC (.slice kA kn kc) f (some ⟨mb,0,none⟩)) 77) (hm : MemAt w mb st lp) (hk : Rd w kA kn kc key) (hkn : kn ≤ 64) (hr : Rd w X m c l) (hgood : manErr key l = 0)
   (eS : mS (l.take 44) = s) (eV : mV (l.take 44) = v) (eL : mL (l.take 44) = L) (eZ : mZ (l.take 44) = S) (eP : mP (l.take 44) = P) (eH : (l.take 44).drop 12 = H2)
   (hst : StC w st (offQ fl ge v0 n0 H0)) (hq : (offQ fl ge v0 n0 H0).Ok) (hq2 : (onQ fl (ge + 1#32) v0 n0 H0 s v L S P H2).Ok) (h1 : fl.toNat < v.toNat) (h2 : v0.toNat < v.toNat) (hg : ge.toNat < 4294967294) (hmo : manOk L S P = true) (hL : L ≤ 512) (hS : S ≤ 16)
   (hf : FlashAt w f bb fls er 100) (hnum : (numC fls).toNat < 1000) (he : er (toC fls) < 100) (he0 : 0 ≤ er (toC fls)) (hT : Tab64 w) (hd1 : 1 < d) (hf1 : 1 < f) (hb1 : 1 < bb) (hK : cnt L S = K) (hok : spOk K P S = true) (hn : K + P ≤ 64) (hz : Sz S)
   (hl : ∀ j,1536 ≤ j → j < 3584 → fls[j]? = some 255) :
   Calls Tryz.prog 36 #[.pointer (some ⟨d,0,none⟩),.slice X m c] w fun e w' => ∃ r : Int,e = .returned (.int .i64 r) ∧ r = 0 ∧ ∃ mb' B sp wp dd g rb bk M rank x0 x1 A2 a2,
     Blk w' d (devC (.slice kA kn kc) f (some ⟨mb',0,none⟩)) 77 ∧ MemAt w' mb' (onA fl (ge + 1#32) v0 n0 x0 x1 s v L S P A2 a2) (some ⟨sp,0,none⟩) ∧
     StAt w' B sp wp f bb dd g rb bk (ge + 1#32) s K P S L none 0 0 0 (writeC fls (bytesS (onQ fl (ge + 1#32) v0 n0 H0 s v L S P H2))) (erMore er (toC fls)) 100 (parRs s K S P) M rank 0 ∧
     StC w' (onA fl (ge + 1#32) v0 n0 x0 x1 s v L S P A2 a2) (onQ fl (ge + 1#32) v0 n0 H0 s v L S P H2) ∧ w.heap.size ≤ mb' ∧ w.heap.size ≤ B ∧
     (∀ (i : Nat) A n c ad,(onA fl (ge + 1#32) v0 n0 x0 x1 s v L S P A2 a2)[i]? = some (.slice A n c) → A = some ad → w.heap.size ≤ ad.block ∧ ad.block < B) ∧ Fr (DFb d f bb) w w' ∧ Tab64 w' := by
 have hdl := hd.lt
 have hfl : f < w.heap.size := by obtain ⟨_,_,hB⟩ := hf.blk; exact hB.lt
 have hbbl : bb < w.heap.size := hf.2.1.lt
 have hDF : ∀ g,DFb d f bb g → g < w.heap.size := fun g hg => by rcases hg with rfl | rfl | rfl <;> assumption
 have hw1 : ¬ DFb d f bb 1 := fun h => by rcases h with h | h | h <;> omega
 refine hears_gen 0 (fun a y => StC y a (onQ fl (ge + 1#32) v0 n0 H0 s v L S P H2) ∧ StF w.heap.size a)
   (fun a y => StC y a (onQ fl (ge + 1#32) v0 n0 H0 s v L S P H2) ∧ StF w.heap.size a ∧ (∃ mb',Blk y d (devC (.slice kA kn kc) f (some ⟨mb',0,none⟩)) 77) ∧ FlashAt y f bb (writeC fls (bytesS (onQ fl (ge + 1#32) v0 n0 H0 s v L S P H2))) (erMore er (toC fls)) 100 ∧ Fr (DFb d f bb) w y ∧ Tab64 y)
   (fun r w' => r = 0 ∧ ∃ mb' B sp wp dd g rb bk M rank x0 x1 A2 a2,
     Blk w' d (devC (.slice kA kn kc) f (some ⟨mb',0,none⟩)) 77 ∧ MemAt w' mb' (onA fl (ge + 1#32) v0 n0 x0 x1 s v L S P A2 a2) (some ⟨sp,0,none⟩) ∧
     StAt w' B sp wp f bb dd g rb bk (ge + 1#32) s K P S L none 0 0 0 (writeC fls (bytesS (onQ fl (ge + 1#32) v0 n0 H0 s v L S P H2))) (erMore er (toC fls)) 100 (parRs s K S P) M rank 0 ∧
     StC w' (onA fl (ge + 1#32) v0 n0 x0 x1 s v L S P A2 a2) (onQ fl (ge + 1#32) v0 n0 H0 s v L S P H2) ∧ w.heap.size ≤ mb' ∧ w.heap.size ≤ B ∧
     (∀ (i : Nat) A n c ad,(onA fl (ge + 1#32) v0 n0 x0 x1 s v L S P A2 a2)[i]? = some (.slice A n c) → A = some ad → w.heap.size ≤ ad.block ∧ ad.block < B) ∧ Fr (DFb d f bb) w w' ∧ Tab64 w')
   d f mb kA kn kc key X m c l st lp w hd hm hst.size17 hk hkn hr hgood ?_ ?_ ?_ ?_ ?_ ?_
 · intro H fh y hy hH
   rw [eS,eV,eL,eZ,eP]
   rw [eH] at hH
   refine (admit_off fl ge v0 s v n0 L S P H0 H2 hq st H fh y (hst.below hy) hH h1 h2 hg hmo (by omega) (by omega)).mono ?_
   rintro e w' ⟨st',rfl,hC,hB,hF⟩
   exact ⟨st',hC.shp,rfl,⟨hC,hF.mono hy.size⟩,hB⟩
 · exact fun a y y' h hB => ⟨h.1.below hB,h.2⟩
 · exact fun a g y y' h hb hF => ⟨h.1.frZ hb hF,h.2⟩
 · exact fun h => absurd rfl h
 · intro _ y a hR hB
   refine (keeps_any d f bb w.heap.size kA kn kc _ _ hq2 a none fls er y (hd.below hB) (hf.below hB) hR.1 hR.2 hDF hnum he he0).mono ?_
   rintro e w' ⟨mb',rfl,hd',hm',hmb,hC',hf',hF⟩
   have hFw : Fr (DFb d f bb) w w' := (Fr.of hB).trans hF
   exact ⟨rfl,⟨hC',hR.2,⟨mb',hd'⟩,hf',hFw,hT.keep hFw hw1⟩,hF.mono fun g _ hg => hDF g hg⟩
 · intro _ y a hR
   obtain ⟨hC,hsf,⟨mb1,hd1'⟩,hf',hFw,hT'⟩ := hR
   obtain ⟨x0,x1,x2,rfl,k0,k1,⟨A2,a2,rfl,k2⟩⟩ := id hC
   rw [onA_st] at hC hsf ⊢
   refine (opens_on d f bb (.slice kA kn kc) (some ⟨mb1,0,none⟩) fl (ge + 1#32) v0 n0 x0 x1 s v L S P K A2 a2 _ _ 100 y hd1' hf' hK hok hn hz (by omega) hT' hd1 (fun j h1 h2 => by rw [write_high _ _ hq2 _ (by omega)]; exact hl j h1 h2)).mono ?_
   rintro e w' ⟨mb',B,sp,wp,dd,g,rb,bk,M,rank,rfl,hd2,hm2,hSt,hBy,hmy,hF2⟩
   have hsy := hFw.size
   have hF2' : Fr (DFb d f bb) y w' := hF2.mono fun g _ hg => .inl hg
   refine ⟨rfl,rfl,mb',B,sp,wp,dd,g,rb,bk,M,rank,x0,x1,A2,a2,hd2,hm2,hSt,hC.frD hF2' hsf hDF,by omega,by omega,fun i A n c ad hi hA => ⟨hsf i _ hi A n c rfl ad hA,?_⟩,hFw.trans hF2',hT'.keep hF2' hw1⟩
   have hlt : ad.block < y.heap.size := by
     rcases onA_slice hi with h | h | h
     · obtain ⟨A',c',e1,e2⟩ := k0
       rw [h] at e1
       cases e1
       obtain ⟨ad',e3,e4⟩ := e2.ptr (by omega)
       cases e3.symm.trans hA
       exact e4
     · rw [h] at k1
       cases k1
       cases hA
     · cases h
       obtain ⟨ad',e3,e4⟩ := k2.ptr (by omega)
       cases e3.symm.trans hA
       exact e4
   omega
theorem hears_dup (d f mb : Nat) (kA : Option Addr) (kn kc : Nat) (key : List UInt8) (X : Option Addr) (m c : Nat) (l : List UInt8) (st : Array Value) (lp : Option Addr) (fl ge v0 s v : B32) (n0 L S P : Nat) (H0 H2 : List UInt8) (w : World)
   (hd : Blk w d (devC (.slice kA kn kc) f (some ⟨mb,0,none⟩)) 77) (hm : MemAt w mb st lp) (hk : Rd w kA kn kc key) (hkn : kn ≤ 64) (hr : Rd w X m c l) (hgood : manErr key l = 0)
   (eS : mS (l.take 44) = s) (eV : mV (l.take 44) = v) (eL : mL (l.take 44) = L) (eZ : mZ (l.take 44) = S) (eP : mP (l.take 44) = P) (eH : (l.take 44).drop 12 = H2)
   (hst : StC w st (onQ fl ge v0 n0 H0 s v L S P H2)) (hq : (onQ fl ge v0 n0 H0 s v L S P H2).Ok) (hmo : manOk L S P = true) (hL : L ≤ 512) (hS : S ≤ 16) :
   Calls Tryz.prog 36 #[.pointer (some ⟨d,0,none⟩),.slice X m c] w fun e w' => ∃ r : Int,e = .returned (.int .i64 r) ∧ r = 8 ∧ Below w.heap.size w w' := by
 refine hears_gen 8 (fun a y => True) (fun a y => True) (fun r w' => r = 8 ∧ Below w.heap.size w w') d f mb kA kn kc key X m c l st lp w hd hm hst.size17 hk hkn hr hgood ?_ ?_ ?_ ?_ ?_ ?_
 · intro H fh y hy hH
   rw [eS,eV,eL,eZ,eP]
   rw [eH] at hH
   refine (admit_dup fl ge v0 s v n0 L S P H0 H2 hq st H fh y (hst.below hy) hH hmo (by omega) (by omega)).mono ?_
   rintro e w' ⟨st',rfl,rfl,hB⟩
   exact ⟨stZ,⟨_,_,_,_,_,_,_,_,_,_,_,_,_,_,_,_,_,_,_,_,_,_,_,rfl⟩,rfl,trivial,hB⟩
 · exact fun a y y' h hB => trivial
 · exact fun a g y y' h hb hF => trivial
 · exact fun h y hB => ⟨rfl,hB⟩
 · exact fun h => absurd h (by decide)
 · exact fun h => absurd h (by decide)
end Go.Proofs.YtkkcpblfheplaaaGreatDoor
