/- Contracts of functions that the laws of downpourtop reach, and plain facts; no condition beyond what each theorem states. -/
import Derived.Test.YtkkcpblfheplaaaGreatDoorMD10
import Derived.Test.YtkkcpblfheplaaaGreatDoorMEx03
set_option maxRecDepth 100000
set_option maxHeartbeats 8000000
set_option linter.all false
namespace Go.Proofs.YtkkcpblfheplaaaGreatDoor
open Go.RowKit
theorem wrecords_nil (p f : Nat) (gen : BitVec 32) (size : Nat) (ready : Int) (next : Nat) (w : World) (h : Blk w p (wheelC f gen size (.slice none 0 0) ready next) 242) :
   Calls Tryz.prog 176 #[.pointer (some ⟨p,0,none⟩)] w fun e w' => e = .returned (.slice none 0 0) ∧ w' = w := by
 have c := h.cell (i := 3) (v := .slice none 0 0) rfl
 go_enter Tryz.func176,Tryz.ntmps176
 go_wp2_with fail
 go_loopw [3,13] (fun v u wr => v = .slice none 0 0 ∧ u = .int .i64 0 ∧ wr = w) (fun _ u _ => 0)
 case atStart => exact ⟨rfl,rfl,rfl⟩
 case round =>
   obtain ⟨rfl,rfl,rfl⟩ := hrel
   go_wp2_with fail
   go_ret
   exact ⟨rfl,rfl⟩
def storC (L S wp d : Nat) : Array Value :=
 #[.int .u32 0,.int .u32 0,.int .i64 (L : Int),.int .i64 (S : Int),.int .i64 0,.slice none 0 0,.pointer (some ⟨wp,0,none⟩),.pointer (some ⟨d,0,none⟩)]
def StoF (wp f bb : Nat) (LA : Option Addr) (d g rb : Nat) (bk : Nat → RB) (M : MatB) : Nat → Prop := fun b => b = wp ∨ b = f ∨ b = bb ∨ LA.map (·.block) = some b ∨ b = d ∨ MatF g rb bk M b
structure StAt (w : World) (B sp wp f bb d g rb : Nat) (bk : Nat → RB) (gen s : B32) (K P S L : Nat) (LA : Option Addr) (nl cl next : Nat) (l : List UInt8) (er : Nat → Int) (wear : Int) (rows : List (B64 × List UInt8)) (M : MatB) (rank taken : Nat) : Prop where
 st : Blk w sp (storC L S wp d) 197
 wh : Blk w wp (wheelC f gen S (.slice LA nl cl) (rdyN S next) next) 242
 own : ∃ xs,w.ownsRow B 236 2 (.slice LA nl cl) nl xs
 fl : FlashAt w f bb l er wear
 dc : Blk w d (decC s K P S g taken 0 (.slice none 0 0)) 239
 mt : MatAt w g rb bk (K + P) S M rank
 inv : DInv (K + P) S rows M rank
 low : B ≤ sp ∧ B ≤ wp ∧ B ≤ d ∧ (∀ b,MatF g rb bk M b → B ≤ b)
 nod : ¬ MatF g rb bk M d
 fb : f < B ∧ bb < B
 blank : ∀ j,atN S next ≤ j → j < 3584 → l[j]? = some 255
 base : B ≤ w.heap.size
theorem parX_lt (s : B32) (K P n j k : Nat) (hn : K + P = n) (hn64 : n ≤ 64) (hj : j < P) (hk : (parX s K j K).getLsbD k = true) : k < n := by
 rcases Nat.lt_or_ge k 64 with h | h
 · rw [parX_bit s K j K k (Nat.le_refl _) h] at hk
   simp at hk
   omega
 · rw [BitVec.getLsbD_of_ge _ _ h] at hk
   cases hk
theorem sopen_any (s v gen : B32) (L S P K f bb : Nat) (H : Option Addr) (hc0 : Nat) (l : List UInt8) (er : Nat → Int) (wear : Int) (w : World) (hF : FlashAt w f bb l er wear) (hK : cnt L S = K) (hok : spOk K P S = true) (hn : K + P ≤ 64) (hs : Sz S) (hL : L ≤ 1000000)
   (hT : Tab64 w) (hw1 : 1 < w.heap.size) (hl : ∀ j,1536 ≤ j → j < 3584 → l[j]? = some 255) :
   Calls Tryz.prog 134 #[.pointer (some ⟨f,0,none⟩),.agg (manC s v L S P (.slice H 32 hc0)),.int .u32 (V gen)] w fun e w' => ∃ sp wp d g rb bk M rank,e = .returned (.tuple #[.pointer (some ⟨sp,0,none⟩),.int .i64 0]) ∧
     StAt w' w.heap.size sp wp f bb d g rb bk gen s K P S L none 0 0 0 l er wear (parRs s K S P) M rank 0 ∧ Below w.heap.size w w' := by
 have hb0 : Blk (w.alloc (.cells (manC s v L S P (.slice H 32 hc0)) 44)) w.heap.size (manC s v L S P (.slice H 32 hc0)) 44 := Blk.new _ _ _
 have hB0 := below_alloc1 w (.cells (manC s v L S P (.slice H 32 hc0)) 44)
 have hsz := size44 s v L S P (.slice H 32 hc0)
 have hszp := size59 s K P S
 have hszp0 := size59 0#32 0 0 0
 have hS16 : S ≤ 16 := by rcases hs with rfl | rfl <;> decide
 have hof : ∀ y,Calls Tryz.prog 22 #[.agg (manC s v L S P (.slice H 32 hc0))] y fun e w' => e = .returned (.tuple #[.agg (parC s K P S),.bool true]) ∧ Below y.heap.size y w' := by
   intro y
   have := of_any s v L S P H 32 hc0 y hL (by omega)
   have hmk : manOk L S P = true := by unfold manOk; rw [hK]; exact hok
   unfold ofC at this
   rw [hmk,if_pos rfl,hK] at this
   exact this
 go_enter Tryz.func134,Tryz.ntmps134
 go_wp2_with (first
   | ((with_reducible refine at_load ?_); refine wpList_load_row rfl 44 (.tmp 4) rfl w.heap.size rfl 44 (manC s v L S P (.slice H 32 hc0)) (0,0) _ hb0 Tryz.underlying44 rfl hsz ?_))
 refine (hof _).mono ?_
 rintro e w1 ⟨rfl,hb1⟩
 have hbm := hb0.below hb1
 have hB1 := below_next hB0 hb1
 have hs1 := hB1.size
 have hz2 : Blk (w1.alloc (.cells (parC 0#32 0 0 0) 59)) w1.heap.size (parC 0#32 0 0 0) 59 := Blk.new _ _ _
 have hB2 : Below w1.heap.size w1 ((w1.alloc (.cells (parC 0#32 0 0 0) 59)).setRow w1.heap.size (parC s K P S)) := below_setRow (below_alloc1 w1 _) (Nat.le_refl _) _
 have hp2 := hz2.setRow (parC s K P S)
 have hlm := hbm.lt
 go_upto_region 4 with (first
   | ((with_reducible refine at_store ?_); refine wpList_store_row rfl 59 (.tmp 8) (.tmp 18) rfl w1.heap.size (parC s K P S) rfl rfl 59 (parC 0#32 0 0 0) hz2 hszp rfl (one59 _ _ _ _) ?_))
 change Code.wp _ _ _ _ ((w1.alloc (.cells (parC 0#32 0 0 0) 59)).setRow w1.heap.size (parC s K P S))
 generalize (w1.alloc (.cells (parC 0#32 0 0 0) 59)).setRow w1.heap.size (parC s K P S) = w2 at *
 clear hz2 hb0 hB0 hb1 hof
 have hbm2 := hbm.below hB2
 have hBB := below_next hB1 hB2
 have hF2 := hF.below hBB
 have c3 := hp2.cell (i := 3) (v := .int .i64 (S : Int)) rfl
 have hlp := hp2.lt
 go_wp2_with fail
 refine (wopen_blank f bb gen S l er wear w2 hF2 hs hl).mono ?_
 rintro e w3 ⟨wp,rfl,hw3,hwp,hb3⟩
 have hp3 := hp2.below hb3
 have hm3 := hbm2.below hb3
 have hF3 := hF2.below hb3
 have hB3 := below_next hBB hb3
 have hsz3 := hB3.size
 have hsz2 := hBB.size
 have hT3 := hT.below hB3
 clear hbm2 hbm hBB hF2 c3 hp2 hb3
 go_wp2_with fail
 have hc : ∀ y,Below w3.heap.size w3 y → y.cell? ⟨w.heap.size,2,none⟩ = some (.int .i64 (L : Int)) ∧ y.cell? ⟨w.heap.size,3,none⟩ = some (.int .i64 (S : Int)) ∧ y.cell? ⟨w1.heap.size,0,none⟩ = some (.int .u32 (V s)) ∧ y.cell? ⟨w1.heap.size,1,none⟩ = some (.int .i64 (K : Int)) ∧ y.cell? ⟨w1.heap.size,2,none⟩ = some (.int .i64 (P : Int)) ∧ y.cell? ⟨w1.heap.size,3,none⟩ = some (.int .i64 (S : Int)) :=
   fun y hy => ⟨(hm3.below hy).cell rfl,(hm3.below hy).cell rfl,(hp3.below hy).cell rfl,(hp3.below hy).cell rfl,(hp3.below hy).cell rfl,(hp3.below hy).cell rfl⟩
 have hc0' := hc w3.drew (Below.refl _ _).drew
 have hB30 : Below w3.heap.size w3 w3.drew := (Below.refl _ _).drew
 have hc1 : True := trivial
 have hc2 : True := trivial
 have hdn : ∀ y,Tab64 y → 1 < y.heap.size → Calls Tryz.prog 175 #[.agg #[.int .u32 (V s),.int .i64 (K : Int),.int .i64 (P : Int),.int .i64 (S : Int)]] y fun e w' => ∃ d g rb bk M rank,e = .returned (.pointer (some ⟨d,0,none⟩)) ∧ Blk w' d (decC s K P S g 0 0 (.slice none 0 0)) 239 ∧ MatAt w' g rb bk (K + P) S M rank ∧
     DInv (K + P) S (parRs s K S P) M rank ∧ y.heap.size ≤ d ∧ (∀ b,MatF g rb bk M b → y.heap.size ≤ b ∧ b ≠ d) ∧ Below y.heap.size y w' :=
   fun y hy hy1 => dnew_any s K P S y hok hn hy hy1 (fun j k hj hk => parX_lt s K P _ j k rfl hn hj hk)
 go_region_held3 (fun y => y.cell? ⟨w.heap.size,2,none⟩ = some (.int .i64 (L : Int)) ∧ y.cell? ⟨w.heap.size,3,none⟩ = some (.int .i64 (S : Int)) ∧ y.cell? ⟨w1.heap.size,0,none⟩ = some (.int .u32 (V s)) ∧ y.cell? ⟨w1.heap.size,1,none⟩ = some (.int .i64 (K : Int)) ∧ y.cell? ⟨w1.heap.size,2,none⟩ = some (.int .i64 (P : Int)) ∧ y.cell? ⟨w1.heap.size,3,none⟩ = some (.int .i64 (S : Int)))
   (first | (with_reducible exact hc0') | (with_reducible exact hc1) | (with_reducible exact hc2 _))
   ((go_at_call 175; (with_reducible refine (hdn _ (hT3.below hB30) (by simp; omega)).mono ?_); rintro e w4 ⟨d,g,rb,bk,M,rank,rfl,hd4,hm4,hI4,hdl,hml,hb4⟩; have hB4 := below_next hB30 hb4; have hc1 := hc w4 hB4; have hc2 := fun o => hc (w4.alloc o) (hB4.alloc hB4.size o)))
 all_goals
   have hs4 := hB4.size
   have hst : Blk (w4.alloc (.cells (storC L S wp d) 197)) w4.heap.size (storC L S wp d) 197 := Blk.new _ _ _
   have hB5 : Below w3.heap.size w3 (w4.alloc (.cells (storC L S wp d) 197)) := hB4.alloc hs4 _
   have ha4 := below_alloc1 w4 (.cells (storC L S wp d) 197)
   have hd5 := hd4.below ha4
   have hm5 := hm4.below ha4
   have hw5 := hw3.below hB5
   have hF5 := hF3.below hB5
   have hBf := below_next hB3 hB5
   have hdl' : w3.heap.size ≤ d := hdl
   have hml' : ∀ b,MatF g rb bk M b → w3.heap.size ≤ b ∧ b ≠ d := hml
   change Exit.then _ _ Exit.normal _ (w4.alloc (.cells (storC L S wp d) 197))
   generalize w4.alloc (.cells (storC L S wp d) 197) = w5 at *
   clear hc hc0' hc1 hc2 hd4 hm4 hp3 hm3 ha4
   go_wp2_with fail
   refine (wrecords_nil wp f gen S (-1) 0 w5 hw5).mono ?_
   rintro e w6 ⟨rfl,rfl⟩
   go_wp2_with fail
   go_loopw [46] (fun u wr => u = .int .i64 0 ∧ wr = w6) (fun u _ => 0)
   case atStart => exact ⟨rfl,rfl⟩
   case round =>
     obtain ⟨rfl,rfl⟩ := hrel
     go_wp2_with fail
     go_ret2
     have hlf := hF.blk
     obtain ⟨_,_,hlf⟩ := hlf
     refine ⟨w4.heap.size,wp,d,g,rb,bk,M,rank,rfl,⟨hst,hw5,⟨[],World.ownsRow_nil _ _ _ _⟩,hF5,hd5,hm5,hI4,⟨by omega,by omega,by omega,fun b hb => by have := (hml' b hb).1; omega⟩,fun h => (hml' d h).2 rfl,⟨hlf.lt,hF.2.1.lt⟩,?_,hBf.size⟩,hBf⟩
     intro j hj1 hj2
     exact hl j (by have := atN_ge S 0; omega) hj2
theorem rowL_lt (s : B32) (K P : Nat) (id : B32) (x : Nat) (h : x ∈ rowL s K P id) : x < K + P := by
 unfold rowL at h
 split at h
 · simp at h; omega
 · exact someL_lt _ _ _ _ h
theorem rowB_lt (s : B32) (K P : Nat) (id : B32) (k : Nat) (h : (rowB s K P id).getLsbD k = true) : k < K + P := by
 rcases Nat.lt_or_ge k 64 with h1 | h1
 · unfold rowB at h
   rw [ofL_bit _ _ h1] at h
   exact rowL_lt s K P id k (by simpa using h)
 · rw [BitVec.getLsbD_of_ge _ _ h1] at h
   cases h
theorem redB_fst (M : MatB) (x : B64) (l l' : List UInt8) : ∀ k,(redB M (x,l) k).1 = (redB M (x,l') k).1
 | 0 => rfl
 | k + 1 => by
   show (stepB M k (redB M (x,l) k)).1 = (stepB M k (redB M (x,l') k)).1
   unfold stepB
   cases M k with
   | none => exact redB_fst M x l l' k
   | some y =>
     simp only [redB_fst M x l l' k]
     split <;> simp_all [redB_fst M x l l' k]
theorem MatAt.typ {w : World} {g rb n size rank : Nat} {bk : Nat → RB} {M : MatB} (h : MatAt w g rb bk n size M rank) {b : Nat} (hb : MatF g rb bk M b) : ∃ cs t,Blk w b cs t ∧ (t = 280 ∨ t = 274 ∨ t = 277 ∨ t = 264 ∨ t = 36 ∨ t = 5) := by
 rcases hb with rfl | rfl | ⟨i,x,hx,hb⟩
 · exact ⟨_,_,h.head,by decide⟩
 · exact ⟨_,_,h.rows,by decide⟩
 · have hr := h.row i x hx
   obtain ⟨cp,cs,v1,v2,_⟩ := hr.vec
   rcases hb with rfl | rfl | rfl | rfl
   · exact ⟨_,_,hr.row,by decide⟩
   · exact ⟨_,_,v1,by decide⟩
   · exact ⟨_,_,v2,by decide⟩
   · exact ⟨_,_,hr.dat,by decide⟩
theorem MatAt.not {w : World} {g rb n size rank : Nat} {bk : Nat → RB} {M : MatB} (h : MatAt w g rb bk n size M rank) {b : Nat} {cs : Array Value} {t : TypeId} (k : Blk w b cs t) (ht : ¬ (t = 280 ∨ t = 274 ∨ t = 277 ∨ t = 264 ∨ t = 36 ∨ t = 5)) : ¬ MatF g rb bk M b := by
 intro hb
 obtain ⟨cs',t',k',ht'⟩ := h.typ hb
 by_cases e : t = t'
 · subst e; exact ht ht'
 · exact k.ne k' e rfl
section
variable {w : World} {B sp wp f bb d g rb : Nat} {bk : Nat → RB} {gen s : B32} {K P S L : Nat} {LA : Option Addr} {nl cl next : Nat} {l : List UInt8} {er : Nat → Int} {wear : Int} {rows : List (B64 × List UInt8)} {M : MatB} {rank taken : Nat}
theorem StAt.below {w' : World} (h : StAt w B sp wp f bb d g rb bk gen s K P S L LA nl cl next l er wear rows M rank taken) (hb : Below w.heap.size w w') : StAt w' B sp wp f bb d g rb bk gen s K P S L LA nl cl next l er wear rows M rank taken :=
 ⟨h.st.below hb,h.wh.below hb,(by obtain ⟨xs,k⟩ := h.own; exact ⟨xs,own2_below k hb⟩),h.fl.below hb,h.dc.below hb,h.mt.below hb,h.inv,h.low,h.nod,h.fb,h.blank,Nat.le_trans h.base hb.size⟩
theorem sneeds_any (h : StAt w B sp wp f bb d g rb bk gen s K P S L LA nl cl next l er wear rows M rank taken) (hok : spOk K P S = true) (hn : K + P ≤ 64) :
   Calls Tryz.prog 88 #[.pointer (some ⟨sp,0,none⟩)] w fun e w' => e = .returned (.int .i64 (((K + P : Nat) : Int) - (rank : Int))) ∧ Below w.heap.size w w' := by
 have c7 := h.st.cell (i := 7) (v := .pointer (some ⟨d,0,none⟩)) rfl
 have hnd := dneeds_any s K P S g rb d bk M rank taken 0 _ w h.dc h.mt hok hn (by have := h.inv.le; omega)
 clear h
 obtain ⟨N,hN⟩ : ∃ N : Int,((K + P : Nat) : Int) - (rank : Int) = N := ⟨_,rfl⟩
 rw [hN] at hnd ⊢
 clear hN
 go_enter Tryz.func88,Tryz.ntmps88
 go_wp2_with fail
 refine hnd.mono ?_
 rintro e w1 ⟨rfl,hb1⟩
 go_wp2_with fail
 go_ret
 exact ⟨rfl,hb1⟩
theorem simage_any (ds : List (List UInt8)) (h : StAt w B sp wp f bb d g rb bk gen s K P S L LA nl cl next l er wear rows M (K + P) taken) (hok : spOk K P S = true) (hn : K + P ≤ 64) (hl : ds.length = K + P) (hds : ∀ (i : Nat) l,ds[i]? = some l → ∃ x,M i = some (x,l)) (hlen : cnt L S = K) (h1 : 1 ≤ L) (h2 : L ≤ 512) (hfl : L ≤ (ds.take K).flatten.length) (hsm : ∀ l,l ∈ ds → l.length ≤ 1000) (hS : S ≤ 16) :
   Calls Tryz.prog 139 #[.pointer (some ⟨sp,0,none⟩)] w fun e w' => ∃ A c,e = .returned (.tuple #[.slice A L c,.bool true]) ∧ Own w' w.heap.size 5 A L c ((ds.take K).flatten.take L) ∧ Fr (· = d) w w' := by
 have hc : ∀ y,Blk y sp (storC L S wp d) 197 → y.cell? ⟨sp,7,none⟩ = some (.pointer (some ⟨d,0,none⟩)) ∧ y.cell? ⟨sp,2,none⟩ = some (.int .i64 (L : Int)) := fun y hy => ⟨hy.cell rfl,hy.cell rfl⟩
 have hc0 := hc w.drew (h.st.below (Below.refl _ _).drew)
 have hB0 : Below w.heap.size w w.drew := (Below.refl _ _).drew
 have hc1 : True := trivial
 have him := dimage_any s K P S g rb d bk M taken _ ds L w.drew (h.dc.below hB0) (h.mt.below hB0) hok hn hS h.nod hl hds hlen h1 h2 hfl hsm
 have hne : sp ≠ d := h.st.ne h.dc (by decide)
 have hst := h.st
 go_enter Tryz.func139,Tryz.ntmps139
 go_wp2_with fail
 go_region_held3 (fun y => y.cell? ⟨sp,7,none⟩ = some (.pointer (some ⟨d,0,none⟩)) ∧ y.cell? ⟨sp,2,none⟩ = some (.int .i64 (L : Int)))
   (first | (with_reducible exact hc0) | (with_reducible exact hc1))
   ((go_at_call 185; (with_reducible refine him.mono ?_); rintro e w1 ⟨A,c,rfl,ho,hL,hf⟩; have hF : Fr (· = d) w w1 := (Fr.refl _ w).drew.trans hf; have hc1 := hc w1 (hst.fr hF hne)))
 all_goals
   go_wp2_with fail
   go_ret2
   exact ⟨A,c,rfl,ho,hF⟩
end
section
variable {w : World} {B sp wp f bb d g rb : Nat} {bk : Nat → RB} {gen s : B32} {K P S L : Nat} {LA : Option Addr} {nl cl next : Nat} {l : List UInt8} {er : Nat → Int} {wear : Int} {rows : List (B64 × List UInt8)} {M : MatB} {rank taken : Nat}
theorem sput_dup (id : B32) (D : Option Addr) (dc : Nat) (data : List UInt8) (h : StAt w B sp wp f bb d g rb bk gen s K P S L LA nl cl next l er wear rows M rank taken) (hok : spOk K P S = true) (hn : K + P ≤ 64) (hn1 : 1 ≤ K + P) (hs : Sz S) (hT : Tab64 w)
   (hz : (redB M (rowB s K P id,data) (K + P)).1 = 0#64) :
   Calls Tryz.prog 87 #[.pointer (some ⟨sp,0,none⟩),.int .u32 (V id),.slice D S dc] w fun e w' => e = .returned (.int .i64 8) ∧ Below w.heap.size w w' := by
 have c3 := h.st.cell (i := 3) (v := .int .i64 (S : Int)) rfl
 have c7 := h.st.cell (i := 7) (v := .pointer (some ⟨d,0,none⟩)) rfl
 have hsm : ((S : Int) != (S : Int)) = false := by simp
 have hS16 : S ≤ 16 := by rcases hs with rfl | rfl <;> decide
 have hsy := dsays_any s K P S g rb d bk M rank taken 0 _ id w h.dc h.mt hok hn hS16 hn1 hT
 rw [redB_fst M _ _ data,hz] at hsy
 have hb0 : (0#64 != 0#64) = false := rfl
 rw [hb0] at hsy
 clear h hz hs
 go_enter Tryz.func87,Tryz.ntmps87
 go_wp2_with fail
 refine hsy.mono ?_
 rintro e w1 ⟨rfl,hb1⟩
 go_wp2_with fail
 go_ret
 exact ⟨rfl,hb1⟩
theorem sput_new (id : B32) (D : Option Addr) (dc : Nat) (data : List UInt8) (h : StAt w B sp wp f bb d g rb bk gen s K P S L LA nl cl next l er wear rows M rank taken) (hok : spOk K P S = true) (hn : K + P ≤ 64) (hn1 : 1 ≤ K + P) (hs : Sz S) (hT : Tab64 w) (h1B : 1 < B) (hfb1 : 1 < f ∧ 1 < bb)
   (hr : Rd w D S dc data) (hD : ∀ ad,D = some ad → ad.block ≠ wp ∧ ad.block ≠ f ∧ ad.block ≠ bb ∧ LA.map (·.block) ≠ some ad.block) (hnx : next ≤ 17) (hnl : nl ≤ 1000) (htk : taken ≤ 1000)
   (hz : (redB M (rowB s K P id,data) (K + P)).1 ≠ 0#64) :
   Calls Tryz.prog 87 #[.pointer (some ⟨sp,0,none⟩),.int .u32 (V id),.slice D S dc] w fun e w' => e = .returned (.int .i64 0) ∧ ∃ bk' LA' cl' M',
     StAt w' B sp wp f bb d g rb bk' gen s K P S L LA' (nl + 1) cl' (next + 1) (addL l gen id S next data) er wear (rows ++ [(rowB s K P id,data)]) M' (rank + 1) (taken + 1) ∧
     Fr (StoF wp f bb LA d g rb bk M) w w' ∧ (∀ b,StoF wp f bb LA' d g rb bk' M' b → StoF wp f bb LA d g rb bk M b ∨ w.heap.size ≤ b) := by
 have c3 := h.st.cell (i := 3) (v := .int .i64 (S : Int)) rfl
 have c6 := h.st.cell (i := 6) (v := .pointer (some ⟨wp,0,none⟩)) rfl
 have c7 := h.st.cell (i := 7) (v := .pointer (some ⟨d,0,none⟩)) rfl
 have hsm : ((S : Int) != (S : Int)) = false := by simp
 have hS16 : S ≤ 16 := by rcases hs with rfl | rfl <;> decide
 have hsy := dsays_any s K P S g rb d bk M rank taken 0 _ id w h.dc h.mt hok hn hS16 hn1 hT
 rw [redB_fst M _ _ data] at hsy
 have hb0 : ((redB M (rowB s K P id,data) (K + P)).1 != 0#64) = true := by simp [hz]
 rw [hb0] at hsy
 clear hb0
 obtain ⟨xs,hown⟩ := h.own
 go_enter Tryz.func87,Tryz.ntmps87
 go_wp2_with fail
 refine hsy.mono ?_
 rintro e w1 ⟨rfl,hb1⟩
 have h1 := h.below hb1
 have hown1 := own2_below hown hb1
 have hr1 := hr.below hb1
 have hT1 := hT.below hb1
 clear c3 c7 hsy
 have c6 := h1.st.cell (i := 6) (v := .pointer (some ⟨wp,0,none⟩)) rfl
 go_wp2_with fail
 refine (wadd_any wp f bb B gen id S LA nl cl xs (rdyN S next) next l er wear D dc data w1 h1.wh h1.fl hs hr1 (fun ad had => ⟨(hD ad had).1,(hD ad had).2.1,(hD ad had).2.2.1⟩) h1.base hown1 hnx hnl (fun hne => enter_ok S next l hs hnx h1.fl.2.2 h1.blank hne)).mono ?_
 rintro e w2 ⟨rfl,LA',cl',xs',hw2,hf2,ho2,hF2,hA2⟩
 have hLne : ∀ b cs t,Blk w1 b cs t → t ≠ 236 → LA.map (·.block) ≠ some b := by
   intro b cs t hb ht hk
   obtain ⟨cur,hb2⟩ := own2_at hown1 hk
   exact hb2.ne hb (Ne.symm ht) rfl
 obtain ⟨_,_,hfb⟩ := h1.fl.blk
 have hsp2 := h1.st.fr hF2 (by
   rintro (k | k | k | k)
   · exact h1.st.ne h1.wh (by decide) k
   · exact h1.st.ne hfb (by decide) k
   · exact h1.fl.2.1.ne h1.st (by decide) k.symm
   · exact hLne _ _ _ h1.st (by decide) k)
 have hd2 := h1.dc.fr hF2 (by
   rintro (k | k | k | k)
   · exact h1.dc.ne h1.wh (by decide) k
   · exact h1.dc.ne hfb (by decide) k
   · exact h1.fl.2.1.ne h1.dc (by decide) k.symm
   · exact hLne _ _ _ h1.dc (by decide) k)
 have hmf2 : ∀ b,MatF g rb bk M b → ¬ AddF wp f bb LA b := by
   intro b hb
   have hlo := h1.low.2.2.2 b hb
   obtain ⟨cs,t,hbb,ht⟩ := h1.mt.typ hb
   have hfb2 := h1.fb
   rintro (k | k | k | k)
   · subst k; exact h1.mt.not h1.wh (by decide) hb
   · omega
   · omega
   · refine hLne _ _ _ hbb ?_ k
     rintro rfl
     revert ht
     decide
 have hm2 := h1.mt.fr hF2 hmf2
 have hr2 := hr1.fr hF2 (fun _ ad had => by
   have := hD ad had
   rintro (k | k | k | k)
   · exact this.1 k
   · exact this.2.1 k
   · exact this.2.2.1 k
   · exact this.2.2.2 k)
 have hT2 : Tab64 w2 := hT1.keep hF2 (by
   have := h1.low
   rintro (k | k | k | k)
   · omega
   · omega
   · omega
   · have := own2_ge hown1 k; omega)
 have hM1 : ¬ MatF g rb bk M 1 := fun k => by have := h1.low.2.2.2 1 k; omega
 have hbits := h1.inv.bits (rowB s K P id,data) (fun k hk => rowB_lt s K P id k hk)
 have hrk := h1.inv.le
 have hdt := dtake_any s K P S g rb d bk M rank taken 0 _ id D dc data w2 hd2 hm2 h1.nod hr2 hok hn hS16 hn1 hT2 hM1 hbits (by omega) htk
 clear c6
 have c7 := hsp2.cell (i := 7) (v := .pointer (some ⟨d,0,none⟩)) rfl
 go_wp2_with fail
 refine hdt.mono ?_
 rintro e w3 (⟨k,_⟩ | ⟨at_,q,hat,rfl,hm3,hd3,hq3,hF3⟩)
 · exact absurd k hz
 have hs2 := hF2.size
 have hs1 := hb1.size
 clear c7 hdt hbits
 go_wp2_with fail
 go_ret
 have hF12 : Fr (StoF wp f bb LA d g rb bk M) w w2 := (Fr.of hb1).step hF2 (fun b _ k => by
   rcases k with k | k | k | k
   · exact .inl k
   · exact .inr (.inl k)
   · exact .inr (.inr (.inl k))
   · exact .inr (.inr (.inr (.inl k))))
 have hF13 : Fr (StoF wp f bb LA d g rb bk M) w w3 := hF12.step hF3 (fun b _ k => by
   rcases k with k | k
   · exact .inr (.inr (.inr (.inr (.inl k))))
   · exact .inr (.inr (.inr (.inr (.inr k)))))
 have hlw : B ≤ w2.heap.size := by have := h1.base; omega
 obtain ⟨_,_,hfb2⟩ := hf2.blk
 have hLne2 : ∀ b cs t,Blk w2 b cs t → t ≠ 236 → LA'.map (·.block) ≠ some b := by
   intro b cs t hb ht hk
   obtain ⟨cur,hb2⟩ := own2_at ho2 hk
   exact hb2.ne hb (Ne.symm ht) rfl
 have hno : ∀ b,(b = d ∨ MatF g rb bk M b) → B ≤ b ∧ ∃ cs t,Blk w2 b cs t ∧ (t = 280 ∨ t = 274 ∨ t = 277 ∨ t = 264 ∨ t = 36 ∨ t = 5 ∨ t = 239) := by
   rintro b (k | k)
   · subst k; exact ⟨h1.low.2.2.1,_,_,hd2,by decide⟩
   · obtain ⟨cs,t,k1,k2⟩ := hm2.typ k
     exact ⟨h1.low.2.2.2 b k,cs,t,k1,by rcases k2 with k2 | k2 | k2 | k2 | k2 | k2 <;> subst k2 <;> decide⟩
 have hkeep : ∀ b cs t,Blk w2 b cs t → (t = 197 ∨ t = 242 ∨ t = 130 ∨ t = 236) → ¬ (b = d ∨ MatF g rb bk M b) := by
   intro b cs t hb ht hk
   obtain ⟨_,cs',t',k1,k2⟩ := hno b hk
   refine hb.ne k1 ?_ rfl
   rintro rfl
   revert ht k2
   rintro (k | k | k | k) (k2 | k2 | k2 | k2 | k2 | k2 | k2) <;> subst k <;> revert k2 <;> decide
 have hfl3 := hf2.fr hF3 (hkeep _ _ _ hfb2 (by decide)) (fun k => by have := (hno _ k).1; have := h1.fb; omega)
 have hst3 := hsp2.fr hF3 (hkeep _ _ _ hsp2 (by decide))
 have hwh3 := hw2.fr hF3 (hkeep _ _ _ hw2 (by decide))
 have hown3 := own2_fr ho2 hF3 (fun b hb => by
   obtain ⟨cur,k⟩ := own2_at ho2 hb
   exact hkeep _ _ _ k (by decide))
 refine ⟨rfl,bkSet bk at_ q,LA',cl',addB M at_ (redB M (rowB s K P id,data) (K + P)),⟨hst3,by rw [rdyN_succ]; exact hwh3,⟨xs',hown3⟩,hfl3,hd3,hm3,h1.inv.add _ hat (fun k hk => rowB_lt s K P id k hk),⟨h1.low.1,h1.low.2.1,h1.low.2.2.1,fun b hb => ?_⟩,fun hb => ?_,h1.fb,addL_blank l gen id S next data hs h1.blank,by have := hF3.size; omega⟩,hF13,?_⟩
 · rcases matF_add hb with k | k | k | k | k
   · exact h1.low.2.2.2 b k
   all_goals omega
 · have hdl := hd2.lt
   rcases matF_add hb with k | k | k | k | k
   · exact h1.nod k
   all_goals omega
 · rintro b (k | k | k | k | k | k)
   · exact .inl (.inl k)
   · exact .inl (.inr (.inl k))
   · exact .inl (.inr (.inr (.inl k)))
   · by_cases hbw : b < w.heap.size
     · left
       rcases hA2 with e | e
       · exact .inr (.inr (.inr (.inl (e.trans k))))
       · have := e b k; omega
     · exact .inr (by omega)
   · exact .inl (.inr (.inr (.inr (.inr (.inl k)))))
   · rcases matF_add k with k | k | k | k | k
     · exact .inl (.inr (.inr (.inr (.inr (.inr k)))))
     all_goals (right; omega)
end
theorem StAt.fr1 {w w' : World} {B sp wp f bb d g rb : Nat} {bk : Nat → RB} {gen s : B32} {K P S L : Nat} {LA : Option Addr} {nl cl next : Nat} {l : List UInt8} {er : Nat → Int} {wear : Int} {rows : List (B64 × List UInt8)} {M : MatB} {rank taken x : Nat}
   (h : StAt w B sp wp f bb d g rb bk gen s K P S L LA nl cl next l er wear rows M rank taken) (hF : Fr (· = x) w w') (hx : x < B) (hxf : x ≠ f) (hxb : x ≠ bb) : StAt w' B sp wp f bb d g rb bk gen s K P S L LA nl cl next l er wear rows M rank taken := by
 have hlo := h.low
 obtain ⟨xs,ho⟩ := h.own
 exact ⟨h.st.fr hF (by omega),h.wh.fr hF (by omega),⟨xs,own2_fr ho hF (fun g hg => by have := own2_ge ho hg; omega)⟩,h.fl.fr hF (fun k => hxf k.symm) (fun k => hxb k.symm),h.dc.fr hF (by omega),h.mt.fr hF (fun b hb => by have := hlo.2.2.2 b hb; omega),h.inv,h.low,h.nod,h.fb,h.blank,Nat.le_trans h.base hF.size⟩
def onA (fl ge v0 : B32) (n0 : Nat) (x0 x1 : Value) (s v : B32) (L S P : Nat) (A2 : Option Addr) (a2 : Nat) : Array Value :=
 #[.int .i64 0,.int .i64 0,.int .u32 (V fl),.int .u32 (V ge),.int .u32 (V v0),.int .i64 n0,x0,.int .u32 (V 0#32),.int .i64 (0 : Nat),x1,.bool true,.int .u32 (V s),.int .u32 (V v),.int .i64 L,.int .i64 S,.int .i64 P,.slice A2 32 a2]
theorem onA_st (fl ge v0 : B32) (n0 : Nat) (H0 : List UInt8) (x0 x1 : Value) (s v : B32) (L S P : Nat) (H2 : List UInt8) (A2 : Option Addr) (a2 : Nat) : stArr (onQ fl ge v0 n0 H0 s v L S P H2) x0 x1 (.slice A2 32 a2) = onA fl ge v0 n0 x0 x1 s v L S P A2 a2 := rfl
theorem opens_on (d f bb : Nat) (Kk : Value) (m : Option Addr) (fl ge v0 : B32) (n0 : Nat) (x0 x1 : Value) (s v : B32) (L S P K : Nat) (A2 : Option Addr) (a2 : Nat) (l : List UInt8) (er : Nat → Int) (wear : Int) (w : World)
   (hd : Blk w d (devC Kk f m) 77) (hF : FlashAt w f bb l er wear) (hK : cnt L S = K) (hok : spOk K P S = true) (hn : K + P ≤ 64) (hs : Sz S) (hL : L ≤ 1000000) (hT : Tab64 w) (hd1 : 1 < d) (hl : ∀ j,1536 ≤ j → j < 3584 → l[j]? = some 255) :
   Calls Tryz.prog 84 #[.pointer (some ⟨d,0,none⟩),.agg (onA fl ge v0 n0 x0 x1 s v L S P A2 a2)] w fun e w' => ∃ mb B sp wp dd g rb bk M rank,e = .returned (.int .i64 0) ∧ Blk w' d (devC Kk f (some ⟨mb,0,none⟩)) 77 ∧ MemAt w' mb (onA fl ge v0 n0 x0 x1 s v L S P A2 a2) (some ⟨sp,0,none⟩) ∧
     StAt w' B sp wp f bb dd g rb bk ge s K P S L none 0 0 0 l er wear (parRs s K S P) M rank 0 ∧ w.heap.size ≤ B ∧ w.heap.size ≤ mb ∧ Fr (· = d) w w' := by
 have hz0 : Blk (w.alloc (.cells (onA fl ge v0 n0 x0 x1 s v L S P A2 a2) 46)) w.heap.size (onA fl ge v0 n0 x0 x1 s v L S P A2 a2) 46 := Blk.new _ _ _
 have hB0 : Below w.heap.size w (w.alloc (.cells (onA fl ge v0 n0 x0 x1 s v L S P A2 a2) 46)) := below_alloc1 _ _
 obtain ⟨w0,hw0⟩ : ∃ w0,w0 = w.alloc (.cells (onA fl ge v0 n0 x0 x1 s v L S P A2 a2) 46) := ⟨_,rfl⟩
 rw [← hw0] at hz0 hB0
 have hdl := hd.lt
 have hs0 := hz0.lt
 have hd0 := hd.below hB0
 obtain ⟨_,_,hfb⟩ := hF.blk
 have hdf : d ≠ f := hd.ne hfb (by decide)
 have hdbb : d ≠ bb := (hF.2.1.ne hd (by decide)).symm
 have hF0 := hF.below hB0
 have h46 : (Tryz.prog.info? 46).map (·.size) = some (onA fl ge v0 n0 x0 x1 s v L S P A2 a2).size := by kernel_rfl
 have hne : w.heap.size ≠ d := by omega
 go_enter Tryz.func84,Tryz.ntmps84
 go_upto_region 1 with fail
 change Code.wp _ _ _ _ (w.alloc (.cells (onA fl ge v0 n0 x0 x1 s v L S P A2 a2) 46))
 rw [← hw0]
 clear hw0
 go_cut [] (fun wx => ∃ mb,Blk wx d (devC Kk f (some ⟨mb,0,none⟩)) 77 ∧ w0.heap.size ≤ mb ∧ Fr (· = d) w0 wx)
 case first =>
   refine wp_region_noPanic ?_
   have hS : Blk w0.drew w.heap.size (onA fl ge v0 n0 x0 x1 s v L S P A2 a2) 46 := Blk.drew hz0
   refine wp_region_held_drew (S := fun x => Blk x w.heap.size (onA fl ge v0 n0 x0 x1 s v L S P A2 a2) 46) (by kernel_rfl) hS (fun _ => ?_)
   refine reg_take 0 (some 7) (.pointer (some ⟨d,0,none⟩)) rfl rfl (by kernel_rfl) (by kernel_rfl) (by kernel_rfl) (fun _ _ _ _ h => h) (by kernel_rfl) (fun _ _ => by kernel_rfl) hS ?_
   refine reg_take 1 (some 8) (.pointer (some ⟨d,0,none⟩)) rfl rfl (by kernel_rfl) (by kernel_rfl) (by kernel_rfl) (fun _ _ _ _ h => h) (by kernel_rfl) (fun _ _ => by kernel_rfl) hS ?_
   refine reg_take 2 (some 9) (.pointer (some ⟨d,2,none⟩)) rfl rfl (by kernel_rfl) (by kernel_rfl) (by kernel_rfl) (fun _ _ _ _ h => h) (by kernel_rfl) (fun _ _ => by kernel_rfl) hS ?_
   refine reg_load 3 (some 10) 46 (.tmp 3) w.heap.size (onA fl ge v0 n0 x0 x1 s v L S P A2 a2) 46 rfl rfl rfl (by kernel_rfl) (by kernel_rfl) (by kernel_rfl) (fun _ _ _ _ h => h) (by kernel_rfl) (by kernel_rfl) _ (fun y hy => hy) (fun _ _ h => h) _ Tryz.underlying46 rfl h46 hS ?_
   refine reg_take 4 (some 11) (.agg ((onA fl ge v0 n0 x0 x1 s v L S P A2 a2).push (.pointer none))) rfl rfl (by kernel_rfl) (by kernel_rfl) (by kernel_rfl) (fun _ _ _ _ h => h) (by kernel_rfl) (fun _ _ => by kernel_rfl) hS ?_
   refine reg_one 5 (by kernel_rfl) ?_
   refine reg_val (some 12) (.pointer (some ⟨w0.heap.size,0,none⟩)) (World.alloc w0.drew (.cells ((onA fl ge v0 n0 x0 x1 s v L S P A2 a2).push (.pointer none)) 90)) rfl rfl (by kernel_rfl) (by kernel_rfl) ⟨hS.alloc _,?_⟩
   refine reg_one 6 (by kernel_rfl) ?_
   refine reg_call (some 13) 70 #[.pointer (some ⟨d,2,none⟩),.pointer (some ⟨w0.heap.size,0,none⟩)] rfl rfl (by kernel_rfl) (by kernel_rfl) ((pstore_any d f w0.heap.size Kk m (onA fl ge v0 n0 x0 x1 s v L S P A2 a2) none _ ((Blk.drew hd0).alloc _) (Blk.new w0.drew _ _)).mono ?_)
   rintro e w3 ⟨rfl,hd3,hF3⟩
   refine ⟨_,rfl,(hS.alloc _).fr hF3 hne,?_⟩
   refine wpAnyH_done (by kernel_rfl) (NoPanic.normal ?_) _
   simp only [Act.put,List.setIfInBounds_toArray,List.set_cons_zero,List.set_cons_succ]
   go_wp2_with fail
   go_meet
   exact ⟨w0.heap.size,hd3,Nat.le_refl _,(Fr.of ((Below.refl _ _).drew.alloc (Nat.le_refl _) _)).trans hF3⟩
 case rest =>
   obtain ⟨mb1,hd1',hmb1,hF1⟩ := hcut
   obtain ⟨W1,hW1⟩ : ∃ W1,W1 = wc := ⟨_,rfl⟩
   subst hW1
   have hz1 := hz0.fr hF1 hne
   have hfl1 := hF0.fr hF1 (fun h => hdf h.symm) (fun h => hdbb h.symm)
   have hFw : Fr (· = d) w W1 := (Fr.of hB0).trans hF1
   have hT1 : Tab64 W1 := hT.keep hFw (by show ¬ (1 = d); omega)
   have hsw := hFw.size
   clear hz0 hd0 hF0 hB0 hd hF
   have c10 := hz1.cell (i := 10) (v := .bool true) rfl
   go_upto_region 4 with fail
   clear c10
   have hc4 : ∀ y,Below W1.heap.size W1 y → y.cell? ⟨d,1,none⟩ = some (.pointer (some ⟨f,0,none⟩)) ∧ y.cell? ⟨w.heap.size,3,none⟩ = some (.int .u32 (V ge)) ∧ y.cell? ⟨w.heap.size,11,none⟩ = some (.int .u32 (V s)) ∧ y.cell? ⟨w.heap.size,12,none⟩ = some (.int .u32 (V v)) ∧ y.cell? ⟨w.heap.size,13,none⟩ = some (.int .i64 L) ∧ y.cell? ⟨w.heap.size,14,none⟩ = some (.int .i64 S) ∧ y.cell? ⟨w.heap.size,15,none⟩ = some (.int .i64 P) ∧ y.cell? ⟨w.heap.size,16,none⟩ = some (.slice A2 32 a2) := fun y hy => ⟨(hd1'.below hy).cell rfl,(hz1.below hy).cell rfl,(hz1.below hy).cell rfl,(hz1.below hy).cell rfl,(hz1.below hy).cell rfl,(hz1.below hy).cell rfl,(hz1.below hy).cell rfl,(hz1.below hy).cell rfl⟩
   have hc40 := hc4 W1.drew (Below.refl _ _).drew
   have hB40 : Below W1.heap.size W1 W1.drew := (Below.refl _ _).drew
   have hc41 : True := trivial
   have hso : ∀ y,FlashAt y f bb l er wear → Tab64 y → 1 < y.heap.size → Calls Tryz.prog 134 #[.pointer (some ⟨f,0,none⟩),.agg #[.int .u32 (V s),.int .u32 (V v),.int .i64 L,.int .i64 S,.int .i64 P,.slice A2 32 a2],.int .u32 (V ge)] y fun e w' => ∃ sp wp d g rb bk M rank,e = .returned (.tuple #[.pointer (some ⟨sp,0,none⟩),.int .i64 0]) ∧
     StAt w' y.heap.size sp wp f bb d g rb bk ge s K P S L none 0 0 0 l er wear (parRs s K S P) M rank 0 ∧ Below y.heap.size y w' :=
     fun y h1 h2 h3 => sopen_any s v ge L S P K f bb A2 a2 l er wear y h1 hK hok hn hs hL h2 h3 hl
   go_cut [5,6] (fun v5 v6 wx => ∃ sp wp dd g rb bk M rank,v5 = .pointer (some ⟨sp,0,none⟩) ∧ v6 = .int .i64 0 ∧ StAt wx W1.heap.size sp wp f bb dd g rb bk ge s K P S L none 0 0 0 l er wear (parRs s K S P) M rank 0 ∧ Below W1.heap.size W1 wx)
   case first =>
     go_region_held3 (fun y => y.cell? ⟨d,1,none⟩ = some (.pointer (some ⟨f,0,none⟩)) ∧ y.cell? ⟨w.heap.size,3,none⟩ = some (.int .u32 (V ge)) ∧ y.cell? ⟨w.heap.size,11,none⟩ = some (.int .u32 (V s)) ∧ y.cell? ⟨w.heap.size,12,none⟩ = some (.int .u32 (V v)) ∧ y.cell? ⟨w.heap.size,13,none⟩ = some (.int .i64 L) ∧ y.cell? ⟨w.heap.size,14,none⟩ = some (.int .i64 S) ∧ y.cell? ⟨w.heap.size,15,none⟩ = some (.int .i64 P) ∧ y.cell? ⟨w.heap.size,16,none⟩ = some (.slice A2 32 a2))
       (first | (with_reducible exact hc40) | (with_reducible exact hc41))
       ((go_at_call 134; (with_reducible refine (hso _ (hfl1.below hB40) (hT1.below hB40) (by simp; omega)).mono ?_); rintro e w5 ⟨sp,wp,dd,g,rb,bk,M,rank,rfl,hSt,hb5⟩; have hB5 := below_next hB40 hb5; have hc41 := hc4 w5 hB5))
     all_goals
       go_wp2_with fail
       go_meet
       exact ⟨sp,wp,dd,g,rb,bk,M,rank,rfl,rfl,hSt,hB5⟩
   case rest =>
     obtain ⟨sp,wp,dd,g,rb,bk,M,rank,rfl,rfl,hSt,hBc⟩ := hcut
     obtain ⟨W5,hW5⟩ : ∃ W5,W5 = wc := ⟨_,rfl⟩
     subst hW5
     have hd5 := hd1'.below hBc
     have hz5 := hz1.below hBc
     have hs5 := hBc.size
     clear hc4 hc40 hc41 hso hz1 hd1'
     go_upto_region 6 with fail
     go_cut [] (fun wx => ∃ mb,Blk wx d (devC Kk f (some ⟨mb,0,none⟩)) 77 ∧ MemAt wx mb (onA fl ge v0 n0 x0 x1 s v L S P A2 a2) (some ⟨sp,0,none⟩) ∧ W5.heap.size ≤ mb ∧ Fr (· = d) W5 wx)
     case first =>
       refine wp_region_noPanic ?_
       have hS : Blk W5.drew w.heap.size (onA fl ge v0 n0 x0 x1 s v L S P A2 a2) 46 := Blk.drew hz5
       refine wp_region_held_drew (S := fun x => Blk x w.heap.size (onA fl ge v0 n0 x0 x1 s v L S P A2 a2) 46) (by kernel_rfl) hS (fun _ => ?_)
       refine reg_take 0 (some 31) (.pointer (some ⟨d,0,none⟩)) rfl rfl (by kernel_rfl) (by kernel_rfl) (by kernel_rfl) (fun _ _ _ _ h => h) (by kernel_rfl) (fun _ _ => by kernel_rfl) hS ?_
       refine reg_take 1 (some 32) (.pointer (some ⟨d,0,none⟩)) rfl rfl (by kernel_rfl) (by kernel_rfl) (by kernel_rfl) (fun _ _ _ _ h => h) (by kernel_rfl) (fun _ _ => by kernel_rfl) hS ?_
       refine reg_take 2 (some 33) (.pointer (some ⟨d,2,none⟩)) rfl rfl (by kernel_rfl) (by kernel_rfl) (by kernel_rfl) (fun _ _ _ _ h => h) (by kernel_rfl) (fun _ _ => by kernel_rfl) hS ?_
       refine reg_load 3 (some 34) 46 (.tmp 3) w.heap.size (onA fl ge v0 n0 x0 x1 s v L S P A2 a2) 46 rfl rfl rfl (by kernel_rfl) (by kernel_rfl) (by kernel_rfl) (fun _ _ _ _ h => h) (by kernel_rfl) (by kernel_rfl) _ (fun y hy => hy) (fun _ _ h => h) _ Tryz.underlying46 rfl h46 hS ?_
       refine reg_take 4 (some 35) (.pointer (some ⟨sp,0,none⟩)) rfl rfl (by kernel_rfl) (by kernel_rfl) (by kernel_rfl) (fun _ _ _ _ h => h) (by kernel_rfl) (fun _ _ => by kernel_rfl) hS ?_
       refine reg_take 5 (some 36) (.agg ((onA fl ge v0 n0 x0 x1 s v L S P A2 a2).push (.pointer (some ⟨sp,0,none⟩)))) rfl rfl (by kernel_rfl) (by kernel_rfl) (by kernel_rfl) (fun _ _ _ _ h => h) (by kernel_rfl) (fun _ _ => by kernel_rfl) hS ?_
       refine reg_one 6 (by kernel_rfl) ?_
       refine reg_val (some 37) (.pointer (some ⟨W5.heap.size,0,none⟩)) (World.alloc W5.drew (.cells ((onA fl ge v0 n0 x0 x1 s v L S P A2 a2).push (.pointer (some ⟨sp,0,none⟩))) 90)) rfl rfl (by kernel_rfl) (by kernel_rfl) ⟨hS.alloc _,?_⟩
       refine reg_one 7 (by kernel_rfl) ?_
       refine reg_call (some 38) 70 #[.pointer (some ⟨d,2,none⟩),.pointer (some ⟨W5.heap.size,0,none⟩)] rfl rfl (by kernel_rfl) (by kernel_rfl) ((pstore_any d f W5.heap.size Kk (some ⟨mb1,0,none⟩) (onA fl ge v0 n0 x0 x1 s v L S P A2 a2) (some ⟨sp,0,none⟩) _ ((Blk.drew hd5).alloc _) (Blk.new W5.drew _ _)).mono ?_)
       rintro e w3 ⟨rfl,hd3,hF3⟩
       refine ⟨_,rfl,(hS.alloc _).fr hF3 hne,?_⟩
       refine wpAnyH_done (by kernel_rfl) (NoPanic.normal ?_) _
       simp only [Act.put,List.setIfInBounds_toArray,List.set_cons_zero,List.set_cons_succ]
       go_wp2_with fail
       go_meet
       exact ⟨W5.heap.size,hd3,Blk.fr (Blk.new W5.drew _ _) hF3 (by omega),Nat.le_refl _,(Fr.of ((Below.refl _ _).drew.alloc (Nat.le_refl _) _)).trans hF3⟩
     case rest =>
       obtain ⟨mb,hd6,hm6,hmb,hF6⟩ := hcut
       have hSt6 := hSt.fr1 hF6 (by omega) hdf hdbb
       have hFF : Fr (· = d) w wc := (hFw.next hBc).trans hF6
       go_wp2_with fail
       go_ret
       exact ⟨mb,W1.heap.size,sp,wp,dd,g,rb,bk,M,rank,rfl,hd6,hm6,hSt6,hsw,by omega,hFF⟩
end Go.Proofs.YtkkcpblfheplaaaGreatDoor
