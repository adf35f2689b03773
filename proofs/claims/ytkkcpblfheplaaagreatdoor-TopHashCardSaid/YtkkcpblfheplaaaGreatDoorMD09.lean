/- Contracts of functions that the laws of downpourtop reach, and plain facts; no condition beyond what each theorem states. -/
import Derived.Test.YtkkcpblfheplaaaGreatDoorMD08
import Derived.Deep.RegionLaw
set_option maxRecDepth 100000
set_option maxHeartbeats 8000000
set_option linter.all false
namespace Go.Proofs.YtkkcpblfheplaaaGreatDoor
open Go.RowKit
def isMan (key l : List UInt8) : Prop := (unw l).2.2 = 0 ∧ (unw l).1 = 1 ∧ manErr key (unw l).2.1 = 0
def offErr (key l : List UInt8) : Int :=
 if (unw l).2.2 ≠ 0 then (unw l).2.2 else if (unw l).1 = 1 then manErr key (unw l).2.1 else if (unw l).1 = 2 then takErr (unw l).2.1.length else 3
theorem packet_off (d f mb : Nat) (kA : Option Addr) (kn kc : Nat) (key : List UInt8) (st : Array Value) (lp : Option Addr) (X : Option Addr) (m c : Nat) (l : List UInt8) (w : World) (hd : Blk w d (devC (.slice kA kn kc) f (some ⟨mb,0,none⟩)) 77) (hm : MemAt w mb st lp) (hs : st.size = 17) (hoff : st[10]? = some (.bool false))
   (hk : Rd w kA kn kc key) (hkn : kn ≤ 64) (hr : Rd w X m c l) (hbad : ¬ isMan key l) :
   Calls Tryz.prog 12 #[.pointer (some ⟨d,0,none⟩),.slice X m c] w fun e w' => e = .returned (.int .i64 (offErr key l)) ∧ Below w.heap.size w w' := by
 have hpl := pload_still d f mb _ st lp w hd hm hs
 have hun := unwrap_any X m c l w hr
 obtain ⟨k,hkk⟩ : ∃ k,(unw l).1 = k := ⟨_,rfl⟩
 obtain ⟨x,hx⟩ : ∃ x,(unw l).2.1 = x := ⟨_,rfl⟩
 obtain ⟨E,hE⟩ : ∃ E,(unw l).2.2 = E := ⟨_,rfl⟩
 have hoe : Hid (offErr key l = if E ≠ 0 then E else if k = 1 then manErr key x else if k = 2 then takErr x.length else 3) := hide (by unfold offErr; rw [hkk,hx,hE])
 have hbad' : Hid (¬ (E = 0 ∧ k = 1 ∧ manErr key x = 0)) := hide (by unfold isMan at hbad; rw [hkk,hx,hE] at hbad; exact hbad)
 unfold Unw at hun
 rw [hkk,hx,hE] at hun
 obtain ⟨R,hR⟩ : ∃ R,offErr key l = R := ⟨_,rfl⟩
 rw [hR] at hoe ⊢
 clear hbad hkk hx hE hR
 go_enter Tryz.func12,Tryz.ntmps12
 go_wp2_with fail
 refine hpl.mono ?_
 rintro e w0 ⟨rfl,rfl⟩
 go_wp2_with fail
 refine hun.mono ?_
 rintro e w1 ⟨A,n,cc,rfl,hrx,hb1⟩
 have hd1 := hd.below hb1
 have hm1 : MemAt w1 mb st lp := Blk.below hm hb1
 have hk1 := hk.below hb1
 have hnx := hrx.1
 clear hun hpl hd hm hk hr
 by_cases h0 : E = 0
 · subst h0
   by_cases h1 : k = 1
   · subst h1
     have hne : manErr key x ≠ 0 := fun h => hbad'.out ⟨rfl,rfl,h⟩
     have hRr : Hid (R = manErr key x) := hide (by rw [hoe.out]; simp)
     have hn11 : (manErr key x == 11) = false := by
       unfold manErr
       split
       · rfl
       · split
         · rfl
         · split <;> rfl
     have hh := hears_bad d f mb kA kn kc key A n cc x _ w1 hd1 hk1 hkn hrx hne
     obtain ⟨M,hM⟩ : ∃ M,manErr key x = M := ⟨_,rfl⟩
     rw [hM] at hh hRr hn11
     clear hne hM hbad' hoe
     go_wp2_with fail
     refine hh.mono ?_
     rintro e w2 ⟨rfl,hb2⟩
     go_wp2_with fail
     refine (met_any d M w2 hn11).mono ?_
     rintro e w3 ⟨rfl,rfl⟩
     go_wp2_with fail
     go_ret
     exact ⟨by rw [hRr.out]; rfl,below_next hb1 hb2⟩
   · have hk1f : (k == 1) = false := by simp [h1]
     by_cases h2 : k = 2
     · subst h2
       have hRr : Hid (R = takErr n) := hide (by rw [hoe.out,hnx]; simp)
       have hn11 : (takErr n == 11) = false := by
         unfold takErr pktErr
         split
         · rfl
         · split
           · rfl
           · split <;> rfl
       have hh := takes_off d f mb _ st lp A n cc x w1 hd1 hm1 hs hoff hrx
       obtain ⟨M,hM⟩ : ∃ M,takErr n = M := ⟨_,rfl⟩
       rw [hM] at hh hRr hn11
       clear hM hbad' hoe
       go_wp2_with fail
       refine hh.mono ?_
       rintro e w2 ⟨rfl,hb2⟩
       go_wp2_with fail
       refine (met_any d M w2 hn11).mono ?_
       rintro e w3 ⟨rfl,rfl⟩
       go_wp2_with fail
       go_ret
       exact ⟨by rw [hRr.out]; rfl,below_next hb1 hb2⟩
     · have hk2f : (k == 2) = false := by simp [h2]
       have hRr : Hid (R = 3) := hide (by rw [hoe.out]; simp [h1,h2])
       clear hbad' hoe
       go_wp2_with fail
       go_ret
       exact ⟨by rw [hRr.out]; rfl,hb1⟩
 · have hE1 : (E != 0) = true := by simp [h0]
   have hRr : Hid (R = E) := hide (by rw [hoe.out]; simp [h0])
   clear hbad' hoe
   go_wp2_with fail
   go_ret
   exact ⟨by rw [hRr.out]; rfl,hb1⟩
def wheelC (f : Nat) (gen : BitVec 32) (size : Nat) (L : Value) (ready : Int) (next : Nat) : Array Value :=
 #[.pointer (some ⟨f,0,none⟩),.int .u32 (V gen),.int .i64 (size : Int),L,.int .i64 ready,.int .i64 (next : Int)]
def placesN (size : Nat) : Nat := 256 / (size + 13)
def atN (size place : Nat) : Nat := (6 + place / placesN size) * 256 + place % placesN size * (size + 13)
def Sz (size : Nat) : Prop := size = 4 ∨ size = 1
theorem atN_lt (size place : Nat) (hs : Sz size) (hp : place < 8 * placesN size) : atN size place + (size + 13) ≤ 3584 := by
 rcases hs with rfl | rfl
 · have : placesN 4 = 15 := rfl
   rw [this] at hp
   unfold atN; rw [this]
   have := Nat.mod_lt place (show 0 < 15 by decide)
   have : place / 15 ≤ 7 := by omega
   omega
 · have : placesN 1 = 18 := rfl
   rw [this] at hp
   unfold atN; rw [this]
   have := Nat.mod_lt place (show 0 < 18 by decide)
   have : place / 18 ≤ 7 := by omega
   omega
theorem atN_ge (size place : Nat) : 1536 ≤ atN size place := by
 unfold atN
 generalize place / placesN size = q
 generalize place % placesN size * (size + 13) = r
 omega
theorem wwide_still (p f : Nat) (gen : BitVec 32) (size : Nat) (L : Value) (ready : Int) (next : Nat) (w : World) (h : Blk w p (wheelC f gen size L ready next) 242) (hs : Sz size) :
   Calls Tryz.prog 211 #[.pointer (some ⟨p,0,none⟩)] w fun e w' => e = .returned (.int .i64 (size + 13 : Nat)) ∧ w' = w := by
 have c := h.cell (i := 2) (v := .int .i64 (size : Int)) rfl
 rcases hs with rfl | rfl
 all_goals
   go_enter Tryz.func211,Tryz.ntmps211
   go_wp2_with fail
   go_ret
   exact ⟨rfl,rfl⟩
theorem wplaces_still (p f : Nat) (gen : BitVec 32) (size : Nat) (L : Value) (ready : Int) (next : Nat) (w : World) (h : Blk w p (wheelC f gen size L ready next) 242) (hs : Sz size) :
   Calls Tryz.prog 179 #[.pointer (some ⟨p,0,none⟩)] w fun e w' => e = .returned (.int .i64 (placesN size)) ∧ w' = w := by
 have hc := wwide_still p f gen size L ready next w h hs
 rcases hs with rfl | rfl
 all_goals
   go_enter Tryz.func179,Tryz.ntmps179
   go_wp2_with fail
   refine hc.mono ?_
   rintro e w' ⟨rfl,rfl⟩
   go_wp2_with fail
   go_ret
   exact ⟨rfl,rfl⟩
theorem wat_still (p f : Nat) (gen : BitVec 32) (size : Nat) (L : Value) (ready : Int) (next : Nat) (place : Nat) (w : World) (h : Blk w p (wheelC f gen size L ready next) 242) (hs : Sz size) (hp : place < 8 * placesN size) :
   Calls Tryz.prog 182 #[.pointer (some ⟨p,0,none⟩),.int .i64 place] w fun e w' => e = .returned (.int .i64 (atN size place)) ∧ ∃ m,w' = w.drewN m := by
 rcases hs with rfl | rfl
 · have e15 : placesN 4 = 15 := rfl
   obtain ⟨q,hq⟩ : ∃ q,place / 15 = q := ⟨_,rfl⟩
   obtain ⟨r,hr⟩ : ∃ r,place % 15 = r := ⟨_,rfl⟩
   have hp4 : Int.tdiv (place : Int) 15 = (q : Int) := by rw [Int.tdiv_eq_ediv_of_nonneg (by omega)]; omega
   have hm4 : Int.tmod (place : Int) 15 = (r : Int) := by rw [Int.tmod_eq_emod_of_nonneg (by omega)]; omega
   have hae : Hid (((atN 4 place : Nat) : Int) = (6 + (q : Int)) * 256 + (r : Int) * 17) := hide (by unfold atN; rw [e15,hq,hr]; push_cast; rfl)
   have hq7 : (q : Int) ≤ 7 := by omega
   have hq0 : (0 : Int) ≤ q := by omega
   have hr7 : (r : Int) < 15 := by omega
   have hr0 : (0 : Int) ≤ r := by omega
   clear hq hr hp
   go_enter Tryz.func182,Tryz.ntmps182
   go_wp2_with fail
   go_quiet (first | (go_at_call 179; exact Calls.quiet_of_same (wplaces_still p f gen 4 L ready next _ h (.inl rfl))) | (go_at_call 211; exact Calls.quiet_of_same (wwide_still p f gen 4 L ready next _ h (.inl rfl))))
   go_wp2_with fail
   go_ret
   exact ⟨by rw [hae.out]; rfl,nq,rfl⟩
 · have e15 : placesN 1 = 18 := rfl
   obtain ⟨q,hq⟩ : ∃ q,place / 18 = q := ⟨_,rfl⟩
   obtain ⟨r,hr⟩ : ∃ r,place % 18 = r := ⟨_,rfl⟩
   have hp4 : Int.tdiv (place : Int) 18 = (q : Int) := by rw [Int.tdiv_eq_ediv_of_nonneg (by omega)]; omega
   have hm4 : Int.tmod (place : Int) 18 = (r : Int) := by rw [Int.tmod_eq_emod_of_nonneg (by omega)]; omega
   have hae : Hid (((atN 1 place : Nat) : Int) = (6 + (q : Int)) * 256 + (r : Int) * 14) := hide (by unfold atN; rw [e15,hq,hr]; push_cast; rfl)
   have hq7 : (q : Int) ≤ 7 := by omega
   have hq0 : (0 : Int) ≤ q := by omega
   have hr7 : (r : Int) < 18 := by omega
   have hr0 : (0 : Int) ≤ r := by omega
   clear hq hr hp
   go_enter Tryz.func182,Tryz.ntmps182
   go_wp2_with fail
   go_quiet (first | (go_at_call 179; exact Calls.quiet_of_same (wplaces_still p f gen 1 L ready next _ h (.inr rfl))) | (go_at_call 211; exact Calls.quiet_of_same (wwide_still p f gen 1 L ready next _ h (.inr rfl))))
   go_wp2_with fail
   go_ret
   exact ⟨by rw [hae.out]; rfl,nq,rfl⟩
theorem wroom_still (p f : Nat) (gen : BitVec 32) (size : Nat) (L : Value) (ready : Int) (next : Nat) (w : World) (h : Blk w p (wheelC f gen size L ready next) 242) (hs : Sz size) (hn : next ≤ 100) :
   Calls Tryz.prog 178 #[.pointer (some ⟨p,0,none⟩)] w fun e w' => e = .returned (.int .i64 (8 * (placesN size : Int) - (next : Int))) ∧ ∃ m,w' = w.drewN m := by
 have c := h.cell (i := 5) (v := .int .i64 (next : Int)) rfl
 have hn' : (next : Int) ≤ 100 := by omega
 have hn0 : (0 : Int) ≤ (next : Int) := by omega
 have hp : (placesN size : Int) ≤ 18 := by rcases hs with rfl | rfl <;> decide
 have hp0 : (0 : Int) ≤ (placesN size : Int) := by omega
 go_enter Tryz.func178,Tryz.ntmps178
 go_wp2_with fail
 go_quiet (first | (go_at_call 179; exact Calls.quiet_of_same (wplaces_still p f gen size L ready next _ h hs)))
 go_wp2_with fail
 go_ret
 exact ⟨rfl,nq,rfl⟩
def recC (x : BitVec 32) (h : Value) : Array Value := #[.int .u32 (V x),h]
theorem size236 (x : BitVec 32) (h : Value) : (Tryz.prog.info? 236).map (·.size) = some (recC x h).size := by
 have : (Tryz.prog.info? 236).map (·.size) = some 2 := by kernel_rfl
 rw [this]; rfl
theorem one236 (x : BitVec 32) (A : Option Addr) (n c : Nat) : (recC x (.slice A n c)).all (·.oneCell') = true := by simp [recC,Value.oneCell']
theorem wwhole_blank (p f bb : Nat) (gen : BitVec 32) (size : Nat) (L : Value) (ready : Int) (next place : Nat) (l : List UInt8) (er : Nat → Int) (wear : Int) (w : World) (h : Blk w p (wheelC f gen size L ready next) 242) (hF : FlashAt w f bb l er wear) (hs : Sz size)
   (hp : place < 8 * placesN size) (hl : ∀ j,1536 ≤ j → j < 3584 → l[j]? = some 255) :
   Calls Tryz.prog 231 #[.pointer (some ⟨p,0,none⟩),.int .i64 place] w fun e w' => e = .returned (.tuple #[.agg (recC 0#32 (.slice none 0 0)),.bool false]) ∧ Below w.heap.size w w' := by
 have hlt := atN_lt size place hs hp
 have hge := atN_ge size place
 have hS : ∀ y,Below w.heap.size w y → y.cell? ⟨p,0,none⟩ = some (.pointer (some ⟨f,0,none⟩)) := fun y hy => (h.below hy).cell rfl
 obtain ⟨W,hW⟩ : ∃ W,W = w.alloc (.cells (recC 0#32 (.slice none 0 0)) 236) := ⟨_,rfl⟩
 have hBW : Below w.heap.size w W := by rw [hW]; exact below_alloc1 _ _
 have hS0 := hS W.drew hBW.drew
 have hb0 : Blk W w.heap.size (recC 0#32 (.slice none 0 0)) 236 := by rw [hW]; exact Blk.new _ _ _
 have hszz := size236 0#32 (.slice none 0 0)
 have h0 := h.below hBW
 have hF0 := hF.below hBW
 go_enter Tryz.func231,Tryz.ntmps231
 go_wp2_with fail
 change Code.wp _ _ _ _ (w.alloc (.cells (recC 0#32 (.slice none 0 0)) 236))
 generalize w.alloc (.cells (recC 0#32 (.slice none 0 0)) 236) = w1 at *
 subst hW
 have hN : ∀ n,Below w.heap.size w (W.drewN n) := fun n => below_drewN hBW n
 have hS1 : ∀ n,(W.drewN n).cell? ⟨p,0,none⟩ = some (.pointer (some ⟨f,0,none⟩)) := fun n => hS0
 go_region_held3 (fun y => y.cell? ⟨p,0,none⟩ = some (.pointer (some ⟨f,0,none⟩)))
   (first | (with_reducible exact hS0) | (with_reducible exact hS1 _) | (with_reducible exact hS2))
   ((first
     | (go_at_call 182; refine (wat_still p f gen size L ready next place _ (by exact h0) hs hp).mono ?_; rintro e wa ⟨rfl,m,rfl⟩)
     | (go_at_call 211; refine (wwide_still p f gen size L ready next _ (by exact h0) hs).mono ?_; rintro e wb ⟨rfl,rfl⟩)
     | (go_at_call 103; refine (fread_any f bb (atN size place) (size + 13) l er wear _ (by exact hF0) hlt).mono ?_; rintro e w2 ⟨A,c,rfl,ho,hb⟩; have hB2 : Below w.heap.size w w2 := below_next (hN _) hb; have hS2 := hS w2 hB2)))
 all_goals
   have hx : ((l.drop (atN size place)).take (size + 13))[size + 12]? = some 255 := by
     rw [List.getElem?_take_of_lt (by omega),List.getElem?_drop]
     exact hl _ (by omega) (by omega)
   obtain ⟨g,rfl,_,_⟩ := ho.form (by omega)
   have hcx := ho.cell hx
   have hcx2 : w2.cell? ⟨g,size + 13 - 1,none⟩ = some (.int .u8 255) := hcx
   have hwd := wwide_still p f gen size L ready next w2 (h.below hB2) hs
   have e1 : ((size + 13 : Nat) : Int) - 1 = ((size + 12 : Nat) : Int) := by omega
   have hsz : (size : Int) ≤ 4 := by rcases hs with rfl | rfl <;> decide
   have d3 : decide ((size : Int) + 13 - 1 < 0) = false := by simp; omega
   go_wp2_with fail
   refine hwd.mono ?_
   rintro e w3 ⟨rfl,rfl⟩
   have hz2 := hb0.below (show Below W.heap.size W w3 from below_next (below_drewN (Below.refl _ _) _) hb)
   go_wp2_with (first
     | ((with_reducible refine at_build ?_); refine wpList_build_as rfl 236 #[] rfl (recC 0#32 (.slice none 0 0)) (by kernel_rfl) ?_)
     | ((with_reducible refine at_store ?_); refine wpList_store_row rfl 236 (.tmp 4) (.tmp 34) rfl w.heap.size (recC 0#32 (.slice none 0 0)) rfl rfl 236 (recC 0#32 (.slice none 0 0)) hz2 hszz rfl (one236 _ _ _ _) ?_))
   refine bodyPost_ret (results_cell_slot Tryz.results231 _ _ w.heap.size 236 _ (0,0) _ _ rfl rfl (setRow_heap _ _ _ _ _ _ hz2) Tryz.underlying236 rfl hszz) rfl ?_
   exact ⟨rfl,below_setRow hB2 (Nat.le_refl _) _⟩
theorem wreads_blank (p f bb : Nat) (gen : BitVec 32) (size : Nat) (L : Value) (ready : Int) (next sector : Nat) (l : List UInt8) (er : Nat → Int) (wear : Int) (w : World) (h : Blk w p (wheelC f gen size L ready next) 242) (hF : FlashAt w f bb l er wear) (hs : Sz size)
   (hp : sector < 8) (hl : ∀ j,1536 ≤ j → j < 3584 → l[j]? = some 255) :
   Calls Tryz.prog 210 #[.pointer (some ⟨p,0,none⟩),.int .i64 sector] w fun e w' => e = .returned (.tuple #[]) ∧ Below w.heap.size w w' := by
 have hpl : placesN size ≤ 18 := by rcases hs with rfl | rfl <;> decide
 have hpi : (placesN size : Int) ≤ 18 := by omega
 have hsi : (sector : Int) ≤ 8 := by omega
 have hm : (sector : Int) * (placesN size : Int) = ((sector * placesN size : Nat) : Int) := by push_cast; rfl
 have hlt : sector * placesN size < 8 * placesN size := by
   have : 0 < placesN size := by rcases hs with rfl | rfl <;> decide
   exact Nat.mul_lt_mul_of_pos_right hp this
 have hm0 : (0 : Int) ≤ (sector : Int) * (placesN size : Int) := by rw [hm]; omega
 have hm1 : (sector : Int) * (placesN size : Int) ≤ 200 := by rw [hm]; rcases hs with rfl | rfl <;> (simp only [show placesN 4 = 15 from rfl,show placesN 1 = 18 from rfl] at *; omega)
 have Hm := hide hm
 clear hm
 have hszz := size236 0#32 (.slice none 0 0)
 have hc := wplaces_still p f gen size L ready next w h hs
 go_enter Tryz.func210,Tryz.ntmps210
 go_wp2_with fail
 refine hc.mono ?_
 rintro e w' ⟨rfl,rfl⟩
 go_wp2_with fail
 rw [Hm.out]
 refine (wwhole_blank p f bb gen size L ready next (sector * placesN size) l er wear w' h hF hs hlt hl).mono ?_
 rintro e w1 ⟨rfl,hb1⟩
 have hb2 := below_alloc1 w1 (.cells (recC 0#32 (.slice none 0 0)) 236)
 have hz2 : Blk (w1.alloc (.cells (recC 0#32 (.slice none 0 0)) 236)) w1.heap.size (recC 0#32 (.slice none 0 0)) 236 := Blk.new _ _ _
 go_wp2_with ((with_reducible refine at_store ?_); refine wpList_store_row rfl 236 (.tmp 5) (.tmp 18) rfl w1.heap.size (recC 0#32 (.slice none 0 0)) rfl rfl 236 (recC 0#32 (.slice none 0 0)) hz2 hszz rfl (one236 _ _ _ _) ?_)
 refine bodyPost_ret (results_none rfl _ _ _) rfl ?_
 exact ⟨rfl,below_setRow (hb1.alloc hb1.size _) hb1.size _⟩
theorem wopen_blank (f bb : Nat) (gen : BitVec 32) (size : Nat) (l : List UInt8) (er : Nat → Int) (wear : Int) (w : World) (hF : FlashAt w f bb l er wear) (hs : Sz size)
   (hl : ∀ j,1536 ≤ j → j < 3584 → l[j]? = some 255) :
   Calls Tryz.prog 174 #[.pointer (some ⟨f,0,none⟩),.int .u32 (V gen),.int .i64 size] w fun e w' => ∃ p,e = .returned (.tuple #[.pointer (some ⟨p,0,none⟩),.int .i64 0]) ∧ Blk w' p (wheelC f gen size (.slice none 0 0) (-1) 0) 242 ∧ w.heap.size ≤ p ∧ Below w.heap.size w w' := by
 have hs4 : (size : Int) ≤ 4 := by rcases hs with rfl | rfl <;> decide
 have hs1 : (1 : Int) ≤ (size : Int) := by rcases hs with rfl | rfl <;> decide
 have d1 : decide ((size : Int) < 1) = false := by simp; omega
 have d2 : decide (16 < (size : Int)) = false := by simp; omega
 go_enter Tryz.func174,Tryz.ntmps174
 go_wp2_with fail
 refine Calls.mono (show Calls Tryz.prog 103 #[.pointer (some ⟨f,0,none⟩),.int .i64 0,.int .i64 0] w _ from fread_any f bb 0 0 l er wear w hF (by omega)) ?_
 rintro e w1 ⟨A,c,rfl,ho,hb1⟩
 have hF1 := hF.below hb1
 clear ho hF
 go_wp2_with fail
 obtain ⟨w2,hw2⟩ : ∃ w2,w2 = w1.alloc (.cells (wheelC f gen size (.slice none 0 0) (-1) 0) 242) := ⟨_,rfl⟩
 have hb2 : Below w1.heap.size w1 w2 := by rw [hw2]; exact below_alloc1 _ _
 have hB2 : Below w.heap.size w w2 := below_next hb1 hb2
 have hP : Blk w2 w1.heap.size (wheelC f gen size (.slice none 0 0) (-1) 0) 242 := by rw [hw2]; exact Blk.new _ _ _
 have hF2 := hF1.below hb2
 have hge := hb1.size
 change Code.wp _ _ _ _ (w1.alloc (.cells (wheelC f gen size (.slice none 0 0) (-1) 0) 242))
 rw [← hw2]
 clear hw2 hF1
 generalize w1.heap.size = p at *
 go_loopw [36] (fun u wr => ∃ k : Nat,k ≤ 8 ∧ u = .int .i64 (k : Int) ∧ Blk wr p (wheelC f gen size (.slice none 0 0) (-1) 0) 242 ∧ FlashAt wr f bb l er wear ∧ Below w.heap.size w wr) (fun u _ => 8 - (intOf u).toNat)
 case atStart => exact ⟨0,by omega,rfl,hP,hF2,hB2⟩
 case round =>
   clear hP hF2 hB2 hb1 hb2
   obtain ⟨k,hk,rfl,hP,hF,hB⟩ := hrel
   have hk' : (k : Int) ≤ 8 := by omega
   by_cases hlt : k < 8
   · have hlt' : (k : Int) < 8 := by omega
     go_wp2_with fail
     refine (wreads_blank p f bb gen size (.slice none 0 0) (-1) 0 k l er wear wr hP hF hs hlt hl).mono ?_
     rintro e w3 ⟨rfl,hb3⟩
     have hP3 := hP.below hb3
     have hF3 := hF.below hb3
     have hB3 := below_next hB hb3
     clear hP hF
     go_wp2_with fail
     go_roundw
     case rel => exact ⟨k + 1,by omega,by go_num,hP3,hF3,hB3⟩
     case measure => simp [intOf]; omega
   · obtain rfl : k = 8 := by omega
     have c4 := hP.cell (i := 4) (v := .int .i64 (-1)) rfl
     go_wp2_with fail
     go_ret2
     exact ⟨p,rfl,hP,hge,hB⟩
theorem wenters_any (p f bb : Nat) (gen : BitVec 32) (size : Nat) (L : Value) (ready : Int) (next sector : Nat) (l : List UInt8) (er : Nat → Int) (wear : Int) (w : World) (h : Blk w p (wheelC f gen size L ready next) 242) (hF : FlashAt w f bb l er wear)
   (hp : sector < 8) (hb : (sector : Int) ≠ ready → blankL ((l.drop ((6 + sector) * 256)).take 256) = true) :
   Calls Tryz.prog 180 #[.pointer (some ⟨p,0,none⟩),.int .i64 sector] w fun e w' => e = .returned (.int .i64 0) ∧ Below w.heap.size w w' := by
 have c0 := h.cell (i := 0) (v := .pointer (some ⟨f,0,none⟩)) rfl
 have c4 := h.cell (i := 4) (v := .int .i64 ready) rfl
 have hsi : (sector : Int) < 8 := by omega
 have hs0 : (0 : Int) ≤ (sector : Int) := by omega
 by_cases he : (sector : Int) = ready
 · subst he
   have e1 : ((sector : Int) == (sector : Int)) = true := by simp
   clear hb
   go_enter Tryz.func180,Tryz.ntmps180
   go_wp2_with fail
   go_ret
   exact ⟨rfl,Below.refl _ _⟩
 · have e1 : ((sector : Int) == ready) = false := by simp [he]
   have hbl := hide (hb he)
   clear hb he
   have hm : (6 + (sector : Int)) * 256 = (((6 + sector) * 256 : Nat) : Int) := by push_cast; rfl
   have Hm := hide hm
   clear hm
   go_enter Tryz.func180,Tryz.ntmps180
   go_wp2_with fail
   rw [Hm.out]
   refine Calls.mono (show Calls Tryz.prog 117 #[.pointer (some ⟨f,0,none⟩),.int .i64 (((6 + sector) * 256 : Nat) : Int),.int .i64 256] w _ from blank_any f bb ((6 + sector) * 256) 256 l er wear w hF (by omega)) ?_
   rintro e w1 ⟨rfl,hb1⟩
   rw [hbl.out]
   go_wp2_with fail
   go_ret
   exact ⟨rfl,hb1⟩
theorem info236 : (Tryz.prog.info? 236).map (fun i => (i.zero,i.size,i.bytes)) = some (some (.agg #[.int .u32 0,.slice none 0 0]),2,32) := by kernel_rfl
def addL (l : List UInt8) (gen id : BitVec 32) (size next : Nat) (data : List UInt8) : List UInt8 :=
 progN (progN l (atN size next) (putL (four gen ++ four id ++ data)) (size + 12)) (atN size next + (size + 12)) [0] 1
abbrev AddF (p f bb : Nat) (LA : Option Addr) : Nat → Prop := fun g => g = p ∨ g = f ∨ g = bb ∨ LA.map (·.block) = some g
structure AddS (w0 : World) (p f bb B : Nat) (C : Array Value) (LA : Option Addr) (nl cl : Nat) (xs : List Value) (l : List UInt8) (er : Nat → Int) (wear : Int) (D : Option Addr) (n dc : Nat) (data : List UInt8) (w : World) : Prop where
 blk : Blk w p C 242
 fl : FlashAt w f bb l er wear
 rd : Rd w D n dc data
 own : w.ownsRow B 236 2 (.slice LA nl cl) nl xs
 base : B ≤ w.heap.size
 fr : Fr (AddF p f bb LA) w0 w
theorem own2_below {w w' : World} {base : Nat} {e : TypeId} {A : Option Addr} {n c m sz : Nat} {xs : List Value} (h : w.ownsRow base e sz (.slice A n c) m xs) (hb : Below w.heap.size w w') : w'.ownsRow base e sz (.slice A n c) m xs :=
 ownsRow_keep h hb (ownsRow_lt h)
theorem own2_at {w : World} {base : Nat} {e : TypeId} {A : Option Addr} {n c m sz : Nat} {xs : List Value} (h : w.ownsRow base e sz (.slice A n c) m xs) {g : Nat} (hg : A.map (·.block) = some g) : ∃ cur,Blk w g cur e := by
 rcases h.2 with ⟨h2,_⟩ | ⟨g2,cap,cur,hv,hb,hh,_⟩
 · simp only [Value.slice.injEq] at h2
   rw [h2.1] at hg
   cases hg
 · simp only [Value.slice.injEq] at hv
   rw [hv.1] at hg
   obtain rfl : g2 = g := by simpa using hg
   exact ⟨cur,hh⟩
theorem own2_fr {w w' : World} {base : Nat} {e : TypeId} {A : Option Addr} {n c m sz : Nat} {xs : List Value} {S : Nat → Prop} (h : w.ownsRow base e sz (.slice A n c) m xs) (hF : Fr S w w') (hn : ∀ g,A.map (·.block) = some g → ¬ S g) : w'.ownsRow base e sz (.slice A n c) m xs := by
 refine ⟨h.1,?_⟩
 rcases h.2 with h2 | ⟨g2,cap,cur,hv,hb,hh,r⟩
 · exact .inl h2
 · refine .inr ⟨g2,cap,cur,hv,hb,?_,r⟩
   simp only [Value.slice.injEq] at hv
   rw [hF.block g2 (lt_of_block hh) (hn g2 (by rw [hv.1]; rfl))]
   exact hh
section
variable {w0 : World} {p f bb B : Nat} {C : Array Value} {LA : Option Addr} {nl cl : Nat} {xs : List Value} {l : List UInt8} {er : Nat → Int} {wear : Int} {D : Option Addr} {n dc : Nat} {data : List UInt8} {w w' : World}
theorem AddS.below (h : AddS w0 p f bb B C LA nl cl xs l er wear D n dc data w) (hb : Below w.heap.size w w') : AddS w0 p f bb B C LA nl cl xs l er wear D n dc data w' :=
 ⟨h.blk.below hb,h.fl.below hb,h.rd.below hb,own2_below h.own hb,Nat.le_trans h.base hb.size,h.fr.next hb⟩
theorem AddS.drew (h : AddS w0 p f bb B C LA nl cl xs l er wear D n dc data w) : AddS w0 p f bb B C LA nl cl xs l er wear D n dc data w.drew := h.below (Below.refl _ _).drew
theorem AddS.alloc (h : AddS w0 p f bb B C LA nl cl xs l er wear D n dc data w) (o : Obj) : AddS w0 p f bb B C LA nl cl xs l er wear D n dc data (w.alloc o) :=
 h.below ((Below.refl _ _).alloc (Nat.le_refl _) o)
theorem AddS.put {C' : Array Value} (h : AddS w0 p f bb B C LA nl cl xs l er wear D n dc data w) (hD : ∀ ad,D = some ad → ad.block ≠ p ∧ ad.block ≠ f ∧ ad.block ≠ bb) (i : Nat) (v : Value) (hC : C.setIfInBounds i v = C') : AddS w0 p f bb B C' LA nl cl xs l er wear D n dc data (w.setCell ⟨p,i,none⟩ v) := by
 obtain ⟨_,_,hfb⟩ := h.fl.blk
 have hpf : p ≠ f := h.blk.ne hfb (by decide)
 have hpb : bb ≠ p := h.fl.2.1.ne h.blk (by decide)
 have hfr : Fr (· = p) w (w.setCell ⟨p,i,none⟩ v) := Fr.set (S := (· = p)) (Fr.refl _ _) (p := ⟨p,i,none⟩) (fun _ => rfl) _
 refine ⟨h.blk.setCellAt i v hC,h.fl.fr hfr (fun k => hpf k.symm) hpb,h.rd.fr hfr (fun _ ad had => (hD ad had).1),own2_fr h.own hfr (fun g hg => ?_),Nat.le_trans h.base hfr.size,h.fr.step hfr (fun g _ hg => .inl hg)⟩
 obtain ⟨cur,hb⟩ := own2_at h.own hg
 intro k
 subst k
 exact hb.ne h.blk (by decide) rfl
theorem AddS.grown (h : AddS w0 p f bb B C LA nl cl xs l er wear D n dc data w) (hg : w.grownBy w' (Value.slice LA nl cl).ownBlock) : Blk w' p C 242 ∧ FlashAt w' f bb l er wear ∧ Fr (AddF p f bb LA) w0 w' := by
 have eb : (Value.slice LA nl cl).ownBlock = LA.map (·.block) := by cases LA <;> rfl
 rw [eb] at hg
 have hF : Fr (fun g => LA.map (·.block) = some g) w w' := ⟨hg.os,hg.tape,hg.output,hg.size,fun g hg' hn => hg.block g hg' (fun e => hn e.symm)⟩
 obtain ⟨_,_,hfb⟩ := h.fl.blk
 have hne : ∀ g t cs,Blk w g cs t → t ≠ 236 → ¬ LA.map (·.block) = some g := by
   intro g t cs hb ht hk
   obtain ⟨cur,hb2⟩ := own2_at h.own hk
   exact hb2.ne hb (Ne.symm ht) rfl
 refine ⟨h.blk.fr hF (hne _ _ _ h.blk (by decide)),h.fl.fr hF (hne _ _ _ hfb (by decide)) (fun hk => ?_),h.fr.step hF (fun g _ hg => .inr (.inr (.inr hg)))⟩
 obtain ⟨cur,hb2⟩ := own2_at h.own hk
 exact h.fl.2.1.ne hb2 (by decide) rfl
theorem add_last {C' : Array Value} {A : Option Addr} {m cap i : Nat} {ys : List Value} {v : Value} (h1 : Blk w p C 242) (h2 : FlashAt w f bb l er wear) (h3 : Fr (AddF p f bb LA) w0 w) (ho : w.ownsRow B 236 2 (.slice A m cap) m ys) (hC : C.setIfInBounds i v = C') :
   Blk (w.setCell ⟨p,i,none⟩ v) p C' 242 ∧ FlashAt (w.setCell ⟨p,i,none⟩ v) f bb l er wear ∧ (w.setCell ⟨p,i,none⟩ v).ownsRow B 236 2 (.slice A m cap) m ys ∧ Fr (AddF p f bb LA) w0 (w.setCell ⟨p,i,none⟩ v) := by
 obtain ⟨_,_,hfb⟩ := h2.blk
 have hpf : p ≠ f := h1.ne hfb (by decide)
 have hpb : bb ≠ p := h2.2.1.ne h1 (by decide)
 have hfr : Fr (· = p) w (w.setCell ⟨p,i,none⟩ v) := Fr.set (S := (· = p)) (Fr.refl _ _) (p := ⟨p,i,none⟩) (fun _ => rfl) _
 refine ⟨h1.setCellAt i v hC,h2.fr hfr (fun k => hpf k.symm) hpb,own2_fr ho hfr (fun g hg => ?_),h3.step hfr (fun g _ hg => .inl hg)⟩
 obtain ⟨cur,hb⟩ := own2_at ho hg
 intro k
 subst k
 exact hb.ne h1 (by decide) rfl
theorem AddS.prog {l' : List UInt8} (h : AddS w0 p f bb B C LA nl cl xs l er wear D n dc data w) (hD : ∀ ad,D = some ad → ad.block ≠ p ∧ ad.block ≠ f ∧ ad.block ≠ bb) (hF : FlashAt w' f bb l' er wear) (hfr : Fr (fun g => g = f ∨ g = bb) w w') : AddS w0 p f bb B C LA nl cl xs l' er wear D n dc data w' := by
 obtain ⟨_,_,hfb⟩ := h.fl.blk
 have hpf : p ≠ f := h.blk.ne hfb (by decide)
 have hpb : bb ≠ p := h.fl.2.1.ne h.blk (by decide)
 refine ⟨h.blk.fr hfr (by rintro (k | k); exact hpf k; exact hpb k.symm),hF,h.rd.fr hfr (fun _ ad had => by have := hD ad had; rintro (k | k); exact this.2.1 k; exact this.2.2 k),own2_fr h.own hfr (fun g hg => ?_),Nat.le_trans h.base hfr.size,h.fr.step hfr (fun g _ hg => by rcases hg with k | k; exact .inr (.inl k); exact .inr (.inr (.inl k)))⟩
 obtain ⟨cur,hb⟩ := own2_at h.own hg
 rintro (k | k)
 · subst k
   exact hb.ne hfb (by decide) rfl
 · subst k
   exact h.fl.2.1.ne hb (by decide) rfl
theorem AddS.drewN (h : AddS w0 p f bb B C LA nl cl xs l er wear D n dc data w) (k : Nat) : AddS w0 p f bb B C LA nl cl xs l er wear D n dc data (w.drewN k) :=
 h.below (below_drewN (Below.refl _ _) k)
end
theorem wadd_any (p f bb B : Nat) (gen id : BitVec 32) (size : Nat) (LA : Option Addr) (nl cl : Nat) (xs : List Value) (ready : Int) (next : Nat) (l : List UInt8) (er : Nat → Int) (wear : Int) (D : Option Addr) (dc : Nat) (data : List UInt8) (w : World)
   (h : Blk w p (wheelC f gen size (.slice LA nl cl) ready next) 242) (hF : FlashAt w f bb l er wear) (hs : Sz size) (hd : Rd w D size dc data) (hD : ∀ ad,D = some ad → ad.block ≠ p ∧ ad.block ≠ f ∧ ad.block ≠ bb)
   (hB : B ≤ w.heap.size) (ho : w.ownsRow B 236 2 (.slice LA nl cl) nl xs) (hn : next ≤ 17) (hnl : nl ≤ 1000)
   (hbl : ((next / placesN size : Nat) : Int) ≠ ready → blankL ((l.drop ((6 + next / placesN size) * 256)).take 256) = true) :
   Calls Tryz.prog 136 #[.pointer (some ⟨p,0,none⟩),.int .u32 (V id),.slice D size dc] w fun e w' => e = .returned (.int .i64 0) ∧ ∃ A' c' xs',
     Blk w' p (wheelC f gen size (.slice A' (nl + 1 : Nat) c') (next / placesN size : Nat) (next + 1)) 242 ∧ FlashAt w' f bb (addL l gen id size next data) er wear ∧ w'.ownsRow B 236 2 (.slice A' (nl + 1 : Nat) c') (nl + 1) xs' ∧
     Fr (fun g => g = p ∨ g = f ∨ g = bb ∨ LA.map (·.block) = some g) w w' ∧ (LA.map (·.block) = A'.map (·.block) ∨ ∀ g,A'.map (·.block) = some g → w.heap.size ≤ g) := by
 have c0 := h.cell (i := 0) (v := .pointer (some ⟨f,0,none⟩)) rfl
 have c1 := h.cell (i := 1) (v := .int .u32 (V gen)) rfl
 have c2 := h.cell (i := 2) (v := .int .i64 (size : Int)) rfl
 have c5 := h.cell (i := 5) (v := .int .i64 (next : Int)) rfl
 have hni : (next : Int) ≤ 17 := by omega
 have hn0 : (0 : Int) ≤ (next : Int) := by omega
 have hs4 : (size : Int) ≤ 4 := by rcases hs with rfl | rfl <;> decide
 have hs1 : (1 : Int) ≤ (size : Int) := by rcases hs with rfl | rfl <;> decide
 have hpl : 15 ≤ placesN size ∧ placesN size ≤ 18 := by rcases hs with rfl | rfl <;> decide
 obtain ⟨pn,hpn⟩ : ∃ pn,placesN size = pn := ⟨_,rfl⟩
 rw [hpn] at hpl
 obtain ⟨sec,hsec⟩ : ∃ sec,next / placesN size = sec := ⟨_,rfl⟩
 have hsec1 : sec ≤ 1 := by
   rw [← hsec,hpn]
   exact Nat.le_of_lt_succ (Nat.div_lt_of_lt_mul (by omega))
 have hq : Int.tdiv (next : Int) (pn : Int) = (sec : Int) := by
   rw [Int.tdiv_eq_ediv_of_nonneg (by omega),← hsec,hpn]
   rfl
 rw [hsec] at hbl
 rw [hsec]
 have hgt : next < 8 * placesN size := by rw [hpn]; omega
 have hneq : ((size : Int) != (size : Int)) = false := by simp
 have hroom : ((8 : Int) * (pn : Int) - (next : Int) == 0) = false := by simp; omega
 have hat := fun w h => wat_still p f gen size (.slice LA nl cl) ready next next w h hs hgt
 have hbl2 := fun sz => blankL sz
 have hge := atN_ge size next
 have hlt := atN_lt size next hs hgt
 obtain ⟨at_,hat_⟩ : ∃ a,atN size next = a := ⟨_,rfl⟩
 have hri := fun w h hs2 => wroom_still p f gen size (.slice LA nl cl) ready next w h hs hs2
 have hpi := fun w h => wplaces_still p f gen size (.slice LA nl cl) ready next w h hs
 rw [hat_] at hge hlt
 simp only [hat_] at hat
 simp only [hpn] at hri hpi
 have Hat := hide hat_
 have hdl := hide hd.1
 clear hsec hpn hat_ hgt hbl2
 go_enter Tryz.func136,Tryz.ntmps136
 obtain ⟨C,hC⟩ : ∃ C,C = wheelC f gen size (.slice LA nl cl) ready next := ⟨_,rfl⟩
 have hS : AddS w p f bb B C LA nl cl xs l er wear D size dc data w := ⟨by rw [hC]; exact h,hF,hd,ho,hB,Fr.refl _ _⟩
 have hst : ∀ y,Blk y p C 242 → y.cell? ⟨p,0,none⟩ = some (.pointer (some ⟨f,0,none⟩)) ∧ y.cell? ⟨p,1,none⟩ = some (.int .u32 (V gen)) ∧ y.cell? ⟨p,5,none⟩ = some (.int .i64 (next : Int)) := by
   intro y hy
   rw [hC] at hy
   exact ⟨hy.cell rfl,hy.cell rfl,hy.cell rfl⟩
 rw [← hC] at h hri hpi hat
 have Hen := fun w h hF => wenters_any p f bb gen size (.slice LA nl cl) ready next sec l er wear w h hF (by omega) hbl
 rw [← hC] at Hen
 have HC := hide hC
 clear hC hF hd ho hB hbl
 go_wp2_with fail
 refine (hri w h (by omega)).mono ?_
 rintro e w1 ⟨rfl,m,rfl⟩
 have hS1 := hS.drewN m
 clear h c0 c1 c2 c5 hS
 generalize w.drewN m = w1 at *
 obtain ⟨c0,c1,c5⟩ := hst w1 hS1.blk
 go_wp2_with fail
 refine (down_any f bb l er wear w1 hS1.fl).mono ?_
 rintro e w2 ⟨rfl,rfl⟩
 go_wp2_with fail
 go_quiet ((go_at_call 179; exact Calls.quiet_of_same (hpi _ (hS1.drewN _).blk)))
 have hS2 := hS1.drewN nq
 clear c0 c1 c5 hS1
 generalize w1.drewN nq = w2 at *
 go_wp2_with fail
 refine (Hen w2 hS2.blk hS2.fl).mono ?_
 rintro e w3 ⟨rfl,hb3⟩
 have hS3 := hS2.below hb3
 clear hb3 hS2
 obtain ⟨c0,c1,c5⟩ := hst w3 hS3.blk
 go_wp2_with fail
 refine (wword_any gen w3).mono ?_
 rintro e w4 ⟨A4,a4,rfl,ho4,hb4⟩
 have hS4 := hS3.below hb4
 clear c0 c1 c5
 go_wp2_with fail
 refine (wword_any id w4).mono ?_
 rintro e w5 ⟨A5,a5,rfl,ho5,hb5⟩
 have hS5 := hS4.below hb5
 have ho4' := ho4.below hb5
 go_wp2_with fail
 have hb6 := below_alloc1 w5 (.cells #[.slice A4 4 a4,.slice A5 4 a5,.slice D size dc] 22)
 have hS6 := hS5.below hb6
 have k4 := (ho4'.below hb6).rd
 have k5 := (ho5.below hb6).rd
 have kd := hS6.rd
 refine (concat_as (some ⟨w5.heap.size,0,none⟩) 3 3 (size + 8) [four gen,four id,data] (four gen ++ four id ++ data) _ (by simp) (by simp [four_len,hdl.out]; omega) (rdl_three (cell1 _ _ _ _ _ rfl) (cell1 _ _ _ _ _ rfl) (cell1 _ _ _ _ _ rfl) k4 k5 kd) (by omega)).mono ?_
 rintro e w7 ⟨A7,a7,rfl,ho7,hb7⟩
 have hS7 := hS6.below hb7
 go_wp2_with fail
 refine (put_any A7 (size + 8) a7 _ w7 ho7.rd (by omega)).mono ?_
 rintro e w8 ⟨A8,a8,rfl,ho8,hb8⟩
 have hS8 := hS7.below hb8
 obtain ⟨_,_,hfblk⟩ := hS7.fl.blk
 have hlf : f < w7.heap.size ∧ bb < w7.heap.size := ⟨hfblk.lt,hS7.fl.2.1.lt⟩
 have hpf : p ≠ f := hS7.blk.ne hfblk (by decide)
 have hpb : bb ≠ p := hS7.fl.2.1.ne hS7.blk (by decide)
 clear hfblk hS3 hS4 hS5 hS6 hS7 ho4 ho4' ho5 k4 k5 kd hb4 hb5 hb6 ho7 hb7
 obtain ⟨out,hout⟩ : ∃ o,putL (four gen ++ four id ++ data) = o := ⟨_,rfl⟩
 rw [hout] at ho8
 have Hout := hide hout
 have hrd8 := ho8.rd
 have hblk8 := ho8.form (by omega)
 obtain ⟨g8,rfl,hg8,hg8'⟩ := hblk8
 clear hout
 go_wp2_with fail
 have hcells : ∀ y,Blk y p C 242 → y.cell? ⟨p,0,none⟩ = some (.pointer (some ⟨f,0,none⟩)) ∧ y.cell? ⟨p,5,none⟩ = some (.int .i64 (next : Int)) := fun y hy => ⟨(hst y hy).1,(hst y hy).2.2⟩
 have hT0 : ∀ n,(w8.drewN n).cell? ⟨p,0,none⟩ = some (.pointer (some ⟨f,0,none⟩)) ∧ (w8.drewN n).cell? ⟨p,5,none⟩ = some (.int .i64 (next : Int)) := fun n => hcells _ (hS8.drewN n).blk
 have hT1 : w8.drew.cell? ⟨p,0,none⟩ = some (.pointer (some ⟨f,0,none⟩)) ∧ w8.drew.cell? ⟨p,5,none⟩ = some (.int .i64 (next : Int)) := hT0 1
 have hB9f : ∀ k y,Fr (fun g => g = f ∨ g = bb) (w8.drewN k) y → Blk y p C 242 := fun k y hy => (hS8.drewN k).blk.fr hy (by rintro (h | h); exact hpf h; exact hpb h.symm)
 have hT2 : True := trivial
 go_region_held3 (fun y => y.cell? ⟨p,0,none⟩ = some (.pointer (some ⟨f,0,none⟩)) ∧ y.cell? ⟨p,5,none⟩ = some (.int .i64 (next : Int)))
   (first | (with_reducible exact hT1) | (with_reducible exact hT0 _) | (with_reducible exact hT2))
   ((first
     | (go_at_call 182; refine (hat _ (by exact hS8.blk)).mono ?_; rintro e wa ⟨rfl,m2,rfl⟩)
     | (go_at_call 41; refine (program_any f bb at_ (size + 8 + 4) a8 (some ⟨g8,0,none⟩) out l er wear _ (by exact hS8.fl) (by exact hrd8) (by omega) (by intro ad had; cases had; exact ⟨by have := hlf.1; simp; omega,by have := hlf.2; simp; omega⟩)).mono ?_; rintro e w9 ⟨rfl,hF9,hfr9⟩; have hB9 : Blk w9 p C 242 := hB9f _ _ hfr9; have hT2 := hcells w9 hB9)))
 have hS9 := (hS8.drewN _).prog hD hF9 hfr9
 have hrd9 := (show Rd (w8.drewN _) _ _ _ _ from hrd8).fr hfr9 (by intro _ ad had; cases had; have := hlf.1; have := hlf.2; simp; omega)
 clear hrd8 hF9 hfr9 hT0 hT1 hT2 hB9 hB9f hS8
 have hl9 : progN l at_ out (size + 8 + 4) = progN l at_ out (size + 12) := rfl
 obtain ⟨l9,hl9'⟩ : ∃ l9,progN l at_ out (size + 8 + 4) = l9 := ⟨_,rfl⟩
 rw [hl9'] at hS9
 have Hl9 := hide hl9'
 clear hl9 hl9' hrd9 hcells
 go_wp2_with fail
 have hcells : ∀ y,Blk y p C 242 → y.cell? ⟨p,0,none⟩ = some (.pointer (some ⟨f,0,none⟩)) ∧ y.cell? ⟨p,5,none⟩ = some (.int .i64 (next : Int)) := fun y hy => ⟨(hst y hy).1,(hst y hy).2.2⟩
 have hT0 : ∀ n,(w9.drewN n).cell? ⟨p,0,none⟩ = some (.pointer (some ⟨f,0,none⟩)) ∧ (w9.drewN n).cell? ⟨p,5,none⟩ = some (.int .i64 (next : Int)) := fun n => hcells _ (hS9.drewN n).blk
 have hT1 : w9.drew.cell? ⟨p,0,none⟩ = some (.pointer (some ⟨f,0,none⟩)) ∧ w9.drew.cell? ⟨p,5,none⟩ = some (.int .i64 (next : Int)) := hT0 1
 have hT3 : ∀ n o,((w9.drewN n).alloc o).cell? ⟨p,0,none⟩ = some (.pointer (some ⟨f,0,none⟩)) ∧ ((w9.drewN n).alloc o).cell? ⟨p,5,none⟩ = some (.int .i64 (next : Int)) := fun n o => hcells _ ((hS9.drewN n).alloc o).blk
 have hT4 := hT3 1
 have hT5 : ∀ n o k,(((w9.drewN n).alloc o).drewN k).cell? ⟨p,0,none⟩ = some (.pointer (some ⟨f,0,none⟩)) ∧ (((w9.drewN n).alloc o).drewN k).cell? ⟨p,5,none⟩ = some (.int .i64 (next : Int)) := fun n o k => hcells _ (((hS9.drewN n).alloc o).drewN k).blk
 have hT6 := hT5 1
 have hT7' := fun o => hcells _ ((hS9.alloc o).drew).blk
 have hT8 : ∀ o,(w9.alloc o).drew.cell? ⟨p,0,none⟩ = some (.pointer (some ⟨f,0,none⟩)) ∧ (w9.alloc o).drew.cell? ⟨p,5,none⟩ = some (.int .i64 (next : Int)) := fun o => hT7' o
 have hr0 : ∀ k,Rd ((w9.drewN k).alloc (.cells #[.int .u8 0] 5)) (some ⟨w9.heap.size,0,none⟩) 1 1 [0] := fun k => Rd.new (w9.drewN k) 5 (l := [0]) _ rfl (by decide)
 have hr1 : ∀ k m,Rd (((w9.drewN k).alloc (.cells #[.int .u8 0] 5)).drewN m) (some ⟨w9.heap.size,0,none⟩) 1 1 [0] := fun k m => (hr0 k).below (below_drewN (Below.refl _ _) m)
 have hr2 := hr0 1
 have hr3 := hr1 1
 have hr4 : ∀ m,Rd ((w9.alloc (.cells #[.int .u8 0] 5)).drewN m) (some ⟨w9.heap.size,0,none⟩) 1 1 [0] := fun m => (show Rd (w9.alloc (.cells #[.int .u8 0] 5)) _ 1 1 [0] from hr0 0).below (below_drewN (Below.refl _ _) m)
 have hT7 : ∀ o k,((w9.alloc o).drewN k).cell? ⟨p,0,none⟩ = some (.pointer (some ⟨f,0,none⟩)) ∧ ((w9.alloc o).drewN k).cell? ⟨p,5,none⟩ = some (.int .i64 (next : Int)) := fun o k => hcells _ ((hS9.alloc o).drewN k).blk
 have hblk9 : ∀ y,AddS w p f bb B C LA nl cl xs l9 er wear D size dc data y → Blk y p C 242 := fun y h => h.blk
 have hfl9 : ∀ y,AddS w p f bb B C LA nl cl xs l9 er wear D size dc data y → FlashAt y f bb l9 er wear := fun y h => h.fl
 have hpr9 : ∀ y y',AddS w p f bb B C LA nl cl xs l9 er wear D size dc data y → FlashAt y' f bb (progN l9 (at_ + (size + 12)) [0] 1) er wear → Fr (fun g => g = f ∨ g = bb) y y' → AddS w p f bb B C LA nl cl xs (progN l9 (at_ + (size + 12)) [0] 1) er wear D size dc data y' := fun y y' h h1 h2 => h.prog hD h1 h2
 have hfl0 : f < w9.heap.size ∧ bb < w9.heap.size := by
   obtain ⟨_,_,hq⟩ := hS9.fl.blk
   exact ⟨hq.lt,hS9.fl.2.1.lt⟩
 have hP : ∀ W,FlashAt W f bb l9 er wear → Rd W (some ⟨w9.heap.size,0,none⟩) 1 1 [0] → Calls Tryz.prog 41 #[.pointer (some ⟨f,0,none⟩),.int .i64 ((at_ + (size + 12) : Nat) : Int),.slice (some ⟨w9.heap.size,0,none⟩) 1 1] W fun e w' => e = .returned (.int .i64 0) ∧ FlashAt w' f bb (progN l9 (at_ + (size + 12)) [0] 1) er wear ∧ Fr (fun g => g = f ∨ g = bb) W w' := by
   intro W h1 h2
   have := program_any f bb (at_ + (size + 12)) 1 1 (some ⟨w9.heap.size,0,none⟩) [0] l9 er wear W h1 h2 (by omega) (by intro ad had; cases had; simp; omega)
   exact this
 have hwr : IntKind.i64.wrap ((at_ : Int) + ((size : Int) + 8 + 4)) = ((at_ + (size + 12) : Nat) : Int) := by rw [IntKind.wrap_i64]; omega
 have hT2 : True := trivial
 go_region_held3 (fun y => y.cell? ⟨p,0,none⟩ = some (.pointer (some ⟨f,0,none⟩)) ∧ y.cell? ⟨p,5,none⟩ = some (.int .i64 (next : Int)))
   (first | (with_reducible exact hT1) | (with_reducible exact hT0 _) | (with_reducible exact hT4 _) | (with_reducible exact hT3 _ _) | (with_reducible exact hT6 _ _) | (with_reducible exact hT5 _ _ _) | (with_reducible exact hT8 _) | (with_reducible exact hT7 _ _) | (with_reducible exact hT2))
   ((first
     | (go_at_call 182; refine (hat _ (hblk9 _ (by (repeat (first | (with_reducible exact hS9) | (with_reducible apply AddS.drewN) | (with_reducible apply AddS.drew) | (with_reducible apply AddS.alloc)))))).mono ?_; rintro e wa ⟨rfl,m2,rfl⟩)
     | (go_at_call 41; refine (hP _ (hfl9 _ (by (repeat (first | (with_reducible exact hS9) | (with_reducible apply AddS.drewN) | (with_reducible apply AddS.drew) | (with_reducible apply AddS.alloc))))) (by first | (with_reducible exact hr0 _) | (with_reducible exact hr1 _ _) | (with_reducible exact hr2) | (with_reducible exact hr3 _) | (with_reducible exact hr4 _))).mono ?_; rintro e w10 ⟨rfl,hF10,hfr10⟩; have hS10 := hpr9 _ _ (by (repeat (first | (with_reducible exact hS9) | (with_reducible apply AddS.drewN) | (with_reducible apply AddS.drew) | (with_reducible apply AddS.alloc)))) hF10 hfr10; have hT2 := hcells w10 hS10.blk)))
 all_goals
   clear hT0 hT1 hT2 hT3 hT4 hT5 hT6 hT7 hT7' hT8 hr0 hr1 hr2 hr3 hr4 hblk9 hfl9 hpr9 hP hS9 hF10 hfr10 hcells
   obtain ⟨L10,hL10⟩ : ∃ L10,progN l9 (at_ + (size + 12)) [0] 1 = L10 := ⟨_,rfl⟩
   rw [hL10] at hS10
   have HL10 := hide hL10
   clear hL10
   have hS11 := hS10.put hD 4 (.int .i64 (sec : Int)) (C' := wheelC f gen size (.slice LA nl cl) (sec : Int) next) (by rw [HC.out]; rfl)
   have hS12 := hS11.put hD 5 (.int .i64 ((next : Int) + 1)) (C' := wheelC f gen size (.slice LA nl cl) (sec : Int) (next + 1)) rfl
   have e4 := hS10.blk.cell (i := 4) (v := .int .i64 ready) (by rw [HC.out]; rfl)
   have e5 := hS11.blk.cell (i := 5) (v := .int .i64 (next : Int)) rfl
   have z4 := hS10.blk.free 4
   have z5 := hS11.blk.free 5
   go_upto_region 20 with fail
   change Code.wp _ _ _ _ ((w10.setCell ⟨p,4,none⟩ (.int .i64 (sec : Int))).setCell ⟨p,5,none⟩ (.int .i64 ((next : Int) + 1)))
   clear e4 e5 z4 z5 hS10 hS11
   generalize (w10.setCell ⟨p,4,none⟩ (.int .i64 (sec : Int))).setCell ⟨p,5,none⟩ (.int .i64 ((next : Int) + 1)) = w12 at *
   obtain ⟨i0,hi0,hz0,hz1,hz2⟩ := info_parts info236
   have k3 : ∀ n,(w12.drewN n).cell? ⟨p,3,none⟩ = some (.slice LA nl cl) := fun n => (hS12.drewN n).blk.cell rfl
   have k3' := k3 1
   have hrd12 : ∀ y,AddS w p f bb B (wheelC f gen size (.slice LA nl cl) (sec : Int) (next + 1)) LA nl cl xs L10 er wear D size dc data y → Rd y D size dc data := fun y h => h.rd
   have hbl12 : ∀ y y',AddS w p f bb B (wheelC f gen size (.slice LA nl cl) (sec : Int) (next + 1)) LA nl cl xs L10 er wear D size dc data y → Below y.heap.size y y' → AddS w p f bb B (wheelC f gen size (.slice LA nl cl) (sec : Int) (next + 1)) LA nl cl xs L10 er wear D size dc data y' := fun y y' h hb => h.below hb
   have k3d : w12.drew.cell? ⟨p,3,none⟩ = some (.slice LA nl cl) := k3 1
   go_region_law ((first
       | (go_simp; go_at_call 23; refine (clone_any D size dc data _ (hrd12 _ (by (repeat (first | (with_reducible exact hS12) | (with_reducible apply AddS.drewN) | (with_reducible apply AddS.drew))))) (by omega)).mono ?_; rintro e w13 ⟨A13,a13,rfl,ho13,hb13⟩; have hS13 := hbl12 _ w13 (by (repeat (first | (with_reducible exact hS12) | (with_reducible apply AddS.drewN) | (with_reducible apply AddS.drew)))) hb13; have hS14 := hS13.alloc (.cells #[.int .u32 (V id),.slice A13 size a13] 236); have k4 := hS13.blk.cell (i := 3) (v := .slice LA nl cl) rfl; have k5 := hS14.blk.cell (i := 3) (v := .slice LA nl cl) rfl; have hnews := World.news_of_block (cs := #[.int .u32 (V id),.slice A13 size a13]) (t := 236) (fr := (0,0)) (heap_alloc_new w13 _))
       | (refine step_append_lies _ (by rfl) _ _ _ (by rfl) B 236 i0 _ 2 32 Tryz.underlying233 hi0 hz0 hz1 hz2 rfl (by omega) (.slice LA nl cl) nl xs (by rfl) hS14.own ⟨w13.heap.size,0,none⟩ 1 1 [.int .u32 (V id),.slice A13 size a13] (by rfl) (by rfl) hnews (by simp [Value.oneCell']) (by omega) (by simp only [maxLen]; omega) (by omega) hS14.base _ rfl ?_; intro gg cap w15 hown15 hgrow hat15 hlt15; have hS15 := hS14.grown hgrow; have k6 := hS15.1.cell (i := 3) (v := .slice LA nl cl) rfl; have z6 := hS15.1.free 3)))
   all_goals
     obtain ⟨q1,q2,q3,q4⟩ := add_last (i := 3) (v := .slice (some ⟨gg,0,none⟩) (nl + 1) cap) (C' := wheelC f gen size (.slice (some ⟨gg,0,none⟩) (nl + 1) cap) (sec : Int) (next + 1)) hS15.1 hS15.2.1 hS15.2.2 hown15 rfl
     have hq6 : LA.map (·.block) = (some (⟨gg,0,none⟩ : Addr)).map (·.block) ∨ ∀ a : Addr,(some (⟨gg,0,none⟩ : Addr)) = some a → w.heap.size ≤ a.block := by
       have eb : (Value.slice LA nl cl).ownBlock = LA.map (·.block) := by cases LA <;> rfl
       rcases hat15 with k | k
       · rw [eb] at k; exact .inl k
       · right
         intro a ha
         have h1 := hS14.fr.size
         have h2 : a.block = gg := by cases ha; rfl
         rw [h2,k]
         exact h1
     clear hS12 hS13 hS14 hS15 hgrow hown15 hnews k3 k3' k3d k4 k5 k6 z6 hrd12 hbl12 ho13
     have hfin : addL l gen id size next data = L10 := by
       unfold addL
       rw [Hat.out,Hout.out,← HL10.out,← Hl9.out]
     generalize w15.setCell ⟨p,3,none⟩ (.slice (some ⟨gg,0,none⟩) (nl + 1) cap) = w16 at *
     go_wp2_with fail
     go_ret
     have q4' : Fr (fun g => g = p ∨ g = f ∨ g = bb ∨ ∃ a,LA = some a ∧ a.block = g) w w16 := q4.mono (fun g _ h => by
       rcases h with h | h | h | h
       · exact .inl h
       · exact .inr (.inl h)
       · exact .inr (.inr (.inl h))
       · right; right; right
         cases LA with
         | none => cases h
         | some a => exact ⟨a,rfl,by simpa using h⟩)
     exact ⟨rfl,some ⟨gg,0,none⟩,cap,q1,q2,⟨_,q3⟩,q4',hq6⟩
def rdyN (S next : Nat) : Int := if next = 0 then -1 else (((next - 1) / placesN S : Nat) : Int)
theorem rdyN_succ (S next : Nat) : rdyN S (next + 1) = ((next / placesN S : Nat) : Int) := by
 unfold rdyN
 rw [if_neg (by omega),Nat.add_sub_cancel]
theorem atN_4 (k : Nat) : atN 4 k = (6 + k / 15) * 256 + k % 15 * 17 := rfl
theorem atN_1 (k : Nat) : atN 1 k = (6 + k / 18) * 256 + k % 18 * 14 := rfl
theorem atN_succ (S next : Nat) (hs : Sz S) : atN S next + (S + 13) ≤ atN S (next + 1) := by
 rcases hs with rfl | rfl
 · rw [atN_4,atN_4]; omega
 · rw [atN_1,atN_1]; omega
theorem enter_ok (S next : Nat) (l : List UInt8) (hs : Sz S) (hn : next ≤ 17) (hlen : l.length = 3584) (hbl : ∀ j,atN S next ≤ j → j < 3584 → l[j]? = some 255) (hne : ((next / placesN S : Nat) : Int) ≠ rdyN S next) :
   blankL ((l.drop ((6 + next / placesN S) * 256)).take 256) = true := by
 have hat : atN S next = (6 + next / placesN S) * 256 := by
   rcases hs with rfl | rfl
   · rw [atN_4,show placesN 4 = 15 from rfl]
     unfold rdyN at hne
     rw [show placesN 4 = 15 from rfl] at hne
     split at hne
     · rename_i h0; subst h0; rfl
     · omega
   · rw [atN_1,show placesN 1 = 18 from rfl]
     unfold rdyN at hne
     rw [show placesN 1 = 18 from rfl] at hne
     split at hne
     · rename_i h0; subst h0; rfl
     · omega
 have hq : next / placesN S ≤ 1 := by
   rcases hs with rfl | rfl
   · rw [show placesN 4 = 15 from rfl]; omega
   · rw [show placesN 1 = 18 from rfl]; omega
 have hat' : (6 + next / placesN S) * 256 + 256 ≤ 3584 := by omega
 rw [← hat] at hat' ⊢
 unfold blankL
 rw [List.all_eq_true]
 intro x hx
 obtain ⟨i,hi⟩ := List.getElem?_of_mem hx
 rw [List.getElem?_take] at hi
 split at hi
 · rw [List.getElem?_drop,hbl _ (by omega) (by omega)] at hi
   simpa using (Option.some.inj hi).symm
 · cases hi
theorem addL_len (l : List UInt8) (gen id : BitVec 32) (S next : Nat) (data : List UInt8) : (addL l gen id S next data).length = l.length := by
 unfold addL
 rw [progN_len,progN_len]
theorem addL_other (l : List UInt8) (gen id : BitVec 32) (S next : Nat) (data : List UInt8) (j : Nat) (hj : j < atN S next ∨ atN S next + (S + 13) ≤ j) : (addL l gen id S next data)[j]? = l[j]? := by
 cases hx : l[j]? with
 | none =>
   rw [List.getElem?_eq_none_iff] at hx ⊢
   rw [addL_len]; exact hx
 | some x =>
   unfold addL
   have h1 := progN_get l (atN S next) (putL (four gen ++ four id ++ data)) j x hx (S + 12)
   rw [if_neg (by omega)] at h1
   have h2 := progN_get _ (atN S next + (S + 12)) [0] j x h1 1
   rw [if_neg (by omega)] at h2
   exact h2
theorem addL_blank (l : List UInt8) (gen id : BitVec 32) (S next : Nat) (data : List UInt8) (hs : Sz S) (hbl : ∀ j,atN S next ≤ j → j < 3584 → l[j]? = some 255) : ∀ j,atN S (next + 1) ≤ j → j < 3584 → (addL l gen id S next data)[j]? = some 255 := by
 intro j h1 h2
 have := atN_succ S next hs
 rw [addL_other l gen id S next data j (.inr (by omega))]
 exact hbl j (by omega) h2
theorem addL_low (l : List UInt8) (gen id : BitVec 32) (S next : Nat) (data : List UInt8) (j : Nat) (hj : j < 1536) : (addL l gen id S next data)[j]? = l[j]? :=
 addL_other l gen id S next data j (.inl (by have := atN_ge S next; omega))
end Go.Proofs.YtkkcpblfheplaaaGreatDoor
