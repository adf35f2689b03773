/- Contracts of functions that the laws of downpourtop reach, and plain facts; no condition beyond what each theorem states. -/
import Derived.Test.YtkkcpblfheplaaaGreatDoorMDx02
import Derived.Test.YtkkcpblfheplaaaGreatDoorMRx03
set_option maxRecDepth 100000
set_option maxHeartbeats 8000000
set_option linter.all false
namespace Go.Proofs.YtkkcpblfheplaaaGreatDoor
open Go.RowKit
theorem StC.frN {w w' : World} {st : Array Value} {q : SSt} {S : Nat → Prop} (h : StC w st q) (hF : Fr S w w') (hn : ∀ (i : Nat) A n c ad,st[i]? = some (.slice A n c) → A = some ad → ¬ S ad.block) : StC w' st q := by
 obtain ⟨x0,x1,x2,rfl,h0,h1,h2⟩ := h
 exact ⟨x0,x1,x2,rfl,h0.fr hF (fun A n c ad e k => hn 6 A n c ad (by rw [← e]; rfl) k),h1.fr hF (fun A n c ad e k => hn 9 A n c ad (by rw [← e]; rfl) k),h2.fr hF (fun A n c ad e k => hn 16 A n c ad (by rw [← e]; rfl) k)⟩
theorem finishes_bad (d f bb mb B sp wp dd g rb : Nat) (bk : Nat → RB) (kA : Option Addr) (kn kc : Nat) (fl ge v0 : B32) (n0 : Nat) (x0 x1 : Value) (s v : B32) (L S P K : Nat) (A2 : Option Addr) (a2 : Nat) (LA : Option Addr) (nl cl next : Nat) (fls : List UInt8) (er : Nat → Int) (rows : List (B64 × List UInt8)) (M : MatB) (taken : Nat)
   (H0 H2 : List UInt8) (ds : List (List UInt8)) (w : World) (hd : Blk w d (devC (.slice kA kn kc) f (some ⟨mb,0,none⟩)) 77) (hm : MemAt w mb (onA fl ge v0 n0 x0 x1 s v L S P A2 a2) (some ⟨sp,0,none⟩))
   (hSt : StAt w B sp wp f bb dd g rb bk ge s K P S L LA nl cl next fls er 100 rows M (K + P) taken) (hKe : cnt L S = K) (hok : spOk K P S = true) (hn : K + P ≤ 64) (hSz : Sz S) (hL1 : 1 ≤ L) (hL : L ≤ 512)
   (hl : ds.length = K + P) (hds : ∀ (i : Nat) l,ds[i]? = some l → ∃ x,M i = some (x,l)) (hfl : L ≤ (ds.take K).flatten.length) (hsm : ∀ l,l ∈ ds → l.length ≤ 1000)
   (hst : StC w (onA fl ge v0 n0 x0 x1 s v L S P A2 a2) (onQ fl ge v0 n0 H0 s v L S P H2)) (hq : (onQ fl ge v0 n0 H0 s v L S P H2).Ok) (hqo : (offQ fl ge v0 n0 H0).Ok) (hH : Rd w A2 32 a2 H2) (hlow : ∀ (i : Nat) A n c ad,(onA fl ge v0 n0 x0 x1 s v L S P A2 a2)[i]? = some (.slice A n c) → A = some ad → ad.block < B)
   (hne : sha ((ds.take K).flatten.take L) ≠ H2) (hnum : (numC fls).toNat < 1000) (he : er (toC fls) < 100) (he0 : 0 ≤ er (toC fls)) :
   Calls Tryz.prog 89 #[.pointer (some ⟨d,0,none⟩)] w fun e w' => ∃ mb' st',e = .returned (.int .i64 13) ∧ Blk w' d (devC (.slice kA kn kc) f (some ⟨mb',0,none⟩)) 77 ∧ MemAt w' mb' st' none ∧ StC w' st' (offQ fl ge v0 n0 H0) ∧ FlashAt w' f bb (writeC fls (bytesS (offQ fl ge v0 n0 H0))) (erMore er (toC fls)) 100 ∧ Fr (fun b => b = d ∨ b = f ∨ b = bb ∨ b = dd) w w' := by
 have hpl := pload_still d f mb _ (onA fl ge v0 n0 x0 x1 s v L S P A2 a2) (some ⟨sp,0,none⟩) w hd hm rfl
 have him := simage_any ds hSt hok hn hl hds hKe hL1 hL hfl hsm (by rcases hSz with rfl | rfl <;> decide)
 have c17 := Blk.cell hm (i := 17) (v := .pointer (some ⟨sp,0,none⟩)) rfl
 go_enter Tryz.func89,Tryz.ntmps89
 go_wp2_with fail
 refine hpl.mono ?_
 rintro e w0 ⟨rfl,rfl⟩
 go_wp2_with fail
 refine him.mono ?_
 rintro e w2 ⟨A,c,rfl,ho2,hF2⟩
 have hdd := hSt.dc
 have hmd : mb ≠ dd := Blk.ne hm hdd (by decide)
 have hdv : d ≠ dd := hd.ne hdd (by decide)
 have hm2 : Blk w2 mb ((onA fl ge v0 n0 x0 x1 s v L S P A2 a2).push (.pointer (some ⟨sp,0,none⟩))) 90 := Blk.fr hm hF2 hmd
 have hd2 := hd.fr hF2 hdv
 have hBd := hSt.low.2.2.1
 have hst2 := hst.frN hF2 (fun i A n c ad h1 h2 h3 => by have := hlow i A n c ad h1 h2; have h4 : ad.block = dd := h3; omega)
 have hH2' := hH.fr hF2 (fun _ ad h2 h3 => by have := hlow 16 A2 32 a2 ad rfl h2; have h4 : ad.block = dd := h3; omega)
 have hfb := hSt.fb
 have hfl2 := hSt.fl.fr hF2 (fun k => by have k2 : f = dd := k; omega) (fun k => by have k2 : bb = dd := k; omega)
 have hrd2 := ho2.rd
 clear him hpl c17 hd hst hH ho2
 go_upto_region 3 with fail
 have hcA : ∀ y,Below w2.heap.size w2 y → y.cell? ⟨mb,16,none⟩ = some (.slice A2 32 a2) := fun y hy => (hm2.below hy).cell rfl
 have hc0 := hcA w2.drew (Below.refl _ _).drew
 have hB0 : Below w2.heap.size w2 w2.drew := (Below.refl _ _).drew
 have hc1 : True := trivial
 have hc2 : True := trivial
 have hsum : ∀ y,Rd y A L c ((ds.take K).flatten.take L) → Calls Tryz.prog 19 #[.slice A L c] y _ := fun y hy => shasum_any A L c _ y hy (by omega)
 have heq : ∀ y (A' : Option Addr) (c' : Nat),Rd y A' 32 c' (sha ((ds.take K).flatten.take L)) → Rd y A2 32 a2 H2 → Calls Tryz.prog 67 #[.slice A' 32 c',.slice A2 32 a2] y fun e w' => e = .returned (.bool false) ∧ Below y.heap.size y w' := by
   intro y A' c' h1 h2
   have := equals_any A' A2 32 c' 32 a2 _ H2 y h1 h2
   rw [decide_eq_false hne] at this
   exact this
 go_region_held3 (fun y => y.cell? ⟨mb,16,none⟩ = some (.slice A2 32 a2))
   (first | (with_reducible exact hc0) | (with_reducible exact hc1) | (with_reducible exact hc2))
   ((first
     | (go_at_call 19; (with_reducible refine (hsum _ (hrd2.below hB0)).mono ?_); rintro e w3 ⟨A3,c3,rfl,ho3,hb3⟩; have hB3 := below_next hB0 hb3; have hc1 := hcA w3 hB3; have hr3 := ho3.rd)
     | (go_at_call 67; (with_reducible refine (heq _ _ _ hr3 (hH2'.below hB3)).mono ?_); rintro e w4 ⟨rfl,hb4⟩; have hB4 := below_next hB3 hb4; have hc2 := hcA w4 hB4)))
 all_goals
   have hm4 := hm2.below hB4
   have hst4 := hst2.below hB4
   have hd4 := hd2.below hB4
   have hfl4 := hfl2.below hB4
   clear hcA hc0 hc1 hc2 hsum heq hr3 hrd2 hH2'
   have hsz := hst4.size
   go_wp2_with (first
     | ((with_reducible refine at_load ?_); refine wpList_load_part rfl 46 (.tmp 35) rfl mb 0 rfl 90 ((onA fl ge v0 n0 x0 x1 s v L S P A2 a2).push (.pointer (some ⟨sp,0,none⟩))) (onA fl ge v0 n0 x0 x1 s v L S P A2 a2) (0,0) _ hm4 push_get Tryz.underlying46 rfl hsz ?_))
   refine (drop_on fl ge v0 n0 H0 s v L S P H2 hq _ w4 hst4).mono ?_
   rintro e w5 ⟨st5,rfl,hst5,hb5,hsf5⟩
   have hd5 := hd4.below hb5
   have hfl5 := hfl4.below hb5
   have hlt : ∀ b,DFb d f bb b → b < w4.heap.size := by
     obtain ⟨_,_,hq1⟩ := hfl4.blk
     rintro b (k | k | k)
     · subst k; exact hd4.lt
     · subst k; exact hq1.lt
     · subst k; exact hfl4.2.1.lt
   go_wp2_with fail
   refine (keeps_any d f bb w4.heap.size kA kn kc (some ⟨mb,0,none⟩) (offQ fl ge v0 n0 H0) hqo st5 none fls er w5 hd5 hfl5 hst5 hsf5 hlt hnum he he0).mono ?_
   rintro e w6 ⟨mb',rfl,hd6,hm6,hmb6,hst6,hfl6,hF6⟩
   go_wp2_with fail
   go_ret
   refine ⟨mb',st5,rfl,hd6,hm6,hst6,hfl6,?_⟩
   exact (((hF2.mono (S' := fun b => b = d ∨ b = f ∨ b = bb ∨ b = dd) (fun _ _ h => .inr (.inr (.inr h)))).next hB4).next hb5).step hF6 (fun _ _ h => by
     rcases h with h | h | h
     · exact .inl h
     · exact .inr (.inl h)
     · exact .inr (.inr (.inl h)))
theorem finishes_good (d f bb mb B sp wp dd g rb : Nat) (bk : Nat → RB) (kA : Option Addr) (kn kc : Nat) (fl ge v0 : B32) (n0 : Nat) (x0 x1 : Value) (s v : B32) (L S P K : Nat) (A2 : Option Addr) (a2 : Nat) (LA : Option Addr) (nl cl next : Nat) (fls : List UInt8) (er : Nat → Int) (rows : List (B64 × List UInt8)) (M : MatB) (taken : Nat)
   (H0 H2 : List UInt8) (ds : List (List UInt8)) (w : World) (hd : Blk w d (devC (.slice kA kn kc) f (some ⟨mb,0,none⟩)) 77) (hm : MemAt w mb (onA fl ge v0 n0 x0 x1 s v L S P A2 a2) (some ⟨sp,0,none⟩))
   (hSt : StAt w B sp wp f bb dd g rb bk ge s K P S L LA nl cl next fls er 100 rows M (K + P) taken) (hKe : cnt L S = K) (hok : spOk K P S = true) (hn : K + P ≤ 64) (hSz : Sz S) (hL1 : 1 ≤ L) (hL : L ≤ 512)
   (hl : ds.length = K + P) (hds : ∀ (i : Nat) l,ds[i]? = some l → ∃ x,M i = some (x,l)) (hfl : L ≤ (ds.take K).flatten.length) (hsm : ∀ l,l ∈ ds → l.length ≤ 1000)
   (hst : StC w (onA fl ge v0 n0 x0 x1 s v L S P A2 a2) (onQ fl ge v0 n0 H0 s v L S P H2)) (hq : (onQ fl ge v0 n0 H0 s v L S P H2).Ok) (hqo : (twoQ 3 fl ge v0 v n0 L H0 H2).Ok) (hH : Rd w A2 32 a2 H2) (hlow : ∀ (i : Nat) A n c ad,(onA fl ge v0 n0 x0 x1 s v L S P A2 a2)[i]? = some (.slice A n c) → A = some ad → ad.block < B ∧ ad.block ≠ f ∧ ad.block ≠ bb)
   (hne : sha ((ds.take K).flatten.take L) = H2) (hbl : ∀ k,k < 2 → blankL (sec fls (2 + 1 * 2 + k)) = true) (hnum : (numC (imgC fls ((ds.take K).flatten.take L) 1)).toNat < 1000) (he : er (toC (imgC fls ((ds.take K).flatten.take L) 1)) < 100) (he0 : 0 ≤ er (toC (imgC fls ((ds.take K).flatten.take L) 1))) :
   Calls Tryz.prog 89 #[.pointer (some ⟨d,0,none⟩)] w fun e w' => ∃ mb' st',e = .returned (.int .i64 0) ∧ Blk w' d (devC (.slice kA kn kc) f (some ⟨mb',0,none⟩)) 77 ∧ MemAt w' mb' st' none ∧ StC w' st' (twoQ 3 fl ge v0 v n0 L H0 H2) ∧ FlashAt w' f bb (writeC (imgC fls ((ds.take K).flatten.take L) 1) (bytesS (twoQ 3 fl ge v0 v n0 L H0 H2))) (erMore er (toC (imgC fls ((ds.take K).flatten.take L) 1))) 100 ∧ Fr (fun b => b = d ∨ b = f ∨ b = bb ∨ b = dd) w w' := by
 have hpl := pload_still d f mb _ (onA fl ge v0 n0 x0 x1 s v L S P A2 a2) (some ⟨sp,0,none⟩) w hd hm rfl
 have him := simage_any ds hSt hok hn hl hds hKe hL1 hL hfl hsm (by rcases hSz with rfl | rfl <;> decide)
 have c17 := Blk.cell hm (i := 17) (v := .pointer (some ⟨sp,0,none⟩)) rfl
 go_enter Tryz.func89,Tryz.ntmps89
 go_wp2_with fail
 refine hpl.mono ?_
 rintro e w0 ⟨rfl,rfl⟩
 go_wp2_with fail
 refine him.mono ?_
 rintro e w2 ⟨A,c,rfl,ho2,hF2⟩
 have hdd := hSt.dc
 have hmd : mb ≠ dd := Blk.ne hm hdd (by decide)
 have hdv : d ≠ dd := hd.ne hdd (by decide)
 have hm2 : Blk w2 mb ((onA fl ge v0 n0 x0 x1 s v L S P A2 a2).push (.pointer (some ⟨sp,0,none⟩))) 90 := Blk.fr hm hF2 hmd
 have hd2 := hd.fr hF2 hdv
 have hBd := hSt.low.2.2.1
 have hst2 := hst.frN hF2 (fun i A n c ad h1 h2 h3 => by have := hlow i A n c ad h1 h2; have h4 : ad.block = dd := h3; omega)
 have hH2' := hH.fr hF2 (fun _ ad h2 h3 => by have := hlow 16 A2 32 a2 ad rfl h2; have h4 : ad.block = dd := h3; omega)
 have hfb := hSt.fb
 have hfl2 := hSt.fl.fr hF2 (fun k => by have k2 : f = dd := k; omega) (fun k => by have k2 : bb = dd := k; omega)
 have hrd2 := ho2.rd
 obtain ⟨gA,hgA,hgA1,_⟩ := ho2.form (by omega)
 have hAlow : ∀ ad,A = some ad → w0.heap.size ≤ ad.block := by
   intro ad had
   rw [hgA] at had
   have e : (⟨gA,0,none⟩ : Addr) = ad := by simpa using had
   rw [← e]; exact hgA1
 have hf0 : f < w0.heap.size ∧ bb < w0.heap.size := by
   obtain ⟨_,_,hq1⟩ := hSt.fl.blk
   exact ⟨hq1.lt,hSt.fl.2.1.lt⟩
 clear hgA hgA1
 clear him hpl c17 hd hst hH ho2
 go_upto_region 3 with fail
 have hcA : ∀ y,Below w2.heap.size w2 y → y.cell? ⟨mb,16,none⟩ = some (.slice A2 32 a2) := fun y hy => (hm2.below hy).cell rfl
 have hc0 := hcA w2.drew (Below.refl _ _).drew
 have hB0 : Below w2.heap.size w2 w2.drew := (Below.refl _ _).drew
 have hc1 : True := trivial
 have hc2 : True := trivial
 have hsum : ∀ y,Rd y A L c ((ds.take K).flatten.take L) → Calls Tryz.prog 19 #[.slice A L c] y _ := fun y hy => shasum_any A L c _ y hy (by omega)
 have heq : ∀ y (A' : Option Addr) (c' : Nat),Rd y A' 32 c' (sha ((ds.take K).flatten.take L)) → Rd y A2 32 a2 H2 → Calls Tryz.prog 67 #[.slice A' 32 c',.slice A2 32 a2] y fun e w' => e = .returned (.bool true) ∧ Below y.heap.size y w' := by
   intro y A' c' h1 h2
   have := equals_any A' A2 32 c' 32 a2 _ H2 y h1 h2
   rw [decide_eq_true hne] at this
   exact this
 go_region_held3 (fun y => y.cell? ⟨mb,16,none⟩ = some (.slice A2 32 a2))
   (first | (with_reducible exact hc0) | (with_reducible exact hc1) | (with_reducible exact hc2))
   ((first
     | (go_at_call 19; (with_reducible refine (hsum _ (hrd2.below hB0)).mono ?_); rintro e w3 ⟨A3,c3,rfl,ho3,hb3⟩; have hB3 := below_next hB0 hb3; have hc1 := hcA w3 hB3; have hr3 := ho3.rd)
     | (go_at_call 67; (with_reducible refine (heq _ _ _ hr3 (hH2'.below hB3)).mono ?_); rintro e w4 ⟨rfl,hb4⟩; have hB4 := below_next hB3 hb4; have hc2 := hcA w4 hB4)))
 all_goals
   have hm4 := hm2.below hB4
   have hst4 := hst2.below hB4
   have hd4 := hd2.below hB4
   have hfl4 := hfl2.below hB4
   clear hcA hc0 hc1 hc2 hsum heq hr3 hH2'
   have hsz := hst4.size
   have hrd4 := hrd2.below hB4
   obtain ⟨_,_,hfb4⟩ := hfl4.blk
   have hdf := hd4.ne hfb4 (by decide)
   have hdb := hfl4.2.1.ne hd4 (by decide)
   have hmf := Blk.ne hm4 hfb4 (by decide)
   have hmb := hfl4.2.1.ne hm4 (by decide)
   go_upto_region 8 with fail
   have hcB : ∀ y,Blk y d (devC (.slice kA kn kc) f (some ⟨mb,0,none⟩)) 77 → Blk y mb ((onA fl ge v0 n0 x0 x1 s v L S P A2 a2).push (.pointer (some ⟨sp,0,none⟩))) 90 → y.cell? ⟨d,1,none⟩ = some (.pointer (some ⟨f,0,none⟩)) ∧ y.cell? ⟨mb,0,none⟩ = some (.int .i64 0) := fun y k1 k2 => ⟨k1.cell rfl,k2.cell rfl⟩
   have hB4r : Below w4.heap.size w4 w4.drew := (Below.refl _ _).drew
   have hcb0 := hcB w4.drew (hd4.below hB4r) (hm4.below hB4r)
   have hcb1 : True := trivial
   have hw1 : IntKind.i64.wrap 1 = 1 := by rw [IntKind.wrap_i64]; rfl
   have hsw : Calls Tryz.prog 27 #[.pointer (some ⟨f,0,none⟩),.int .i64 1,.slice A L c] w4.drew fun e w' => e = .returned (.int .i64 0) ∧ FlashAt w' f bb (imgC fls ((ds.take K).flatten.take L) 1) er 100 ∧ Fr (fun g => g = f ∨ g = bb) w4.drew w' := slotwrite_any f bb 1 L c A _ fls er 100 w4.drew (hfl4.below hB4r) (hrd4.below hB4r) hL1 hL (by decide) hbl (fun ad had => by have := hAlow ad had; omega)
   rw [← hw1] at hsw
   clear hw1
   go_region_held3 (fun y => y.cell? ⟨d,1,none⟩ = some (.pointer (some ⟨f,0,none⟩)) ∧ y.cell? ⟨mb,0,none⟩ = some (.int .i64 0))
     (first | (with_reducible exact hcb0) | (with_reducible exact hcb1))
     ((go_at_call 27; (with_reducible refine hsw.mono ?_); rintro e w5 ⟨rfl,hfl5,hF5⟩; have hd5 := (hd4.below hB4r).fr hF5 (by rintro (k | k); exact hdf k; exact hdb k.symm); have hm5 := (hm4.below hB4r).fr hF5 (by rintro (k | k); exact hmf k; exact hmb k.symm); have hcb1 := hcB w5 hd5 hm5))
   all_goals
     have hst5 := (hst4.below hB4r).frN hF5 (fun i A n c ad h1 h2 h3 => by
       have := hlow i A n c ad h1 h2
       rcases h3 with k | k
       · exact this.2.1 k
       · exact this.2.2 k)
     clear hcB hcb0 hcb1 hsw
     go_wp2_with (first
       | ((with_reducible refine at_load ?_); refine wpList_load_part rfl 46 (.tmp 60) rfl mb 0 rfl 90 ((onA fl ge v0 n0 x0 x1 s v L S P A2 a2).push (.pointer (some ⟨sp,0,none⟩))) (onA fl ge v0 n0 x0 x1 s v L S P A2 a2) (0,0) _ hm5 push_get Tryz.underlying46 rfl hsz ?_))
     refine (activate_on fl ge v0 s v n0 L S P H0 H2 hq _ w5 hst5).mono ?_
     rintro e w6 ⟨st6,rfl,hst6,hb6,hsf6⟩
     have hz6 : Blk (w6.alloc (.cells stZ 46)) w6.heap.size stZ 46 := Blk.new _ _ _
     have hsz6 := hst6.size
     have hone6 := hst6.one
     have hsz17 : stZ.size = st6.size := by rw [hst6.size17]; rfl
     have hs6 := hb6.size
     have hB7 : Below w5.heap.size w5 ((w6.alloc (.cells stZ 46)).setRow w6.heap.size st6) := below_setRow (hb6.alloc hs6 _) hs6 _
     have hB7' : Below w6.heap.size w6 ((w6.alloc (.cells stZ 46)).setRow w6.heap.size st6) := below_setRow (below_alloc1 _ _) (Nat.le_refl _) _
     have hz7 := hz6.setRow st6
     go_upto_region 14 with (first
       | ((with_reducible refine at_store ?_); refine wpList_store_row rfl 46 (.tmp 8) (.tmp 63) rfl w6.heap.size st6 rfl rfl 46 stZ hz6 hsz6 hsz17 hone6 ?_))
     change Code.wp _ _ _ _ ((w6.alloc (.cells stZ 46)).setRow w6.heap.size st6)
     generalize (w6.alloc (.cells stZ 46)).setRow w6.heap.size st6 = w7 at *
     have hd7 := hd5.below hB7
     have hfl7 := hfl5.below hB7
     have hst7 := hst6.below hB7'
     have hlt : ∀ b,DFb d f bb b → b < w5.heap.size := by
       obtain ⟨_,_,hq1⟩ := hfl5.blk
       rintro b (k | k | k)
       · subst k; exact hd5.lt
       · subst k; exact hq1.lt
       · subst k; exact hfl5.2.1.lt
     clear hz6 hB7' hst6 hd5 hfl5 hm5 hst5
     go_wp2_with (first
       | ((with_reducible refine at_load ?_); refine wpList_load_row rfl 46 (.tmp 8) rfl w6.heap.size rfl 46 st6 (0,0) _ hz7 Tryz.underlying46 rfl hsz6 ?_))
     refine (keeps_any d f bb w5.heap.size kA kn kc (some ⟨mb,0,none⟩) (twoQ 3 fl ge v0 v n0 L H0 H2) hqo st6 none (imgC fls ((ds.take K).flatten.take L) 1) er w7 hd7 hfl7 hst7 hsf6 hlt hnum he he0).mono ?_
     rintro e w8 ⟨mb',rfl,hd8,hm8,hmb8,hst8,hfl8,hF8⟩
     go_wp2_with fail
     go_ret
     refine ⟨mb',st6,rfl,hd8,hm8,hst8,hfl8,?_⟩
     exact ((((hF2.mono (S' := fun b => b = d ∨ b = f ∨ b = bb ∨ b = dd) (fun _ _ h => .inr (.inr (.inr h)))).next (below_next hB4 hB4r)).step hF5 (fun _ _ h => by
       rcases h with h | h
       · exact .inr (.inl h)
       · exact .inr (.inr (.inl h)))).next hB7).step hF8 (fun _ _ h => by
       rcases h with h | h | h
       · exact .inl h
       · exact .inr (.inl h)
       · exact .inr (.inr (.inl h)))
theorem results_slot_cell {P : Program} {fn : Func} {p q : Tmp} {ty : TypeId} (h : fn.results = #[.tmp q,.cell p ty]) (tmps : Array Value) (w : World) (g : Nat) (t : TypeId) (cs : Array Value) (fr : Nat × Nat) (d : TypeDesc) (v : Value)
   (hp : tmps.getD p undef = .pointer (some ⟨g,0,none⟩)) (hq : tmps.getD q undef = v) (hg : w.heap[g]? = some (.cells cs t fr))
   (hu : P.underlying ty = some d) (hd : (match d with | .struct _ | .array _ _ => true | _ => false) = true) (hi : (P.info? ty).map (·.size) = some cs.size) :
   (results fn tmps).run P w = .ok (.tuple #[v,.agg cs]) w := by
 have hp' : tmps[p]?.getD undef = .pointer (some ⟨g,0,none⟩) := by simpa using hp
 have hq' : tmps[q]?.getD undef = v := by simpa using hq
 simp [results,h,hp',hq',asAddr,run_loadVar_row w g t ty cs fr d hg hu hd hi]
theorem fr_set6 (w : World) (g : Nat) (u0 u1 u2 u3 u4 u5 : Value) : Fr (· = g) w ((((((w.setCell ⟨g,0,none⟩ u0).setCell ⟨g,1,none⟩ u1).setCell ⟨g,2,none⟩ u2).setCell ⟨g,3,none⟩ u3).setCell ⟨g,4,none⟩ u4).setCell ⟨g,5,none⟩ u5) := by
 have h0 := Fr.refl (· = g) w
 have h1 := h0.set (p := ⟨g,0,none⟩) (fun _ => rfl) u0
 have h2 := h1.set (p := ⟨g,1,none⟩) (fun _ => rfl) u1
 have h3 := h2.set (p := ⟨g,2,none⟩) (fun _ => rfl) u2
 have h4 := h3.set (p := ⟨g,3,none⟩) (fun _ => rfl) u3
 have h5 := h4.set (p := ⟨g,4,none⟩) (fun _ => rfl) u4
 exact h5.set (p := ⟨g,5,none⟩) (fun _ => rfl) u5
def manL (key : List UInt8) (s v : B32) (L S P : Nat) (h : List UInt8) : List UInt8 := plainL s v L S P h ++ tag key (plainL s v L S P h)
theorem wrapped_any (s v : B32) (S P : Nat) (A : Option Addr) (L c : Nat) (img : List UInt8) (w : World) (hr : Rd w A L c img) (hm : manOk L S P = true) (hL : L ≤ 512) (hS : S ≤ 16) :
   Calls Tryz.prog 16 #[.int .u32 (V s),.int .u32 (V v),.slice A L c,.int .i64 S,.int .i64 P] w fun e w' => ∃ B d hA hc,e = .returned (.tuple #[.slice B 85 d,.agg (manC s v L S P (.slice hA 32 hc))]) ∧ Rd w' B 85 d (wrapL 1 (manL keyL s v L S P (sha img))) ∧ Rd w' hA 32 hc (sha img) ∧ (∀ ad,hA = some ad → w.heap.size ≤ ad.block) ∧ Below w.heap.size w w' := by
 have hz0 : Blk (w.alloc (.cells (manC 0#32 0#32 0 0 0 (.slice none 0 0)) 44)) w.heap.size (manC 0#32 0#32 0 0 0 (.slice none 0 0)) 44 := Blk.new _ _ _
 have hB0 := below_alloc1 w (.cells (manC 0#32 0#32 0 0 0 (.slice none 0 0)) 44)
 have hsb := V_bd s
 have hvb := V_bd v
 go_enter Tryz.func16,Tryz.ntmps16
 go_wp2_with fail
 refine (rdigest_any A L c img _ (hr.below hB0) (by omega)).mono ?_
 rintro e w1 ⟨hA,hc,rfl,hoh,hb1⟩
 have hz1 := hz0.below hb1
 have hB1 := below_next hB0 hb1
 have hs1 := hB1.size
 have hzm : Blk (w1.alloc (.cells (manC 0#32 0#32 0 0 0 (.slice none 0 0)) 44)) w1.heap.size (manC 0#32 0#32 0 0 0 (.slice none 0 0)) 44 := Blk.new _ _ _
 have hszm := size44 s v L S P (.slice hA 32 hc)
 go_upto_region 2 with (first
   | ((with_reducible refine at_store ?_); refine wpList_store_row rfl 44 (.tmp 12) (.tmp 25) rfl w1.heap.size (manC s v L S P (.slice hA 32 hc)) rfl rfl 44 (manC 0#32 0#32 0 0 0 (.slice none 0 0)) hzm hszm rfl (one44 _ _ _ _ _ _ _ _) ?_))
 have hm2 := hzm.setRow (manC s v L S P (.slice hA 32 hc))
 have hB12 : Below w1.heap.size w1 (World.setRow (w1.alloc (.cells (manC 0#32 0#32 0 0 0 (.slice none 0 0)) 44)) w1.heap.size (manC s v L S P (.slice hA 32 hc))) := below_setRow (below_alloc1 _ _) (Nat.le_refl _) _
 change Code.wp _ _ _ _ (World.setRow (w1.alloc (.cells (manC 0#32 0#32 0 0 0 (.slice none 0 0)) 44)) w1.heap.size (manC s v L S P (.slice hA 32 hc)))
 generalize World.setRow (w1.alloc (.cells (manC 0#32 0#32 0 0 0 (.slice none 0 0)) 44)) w1.heap.size (manC s v L S P (.slice hA 32 hc)) = w2 at *
 have hz2 := hz1.below hB12
 have hB2 := below_next hB1 hB12
 have hs2 := hB2.size
 have hoh2 := hoh.below hB12
 have hs0 := hB0.size
 have hgw : w.heap.size < w1.heap.size := hz1.lt
 clear hzm hz1 hB12 hB1 hb1 hz0 hoh
 have hP : ∀ y,Below w2.heap.size w2 y → ((y.cell? ⟨w1.heap.size,0,none⟩ = some (.int .u32 (V s)) ∧ y.cell? ⟨w1.heap.size,1,none⟩ = some (.int .u32 (V v)) ∧ y.cell? ⟨w1.heap.size,2,none⟩ = some (.int .i64 L) ∧ y.cell? ⟨w1.heap.size,3,none⟩ = some (.int .i64 S) ∧ y.cell? ⟨w1.heap.size,4,none⟩ = some (.int .i64 P) ∧ y.cell? ⟨w1.heap.size,5,none⟩ = some (.slice hA 32 hc)) ∧ Below w2.heap.size w2 y) := fun y hy => by
   have h1 := hm2.below hy
   exact ⟨⟨h1.cell rfl,h1.cell rfl,h1.cell rfl,h1.cell rfl,h1.cell rfl,h1.cell rfl⟩,hy⟩
 have hS0 := hP w2.drew (Below.refl _ _).drew
 have hS2 : True := trivial
 have hS3 : True := trivial
 have hmb : ∀ y B n d,Rd y B 3 d keyL → Below w2.heap.size w2 y → n = 3 → Calls Tryz.prog 46 #[.slice B n d,.agg #[.int .u32 (V s),.int .u32 (V v),.int .i64 L,.int .i64 S,.int .i64 P,.slice hA 32 hc]] y fun e w' => ∃ A' c',e = .returned (.tuple #[.slice A' 76 c',.int .i64 0]) ∧ Own w' y.heap.size 5 A' 76 c' (manL keyL s v L S P (sha img)) ∧ Below y.heap.size y w' := fun y B n d hk hy hn => by
   subst hn
   exact rmanbytes_any s v L S P hA B hc 3 d (sha img) keyL y hm (by omega) (by omega) (hoh2.rd.below hy) hk (by omega)
 clear hm
 dsimp only [Act.put]
 go_cut [13,14] (fun x y wx => ∃ B' d',x = .slice B' 76 d' ∧ y = .int .i64 0 ∧ Own wx w2.heap.size 5 B' 76 d' (manL keyL s v L S P (sha img)) ∧ Below w2.heap.size w2 wx)
 case first =>
   go_region_held3 (fun y => (y.cell? ⟨w1.heap.size,0,none⟩ = some (.int .u32 (V s)) ∧ y.cell? ⟨w1.heap.size,1,none⟩ = some (.int .u32 (V v)) ∧ y.cell? ⟨w1.heap.size,2,none⟩ = some (.int .i64 L) ∧ y.cell? ⟨w1.heap.size,3,none⟩ = some (.int .i64 S) ∧ y.cell? ⟨w1.heap.size,4,none⟩ = some (.int .i64 P) ∧ y.cell? ⟨w1.heap.size,5,none⟩ = some (.slice hA 32 hc)) ∧ Below w2.heap.size w2 y)
     (first | (with_reducible exact hS0) | (with_reducible exact hS2) | (with_reducible exact hS3))
     (first
       | (go_at_call 47; (with_reducible refine (key47_any _).mono ?_); rintro e w3 ⟨A3,c3,rfl,hk3,hkf,hb3⟩; have hB3 := below_next hS0.2 hb3; have hS2 := hP w3 hB3)
       | (go_at_call 46; (with_reducible refine (hmb _ A3 3 c3 hk3 hB3 rfl).mono ?_); rintro e w4 ⟨A4,c4,rfl,ho4,hb4⟩; have hB4 := below_next hB3 hb4; have hS3 := hP w4 hB4))
   all_goals
     go_wp2_with fail
     go_meet
     exact ⟨A4,c4,rfl,rfl,ho4.mono hB3.size,hB4⟩
 case rest =>
   obtain ⟨B',d',rfl,rfl,ho,hB⟩ := hcut
   have hw1 : Calls Tryz.prog 48 #[.int .i64 1,.slice B' 76 d'] wc fun e w' => ∃ A' c',e = .returned (.tuple #[.slice A' (76 + 9) c',.int .i64 0]) ∧ Own w' wc.heap.size 5 A' (76 + 9) c' (wrapL 1 (manL keyL s v L S P (sha img))) ∧ Below wc.heap.size wc w' := rwrap_good 1 B' 76 d' _ wc ho.rd (by omega) (by omega) (by omega)
   have hBw := below_next hB2 hB
   have hzc := hz2.below hB
   have hmc := hm2.below hB
   have hohc := hoh2.below hB
   clear hS0 hP hmb hz2 hm2 hoh2
   go_wp2_with fail
   refine hw1.mono ?_
   rintro e w5 ⟨A5,c5,rfl,ho5,hb5⟩
   have hB5 := below_next hBw hb5
   have hz5 := hzc.below hb5
   have hm5 := hmc.below hb5
   have hoh5 := hohc.below hb5
   have f0 := hm5.cell (i := 0) (v := .int .u32 (V s)) rfl
   have f1 := hm5.cell (i := 1) (v := .int .u32 (V v)) rfl
   have f2 := hm5.cell (i := 2) (v := .int .i64 L) rfl
   have f3 := hm5.cell (i := 3) (v := .int .i64 S) rfl
   have f4 := hm5.cell (i := 4) (v := .int .i64 P) rfl
   have f5 := hm5.cell (i := 5) (v := .slice hA 32 hc) rfl
   have z0 := hz5.cell (i := 0) (v := .int .u32 0) rfl
   have z1 := hz5.cell (i := 1) (v := .int .u32 0) rfl
   have z2 := hz5.cell (i := 2) (v := .int .i64 0) rfl
   have z3 := hz5.cell (i := 3) (v := .int .i64 0) rfl
   have z4 := hz5.cell (i := 4) (v := .int .i64 0) rfl
   have z5 := hz5.cell (i := 5) (v := .slice none 0 0) rfl
   have y0 := hz5.free 0
   have y1 := hz5.free 1
   have y2 := hz5.free 2
   have y3 := hz5.free 3
   have y4 := hz5.free 4
   have y5 := hz5.free 5
   have hset := hide (manZ_set6 w5 w.heap.size hz5)
   have hBs := hide (fun u0 u1 u2 u3 u4 u5 => ((((((hB5.setCell (p := ⟨w.heap.size,0,none⟩) (Nat.le_refl _) u0).setCell (p := ⟨w.heap.size,1,none⟩) (Nat.le_refl _) u1).setCell (p := ⟨w.heap.size,2,none⟩) (Nat.le_refl _) u2).setCell (p := ⟨w.heap.size,3,none⟩) (Nat.le_refl _) u3).setCell (p := ⟨w.heap.size,4,none⟩) (Nat.le_refl _) u4).setCell (p := ⟨w.heap.size,5,none⟩) (Nat.le_refl _) u5))
   go_upto_region 4 with fail
   go_region
   all_goals
     go_wp2_with fail
     have hfr : Fr (· = w.heap.size) w5 (((((((w5.setCell ⟨w.heap.size,0,none⟩ (.int .u32 (V s))).setCell ⟨w.heap.size,1,none⟩ (.int .u32 (V v))).setCell ⟨w.heap.size,2,none⟩ (.int .i64 L)).setCell ⟨w.heap.size,3,none⟩ (.int .i64 S)).setCell ⟨w.heap.size,4,none⟩ (.int .i64 P)).setCell ⟨w.heap.size,5,none⟩ (.slice hA 32 hc)).drew) :=
       (fr_set6 w5 w.heap.size _ _ _ _ _ _).drew
     have hbk := (hset.out (.int .u32 (V s)) (.int .u32 (V v)) (.int .i64 L) (.int .i64 S) (.int .i64 P) (.slice hA 32 hc)).drew
     have hoA : ∀ ad,hA = some ad → w.heap.size + 1 ≤ ad.block := fun ad h0 => by
       rcases hoh5.cases with ⟨h,-⟩ | ⟨g,h,hg,-⟩
       · rw [h] at h0; cases h0
       · rw [h] at h0; cases h0; simpa using hg
     have hbc := hBw.size
     have ho5A : ∀ ad,A5 = some ad → w.heap.size + 1 ≤ ad.block := fun ad h0 => by
       rcases ho5.cases with ⟨h,-⟩ | ⟨g,h,hg,-⟩
       · rw [h] at h0; cases h0
       · rw [h] at h0; cases h0
         have : wc.heap.size ≤ g := hg
         have := hmc.lt
         have := hgw
         show w.heap.size + 1 ≤ g
         omega
     have hR1 := ho5.rd.fr hfr (fun _ ad h => by have := ho5A ad h; omega)
     have hR2 := hoh5.rd.fr hfr (fun _ ad h => by have := hoA ad h; omega)
     have hR3 : ∀ ad,hA = some ad → w.heap.size ≤ ad.block := fun ad h => by have := hoA ad h; omega
     have hR4 := (hBs.out (.int .u32 (V s)) (.int .u32 (V v)) (.int .i64 L) (.int .i64 S) (.int .i64 P) (.slice hA 32 hc)).drew
     clear hset hBs hfr f0 f1 f2 f3 f4 f5 z0 z1 z2 z3 z4 z5 y0 y1 y2 y3 y4 y5
     refine bodyPost_ret (results_slot_cell Tryz.results16 _ _ w.heap.size 44 (manC s v L S P (.slice hA 32 hc)) (0,0) _ _ rfl rfl hbk Tryz.underlying44 rfl (size44 _ _ _ _ _ _)) rfl ?_
     exact ⟨_,_,_,_,rfl,hR1,hR2,hR3,hR4⟩
def sunL : List UInt8 := [115,117,110]
theorem StAt.fr {w w' : World} {B sp wp f bb d g rb : Nat} {bk : Nat → RB} {gen s : B32} {K P S L : Nat} {LA : Option Addr} {nl cl next : Nat} {l : List UInt8} {er : Nat → Int} {wear : Int} {rows : List (B64 × List UInt8)} {M : MatB} {rank taken : Nat} {T : Nat → Prop}
   (h : StAt w B sp wp f bb d g rb bk gen s K P S L LA nl cl next l er wear rows M rank taken) (hF : Fr T w w') (hsp : ¬ T sp) (hn : ∀ b,StoF wp f bb LA d g rb bk M b → ¬ T b) : StAt w' B sp wp f bb d g rb bk gen s K P S L LA nl cl next l er wear rows M rank taken := by
 obtain ⟨xs,ho⟩ := h.own
 refine ⟨h.st.fr hF hsp,h.wh.fr hF (hn _ (.inl rfl)),⟨xs,own2_fr ho hF (fun b hb => ?_)⟩,h.fl.fr hF (hn _ (.inr (.inl rfl))) (hn _ (.inr (.inr (.inl rfl)))),h.dc.fr hF (hn _ (.inr (.inr (.inr (.inr (.inl rfl)))))),h.mt.fr hF (fun b hb => hn _ (.inr (.inr (.inr (.inr (.inr hb)))))),h.inv,h.low,h.nod,h.fb,h.blank,Nat.le_trans h.base hF.size⟩
 exact hn b (.inr (.inr (.inr (.inl hb))))
structure OffP (F : Nat → Prop) (w : World) (d f bb mb : Nat) (kA : Option Addr) (kc : Nat) (st : Array Value) (q : SSt) (fls : List UInt8) (er : Nat → Int) (k : Nat) (b : List UInt8) : Prop where
 dev : Blk w d (devC (.slice kA 3 kc) f (some ⟨mb,0,none⟩)) 77
 key : Rd w kA 3 kc keyL
 keyN : ∀ ad,kA = some ad → ad.block ≠ d ∧ ad.block ≠ f ∧ ad.block ≠ bb
 mem : MemAt w mb st none
 stc : StC w st q
 fla : FlashAt w f bb fls er 100
 flg : FlG fls q k
 ere : ∀ i,0 ≤ er i ∧ er i ≤ k
 sub : Sub fls ((2 + q.act * 2) * 256) b
 len : b.length ≤ 512
 act : (q.act = 0 ∧ q.n0 = b.length) ∨ (q.act = 1 ∧ q.n1 = b.length)
 ok : q.Ok
 off : q.on = false
 bl : k = 1 → ∀ j,1024 ≤ j → j < 3584 → fls[j]? = some 255
 fd : F d ∧ F f ∧ F bb ∧ F mb ∧ F 1
 fk : ∀ ad,kA = some ad → F ad.block
 fh : ∀ (i : Nat) A n c ad,st[i]? = some (.slice A n c) → A = some ad → F ad.block
 big : 1 < d ∧ 1 < f ∧ 1 < bb
 tab : Tab64 w
 lt : ∀ b,F b → b < w.heap.size
def OffD (F : Nat → Prop) (w : World) (d : Nat) (q : SSt) (k : Nat) (b : List UInt8) : Prop := ∃ f bb mb kA kc st fls er,OffP F w d f bb mb kA kc st q fls er k b
theorem OffP.step {F : Nat → Prop} {w w' : World} {d f bb mb : Nat} {kA : Option Addr} {kc : Nat} {st : Array Value} {q : SSt} {fls : List UInt8} {er : Nat → Int} {k : Nat} {b : List UInt8} (h : OffP F w d f bb mb kA kc st q fls er k b) (hF : Fr (fun b => ¬ F b) w w') : OffP F w' d f bb mb kA kc st q fls er k b where
 dev := h.dev.fr hF (fun k => k h.fd.1)
 key := h.key.fr hF (fun _ ad e k => k (h.fk ad e))
 keyN := h.keyN
 mem := Blk.fr h.mem hF (fun k => k h.fd.2.2.2.1)
 stc := h.stc.frN hF (fun i A n c ad e1 e2 k => k (h.fh i A n c ad e1 e2))
 fla := h.fla.fr hF (fun k => k h.fd.2.1) (fun k => k h.fd.2.2.1)
 flg := h.flg
 ere := h.ere
 sub := h.sub
 len := h.len
 act := h.act
 ok := h.ok
 off := h.off
 bl := h.bl
 fd := h.fd
 fk := h.fk
 fh := h.fh
 big := h.big
 tab := h.tab.keep hF (fun k => k h.fd.2.2.2.2)
 lt := fun b hb => Nat.lt_of_lt_of_le (h.lt b hb) hF.size
theorem OffD.step {F : Nat → Prop} {w w' : World} {d : Nat} {q : SSt} {k : Nat} {b : List UInt8} (h : OffD F w d q k b) (hF : Fr (fun b => ¬ F b) w w') : OffD F w' d q k b := by
 obtain ⟨f,bb,mb,kA,kc,st,fls,er,h⟩ := h
 exact ⟨f,bb,mb,kA,kc,st,fls,er,h.step hF⟩
theorem OffD.below {F : Nat → Prop} {w w' : World} {d : Nat} {q : SSt} {k : Nat} {b : List UInt8} (h : OffD F w d q k b) (hB : Below w.heap.size w w') : OffD F w' d q k b := h.step (.of hB)
theorem StC.on10 {w : World} {st : Array Value} {q : SSt} (h : StC w st q) : st[10]? = some (.bool q.on) := by
 obtain ⟨x0,x1,x2,rfl,_⟩ := h
 rfl
theorem OffD.packet {F : Nat → Prop} {w : World} {d : Nat} {q : SSt} {k : Nat} {b : List UInt8} (h : OffD F w d q k b) (X : Option Addr) (m c : Nat) (l : List UInt8) (hr : Rd w X m c l) (hbad : ¬ isMan keyL l) :
   Calls Tryz.prog 12 #[.pointer (some ⟨d,0,none⟩),.slice X m c] w fun e w' => e = .returned (.int .i64 (offErr keyL l)) ∧ Below w.heap.size w w' := by
 obtain ⟨f,bb,mb,kA,kc,st,fls,er,h⟩ := h
 exact packet_off d f mb kA 3 kc keyL st none X m c l w h.dev h.mem h.stc.size17 (by rw [h.stc.on10,h.off]) h.key (by omega) hr hbad
theorem OffD.running {F : Nat → Prop} {w : World} {d : Nat} {q : SSt} {k : Nat} {b : List UInt8} (h : OffD F w d q k b) :
   Calls Tryz.prog 15 #[.pointer (some ⟨d,0,none⟩)] w fun e w' => ∃ A c,e = .returned (.slice A b.length c) ∧ Rd w' A b.length c b ∧ Below w.heap.size w w' := by
 obtain ⟨f,bb,mb,kA,kc,st,fls,er,h⟩ := h
 obtain ⟨i,x,hf,_⟩ := h.flg.fnd
 refine (running_any d f bb _ _ fls er 100 q h.ok i x b.length w h.dev h.fla hf h.act h.len).mono ?_
 rintro e w' ⟨A,c,rfl,ho,hb⟩
 rw [h.sub.read] at ho
 exact ⟨A,c,rfl,ho.rd,hb⟩
theorem OffD.state {F : Nat → Prop} {w : World} {d : Nat} {q : SSt} {k : Nat} {b : List UInt8} (h : OffD F w d q k b) :
   Calls Tryz.prog 14 #[.pointer (some ⟨d,0,none⟩)] w fun e w' => ∃ st',e = .returned (.tuple #[.agg st',.bool true]) ∧ StC w' st' q ∧ Below w.heap.size w w' := by
 obtain ⟨f,bb,mb,kA,kc,st,fls,er,h⟩ := h
 exact dstate_any d f mb _ q st none w h.dev h.mem h.stc
structure Sess (s v : B32) (S P K : Nat) (H2 img : List UInt8) : Prop where
 cn : cnt img.length S = K
 man : manOk img.length S P = true
 sz : Sz S
 len : img.length ≤ 512
 kp : K + P ≤ 18
 h2 : H2.length = 32
 new : 1 < v.toNat
theorem manOk_spL {L S P : Nat} (h : manOk L S P = true) : spOk (cnt L S) P S = true := h
theorem Sess.sp {s v : B32} {S P K : Nat} {H2 img : List UInt8} (h : Sess s v S P K H2 img) : spOk K P S = true := by rw [← h.cn]; exact manOk_spL h.man
theorem Sess.pos {s v : B32} {S P K : Nat} {H2 img : List UInt8} (h : Sess s v S P K H2 img) : 1 ≤ img.length ∧ 1 ≤ S ∧ S ≤ 16 ∧ P ≤ 16 ∧ 1 ≤ K ∧ img.length ≤ K * S := by
 have h1 := manOk_bd h.man
 rw [h.cn] at h1
 refine ⟨h1.1,h1.2.2.1,h1.2.2.2.1,h1.2.2.2.2.1,h1.2.2.2.2.2.1,?_⟩
 have h2 := h1.2.2.2.2.2.2.2
 have h3 := Nat.div_add_mod (img.length + S - 1) S
 have h4 := Nat.mod_lt (img.length + S - 1) (show 0 < S by omega)
 rw [← h2] at h3
 rw [Nat.mul_comm]
 omega
def onS (s v : B32) (S P : Nat) (H2 img : List UInt8) : SSt := onQ 0#32 1#32 1#32 3 (sha sunL) s v img.length S P H2
theorem Sess.ok {s v : B32} {S P K : Nat} {H2 img : List UInt8} (h : Sess s v S P K H2 img) : (onS s v S P H2 img).Ok :=
 .on _ _ _ _ _ _ _ _ _ _ _ (by omega) (by omega) (sha_len _) h.man h.len h.pos.2.2.1 h.pos.2.2.2.1 h.h2
structure OnP (F : Nat → Prop) (w : World) (d f bb mb B sp wp dd g rb : Nat) (bk : Nat → RB) (kA : Option Addr) (kc : Nat) (x0 x1 : Value) (A2 : Option Addr) (a2 : Nat) (LA : Option Addr) (t cl : Nat) (fls : List UInt8) (er : Nat → Int) (rows : List (B64 × List UInt8)) (M : MatB) (rank : Nat)
   (s v : B32) (S P K : Nat) (H2 img : List UInt8) (put : List B32) : Prop where
 dev : Blk w d (devC (.slice kA 3 kc) f (some ⟨mb,0,none⟩)) 77
 key : Rd w kA 3 kc keyL
 keyN : ∀ ad,kA = some ad → ad.block ≠ d ∧ ad.block ≠ f ∧ ad.block ≠ bb ∧ ad.block < B
 mem : MemAt w mb (onA 0#32 1#32 1#32 3 x0 x1 s v img.length S P A2 a2) (some ⟨sp,0,none⟩)
 stc : StC w (onA 0#32 1#32 1#32 3 x0 x1 s v img.length S P A2 a2) (onS s v S P H2 img)
 sto : StAt w B sp wp f bb dd g rb bk 1#32 s K P S img.length LA t cl t fls er 100 rows M rank t
 rk : t ≤ rank ∧ rank < K + P ∧ rows.length = P + put.length
 flg : FlG fls (onS s v S P H2 img) 2
 ere : ∀ i,0 ≤ er i ∧ er i ≤ 2
 sub : Sub fls 512 sunL
 bl : ∀ j,1024 ≤ j → j < 1536 → fls[j]? = some 255
 says : ∀ r,r ∈ rows → Says (fun i t => ((pcs s K P S img).getD i []).getD t 0) (K + P) S (bR r.1,r.2)
 par : ∀ j,j < P → ∃ y,(parX s K j K,y) ∈ rows
 puts : ∀ id,id ∈ put → ∃ y,(rowB s K P id,y) ∈ rows
 low : ∀ (i : Nat) A n c ad,(onA 0#32 1#32 1#32 3 x0 x1 s v img.length S P A2 a2)[i]? = some (.slice A n c) → A = some ad → ad.block < B ∧ ad.block ≠ d ∧ ad.block ≠ f ∧ ad.block ≠ bb
 fd : F d ∧ F f ∧ F bb ∧ F mb ∧ F sp ∧ F 1
 fs : ∀ b,StoF wp f bb LA dd g rb bk M b → F b
 fk : ∀ ad,kA = some ad → F ad.block
 fh : ∀ (i : Nat) A n c ad,(onA 0#32 1#32 1#32 3 x0 x1 s v img.length S P A2 a2)[i]? = some (.slice A n c) → A = some ad → F ad.block
 big : 1 < d ∧ 1 < f ∧ 1 < bb ∧ d < B ∧ 1 < B
 tab : Tab64 w
 lt : ∀ b,F b → b < w.heap.size
def OnD (F : Nat → Prop) (w : World) (d : Nat) (s v : B32) (S P K : Nat) (H2 img : List UInt8) (put : List B32) : Prop :=
 ∃ f bb mb B sp wp dd g rb bk kA kc x0 x1 A2 a2 LA t cl fls er rows M rank,OnP F w d f bb mb B sp wp dd g rb bk kA kc x0 x1 A2 a2 LA t cl fls er rows M rank s v S P K H2 img put
theorem OnD.step {F : Nat → Prop} {w w' : World} {d : Nat} {s v : B32} {S P K : Nat} {H2 img : List UInt8} {put : List B32} (h : OnD F w d s v S P K H2 img put) (hF : Fr (fun b => ¬ F b) w w') : OnD F w' d s v S P K H2 img put := by
 obtain ⟨f,bb,mb,B,sp,wp,dd,g,rb,bk,kA,kc,x0,x1,A2,a2,LA,t,cl,fls,er,rows,M,rank,h⟩ := h
 exact ⟨f,bb,mb,B,sp,wp,dd,g,rb,bk,kA,kc,x0,x1,A2,a2,LA,t,cl,fls,er,rows,M,rank,{
   dev := h.dev.fr hF (fun k => k h.fd.1)
   key := h.key.fr hF (fun _ ad e k => k (h.fk ad e))
   keyN := h.keyN
   mem := Blk.fr h.mem hF (fun k => k h.fd.2.2.2.1)
   stc := h.stc.frN hF (fun i A n c ad e1 e2 k => k (h.fh i A n c ad e1 e2))
   sto := h.sto.fr hF (fun k => k h.fd.2.2.2.2.1) (fun b hb k => k (h.fs b hb))
   rk := h.rk
   flg := h.flg
   ere := h.ere
   sub := h.sub
   bl := h.bl
   says := h.says
   par := h.par
   puts := h.puts
   low := h.low
   fd := h.fd
   fs := h.fs
   fk := h.fk
   fh := h.fh
   big := h.big
   tab := h.tab.keep hF (fun k => k h.fd.2.2.2.2.2)
   lt := fun b hb => Nat.lt_of_lt_of_le (h.lt b hb) hF.size }⟩
theorem OnD.below {F : Nat → Prop} {w w' : World} {d : Nat} {s v : B32} {S P K : Nat} {H2 img : List UInt8} {put : List B32} (h : OnD F w d s v S P K H2 img put) (hB : Below w.heap.size w w') : OnD F w' d s v S P K H2 img put := h.step (.of hB)
theorem OnD.state {F : Nat → Prop} {w : World} {d : Nat} {s v : B32} {S P K : Nat} {H2 img : List UInt8} {put : List B32} (h : OnD F w d s v S P K H2 img put) :
   Calls Tryz.prog 14 #[.pointer (some ⟨d,0,none⟩)] w fun e w' => ∃ st',e = .returned (.tuple #[.agg st',.bool true]) ∧ StC w' st' (onS s v S P H2 img) ∧ Below w.heap.size w w' := by
 obtain ⟨f,bb,mb,B,sp,wp,dd,g,rb,bk,kA,kc,x0,x1,A2,a2,LA,t,cl,fls,er,rows,M,rank,h⟩ := h
 exact dstate_any d f mb _ _ _ _ w h.dev h.mem h.stc
theorem OnD.running {F : Nat → Prop} {w : World} {d : Nat} {s v : B32} {S P K : Nat} {H2 img : List UInt8} {put : List B32} (hs : Sess s v S P K H2 img) (h : OnD F w d s v S P K H2 img put) :
   Calls Tryz.prog 15 #[.pointer (some ⟨d,0,none⟩)] w fun e w' => ∃ A c,e = .returned (.slice A (3 : Nat) c) ∧ Rd w' A 3 c sunL ∧ Below w.heap.size w w' := by
 obtain ⟨f,bb,mb,B,sp,wp,dd,g,rb,bk,kA,kc,x0,x1,A2,a2,LA,t,cl,fls,er,rows,M,rank,h⟩ := h
 obtain ⟨i,x,hf,_⟩ := h.flg.fnd
 refine (running_any d f bb _ _ fls er 100 _ hs.ok i x 3 w h.dev h.sto.fl hf (.inl ⟨rfl,rfl⟩) (by omega)).mono ?_
 rintro e w' ⟨A,c,rfl,ho,hb⟩
 have := h.sub.read
 have e1 : (onS s v S P H2 img).act = 0 := rfl
 rw [e1] at ho
 have e2 : (fls.drop ((2 + 0 * 2) * 256)).take 3 = sunL := this
 rw [e2] at ho
 exact ⟨A,c,rfl,ho.rd,hb⟩
def sgn (l : List UInt8) : Bool := ((unw l).2.2 == 0) && ((unw l).1 == 1) && (manErr keyL (unw l).2.1 == 0)
theorem sgn_is (l : List UInt8) : sgn l = true ↔ isMan keyL l := by simp [sgn,isMan,and_assoc]
theorem signed_any (A : Option Addr) (n c : Nat) (l : List UInt8) (w : World) (hr : Rd w A n c l) :
   Calls Tryz.prog 11 #[.slice A n c] w fun e w' => e = .returned (.bool (sgn l)) ∧ Below w.heap.size w w' := by
 have hun := runwrap_any A n c l w hr
 unfold sgn
 obtain ⟨k,hkk⟩ : ∃ k,(unw l).1 = k := ⟨_,rfl⟩
 obtain ⟨x,hx⟩ : ∃ x,(unw l).2.1 = x := ⟨_,rfl⟩
 obtain ⟨f,hf⟩ : ∃ f,(unw l).2.2 = f := ⟨_,rfl⟩
 unfold Unw at hun
 rw [hkk,hx,hf] at hun ⊢
 clear hkk hx hf hr
 obtain ⟨g,hg⟩ : ∃ g,manErr keyL x = g := ⟨_,rfl⟩
 have hG := hide hg
 rw [hg]
 clear hg
 go_enter Tryz.func11,Tryz.ntmps11
 go_wp2_with fail
 refine hun.mono ?_
 rintro e w1 ⟨B,m,d,rfl,hB,hb1⟩
 go_wp2_with fail
 refine (key7_any w1).mono ?_
 rintro e w2 ⟨C,q,rfl,hk,hkf,hb2⟩
 go_wp2_with fail
 refine (rparse_any C B 3 q m d keyL x w2 hk (by omega) (hB.below hb2)).mono ?_
 rintro e w3 ⟨s,v,L,S,P,H,kk,ff,rfl,hb3⟩
 rw [hG.out]
 have hzm : Blk (w3.alloc (.cells (manC 0#32 0#32 0 0 0 (.slice none 0 0)) 44)) w3.heap.size (manC 0#32 0#32 0 0 0 (.slice none 0 0)) 44 := Blk.new _ _ _
 have hszm := size44 s v L S P (.slice H kk ff)
 have hB3 := below_next (below_next hb1 hb2) hb3
 go_upto_region 3 with (first
   | ((with_reducible refine at_store ?_); refine wpList_store_row rfl 44 (.tmp 6) (.tmp 18) rfl w3.heap.size (manC s v L S P (.slice H kk ff)) rfl rfl 44 (manC 0#32 0#32 0 0 0 (.slice none 0 0)) hzm hszm rfl (one44 _ _ _ _ _ _ _ _) ?_))
 have hB12 : Below w3.heap.size w3 (World.setRow (w3.alloc (.cells (manC 0#32 0#32 0 0 0 (.slice none 0 0)) 44)) w3.heap.size (manC s v L S P (.slice H kk ff))) := below_setRow (below_alloc1 _ _) (Nat.le_refl _) _
 change Code.wp _ _ _ _ (World.setRow (w3.alloc (.cells (manC 0#32 0#32 0 0 0 (.slice none 0 0)) 44)) w3.heap.size (manC s v L S P (.slice H kk ff)))
 generalize World.setRow (w3.alloc (.cells (manC 0#32 0#32 0 0 0 (.slice none 0 0)) 44)) w3.heap.size (manC s v L S P (.slice H kk ff)) = w4 at *
 have hB4 := below_next hB3 hB12
 clear hzm hB12 hB3 hb1 hb2 hb3 hB hk hG hszm
 cases h1 : (f == 0) <;> cases h2 : (k == 1) <;> cases h3 : (g == 0)
 all_goals
   go_wp2_with fail
   go_ret
   exact ⟨by simp [h1,h2,h3],hB4⟩
theorem manL_take (key : List UInt8) (s v : B32) (L S P : Nat) (h : List UInt8) (hh : h.length = 32) : (manL key s v L S P h).take 44 = plainL s v L S P h ∧ (manL key s v L S P h).drop 44 = tag key (plainL s v L S P h) ∧ (manL key s v L S P h).length = 76 := by
 have hl := plainL_len s v L S P h
 unfold manL
 refine ⟨?_,?_,?_⟩
 · rw [List.take_append_of_le_length (by omega),List.take_of_length_le (by omega)]
 · rw [List.drop_append_of_le_length (by omega),List.drop_eq_nil_of_le (by omega),List.nil_append]
 · rw [List.length_append,hl,tag_len]; omega
theorem manErr_ok (key : List UInt8) (s v : B32) (L S P : Nat) (h : List UInt8) (hm : manOk L S P = true) (hL : L ≤ 512) (hS : S ≤ 16) (hP : P ≤ 16) (hh : h.length = 32) : manErr key (manL key s v L S P h) = 0 := by
 obtain ⟨e1,e2,e3⟩ := manL_take key s v L S P h hh
 obtain ⟨_,_,k3,k4,k5,_⟩ := plainL_m s v L S P h hL hS hP hh
 unfold manErr
 rw [e3,e1,e2,k3,k4,k5]
 simp [hm]
theorem isMan_man (s v : B32) (L S P : Nat) (h : List UInt8) (hm : manOk L S P = true) (hL : L ≤ 512) (hS : S ≤ 16) (hP : P ≤ 16) (hh : h.length = 32) : unw (wrapL 1 (manL keyL s v L S P h)) = (1,manL keyL s v L S P h,0) :=
 unw_wrap 1 _ (by omega) (by omega) (by rw [(manL_take keyL s v L S P h hh).2.2]; omega)
theorem parX_row (s : B32) (K P j i : Nat) (hn : K + P ≤ 64) (hi : i < K + P) : bR (parX s K j K) i = parRow s K j i := by
 unfold bR parRow
 rw [parX_bit s K j K i (Nat.le_refl _) (by omega)]
theorem parRs_says (s : B32) (K P S : Nat) (img : List UInt8) (hn : K + P ≤ 64) : ∀ r,r ∈ parRs s K S P → Says (fun i t => ((pcs s K P S img).getD i []).getD t 0) (K + P) S (bR r.1,r.2) := by
 intro r hr
 unfold parRs at hr
 rw [List.mem_map] at hr
 obtain ⟨j,hj,rfl⟩ := hr
 rw [List.mem_range] at hj
 exact par_says s K P S img j hj _ fun i hi => parX_row s K P j i hn hi
theorem par_rank {s : B32} {K P S rank : Nat} {M : MatB} (h : DInv (K + P) S (parRs s K S P) M rank) (hn : K + P ≤ 64) (hK : 1 ≤ K) (hS : 1 ≤ S) : rank < K + P := by
 have hle := h.le
 by_cases he : rank = K + P
 · exfalso
   obtain ⟨x,h1⟩ := h.full he _ (parRs_says s K P S [] hn) 0 (by omega)
   obtain ⟨y,h2⟩ := h.full he _ (parRs_says s K P S [1] hn) 0 (by omega)
   rw [h1] at h2
   have h3 := congrArg (fun o : Option (B64 × List UInt8) => (o.map fun z => z.2.getD 0 0)) h2
   simp only [Option.map_some,Option.some.injEq] at h3
   have e : ∀ f : Nat → UInt8,((List.range S).map f).getD 0 0 = f 0 := fun f => by
     rw [List.getD_eq_getElem?_getD,List.getElem?_map,List.getElem?_range (by omega)]
     rfl
   rw [e,e,pcs_low s K P S _ 0 (by omega),pcs_low s K P S _ 0 (by omega)] at h3
   have hKS : 1 ≤ K * S := Nat.mul_pos hK hS
   obtain ⟨n,hn1⟩ : ∃ n,K * S = n + 1 := ⟨K * S - 1,by omega⟩
   obtain ⟨m,hm1⟩ : ∃ m,S = m + 1 := ⟨S - 1,by omega⟩
   unfold pieceL fullL at h3
   rw [hn1] at h3
   simp [hm1,List.replicate_succ] at h3
 · omega
theorem StoF.lt {w : World} {B sp wp f bb d g rb : Nat} {bk : Nat → RB} {gen s : B32} {K P S L : Nat} {LA : Option Addr} {nl cl next : Nat} {l : List UInt8} {er : Nat → Int} {wear : Int} {rows : List (B64 × List UInt8)} {M : MatB} {rank taken : Nat}
   (h : StAt w B sp wp f bb d g rb bk gen s K P S L LA nl cl next l er wear rows M rank taken) (b : Nat) (hb : StoF wp f bb LA d g rb bk M b) : b < w.heap.size ∧ (b = f ∨ b = bb ∨ B ≤ b) := by
 obtain ⟨xs,ho⟩ := h.own
 rcases hb with rfl | rfl | rfl | hb | rfl | hb
 · exact ⟨h.wh.lt,.inr (.inr h.low.2.1)⟩
 · exact ⟨Nat.lt_of_lt_of_le h.fb.1 h.base,.inl rfl⟩
 · exact ⟨Nat.lt_of_lt_of_le h.fb.2 h.base,.inr (.inl rfl)⟩
 · have hge := own2_ge ho hb
   refine ⟨?_,.inr (.inr hge)⟩
   rcases ho.2 with ⟨h2,_⟩ | ⟨g2,cap,cur,hv,hb2,hh,_⟩
   · simp only [Value.slice.injEq] at h2
     rw [h2.1] at hb
     cases hb
   · simp only [Value.slice.injEq] at hv
     rw [hv.1] at hb
     simp only [Option.map_some,Option.some.injEq] at hb
     subst hb
     exact (Array.getElem?_eq_some_iff.1 hh).1
 · exact ⟨h.dc.lt,.inr (.inr h.low.2.2.1)⟩
 · exact ⟨h.mt.lt b hb,.inr (.inr (h.low.2.2.2 b hb))⟩
theorem OffD.open_ {F : Nat → Prop} {w : World} {d : Nat} (h : OffD F w d (offQ 0#32 0#32 1#32 3 (sha sunL)) 1 sunL) (s v : B32) (S P K : Nat) (H2 img : List UInt8) (hs : Sess s v S P K H2 img) (X : Option Addr) (m c : Nat) (hr : Rd w X m c (wrapL 1 (manL keyL s v img.length S P H2))) :
   Calls Tryz.prog 12 #[.pointer (some ⟨d,0,none⟩),.slice X m c] w fun e w' => ∃ r : Int,e = .returned (.int .i64 r) ∧ r = 0 ∧ ∃ F',OnD F' w' d s v S P K H2 img [] ∧ Fr (fun b => F b ∧ b ≠ 1) w w' ∧ ∀ b,F' b → F b ∨ w.heap.size ≤ b := by
 obtain ⟨f,bb,mb,kA,kc,st,fls,er,h⟩ := h
 have hp := hs.pos
 have ho := hs.ok
 have hkA : ∀ ad,kA = some ad → ad.block < w.heap.size := fun ad e => by
   obtain ⟨ad',e2,h2⟩ := h.key.ptr (by omega)
   cases e2.symm.trans e
   exact h2
 refine packet_man d f mb _ st none X m c _ _ w h.dev h.mem h.stc.size17 hr (isMan_man s v img.length S P H2 hs.man hs.len hp.2.2.1 hp.2.2.2.1 hs.h2)
   (fun r w' => r = 0 ∧ ∃ F',OnD F' w' d s v S P K H2 img [] ∧ Fr (fun b => F b ∧ b ≠ 1) w w' ∧ ∀ b,F' b → F b ∨ w.heap.size ≤ b) (fun w1 A n cc hB hx => ?_)
 obtain ⟨t1,t2,t3⟩ := manL_take keyL s v img.length S P H2 hs.h2
 obtain ⟨k1,k2,k3,k4,k5,k6⟩ := plainL_m s v img.length S P H2 hs.len hp.2.2.1 hp.2.2.2.1 hs.h2
 have hT := h.tab.below hB
 have hsz := hB.size
 have e1 : (0#32 + 1#32 : B32) = 1#32 := rfl
 have hdl := h.dev.lt
 have hfl : f < w.heap.size := h.lt f h.fd.2.1
 have hbl : bb < w.heap.size := h.lt bb h.fd.2.2.1
 refine (hears_on d f bb mb kA 3 kc keyL A n cc _ st none 0#32 0#32 1#32 s v 3 img.length S P K (sha sunL) H2 fls er w1 (h.dev.below hB) (Blk.below h.mem hB) (h.key.below hB) (by omega) hx (manErr_ok keyL s v _ _ _ _ hs.man hs.len hp.2.2.1 hp.2.2.2.1 hs.h2)
   (by rw [t1]; exact k1) (by rw [t1]; exact k2) (by rw [t1]; exact k3) (by rw [t1]; exact k4) (by rw [t1]; exact k5) (by rw [t1]; exact k6) (h.stc.below hB) h.ok ho (by have := hs.new; simp; omega) (by have := hs.new; simp; omega) (by decide) hs.man hs.len hp.2.2.1 (h.fla.below hB)
   (by have := h.flg.num; omega) (by have := h.ere (toC fls); omega) (h.ere _).1 hT h.big.1 h.big.2.1 h.big.2.2 hs.cn hs.sp (by have := hs.kp; omega) hs.sz (fun j h1 h2 => h.bl rfl j (by omega) h2)).mono ?_
 rintro e w' ⟨r,rfl,rfl,mb',B,sp,wp,dd,g,rb,bk,M,rank,x0,x1,A2,a2,hd',hm',hSt,hC',hmb,hBw,hlo,hF,hT'⟩
 rw [e1] at hm' hSt hC' hlo
 have hsF := hF.size
 have hbg := h.big
 have hFw : Fr (fun b => F b ∧ b ≠ 1) w w' := (Fr.of hB).trans (hF.mono fun b _ hb => by rcases hb with rfl | rfl | rfl; exact ⟨h.fd.1,by omega⟩; exact ⟨h.fd.2.1,by omega⟩; exact ⟨h.fd.2.2.1,by omega⟩)
 have hkN : ∀ ad,kA = some ad → ad.block ≠ d ∧ ad.block ≠ f ∧ ad.block ≠ bb ∧ ad.block < B := fun ad e => by
   have h1 := h.keyN ad e
   have h2 := hkA ad e
   exact ⟨h1.1,h1.2.1,h1.2.2,by omega⟩
 have hinv := hSt.inv
 have hrk := par_rank hinv (by have := hs.kp; omega) hp.2.2.2.2.1 hp.2.1
 have hBb := hSt.base
 have hspl := hSt.st.lt
 have hspB := hSt.low.1
 have hmbl := Blk.lt hm'
 refine ⟨0,rfl,rfl,rfl,fun b => F b ∨ (w.heap.size ≤ b ∧ b < w'.heap.size),⟨f,bb,mb',B,sp,wp,dd,g,rb,bk,kA,kc,x0,x1,A2,a2,none,0,0,_,_,_,M,rank,{
   dev := hd'
   key := (h.key.below hB).fr hF (fun _ ad e k => by have := h.keyN ad e; rcases k with k | k | k <;> omega)
   keyN := hkN
   mem := hm'
   stc := hC'
   sto := hSt
   rk := ⟨Nat.zero_le _,hrk,by unfold parRs; simp⟩
   flg := FlG.write h.flg (by omega) ho
   ere := fun i => by
     have := h.ere i
     unfold erMore
     split <;> omega
   sub := Sub.same h.sub (fun j h1 h2 => write_high _ _ ho _ h1)
   bl := fun j h1 h2 => (write_high _ _ ho _ (by omega)).trans (h.bl rfl j h1 (by omega))
   says := parRs_says s K P S img (by have := hs.kp; omega)
   par := fun j hj => ⟨List.replicate S 0,by unfold parRs; rw [List.mem_map]; exact ⟨j,List.mem_range.2 hj,rfl⟩⟩
   puts := fun id hid => by cases hid
   low := fun i A n c ad hi hA => by
     have := hlo i A n c ad hi hA
     refine ⟨this.2,?_,?_,?_⟩ <;> omega
   fd := ⟨.inl h.fd.1,.inl h.fd.2.1,.inl h.fd.2.2.1,.inr ⟨by omega,hmbl⟩,.inr ⟨by omega,hspl⟩,.inl h.fd.2.2.2.2⟩
   fs := fun b hb => by
     obtain ⟨h1,h2⟩ := StoF.lt hSt b hb
     rcases h2 with rfl | rfl | h2
     · exact .inl h.fd.2.1
     · exact .inl h.fd.2.2.1
     · exact .inr ⟨by omega,h1⟩
   fk := fun ad e => .inl (h.fk ad e)
   fh := fun i A n c ad hi hA => by
     have := hlo i A n c ad hi hA
     exact .inr ⟨by omega,by omega⟩
   big := ⟨h.big.1,h.big.2.1,h.big.2.2,by omega,by have := h.big.1; omega⟩
   tab := hT'
   lt := fun b hb => by
     rcases hb with hb | hb
     · have := h.lt b hb; omega
     · exact hb.2 }⟩,hFw,fun b hb => by rcases hb with hb | hb; exact .inl hb; exact .inr hb.1⟩
theorem OnD.again {F : Nat → Prop} {w : World} {d : Nat} {s v : B32} {S P K : Nat} {H2 img : List UInt8} {put : List B32} (h : OnD F w d s v S P K H2 img put) (hs : Sess s v S P K H2 img) (X : Option Addr) (m c : Nat) (hr : Rd w X m c (wrapL 1 (manL keyL s v img.length S P H2))) :
   Calls Tryz.prog 12 #[.pointer (some ⟨d,0,none⟩),.slice X m c] w fun e w' => ∃ r : Int,e = .returned (.int .i64 r) ∧ r = 8 ∧ Below w.heap.size w w' := by
 obtain ⟨f,bb,mb,B,sp,wp,dd,g,rb,bk,kA,kc,x0,x1,A2,a2,LA,t,cl,fls,er,rows,M,rank,h⟩ := h
 have hp := hs.pos
 refine packet_man d f mb _ _ _ X m c _ _ w h.dev h.mem h.stc.size17 hr (isMan_man s v img.length S P H2 hs.man hs.len hp.2.2.1 hp.2.2.2.1 hs.h2)
   (fun r w' => r = 8 ∧ Below w.heap.size w w') (fun w1 A n cc hB hx => ?_)
 obtain ⟨t1,t2,t3⟩ := manL_take keyL s v img.length S P H2 hs.h2
 obtain ⟨k1,k2,k3,k4,k5,k6⟩ := plainL_m s v img.length S P H2 hs.len hp.2.2.1 hp.2.2.2.1 hs.h2
 refine (hears_dup d f mb kA 3 kc keyL A n cc _ _ _ 0#32 1#32 1#32 s v 3 img.length S P (sha sunL) H2 w1 (h.dev.below hB) (Blk.below h.mem hB) (h.key.below hB) (by omega) hx (manErr_ok keyL s v _ _ _ _ hs.man hs.len hp.2.2.1 hp.2.2.2.1 hs.h2)
   (by rw [t1]; exact k1) (by rw [t1]; exact k2) (by rw [t1]; exact k3) (by rw [t1]; exact k4) (by rw [t1]; exact k5) (by rw [t1]; exact k6) (h.stc.below hB) hs.ok hs.man hs.len hp.2.2.1).mono ?_
 rintro e w' ⟨r,rfl,rfl,hB2⟩
 exact ⟨8,rfl,rfl,rfl,below_next hB hB2⟩
end Go.Proofs.YtkkcpblfheplaaaGreatDoor
