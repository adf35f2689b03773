/- The law downpourtop.TopHash returns true for every input, and each argument reads afterwards as it read before (the card: math/bits' table is tied to the program's text); no other condition. -/
import Derived.Test.YtkkcpblfheplaaaGreatDoorH01
import Derived.Test.YtkkcpblfheplaaaGreatDoorT01
import Derived.Test.YtkkcpblfheplaaaGreatDoorTie
import Derived.Test.YtkkcpblfheplaaaGreatDoorCards
import Derived.ProofKit
import Derived.ShutString
import Derived.ChangeOld
import Derived.Below
import Derived.SevenTiedAt
set_option maxRecDepth 100000
set_option maxHeartbeats 8000000
set_option linter.all false
namespace Go.Proofs.YtkkcpblfheplaaaGreatDoor.topHash
open Go.ChangeShapes Go.WideShapes Go.ChangeAt Go.RowKit
open Go.ChangeMaps (open_string shut_string)
set_option linter.unusedVariables false
theorem own : ownKnob Tryz.prog.godebug = none := by kernel_rfl
theorem laidOut : laidOutB Tryz.prog = true := by kernel_rfl
def IsRow (k : IntKind) (w : World) (a : Option Addr) (len cap : Nat) (zs : List Int) : Prop :=
 (a = none ∧ len = 0 ∧ cap = 0 ∧ zs = []) ∨
 ∃ x,a = some x ∧ len ≤ cap ∧ cap ≤ maxLen ∧ zs.length = cap ∧ (∀ i,i < zs.length → w.cell? (x.add i) = some (.int k (zs.getD i 0))) ∧ ∀ n ∈ zs,(Lit.int k n).wf = true
theorem rdW_of_row {w : World} {a : Option Addr} {len cap : Nat} {zs : List Int} (h : IsRow .u32 w a len cap zs) : ∃ ids,RdW w a len cap ids := by
 rcases h with ⟨rfl,rfl,rfl,rfl⟩ | ⟨x,rfl,h1,h2,h3,h4,h5⟩
 · exact ⟨[],rfl,Nat.le_refl _,Nat.zero_le _,fun j x hx => by simp at hx⟩
 · refine ⟨(zs.take len).map fun z => BitVec.ofNat 32 z.toNat,by simp; omega,h1,h2,fun j u hu => ⟨x,rfl,?_⟩⟩
   rw [List.getElem?_map,Option.map_eq_some_iff] at hu
   obtain ⟨v,hv,rfl⟩ := hu
   rw [List.getElem?_take] at hv
   split at hv
   case isFalse => cases hv
   have hj : j < zs.length := (List.getElem?_eq_some_iff.1 hv).1
   have hm : v ∈ zs := List.mem_of_getElem? hv
   rw [h4 j hj,List.getD_eq_getElem?_getD,hv]
   have hw : 0 ≤ v ∧ v ≤ 4294967295 := by simpa [Lit.wf,IntKind.min,IntKind.max,IntKind.signed,IntKind.bits] using h5 v hm
   congr 2
   unfold V
   rw [BitVec.toNat_ofNat]
   simp only [Option.getD_some]
   omega
theorem lifted (os : Os) (started : os.Started) (H : Type) (enc : TypeId × Value → H) :
   ReturnsInHanded {} Tryz.checked os 4 .any (fun w args => (Rows.topHashSpec.pre enc Tryz.prog Tryz.f4 [] false w args ∧ laidMetH Tryz.prog laidT w) ∧ sizedMet enc Tryz.prog Tryz.f4 (OpenSpec.ofChange Rows.topHashSpec) false w args)
     (Rows.topHashSpec.post enc Tryz.prog Tryz.f4 false true false false) := by
 refine returnsInHanded_of_change_and (C := Tryz.checked) (X := fun w _ => laidMetH Tryz.prog laidT w) (fun _ _ _ hh h => h.of_heap hh) own started (by kernel_rfl) Tryz.func4
   (ChangeSpec.witness_at (enc := enc) (C := Tryz.checked) (os := os) (X := fun w _ => laidMetH Tryz.prog laidT w) false (World.laidAll Tryz.prog os laidT) #[.slice none 0 0,.slice none 0 0,.slice none 0 0] 8 (World.laidAll_os _ _ _) (by kernel_rfl) (by kernel_rfl) (by kernel_rfl) (by kernel_rfl) (by kernel_rfl)
     (by rw [laid_plain]; exact laidMet_laidAll _ (by kernel_rfl) (by kernel_rfl))) ?_
 intro W base args ds gs before hval0 hW hcnd _ hL _
 have hval : ∀ (j : Nat) t v,Tryz.f4.params[j]? = some t → args[j]? = some v → Value.okWide Tryz.prog W .any base t v := hval0
 have hW' := hW
 obtain ⟨p,q,hA0,hV,rfl,hfz,hnd⟩ := hW
 have hA : DataW.TrodAll enc Tryz.prog W 0 (fun _ => true) true Tryz.f4.params.toList args.toList ds p := hA0
 rw [Tryz.params4] at hA hval
 obtain ⟨v0,vs0,d0,ds0,p0,q0,hargs,rfl,rfl,h0,r0⟩ := trodAll_cons hA
 obtain ⟨v1,vs1,d1,ds1,p1,q1,rfl,rfl,rfl,h1,r1⟩ := trodAll_cons r0
 obtain ⟨v2,vs2,d2,ds2,p2,q2,rfl,rfl,rfl,h2,r2⟩ := trodAll_cons r1
 obtain ⟨rfl,rfl,rfl⟩ := trodAll_nil r2
 obtain rfl : args = #[v0,v1,v2] := by cases args; simp_all
 obtain ⟨rfl,rfl⟩ := trodVars_none hV
 obtain ⟨a0,len0,cap0,rfl⟩ := okWide_slice Tryz.underlying22 (hval 0 22 v0 rfl rfl)
 have k0 := h0
 have lt0 : ∀ x ∈ p0,x.block < W.heap.size := by obtain ⟨m,hm⟩ := k0; exact DataW.trod_lt m _ _ _ hm
 obtain ⟨z0,w0⟩ : ∃ zs,IsRow .u8 W a0 len0 cap0 zs := by
   obtain ⟨fuel,hf⟩ := h0
   rcases open_ints Tryz.underlying22 Tryz.underlying5 (by kernel_rfl) hf with ⟨hcs,_⟩ | ⟨x,l,c,zs,hcs,_,hl,hm,hz,_,hcell,hwz⟩
   · simp [Value.cells] at hcs
     obtain ⟨rfl,rfl,rfl⟩ := hcs
     exact ⟨[],.inl ⟨rfl,rfl,rfl,rfl⟩⟩
   · simp [Value.cells] at hcs
     obtain ⟨rfl,rfl,rfl⟩ := hcs
     exact ⟨zs,.inr ⟨_,rfl,hl,hm,by simpa using hz,hcell,hwz⟩⟩
 obtain ⟨a1,len1,cap1,rfl⟩ := okWide_slice Tryz.underlying22 (hval 1 22 v1 rfl rfl)
 have k1 := h1
 have lt1 : ∀ x ∈ p1,x.block < W.heap.size := by obtain ⟨m,hm⟩ := k1; exact DataW.trod_lt m _ _ _ hm
 obtain ⟨z1,w1⟩ : ∃ zs,IsRow .u8 W a1 len1 cap1 zs := by
   obtain ⟨fuel,hf⟩ := h1
   rcases open_ints Tryz.underlying22 Tryz.underlying5 (by kernel_rfl) hf with ⟨hcs,_⟩ | ⟨x,l,c,zs,hcs,_,hl,hm,hz,_,hcell,hwz⟩
   · simp [Value.cells] at hcs
     obtain ⟨rfl,rfl,rfl⟩ := hcs
     exact ⟨[],.inl ⟨rfl,rfl,rfl,rfl⟩⟩
   · simp [Value.cells] at hcs
     obtain ⟨rfl,rfl,rfl⟩ := hcs
     exact ⟨zs,.inr ⟨_,rfl,hl,hm,by simpa using hz,hcell,hwz⟩⟩
 obtain ⟨a2,len2,cap2,rfl⟩ := okWide_slice Tryz.underlying50 (hval 2 50 v2 rfl rfl)
 have k2 := h2
 have lt2 : ∀ x ∈ p2,x.block < W.heap.size := by obtain ⟨m,hm⟩ := k2; exact DataW.trod_lt m _ _ _ hm
 obtain ⟨z2,w2⟩ : ∃ zs,IsRow .u32 W a2 len2 cap2 zs := by
   obtain ⟨fuel,hf⟩ := h2
   rcases open_ints Tryz.underlying50 Tryz.underlying30 (by kernel_rfl) hf with ⟨hcs,_⟩ | ⟨x,l,c,zs,hcs,_,hl,hm,hz,_,hcell,hwz⟩
   · simp [Value.cells] at hcs
     obtain ⟨rfl,rfl,rfl⟩ := hcs
     exact ⟨[],.inl ⟨rfl,rfl,rfl,rfl⟩⟩
   · simp [Value.cells] at hcs
     obtain ⟨rfl,rfl,rfl⟩ := hcs
     exact ⟨zs,.inr ⟨_,rfl,hl,hm,by simpa using hz,hcell,hwz⟩⟩
 clear hA0 hval0
 obtain ⟨l0,rd0⟩ := Rd.of_row w0
 obtain ⟨l1,rd1⟩ := Rd.of_row w1
 obtain ⟨ids,rd2⟩ := rdW_of_row w2
 refine (hash_any a0 a1 a2 len0 cap0 len1 cap1 len2 cap2 l0 l1 ids W rd0 rd1 rd2 (tab_of_laid hL)).mono fun e W' ⟨he,bel⟩ => ?_
 subst he
 exact ⟨_,rfl,_,_,_,[],_,[],hW',trodAll_mk1 (shut_bool Tryz.underlying4 _),(trodAll_cons_mk (Below.trod laidOut (by kernel_rfl) (of_decide_eq_true (by kernel_rfl)) k0 bel lt0) (trodAll_cons_mk (Below.trod laidOut (by kernel_rfl) (of_decide_eq_true (by kernel_rfl)) k1 bel lt1) (trodAll_cons_mk (Below.trod laidOut (by kernel_rfl) (of_decide_eq_true (by kernel_rfl)) k2 bel lt2) trodAll_mk0))),rfl,bel.frame _,fun h => by cases h⟩
theorem over : Rows.topHashRow.holds Tryz.pinned (OpenSpec.ofChange Rows.topHashSpec) :=
 OpenClaim.holds_of_wide 4 Tryz.f4 rfl rfl rfl rfl rfl rfl rfl ⟨rfl,rfl,rfl,rfl,rfl⟩ rfl rfl rfl rfl rfl (by kernel_rfl) Tryz.func4 (by kernel_rfl)
   (of_decide_eq_true (by kernel_rfl)) (by unfold Func.isWrapper; first | (rw [if_pos (by decide +kernel)]; kernel_rfl) | (rw [if_neg (by decide +kernel)]; exact ⟨rfl,rfl⟩))
   (fun os started H enc _ => lifted os started H enc)
theorem proved : Rows.TopHashCardSaid :=
 Claim7.holds_tied_plain_at .later [] [.data] true (true,"76cef575c663eb499e57b0918962d2308f180d9c955cd2fe9faaa8345574e40f") false over (fun _ h => by cases h) (by kernel_rfl) (fun _ h => by cases h) topHash_row_tie rfl ⟨rfl,rfl⟩ (by kernel_rfl) rfl
   (fun f fn hf hfn => by
     obtain rfl : f = 4 := Option.some.inj ((show Tryz.prog.funcNamed "downpour/downpourtop.TopHash" = some 4 by kernel_rfl).symm.trans hf) |>.symm
     obtain rfl : fn = Tryz.f4 := (Option.some.inj (Tryz.func4.symm.trans hfn)).symm
     exact ⟨by kernel_rfl,fun j t ht => by
       rw [Tryz.params4] at ht
       have hm : t ∈ [22,22,50] := by simpa using Array.mem_of_getElem? ht
       have hall : ([22,22,50].all fun u => !Tryz.prog.wantsStandIn u) = true := by kernel_rfl
       exact (show Tryz.prog.wantsStandIn t = false by simpa using List.all_eq_true.1 hall t hm)⟩)
   (by kernel_rfl)
#print axioms proved
end Go.Proofs.YtkkcpblfheplaaaGreatDoor.topHash
