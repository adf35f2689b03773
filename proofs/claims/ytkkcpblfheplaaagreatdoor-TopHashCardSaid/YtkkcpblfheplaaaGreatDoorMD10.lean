/- Contracts of functions that the laws of downpourtop reach, and plain facts; no condition beyond what each theorem states. -/
import Derived.Test.YtkkcpblfheplaaaGreatDoorMD09
import Derived.Test.YtkkcpblfheplaaaGreatDoorMP03
import Derived.Lib.MakeNoZero
set_option maxRecDepth 100000
set_option maxHeartbeats 8000000
set_option linter.all false
namespace Go.Proofs.YtkkcpblfheplaaaGreatDoor
open Go.RowKit
def DFb (d f bb : Nat) : Nat → Prop := fun g => g = d ∨ g = f ∨ g = bb
theorem StC.frD {w w' : World} {st : Array Value} {q : SSt} {S : Nat → Prop} {B : Nat} (h : StC w st q) (hF : Fr S w w') (hs : StF B st) (hS : ∀ g,S g → g < B) : StC w' st q := by
 obtain ⟨x0,x1,x2,rfl,h2,h3,h4⟩ := h
 have hg := hs.get
 exact ⟨x0,x1,x2,rfl,h2.fr hF (fun A n c ad hx hA he => by have := hg.1 A n c hx ad hA; have := hS _ he; omega),h3.fr hF (fun A n c ad hx hA he => by have := hg.2.1 A n c hx ad hA; have := hS _ he; omega),h4.fr hF (fun A n c ad hx hA he => by have := hg.2.2 A n c hx ad hA; have := hS _ he; omega)⟩
theorem mem_size {st : Array Value} (h : st.size = 17) (lp : Option Addr) : (Tryz.prog.info? 90).map (·.size) = some (st.push (.pointer lp)).size := by
 have : (Tryz.prog.info? 90).map (·.size) = some 18 := by kernel_rfl
 rw [this,Array.size_push,h]
theorem keeps_any (d f bb B : Nat) (kA : Option Addr) (kn kc : Nat) (m : Option Addr) (q : SSt) (hq : q.Ok) (st : Array Value) (lp : Option Addr) (l : List UInt8) (er : Nat → Int) (w : World)
   (hd : Blk w d (devC (.slice kA kn kc) f m) 77) (hf : FlashAt w f bb l er 100) (hst : StC w st q) (hsf : StF B st) (hB : ∀ g,DFb d f bb g → g < B) (hn : (numC l).toNat < 1000) (he : er (toC l) < 100) (he0 : 0 ≤ er (toC l)) :
   Calls Tryz.prog 28 #[.pointer (some ⟨d,0,none⟩),.agg st,.pointer lp] w fun e w' => ∃ mb,e = .returned (.int .i64 0) ∧ Blk w' d (devC (.slice kA kn kc) f (some ⟨mb,0,none⟩)) 77 ∧ MemAt w' mb st lp ∧ w.heap.size ≤ mb ∧ StC w' st q ∧ FlashAt w' f bb (writeC l (bytesS q)) (erMore er (toC l)) 100 ∧ Fr (DFb d f bb) w w' := by
 have hsz := hst.size
 have h17 := hst.size17
 have hone := hst.one
 have hz0 : Blk (w.alloc (.cells st 46)) w.heap.size st 46 := Blk.new _ _ _
 have hB0 : Below w.heap.size w (w.alloc (.cells st 46)) := below_alloc1 _ _
 have hC0 := hst.below hB0
 have hbl := bytesS_len q hq
 have hdl := hd.lt
 have hfl : f < w.heap.size := by obtain ⟨_,_,hB⟩ := hf.blk; exact hB.lt
 have hbbl : bb < w.heap.size := hf.2.1.lt
 have hdf : d ≠ f := by obtain ⟨_,_,hB⟩ := hf.blk; exact hd.ne hB (by decide)
 have hdbb : d ≠ bb := (hf.2.1.ne hd (by decide)).symm
 have hszm := mem_size h17 lp
 go_enter Tryz.func28,Tryz.ntmps28
 go_wp2_with (first
   | ((with_reducible refine at_load ?_); refine wpList_load_row rfl 46 (.tmp 4) rfl w.heap.size rfl 46 st (0,0) _ hz0 Tryz.underlying46 rfl hsz ?_))
 refine (stbytes_st q hq st _ hC0).mono ?_
 rintro e w1 ⟨A1,N1,c1,rfl,ho1,hb1⟩
 have hz1 := hz0.below hb1
 have hB1 := below_next hB0 hb1
 have hC1 := hC0.below hb1
 have hd1 := hd.below hB1
 have hf1 := hf.below hB1
 have hN1 := ho1.len
 have cf := hd1.cell (i := 1) (v := .pointer (some ⟨f,0,none⟩)) rfl
 have hs0 := hB0.size
 clear hz0 hC0 hb1 hd
 go_wp2_with fail
 refine (cellwrite_any f bb N1 c1 A1 (bytesS q) l er 100 w1 hf1 ho1.rd (by omega) (fun h => by rw [h] at hn; simp at hn) he he0 (by omega) (fun ad hA => ⟨ho1.new_ne (by omega) ad hA,ho1.new_ne (by omega) ad hA⟩)).mono ?_
 rintro e w2 ⟨rfl,hf2,hF2⟩
 have hF2' : Fr (DFb d f bb) w w2 := (Fr.of hB1).trans (hF2.mono fun g _ hg => .inr hg)
 have hz2 := hz1.fr hF2 (by omega)
 have hd2 := hd1.fr hF2 (by omega)
 have hC2 := hC1.frD (hF2.mono (S' := DFb d f bb) fun g _ hg => .inr hg) hsf hB
 have hs2 := hF2'.size
 have hlt2 := hz2.lt
 clear hz1 hC1 hd1 hf1 ho1 hF2 cf
 obtain ⟨x0,x1,x2,rfl,_,_,_⟩ := id hst
 have hcells : ∀ x,Blk x w.heap.size (stArr q x0 x1 x2) 46 → x.cell? ⟨w.heap.size,0,none⟩ = some (.int .i64 q.act) ∧ x.cell? ⟨w.heap.size,1,none⟩ = some (.int .i64 q.trial) ∧ x.cell? ⟨w.heap.size,2,none⟩ = some (.int .u32 (V q.fl)) ∧ x.cell? ⟨w.heap.size,3,none⟩ = some (.int .u32 (V q.ge)) ∧ x.cell? ⟨w.heap.size,4,none⟩ = some (.int .u32 (V q.v0)) ∧ x.cell? ⟨w.heap.size,5,none⟩ = some (.int .i64 q.n0) ∧ x.cell? ⟨w.heap.size,6,none⟩ = some (x0) ∧ x.cell? ⟨w.heap.size,7,none⟩ = some (.int .u32 (V q.v1)) ∧ x.cell? ⟨w.heap.size,8,none⟩ = some (.int .i64 q.n1) ∧ x.cell? ⟨w.heap.size,9,none⟩ = some (x1) ∧ x.cell? ⟨w.heap.size,10,none⟩ = some (.bool q.on) ∧ x.cell? ⟨w.heap.size,11,none⟩ = some (.int .u32 (V q.s)) ∧ x.cell? ⟨w.heap.size,12,none⟩ = some (.int .u32 (V q.v)) ∧ x.cell? ⟨w.heap.size,13,none⟩ = some (.int .i64 q.L) ∧ x.cell? ⟨w.heap.size,14,none⟩ = some (.int .i64 q.S) ∧ x.cell? ⟨w.heap.size,15,none⟩ = some (.int .i64 q.P) ∧ x.cell? ⟨w.heap.size,16,none⟩ = some (x2) := fun x hx =>
   ⟨hx.cell rfl,hx.cell rfl,hx.cell rfl,hx.cell rfl,hx.cell rfl,hx.cell rfl,hx.cell rfl,hx.cell rfl,hx.cell rfl,hx.cell rfl,hx.cell rfl,hx.cell rfl,hx.cell rfl,hx.cell rfl,hx.cell rfl,hx.cell rfl,hx.cell rfl⟩
 have hS0 := hcells w2.drew hz2
 have hS1 := fun o => hcells (w2.alloc o).drew (hz2.alloc o)
 go_upto_region 5 with fail
 go_cut [] (fun wx => ∃ mb,Blk wx d (devC (.slice kA kn kc) f (some ⟨mb,0,none⟩)) 77 ∧ MemAt wx mb (stArr q x0 x1 x2) lp ∧ w.heap.size ≤ mb ∧ w2.heap.size ≤ mb ∧ Fr (· = d) w2 wx)
 case first =>
   go_region_held3 (fun x => x.cell? ⟨w.heap.size,0,none⟩ = some (.int .i64 q.act) ∧ x.cell? ⟨w.heap.size,1,none⟩ = some (.int .i64 q.trial) ∧ x.cell? ⟨w.heap.size,2,none⟩ = some (.int .u32 (V q.fl)) ∧ x.cell? ⟨w.heap.size,3,none⟩ = some (.int .u32 (V q.ge)) ∧ x.cell? ⟨w.heap.size,4,none⟩ = some (.int .u32 (V q.v0)) ∧ x.cell? ⟨w.heap.size,5,none⟩ = some (.int .i64 q.n0) ∧ x.cell? ⟨w.heap.size,6,none⟩ = some (x0) ∧ x.cell? ⟨w.heap.size,7,none⟩ = some (.int .u32 (V q.v1)) ∧ x.cell? ⟨w.heap.size,8,none⟩ = some (.int .i64 q.n1) ∧ x.cell? ⟨w.heap.size,9,none⟩ = some (x1) ∧ x.cell? ⟨w.heap.size,10,none⟩ = some (.bool q.on) ∧ x.cell? ⟨w.heap.size,11,none⟩ = some (.int .u32 (V q.s)) ∧ x.cell? ⟨w.heap.size,12,none⟩ = some (.int .u32 (V q.v)) ∧ x.cell? ⟨w.heap.size,13,none⟩ = some (.int .i64 q.L) ∧ x.cell? ⟨w.heap.size,14,none⟩ = some (.int .i64 q.S) ∧ x.cell? ⟨w.heap.size,15,none⟩ = some (.int .i64 q.P) ∧ x.cell? ⟨w.heap.size,16,none⟩ = some (x2))
     (first | (with_reducible exact hS0) | (with_reducible exact hS1 _) | (with_reducible exact hS3))
     ((go_at_call 70; refine (pstore_any d f w2.heap.size (.slice kA kn kc) m (stArr q x0 x1 x2) lp _ (hd2.alloc _).drew (Blk.drew (Blk.new w2 _ _))).mono ?_; rintro e w3 ⟨rfl,hd3,hF3⟩
       have hS3 := hcells w3 ((hz2.alloc _).drew.fr hF3 (by omega))))
   all_goals
     go_wp2_with fail
     go_meet
     refine ⟨w2.heap.size,hd3,Blk.fr (Blk.drew (Blk.new w2 _ _)) hF3 (by omega),by omega,Nat.le_refl _,?_⟩
     exact (Fr.of ((below_alloc1 w2 _).drew)).trans hF3
 case rest =>
   obtain ⟨mb,hd3,hm3,hmb,hmb2,hF3⟩ := hcut
   have hC3 := hC2.frD (hF3.mono (S' := DFb d f bb) fun g _ hg => .inl hg) hsf hB
   have hf3 := hf2.fr hF3 (fun h => hdf h.symm) (fun h => hdbb h.symm)
   have hF23 := hF2'.trans (hF3.mono (S' := DFb d f bb) fun g _ hg => .inl hg)
   clear hcells hS0 hS1 hz2
   go_wp2_with fail
   go_ret
   exact ⟨mb,rfl,hd3,hm3,hmb,hC3,hf3,hF23⟩
section
variable {P : Program} {ops : Array Oper} {Q : Exit → Act → World → Prop} {md : Region.Mode} {S : World → Prop}
theorem reg_take (i : Nat) (dst : Option Tmp) (v : Value) {oi : Oper} {fuel : Nat} {listed : Array Bool} {a : Act} {w : World} (hi : ops[i]? = some oi) (hd : oi.dst = dst)
   (hs : Region.noSelect ops = true) (hf : Region.free md ops listed i = true) (hr : (Region.ready md ops listed).contains i = true)
   (hQ : ∀ c a b w,Q (.panic c) a w → Q (.panic c) b w) (hw : Region.wanted oi (yielded ops a.tmps) = true) (he : ∀ w,S w → (execOp a.eval oi).run P w = .ok (.value v) w) (hS : S w)
   (h : wpAnyH P md ops Q S fuel (listed.setIfInBounds i true) (a.put dst v) w) : wpAnyH P md ops Q S (fuel + 1) listed a w := by
 subst hd
 exact wpAnyH_take hi hs hf hr (fun c a w h => hQ c _ _ w h) (Or.inl ⟨hw,he⟩) hS h
theorem reg_one (i : Nat) {fuel : Nat} {listed : Array Bool} {a : Act} {w : World} (hr : Region.ready md ops listed = [i])
   (h1 : wpOp P ops Q i (fun a' w' => S w' ∧ wpAnyH P md ops Q S fuel (listed.setIfInBounds i true) a' w') a w) : wpAnyH P md ops Q S (fuel + 1) listed a w := by
 refine wpAnyH_all hr (by simp) fun k hk => ?_
 simp only [List.mem_cons,List.not_mem_nil,or_false] at hk
 subst hk
 exact h1
theorem reg_val {i : Nat} (dst : Option Tmp) (v : Value) (w' : World) {oi : Oper} {K : Act → World → Prop} {a : Act} {w : World} (hi : ops[i]? = some oi) (hd : oi.dst = dst) (hw : Region.wanted oi (yielded ops a.tmps) = true)
   (he : (execOp a.eval oi).run P w = .ok (.value v) w') (h : K (a.put dst v) w') : wpOp P ops Q i K a w := by
 subst hd
 unfold wpOp
 simp only [hi,hw,if_true,Oper.wp,he,Oper.upon]
 exact .inl h
theorem reg_call {i : Nat} (dst : Option Tmp) (f : FuncId) (args : Array Value) {oi : Oper} {K : Act → World → Prop} {a : Act} {w : World} (hi : ops[i]? = some oi) (hd : oi.dst = dst) (hw : Region.wanted oi (yielded ops a.tmps) = true)
   (he : (execOp a.eval oi).run P w = .ok (.enter f args) w) (h : Calls P f args w fun e w' => ∃ v,e = .returned v ∧ K (a.put dst v) w') : wpOp P ops Q i K a w := by
 subst hd
 unfold wpOp
 simp only [hi,hw,if_true,Oper.wp,he,Oper.upon]
 exact .inl (h.mono fun e w' hh => by obtain ⟨v,rfl,hk⟩ := hh; exact hk)
end
theorem exec_cut {ρ : Operand → Value} {o : Oper} (x y : Operand) (A : Option Addr) (n k c : Nat) (hop : o.op = .slice 22 x none (some y) none) (hx : ρ x = .slice A n c) (hy : ρ y = .int .i64 (k : Int)) (hk : k ≤ c) (w : World) :
   (execOp ρ o).run Tryz.prog w = .ok (.value (.slice A k c)) w := by
 have ht : Tryz.prog.underlying 22 = some (.slice (Tryz.prog.elem 22)) := by kernel_rfl
 have hz : (sizeOf (Tryz.prog.elem 22)).run Tryz.prog w = .ok 1 w := by kernel_rfl
 have ha : A.map (·.add (0 * 1)) = A := by
   cases A with
   | none => rfl
   | some a => simp [Addr.add]
 have e : sliced A 0 (k : Int).toNat c 1 = .slice A k c := by
   unfold sliced
   rw [ha]
   simp
 unfold execOp
 simp only [hop,Option.map_some,Option.map_none,hx,hy,Sem.run_bind,run_sliceAt_slice w _ _ _ _ _ ht,run_slice_h w _ A n c ht .i64 (k : Int) (by omega) (by omega),hz,Result.andThen_ok,Sem.run_pure,e]
theorem exec_cutlo {ρ : Operand → Value} {o : Oper} (x y : Operand) (ad : Addr) (n k c : Nat) (hop : o.op = .slice 22 x (some y) none none) (hx : ρ x = .slice (some ad) n c) (hy : ρ y = .int .i64 (k : Int)) (hk : k ≤ n) (h0 : k ≠ 0) (hc : c ≠ k) (w : World) :
   (execOp ρ o).run Tryz.prog w = .ok (.value (.slice (some ⟨ad.block,ad.off + k,none⟩) (n - k) (c - k))) w := by
 have ht : Tryz.prog.underlying 22 = some (.slice (Tryz.prog.elem 22)) := by kernel_rfl
 have hz : (sizeOf (Tryz.prog.elem 22)).run Tryz.prog w = .ok 1 w := by kernel_rfl
 have e : sliced (some ad) (k : Int).toNat n c 1 = .slice (some ⟨ad.block,ad.off + k,none⟩) (n - k) (c - k) := by
   unfold sliced
   simp [Addr.add,h0,hc]
 unfold execOp
 simp only [hop,Option.map_some,Option.map_none,hx,hy,Sem.run_bind,run_sliceAt_slice w _ _ _ _ _ ht,run_slice_l w _ (some ad) n c ht .i64 (k : Int) (by omega) (by omega),hz,Result.andThen_ok,Sem.run_pure,e]
theorem exec_conv {ρ : Operand → Value} {o : Oper} (x : Operand) (A : Option Addr) (n c : Nat) (l : List UInt8) (w : World) (hop : o.op = .convert 22 9 x) (hx : ρ x = .slice A n c) (hr : Rd w A n c l) : (execOp ρ o).run Tryz.prog w = .ok (.value (.string (str l))) w := by
 unfold execOp
 simp only [hop,hx,Sem.run_bind,conv22 hr,Result.andThen_ok,Sem.run_pure]
theorem exec_neqs {ρ : Operand → Value} {o : Oper} (x y : Operand) (a b : List UInt8) (w : World) (hop : o.op = .binOp .neq 9 x y 9) (hx : ρ x = .string (str a)) (hy : ρ y = .string (str b)) : (execOp ρ o).run Tryz.prog w = .ok (.value (.bool (!(a == b)))) w := by
 have e : eqGuard .neq 9 x y (.string (str a)) (.string (str b)) = pure () := rfl
 unfold execOp
 simp only [hop,hx,hy,e,Sem.run_bind,binOp_string_neq,str_toList,Result.andThen_ok,Sem.run_pure]
section
variable {P : Program} {ops : Array Oper} {Q : Exit → Act → World → Prop} {md : Region.Mode} {S : World → Prop}
theorem reg_load (i : Nat) (dst : Option Tmp) (ty : TypeId) (x : Operand) (b : Nat) (cs : Array Value) (t : TypeId) {oi : Oper} {fuel : Nat} {listed : Array Bool} {a : Act} {w : World} (hi : ops[i]? = some oi) (hd : oi.dst = dst) (ho : oi.op = .load ty x)
   (hs : Region.noSelect ops = true) (hf : Region.free md ops listed i = true) (hr : (Region.ready md ops listed).contains i = true)
   (hQ : ∀ c a b w,Q (.panic c) a w → Q (.panic c) b w) (hw : Region.wanted oi (yielded ops a.tmps) = true)
   (hx : a.eval x = .pointer (some ⟨b,0,none⟩)) (big : Array Value) (hS' : ∀ w,S w → Blk w b big t) (hp : ∀ (j : Nat) v,cs[j]? = some v → big[j]? = some v) (d : TypeDesc) (hu : P.underlying ty = some d) (hdd : d.isRow = true) (hsz : (P.info? ty).map (·.size) = some cs.size) (hS : S w)
   (h : wpAnyH P md ops Q S fuel (listed.setIfInBounds i true) (a.put dst (.agg cs)) w) : wpAnyH P md ops Q S (fuel + 1) listed a w := by
 subst hd
 refine wpAnyH_take hi hs hf hr (fun c a w h => hQ c _ _ w h) (yieldsIf_load_mid (cs := cs.toList) hw ty x ho b 0 hx d (fun w hw j v hv => ?_) hu hdd (by simpa using hsz)) hS (by simpa using h)
 have := (hS' w hw).cell (hp j v (by simpa using hv))
 simpa using this
end
theorem keeps_gen (d f bb : Nat) (kA : Option Addr) (kn kc : Nat) (m : Option Addr) (q : SSt) (hq : q.Ok) (st : Array Value) (lp : Option Addr) (l : List UInt8) (er : Nat → Int) (w : World)
   (hd : Blk w d (devC (.slice kA kn kc) f m) 77) (hf : FlashAt w f bb l er 100) (hst : StC w st q) (hfr : ∀ w1 w2,StC w1 st q → Fr (DFb d f bb) w1 w2 → StC w2 st q) (hn : (numC l).toNat < 1000) (he : er (toC l) < 100) (he0 : 0 ≤ er (toC l)) :
   Calls Tryz.prog 28 #[.pointer (some ⟨d,0,none⟩),.agg st,.pointer lp] w fun e w' => ∃ mb,e = .returned (.int .i64 0) ∧ Blk w' d (devC (.slice kA kn kc) f (some ⟨mb,0,none⟩)) 77 ∧ MemAt w' mb st lp ∧ w.heap.size ≤ mb ∧ StC w' st q ∧ FlashAt w' f bb (writeC l (bytesS q)) (erMore er (toC l)) 100 ∧ Fr (DFb d f bb) w w' := by
 have hsz := hst.size
 have h17 := hst.size17
 have hone := hst.one
 have hz0 : Blk (w.alloc (.cells st 46)) w.heap.size st 46 := Blk.new _ _ _
 have hB0 : Below w.heap.size w (w.alloc (.cells st 46)) := below_alloc1 _ _
 have hC0 := hst.below hB0
 have hbl := bytesS_len q hq
 have hdl := hd.lt
 have hfl : f < w.heap.size := by obtain ⟨_,_,hB⟩ := hf.blk; exact hB.lt
 have hbbl : bb < w.heap.size := hf.2.1.lt
 have hdf : d ≠ f := by obtain ⟨_,_,hB⟩ := hf.blk; exact hd.ne hB (by decide)
 have hdbb : d ≠ bb := (hf.2.1.ne hd (by decide)).symm
 have hszm := mem_size h17 lp
 go_enter Tryz.func28,Tryz.ntmps28
 go_wp2_with (first
   | ((with_reducible refine at_load ?_); refine wpList_load_row rfl 46 (.tmp 4) rfl w.heap.size rfl 46 st (0,0) _ hz0 Tryz.underlying46 rfl hsz ?_))
 refine (stbytes_st q hq st _ hC0).mono ?_
 rintro e w1 ⟨A1,N1,c1,rfl,ho1,hb1⟩
 have hz1 := hz0.below hb1
 have hB1 := below_next hB0 hb1
 have hC1 := hC0.below hb1
 have hd1 := hd.below hB1
 have hf1 := hf.below hB1
 have hN1 := ho1.len
 have cf := hd1.cell (i := 1) (v := .pointer (some ⟨f,0,none⟩)) rfl
 have hs0 := hB0.size
 clear hz0 hC0 hb1 hd
 go_wp2_with fail
 refine (cellwrite_any f bb N1 c1 A1 (bytesS q) l er 100 w1 hf1 ho1.rd (by omega) (fun h => by rw [h] at hn; simp at hn) he he0 (by omega) (fun ad hA => ⟨ho1.new_ne (by omega) ad hA,ho1.new_ne (by omega) ad hA⟩)).mono ?_
 rintro e w2 ⟨rfl,hf2,hF2⟩
 have hF2' : Fr (DFb d f bb) w w2 := (Fr.of hB1).trans (hF2.mono fun g _ hg => .inr hg)
 have hz2 := hz1.fr hF2 (by omega)
 have hd2 := hd1.fr hF2 (by omega)
 have hC2 := hfr _ _ hC1 (hF2.mono (S' := DFb d f bb) fun g _ hg => .inr hg)
 have hs2 := hF2'.size
 have hlt2 := hz2.lt
 clear hz1 hC1 hd1 hf1 ho1 hF2 cf
 obtain ⟨x0,x1,x2,rfl,_,_,_⟩ := id hst
 have hcells : ∀ x,Blk x w.heap.size (stArr q x0 x1 x2) 46 → x.cell? ⟨w.heap.size,0,none⟩ = some (.int .i64 q.act) ∧ x.cell? ⟨w.heap.size,1,none⟩ = some (.int .i64 q.trial) ∧ x.cell? ⟨w.heap.size,2,none⟩ = some (.int .u32 (V q.fl)) ∧ x.cell? ⟨w.heap.size,3,none⟩ = some (.int .u32 (V q.ge)) ∧ x.cell? ⟨w.heap.size,4,none⟩ = some (.int .u32 (V q.v0)) ∧ x.cell? ⟨w.heap.size,5,none⟩ = some (.int .i64 q.n0) ∧ x.cell? ⟨w.heap.size,6,none⟩ = some (x0) ∧ x.cell? ⟨w.heap.size,7,none⟩ = some (.int .u32 (V q.v1)) ∧ x.cell? ⟨w.heap.size,8,none⟩ = some (.int .i64 q.n1) ∧ x.cell? ⟨w.heap.size,9,none⟩ = some (x1) ∧ x.cell? ⟨w.heap.size,10,none⟩ = some (.bool q.on) ∧ x.cell? ⟨w.heap.size,11,none⟩ = some (.int .u32 (V q.s)) ∧ x.cell? ⟨w.heap.size,12,none⟩ = some (.int .u32 (V q.v)) ∧ x.cell? ⟨w.heap.size,13,none⟩ = some (.int .i64 q.L) ∧ x.cell? ⟨w.heap.size,14,none⟩ = some (.int .i64 q.S) ∧ x.cell? ⟨w.heap.size,15,none⟩ = some (.int .i64 q.P) ∧ x.cell? ⟨w.heap.size,16,none⟩ = some (x2) := fun x hx =>
   ⟨hx.cell rfl,hx.cell rfl,hx.cell rfl,hx.cell rfl,hx.cell rfl,hx.cell rfl,hx.cell rfl,hx.cell rfl,hx.cell rfl,hx.cell rfl,hx.cell rfl,hx.cell rfl,hx.cell rfl,hx.cell rfl,hx.cell rfl,hx.cell rfl,hx.cell rfl⟩
 have hS0 := hcells w2.drew hz2
 have hS1 := fun o => hcells (w2.alloc o).drew (hz2.alloc o)
 go_upto_region 5 with fail
 go_cut [] (fun wx => ∃ mb,Blk wx d (devC (.slice kA kn kc) f (some ⟨mb,0,none⟩)) 77 ∧ MemAt wx mb (stArr q x0 x1 x2) lp ∧ w.heap.size ≤ mb ∧ w2.heap.size ≤ mb ∧ Fr (· = d) w2 wx)
 case first =>
   go_region_held3 (fun x => x.cell? ⟨w.heap.size,0,none⟩ = some (.int .i64 q.act) ∧ x.cell? ⟨w.heap.size,1,none⟩ = some (.int .i64 q.trial) ∧ x.cell? ⟨w.heap.size,2,none⟩ = some (.int .u32 (V q.fl)) ∧ x.cell? ⟨w.heap.size,3,none⟩ = some (.int .u32 (V q.ge)) ∧ x.cell? ⟨w.heap.size,4,none⟩ = some (.int .u32 (V q.v0)) ∧ x.cell? ⟨w.heap.size,5,none⟩ = some (.int .i64 q.n0) ∧ x.cell? ⟨w.heap.size,6,none⟩ = some (x0) ∧ x.cell? ⟨w.heap.size,7,none⟩ = some (.int .u32 (V q.v1)) ∧ x.cell? ⟨w.heap.size,8,none⟩ = some (.int .i64 q.n1) ∧ x.cell? ⟨w.heap.size,9,none⟩ = some (x1) ∧ x.cell? ⟨w.heap.size,10,none⟩ = some (.bool q.on) ∧ x.cell? ⟨w.heap.size,11,none⟩ = some (.int .u32 (V q.s)) ∧ x.cell? ⟨w.heap.size,12,none⟩ = some (.int .u32 (V q.v)) ∧ x.cell? ⟨w.heap.size,13,none⟩ = some (.int .i64 q.L) ∧ x.cell? ⟨w.heap.size,14,none⟩ = some (.int .i64 q.S) ∧ x.cell? ⟨w.heap.size,15,none⟩ = some (.int .i64 q.P) ∧ x.cell? ⟨w.heap.size,16,none⟩ = some (x2))
     (first | (with_reducible exact hS0) | (with_reducible exact hS1 _) | (with_reducible exact hS3))
     ((go_at_call 70; refine (pstore_any d f w2.heap.size (.slice kA kn kc) m (stArr q x0 x1 x2) lp _ (hd2.alloc _).drew (Blk.drew (Blk.new w2 _ _))).mono ?_; rintro e w3 ⟨rfl,hd3,hF3⟩
       have hS3 := hcells w3 ((hz2.alloc _).drew.fr hF3 (by omega))))
   all_goals
     go_wp2_with fail
     go_meet
     refine ⟨w2.heap.size,hd3,Blk.fr (Blk.drew (Blk.new w2 _ _)) hF3 (by omega),by omega,Nat.le_refl _,?_⟩
     exact (Fr.of ((below_alloc1 w2 _).drew)).trans hF3
 case rest =>
   obtain ⟨mb,hd3,hm3,hmb,hmb2,hF3⟩ := hcut
   have hC3 := hfr _ _ hC2 (hF3.mono (S' := DFb d f bb) fun g _ hg => .inl hg)
   have hf3 := hf2.fr hF3 (fun h => hdf h.symm) (fun h => hdbb h.symm)
   have hF23 := hF2'.trans (hF3.mono (S' := DFb d f bb) fun g _ hg => .inl hg)
   clear hcells hS0 hS1 hz2
   go_wp2_with fail
   go_ret
   exact ⟨mb,rfl,hd3,hm3,hmb,hC3,hf3,hF23⟩
theorem mul64_lit (w : World) : Calls Tryz.prog 169 #[.int .u64 1,.int .u64 3584] w fun e w' => e = .returned (.tuple #[.int .u64 0,.int .u64 3584]) ∧ w = w' := by
 go_enter Tryz.func169,Tryz.ntmps169
 go_wp2_with fail
 go_ret2
 exact ⟨rfl,rfl⟩
theorem mul_lit (w : World) : Calls Tryz.prog 115 #[.int .u64 1,.int .u64 3584] w fun e w' => e = .returned (.tuple #[.int .u64 0,.int .u64 3584]) ∧ w = w' := by
 go_enter Tryz.func115,Tryz.ntmps115
 go_wp2_with fail
 refine (mul64_lit _).mono ?_
 rintro e w1 ⟨rfl,rfl⟩
 go_wp2_with fail
 go_ret2
 exact ⟨rfl,rfl⟩
def Rep (w : World) (g n k : Nat) (x : UInt8) : Prop := ∃ cur : Array Value,w.heap[g]? = some (.cells cur 5 (0,0)) ∧ n ≤ cur.size ∧ ∀ j,j < k → cur[j]? = some (by8 x)
theorem Rep.free {w : World} {g n k : Nat} {x : UInt8} (h : Rep w g n k x) (j : Nat) : w.frozen? ⟨g,j,none⟩ = false := by
 obtain ⟨cur,h1,_⟩ := h
 simp [World.frozen?,h1]
theorem Rep.isome {w : World} {g n k : Nat} {x : UInt8} (h : Rep w g n k x) {j : Nat} (hj : j < n) : (w.cell? ⟨g,j,none⟩).isSome = true := by
 obtain ⟨cur,h1,h2,_⟩ := h
 rw [cell_of_row w g j _ _ _ h1]
 simp
 omega
theorem Rep.cell {w : World} {g n k : Nat} {x : UInt8} (h : Rep w g n k x) {j : Nat} (hj : j < k) : w.cell? ⟨g,j,none⟩ = some (by8 x) := by
 obtain ⟨cur,h1,_,h3⟩ := h
 rw [cell_of_row w g j _ _ _ h1]
 exact h3 j hj
theorem Rep.set {w : World} {g n k : Nat} {x : UInt8} (h : Rep w g n k x) (hk : k < n) : Rep (w.setCell ⟨g,k,none⟩ (by8 x)) g n (k + 1) x := by
 obtain ⟨cur,h1,h2,h3⟩ := h
 refine ⟨_,(show Blk w g cur 5 from h1).set k _,by simpa using h2,fun j hj => ?_⟩
 rw [Array.getElem?_setIfInBounds]
 by_cases e : k = j
 · subst e; simp; omega
 · rw [if_neg e]; exact h3 j (by omega)
theorem Rep.sets : ∀ (m : Nat) {w : World} {g n k : Nat} {x : UInt8} (h : Rep w g n k x) (hk : k + m ≤ n),Rep (w.setCells g k (List.replicate m (by8 x))) g n (k + m) x := by
 intro m
 induction m with
 | zero => intro w g n k x h _; exact h
 | succ m ih =>
   intro w g n k x h hk
   rw [List.replicate_succ,show k + (m + 1) = (k + 1) + m by omega]
   exact ih (h.set (by omega)) (by omega)
theorem Rep.row {w : World} {g n : Nat} {x : UInt8} (h : Rep w g n n x) : Row8 w g (List.replicate n x) := by
 obtain ⟨cur,h1,h2,h3⟩ := h
 refine ⟨cur,h1,?_⟩
 rw [List.length_replicate]
 apply List.ext_getElem?
 intro j
 rw [List.getElem?_take,bys_get,List.getElem?_replicate]
 split
 · rw [Array.getElem?_toList,h3 j (by assumption)]; rfl
 · rfl
theorem wpList_copy_run {P : Program} (w : World) {ops : Array Oper} {rest : List Oper} {o : Oper} {a : Act} {Q : Exit → Act → World → Prop} (hgd : o.guard = none) (s x : Operand) (t tn : TypeId)
   (ho : o.op = .call { callee := .builtin .copy,args := #[s,x],argTypes := #[t,tn] }) (vs vx : Value) (hs : a.eval s = vs) (hx : a.eval x = vx)
   {v' : Value} {w' : World} (hr : (Builtin.copy_ #[t,tn] o.type #[vs,vx]).run P w = .ok v' w') (h : wpList P ops Q rest (a.put o.dst v') w') : wpList P ops Q (o :: rest) a w := by
 refine wpList_plain hgd fun _ hK => ?_
 unfold Oper.wp execOp
 simp only [ho,resolve,invoke,builtin,Sem.run_bind,Sem.run_pure,Result.andThen_ok,List.map_toArray,List.map_cons,List.map_nil,hs,hx,hr]
 exact hK _ _ h
theorem step_copy_run {P : Program} (w : World) {ops : Array Oper} {o : Oper} {a : Act} {K : Act → World → Prop} {Q : Exit → Act → World → Prop} {E : Prop} (hgd : o.guard = none) (s x : Operand) (t tn : TypeId)
   (ho : o.op = .call { callee := .builtin .copy,args := #[s,x],argTypes := #[t,tn] }) (vs vx : Value) (hs : a.eval s = vs) (hx : a.eval x = vx)
   {v' : Value} {w' : World} (hr : (Builtin.copy_ #[t,tn] o.type #[vs,vx]).run P w = .ok v' w') (h : K (a.put o.dst v') w') : if Region.wanted o (yielded ops a.tmps) = true then Oper.wp P o a w K Q else E := by
 have hw : Region.wanted o (yielded ops a.tmps) = true := by simp [Region.wanted,hgd]
 rw [if_pos hw]
 unfold Oper.wp execOp
 simp only [ho,resolve,invoke,builtin,Sem.run_bind,Sem.run_pure,Result.andThen_ok,List.map_toArray,List.map_cons,List.map_nil,hs,hx,hr]
 exact h
theorem run_copyRep (w : World) (ty : TypeId) (g n k m : Nat) (x : UInt8) (h : Rep w g n k x) (hm : m ≤ k) (hm0 : 0 < m) (hkm : k < n) :
   (Builtin.copy_ #[22,22] ty #[.slice (some ⟨g,k,none⟩) (n - k) (n - k),.slice (some ⟨g,0,none⟩) m n]).run Tryz.prog w = .ok (goInt (Nat.min m (n - k))) (w.setCells g k (List.replicate (Nat.min m (n - k)) (by8 x))) := by
 obtain ⟨i,hi,hz0,hz1,hz2⟩ := info_parts isByte
 have hs : (Tryz.prog.info? 5).map (·.size) = some 1 := by rw [hi]; simp [hz1]
 have h1 : Nat.min m (n - k) ≤ m := Nat.min_le_left _ _
 have h2 : Nat.min m (n - k) ≤ n - k := Nat.min_le_right _ _
 have := run_copy_cells (P := Tryz.prog) w 22 22 ty 5 g k (n - k) (n - k) ⟨g,0,none⟩ m n (List.replicate (Nat.min m (n - k)) (by8 x)) Tryz.underlying22 hs (by rw [List.length_replicate])
   (fun j v hv => by
     rw [List.getElem?_replicate] at hv
     split at hv
     · cases hv
       rw [addAt]
       exact h.cell (by omega)
     · cases hv)
   (fun j hj => by rw [List.length_replicate] at hj; exact h.isome (by omega)) (fun j _ => h.free _) (fun v hv => by
     rw [List.mem_replicate] at hv
     rw [hv.2]; rfl)
 rw [List.length_replicate] at this
 exact this
def reps (x : UInt8) : List UInt8 := List.replicate 3584 x
theorem reps_len (x : UInt8) : (reps x).length = 3584 := List.length_replicate
theorem repeat_any (X : Option Addr) (c : Nat) (x : UInt8) (w : World) (hr : Rd w X 1 c [x]) :
   Calls Tryz.prog 62 #[.slice X 1 c,.int .i64 3584] w fun e w' => ∃ g,e = .returned (.slice (some ⟨g,0,none⟩) 3584 3584) ∧ w.heap.size ≤ g ∧ Row8 w' g (reps x) ∧ Below w.heap.size w w' := by
 obtain ⟨cs,hrunM,hle,_⟩ := Lib.run_makeNoZero (P := Tryz.prog) w #[3] 22 5 Tryz.underlying22 3584 (by omega)
 have hcall0 : (callFunc 116 #[.int .i64 ((3584 : Nat) : Int)]).run Tryz.prog w = .ok (.value (.slice (some ⟨w.heap.size,0,none⟩) 3584 cs.size)) ((w.alloc (.cells cs 5)).drewN 2) := by
   rw [run_callFunc_extern Tryz.func116 (by kernel_rfl) (by kernel_rfl) (by kernel_rfl) (e := Extern.BytealgMakeNoZero.makeNoZero #[3] #[22]) (by kernel_rfl),hrunM]
   rfl
 have hcall : (callFunc 116 #[.int .i64 3584]).run Tryz.prog w = .ok (.value (.slice (some ⟨w.heap.size,0,none⟩) 3584 cs.size)) ((w.alloc (.cells cs 5)).drewN 2) := hcall0
 clear hcall0 hrunM
 have hR0 : Rep ((w.alloc (.cells cs 5)).drewN 2) w.heap.size 3584 0 x := ⟨cs,heap_alloc_new w _,hle,fun j hj => by omega⟩
 have hB0 : Below w.heap.size w ((w.alloc (.cells cs 5)).drewN 2) := below_drewN ((Below.refl _ _).alloc (Nat.le_refl _) _) 2
 have hr0 := hr.below hB0
 obtain ⟨ad,y,rfl,hy,hcy⟩ := hr0.at_ (k := 0) (by omega)
 obtain rfl : y = x := by simpa using hy.symm
 obtain ⟨i,hi,hz0,hz1,hz2⟩ := info_parts isByte
 have hs5 : (Tryz.prog.info? 5).map (·.size) = some 1 := by rw [hi]; simp [hz1]
 have hcp := fun ty => run_copy_cells (P := Tryz.prog) ((w.alloc (.cells cs 5)).drewN 2) 22 22 ty 5 w.heap.size 0 3584 3584 ad 1 c [by8 y] Tryz.underlying22 hs5 rfl
   (fun j v hv => by
     match j,hv with
     | 0,hv => simp at hv; subst hv; exact hcy) (fun j hj => by simp at hj; subst hj; exact hR0.isome (by omega)) (fun j _ => hR0.free _) (fun v hv => by simp at hv; subst hv; rfl)
 have hR1 : Rep (((w.alloc (.cells cs 5)).drewN 2).setCells w.heap.size 0 [by8 y]) w.heap.size 3584 1 y := hR0.sets 1 (by omega)
 have hB1 : Below w.heap.size w (((w.alloc (.cells cs 5)).drewN 2).setCells w.heap.size 0 [by8 y]) := hB0.setCell (p := ⟨w.heap.size,0,none⟩) (Nat.le_refl _) _
 have hle' : (3584 : Int) ≤ (cs.size : Int) := by omega
 clear hi hz0 hz1 hz2 hs5 hy hcy hR0
 go_enter Tryz.func62,Tryz.ntmps62
 go_wp2_with fail
 refine (mul_lit _).mono ?_
 rintro e w1 ⟨rfl,rfl⟩
 go_wp2_with (first
   | ((with_reducible refine at_copy ?_); refine wpList_copy_run _ rfl _ _ 22 22 rfl _ _ rfl rfl (hcp _) ?_))
 generalize ((w.alloc (.cells cs 5)).drewN 2).setCells w.heap.size 0 [by8 y] = w2 at *
 clear hcall hcp hB0 hr0
 go_loopw [10] (fun v wr => ∃ k : Nat,1 ≤ k ∧ k ≤ 3584 ∧ v = .int .i64 (k : Int) ∧ Rep wr w.heap.size 3584 k y ∧ Below w.heap.size w wr) (fun v _ => 3584 - (intOf v).toNat)
 case atStart => exact ⟨1,by omega,by omega,rfl,hR1,hB1⟩
 case round =>
   clear hR1 hB1
   obtain ⟨k,h1,hk,rfl,hR,hB⟩ := hrel
   by_cases hlt : k < 3584
   · have hlt' : (k : Int) < 3584 := by omega
     have hk0 : (1 : Int) ≤ (k : Int) := by omega
     go_wp2_with fail
     have hk2 : (k : Int) ≤ 3584 := by omega
     have hk00 : (0 : Int) ≤ (k : Int) := by omega
     have hne : ¬ (k = 3584) := by omega
     have hne' : ¬ (3584 = k) := by omega
     have hrun := fun ty => run_copyRep wr.drew ty w.heap.size 3584 k k y hR (Nat.le_refl _) (by omega) hlt
     have hqb : k + Nat.min k (3584 - k) ≤ 3584 := by
       have : Nat.min k (3584 - k) ≤ 3584 - k := Nat.min_le_right _ _
       omega
     have hq1 : 1 ≤ Nat.min k (3584 - k) := Nat.le_min.2 ⟨h1,by omega⟩
     have hR2 : Rep (wr.drew.setCells w.heap.size k (List.replicate (Nat.min k (3584 - k)) (by8 y))) w.heap.size 3584 (k + Nat.min k (3584 - k)) y := Rep.sets (w := wr.drew) _ hR hqb
     have hB2 : Below w.heap.size w (wr.drew.setCells w.heap.size k (List.replicate (Nat.min k (3584 - k)) (by8 y))) := (fr_setCells (S := fun g => w.heap.size ≤ g) (Nat.le_refl _) _ _ _ _ (Fr.refl _ wr.drew)).below hB.size (fun g hg => hg) |> (hB.drew).trans
     generalize Nat.min k (3584 - k) = q at *
     have hq2 : (q : Int) ≤ 3584 := by omega
     have hwk : IntKind.i64.wrap ((k : Int) + (q : Int)) = (k : Int) + (q : Int) := by rw [IntKind.wrap_i64]; omega
     have Hwk := hide hwk
     go_region_law (refine step_copy_run _ rfl (.tmp 70) (.tmp 73) 22 22 rfl (.slice (some ⟨w.heap.size,k,none⟩) (3584 - k) (3584 - k)) (.slice (some ⟨w.heap.size,0,none⟩) k 3584) (by simp [Act.eval,Act.put]) (by simp [Act.eval,Act.put]) (hrun _) ?_)
     go_simp
     generalize wr.drew.setCells w.heap.size k (List.replicate q (by8 y)) = w3 at *
     go_roundw
     case rel => exact ⟨_,_,_,_,_,_,_,_,_,_,_,_,_,_,_,_,_,⟨k + q,by omega,hqb,by go_num,hR2,hB2⟩,rfl⟩
     case measure => simp [intOf]; omega
   · obtain rfl : k = 3584 := by omega
     go_wp2_with fail
     go_ret
     exact ⟨w.heap.size,rfl,Nat.le_refl _,hR.row,hB⟩
theorem flash_new {w w1 : World} {bb : Nat} {wear : Int} (hR : Row8 w1 bb (reps 255)) : FlashAt (w1.alloc (.cells #[.slice (some ⟨bb,0,none⟩) 3584 3584,.int .i64 0,.int .i64 0,.int .i64 0,.int .i64 0,.int .i64 0,.int .i64 0,.int .i64 0,.int .i64 0,.int .i64 0,.int .i64 0,.int .i64 0,.int .i64 0,.int .i64 0,.int .i64 0,.int .i64 wear,.bool false,.bool false,.int .i64 0,.int .i64 0,.int .i64 0] 130)) w1.heap.size bb (reps 255) (fun _ => 0) wear :=
 ⟨⟨0,0,Blk.new _ _ _⟩,hR.below ((Below.refl _ _).alloc (Nat.le_refl _) _),reps_len _⟩
theorem flashnew_any (wear : Int) (w : World) (h1 : 1 ≤ wear) (h2 : wear ≤ 10000) :
   Calls Tryz.prog 26 #[.int .i64 wear] w fun e w' => ∃ f bb,e = .returned (.pointer (some ⟨f,0,none⟩)) ∧ FlashAt w' f bb (reps 255) (fun _ => 0) wear ∧ w.heap.size ≤ f ∧ w.heap.size ≤ bb ∧ Below w.heap.size w w' := by
 have hr : Rd (w.alloc (.cells #[.int .u8 255] 5)) (some ⟨w.heap.size,0,none⟩) 1 1 [255] := Rd.one w 5 255
 have hB0 : Below w.heap.size w (w.alloc (.cells #[.int .u8 255] 5)) := (Below.refl _ _).alloc (Nat.le_refl _) _
 have hs0 : w.heap.size ≤ (w.alloc (.cells #[.int .u8 255] 5)).heap.size := hB0.size
 by_cases hw : wear = 1
 · subst hw
   go_enter Tryz.func26,Tryz.ntmps26
   go_wp2_with fail
   refine (repeat_any _ 1 255 _ hr).mono ?_
   rintro e w1 ⟨bb,rfl,hbb,hR,hb1⟩
   have hB1 := below_next hB0 hb1
   go_wp2_with fail
   go_ret
   exact ⟨w1.heap.size,bb,rfl,flash_new (w := w) hR,hB1.size,Nat.le_trans hs0 hbb,hB1.alloc hB1.size _⟩
 · have hw1 : 1 < wear := by omega
   go_enter Tryz.func26,Tryz.ntmps26
   go_wp2_with fail
   refine (repeat_any _ 1 255 _ hr).mono ?_
   rintro e w1 ⟨bb,rfl,hbb,hR,hb1⟩
   have hB1 := below_next hB0 hb1
   go_wp2_with fail
   all_goals first | (exfalso; omega) | skip
   go_ret
   exact ⟨w1.heap.size,bb,rfl,flash_new (w := w) hR,hB1.size,Nat.le_trans hs0 hbb,hB1.alloc hB1.size _⟩
theorem HSt.lt {w : World} {x : Value} {o : Option (List UInt8)} (h : HSt w x o) {A : Option Addr} {n c : Nat} {ad : Addr} (e : x = .slice A n c) (k : A = some ad) : ad.block < w.heap.size := by
 cases o with
 | none =>
   have h' : x = .slice none 0 0 := h
   rw [h'] at e
   simp only [Value.slice.injEq] at e
   rw [← e.1] at k
   cases k
 | some H =>
   obtain ⟨A',c',h1,h2⟩ := h
   rw [h1] at e
   simp only [Value.slice.injEq] at e
   obtain ⟨ad',y,h3,_,h5⟩ := h2.at_ (show 0 < 32 by decide)
   rw [e.1,k] at h3
   have e2 : ad = ad' := by simpa using h3
   have := World.block_lt_of_cell? w _ h5
   rw [blockAdd] at this
   rw [e2]; exact this
theorem StC.frHi {w0 w w' : World} {st : Array Value} {q : SSt} {S : Nat → Prop} (h0 : StC w0 st q) (hb : Below w0.heap.size w0 w) (hF : Fr S w w') (hS : ∀ b,S b → w0.heap.size ≤ b) : StC w' st q := by
 obtain ⟨x0,x1,x2,rfl,h1,h2,h3⟩ := h0
 exact ⟨x0,x1,x2,rfl,(h1.below hb).fr hF (fun A n c ad e k hs => by have := h1.lt e k; have := hS _ hs; omega),(h2.below hb).fr hF (fun A n c ad e k hs => by have := h2.lt e k; have := hS _ hs; omega),(h3.below hb).fr hF (fun A n c ad e k hs => by have := h3.lt e k; have := hS _ hs; omega)⟩
theorem StC.frM {w w' : World} {st : Array Value} {q : SSt} {S : Nat → Prop} (h : StC w st q) (hF : Fr S w w') (hn : ∀ (i : Nat) A n c ad,st[i]? = some (.slice A n c) → A = some ad → ¬ S ad.block) : StC w' st q := by
 obtain ⟨x0,x1,x2,rfl,h0,h1,h2⟩ := h
 exact ⟨x0,x1,x2,rfl,h0.fr hF (fun A n c ad e k => hn 6 A n c ad (by rw [← e]; rfl) k),h1.fr hF (fun A n c ad e k => hn 9 A n c ad (by rw [← e]; rfl) k),h2.fr hF (fun A n c ad e k => hn 16 A n c ad (by rw [← e]; rfl) k)⟩
theorem StC.lts {w : World} {st : Array Value} {q : SSt} (h : StC w st q) : ∀ (i : Nat) A n c ad,st[i]? = some (.slice A n c) → A = some ad → ad.block < w.heap.size := by
 obtain ⟨x0,x1,x2,rfl,h0,h1,h2⟩ := h
 intro i A n c ad hi hA
 match i with
 | 6 => exact h0.lt (Option.some.inj hi) hA
 | 9 => exact h1.lt (Option.some.inj hi) hA
 | 16 => exact h2.lt (Option.some.inj hi) hA
 | 0 => cases hi
 | 1 => cases hi
 | 2 => cases hi
 | 3 => cases hi
 | 4 => cases hi
 | 5 => cases hi
 | 7 => cases hi
 | 8 => cases hi
 | 10 => cases hi
 | 11 => cases hi
 | 12 => cases hi
 | 13 => cases hi
 | 14 => cases hi
 | 15 => cases hi
 | k + 17 => cases hi
theorem sec_reps (s : Nat) (hs : s < 14) : sec (reps 255) s = List.replicate 256 255 := by
 unfold sec reps
 rw [List.drop_replicate,List.take_replicate]
 congr 1
 omega
theorem whole_blank : wholeC (List.replicate 256 255) = none := by
 unfold wholeC
 rw [if_pos (by decide)]
theorem found_new (b : List UInt8) : foundC (imgC (reps 255) b 0) = none := by
 have h : foundC (imgC (reps 255) b 0) = foundC (reps 255) := found_same (fun j hj => by
   have hx : (reps 255)[j]? = some 255 := by unfold reps; rw [List.getElem?_replicate,if_pos (by omega)]
   rw [hx]
   unfold imgC
   rw [progN_get _ _ _ j 255 hx,if_neg (by omega)])
 rw [h]
 unfold foundC stC stC stC
 rw [sec_reps 0 (by decide),sec_reps 1 (by decide),whole_blank]
 rfl
theorem reps_blank (s : Nat) (hs : s < 14) : blankL (sec (reps 255) s) = true := by
 unfold blankL
 rw [List.all_eq_true]
 intro x hx
 unfold sec at hx
 have h1 := List.mem_of_mem_drop (List.mem_of_mem_take hx)
 unfold reps at h1
 have := List.eq_of_mem_replicate h1
 rw [this]; rfl
theorem make_any (kA0 : Option Addr) (kn kc0 : Nat) (key : List UInt8) (v : BitVec 32) (X : Option Addr) (n c : Nat) (b : List UInt8) (w : World) (hk : Rd w kA0 kn kc0 key) (hkn : kn ≤ 64) (hr : Rd w X n c b) (h1 : 1 ≤ n) (h2 : n ≤ 512) (hq : (offQ 0#32 0#32 v n (sha b)).Ok) :
   Calls Tryz.prog 8 #[.slice kA0 kn kc0,.int .u32 (V v),.slice X n c,.int .i64 100] w fun e w' => ∃ d f bb mb st kA kc er,e = .returned (.tuple #[.pointer (some ⟨d,0,none⟩),.int .i64 0]) ∧
     Blk w' d (devC (.slice kA kn kc) f (some ⟨mb,0,none⟩)) 77 ∧ Rd w' kA kn kc key ∧ MemAt w' mb st none ∧ StC w' st (offQ 0#32 0#32 v n (sha b)) ∧
     FlashAt w' f bb (writeC (imgC (reps 255) b 0) (bytesS (offQ 0#32 0#32 v n (sha b)))) er 100 ∧ w.heap.size ≤ d ∧ w.heap.size ≤ f ∧ w.heap.size ≤ bb ∧ StF w.heap.size st ∧ Below w.heap.size w w' ∧ w.heap.size ≤ mb ∧ (∀ i,0 ≤ er i ∧ er i ≤ 1) ∧ (0 < kn → ∀ ad,kA = some ad → w.heap.size ≤ ad.block ∧ ad.block ≠ d ∧ ad.block ≠ f ∧ ad.block ≠ bb) := by
 have hkl : decide (64 < (kn : Int)) = false := by simp; omega
 have hbf := bootfirst_any v X n c b w hr h1 h2
 go_enter Tryz.func8,Tryz.ntmps8
 go_wp2_with fail
 refine hbf.mono ?_
 rintro e w1 ⟨st,rfl,hst,hb1,hsf⟩
 have hz1 : Blk (w1.alloc (.cells stZ 46)) w1.heap.size stZ 46 := Blk.new _ _ _
 have hszs := hst.size
 have hone := hst.one
 have hs17 : stZ.size = st.size := by rw [hst.size17]; rfl
 have hs1 := hb1.size
 have hB2 : Below w.heap.size w ((w1.alloc (.cells stZ 46)).setRow w1.heap.size st) := below_setRow (hb1.alloc hs1 _) hs1 _
 have hB2' : Below w1.heap.size w1 ((w1.alloc (.cells stZ 46)).setRow w1.heap.size st) := below_setRow (below_alloc1 _ _) (Nat.le_refl _) _
 have hz2 := hz1.setRow st
 go_upto_region 4 with (first
   | ((with_reducible refine at_store ?_); refine wpList_store_row rfl 46 (.tmp 10) (.tmp 19) rfl w1.heap.size st rfl rfl 46 stZ hz1 hszs hs17 hone ?_))
 change Code.wp _ _ _ _ ((w1.alloc (.cells stZ 46)).setRow w1.heap.size st)
 generalize (w1.alloc (.cells stZ 46)).setRow w1.heap.size st = w2 at *
 have hst2 := hst.below hB2'
 have hstl := hst.lts
 have hs12 := hB2'.size
 have hk2 := hk.below hB2
 have hr2 := hr.below hB2
 have hs2 := hB2.size
 clear hz1 hB2' hst hbf hb1 hk hr
 go_wp2_with fail
 refine (clone_any kA0 kn kc0 key w2 hk2 (by omega)).mono ?_
 rintro e w3 ⟨kA,kc,rfl,ho3,hb3⟩
 go_wp2_with fail
 refine (flashnew_any 100 w3 (by decide) (by decide)).mono ?_
 rintro e w4 ⟨f,bb,rfl,hfl4,hf4,hbb4,hb4⟩
 have hs3 := hb3.size
 have hs4 := hb4.size
 have hb23 := below_next hb3 hb4
 have hko : Own w4 w2.heap.size 5 kA kn kc key := ho3.below hb4
 have hd5 : Blk (w4.alloc (.cells (devC (.slice kA kn kc) f none) 77)) w4.heap.size (devC (.slice kA kn kc) f none) 77 := Blk.new _ _ _
 have ha5 := below_alloc1 w4 (.cells (devC (.slice kA kn kc) f none) 77)
 go_upto_region 5 with fail
 change Code.wp _ _ _ _ (w4.alloc (.cells (devC (.slice kA kn kc) f none) 77))
 have hB5 := below_next (below_next hB2 hb23) ha5
 have hB5' := below_next hb23 ha5
 generalize w4.alloc (.cells (devC (.slice kA kn kc) f none) 77) = w5 at *
 have hfl5 := hfl4.below ha5
 have hst5 := hst2.below hB5'
 have hz5 := hz2.below hB5'
 have hr5 := hr2.below hB5'
 have hk5 := (hko.below ha5)
 have c1 := hd5.cell (i := 1) (v := .pointer (some ⟨f,0,none⟩)) rfl
 have hl5 := hd5.lt
 have hXl : ∀ ad,X = some ad → ad.block < w2.heap.size := by
   intro ad had
   obtain ⟨ad',x,h3,_,h5⟩ := hr2.at_ (show 0 < n by omega)
   rw [had] at h3
   have e : ad = ad' := by simpa using h3
   have := World.block_lt_of_cell? w2 _ h5
   rw [blockAdd] at this
   rw [e]; exact this
 have hsw : Calls Tryz.prog 27 #[.pointer (some ⟨f,0,none⟩),.int .i64 0,.slice X n c] w5 fun e w' => e = .returned (.int .i64 0) ∧ FlashAt w' f bb (imgC (reps 255) b 0) (fun _ => 0) 100 ∧ Fr (fun g => g = f ∨ g = bb) w5 w' :=
   slotwrite_any f bb 0 n c X b (reps 255) (fun _ => 0) 100 w5 hfl5 hr5 h1 h2 (by decide) (fun k hk => reps_blank _ (by omega)) (fun ad had => by have := hXl ad had; omega)
 go_wp2_with fail
 refine hsw.mono ?_
 rintro e w6 ⟨rfl,hfl6,hF6⟩
 obtain ⟨_,_,hfb5⟩ := hfl5.blk
 have hdf := hd5.ne hfb5 (by decide)
 have hdb := hfl5.2.1.ne hd5 (by decide)
 have hd6 := hd5.fr hF6 (by rintro (k | k); exact hdf k; exact hdb k.symm)
 have hz6 := hz5.fr hF6 (by rintro (k | k); exact hz5.ne hfb5 (by decide) k; exact hfl5.2.1.ne hz5 (by decide) k.symm)
 have hk6 : Rd w6 kA kn kc key := hk5.rd.fr hF6 (fun h0 ad had => by
   obtain ⟨g,hg,_,hg2⟩ := ho3.form h0
   rw [hg] at had
   have e : (⟨g,0,none⟩ : Addr) = ad := by simpa using had
   rw [← e]
   show ¬ (g = f ∨ g = bb)
   omega)
 have hst6 : StC w6 st (offQ 0#32 0#32 v n (sha b)) := hst2.frHi hB5' hF6 (by rintro b (k | k) <;> subst k <;> omega)
 clear hd5 hsw hst5 hr5 hz5 hfl5 hst2 hr2 hz2 hfl4 c1
 go_wp2_with (first
   | ((with_reducible refine at_load ?_); refine wpList_load_row rfl 46 (.tmp 10) rfl w1.heap.size rfl 46 st (0,0) _ hz6 Tryz.underlying46 rfl hszs ?_))
 have hnum : numC (imgC (reps 255) b 0) = 0#32 := by unfold numC; rw [found_new]
 have hto : toC (imgC (reps 255) b 0) = 0 := by unfold toC; rw [found_new]
 have hs6 := hF6.size
 have hfrg : ∀ y1 y2,StC y1 st (offQ 0#32 0#32 v n (sha b)) → Fr (DFb w4.heap.size f bb) y1 y2 → StC y2 st (offQ 0#32 0#32 v n (sha b)) := by
   intro y1 y2 k1 k2
   exact StC.frM k1 k2 (fun i A n c ad e1 e2 e3 => by
     have := hstl i A n c ad e1 e2
     rcases e3 with e3 | e3 | e3 <;> omega)
 refine (keeps_gen w4.heap.size f bb kA kn kc none (offQ 0#32 0#32 v n (sha b)) hq st none (imgC (reps 255) b 0) (fun _ => 0) w6 hd6 hfl6 hst6 hfrg (by rw [hnum]; decide) (by decide) (by decide)).mono ?_
 rintro e w7 ⟨mb,rfl,hd7,hm7,hmb7,hst7,hfl7,hF7⟩
 have hk7 := hk6.fr hF7 (fun h0 ad had => by
   obtain ⟨g,hg,_,hg2⟩ := ho3.form h0
   rw [hg] at had
   have e : (⟨g,0,none⟩ : Addr) = ad := by simpa using had
   rw [← e]
   show ¬ (g = w4.heap.size ∨ g = f ∨ g = bb)
   omega)
 have hFF : Below w.heap.size w w7 := by
   have h1 : Fr (fun g => w.heap.size ≤ g) w w6 := (Fr.of hB5).step hF6 (fun g _ k => by rcases k with k | k <;> subst k <;> omega)
   exact (h1.step hF7 (fun g _ k => by rcases k with k | k | k <;> subst k <;> omega)).below (Nat.le_refl _) (fun _ k => k)
 go_wp2_with fail
 go_ret2
 exact ⟨w4.heap.size,f,bb,mb,st,kA,kc,_,rfl,hd7,hk7,hm7,hst7,hfl7,by omega,by omega,by omega,hsf,hFF,by omega,fun i => (by unfold erMore; dsimp only; split <;> omega),fun h0 ad had => by
   obtain ⟨g,hg,hg1,hg2⟩ := ho3.form h0
   rw [hg] at had
   have e : (⟨g,0,none⟩ : Addr) = ad := by simpa using had
   rw [← e]
   show w.heap.size ≤ g ∧ g ≠ w4.heap.size ∧ g ≠ f ∧ g ≠ bb
   omega⟩
def Sub (l : List UInt8) (at_ : Nat) (b : List UInt8) : Prop := ∀ (i : Nat) x,b[i]? = some x → l[at_ + i]? = some x
theorem Sub.read {l b : List UInt8} {at_ : Nat} (h : Sub l at_ b) : (l.drop at_).take b.length = b := by
 apply List.ext_getElem?
 intro i
 rw [List.getElem?_take]
 by_cases hi : i < b.length
 · rw [if_pos hi,List.getElem?_drop,h i _ (List.getElem?_eq_getElem hi),List.getElem?_eq_getElem hi]
 · rw [if_neg hi,List.getElem?_eq_none (by omega)]
theorem Sub.same {l l' b : List UInt8} {at_ : Nat} (h : Sub l at_ b) (hs : ∀ j,at_ ≤ j → j < at_ + b.length → l'[j]? = l[j]?) : Sub l' at_ b := fun i x hx => by
 have hi := (List.getElem?_eq_some_iff.1 hx).1
 rw [hs _ (by omega) (by omega)]
 exact h i x hx
theorem sub_img (l b : List UInt8) (s : Nat) (hl : ∀ j,(2 + s * 2) * 256 ≤ j → j < (2 + s * 2) * 256 + b.length → l[j]? = some 255) : Sub (imgC l b s) ((2 + s * 2) * 256) b := by
 intro i x hx
 have hi := (List.getElem?_eq_some_iff.1 hx).1
 have h := progN_get l ((2 + s * 2) * 256) b _ 255 (hl ((2 + s * 2) * 256 + i) (by omega) (by omega)) b.length
 rw [if_pos (by omega),Nat.add_sub_cancel_left,and_255,List.getD_eq_getElem?_getD,hx] at h
 exact h
theorem img_other (l b : List UInt8) (s j : Nat) (h : j < (2 + s * 2) * 256 ∨ (2 + s * 2) * 256 + b.length ≤ j) : (imgC l b s)[j]? = l[j]? := by
 by_cases hj : j < l.length
 · have hx : l[j]? = some l[j] := List.getElem?_eq_getElem hj
   unfold imgC
   rw [progN_get l _ b j _ hx,if_neg (by omega),hx]
 · rw [List.getElem?_eq_none (by unfold imgC; rw [progN_len]; omega),List.getElem?_eq_none (by omega)]
theorem img_len (l b : List UInt8) (s : Nat) : (imgC l b s).length = l.length := by unfold imgC; rw [progN_len]
structure FlG (l : List UInt8) (q : SSt) (k : Nat) : Prop where
 len : l.length = 3584
 fnd : ∃ i x,foundC l = some (i,x,bytesS q) ∧ x.toNat ≤ k
theorem FlG.num {l : List UInt8} {q : SSt} {k : Nat} (h : FlG l q k) : (numC l).toNat ≤ k := by
 obtain ⟨i,x,e,hx⟩ := h.fnd
 unfold numC
 rw [e]
 exact hx
theorem FlG.same {l l' : List UInt8} {q : SSt} {k : Nat} (h : FlG l q k) (hl : l'.length = l.length) (he : ∀ j,j < 512 → l'[j]? = l[j]?) : FlG l' q k :=
 ⟨hl.trans h.len,by rw [found_same he]; exact h.fnd⟩
theorem FlG.write {l : List UInt8} {q q' : SSt} {k : Nat} (h : FlG l q k) (hk : k < 1000) (hq : q'.Ok) : FlG (writeC l (bytesS q')) q' (k + 1) := by
 have hn := h.num
 have hb := bytesS_len q' hq
 refine ⟨by rw [writeC_len]; exact h.len,toC l,numC l + 1#32,found_write l _ h.len (by omega) (by omega),?_⟩
 rw [BitVec.toNat_add]
 show ((numC l).toNat + 1) % 4294967296 ≤ _
 omega
theorem write_high (l : List UInt8) (q : SSt) (hq : q.Ok) (j : Nat) (hj : 512 ≤ j) : (writeC l (bytesS q))[j]? = l[j]? := by
 have hb := bytesS_len q hq
 have ht := toC_lt l
 exact writeC_other l _ j (by omega) (by omega)
theorem reps_get (x : UInt8) (j : Nat) (hj : j < 3584) : (reps x)[j]? = some x := by unfold reps; rw [List.getElem?_replicate,if_pos hj]
structure New (l b : List UInt8) (q : SSt) : Prop where
 fl : FlG l q 1
 img : Sub l 512 b
 blank : ∀ j,1024 ≤ j → j < 3584 → l[j]? = some 255
theorem new_flash (b : List UInt8) (q : SSt) (hq : q.Ok) (hb : b.length ≤ 512) : New (writeC (imgC (reps 255) b 0) (bytesS q)) b q := by
 have hn : numC (imgC (reps 255) b 0) = 0#32 := by unfold numC; rw [found_new]
 have hb2 := bytesS_len q hq
 have hl : (imgC (reps 255) b 0).length = 3584 := by rw [img_len,reps_len]
 refine ⟨⟨by rw [writeC_len,hl],_,_,found_write _ _ hl (by omega) (by rw [hn]; decide),by rw [hn]; decide⟩,?_,?_⟩
 · refine Sub.same (l := imgC (reps 255) b 0) (sub_img _ _ 0 (fun j h1 h2 => reps_get _ _ (by omega))) (fun j h1 h2 => write_high _ _ hq _ h1)
 · intro j h1 h2
   rw [write_high _ _ hq _ (by omega),img_other _ _ _ _ (.inr (by omega)),reps_get _ _ h2]
theorem blank_of (l : List UInt8) (s : Nat) (h : ∀ j,s * 256 ≤ j → j < s * 256 + 256 → l[j]? = some 255) : blankL (sec l s) = true := by
 unfold blankL
 rw [List.all_eq_true]
 intro x hx
 obtain ⟨i,hi⟩ := List.getElem?_of_mem hx
 have h1 : i < 256 := by
   have := (List.getElem?_eq_some_iff.1 hi).1
   unfold sec at this
   rw [List.length_take] at this
   omega
 rw [sec_get _ _ _ h1,h _ (by omega) (by omega)] at hi
 cases hi
 rfl
theorem packet_sym (d f mb : Nat) (Kk : Value) (st : Array Value) (lp : Option Addr) (X : Option Addr) (m c : Nat) (l x : List UInt8) (w : World) (hd : Blk w d (devC Kk f (some ⟨mb,0,none⟩)) 77) (hm : MemAt w mb st lp) (hs : st.size = 17) (hr : Rd w X m c l) (hu : unw l = (2,x,0)) (Q : Int → World → Prop)
   (hin : ∀ w1 A n cc,Below w.heap.size w w1 → Rd w1 A n cc x → Calls Tryz.prog 37 #[.pointer (some ⟨d,0,none⟩),.slice A n cc] w1 fun e w' => ∃ r : Int,e = .returned (.int .i64 r) ∧ (r == 11) = false ∧ Q r w') :
   Calls Tryz.prog 12 #[.pointer (some ⟨d,0,none⟩),.slice X m c] w fun e w' => ∃ r : Int,e = .returned (.int .i64 r) ∧ Q r w' := by
 have hpl := pload_still d f mb _ st lp w hd hm hs
 have hun := unwrap_any X m c l w hr
 unfold Unw at hun
 rw [hu] at hun
 clear hu hd hm hr
 go_enter Tryz.func12,Tryz.ntmps12
 go_wp2_with fail
 refine hpl.mono ?_
 rintro e w0 ⟨rfl,rfl⟩
 go_wp2_with fail
 refine hun.mono ?_
 rintro e w1 ⟨A,n,cc,rfl,hrx,hb1⟩
 have hh := hin w1 A n cc hb1 hrx
 clear hin hun hpl
 go_wp2_with fail
 refine hh.mono ?_
 rintro e w2 ⟨r,rfl,hn11,hq⟩
 go_wp2_with fail
 refine (met_any d r w2 hn11).mono ?_
 rintro e w3 ⟨rfl,rfl⟩
 go_wp2_with fail
 go_ret
 exact ⟨r,rfl,hq⟩
theorem packet_man (d f mb : Nat) (Kk : Value) (st : Array Value) (lp : Option Addr) (X : Option Addr) (m c : Nat) (l x : List UInt8) (w : World) (hd : Blk w d (devC Kk f (some ⟨mb,0,none⟩)) 77) (hm : MemAt w mb st lp) (hs : st.size = 17) (hr : Rd w X m c l) (hu : unw l = (1,x,0)) (Q : Int → World → Prop)
   (hin : ∀ w1 A n cc,Below w.heap.size w w1 → Rd w1 A n cc x → Calls Tryz.prog 36 #[.pointer (some ⟨d,0,none⟩),.slice A n cc] w1 fun e w' => ∃ r : Int,e = .returned (.int .i64 r) ∧ (r == 11) = false ∧ Q r w') :
   Calls Tryz.prog 12 #[.pointer (some ⟨d,0,none⟩),.slice X m c] w fun e w' => ∃ r : Int,e = .returned (.int .i64 r) ∧ Q r w' := by
 have hpl := pload_still d f mb _ st lp w hd hm hs
 have hun := unwrap_any X m c l w hr
 unfold Unw at hun
 rw [hu] at hun
 clear hu hd hm hr
 go_enter Tryz.func12,Tryz.ntmps12
 go_wp2_with fail
 refine hpl.mono ?_
 rintro e w0 ⟨rfl,rfl⟩
 go_wp2_with fail
 refine hun.mono ?_
 rintro e w1 ⟨A,n,cc,rfl,hrx,hb1⟩
 have hh := hin w1 A n cc hb1 hrx
 clear hin hun hpl
 go_wp2_with fail
 refine hh.mono ?_
 rintro e w2 ⟨r,rfl,hn11,hq⟩
 go_wp2_with fail
 refine (met_any d r w2 hn11).mono ?_
 rintro e w3 ⟨rfl,rfl⟩
 go_wp2_with fail
 go_ret
 exact ⟨r,rfl,hq⟩
theorem prog_all (l : List UInt8) (hl : l.length = 3584) : progN (reps 255) 0 l 3584 = l := by
 apply List.ext_getElem?
 intro j
 by_cases hj : j < 3584
 · have hx : (reps 255)[j]? = some 255 := by unfold reps; rw [List.getElem?_replicate,if_pos hj]
   rw [progN_get _ _ _ j 255 hx,if_pos (by omega),Nat.sub_zero,and_255,List.getD_eq_getElem?_getD,List.getElem?_eq_getElem (by omega)]
   rfl
 · rw [List.getElem?_eq_none (by rw [progN_len,reps_len]; omega),List.getElem?_eq_none (by omega)]
theorem running_any (d f bb : Nat) (Kk : Value) (m : Option Addr) (l : List UInt8) (er : Nat → Int) (wear : Int) (q : SSt) (hq : q.Ok) (i : Nat) (x : BitVec 32) (nn : Nat) (w : World) (hd : Blk w d (devC Kk f m) 77) (hF : FlashAt w f bb l er wear) (hf : foundC l = some (i,x,bytesS q)) (hact : (q.act = 0 ∧ q.n0 = nn) ∨ (q.act = 1 ∧ q.n1 = nn)) (hnn : nn ≤ 512) :
   Calls Tryz.prog 15 #[.pointer (some ⟨d,0,none⟩)] w fun e w' => ∃ A c,e = .returned (.slice A nn c) ∧ Own w' w.heap.size 5 A nn c ((l.drop ((2 + q.act * 2) * 256)).take nn) ∧ Below w.heap.size w w' := by
 have hnn' : (nn : Int) ≤ 512 := by omega
 go_enter Tryz.func15,Tryz.ntmps15
 go_wp2_with fail
 refine (flashnew_any 1 w (by decide) (by decide)).mono ?_
 rintro e w1 ⟨f2,b2,rfl,hf1,hf2,hb2,hB1⟩
 have hd1 := hd.below hB1
 have hF1 := hF.below hB1
 have c1 := hd1.cell (i := 1) (v := .pointer (some ⟨f,0,none⟩)) rfl
 have hl := hF.2.2
 clear hd hF
 go_wp2_with fail
 refine (fbytes_any f bb l er wear w1 hF1).mono ?_
 rintro e w2 ⟨A,c,rfl,ho2,hB2⟩
 have hf2' := hf1.below hB2
 have hB12 := below_next hB1 hB2
 have hs1 := hB1.size
 have hs2 := hB2.size
 have hft : f2 < w1.heap.size ∧ b2 < w1.heap.size := by
   obtain ⟨_,_,hq1⟩ := hf1.blk
   exact ⟨hq1.lt,hf1.2.1.lt⟩
 clear c1 hd1 hF1 hf1
 have hpr : Calls Tryz.prog 41 #[.pointer (some ⟨f2,0,none⟩),.int .i64 0,.slice A 3584 c] w2 fun e w' => e = .returned (.int .i64 0) ∧ FlashAt w' f2 b2 l (fun _ => 0) 1 ∧ Fr (fun g => g = f2 ∨ g = b2) w2 w' := by
   have := program_any f2 b2 0 3584 c A l (reps 255) (fun _ => 0) 1 w2 hf2' ho2.rd (by decide) (fun ad had => by
     obtain ⟨g,hg,hg1,_⟩ := ho2.form (by decide)
     rw [hg] at had
     have e : (⟨g,0,none⟩ : Addr) = ad := by simpa using had
     rw [← e]
     show g ≠ f2 ∧ g ≠ b2
     omega)
   rw [prog_all l hl] at this
   exact this
 go_wp2_with fail
 refine hpr.mono ?_
 rintro e w3 ⟨rfl,hf3,hF3⟩
 have hB13 : Below w.heap.size w w3 := ((Fr.of (S := fun g => w.heap.size ≤ g) hB12).step hF3 (fun g _ k => by rcases k with k | k <;> subst k <;> omega)).below (Nat.le_refl _) (fun _ k => k)
 clear hpr hf2' ho2
 go_wp2_with fail
 refine (cellread_any f2 b2 i x (bytesS q) l (fun _ => 0) 1 w3 hf3 hf).mono ?_
 rintro e w4 ⟨A4,n4,c4,rfl,hr4,hB4⟩
 have hf4 := hf3.below hB4
 have hB14 := below_next hB13 hB4
 go_wp2_with fail
 refine (parse_st q hq A4 n4 c4 w4 hr4).mono ?_
 rintro e w5 ⟨st,rfl,hst,hB5⟩
 have hf5 := hf4.below hB5
 have hB15 := below_next hB14 hB5
 have hz1 : Blk (w5.alloc (.cells stZ 46)) w5.heap.size stZ 46 := Blk.new _ _ _
 have hszs := hst.size
 have hone := hst.one
 have hs17 : stZ.size = st.size := by rw [hst.size17]; rfl
 have hs5 := hB15.size
 have hB6' : Below w5.heap.size w5 ((w5.alloc (.cells stZ 46)).setRow w5.heap.size st) := below_setRow (below_alloc1 _ _) (Nat.le_refl _) _
 have hz2 := hz1.setRow st
 go_upto_region 11 with (first
   | ((with_reducible refine at_store ?_); refine wpList_store_row rfl 46 (.tmp 6) (.tmp 29) rfl w5.heap.size st rfl rfl 46 stZ hz1 hszs hs17 hone ?_))
 change Code.wp _ _ _ _ ((w5.alloc (.cells stZ 46)).setRow w5.heap.size st)
 generalize (w5.alloc (.cells stZ 46)).setRow w5.heap.size st = w6 at *
 have hf6 := hf5.below hB6'
 have hB16 := below_next hB15 hB6'
 obtain ⟨x0,x1,x2,hste,_⟩ := id hst
 subst hste
 clear hz1 hf3 hf4 hf5 hr4 hst
 rcases hact with ⟨ha,hnq⟩ | ⟨ha,hnq⟩
 · have hcA : ∀ y,Below w6.heap.size w6 y → y.cell? ⟨w5.heap.size,0,none⟩ = some (.int .i64 0) ∧ y.cell? ⟨w5.heap.size,5,none⟩ = some (.int .i64 nn) := fun y hy => ⟨by have := (hz2.below hy).cell (i := 0) (v := .int .i64 q.act) rfl; rw [ha] at this; exact this,by have := (hz2.below hy).cell (i := 5) (v := .int .i64 q.n0) rfl; rw [hnq] at this; exact this⟩
   have hc0 := hcA w6.drew (Below.refl _ _).drew
   have hB0 : Below w6.heap.size w6 w6.drew := (Below.refl _ _).drew
   have hc1 : True := trivial
   have hsr : Calls Tryz.prog 45 #[.pointer (some ⟨f2,0,none⟩),.int .i64 0,.int .i64 nn] w6.drew fun e w' => ∃ A c,e = .returned (.tuple #[.slice A nn c,.int .i64 0]) ∧ Own w' w6.heap.size 5 A nn c ((l.drop ((2 + 0 * 2) * 256)).take nn) ∧ Below w6.heap.size w6.drew w' := slotread_any f2 b2 0 nn l (fun _ => 0) 1 w6.drew (hf6.below hB0) (by decide) hnn
   have Ha := hide ha
   clear hnq ha
   go_region_held3 (fun y => y.cell? ⟨w5.heap.size,0,none⟩ = some (.int .i64 0) ∧ y.cell? ⟨w5.heap.size,5,none⟩ = some (.int .i64 nn))
     (first | (with_reducible exact hc0) | (with_reducible exact hc1))
     ((go_at_call 45; (with_reducible refine hsr.mono ?_); rintro e w7 ⟨A7,c7,rfl,ho7,hb7⟩; have hB7 : Below w6.heap.size w6 w7 := below_next hB0 hb7; have hc1 := hcA w7 hB7))
   all_goals
     have hs6 := hB16.size
     go_wp2_with fail
     go_ret
     exact ⟨A7,c7,rfl,by rw [Ha.out]; exact ho7.mono hs6,below_next hB16 hB7⟩
 · have hcA : ∀ y,Below w6.heap.size w6 y → y.cell? ⟨w5.heap.size,0,none⟩ = some (.int .i64 1) ∧ y.cell? ⟨w5.heap.size,8,none⟩ = some (.int .i64 nn) := fun y hy => ⟨by have := (hz2.below hy).cell (i := 0) (v := .int .i64 q.act) rfl; rw [ha] at this; exact this,by have := (hz2.below hy).cell (i := 8) (v := .int .i64 q.n1) rfl; rw [hnq] at this; exact this⟩
   have hc0 := hcA w6.drew (Below.refl _ _).drew
   have hB0 : Below w6.heap.size w6 w6.drew := (Below.refl _ _).drew
   have hc1 : True := trivial
   have hsr : Calls Tryz.prog 45 #[.pointer (some ⟨f2,0,none⟩),.int .i64 1,.int .i64 nn] w6.drew fun e w' => ∃ A c,e = .returned (.tuple #[.slice A nn c,.int .i64 0]) ∧ Own w' w6.heap.size 5 A nn c ((l.drop ((2 + 1 * 2) * 256)).take nn) ∧ Below w6.heap.size w6.drew w' := slotread_any f2 b2 1 nn l (fun _ => 0) 1 w6.drew (hf6.below hB0) (by decide) hnn
   have Ha := hide ha
   clear hnq ha
   go_region_held3 (fun y => y.cell? ⟨w5.heap.size,0,none⟩ = some (.int .i64 1) ∧ y.cell? ⟨w5.heap.size,8,none⟩ = some (.int .i64 nn))
     (first | (with_reducible exact hc0) | (with_reducible exact hc1))
     ((go_at_call 45; (with_reducible refine hsr.mono ?_); rintro e w7 ⟨A7,c7,rfl,ho7,hb7⟩; have hB7 : Below w6.heap.size w6 w7 := below_next hB0 hb7; have hc1 := hcA w7 hB7))
   all_goals
     have hs6 := hB16.size
     go_wp2_with fail
     go_ret
     exact ⟨A7,c7,rfl,by rw [Ha.out]; exact ho7.mono hs6,below_next hB16 hB7⟩
end Go.Proofs.YtkkcpblfheplaaaGreatDoor
