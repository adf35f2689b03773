/- Contracts of functions that the laws of downpourtop reach, and plain facts; no condition beyond what each theorem states. -/
import Derived.Test.YtkkcpblfheplaaaGreatDoorME01
import Derived.Shelf.Sort.Plain
import Derived.Sort.OwnSorted
set_option maxRecDepth 100000
set_option maxHeartbeats 8000000
set_option linter.all false
namespace Go.Proofs
open Go.Shelf
def Tryz.lays189_ren : Go.Shelf.Ren := ⟨fun | 189 => 198 | 125 => 227 | 257 => 226 | 128 => 249 | 129 => 250 | 294 => 240 | 295 => 241 | 296 => 242 | 297 => 243 | 298 => 244 | 299 => 245 | 216 => 246 | 300 => 247 | 301 => 248 | 328 => 262 | 329 => 263 | 330 => 264 | 331 => 265 | 332 => 266 | 215 => 267 | 343 => 276 | n => n,fun | 28 => 157 | 3 => 3 | 46 => 105 | 0 => 0 | 51 => 30 | 53 => 36 | 4 => 4 | 183 => 304 | 182 => 303 | 131 => 308 | 5 => 5 | 9 => 9 | 218 => 318 | 222 => 322 | 228 => 326 | 229 => 327 | n => n,fun | n => n⟩
theorem Tryz.lays189 : Go.Proofs.Lays.n189 Tryz.prog Tryz.lays189_ren := {
 mixed := by kernel_rfl
 f125 := Tryz.func227.trans (congrArg some (by kernel_rfl))
 f128 := Tryz.func249.trans (congrArg some (by kernel_rfl))
 f129 := Tryz.func250.trans (congrArg some (by kernel_rfl))
 f189 := Tryz.func198.trans (congrArg some (by kernel_rfl))
 f215 := Tryz.func267.trans (congrArg some (by kernel_rfl))
 f216 := Tryz.func246.trans (congrArg some (by kernel_rfl))
 f257 := Tryz.func226.trans (congrArg some (by kernel_rfl))
 f294 := Tryz.func240.trans (congrArg some (by kernel_rfl))
 f295 := Tryz.func241.trans (congrArg some (by kernel_rfl))
 f296 := Tryz.func242.trans (congrArg some (by kernel_rfl))
 f297 := Tryz.func243.trans (congrArg some (by kernel_rfl))
 f298 := Tryz.func244.trans (congrArg some (by kernel_rfl))
 f299 := Tryz.func245.trans (congrArg some (by kernel_rfl))
 f300 := Tryz.func247.trans (congrArg some (by kernel_rfl))
 f301 := Tryz.func248.trans (congrArg some (by kernel_rfl))
 f328 := Tryz.func262.trans (congrArg some (by kernel_rfl))
 f329 := Tryz.func263.trans (congrArg some (by kernel_rfl))
 f330 := Tryz.func264.trans (congrArg some (by kernel_rfl))
 f331 := Tryz.func265.trans (congrArg some (by kernel_rfl))
 f332 := Tryz.func266.trans (congrArg some (by kernel_rfl))
 f343 := Tryz.func276.trans (congrArg some (by kernel_rfl))
 t0 := Tryz.underlying0
 a0 := Tryz.isAgg0
 z0 := Tryz.sizeOf0
 v0 := Tryz.zeroValue0
 t3 := Tryz.underlying3
 a3 := Tryz.isAgg3
 z3 := Tryz.sizeOf3
 v3 := Tryz.zeroValue3
 t4 := Tryz.underlying4
 a4 := Tryz.isAgg4
 z4 := Tryz.sizeOf4
 v4 := Tryz.zeroValue4
 t5 := Tryz.underlying5
 a5 := Tryz.isAgg5
 z5 := Tryz.sizeOf5
 v5 := Tryz.zeroValue5
 t9 := Tryz.underlying9
 a9 := Tryz.isAgg9
 z9 := Tryz.sizeOf9
 v9 := Tryz.zeroValue9
 t28 := Tryz.underlying157
 a28 := Tryz.isAgg157
 z28 := Tryz.sizeOf157
 v28 := Tryz.zeroValue157
 t46 := Tryz.underlying105
 a46 := Tryz.isAgg105
 z46 := Tryz.sizeOf105
 v46 := Tryz.zeroValue105
 t51 := Tryz.underlying30
 a51 := Tryz.isAgg30
 z51 := Tryz.sizeOf30
 v51 := Tryz.zeroValue30
 t53 := Tryz.underlying36
 a53 := Tryz.isAgg36
 z53 := Tryz.sizeOf36
 v53 := Tryz.zeroValue36
 t131 := Tryz.underlying308
 a131 := Tryz.isAgg308
 z131 := Tryz.sizeOf308
 v131 := Tryz.zeroValue308
 t182 := Tryz.underlying303
 a182 := Tryz.isAgg303
 z182 := Tryz.sizeOf303
 v182 := Tryz.zeroValue303
 t183 := Tryz.underlying304
 a183 := Tryz.isAgg304
 z183 := Tryz.sizeOf304
 v183 := Tryz.zeroValue304
 t218 := Tryz.underlying318
 a218 := Tryz.isAgg318
 z218 := Tryz.sizeOf318
 v218 := Tryz.zeroValue318
 t222 := Tryz.underlying322
 a222 := Tryz.isAgg322
 z222 := Tryz.sizeOf322
 v222 := Tryz.zeroValue322
 t228 := Tryz.underlying326
 a228 := Tryz.isAgg326
 z228 := Tryz.sizeOf326
 v228 := Tryz.zeroValue326
 t229 := Tryz.underlying327
 a229 := Tryz.isAgg327
 z229 := Tryz.sizeOf327
 v229 := Tryz.zeroValue327 }
end Go.Proofs
namespace Go.Proofs.YtkkcpblfheplaaaGreatDoor
open Go.RowKit Go.Sort
def zI (L : List Nat) : List Int := L.map fun x : Nat => (x : Int)
theorem ints_z (L : List Nat) : (ints L).toList = (zI L).map (Value.int .i64) := by simp [ints,zI]
theorem putI_take (cur : Array Value) (ts : List Int) (h : ts.length ≤ cur.size) : (putCells (Value.int .i64) 0 ts.toArray cur).toList.take ts.length = ts.map (Value.int .i64) := by
 apply List.ext_getElem?
 intro j
 by_cases hj : j < ts.length
 · rw [List.getElem?_take_of_lt hj,Array.getElem?_toList]
   simp [putCells,hj,show j < cur.size by omega]
 · rw [List.getElem?_take_eq_none (by omega),List.getElem?_eq_none (by simp; omega)]
theorem sort_any (base g n c : Nat) (L : List Nat) (w : World) (h : w.ownsRow base 3 1 (.slice (some ⟨g,0,none⟩) n c) n (ints L).toList) (hn : n ≤ 1000000) :
   Calls Tryz.prog 198 #[.slice (some ⟨g,0,none⟩) n c] w fun e w' => e = .returned (.tuple #[]) ∧ ∃ L' : List Nat,L'.Perm L ∧ w'.ownsRow base 3 1 (.slice (some ⟨g,0,none⟩) n c) n (ints L').toList ∧ Fr (· = g) w w' := by
 obtain ⟨cur,hb,hbase,hnc,hcm,hsz,ht⟩ := row_blk h
 have hl : L.length = n := by
   have := row_len h
   simpa [ints] using this
 have hz : (zI L).length = n := by simp [zI,hl]
 have hH : Holds (Value.int .i64) w g 0 (zI L).toArray := by
   intro j hj
   have hj' : j < L.length := by simpa [zI] using hj
   refine ⟨?_,by unfold Blk at hb; simp [World.frozen?,hb]⟩
   have h1 : (ints L).toList[j]? = some (.int .i64 ((L[j] : Nat) : Int)) := by simp [ints,hj']
   rw [Nat.zero_add,row_cell h h1]
   simp [zI,hj']
 have hc := Any.slices_Sort_int Tryz.lays189 g 0 c (zI L) w hH hb.lt (by omega)
 rw [hz] at hc
 refine Calls.mono (show Calls Tryz.prog 198 #[.slice (some ⟨g,0,none⟩) n c] w _ from hc) ?_
 rintro e w' ⟨rfl,k,os,rfl⟩
 obtain ⟨ts,hts⟩ : ∃ ts,(zI L).mergeSort (fun x y => decide (x ≤ y)) = ts := ⟨_,rfl⟩
 have hp : ts.Perm (zI L) := by rw [← hts]; exact List.mergeSort_perm _ _
 rw [hts]
 have htl : ts.length = n := by rw [hp.length_eq,hz]
 have hnn : ∀ t ∈ ts,0 ≤ t := by
   intro t ht
   have := hp.mem_iff.1 ht
   simp [zI] at this
   obtain ⟨x,_,rfl⟩ := this
   omega
 have hback : zI (ts.map Int.toNat) = ts := by
   unfold zI
   rw [List.map_map]
   conv => rhs; rw [← List.map_id ts]
   apply List.map_congr_left
   intro t ht
   have := hnn t ht
   simp
   omega
 have hpn : (ts.map Int.toNat).Perm L := by
   have h1 := hp.map Int.toNat
   have h2 : (zI L).map Int.toNat = L := by
     unfold zI
     rw [List.map_map]
     conv => rhs; rw [← List.map_id L]
     apply List.map_congr_left
     intro x _
     simp
   rwa [h2] at h1
 have hg : g < w.heap.size := hb.lt
 refine ⟨rfl,ts.map Int.toNat,hpn,?_,?_⟩
 · rw [ints_z,hback]
   refine ⟨by simp [htl],.inr ⟨g,c,putCells (Value.int .i64) 0 ts.toArray cur,rfl,hbase,?_,hnc,hcm,by simp [putCells,hsz],by rw [Nat.mul_one,← htl]; exact putI_take cur ts (by omega)⟩⟩
   unfold Blk at hb
   rw [heap_grow_old _ _ (by simpa using hg)]
   simp [putRow,mapBlock,Sort.ahead,Array.getElem?_modify,hb,onCells]
 · refine ⟨rfl,rfl,rfl,by simp,fun j hj hne => ?_⟩
   rw [heap_grow_old _ _ (by simpa using hj)]
   simp [putRow,mapBlock,Sort.ahead,Array.getElem?_modify,Ne.symm hne]
end Go.Proofs.YtkkcpblfheplaaaGreatDoor
namespace Go.Proofs.YtkkcpblfheplaaaGreatDoor
open Go.RowKit
theorem clone64_any (g cp : Nat) (cs : Array Value) (v : Value) (w : World) (hb : Blk w g cs 36) (hv : cs[0]? = some v) (h1 : v.oneCell' = true) :
   Calls Tryz.prog 253 #[.slice (some ⟨g,0,none⟩) 1 cp] w fun e w' => ∃ g' cp' cs',e = .returned (.slice (some ⟨g',0,none⟩) 1 cp') ∧ Blk w' g' cs' 36 ∧ cs'[0]? = some v ∧ 1 ≤ cp' ∧ cp' ≤ maxLen ∧ w.heap.size ≤ g' ∧ Below w.heap.size w w' := by
 have he := fun (w : World) => Lib.run_eql_slice_nil (P := Tryz.prog) (w := w)
 have hbl := hb.lt
 have hsrc : ∀ (j : Nat) u,([v] : List Value)[j]? = some u → (w.alloc (.cells #[] 36)).cell? ((⟨g,0,none⟩ : Addr).add j) = some u := by
   intro j u hj
   match j,hj with
   | 0,hj => simp at hj; subst hj; rw [addAt]; exact (hb.alloc _).cell hv
 go_enter Tryz.func253,Tryz.ntmps253
 go_wp2_with (at_builtin
              refine wpList_appendV _ rfl _ _ _ rfl w.heap.size 36 (.int .u64 0) 8 Tryz.underlying258 isZ36 rfl (by omega) (some ⟨w.heap.size,0,none⟩) 0 0 [] rfl (row_empty w _ 36 (Nat.le_refl _)) ⟨g,0,none⟩ 1 cp [v] rfl rfl (by omega) hsrc (by simpa using h1) (by omega) (by simp) ?_
              intro A1 c1 w1 ho1 hb1 _ _
              simp only [Nat.zero_add,List.nil_append] at ho1 ⊢)
 go_ret
 obtain ⟨g1,rfl,hg1,_⟩ := row_form ho1 (by omega)
 obtain ⟨cs1,hbk,_,hc1,hc2,hc3,hc4⟩ := row_blk ho1
 first | refine ⟨g1,c1,cs1,rfl,hbk,?_,hc1,hc2,hg1,(below_alloc1 w _).trans hb1⟩ | refine ⟨g1,c1,rfl,cs1,hbk,?_,hc1,hc2,hg1,(below_alloc1 w _).trans hb1⟩ | refine ⟨g1,c1,rfl,⟨cs1,hbk,?_⟩,hc1,hc2,hg1,(below_alloc1 w _).trans hb1⟩
 have : (cs1.toList.take 1)[0]? = some v := by rw [hc4]; rfl
 rw [List.getElem?_take_of_lt (by omega)] at this
 simpa using this
theorem vcopy_any (p wb n : Nat) (x : B64) (w : World) (h : VecAt w p wb n x) :
   Calls Tryz.prog 232 #[.pointer (some ⟨p,0,none⟩)] w fun e w' => ∃ p' wb',e = .returned (.pointer (some ⟨p',0,none⟩)) ∧ VecAt w' p' wb' n x ∧ w.heap.size ≤ p' ∧ w.heap.size ≤ wb' ∧ Below w.heap.size w w' := by
 obtain ⟨cp,cs,h1,h2,h3,h4,h5⟩ := h
 have hcells : ∀ y,Below w.heap.size w y → y.cell? ⟨p,0,none⟩ = some (.int .i64 (n : Int)) ∧ y.cell? ⟨p,1,none⟩ = some (.slice (some ⟨wb,0,none⟩) 1 cp) := fun y hy => ⟨(h1.below hy).cell rfl,(h1.below hy).cell rfl⟩
 have hS0 := hcells w.drew (Below.refl _ _).drew
 go_enter Tryz.func232,Tryz.ntmps232
 go_wp2_with fail
 go_region_held3 (fun y => y.cell? ⟨p,0,none⟩ = some (.int .i64 (n : Int)) ∧ y.cell? ⟨p,1,none⟩ = some (.slice (some ⟨wb,0,none⟩) 1 cp))
   (first | (with_reducible exact hS0) | (with_reducible exact hS1) | (with_reducible exact hS2 _))
   ((go_at_call 253; (with_reducible refine (clone64_any wb cp cs (.int .u64 (UV x)) _ h2.drew h3 rfl).mono ?_); rintro e w1 ⟨g',cp',cs',rfl,hbk,hv,hc1,hc2,hg',hb1⟩
     have hb1' : Below w.heap.size w w1 := (Below.refl w.heap.size w).drew.trans hb1
     have hS1 := hcells w1 hb1'
     have hS2 := fun o => hcells (w1.alloc o) (hb1'.alloc hb1'.size o)))
 all_goals
   go_wp2_with fail
   go_ret
   have hs1 := hb1'.size
   exact ⟨w1.heap.size,g',rfl,⟨cp',cs',Blk.new _ _ _,hbk.alloc _,hv,hc1,hc2⟩,hs1,hg',hb1'.alloc hs1 _⟩
theorem vxor_any (p wb q wc n : Nat) (x y : B64) (w : World) (h : VecAt w p wb n x) (k : VecAt w q wc n y) (hne : wb ≠ wc) :
   Calls Tryz.prog 234 #[.pointer (some ⟨p,0,none⟩),.pointer (some ⟨q,0,none⟩)] w fun e w' => e = .returned (.bool true) ∧ VecAt w' p wb n (x ^^^ y) ∧ Fr (· = wb) w w' := by
 obtain ⟨cp,cs,h1,h2,h3,h4,h5⟩ := h
 obtain ⟨dp,ds,k1,k2,k3,k4,k5⟩ := k
 have c0 := h1.cell (i := 0) (v := .int .i64 (n : Int)) rfl
 have c1 := h1.cell (i := 1) (v := .slice (some ⟨wb,0,none⟩) 1 cp) rfl
 have cw := h2.cell h3
 have fw := h2.free 0
 have e0 := k1.cell (i := 0) (v := .int .i64 (n : Int)) rfl
 have e1 := k1.cell (i := 1) (v := .slice (some ⟨wc,0,none⟩) 1 dp) rfl
 have ew := k2.cell k3
 have hnn : ((n : Int) != (n : Int)) = false := by simp
 have hpw : p ≠ wb := h1.ne h2 (by decide)
 have hcs0 : 0 < cs.size := (Array.getElem?_eq_some_iff.1 h3).1
 have hx := UV_xor x y
 have hv0 : VecAt w p wb n x := ⟨cp,cs,h1,h2,h3,h4,h5⟩
 have hk0 : VecAt w q wc n y := ⟨dp,ds,k1,k2,k3,k4,k5⟩
 have hlt := hv0.lt
 have hltk := hk0.lt
 have hqw : q ≠ wb := k1.ne h2 (by decide)
 go_enter Tryz.func234,Tryz.ntmps234
 go_wp2_with fail
 go_quiet (fail)
 go_wp2_with fail
 clear c0 c1 cw fw e0 e1 ew hnn h1 h2 h3 k1 k2 k3
 go_loopw [28] (fun u wr => ∃ k : Nat,k ≤ 1 ∧ u = .int .i64 (k : Int) ∧ Hid ((k = 0 → VecAt wr p wb n x) ∧ (k = 1 → VecAt wr p wb n (x ^^^ y))) ∧ VecAt wr q wc n y ∧ Fr (· = wb) w wr) (fun u _ => 1 - (intOf u).toNat)
 case atStart => exact ⟨0,by omega,rfl,hide ⟨fun _ => hv0,fun h => by omega⟩,hk0,(Fr.refl _ _).drewN nq⟩
 case round =>
   clear hv0 hk0
   obtain ⟨k,hk,rfl,hv,hk0,hF⟩ := hrel
   match k,hk with
   | 0,_ =>
     have hv0 := hv.out.1 rfl
     obtain ⟨cp,cs,h1,h2,h3,h4,h5⟩ := id hv0
     obtain ⟨dp,ds,k1,k2,k3,k4,k5⟩ := id hk0
     have c1 := h1.cell (i := 1) (v := .slice (some ⟨wb,0,none⟩) 1 cp) rfl
     have cw := h2.cell h3
     have fw := h2.free 0
     have e1 := k1.cell (i := 1) (v := .slice (some ⟨wc,0,none⟩) 1 dp) rfl
     have ew := k2.cell k3
     have hcs0 : 0 < cs.size := (Array.getElem?_eq_some_iff.1 h3).1
     have g1 : ∀ t d o u,(({ heap := wr.heap,tape := t,drawn := d,os := o,output := u } : World).cell? ⟨p,1,none⟩ = some (.slice (some ⟨wb,0,none⟩) 1 cp)) := fun _ _ _ _ => c1
     have g2 : ∀ t d o u,(({ heap := wr.heap,tape := t,drawn := d,os := o,output := u } : World).cell? ⟨wb,0,none⟩ = some (.int .u64 (UV x))) := fun _ _ _ _ => cw
     have g3 : ∀ t d o u,(({ heap := wr.heap,tape := t,drawn := d,os := o,output := u } : World).cell? ⟨q,1,none⟩ = some (.slice (some ⟨wc,0,none⟩) 1 dp)) := fun _ _ _ _ => e1
     have g4 : ∀ t d o u,(({ heap := wr.heap,tape := t,drawn := d,os := o,output := u } : World).cell? ⟨wc,0,none⟩ = some (.int .u64 (UV y))) := fun _ _ _ _ => ew
     have hset : VecAt (wr.drew.setCell ⟨wb,0,none⟩ (.int .u64 (UV (x ^^^ y)))) p wb n (x ^^^ y) := ⟨cp,_,h1.drew.other (a := ⟨wb,0,none⟩) hpw _,h2.drew.set 0 _,by simp [hcs0],h4,h5⟩
     have hk2 : VecAt (wr.drew.setCell ⟨wb,0,none⟩ (.int .u64 (UV (x ^^^ y)))) q wc n y := ⟨dp,ds,k1.drew.other (a := ⟨wb,0,none⟩) hqw _,k2.drew.other (a := ⟨wb,0,none⟩) (Ne.symm hne) _,k3,k4,k5⟩
     have hF2 : Fr (· = wb) w (wr.drew.setCell ⟨wb,0,none⟩ (.int .u64 (UV (x ^^^ y)))) := Fr.set (S := (· = wb)) hF.drew (p := ⟨wb,0,none⟩) (fun _ => rfl) _
     clear hv hv0 hk0 h1 h2 h3 k1 k2 k3
     go_wp2_with fail
     go_still_tail 16,(by kernel_rfl)
     all_goals
       try refine wpStill_nil ?_
       change wpList _ _ _ _ _ wr.drew
       clear g1 g2 g3 g4
       go_wp2_with fail
       go_roundw
       case rel => exact ⟨1,by omega,rfl,hide ⟨fun h => by omega,fun _ => hset⟩,hk2,hF2⟩
       case measure => simp [intOf]
   | 1,_ =>
     have hv0 := hv.out.2 rfl
     clear hv
     go_wp2_with fail
     go_ret
     exact ⟨rfl,hv0,hF⟩
def bitsL (x : B64) (k : Nat) : List Nat := (List.range k).filter fun i => x.getLsbD i
theorem bitsL_succ (x : B64) (k : Nat) : bitsL x (k + 1) = bitsL x k ++ (if x.getLsbD k then [k] else []) := by
 unfold bitsL
 rw [List.range_succ,List.filter_append]
 cases h : x.getLsbD k <;> simp [h]
theorem bitsL_len (x : B64) (k : Nat) : (bitsL x k).length ≤ k := by
 unfold bitsL
 have := List.length_filter_le (fun i => x.getLsbD i) (List.range k)
 simpa using this
theorem vlist_any (p wb n : Nat) (x : B64) (w : World) (h : VecAt w p wb n x) (hn : n ≤ 64) :
   Calls Tryz.prog 92 #[.pointer (some ⟨p,0,none⟩)] w fun e w' => ∃ A m c,e = .returned (.slice A m c) ∧ w'.ownsRow w.heap.size 3 1 (.slice A m c) m (ints (bitsL x n)).toList ∧ Below w.heap.size w w' := by
 have hn' : (n : Int) ≤ 64 := by omega
 go_enter Tryz.func92,Tryz.ntmps92
 go_wp2_with fail
 refine (vlen_any p wb n x w h).mono ?_
 rintro e w' ⟨rfl,rfl⟩
 go_wp2_with fail
 go_loopw [3,7] (fun v u wr => ∃ (k m : Nat) (A : Option Addr) (c : Nat),k ≤ n ∧ u = .int .i64 (k : Int) ∧ v = .slice A m c ∧ wr.ownsRow w.heap.size 3 1 (.slice A m c) m (ints (bitsL x k)).toList ∧ Below w.heap.size w wr) (fun _ u _ => n - (intOf u).toNat)
 case atStart => exact ⟨0,0,none,0,Nat.zero_le _,rfl,rfl,World.ownsRow_nil w w.heap.size 3 1,Below.refl _ _⟩
 case round =>
   obtain ⟨k,m,A,c,hk,rfl,rfl,ho,hB⟩ := hrel
   by_cases hlt : k < n
   · have hlt' : (k : Int) < (n : Int) := by omega
     have hm : m ≤ 64 := by
       have h1 := row_len ho
       have h2 := bitsL_len x k
       simp [ints] at h1
       omega
     have hS := hide (bitsL_succ x k)
     have hsz := hB.size
     rcases Bool.eq_false_or_eq_true (x.getLsbD k) with hb | hb
     · have hh := vhas_any p wb n k x wr (h.below hB) hlt hn
       rw [hb] at hh
       have Hb := hide hb
       clear hb
       go_wp2_with fail
       refine hh.mono ?_
       rintro e w' ⟨rfl,rfl⟩
       have hsrc : ∀ (j : Nat) u,([.int .i64 (k : Int)] : List Value)[j]? = some u → (wr.alloc (.cells #[.int .i64 (k : Int)] 3)).cell? ((⟨wr.heap.size,0,none⟩ : Addr).add j) = some u := by
         intro j u hj
         match j,hj with
         | 0,hj => simp at hj; subst hj; rw [addAt]; exact cell1 wr _ 3 0 _ rfl
       clear hh
       go_wp2_with (at_builtin
                    refine wpList_appendV _ rfl _ _ _ rfl w.heap.size 3 (.int .i64 0) 8 Tryz.underlying157 isZ3 rfl (by omega) A m c _ rfl (row_below ho (below_alloc1 wr _)) ⟨wr.heap.size,0,none⟩ 1 1 [.int .i64 (k : Int)] rfl rfl (by omega) hsrc (by simp [Value.oneCell']) (by omega) (by simp; omega) ?_
                    intro A6 c6 w6 ho6 hb6 _ _)
       go_roundw
       case rel => exact ⟨k + 1,m + 1,A6,c6,by omega,by go_num,rfl,by rw [hS.out,Hb.out]; simpa [ints] using ho6,(hB.alloc hsz _).trans hb6⟩
       case measure => simp [intOf]; omega
     · have hh := vhas_any p wb n k x wr (h.below hB) hlt hn
       rw [hb] at hh
       have Hb := hide hb
       clear hb
       go_wp2_with fail
       refine hh.mono ?_
       rintro e w' ⟨rfl,rfl⟩
       clear hh
       go_wp2_with fail
       go_roundw
       case rel => exact ⟨k + 1,m,A,c,by omega,by go_num,rfl,by rw [hS.out,Hb.out]; simpa using ho,hB⟩
       case measure => simp [intOf]; omega
   · obtain rfl : n = k := by omega
     go_wp2_with fail
     go_ret
     exact ⟨A,m,c,rfl,ho,hB⟩
theorem cloneI_any (A : Option Addr) (n c : Nat) (L : List Nat) (w : World) (hr : RdI w A n c L) (h0 : 0 < n) (hn : n ≤ 1000) :
   Calls Tryz.prog 197 #[.slice A n c] w fun e w' => ∃ g c',e = .returned (.slice (some ⟨g,0,none⟩) n c') ∧ w'.ownsRow w.heap.size 3 1 (.slice (some ⟨g,0,none⟩) n c') n (ints L).toList ∧ Below w.heap.size w w' := by
 obtain ⟨g,rfl,cs,hg,hcs⟩ := hr.2.2.2 h0
 have he := fun (w : World) => Lib.run_eql_slice_nil (P := Tryz.prog) (w := w)
 have hl := hr.1
 have hll : (ints L).toList.length = n := by simp [ints,hl]
 have hsrc : ∀ (j : Nat) u,(ints L).toList[j]? = some u → (w.alloc (.cells #[] 3)).cell? ((⟨g,0,none⟩ : Addr).add j) = some u := by
   intro j u hj
   rw [addAt]
   refine (hg.alloc _).cell ?_
   have : (ints L)[j]? = some u := by simpa using hj
   rw [ints_get,Option.map_eq_some_iff] at this
   obtain ⟨x,hx,rfl⟩ := this
   exact hcs j x hx
 have hone : ∀ u ∈ (ints L).toList,u.oneCell' = true := by
   intro u hu
   simp [ints] at hu
   obtain ⟨x,_,rfl⟩ := hu
   rfl
 clear hl
 go_enter Tryz.func197,Tryz.ntmps197
 go_wp2_with (at_builtin
              refine wpList_appendV _ rfl _ _ _ rfl w.heap.size 3 (.int .i64 0) 8 Tryz.underlying157 isZ3 rfl (by omega) (some ⟨w.heap.size,0,none⟩) 0 0 [] rfl (row_empty w _ 3 (Nat.le_refl _)) ⟨g,0,none⟩ n c _ rfl hll h0 hsrc hone (by omega) (by simp) ?_
              intro A1 c1 w1 ho1 hb1 _ _
              simp only [Nat.zero_add,List.nil_append] at ho1 ⊢)
 go_ret
 obtain ⟨g1,rfl,hg1,_⟩ := row_form ho1 h0
 exact ⟨g1,c1,rfl,ho1,(below_alloc1 w _).trans hb1⟩
def preL (n k : Nat) : List Nat := (List.range n).map fun i => if i < k then i else 0
theorem preL_len (n k : Nat) : (preL n k).length = n := by simp [preL]
theorem preL_zero (n : Nat) : preL n 0 = List.replicate n 0 := by
 apply List.ext_getElem
 · simp [preL]
 · intro i h1 h2; simp [preL]
theorem preL_succ (n k : Nat) (_hk : k < n) : preL n (k + 1) = (preL n k).set k k := by
 apply List.ext_getElem
 · simp [preL]
 · intro i h1 h2
   rw [List.getElem_set]
   simp only [preL,List.getElem_map,List.getElem_range]
   by_cases e : k = i
   · subst e; simp
   · rw [if_neg e]
     by_cases h : i < k
     · rw [if_pos h,if_pos (by omega)]
     · rw [if_neg h,if_neg (by omega)]
theorem preL_full (n : Nat) : preL n n = List.range n := by
 apply List.ext_getElem
 · simp [preL]
 · intro i h1 h2
   have : i < n := by simpa [preL] using h1
   simp [preL,this]
theorem rsome_any (g n K : Nat) (s : B32) (w : World) (h : Src w g s) (h1 : 1 ≤ K) (h2 : K ≤ n) (hn : n ≤ 64) :
   Calls Tryz.prog 149 #[.pointer (some ⟨g,0,none⟩),.int .i64 n,.int .i64 K] w fun e w' => ∃ A c L,e = .returned (.slice A K c) ∧ List.Perm L (someL n s K) ∧ RdI w' A K c L ∧ (∀ ad,A = some ad → w.heap.size ≤ ad.block) ∧ Src w' g (stS s K) ∧ Fr (· = g) w w' := by
 have d1 : decide ((n : Int) < 1) = false := by simp; omega
 have d2 : decide (256 < (n : Int)) = false := by simp; omega
 have hn' : (n : Int) ≤ 64 := by omega
 have hn1 : (1 : Int) ≤ (n : Int) := by omega
 have hK' : (K : Int) ≤ (n : Int) := by omega
 have hK1 : (1 : Int) ≤ (K : Int) := by omega
 have hgl := h.lt
 have hS0 : Src (w.alloc (.cells (Array.replicate n (.int .i64 0)) 3)) g s := Blk.alloc h _
 have hb0 : Blk (w.alloc (.cells (Array.replicate n (.int .i64 0)) 3)) w.heap.size (ints (preL n 0)) 3 := by
   rw [preL_zero,← ints_zero]; exact Blk.new _ _ _
 have hF0 : Fr (· = g) w (w.alloc (.cells (Array.replicate n (.int .i64 0)) 3)) := Fr.of (below_alloc1 _ _)
 have hmm : max (0 : Int) (min (K : Int) (n : Int)) = (K : Int) := by omega
 · go_enter Tryz.func149,Tryz.ntmps149
   go_wp2_with (at_make; refine wpList_makeZ _ rfl _ _ _ rfl 3 (.int .i64 0) 8 Tryz.underlying157 isZ3 rfl _ _ _ _ n rfl rfl rfl rfl (by omega) (by omega) ?_)
   go_loopw [25] (fun u wr => ∃ k : Nat,k ≤ n ∧ u = .int .i64 (k : Int) ∧ Blk wr w.heap.size (ints (preL n k)) 3 ∧ Src wr g s ∧ Fr (· = g) w wr) (fun u _ => n - (intOf u).toNat)
   case atStart => exact ⟨0,by omega,rfl,hb0,hS0,hF0⟩
   case round =>
     clear hb0 hS0 hF0
     obtain ⟨k,hk,rfl,hb,hS,hF⟩ := hrel
     by_cases hlt : k < n
     · have hlt' : (k : Int) < (n : Int) := by omega
       have hl := preL_len n k
       have c := hb.cell (ints_getD (preL n k) k (by omega))
       have f := hb.free k
       have hset := hb.setCellAt k (.int .i64 (k : Int)) (cs' := ints (preL n (k + 1))) (by rw [ints_set,preL_succ n k hlt])
       have hS2 := hS.other (a := ⟨w.heap.size,k,none⟩) (show g ≠ w.heap.size by omega) (.int .i64 (k : Int))
       have hF2 : Fr (· = g) w (wr.setCell ⟨w.heap.size,k,none⟩ (.int .i64 (k : Int))) := Fr.set (S := (· = g)) hF (p := ⟨w.heap.size,k,none⟩) (fun hq => absurd hq (Nat.lt_irrefl _)) _
       clear hb hS hF
       go_wp2_with fail
       go_roundw
       case rel => exact ⟨k + 1,by omega,by go_num,hset,hS2,hF2⟩
       case measure => simp [intOf]; omega
     · obtain rfl : n = k := by omega
       rw [preL_full] at hb
       obtain ⟨W0,hW0⟩ : ∃ W0,W0 = wr := ⟨_,rfl⟩
       subst hW0
       go_wp2_with fail
       go_loopw [38,10] (fun u _ wr => ∃ k : Nat,k ≤ K ∧ u = .int .i64 (k : Int) ∧ Blk wr w.heap.size (ints (shuf n s k)) 3 ∧ Src wr g (stS s k) ∧ Fr (· = g) w wr) (fun u _ _ => K - (intOf u).toNat)
       case atStart => exact ⟨0,by omega,rfl,hb,hS,hF⟩
       case round =>
         clear hb hS hF
         obtain ⟨k,hk,rfl,hb,hS,hF⟩ := hrel
         by_cases hlt : k < K
         · have hlt' : (k : Int) < (K : Int) := by omega
           have hbel := rbelow_any g (n - k) (stS s k) wr hS (by omega) (by omega)
           have hq : ((n - k : Nat) : Int) = (n : Int) - (k : Int) := by omega
           rw [hq] at hbel
           clear hq
           have hjl := belowS_lt (stS s k) (n := n - k) (by omega)
           have hSh : Hid (shuf n s (k + 1) = swapL (shuf n s k) k (k + belowS (stS s k) (n - k))) := hide rfl
           generalize belowS (stS s k) (n - k) = j at *
           have hj' : (j : Int) < (n : Int) - (k : Int) := by omega
           have hsl := shuf_len n s k
           go_wp2_with fail
           refine hbel.mono ?_
           rintro e w2 ⟨rfl,hS2,hF2⟩
           have hb2 := hb.fr hF2 (by omega)
           have hFF := hF.trans hF2
           have ca := hb2.cell (ints_getD (shuf n s k) k (by omega))
           have cb := hb2.cell (ints_getD (shuf n s k) (k + j) (by omega))
           have fa := hb2.free k
           have fb := hb2.free (k + j)
           have hset : Blk ((w2.setCell ⟨w.heap.size,k,none⟩ (.int .i64 (((shuf n s k).getD (k + j) 0 : Nat) : Int))).setCell ⟨w.heap.size,k + j,none⟩ (.int .i64 (((shuf n s k).getD k 0 : Nat) : Int))) w.heap.size (ints (shuf n s (k + 1))) 3 := by
             rw [hSh.out]
             unfold swapL
             rw [← ints_set,← ints_set]
             exact (hb2.set _ _).set _ _
           generalize (shuf n s k).getD (k + j) 0 = y at *
           generalize (shuf n s k).getD k 0 = x at *
           have eq1 : ((k : Int) + (j : Int)).toNat = k + j := by omega
           have hkj0 : (0 : Int) ≤ (k : Int) + (j : Int) := by omega
           have hkj1 : (k : Int) + (j : Int) < (n : Int) := by omega
           clear hb hS hF hbel
           have hkn : (k : Int) < (n : Int) := by omega
           have hF2 : Fr (· = g) w ((w2.setCell ⟨w.heap.size,k,none⟩ (.int .i64 (y : Int))).setCell ⟨w.heap.size,k + j,none⟩ (.int .i64 (x : Int))) := Fr.set (S := (· = g)) (Fr.set (S := (· = g)) hFF (p := ⟨w.heap.size,k,none⟩) (fun hq => absurd hq (Nat.lt_irrefl _)) _) (p := ⟨w.heap.size,k + j,none⟩) (fun hq => absurd hq (Nat.lt_irrefl _)) _
           have hS3 : Src ((w2.setCell ⟨w.heap.size,k,none⟩ (.int .i64 (y : Int))).setCell ⟨w.heap.size,k + j,none⟩ (.int .i64 (x : Int))) g (nextS (stS s k)) := (hS2.other (a := ⟨w.heap.size,k,none⟩) (show g ≠ w.heap.size by omega) _).other (a := ⟨w.heap.size,k + j,none⟩) (show g ≠ w.heap.size by omega) _
           go_upto_region 14 with fail
           by_cases hj0 : j = 0
           · subst hj0
             simp only [Nat.add_zero] at *
             have hxy : y = x := by
               have := ca.symm.trans cb
               simp only [Option.some.injEq,Value.int.injEq,true_and] at this
               omega
             subst hxy
             have hc3 : ∀ v,(w2.setCell ⟨w.heap.size,k,none⟩ v).cell? ⟨w.heap.size,k,none⟩ = some v := fun v => World.cell?_setCell_same w2 ⟨w.heap.size,k,none⟩ v ca
             go_region
             all_goals
               go_wp2_with fail
               go_roundw
               case rel => exact ⟨k + 1,by omega,by go_num,hset.drew,hS3.drew,hF2.drew⟩
               case measure => simp [intOf]; omega
           · have hc3 : ∀ v,(w2.setCell ⟨w.heap.size,k,none⟩ v).cell? ⟨w.heap.size,k + j,none⟩ = some (.int .i64 (y : Int)) := fun v => by
               have := hb2.set k v
               rw [← cb]
               rw [cell_of_row _ _ _ _ _ _ this,cell_of_row _ _ _ _ _ _ hb2]
               simp [Array.getElem?_setIfInBounds,show ¬ k = k + j by omega,hj0]
             have hf3 : ∀ v,(w2.setCell ⟨w.heap.size,k,none⟩ v).frozen? ⟨w.heap.size,k + j,none⟩ = false := fun v => (hb2.set k v).free _
             go_region
             all_goals
               go_wp2_with fail
               go_roundw
               case rel => exact ⟨k + 1,by omega,by go_num,hset.drew,hS3.drew,hF2.drew⟩
               case measure => simp [intOf]; omega
         · obtain rfl : K = k := by omega
           have hsl := shuf_len n s K
           have hrd : RdI wr (some ⟨w.heap.size,0,none⟩) K n (someL n s K) := by
             refine ⟨by unfold someL; rw [List.length_take,hsl]; omega,h2,by unfold maxLen; omega,fun _ => ⟨w.heap.size,rfl,_,hb,fun j x hj => ?_⟩⟩
             unfold someL at hj
             rw [List.getElem?_take] at hj
             split at hj
             · rw [ints_get,hj]; rfl
             · cases hj
           have hgs := hF.size
           have hbl := hb.lt
           go_wp2_with fail
           refine (cloneI_any _ K n _ wr hrd (by omega) (by omega)).mono ?_
           rintro e w3 ⟨g3,c3,rfl,ho3,hb3⟩
           have hS3 := hS.below hb3
           go_wp2_with fail
           refine (sort_any wr.heap.size g3 K c3 _ w3 ho3 (by omega)).mono ?_
           rintro e w4 ⟨rfl,L',hp,ho4,hF4⟩
           have hg3 := (row_form ho3 (by omega))
           obtain ⟨g3',e3,hg3,_⟩ := hg3
           cases e3
           have hS4 := hS3.fr hF4 (by have := hS.lt; omega)
           have hFF : Fr (· = g) w w4 := (hF.next hb3).step hF4 (fun q hq hqg => by omega)
           have hrd4 := RdI.of_row ho4
           have Hp := hide hp
           clear hp
           go_wp2_with fail
           go_ret
           exact ⟨some ⟨g3,0,none⟩,c3,L',rfl,Hp.out,hrd4,fun ad hA => by cases hA; show w.heap.size ≤ g3; omega,hS4,hFF⟩
theorem spieces_any (s : BitVec 32) (K P S : Nat) (w : World) (hok : spOk K P S = true) :
   Calls Tryz.prog 146 #[.agg (parC s K P S)] w fun e w' => e = .returned (.int .i64 ((K + P : Nat) : Int)) ∧ Below w.heap.size w w' := by
 have hb0 : Blk (w.alloc (.cells (parC s K P S) 59)) w.heap.size (parC s K P S) 59 := Blk.new _ _ _
 have hB0 := below_alloc1 w (.cells (parC s K P S) 59)
 have hsz := size59 s K P S
 have hsp := fun w => spmay_any s K P S w
 rw [hok] at hsp
 have hK : K ≤ 64 ∧ P ≤ 16 := by unfold spOk at hok; simp at hok; omega
 have hK1 : (K : Int) ≤ 64 := by omega
 have hP1 : (P : Int) ≤ 16 := by omega
 clear hok
 go_enter Tryz.func146,Tryz.ntmps146
 go_wp2_with (first
   | ((with_reducible refine at_load ?_); refine wpList_load_row rfl 59 (.tmp 1) rfl w.heap.size rfl 59 (parC s K P S) (0,0) _ hb0 Tryz.underlying59 rfl hsz ?_))
 refine (hsp _).mono ?_
 rintro e w1 ⟨rfl,hb1⟩
 have hb := hb0.below hb1
 have c1 := hb.cell (i := 1) (v := .int .i64 (K : Int)) rfl
 have c2 := hb.cell (i := 2) (v := .int .i64 (P : Int)) rfl
 have hB1 := below_next hB0 hb1
 clear hb0 hB0 hb1 hb hsp
 go_wp2_with fail
 go_ret
 exact ⟨by first | rfl | (congr 2; omega) | simp,hB1⟩
theorem ofL_ext {L L' : List Nat} (h : ∀ i,i ∈ L ↔ i ∈ L') : ofL L = ofL L' := by
 apply BitVec.eq_of_getLsbD_eq
 intro i hi
 rw [ofL_bit L i hi,ofL_bit L' i hi]
 simp [h i]
def rowB (s : B32) (K P : Nat) (id : B32) : B64 := ofL (rowL s K P id)
theorem someL_lt (n : Nat) (s : B32) (k x : Nat) (h : x ∈ someL n s k) : x < n := by
 unfold someL at h
 have hx := List.mem_of_mem_take h
 obtain ⟨i,hi⟩ := List.getElem?_of_mem hx
 exact shuf_lt n s k i x hi
theorem srow_any (s : B32) (K P S : Nat) (id : B32) (w : World) (hok : spOk K P S = true) (hn : K + P ≤ 64) :
   Calls Tryz.prog 91 #[.agg (parC s K P S),.int .u32 (V id)] w fun e w' => ∃ p wb,e = .returned (.pointer (some ⟨p,0,none⟩)) ∧ VecAt w' p wb (K + P) (rowB s K P id) ∧ w.heap.size ≤ p ∧ w.heap.size ≤ wb ∧ Below w.heap.size w w' := by
 have hb0 : Blk (w.alloc (.cells (parC s K P S) 59)) w.heap.size (parC s K P S) 59 := Blk.new _ _ _
 have hB0 := below_alloc1 w (.cells (parC s K P S) 59)
 have hsz := size59 s K P S
 have hK : 1 ≤ K ∧ K ≤ 64 ∧ P ≤ 16 := by unfold spOk at hok; simp at hok; omega
 obtain ⟨n,hnn⟩ : ∃ n,K + P = n := ⟨_,rfl⟩
 have hpc := fun w => spieces_any s K P S w hok
 rw [hnn] at hn ⊢
 rw [hnn] at hpc
 have hn1 : 1 ≤ n := by omega
 have dz : ((n : Int) == 0) = false := by simp; omega
 have hK2 : (K : Int) ≤ 64 := by omega
 have hK0 : (0 : Int) ≤ (K : Int) := by omega
 have hid := V_bd id
 have Hok := hide hok
 clear hok
 go_enter Tryz.func91,Tryz.ntmps91
 go_wp2_with (first
   | ((with_reducible refine at_load ?_); refine wpList_load_row rfl 59 (.tmp 2) rfl w.heap.size rfl 59 (parC s K P S) (0,0) _ hb0 Tryz.underlying59 rfl hsz ?_))
 refine (hpc _).mono ?_
 rintro e w1 ⟨rfl,hb1⟩
 have hb := hb0.below hb1
 have c0 := hb.cell (i := 0) (v := .int .u32 (V s)) rfl
 have c1 := hb.cell (i := 1) (v := .int .i64 (K : Int)) rfl
 have hB1 := below_next hB0 hb1
 have hs1 := hB1.size
 clear hb0 hB0 hb1 hpc
 by_cases hlt : id.toNat < K
 · have dl : decide (V id < (K : Int)) = true := by unfold V; simp; omega
   have hrow : Hid (rowB s K P id = ofL [id.toNat]) := hide (by unfold rowB rowL; rw [if_pos hlt])
   have hrd : RdI (w1.alloc (.cells #[.int .i64 (V id)] 3)) (some ⟨w1.heap.size,0,none⟩) 1 1 [id.toNat] := ⟨rfl,Nat.le_refl _,by decide,fun _ => ⟨w1.heap.size,rfl,_,Blk.new _ _ _,fun j x hj => by
     match j,hj with
     | 0,hj => simp at hj; subst hj; rfl⟩⟩
   have hlt' := hide hlt
   clear hlt
   go_wp2_with fail
   refine (vof_any n (some ⟨w1.heap.size,0,none⟩) 1 1 [id.toNat] _ hn1 hn (by simp; have := hlt'.out; omega) hrd (by omega)).mono ?_
   rintro e w2 ⟨rfl,hv2,hb2⟩
   have ha := below_alloc1 w1 (.cells #[.int .i64 (V id)] 3)
   have hB2 := below_next (below_next hB1 ha) hb2
   have hs2 := ha.size
   have hsz2 : (w1.alloc (.cells #[.int .i64 (V id)] 3)).heap.size = w1.heap.size + 1 := by simp
   rw [hsz2] at hv2
   go_wp2_with fail
   go_ret
   exact ⟨_,_,rfl,by rw [hrow.out]; exact hv2,by omega,by omega,hB2⟩
 · have dl : decide (V id < (K : Int)) = false := by unfold V; simp; omega
   obtain ⟨s0,hs0⟩ : ∃ s0,newS s id = s0 := ⟨_,rfl⟩
   have hrow : Hid (rowB s K P id = ofL (someL n (nextS s0) (degF n (outS s0).toNat))) := hide (by unfold rowB rowL; rw [if_neg hlt,hnn,hs0])
   have hlt' := hide hlt
   clear hlt
   go_wp2_with fail
   refine (rnew_any s id w1).mono ?_
   rw [hs0]
   rintro e w2 ⟨rfl,hS2,hb2⟩
   have hB2 := below_next hB1 hb2
   have hl2 := hS2.lt
   clear hb c0 c1 hs0
   go_wp2_with fail
   refine (Sol.new_some n hn1 (by omega) w2).mono ?_
   rintro e w3 ⟨rfl,rfl⟩
   have hS3 : Src (w2.alloc (.cells #[.int .i64 (n : Int),.int .u32 0,.int .i32 0,.int .u32 0,.slice none 0 0] 260)) w1.heap.size s0 := Blk.alloc hS2 _
   have ht3 : Sol.Tab (w2.alloc (.cells #[.int .i64 (n : Int),.int .u32 0,.int .i32 0,.int .u32 0,.slice none 0 0] 260)) w2.heap.size (n : Int) 0 0 (.slice none 0 0) := Sol.Tab.new w2 (n : Int)
   have hB3 := ba hB2 (.cells #[.int .i64 (n : Int),.int .u32 0,.int .i32 0,.int .u32 0,.slice none 0 0] 260)
   have hl3 : w2.heap.size < (w2.alloc (.cells #[.int .i64 (n : Int),.int .u32 0,.int .i32 0,.int .u32 0,.slice none 0 0] 260)).heap.size := by simp
   generalize w2.alloc (.cells #[.int .i64 (n : Int),.int .u32 0,.int .i32 0,.int .u32 0,.slice none 0 0] 260) = w3 at *
   go_wp2_with fail
   refine (rnext_any w1.heap.size s0 w3 hS3).mono ?_
   rintro e w4 ⟨rfl,hS4,hF4⟩
   have hB4 := hB3.trans (hF4.below hB3.size (fun q hq => by omega))
   have hst4 : Sol.Stands w4 w2.heap.size n w2.heap.size := ⟨Nat.le_refl _,.inl ((hF4.block w2.heap.size hl3 (by omega)).trans ht3)⟩
   have hxl : (outS s0).toNat < 4294967296 := (outS s0).isLt
   clear ht3 hS3 hS2
   go_wp2_with fail
   refine Calls.mono (show Calls Tryz.prog 151 #[.pointer (some ⟨w2.heap.size,0,none⟩),.int .u32 (V (outS s0))] w4 _ from Sol.degree_any w2.heap.size n w2.heap.size (outS s0).toNat hn1 (by omega) hxl w4 hst4) ?_
   rintro e w5 ⟨r,rfl,hdeg,_,hb5⟩
   have hr : r = degF n (outS s0).toNat := hdeg.same (degF_is hn1 (by omega) hxl) hn1 (by omega) hxl
   have hr1 := degF_pos hn1 (show n ≤ 80 by omega) hxl
   have hr2 := degF_le hn1 (show n ≤ 80 by omega) hxl
   rw [← hr] at hr1 hr2
   have Hr := hide hr
   have hS5 : Src w5 w1.heap.size (nextS s0) := (hb5.block w1.heap.size hl2).trans hS4
   have hB5 := hB4.trans (hb5.mono (by omega))
   clear hr hdeg hst4 hS4 hxl
   go_wp2_with fail
   refine (rsome_any w1.heap.size n r (nextS s0) w5 hS5 hr1 hr2 hn).mono ?_
   rintro e w6 ⟨A,c,L,rfl,hp,hrd,_,_,hF6⟩
   have hB6 := hB5.trans (hF6.below hB5.size (fun q hq => by omega))
   have hLn : ∀ x ∈ L,x < n := fun x hx => someL_lt n (nextS s0) r x (hp.mem_iff.1 hx)
   have hLe : Hid (ofL L = ofL (someL n (nextS s0) r)) := hide (ofL_ext fun i => hp.mem_iff)
   have hs6 := hB6.size
   clear hp hS5
   go_wp2_with fail
   refine (vof_any n A r c L w6 hn1 hn hLn hrd (by omega)).mono ?_
   rintro e w7 ⟨rfl,hv7,hb7⟩
   have hB7 := below_next hB6 hb7
   go_wp2_with fail
   go_ret
   exact ⟨_,_,rfl,by rw [hrow.out,← Hr.out,← hLe.out]; exact hv7,by omega,by omega,hB7⟩
def parX (ss : B32) (K j : Nat) : Nat → B64
 | 0 => ofL [K + j]
 | k + 1 => if parB ss j k then parX ss K j k ||| 1#64 <<< k else parX ss K j k &&& ~~~(1#64 <<< k)
theorem mask_bit (k i : Nat) (hi : i < 64) : (1#64 <<< k).getLsbD i = decide (i = k) := by
 rw [BitVec.getLsbD_shiftLeft]
 by_cases h : i = k
 · subst h; simp [hi]
 · by_cases h2 : i < k
   · simp [h2,h]
   · have : (1#64).getLsbD (i - k) = false := by
       rw [BitVec.getLsbD_one]
       simp
       omega
     simp [h2,h,this]
theorem parX_bit (ss : B32) (K j : Nat) (k i : Nat) (hk : k ≤ K) (hi : i < 64) : (parX ss K j k).getLsbD i = (decide (i = K + j) || (decide (i < k) && parB ss j i)) := by
 induction k with
 | zero =>
   unfold parX
   rw [ofL_bit _ _ hi]
   simp
 | succ k ih =>
   unfold parX
   by_cases hb : parB ss j k
   · rw [if_pos hb,BitVec.getLsbD_or,ih (by omega),mask_bit k i hi]
     by_cases e : i = k
     · subst e; simp [hb]
     · by_cases h2 : i < k
       · simp [e,h2,show i < k + 1 by omega]
       · simp [e,h2,show ¬ i < k + 1 by omega]
   · rw [if_neg hb,BitVec.getLsbD_and,ih (by omega),BitVec.getLsbD_not,mask_bit k i hi]
     by_cases e : i = k
     · subst e; simp [hb,show ¬ i = K + j by omega]
     · by_cases h2 : i < k
       · simp [e,h2,show i < k + 1 by omega,hi]
       · simp [e,h2,show ¬ i < k + 1 by omega,hi]
theorem V_bit (o : B32) : (bits .and .u32 (V o) 1 == 1) = o.getLsbD 0 := by
 have h1 : (1 : Int) = V 1#32 := by decide
 rw [h1,V_and,BitVec.and_one_eq_setWidth_ofBool_getLsbD]
 cases o.getLsbD 0 <;> decide
theorem Blk.grown {w w' : World} {g : Nat} {cs : Array Value} {t : TypeId} {row : Option Nat} (h : Blk w g cs t) (hb : w.grownBy w' row) (hr : row ≠ some g) : Blk w' g cs t := (hb.block g h.lt (fun e => hr e.symm)).trans h
theorem row_ne {w : World} {base : Nat} {e t : TypeId} {A : Option Addr} {n c m g : Nat} {xs : List Value} {cs : Array Value} (h : w.ownsRow base e 1 (.slice A n c) m xs) (hg : Blk w g cs t) (hne : e ≠ t) : A.map (·.block) ≠ some g := by
 rcases h.2 with ⟨hv,h0⟩ | ⟨g2,cap,cur,hv,_,hgg,_⟩
 · simp only [Value.slice.injEq] at hv
   rw [hv.1]
   intro h; cases h
 · simp only [Value.slice.injEq] at hv
   rw [hv.1]
   intro h
   simp at h
   subst h
   unfold Blk at hg
   rw [hgg] at hg
   simp only [Option.some.injEq,Obj.cells.injEq] at hg
   exact hne hg.2.1
theorem VecAt.grown {w w' : World} {p wb n : Nat} {x : B64} {row : Option Nat} (h : VecAt w p wb n x) (hb : w.grownBy w' row) (h1 : row ≠ some p) (h2 : row ≠ some wb) : VecAt w' p wb n x := by
 obtain ⟨cp,cs,k1,k2,k3,k4,k5⟩ := h
 exact ⟨cp,cs,k1.grown hb h1,k2.grown hb h2,k3,k4,k5⟩
theorem isZ158 : IsZ Tryz.prog 158 (.pointer none) 8 := by unfold IsZ; kernel_rfl
def PtrV (ps : List Nat) : List Value := ps.map fun p => Value.pointer (some ⟨p,0,none⟩)
theorem prows_any (s : BitVec 32) (K P S : Nat) (w : World) (hok : spOk K P S = true) (hn : K + P ≤ 64) :
   Calls Tryz.prog 191 #[.agg (parC s K P S)] w fun e w' => ∃ A c ps,e = .returned (.slice A P c) ∧ w'.ownsRow w.heap.size 158 1 (.slice A P c) P (PtrV ps) ∧ (∀ (j : Nat) p,ps[j]? = some p → ∃ wb,VecAt w' p wb (K + P) (parX s K j K) ∧ w.heap.size ≤ p ∧ w.heap.size ≤ wb) ∧ Below w.heap.size w w' := by
 have hb0 : Blk (w.alloc (.cells (parC s K P S) 59)) w.heap.size (parC s K P S) 59 := Blk.new _ _ _
 have hB0 := below_alloc1 w (.cells (parC s K P S) 59)
 have hsz := size59 s K P S
 have hK : 1 ≤ K ∧ K ≤ 64 ∧ P ≤ 16 := by unfold spOk at hok; simp at hok; omega
 obtain ⟨n,hnn⟩ : ∃ n,K + P = n := ⟨_,rfl⟩
 have hpc := fun w => spieces_any s K P S w hok
 rw [hnn] at hn ⊢
 rw [hnn] at hpc
 have hn1 : 1 ≤ n := by omega
 have dz : ((n : Int) == 0) = false := by simp; omega
 have hK2 : (K : Int) ≤ 64 := by omega
 have hK0 : (0 : Int) ≤ (K : Int) := by omega
 have hP2 : (P : Int) ≤ 16 := by omega
 clear hok
 go_enter Tryz.func191,Tryz.ntmps191
 go_wp2_with (first
   | ((with_reducible refine at_load ?_); refine wpList_load_row rfl 59 (.tmp 1) rfl w.heap.size rfl 59 (parC s K P S) (0,0) _ hb0 Tryz.underlying59 rfl hsz ?_))
 refine (hpc _).mono ?_
 rintro e w1 ⟨rfl,hb1⟩
 have hb := hb0.below hb1
 have c2 := hb.cell (i := 2) (v := .int .i64 (P : Int)) rfl
 have hB1 := below_next hB0 hb1
 have hs1 := hB1.size
 clear hb0 hB0 hb1 hpc
 go_wp2_with fail
 clear c2
 go_loopw [4,15] (fun v u wr => ∃ (j c : Nat) (A : Option Addr) (ps : List Nat),j ≤ P ∧ u = .int .i64 (j : Int) ∧ v = .slice A j c ∧ Blk wr w.heap.size (parC s K P S) 59 ∧ wr.ownsRow (w.heap.size + 1) 158 1 (.slice A j c) j (PtrV ps) ∧ Hid (∀ (i : Nat) p,ps[i]? = some p → ∃ wb,VecAt wr p wb n (parX s K i K) ∧ w.heap.size ≤ p ∧ w.heap.size ≤ wb) ∧ Below w.heap.size w wr) (fun _ u _ => P - (intOf u).toNat)
 case atStart => exact ⟨0,0,none,[],by omega,rfl,rfl,hb,World.ownsRow_nil w1 (w.heap.size + 1) 158 1,hide (fun i p h => by cases h),hB1⟩
 case round =>
   clear hb hB1 hs1
   obtain ⟨j,c,A,ps,hj,rfl,rfl,hb,ho,hvs,hB⟩ := hrel
   by_cases hlt : j < P
   · have hlt' : (j : Int) < (P : Int) := by omega
     have c0 := hb.cell (i := 0) (v := .int .u32 (V s)) rfl
     have c1 := hb.cell (i := 1) (v := .int .i64 (K : Int)) rfl
     have hKj : ((K : Int) + (j : Int)) = ((K + j : Nat) : Int) := by omega
     have hrd : RdI (wr.alloc (.cells #[.int .i64 ((K : Int) + (j : Int))] 3)) (some ⟨wr.heap.size,0,none⟩) 1 1 [K + j] := ⟨rfl,Nat.le_refl _,by decide,fun _ => ⟨wr.heap.size,rfl,_,Blk.new _ _ _,fun i x hi => by
       match i,hi with
       | 0,hi => simp at hi; subst hi; rfl⟩⟩
     have hsr := hB.size
     have hlb := hb.lt
     have ha := below_alloc1 wr (.cells #[.int .i64 ((K : Int) + (j : Int))] 3)
     have hsz2 : (wr.alloc (.cells #[.int .i64 ((K : Int) + (j : Int))] 3)).heap.size = wr.heap.size + 1 := by simp
     clear hKj
     go_wp2_with fail
     refine (vof_any n (some ⟨wr.heap.size,0,none⟩) 1 1 [K + j] _ hn1 hn (by simp; omega) hrd (by omega)).mono ?_
     rw [hsz2]
     rintro e w2 ⟨rfl,hv2,hb2⟩
     rw [← hsz2] at hb2
     have hwr2 : Below wr.heap.size wr w2 := below_next ha hb2
     have hb' := hb.below hwr2
     have d0 := hb'.cell (i := 0) (v := .int .u32 (V s)) rfl
     have d1 := hb'.cell (i := 1) (v := .int .i64 (K : Int)) rfl
     clear c0 c1 hb hrd ha hb2 hsz2
     obtain ⟨idv,hidv⟩ : ∃ idv,BitVec.ofNat 32 (2147483648 + j) = idv := ⟨_,rfl⟩
     have hV : IntKind.u32.wrap (2147483648 + (j : Int)) = V idv := by
       rw [wrapU32,← hidv]
       unfold V
       rw [BitVec.toNat_ofNat]
       omega
     have hV2 : (2147483648 + (j : Int)) % 4294967296 = V idv := by rw [← hV,wrapU32]
     have hV3 : (2147483648 + (j : Int)) = V idv := by rw [← hV,wrapU32]; omega
     go_upto_region 9 with fail
     clear hV2 hV
     have hid := V_bd idv
     go_wp2_with fail
     obtain ⟨s0,hs0⟩ : ∃ s0,newS s idv = s0 := ⟨_,rfl⟩
     have hpb : Hid (∀ k,parB s j k = (outS (stS s0 k)).getLsbD 0) := hide (by intro k; unfold parB; rw [hidv,hs0])
     refine (rnew_any s idv w2).mono ?_
     rw [hs0]
     rintro e w3 ⟨rfl,hS3,hb3⟩
     have hv3 := hv2.below hb3
     have hlv := hv2.lt
     have hb'3 := hb'.below hb3
     have hwr3 := below_next hwr2 hb3
     have d1 := hb'3.cell (i := 1) (v := .int .i64 (K : Int)) rfl
     have hsw := hwr2.size
     clear hs0 hidv hV3 hid hv2 hb' d0
     go_wp2_with fail
     obtain ⟨W0,hW0⟩ : ∃ W0,W0 = wr := ⟨_,rfl⟩
     subst hW0
     clear d1
     go_loopw [33,8] (fun u _ wr => ∃ k : Nat,k ≤ K ∧ u = .int .i64 (k : Int) ∧ VecAt wr (W0.heap.size + 1 + 1) (W0.heap.size + 1) n (parX s K j k) ∧ Src wr w2.heap.size (stS s0 k) ∧ Fr (fun g => g = W0.heap.size + 1 ∨ g = w2.heap.size) w3 wr) (fun u _ _ => K - (intOf u).toNat)
     case atStart => exact ⟨0,by omega,rfl,hv3,hS3,Fr.refl _ _⟩
     case round =>
       clear hv3 hS3
       obtain ⟨k,hk,rfl,hv,hS,hF⟩ := hrel
       by_cases hkl : k < K
       · have hkl' : (k : Int) < (K : Int) := by omega
         have hbit := V_bit (outS (stS s0 k))
         have hpk := hpb.out k
         have hX : Hid (parX s K j (k + 1) = if parB s j k then parX s K j k ||| 1#64 <<< k else parX s K j k &&& ~~~(1#64 <<< k)) := hide rfl
         have hk64 : (k : Int) < 64 := by omega
         have hnx := rnext_any w2.heap.size (stS s0 k) wr hS
         rw [← hpk] at hbit
         generalize outS (stS s0 k) = o at *
         have Hnx := hide hnx
         have Hpk := hide hpk
         clear hnx hpk
         rcases Bool.eq_false_or_eq_true (parB s j k) with hp | hp
         · rw [hp] at hbit
           have Hp := hide hp
           clear hp
           go_wp2_with fail
           refine Hnx.out.mono ?_
           rintro e w4 ⟨rfl,hS4,hF4⟩
           have hv4 := hv.fr hF4 (by omega) (by omega)
           go_wp2_with fail
           refine (vset_any _ _ n k _ w4 hv4 (by omega) hn).mono ?_
           rintro e w5 ⟨rfl,hv5,hF5⟩
           have hS5 := hS4.fr hF5 (by omega)
           have hFF := (hF.trans (hF4.mono (S' := fun g => g = W0.heap.size + 1 ∨ g = w2.heap.size) fun g _ hg => .inr hg)).trans (hF5.mono (S' := fun g => g = W0.heap.size + 1 ∨ g = w2.heap.size) fun g _ hg => .inl hg)
           go_wp2_with fail
           go_roundw
           case rel => exact ⟨k + 1,by omega,by go_num,by rw [hX.out,if_pos Hp.out]; exact hv5,hS5,hFF⟩
           case measure => simp [intOf]; omega
         · rw [hp] at hbit
           have Hp := hide hp
           clear hp
           go_wp2_with fail
           refine Hnx.out.mono ?_
           rintro e w4 ⟨rfl,hS4,hF4⟩
           have hv4 := hv.fr hF4 (by omega) (by omega)
           go_wp2_with fail
           refine (vunset_any _ _ n k _ w4 hv4 (by omega) hn).mono ?_
           rintro e w5 ⟨rfl,hv5,hF5⟩
           have hS5 := hS4.fr hF5 (by omega)
           have hFF := (hF.trans (hF4.mono (S' := fun g => g = W0.heap.size + 1 ∨ g = w2.heap.size) fun g _ hg => .inr hg)).trans (hF5.mono (S' := fun g => g = W0.heap.size + 1 ∨ g = w2.heap.size) fun g _ hg => .inl hg)
           go_wp2_with fail
           go_roundw
           case rel => exact ⟨k + 1,by omega,by go_num,by rw [hX.out,if_neg (by rw [Hp.out]; decide)]; exact hv5,hS5,hFF⟩
           case measure => simp [intOf]; omega
       · obtain rfl : K = k := by omega
         have hB3 : Below W0.heap.size W0 wr := hwr3.trans (hF.below hwr3.size (fun g hg => by omega))
         have hbn := hb'3.fr hF (by omega)
         have hvsn : ∀ (i : Nat) p,ps[i]? = some p → ∃ wb,VecAt wr p wb n (parX s K i K) ∧ w.heap.size ≤ p ∧ w.heap.size ≤ wb ∧ p < W0.heap.size ∧ wb < W0.heap.size := fun i p hp => by
           obtain ⟨wb,h1,h2,h3⟩ := hvs.out i p hp
           have hl := h1.lt
           exact ⟨wb,h1.below hB3,h2,h3,hl.1,hl.2.1⟩
         have hon : wr.ownsRow (w.heap.size + 1) 158 1 (.slice A j c) j (PtrV ps) := row_below ho hB3
         have hBn := hB.trans (hB3.mono hsr)
         have Hvs := hide hvsn
         have hal := below_alloc1 wr (.cells #[.pointer (some ⟨W0.heap.size + 1 + 1,0,none⟩)] 158)
         have hsrc : ∀ (i : Nat) u,([.pointer (some ⟨W0.heap.size + 1 + 1,0,none⟩)] : List Value)[i]? = some u → (wr.alloc (.cells #[.pointer (some ⟨W0.heap.size + 1 + 1,0,none⟩)] 158)).cell? ((⟨wr.heap.size,0,none⟩ : Addr).add i) = some u := by
           intro i u hi
           match i,hi with
           | 0,hi => simp at hi; subst hi; rw [addAt]; exact cell1 wr _ 158 0 _ rfl
         have hlr := hbn.lt
         have hwl := hv.lt
         clear hvsn hvs ho hwr3 hb'3 hF hS hpb hB
         go_wp2_with (at_builtin
                      refine wpList_appendV _ rfl _ _ _ rfl (w.heap.size + 1) 158 (.pointer none) 8 Tryz.underlying247 isZ158 rfl (by omega) A j c (PtrV ps) rfl (row_below hon hal) ⟨wr.heap.size,0,none⟩ 1 1 [.pointer (some ⟨W0.heap.size + 1 + 1,0,none⟩)] rfl rfl (by omega) hsrc (by simp [Value.oneCell']) (by omega) (by simp; omega) ?_
                      intro A6 c6 w6 ho6 hb6 hg6 _)
         go_roundw
         case rel =>
           have hona := row_below hon hal
           refine ⟨j + 1,c6,A6,ps ++ [W0.heap.size + 1 + 1],by omega,by go_num,rfl,(hbn.alloc _).grown hg6 (row_ne hona (hbn.alloc _) (by decide)),by simpa [PtrV] using ho6,hide ?_,(hBn.trans (hal.mono hBn.size)).trans (hb6.mono (by omega))⟩
           have keep : ∀ p wb x,VecAt wr p wb n x → VecAt w6 p wb n x := fun p wb x hx => by
             have hxa := hx.below hal
             obtain ⟨cp,cs,k1,k2,_⟩ := id hxa
             exact hxa.grown hg6 (row_ne hona k1 (by decide)) (row_ne hona k2 (by decide))
           intro i p hp
           have hpl : ps.length = j := by
             have := row_len hon
             simpa [PtrV] using this
           rcases Nat.lt_or_ge i j with hij | hij
           · rw [List.getElem?_append_left (by omega)] at hp
             obtain ⟨wb,q1,q2,q3,_⟩ := Hvs.out i p hp
             exact ⟨wb,keep _ _ _ q1,q2,q3⟩
           · have hi0 : i = j := by
               have := (List.getElem?_eq_some_iff.1 hp).1
               simp at this
               omega
             subst hi0
             rw [List.getElem?_append_right (by omega),hpl,Nat.sub_self] at hp
             simp at hp
             subst hp
             exact ⟨W0.heap.size + 1,keep _ _ _ hv,by omega,by omega⟩
         case measure => simp [intOf]; omega
   · obtain rfl : P = j := by omega
     go_wp2_with fail
     go_ret
     exact ⟨A,c,ps,rfl,row_mono ho (by omega),hvs.out,hB⟩
end Go.Proofs.YtkkcpblfheplaaaGreatDoor
