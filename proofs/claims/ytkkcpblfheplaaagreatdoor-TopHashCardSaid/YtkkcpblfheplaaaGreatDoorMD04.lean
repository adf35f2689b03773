/- Contracts of functions that the laws of downpourtop reach, and plain facts; no condition beyond what each theorem states. -/
import Derived.Test.YtkkcpblfheplaaaGreatDoorMD03
import Derived.Laws.IdiomCopy
import Derived.OwnWalk
import Derived.Lib.SliceRun
import Derived.Lib.AppendZeros
set_option maxRecDepth 100000
set_option maxHeartbeats 8000000
set_option linter.all false
namespace Go.Proofs.YtkkcpblfheplaaaGreatDoor
open Go.RowKit
theorem Own.ne_arr {w : World} {base : Nat} {e : TypeId} {A : Option Addr} {n c : Nat} {l : List UInt8} (h : Own w base e A n c l) {g : Nat} {t : TypeId} {L : List (BitVec 32)} (hg : Arr w g t L) (hne : e ≠ t) : ∀ ad,A = some ad → ad.block ≠ g := by
 intro ad hA
 subst hA
 rcases h.2 with ⟨hv,_⟩ | ⟨g2,cap,cur,hv,_,hgg,_⟩
 · simp at hv
 · simp only [Value.slice.injEq,Option.some.injEq] at hv
   obtain ⟨rfl,_⟩ := hv
   rintro rfl
   unfold Arr at hg
   rw [hgg] at hg
   simp only [Option.some.injEq,Obj.cells.injEq] at hg
   exact hne hg.2.1
theorem fr_setRow (w : World) (g : Nat) (cs : Array Value) : Fr (· = g) w (w.setRow g cs) := ⟨rfl,rfl,rfl,by simp,fun _ _ hk => setRow_other _ _ _ _ hk⟩
theorem still_load_row {P : Program} {ops : Array Oper} {w : World} {Q : Act → Prop} {rest : List Oper} {o : Oper} {a : Act} (hgd : o.guard = none) (ty : TypeId) (x : Operand) (ho : o.op = .load ty x)
   (g : Nat) (hx : a.eval x = .pointer (some ⟨g,0,none⟩)) (t : TypeId) (cs : Array Value) (fr : Nat × Nat) (d : TypeDesc) (hg : w.heap[g]? = some (.cells cs t fr))
   (hu : P.underlying ty = some d) (hd : (match d with | .struct _ | .array _ _ => true | _ => false) = true) (hi : (P.info? ty).map (·.size) = some cs.size)
   (h : wpStill P ops w Q rest (a.put o.dst (.agg cs))) : wpStill P ops w Q (o :: rest) a := by
 unfold wpStill
 have hw : Region.wanted o (yielded ops a.tmps) = true := by simp [Region.wanted,hgd]
 rw [if_pos hw]
 unfold Oper.still execOp
 simp only [ho,hx,Instr.loadAt,Instr.sureAddr,Sem.run_bind,Sem.run_pure,Result.andThen_ok,run_loadVar_row w g t ty cs fr d hg hu hd hi]
 exact ⟨rfl,h⟩
theorem run_index_words (w : World) (S : List (BitVec 32)) (hS : S.length = 8) (i : Nat) (hi : i < 8) : (Instr.index 102 (.agg (cw S)) (.int .i64 (i : Int))).run Tryz.prog w = .ok (.int .u32 (V (S.getD i 0#32))) w := by
 have hg := cw_get S i (by omega)
 have hu : Tryz.prog.underlying 102 = some (.array 8 30) := Tryz.underlying102
 have hi30 : (Tryz.prog.info? 30).map (fun i => (i.size)) = some 1 := by kernel_rfl
 have ha : (Tryz.prog.underlying 30) = some (.int .u32) := Tryz.underlying30
 have h0 : (0 : Int) ≤ (i : Int) ∧ (i : Int) < ((8 : Nat) : Int) := by omega
 cases hq : Tryz.prog.info? 30 with
 | none => rw [hq] at hi30; cases hi30
 | some t =>
   rw [hq] at hi30
   have ht : t.size = 1 := by simpa using hi30
   simp [Instr.index,run_underlying hu,asIntOf,h0,part,sizeOf,typeInfo,hq,ht,run_underlying ha,hg,go_sem]
   omega
theorem four_cellsW (x : BitVec 32) : (#[Value.int .u8 (V x / 16777216),.int .u8 (V x / 65536 % 256),.int .u8 (V x / 256 % 256),.int .u8 (V x % 256)] : Array Value).toList = bys (four x) := by
 have h := V_bd x
 have : V x / 16777216 % 256 = V x / 16777216 := by omega
 simp [bys,by8,four,byt_val,this]
theorem bytesOf_snoc (s : List (BitVec 32)) (k : Nat) (hk : k < s.length) : bytesOf (s.take (k + 1)) = bytesOf (s.take k) ++ four (s.getD k 0#32) := by
 unfold bytesOf
 rw [List.take_add_one,List.flatMap_append,List.getElem?_eq_getElem hk,List.getD_eq_getElem?_getD,List.getElem?_eq_getElem hk]
 simp
theorem shasum_any (A : Option Addr) (n c : Nat) (l : List UInt8) (w : World) (hr : Rd w A n c l) (hn : n ≤ 1000000) :
   Calls Tryz.prog 19 #[.slice A n c] w fun e w' => ∃ A' c',e = .returned (.slice A' 32 c') ∧ Own w' w.heap.size 5 A' 32 c' (sha l) ∧ Below w.heap.size w w' := by
 have hsz2 : ∀ L : List (BitVec 32),L.length = 8 → (Tryz.prog.info? 102).map (·.size) = some (cw L).size := fun L h => by rw [cw_size,h]; kernel_rfl
 have Hl := hide hr.1
 have hp := padz_lt n
 go_enter Tryz.func19,Tryz.ntmps19
 go_wp2_with fail
 refine (begin_any _).mono ?_
 rintro e w1 ⟨rfl,hb1⟩
 have hH := hsz2 H0 H0_len
 have hH1 := cw_one H0
 have hz : (cw z8).size = (cw H0).size := by rw [cw_size,cw_size,H0_len]; rfl
 have hZ : Arr (w1.alloc (.cells (cw z8) 102)) w1.heap.size 102 z8 := Arr.new _ _ _
 go_upto_region 2 with (first
   | ((with_reducible refine at_store ?_); refine wpList_store_row rfl 102 (.tmp 3) (.tmp 8) rfl w1.heap.size (cw H0) rfl rfl 102 (cw z8) hZ hH hz hH1 ?_))
 have hS := hZ.setSame H0
 have hB := below_setRow (hb1.alloc hb1.size (.cells (cw z8) 102)) (g := w1.heap.size) hb1.size (cw H0)
 have hx0 := hb1.size
 clear hZ hz hH hH1
 generalize w1.heap.size = x0 at *
 change Code.wp _ _ _ _ (World.setRow (w1.alloc (.cells (cw z8) 102)) x0 (cw H0))
 generalize World.setRow (w1.alloc (.cells (cw z8) 102)) x0 (cw H0) = w2 at *
 go_wp2_with fail
 refine (filled_any A n c l _ (hr.below hB) hn).mono ?_
 rintro e w3 ⟨A3,c3,rfl,ho3,hb3⟩
 have hS3 := hS.below hb3
 have hB3 := below_next hB hb3
 have hlen := fill_len l
 rw [Hl.out] at hlen
 obtain ⟨m,hm⟩ := fill_blocks l
 have hN : n + 9 + padz n = 64 * m := by omega
 rw [hN] at ho3 ⊢
 have hm2 : 64 * m ≤ 1000100 := by omega
 have Hm := hide hm
 have hR := ho3.rd
 have hN3 := ho3.ne_arr hS3 (by decide)
 clear hm hN hlen hS hB hb1 hb3
 go_wp2_with fail
 go_loopw [4] (fun v wr => ∃ (k : Nat) (B : Option Addr) (d : Nat),k ≤ m ∧ v = .slice B (64 * (m - k)) d ∧ Rd wr B (64 * (m - k)) d ((fill l).drop (64 * k)) ∧ (∀ ad,B = some ad → ad.block ≠ x0) ∧ Arr wr x0 102 (after H0 (fill l) k) ∧ Below w.heap.size w wr) (fun v _ => match v with | .slice _ m _ => m | _ => 0)
 case atStart => exact ⟨0,A3,c3,Nat.zero_le _,rfl,hR,hN3,hS3,hB3⟩
 case round =>
   clear hR hS3 hB3
   obtain ⟨k,B,d,hk,rfl,hR,hNe,hS,hB⟩ := hrel
   have hal := after_len H0 (fill l) H0_len k
   have hcap := hR.2.1
   by_cases hlt : k < m
   · obtain ⟨r,hr'⟩ : ∃ r,m - k = r + 1 := ⟨m - k - 1,by omega⟩
     have hrr := hide hr'
     rw [hr'] at hR hcap ⊢
     have e64 : 64 * (r + 1) = 64 * r + 64 := by omega
     rw [e64] at hR hcap ⊢
     have hA : Hid (after H0 (fill l) (k + 1) = blockOf (after H0 (fill l) k) (((fill l).drop (64 * k)).take 64)) := hide rfl
     have hD : Hid ((fill l).drop (64 * (k + 1)) = ((fill l).drop (64 * k)).drop 64) := hide (by rw [List.drop_drop]; congr 1)
     generalize (fill l).drop (64 * k) = T at *
     generalize after H0 (fill l) k = S at *
     have hR1 := hR.hi (k := 64) (by omega)
     have hR2 := hR.lo (k := 64) (by omega)
     have b1 : (0 : Int) < ((64 * r + 64 : Nat) : Int) := by omega
     have b2 : (64 : Int) ≤ (d : Int) := by omega
     have hSz := hsz2 S hal
     have hSn := hsz2 (blockOf S (T.take 64)) (blockOf_len _ _ hal)
     have hSo : (cw S).size = (cw (blockOf S (T.take 64))).size := by rw [cw_size,cw_size,hal,blockOf_len _ _ hal]
     have hS1 := cw_one (blockOf S (T.take 64))
     have hSd : Arr wr.drew x0 102 S := hS
     go_wp2_with fail
     go_still_tail 3,(by kernel_rfl)
     refine still_load_row rfl 102 (.tmp 3) rfl x0 rfl 102 (cw S) (0,0) _ hS Tryz.underlying102 rfl hSz ?_
     repeat still_step
     try refine wpStill_nil ?_
     change wpList _ _ _ _ _ wr.drew
     go_wp2_with fail
     refine (takes_any B d S hal (T.take 64) _ hR1.drew).mono ?_
     rintro e w5 ⟨rfl,hb5⟩
     have hS5 := hSd.below hb5
     have hB5 : Below w.heap.size w w5 := below_next hB.drew hb5
     have hR5 := hR2.drew.below hb5
     have hbl := cw_one (blockOf S (T.take 64))
     go_upto_region 4 with (first
       | ((with_reducible refine at_store ?_); refine wpList_store_row rfl 102 (.tmp 3) (.tmp 19) rfl x0 (cw (blockOf S (T.take 64))) rfl rfl 102 (cw S) hS5 hSn hSo hbl ?_))
     have hS6 := hS5.setSame (blockOf S (T.take 64))
     have hB6 := below_setRow hB5 hx0 (cw (blockOf S (T.take 64)))
     have hR6 := hR5.fr (S := (· = x0)) (a := w5.setRow x0 (cw (blockOf S (T.take 64)))) (fr_setRow _ _ _) (fun h0 ad hA he => by
       by_cases hd : d = 64
       · rw [if_pos hd] at hA; exact hNe ad hA he
       · rw [if_neg hd] at hA
         cases B with
         | none => cases hA
         | some b0 =>
           simp only [Option.map_some,Option.some.injEq] at hA
           subst hA
           rw [blockAdd] at he
           exact hNe b0 rfl he)
     change Code.wp _ _ _ _ (w5.setRow x0 (cw (blockOf S (T.take 64))))
     generalize w5.setRow x0 (cw (blockOf S (T.take 64))) = w6 at *
     clear hR5 hS5 hB5 hR2 hR1 hSd hR hS hB hb5
     have e0 : 64 * (m - (k + 1)) = 64 * r := by have := hrr.out; omega
     by_cases hd : d = 64
     · subst hd
       obtain rfl : r = 0 := by omega
       simp only [if_true,Nat.mul_zero,Nat.zero_add,Nat.sub_self] at hR6 e0
       go_wp2_with fail
       go_roundw
       case rel => exact ⟨k + 1,B,0,by omega,by rw [e0],by rw [e0,hD.out]; exact hR6,hNe,by rw [hA.out]; exact hS6,hB6⟩
       case measure => simp
     · rw [if_neg hd] at hR6
       go_wp2_with fail
       go_roundw
       case rel => exact ⟨k + 1,B.map (fun x => x.add 64),d - 64,by omega,by rw [e0]; rfl,by rw [e0,hD.out]; simpa using hR6,fun ad hA' => by
           cases B with
           | none => cases hA'
           | some b0 =>
             simp only [Option.map_some,Option.some.injEq] at hA'
             subst hA'
             rw [blockAdd]
             exact hNe b0 rfl,by rw [hA.out]; exact hS6,hB6⟩
       case measure => simp
   · obtain rfl : k = m := by omega
     have hA : Hid (sha l = bytesOf (after H0 (fill l) k)) := hide (by
       unfold sha
       have : (fill l).length / 64 = k := by rw [Hm.out]; omega
       rw [this])
     generalize after H0 (fill l) k = S at *
     rw [Nat.sub_self,Nat.mul_zero] at hR ⊢
     have hSz := hsz2 S hal
     have hSd := hS.drewN
     go_wp2_with (first
       | ((with_reducible refine at_load ?_); refine wpList_load_row rfl 102 (.tmp 3) rfl x0 rfl 102 (cw S) (0,0) _ hS Tryz.underlying102 rfl hSz ?_))
     go_loopw [5,21] (fun v u wy => ∃ (i : Nat) (B : Option Addr) (d : Nat),i ≤ 8 ∧ u = .int .i64 (i : Int) ∧ v = .slice B (4 * i) d ∧ Own wy w.heap.size 5 B (4 * i) d (bytesOf (S.take i)) ∧ Below w.heap.size w wy) (fun _ u _ => 8 - (intOf u).toNat)
     case atStart => exact ⟨0,none,0,by omega,rfl,rfl,Own.nil _ _ _,hB⟩
     case round =>
       obtain ⟨i,B',d',hi,rfl,rfl,ho,hB'⟩ := hrel
       by_cases h8 : i < 8
       · have h8' : (i : Int) < 8 := by omega
         have hi0 : (0 : Int) ≤ (i : Int) := by omega
         have hget := fun w => run_index_words w S hal i h8
         have Hsn := hide (bytesOf_snoc S i (by rw [hal]; exact h8))
         generalize S.getD i 0#32 = x at *
         have hb := V_bd x
         have hx4 := fun (w : World) => Rd.new w 5 _ (four_cellsW x) (by simp [four_len,maxLen])
         go_wp2_with (at_builtin
                      refine wpList_append8 _ rfl _ _ _ rfl w.heap.size 5 Tryz.underlying22 isByte B' (4 * i) d' _ rfl (ho.alloc _) (some ⟨wr.heap.size,0,none⟩) 4 4 (four x) rfl (hx4 _) (by omega) (by have := hB'.size; simp; omega) ?_
                      intro A6 c6 w6 ho6 hb6 _ _)
         go_roundw
         case rel => exact ⟨i + 1,A6,c6,by omega,by go_num,by rw [show 4 * (i + 1) = 4 * i + 4 by omega],by rw [Hsn.out,show 4 * (i + 1) = 4 * i + 4 by omega]; exact ho6,(hB'.alloc hB'.size _).trans hb6⟩
         case measure => simp [intOf]; omega
       · obtain rfl : i = 8 := by omega
         go_wp2_with fail
         go_ret
         exact ⟨B',d',rfl,by rw [hA.out,← List.take_of_length_le (l := S) (i := 8) (by omega)]; exact ho,hB'⟩
theorem rows_any (A : Option Addr) (n c : Nat) (ls : List (List UInt8)) (w : World) (hr : RdL w A n c ls) (hn : ls.flatten.length ≤ 1000000) :
   Calls Tryz.prog 125 #[.slice A n c] w fun e w' => ∃ A' c',e = .returned (.slice A' 32 c') ∧ Own w' w.heap.size 5 A' 32 c' (sha ls.flatten) ∧ Below w.heap.size w w' := by
 have Hl := hide hr.1
 have hcap := hr.2.1
 have hcm := hr.2.2.1
 unfold maxLen at hcm
 go_enter Tryz.func125,Tryz.ntmps125
 go_wp2_with fail
 go_loopw [3,8] (fun v i wr => ∃ (k m : Nat) (B : Option Addr) (d : Nat),k ≤ n ∧ i = .int .i64 (k : Int) ∧ v = .slice B m d ∧ Own wr w.heap.size 5 B m d (ls.take k).flatten ∧ Below w.heap.size w wr) (fun _ i _ => n - (intOf i).toNat)
 case atStart => exact ⟨0,0,none,0,Nat.zero_le _,rfl,rfl,Own.nil _ _ _,Below.refl _ _⟩
 case round =>
   obtain ⟨k,m,B,d,hk,rfl,rfl,ho,hB⟩ := hrel
   by_cases hlt : k < n
   · obtain ⟨ad,l,A',n',c',rfl,hl,hc,hrd⟩ := (hr.below hB).at_ hlt
     have hS : Hid ((ls.take (k + 1)).flatten = (ls.take k).flatten ++ l) := hide (by rw [List.take_add_one,hl]; simp)
     have hlen : ((ls.take (k + 1)).flatten).length ≤ 1000000 := by
       have h1 := congrArg List.length (List.take_append_drop (k + 1) ls)
       have h2 : ls.flatten = (ls.take (k + 1)).flatten ++ (ls.drop (k + 1)).flatten := by rw [← List.flatten_append,List.take_append_drop]
       have h3 := congrArg List.length h2
       rw [List.length_append] at h3
       omega
     have hmn : m + n' ≤ 1000000 := by
       rw [hS.out,List.length_append,ho.len,hrd.1] at hlen
       exact hlen
     have hlt' : (k : Int) < (n : Int) := by omega
     clear hl hlen
     go_wp2_with (at_builtin
                  refine wpList_append8 _ rfl _ _ _ rfl w.heap.size 5 Tryz.underlying22 isByte B m d _ rfl ho A' n' c' l rfl hrd (by omega) hB.size ?_
                  intro A6 c6 w6 ho6 hb6 _ _)
     go_roundw
     case rel => exact ⟨k + 1,m + n',A6,c6,by omega,by go_num,rfl,by rw [hS.out]; exact ho6,hB.trans hb6⟩
     case measure => simp [intOf]; omega
   · obtain rfl : k = n := by omega
     have hT : Hid ((ls.take k).flatten = ls.flatten) := hide (by rw [List.take_of_length_le (by rw [Hl.out]; exact Nat.le_refl _)])
     rw [hT.out] at ho
     go_wp2_with fail
     refine (shasum_any B m d _ _ ho.rd (by rw [← ho.len]; exact hn)).mono ?_
     rintro e w6 ⟨A6,c6,rfl,ho6,hb6⟩
     go_wp2_with fail
     go_ret
     exact ⟨A6,c6,rfl,ho6.mono hB.size,below_next hB hb6⟩
def putAt (l : List UInt8) : Nat → List UInt8 → List UInt8
 | _,[] => l
 | o,v :: r => putAt (l.set o v) (o + 1) r
theorem putAt_eq : ∀ (r l : List UInt8) (o : Nat),o + r.length ≤ l.length → putAt l o r = l.take o ++ r ++ l.drop (o + r.length) := by
 intro r
 induction r with
 | nil => intro l o h; simp [putAt]
 | cons v r ih =>
   intro l o h
   rw [List.length_cons] at h
   unfold putAt
   rw [ih _ _ (by simp; omega)]
   have h1 : (l.set o v).take (o + 1) = l.take o ++ [v] := by
     rw [List.take_add_one,List.take_set_of_le (Nat.le_refl o)]
     simp [show o < l.length by omega]
   have h2 : (l.set o v).drop (o + 1 + r.length) = l.drop (o + (r.length + 1)) := by
     rw [List.drop_set_of_lt (by omega)]
     congr 1
     omega
   rw [h1,h2]
   simp
theorem Own.puts {base : Nat} {e : TypeId} {g n c : Nat} : ∀ (r l : List UInt8) (o : Nat) (w : World),Own w base e (some ⟨g,0,none⟩) n c l → Own (w.setCells g o (bys r)) base e (some ⟨g,0,none⟩) n c (putAt l o r) := by
 intro r
 induction r with
 | nil => intro l o w h; exact h
 | cons v r ih => intro l o w h; exact ih _ _ _ (h.set o v)
theorem fr_setCells {S : Nat → Prop} {g : Nat} (hg : S g) : ∀ (vs : List Value) (o : Nat) (w0 w : World),Fr S w0 w → Fr S w0 (w.setCells g o vs) := by
 intro vs
 induction vs with
 | nil => intro o w0 w h; exact h
 | cons v r ih => intro o w0 w h; exact ih _ _ _ (h.set (p := ⟨g,o,none⟩) (fun _ => hg) v)
theorem run_copy8 {P : Program} (w : World) (base : Nat) (t ty e : TypeId) (ht : P.underlying t = some (.slice e)) (hi : IsByte P e) {g n c : Nat} {l : List UInt8} (ho : Own w base e (some ⟨g,0,none⟩) n c l)
   {X : Option Addr} {m d : Nat} {r : List UInt8} (hr : Rd w X m d r) :
   ∃ w',(Builtin.copy_ #[t,t] ty #[.slice (some ⟨g,0,none⟩) n c,.slice X m d]).run P w = .ok (goInt (Nat.min m n)) w' ∧ Own w' base e (some ⟨g,0,none⟩) n c (r.take n ++ l.drop m) ∧ Fr (· = g) w w' := by
 obtain ⟨i,hi,hz0,hz1,hz2⟩ := info_parts hi
 have hs : (P.info? e).map (·.size) = some 1 := by rw [hi]; simp [hz1]
 have hl := ho.len
 by_cases h0 : Nat.min m n = 0
 · refine ⟨w,by rw [h0]; exact run_copy_none w t t ty e _ X n c m d ht hs h0,?_,Fr.refl _ _⟩
   have : r.take n ++ l.drop m = l := by
     rcases Nat.eq_zero_or_pos n with hn | hn
     · subst hn
       have : l = [] := List.eq_nil_of_length_eq_zero hl
       simp [this]
     · have hm : m = 0 := by
         rcases Nat.eq_zero_or_pos m with h | h
         · exact h
         · have : 0 < Nat.min m n := Nat.lt_min.2 ⟨h,hn⟩
           omega
       subst hm
       have : r = [] := List.eq_nil_of_length_eq_zero hr.1
       simp [this]
   rw [this]
   exact ho
 · have hmn : 0 < Nat.min m n := by omega
   have hm : 0 < m := by have h' : Nat.min m n ≤ m := Nat.min_le_left m n; omega
   obtain ⟨ad,rfl,hc⟩ := hr.2.2.2 hm
   have hlen : (bys (r.take n)).length = Nat.min m n := by
     rw [bys_len,List.length_take,hr.1]
     exact Nat.min_comm n m
   have hmn2 : Nat.min m n ≤ n := Nat.min_le_right m n
   refine ⟨w.setCells g 0 (bys (r.take n)),?_,?_,fr_setCells (S := (· = g)) rfl _ _ _ _ (Fr.refl _ _)⟩
   · have := run_copy_cells (P := P) w t t ty e g 0 n c ad m d (bys (r.take n)) ht hs hlen (fun j v hv => by
       rw [bys_get,Option.map_eq_some_iff] at hv
       obtain ⟨x,hx,rfl⟩ := hv
       rw [List.getElem?_take] at hx
       split at hx
       · exact hc j x hx
       · cases hx) (fun j hj => by
         rw [hlen] at hj
         have hjl : j < l.length := by omega
         have := ho.cell (j := j) (x := l[j]) (List.getElem?_eq_getElem hjl)
         rw [Nat.zero_add,this]; rfl) (fun j _ => ho.frozen _) (bys_one _)
     rw [hlen] at this
     exact this
   · have := ho.puts (r.take n) l 0
     rw [putAt_eq _ _ _ (by rw [Nat.zero_add,← bys_len,hlen]; omega)] at this
     have e1 : l.drop (0 + (r.take n).length) = l.drop m := by
       rw [Nat.zero_add,← bys_len,hlen]
       rcases Nat.le_total m n with h | h
       · rw [show Nat.min m n = m from Nat.min_eq_left h]
       · rw [show Nat.min m n = n from Nat.min_eq_right h,List.drop_of_length_le (by omega),List.drop_of_length_le (by omega)]
     rw [e1] at this
     simpa using this
theorem wpList_copy8 {P : Program} (w : World) {ops : Array Oper} {rest : List Oper} {o : Oper} {a : Act} {Q : Exit → Act → World → Prop} (hgd : o.guard = none) (s x : Operand) (t : TypeId)
   (hop : o.op = .call { callee := .builtin .copy,args := #[s,x],argTypes := #[t,t] })
   (base : Nat) (e : TypeId) (ht : P.underlying t = some (.slice e)) (hi : IsByte P e)
   (g n c : Nat) (l : List UInt8) (hs : a.eval s = .slice (some ⟨g,0,none⟩) n c) (ho : Own w base e (some ⟨g,0,none⟩) n c l) (X : Option Addr) (m d : Nat) (r : List UInt8) (hx : a.eval x = .slice X m d) (hr : Rd w X m d r)
   (h : ∀ w',Own w' base e (some ⟨g,0,none⟩) n c (r.take n ++ l.drop m) → Fr (· = g) w w' → wpList P ops Q rest (a.put o.dst (goInt (Nat.min m n))) w') : wpList P ops Q (o :: rest) a w := by
 refine wpList_plain hgd fun K hK => ?_
 obtain ⟨w',hrun,h2,h3⟩ := run_copy8 (P := P) w base t o.type e ht hi ho hr
 unfold Oper.wp execOp
 simp only [hop,resolve,invoke,builtin,Sem.run_bind,Sem.run_pure,Result.andThen_ok,List.map_toArray,List.map_cons,List.map_nil,hs,hx,hrun]
 exact hK _ _ (h w' h2 h3)
theorem wpList_make8 {P : Program} (w : World) {ops : Array Oper} {rest : List Oper} {o : Oper} {a : Act} {Q : Exit → Act → World → Prop}
   (hg : o.guard = none) (l c : Operand) (t : TypeId) (hop : o.op = Op.makeSlice t l c)
   (base : Nat) (e : TypeId) (ht : P.underlying t = some (.slice e)) (hi : IsByte P e)
   (kl kc : IntKind) (L C : Int) (n : Nat) (hl : a.eval l = .int kl L) (hc : a.eval c = .int kc C) (hL : L = (n : Int)) (hC : C = (n : Int)) (hn : n ≤ 1000000) (b4 : base ≤ w.heap.size)
   (hK : ∀ w',Own w' base e (some ⟨w.heap.size,0,none⟩) n n (List.replicate n 0) → Below w.heap.size w w' → wpList P ops Q rest (a.put o.dst (.slice (some ⟨w.heap.size,0,none⟩) n n)) w') :
   wpList P ops Q (o :: rest) a w := by
 obtain ⟨i,hi,hz0,hz1,hz2⟩ := info_parts hi
 refine wpList_make_full w hg l c t hop base e i _ 1 ht hi hz0 hz1 kl kc L C n hl hc hL hC (by rw [hz2]; omega) (by simp only [maxLen]; omega) b4 fun w' h1 h2 => hK w' ?_ ((Below.refl _ _).grown h2 (Nat.le_refl _) (fun k hk => by cases hk))
 have : (madeCells (Value.int .u8 0).cells (n * 1)).toList = bys (List.replicate n 0) := by
   rw [Nat.mul_one]
   apply List.ext_getElem
   · simp [madeCells,bys_len]
   · intro j h1 h2
     have hj : j < n := by simpa [bys_len] using h2
     simp [madeCells,bys,by8,Value.cells,Nat.mod_one]
 unfold Own
 rw [← this]
 exact h1
theorem Own.empty (w : World) (base : Nat) (hb : base ≤ w.heap.size) : Own (w.alloc (.cells #[] 5)) base 5 (some ⟨w.heap.size,0,none⟩) 0 0 [] :=
 Own.lit w base 5 #[] (l := []) rfl (by simp) hb
theorem clone_any (A : Option Addr) (n c : Nat) (l : List UInt8) (w : World) (hr : Rd w A n c l) (hn : n ≤ 1000000) :
   Calls Tryz.prog 23 #[.slice A n c] w fun e w' => ∃ A' c',e = .returned (.slice A' n c') ∧ Own w' w.heap.size 5 A' n c' l ∧ Below w.heap.size w w' := by
 have he := fun (w : World) => Lib.run_eql_slice_nil (P := Tryz.prog) (w := w)
 cases A with
 | none =>
   have h0 : n = 0 := by
     rcases Nat.eq_zero_or_pos n with h | h
     · exact h
     · obtain ⟨ad,e,_⟩ := hr.2.2.2 h; cases e
   subst h0
   obtain rfl : l = [] := List.eq_nil_of_length_eq_zero hr.1
   go_enter Tryz.func23,Tryz.ntmps23
   go_wp2_with fail
   go_ret
   exact ⟨none,0,rfl,Own.nil _ _ _,Below.refl _ _⟩
 | some ad =>
   go_enter Tryz.func23,Tryz.ntmps23
   go_wp2_with (at_builtin
                refine wpList_append8 _ rfl _ _ _ rfl w.heap.size 5 Tryz.underlying22 isByte (some ⟨w.heap.size,0,none⟩) 0 0 [] rfl (Own.empty w _ (Nat.le_refl _)) (some ad) n c l rfl (hr.alloc _) (by omega) (by simp) ?_
                intro A1 c1 w1 ho1 hb1 _ _
                simp only [Nat.zero_add,List.nil_append] at ho1 ⊢)
   go_ret
   exact ⟨A1,c1,rfl,ho1,((Below.refl _ _).alloc (Nat.le_refl _) _).trans hb1⟩
def ClX (X : Array Value) (n cp : Nat) (l : List UInt8) : Prop := X.toList.take n = bys l ∧ X.size = cp ∧ n ≤ cp ∧ cp ≤ maxLen
theorem clone_lit (ad : Addr) (n c : Nat) (l : List UInt8) (w : World) (hr : Rd w (some ad) n c l) (h0 : 0 < n) (hn : n ≤ 1000000) :
   Calls Tryz.prog 23 #[.slice (some ad) n c] w fun e w' => ∃ X cp,e = .returned (.slice (some ⟨w.heap.size + 1,0,none⟩) n cp) ∧ w' = ((w.alloc (.cells #[] 5)).alloc (.cells X 5)).drew ∧ ClX X n cp l := by
 have he := fun (w : World) (n' c' : Nat) => Lib.run_eql_slice_nil (P := Tryz.prog) w 22 5 (some ad) n c n' c' Tryz.underlying22
 obtain ⟨i,hi,hz0,hz1,hz2⟩ := info_parts isByte
 have hrun := fun ty => run_append_grow (P := Tryz.prog) (w := w.alloc (.cells #[] 5)) 22 ty 5 i (.int .u8 0) Tryz.underlying22 hi hz0 ⟨w.heap.size,0,none⟩ 0 0 [] (by simp) (by intro j v hj; simp at hj) ad n c (bys l) (by rw [bys_len,hr.1,hz1,Nat.mul_one])
   (fun j v hj => by
     obtain ⟨ad',e,hc⟩ := (hr.alloc (.cells #[] 5)).2.2.2 h0
     cases e
     rw [bys_get,Option.map_eq_some_iff] at hj
     obtain ⟨x,hx,rfl⟩ := hj
     exact hc j x hx) (by omega) (by omega) (growslice_fits (by omega) (by rw [hz2]; omega))
 have hge := grownCap_ge (w.alloc (.cells #[] 5)) n 0 5
 have hle := grownCap_le_maxLen (w.alloc (.cells #[] 5)) n 0 5 (by unfold maxLen; omega)
 simp only [Nat.zero_add] at hrun
 have hX : ClX (([] : List Value).toArray ++ (bys l).toArray ++ Builtin.zeroCells (Value.int .u8 0).cells (grownCap (w.alloc (.cells #[] 5)) n 0 5 - n)) n (grownCap (w.alloc (.cells #[] 5)) n 0 5) l := by
   refine ⟨?_,?_,hge,hle⟩
   · have : (bys l).length = n := by rw [bys_len,hr.1]
     simp [← this]
   · have : (bys l).length = n := by rw [bys_len,hr.1]
     simp [size_zeroCells,Value.cells,this]
     omega
 clear hi hz0 hz1 hz2
 generalize hC : (([] : List Value).toArray ++ (bys l).toArray ++ Builtin.zeroCells (Value.int .u8 0).cells (grownCap (w.alloc (.cells #[] 5)) n 0 5 - n)) = X at *
 generalize grownCap (w.alloc (.cells #[] 5)) n 0 5 = cp at *
 clear hC hr
 go_enter Tryz.func23,Tryz.ntmps23
 go_wp2_with (at_builtin; refine Lib.wpList_append_run _ rfl _ _ _ _ rfl _ _ rfl rfl _ _ (hrun _) ?_)
 go_ret
 exact ⟨X,cp,by simp,rfl,hX⟩
theorem ClX.own {w : World} {X : Array Value} {n cp : Nat} {l : List UInt8} (h : ClX X n cp l) (hl : l.length = n) {base g : Nat} (hb : base ≤ g) (hg : w.heap[g]? = some (.cells X 5 (0,0))) : Own w base 5 (some ⟨g,0,none⟩) n cp l :=
 ⟨by rw [bys_len,hl,Nat.mul_one],.inr ⟨g,cp,X,rfl,hb,hg,h.2.2.1,h.2.2.2,by rw [h.2.1,Nat.mul_one],by rw [Nat.mul_one]; exact h.1⟩⟩
theorem equals_any (A B : Option Addr) (n c m d : Nat) (l r : List UInt8) (w : World) (hl : Rd w A n c l) (hr : Rd w B m d r) :
   Calls Tryz.prog 67 #[.slice A n c,.slice B m d] w fun e w' => e = .returned (.bool (decide (l = r))) ∧ Below w.heap.size w w' := by
 have hnM : (n : Int) ≤ 9223372036854775807 := by have := hl.2.1; have := hl.2.2.1; unfold maxLen at *; omega
 have L1 := hide hl.1
 have L2 := hide hr.1
 by_cases hnm : n = m
 · subst hnm
   have hE : Hid (∀ k,l.take k = r.take k → n ≤ k → decide (l = r) = true) := hide (by
     intro k hk hn
     rw [List.take_of_length_le (by rw [L1.out]; exact hn),List.take_of_length_le (by rw [L2.out]; exact hn)] at hk
     simpa using hk)
   go_enter Tryz.func67,Tryz.ntmps67
   go_wp2_with fail
   go_loopw [13] (fun v wr => ∃ k : Nat,k ≤ n ∧ v = .int .i64 (k : Int) ∧ Hid (l.take k = r.take k) ∧ Below w.heap.size w wr) (fun v _ => n - (intOf v).toNat)
   case atStart => exact ⟨0,Nat.zero_le _,rfl,hide rfl,Below.refl _ _⟩
   case round =>
     obtain ⟨k,hk,rfl,hT,hB⟩ := hrel
     by_cases hlt : k < n
     · obtain ⟨a1,x,rfl,hx,hc1⟩ := (hl.below hB).at_ hlt
       obtain ⟨a2,y,rfl,hy,hc2⟩ := (hr.below hB).at_ hlt
       have Hx := hide hx
       have Hy := hide hy
       clear hx hy
       have hlt' : (k : Int) < (n : Int) := by omega
       have hk0 : (0 : Int) ≤ (k : Int) := by omega
       by_cases hxy : x = y
       · subst hxy
         have hT' : Hid (l.take (k + 1) = r.take (k + 1)) := hide (by rw [List.take_add_one,List.take_add_one,hT.out,Hx.out,Hy.out])
         go_wp2_with fail
         go_quiet (fail)
         go_wp2_with fail
         go_roundw
         case rel => exact ⟨k + 1,by omega,by go_num,hT',below_drewN hB _⟩
         case measure => simp [intOf]; omega
       · have hne : ((x.toNat : Int) != (y.toNat : Int)) = true := by
           simp
           intro h
           exact hxy (UInt8.toNat_inj.1 (by omega))
         have hlr : Hid (decide (l = r) = false) := hide (by
           simp
           intro h
           subst h
           have := Hx.out
           rw [Hy.out] at this
           exact hxy (Option.some.inj this.symm))
         go_wp2_with fail
         go_quiet (fail)
         go_wp2_with fail
         go_ret
         exact ⟨by rw [hlr.out]; rfl,below_drewN hB _⟩
     · have hlr := hE.out k hT.out (by omega)
       have Hlr := hide hlr
       clear hlr hE
       obtain rfl : k = n := by omega
       go_wp2_with fail
       go_ret
       exact ⟨by rw [Hlr.out]; rfl,hB⟩
 · have hne : ((n : Int) != (m : Int)) = true := by simp; omega
   have hlr : Hid (decide (l = r) = false) := hide (by
     simp
     rintro rfl
     exact hnm (L1.out.symm.trans L2.out))
   go_enter Tryz.func67,Tryz.ntmps67
   go_wp2_with fail
   go_ret
   exact ⟨by rw [hlr.out]; rfl,Below.refl _ _⟩
theorem at_copy {P : Program} {ops : Array Oper} {Q : Exit → Act → World → Prop} {rest : List Oper} {a : Act} {w : World} {d : Option Tmp} {s : Array Operand} {ts : Array TypeId} {t : TypeId} {pos : String} {af : _} {g : Option (Nat × Bool)}
   (h : wpList P ops Q (⟨d,.call { callee := .builtin .copy,args := s,argTypes := ts },t,pos,af,g⟩ :: rest) a w) : wpList P ops Q (⟨d,.call { callee := .builtin .copy,args := s,argTypes := ts },t,pos,af,g⟩ :: rest) a w := h
def maskTo (l : List UInt8) (x : UInt8) : Nat → List UInt8
 | 0 => l
 | i + 1 => (maskTo l x i).set i (l.getD i 0 ^^^ x)
theorem maskTo_len (l : List UInt8) (x : UInt8) : ∀ i,(maskTo l x i).length = l.length := by
 intro i
 induction i with
 | zero => rfl
 | succ i ih => simp [maskTo,ih]
theorem maskTo_get (l : List UInt8) (x : UInt8) (j : Nat) (hj : j < l.length) : ∀ i,(maskTo l x i)[j]? = some (if j < i then l.getD j 0 ^^^ x else l.getD j 0) := by
 intro i
 induction i with
 | zero => simp [maskTo,hj,List.getD_eq_getElem?_getD]
 | succ i ih =>
   unfold maskTo
   rw [List.getElem?_set]
   by_cases e : i = j
   · subst e
     simp [maskTo_len,hj]
   · rw [if_neg e,ih]
     by_cases h : j < i
     · simp [h,show j < i + 1 by omega]
     · simp [h,show ¬ j < i + 1 by omega]
theorem masked_of (key : List UInt8) (x : UInt8) (hk : key.length ≤ 64) : maskTo (key.take 64 ++ (List.replicate 64 0).drop key.length) x 64 = masked key x := by
 have hl : (key.take 64 ++ (List.replicate 64 (0 : UInt8)).drop key.length).length = 64 := by simp; omega
 apply List.ext_getElem?
 intro j
 by_cases hj : j < 64
 · rw [maskTo_get _ _ _ (by rw [hl]; exact hj),if_pos hj]
   unfold masked
   rw [List.getElem?_map,List.getElem?_range hj]
   simp only [Option.map_some]
   congr 2
   rw [List.take_of_length_le hk,List.getD_eq_getElem?_getD,List.getD_eq_getElem?_getD]
   by_cases h : j < key.length
   · rw [List.getElem?_append_left h]
   · rw [List.getElem?_append_right (by omega),List.getElem?_eq_none (l := key) (by omega)]
     have hz : ∀ i : Nat,((List.replicate 64 (0 : UInt8))[i]?).getD 0 = 0 := by intro i; rw [List.getElem?_replicate]; split <;> rfl
     rw [List.getElem?_drop,show key.length + (j - key.length) = j by omega,hz j]
     rfl
 · rw [List.getElem?_eq_none (by rw [maskTo_len,hl]; omega),List.getElem?_eq_none (by rw [masked_len]; omega)]
theorem masked_any (A : Option Addr) (n c : Nat) (key : List UInt8) (x : UInt8) (w : World) (hr : Rd w A n c key) (hn : n ≤ 64) :
   Calls Tryz.prog 126 #[.slice A n c,.int .u8 x.toNat] w fun e w' => ∃ A' c',e = .returned (.slice A' 64 c') ∧ Own w' w.heap.size 5 A' 64 c' (masked key x) ∧ Below w.heap.size w w' := by
 have Hl := hide hr.1
 have hn' : (n : Int) ≤ 64 := by omega
 go_enter Tryz.func126,Tryz.ntmps126
 go_wp2_with (first
   | (at_make; refine wpList_make8 w rfl _ _ _ rfl w.heap.size 5 Tryz.underlying22 isByte _ _ _ _ 64 rfl rfl rfl rfl (by omega) (Nat.le_refl _) ?_
      intro w1 ho1 hb1)
   | ((with_reducible refine at_copy ?_); refine wpList_copy8 w1 rfl _ _ _ rfl w.heap.size 5 Tryz.underlying22 isByte w.heap.size 64 64 _ rfl ho1 A n c key rfl (hr.below hb1) ?_
      intro w2 ho2 hf2))
 have hB2 : Below w.heap.size w w2 := hb1.trans (hf2.below hb1.size (fun g hg => by omega))
 have hM : Hid (maskTo (key.take 64 ++ (List.replicate 64 0).drop n) x 64 = masked key x) := hide (by rw [← Hl.out]; exact masked_of key x (by rw [Hl.out]; exact hn))
 have hl2 := ho2.len
 generalize key.take 64 ++ (List.replicate 64 0).drop n = L at *
 clear ho1 hf2
 go_loopw [18] (fun v wr => ∃ k : Nat,k ≤ 64 ∧ v = .int .i64 (k : Int) ∧ Own wr w.heap.size 5 (some ⟨w.heap.size,0,none⟩) 64 64 (maskTo L x k) ∧ Below w.heap.size w wr) (fun v _ => 64 - (intOf v).toNat)
 case atStart => exact ⟨0,by omega,rfl,ho2,hB2⟩
 case round =>
   clear ho2 hB2
   obtain ⟨k,hk,rfl,ho,hB⟩ := hrel
   by_cases hlt : k < 64
   · have hlt' : (k : Int) < 64 := by omega
     have hg := maskTo_get L x k (by omega) k
     rw [if_neg (Nat.lt_irrefl k)] at hg
     have hc := ho.cell hg
     have hfz := ho.frozen k
     have hM1 : Hid (maskTo L x (k + 1) = (maskTo L x k).set k (L.getD k 0 ^^^ x)) := hide rfl
     have hset := ho.set k (L.getD k 0 ^^^ x)
     rw [← hM1.out] at hset
     have hx8 : bits .xor .u8 ((L.getD k 0).toNat : Int) (x.toNat : Int) = ((L.getD k 0 ^^^ x).toNat : Int) := by
       exact xor_u8 (L.getD k 0) x
     have Hset := hide hset
     clear hset hg
     generalize L.getD k 0 ^^^ x = z at *
     generalize L.getD k 0 = y at *
     go_wp2_with fail
     go_roundw
     case rel => exact ⟨k + 1,by omega,by go_num,Hset.out,hB.setCell (p := ⟨w.heap.size,k,none⟩) (Nat.le_refl _) _⟩
     case measure => simp [intOf]; omega
   · obtain rfl : k = 64 := by omega
     rw [hM.out] at ho
     go_wp2_with fail
     go_ret
     exact ⟨_,64,rfl,ho,hB⟩
theorem tag_any (A B : Option Addr) (n c m d : Nat) (key b : List UInt8) (w : World) (hk : Rd w A n c key) (hn : n ≤ 64) (hb : Rd w B m d b) (hm : m ≤ 900000) :
   Calls Tryz.prog 72 #[.slice A n c,.slice B m d] w fun e w' => ∃ A' c',e = .returned (.slice A' 32 c') ∧ Own w' w.heap.size 5 A' 32 c' (tag key b) ∧ Below w.heap.size w w' := by
 have Hb := hide hb.1
 go_enter Tryz.func72,Tryz.ntmps72
 go_wp2_with fail
 refine Calls.mono (show Calls Tryz.prog 126 #[.slice A n c,.int .u8 92] _ _ from masked_any A n c key 0x5c _ hk hn) ?_
 rintro e w1 ⟨A1,c1,rfl,ho1,hb1⟩
 go_wp2_with fail
 refine Calls.mono (show Calls Tryz.prog 126 #[.slice A n c,.int .u8 54] _ _ from masked_any A n c key 0x36 _ (hk.below hb1) hn) ?_
 rintro e w2 ⟨A2,c2,rfl,ho2,hb2⟩
 have hbb2 := below_next hb1 hb2
 have ho1' := ho1.below hb2
 go_wp2_with fail
 have hs : Below w2.heap.size w2 (w2.alloc (.cells #[.slice A2 64 c2,.slice B m d] 22)) := (Below.refl _ _).alloc (Nat.le_refl _) _
 refine (rows_any _ 2 2 [masked key 0x36,b] _ (rdl_two' (by simp [World.cell?_alloc_new]) (by simp [World.cell?_alloc_new]) (ho2.rd.below hs) ((hb.below hbb2).below hs)) (by simp [masked_len,Hb.out]; omega)).mono ?_
 rintro e w3 ⟨A3,c3,rfl,ho3,hb3⟩
 have hbb3 := below_next (below_next hbb2 hs) hb3
 have ho1'' := (ho1'.below hs).below hb3
 go_wp2_with fail
 have hs3 : Below w3.heap.size w3 (w3.alloc (.cells #[.slice A1 64 c1,.slice A3 32 c3] 22)) := (Below.refl _ _).alloc (Nat.le_refl _) _
 refine (rows_any _ 2 2 [masked key 0x5c,sha [masked key 0x36,b].flatten] _ (rdl_two' (by simp [World.cell?_alloc_new]) (by simp [World.cell?_alloc_new]) (ho1''.rd.below hs3) (ho3.rd.below hs3)) (by simp [masked_len,sha_len])).mono ?_
 rintro e w4 ⟨A4,c4,rfl,ho4,hb4⟩
 have hbb4 := below_next (below_next hbb3 hs3) hb4
 go_wp2_with fail
 go_ret
 refine ⟨A4,c4,rfl,?_,hbb4⟩
 have e1 : sha [masked key 0x5c,sha [masked key 0x36,b].flatten].flatten = tag key b := by simp [tag]
 rw [e1] at ho4
 exact ho4.mono (below_next hbb3 hs3).size
theorem tagright_any (A B C : Option Addr) (n c m d k f : Nat) (key b t : List UInt8) (w : World) (hk : Rd w A n c key) (hn : n ≤ 64) (hb : Rd w B m d b) (hm : m ≤ 900000) (ht : Rd w C k f t) :
   Calls Tryz.prog 131 #[.slice A n c,.slice B m d,.slice C k f] w fun e w' => e = .returned (.bool (decide (tag key b = t))) ∧ Below w.heap.size w w' := by
 go_enter Tryz.func131,Tryz.ntmps131
 go_wp2_with fail
 refine (tag_any A B n c m d key b _ hk hn hb hm).mono ?_
 rintro e w1 ⟨A1,c1,rfl,ho1,hb1⟩
 go_wp2_with fail
 refine (equals_any A1 C 32 c1 k f _ t _ ho1.rd (ht.below hb1)).mono ?_
 rintro e w2 ⟨rfl,hb2⟩
 go_wp2_with fail
 go_ret
 exact ⟨rfl,below_next hb1 hb2⟩
theorem grow_any (n : Nat) (w : World) (hn : n ≤ 1000000) :
   Calls Tryz.prog 172 #[.slice none 0 0,.int .i64 n] w fun e w' => ∃ A' c',e = .returned (.slice A' 0 c') ∧ Own w' w.heap.size 5 A' 0 c' [] ∧ Below w.heap.size w w' := by
 have hn' : (n : Int) ≤ 1000000 := by omega
 have d0 : decide ((n : Int) < 0) = false := by simp
 rcases Nat.eq_zero_or_pos n with h0 | h0
 · subst h0
   go_enter Tryz.func172,Tryz.ntmps172
   go_wp2_with fail
   go_ret
   exact ⟨none,0,rfl,Own.nil _ _ _,Below.refl _ _⟩
 · have h0' : (0 : Int) < (n : Int) := by omega
   have d1 : decide ((0 : Int) < (n : Int)) = true := by simp; omega
   obtain ⟨i,hi,hz0,hz1,hz2⟩ := info_parts isByte
   have hrun := fun ty => Lib.run_append_nil_zeros (P := Tryz.prog) w 22 3 ty 5 i (.int .u8 0) .i64 .i64 Tryz.underlying22 Tryz.underlying3 hi hz0 n h0 (by omega) (by omega) (by rw [hz2]; omega)
   have hge := grownCap_ge w n 0 5
   have hle := grownCap_le_maxLen w n 0 5 (by unfold maxLen; omega)
   have hown : Own (w.drew.alloc (.cells (Builtin.zeroCells (Value.int .u8 0).cells n ++ Builtin.zeroCells (Value.int .u8 0).cells (grownCap w n 0 5 - n)) 5)) w.heap.size 5 (some ⟨w.heap.size,0,none⟩) 0 (grownCap w n 0 5) [] :=
     ⟨rfl,.inr ⟨w.heap.size,_,_,rfl,Nat.le_refl _,heap_alloc_new w.drew _,Nat.zero_le _,hle,by
       simp only [Array.size_append,size_zeroCells,Value.cells]
       simp
       omega,by simp [bys]⟩⟩
   have hB : Below w.heap.size w (w.drew.alloc (.cells (Builtin.zeroCells (Value.int .u8 0).cells n ++ Builtin.zeroCells (Value.int .u8 0).cells (grownCap w n 0 5 - n)) 5)) := ((Below.refl _ _).drew).alloc (Nat.le_refl _) _
   clear hi hz0 hz1 hz2
   generalize hC : Builtin.zeroCells (Value.int .u8 0).cells n ++ Builtin.zeroCells (Value.int .u8 0).cells (grownCap w n 0 5 - n) = C at *
   generalize grownCap w n 0 5 = cp at *
   clear hC
   have hcp : (0 : Int) ≤ (cp : Int) := by omega
   go_enter Tryz.func172,Tryz.ntmps172
   go_wp2_with (at_builtin; refine Lib.wpList_append_run _ rfl _ _ _ _ rfl _ _ rfl rfl _ _ (hrun _) ?_)
   go_ret
   exact ⟨_,cp,rfl,hown,hB⟩
theorem concat_any (A : Option Addr) (n c : Nat) (ls : List (List UInt8)) (w : World) (hr : RdL w A n c ls) (hn : ls.flatten.length ≤ 1000000) :
   Calls Tryz.prog 119 #[.slice A n c] w fun e w' => ∃ A' c',e = .returned (.slice A' ls.flatten.length c') ∧ Own w' w.heap.size 5 A' ls.flatten.length c' ls.flatten ∧ Below w.heap.size w w' := by
 have Hl := hide hr.1
 have hcap := hr.2.1
 have hcm := hr.2.2.1
 unfold maxLen at hcm
 have hstep : ∀ k l,ls[k]? = some l → ((ls.take (k + 1)).flatten).length = ((ls.take k).flatten).length + l.length ∧ (ls.take (k + 1)).flatten = (ls.take k).flatten ++ l ∧ ((ls.take (k + 1)).flatten).length ≤ 1000000 := by
   intro k l hl
   have e1 : (ls.take (k + 1)).flatten = (ls.take k).flatten ++ l := by rw [List.take_add_one,hl]; simp
   have h2 : ls.flatten = (ls.take (k + 1)).flatten ++ (ls.drop (k + 1)).flatten := by rw [← List.flatten_append,List.take_append_drop]
   have h3 := congrArg List.length h2
   rw [List.length_append] at h3
   exact ⟨by rw [e1,List.length_append],e1,by omega⟩
 go_enter Tryz.func119,Tryz.ntmps119
 go_wp2_with fail
 go_loopw [3,11] (fun v i wr => ∃ k : Nat,k ≤ n ∧ i = .int .i64 (k : Int) ∧ v = .int .i64 (((ls.take k).flatten.length : Nat) : Int) ∧ w = wr) (fun _ i _ => n - (intOf i).toNat)
 case atStart => exact ⟨0,Nat.zero_le _,rfl,rfl,rfl⟩
 case round =>
   obtain ⟨k,hk,rfl,rfl,rfl⟩ := hrel
   by_cases hlt : k < n
   · obtain ⟨ad,l,A',n',c',rfl,hl,hc,hrd⟩ := hr.at_ hlt
     obtain ⟨s1,s2,s3⟩ := hstep k l hl
     have S1 := hide s1
     rw [hrd.1] at s1
     have hlt' : (k : Int) < (n : Int) := by omega
     obtain ⟨q,hq⟩ : ∃ q,(ls.take k).flatten.length = q := ⟨_,rfl⟩
     rw [hq] at s1 ⊢
     have hb : (q : Int) + (n' : Int) ≤ 1000000 := by omega
     have hb0 : decide (((q : Int) + (n' : Int)) < 0) = false := by simp; omega
     have hw : ((ls.take (k + 1)).flatten.length : Int) = (q : Int) + (n' : Int) := by omega
     have Hw := hide hw
     clear hl s1 s2 s3 hq hw hstep
     go_wp2_with fail
     go_roundw
     case rel => exact ⟨k + 1,by omega,by go_num,by rw [Hw.out],trivial⟩
     case measure => simp [intOf]; omega
   · obtain rfl : n = k := by omega
     have hT : (ls.take n).flatten = ls.flatten := by rw [List.take_of_length_le (by rw [Hl.out]; exact Nat.le_refl _)]
     rw [hT]
     obtain ⟨N,hN⟩ : ∃ N,ls.flatten.length = N := ⟨_,rfl⟩
     rw [hN] at hn ⊢
     have HN := hide hN
     clear hN hT
     go_wp2_with fail
     refine (grow_any N _ hn).mono ?_
     rintro e w1 ⟨A1,c1,rfl,ho1,hb1⟩
     go_wp2_with fail
     go_loopw [6,27] (fun v i wr => ∃ (k m : Nat) (B : Option Addr) (d : Nat),k ≤ n ∧ i = .int .i64 (k : Int) ∧ v = .slice B m d ∧ Own wr w.heap.size 5 B m d (ls.take k).flatten ∧ Below w.heap.size w wr) (fun _ i _ => n - (intOf i).toNat)
     case atStart => exact ⟨0,0,A1,c1,Nat.zero_le _,rfl,rfl,ho1,hb1⟩
     case round =>
       obtain ⟨k,m,B,d,hk,rfl,rfl,ho,hB⟩ := hrel
       by_cases hlt : k < n
       · obtain ⟨ad,l,A',n',c',rfl,hl,hc,hrd⟩ := (hr.below hB).at_ hlt
         obtain ⟨s1,s2,s3⟩ := hstep k l hl
         have hmn : m + n' ≤ 1000000 := by rw [s1,ho.len,hrd.1] at s3; exact s3
         have S2 := hide s2
         have hlt' : (k : Int) < (n : Int) := by omega
         clear hl s1 s2 s3 hstep
         go_wp2_with (at_builtin
                      refine wpList_append8 _ rfl _ _ _ rfl w.heap.size 5 Tryz.underlying22 isByte B m d _ rfl ho A' n' c' l rfl hrd (by omega) hB.size ?_
                      intro A6 c6 w6 ho6 hb6 _ _)
         go_roundw
         case rel => exact ⟨k + 1,m + n',A6,c6,by omega,by go_num,rfl,by rw [S2.out]; exact ho6,hB.trans hb6⟩
         case measure => simp [intOf]; omega
       · obtain rfl : n = k := by omega
         have hT : (ls.take n).flatten = ls.flatten := by rw [List.take_of_length_le (by rw [Hl.out]; exact Nat.le_refl _)]
         rw [hT] at ho
         have hm : m = N := by rw [← ho.len,HN.out]
         subst hm
         clear hT hstep
         go_wp2_with fail
         go_ret
         exact ⟨B,d,by rw [HN.out]; rfl,by rw [HN.out]; exact ho,hB⟩
theorem wide_any (s : BitVec 32) (w : World) :
   Calls Tryz.prog 124 #[.int .u32 (V s)] w fun e w' => ∃ A c,e = .returned (.slice A 4 c) ∧ Own w' w.heap.size 5 A 4 c (four s) ∧ Below w.heap.size w w' := by
 go_enter Tryz.func124,Tryz.ntmps124
 go_wp2
 go_ret
 exact ⟨_,_,rfl,Own.lit w w.heap.size 5 _ (four_cells s) (by rw [four_len]; decide) (Nat.le_refl _),(Below.refl _ _).alloc (Nat.le_refl _) _⟩
theorem sword_any (s : BitVec 32) (w : World) :
   Calls Tryz.prog 120 #[.int .u32 (V s)] w fun e w' => ∃ A c,e = .returned (.slice A 4 c) ∧ Own w' w.heap.size 5 A 4 c (four s) ∧ Below w.heap.size w w' := by
 go_enter Tryz.func120,Tryz.ntmps120
 go_wp2
 go_ret
 exact ⟨_,_,rfl,Own.lit w w.heap.size 5 _ (four_cells s) (by rw [four_len]; decide) (Nat.le_refl _),(Below.refl _ _).alloc (Nat.le_refl _) _⟩
theorem wword_any (s : BitVec 32) (w : World) :
   Calls Tryz.prog 181 #[.int .u32 (V s)] w fun e w' => ∃ A c,e = .returned (.slice A 4 c) ∧ Own w' w.heap.size 5 A 4 c (four s) ∧ Below w.heap.size w w' := by
 go_enter Tryz.func181,Tryz.ntmps181
 go_wp2
 go_ret
 exact ⟨_,_,rfl,Own.lit w w.heap.size 5 _ (four_cells s) (by rw [four_len]; decide) (Nat.le_refl _),(Below.refl _ _).alloc (Nat.le_refl _) _⟩
def numB (l : List UInt8) : BitVec 32 := l.foldl (fun n x => n <<< 8 ||| CrcP.bw x) 0#32
theorem numB_snoc (l : List UInt8) (k : Nat) (x : UInt8) (h : l[k]? = some x) : numB (l.take (k + 1)) = numB (l.take k) <<< 8 ||| CrcP.bw x := by
 unfold numB
 rw [List.take_add_one,h,List.foldl_append]
 rfl
theorem number_any (A : Option Addr) (n c : Nat) (l : List UInt8) (w : World) (hr : Rd w A n c l) (hn : n ≤ 1000000) :
   Calls Tryz.prog 157 #[.slice A n c] w fun e w' => e = .returned (.int .u32 (V (numB l))) ∧ w = w' := by
 have Hl := hide hr.1
 go_enter Tryz.func157,Tryz.ntmps157
 go_wp2_with fail
 go_loop [3,8] (fun v i => ∃ k : Nat,k ≤ n ∧ i = .int .i64 (k : Int) ∧ v = .int .u32 (V (numB (l.take k)))) (fun _ i => n - (intOf i).toNat)
 case atStart => exact ⟨0,Nat.zero_le _,rfl,rfl⟩
 case round =>
   obtain ⟨k,hk,rfl,rfl⟩ := hrel
   by_cases hlt : k < n
   · obtain ⟨ad,x,rfl,hx,hc⟩ := hr.at_ hlt
     have hS : Hid (numB (l.take (k + 1)) = numB (l.take k) <<< 8 ||| CrcP.bw x) := hide (numB_snoc l k x hx)
     have hlt' : (k : Int) < (n : Int) := by omega
     generalize numB (l.take k) = p at *
     clear hx
     go_wp2_with fail
     go_round
     case rel => exact ⟨k + 1,by omega,by go_num,by rw [V_pack,hS.out]⟩
     case measure => simp [intOf]; omega
   · obtain rfl : n = k := by omega
     have hT : l.take n = l := List.take_of_length_le (by rw [Hl.out]; exact Nat.le_refl _)
     rw [hT]
     go_wp2_with fail
     go_ret
     exact ⟨rfl,rfl⟩
theorem at_build {P : Program} {ops : Array Oper} {Q : Exit → Act → World → Prop} {rest : List Oper} {a : Act} {w : World} {d : Option Tmp} {ty : TypeId} {ps : Array (Nat × Operand)} {t : TypeId} {pos : String} {af : _} {g : Option (Nat × Bool)}
   (h : wpList P ops Q (⟨d,.build ty ps,t,pos,af,g⟩ :: rest) a w) : wpList P ops Q (⟨d,.build ty ps,t,pos,af,g⟩ :: rest) a w := h
theorem alloc3_new (w : World) (A B C : Obj) : (((w.alloc A).alloc B).alloc C).heap[w.heap.size + 1 + 1]? = some C := by
 have := heap_alloc_new ((w.alloc A).alloc B) C
 simpa using this
theorem alloc3_mid (w : World) (A B C : Obj) : (((w.alloc A).alloc B).alloc C).heap[w.heap.size + 1]? = some B := by
 have := heap_alloc_old ((w.alloc A).alloc B) C (show w.heap.size + 1 < ((w.alloc A).alloc B).heap.size by simp)
 rw [this]
 exact heap_alloc2_new w A B
theorem results_cell_slot {P : Program} {fn : Func} {p q : Tmp} {ty : TypeId} (h : fn.results = #[.cell p ty,.tmp q]) (tmps : Array Value) (w : World) (g : Nat) (t : TypeId) (cs : Array Value) (fr : Nat × Nat) (d : TypeDesc) (v : Value)
   (hp : tmps.getD p undef = .pointer (some ⟨g,0,none⟩)) (hq : tmps.getD q undef = v) (hg : w.heap[g]? = some (.cells cs t fr))
   (hu : P.underlying ty = some d) (hd : (match d with | .struct _ | .array _ _ => true | _ => false) = true) (hi : (P.info? ty).map (·.size) = some cs.size) :
   (results fn tmps).run P w = .ok (.tuple #[.agg cs,v]) w := by
 have hp' : tmps[p]?.getD undef = .pointer (some ⟨g,0,none⟩) := by simpa using hp
 have hq' : tmps[q]?.getD undef = v := by simpa using hq
 simp [results,h,hp',hq',asAddr,run_loadVar_row w g t ty cs fr d hg hu hd hi]
def manC (s v : BitVec 32) (L S P : Nat) (h : Value) : Array Value := #[.int .u32 (V s),.int .u32 (V v),.int .i64 L,.int .i64 S,.int .i64 P,h]
def manOk (L S P : Nat) : Bool := spOk (cnt L S) P S
def ofC (s : BitVec 32) (L S P : Nat) : Array Value := if manOk L S P then parC s (cnt L S) P S else parC 0#32 0 0 0
theorem size59 (s : BitVec 32) (K P S : Nat) : (Tryz.prog.info? 59).map (·.size) = some (parC s K P S).size := by
 have : (Tryz.prog.info? 59).map (·.size) = some 4 := by kernel_rfl
 rw [this]; rfl
theorem one59 (s : BitVec 32) (K P S : Nat) : (parC s K P S).all (·.oneCell') = true := by simp [parC,Value.oneCell']
theorem size44 (s v : BitVec 32) (L S P : Nat) (h : Value) : (Tryz.prog.info? 44).map (·.size) = some (manC s v L S P h).size := by
 have : (Tryz.prog.info? 44).map (·.size) = some 6 := by kernel_rfl
 rw [this]; rfl
theorem count_still (L S : Nat) (w : World) (hL : L ≤ 1000000) (hS : S ≤ 1000000) : Calls Tryz.prog 59 #[.int .i64 L,.int .i64 S] w fun e w'' => e = .returned (.int .i64 (cnt L S : Nat)) ∧ w'' = w :=
 (count_any L S w hL hS).mono fun _ _ ⟨h1,h2⟩ => ⟨h1,h2.symm⟩
theorem of_any (s v : BitVec 32) (L S P : Nat) (A : Option Addr) (n c : Nat) (w : World) (hL : L ≤ 1000000) (hS : S ≤ 1000000) :
   Calls Tryz.prog 22 #[.agg (manC s v L S P (.slice A n c))] w fun e w' =>
     e = .returned (.tuple #[.agg (ofC s L S P),.bool (manOk L S P)]) ∧ Below w.heap.size w w' := by
 have hbx : Below w.heap.size w (w.alloc (.cells (manC s v L S P (.slice A n c)) 44)) := (Below.refl _ _).alloc (Nat.le_refl _) _
 unfold manC at *
 go_enter Tryz.func22,Tryz.ntmps22
 go_wp2_with fail
 go_cut [4] (fun x wx => ∃ g,x = .pointer (some ⟨g,0,none⟩) ∧ Blk wx g (parC s (cnt L S) P S) 59 ∧ Blk wx (w.heap.size + 1) (parC 0#32 0 0 0) 59 ∧ g ≠ w.heap.size + 1 ∧ w.heap.size ≤ g ∧ Below w.heap.size w wx)
 case first =>
   go_region_held3 (fun w' => w'.cell? ⟨w.heap.size,0,none⟩ = some (.int .u32 (V s)) ∧ w'.cell? ⟨w.heap.size,2,none⟩ = some (.int .i64 L) ∧ w'.cell? ⟨w.heap.size,3,none⟩ = some (.int .i64 S) ∧ w'.cell? ⟨w.heap.size,4,none⟩ = some (.int .i64 P)) (go_keep)
     (first | (go_at_call 59; refine (count_still L S _ hL hS).mono ?_; rintro e w' ⟨rfl,rfl⟩))
   all_goals
     go_wp2_with fail
     go_meet
     refine ⟨w.heap.size + 1 + 1,rfl,?_,?_,by omega,by omega,?_⟩
     · exact alloc3_new w _ _ _
     · exact alloc3_mid w _ _ _
     · exact ((((Below.refl _ _).alloc (Nat.le_refl _) _).alloc (by simp) _).alloc (by simp; omega) _).drew
 case rest =>
   obtain ⟨g,rfl,hb,hz,hne,hg,hB⟩ := hcut
   have hsz := size59 s (cnt L S) P S
   have hsz0 := size59 0#32 0 0 0
   have hone := one59 s (cnt L S) P S
   have hone0 := one59 0#32 0 0 0
   have hok : Hid (manOk L S P = spOk (cnt L S) P S ∧ ofC s L S P = if spOk (cnt L S) P S then parC s (cnt L S) P S else parC 0#32 0 0 0) := hide ⟨rfl,rfl⟩
   go_wp2_with (first
     | ((with_reducible refine at_load ?_); refine wpList_load_row rfl 59 (.tmp 4) rfl g rfl 59 (parC s (cnt L S) P S) (0,0) _ hb Tryz.underlying59 rfl hsz ?_))
   refine (spmay_any s (cnt L S) P S _).mono ?_
   rintro e w1 ⟨rfl,hb1⟩
   have hbb := hb.below hb1
   have hzz := hz.below hb1
   have hB1 := below_next hB hb1
   rcases Bool.eq_false_or_eq_true (spOk (cnt L S) P S) with hsp | hsp
   · have Hsp := hide hsp
     rw [hsp]
     clear hsp
     go_wp2_with (first
       | ((with_reducible refine at_load ?_); refine wpList_load_row rfl 59 (.tmp 4) rfl g rfl 59 (parC s (cnt L S) P S) (0,0) _ hbb Tryz.underlying59 rfl hsz ?_)
       | ((with_reducible refine at_store ?_); refine wpList_store_row rfl 59 (.tmp 2) (.tmp 21) rfl (w.heap.size + 1) (parC s (cnt L S) P S) rfl rfl 59 (parC 0#32 0 0 0) hzz hsz rfl hone ?_))
     refine bodyPost_ret (results_cell_slot Tryz.results22 _ _ (w.heap.size + 1) 59 (parC s (cnt L S) P S) (0,0) _ _ rfl rfl (setRow_heap _ _ _ _ _ _ hzz) Tryz.underlying59 rfl hsz) rfl ?_
     exact ⟨by rw [hok.out.1,hok.out.2,Hsp.out]; rfl,below_setRow hB1 (by omega) _⟩
   · have Hsp := hide hsp
     rw [hsp]
     clear hsp
     go_wp2_with (first
       | ((with_reducible refine at_build ?_); refine wpList_build_as rfl 59 #[] rfl (parC 0#32 0 0 0) (by kernel_rfl) ?_)
       | ((with_reducible refine at_store ?_); refine wpList_store_row rfl 59 (.tmp 2) (.tmp 20) rfl (w.heap.size + 1) (parC 0#32 0 0 0) rfl rfl 59 (parC 0#32 0 0 0) hzz hsz0 rfl hone0 ?_))
     refine bodyPost_ret (results_cell_slot Tryz.results22 _ _ (w.heap.size + 1) 59 (parC 0#32 0 0 0) (0,0) _ _ rfl rfl (setRow_heap _ _ _ _ _ _ hzz) Tryz.underlying59 rfl hsz0) rfl ?_
     exact ⟨by rw [hok.out.1,hok.out.2,Hsp.out]; rfl,below_setRow hB1 (by omega) _⟩
end Go.Proofs.YtkkcpblfheplaaaGreatDoor
