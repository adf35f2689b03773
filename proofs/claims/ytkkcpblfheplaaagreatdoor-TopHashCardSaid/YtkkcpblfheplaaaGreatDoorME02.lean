/- Contracts of functions that the laws of downpourtop reach, and plain facts; no condition beyond what each theorem states. -/
import Derived.Test.YtkkcpblfheplaaaGreatDoorMD04
set_option maxRecDepth 100000
set_option maxHeartbeats 8000000
set_option linter.all false
namespace Go.Proofs.YtkkcpblfheplaaaGreatDoor
open Go.RowKit
theorem RdL.hi {w : World} {A : Option Addr} {n c : Nat} {ls : List (List UInt8)} (h : RdL w A n c ls) {k : Nat} (hk : k ≤ n) : RdL w A k c (ls.take k) :=
 ⟨by rw [List.length_take,h.1]; omega,by have := h.2.1; omega,h.2.2.1,fun hn => by
   obtain ⟨ad,e,hc⟩ := h.2.2.2 (by omega)
   exact ⟨ad,e,fun j x hx => hc j x (by rw [List.getElem?_take] at hx; split at hx <;> simp_all)⟩⟩
theorem join_block (A : Option Addr) (n c L : Nat) (ls : List (List UInt8)) (w : World) (hr : RdL w A n c ls) (h1 : 1 ≤ L) (h2 : L ≤ 512) (hL : L ≤ ls.flatten.length) (hsm : ∀ l,l ∈ ls → l.length ≤ 1000) :
   Calls Tryz.prog 219 #[.slice A n c,.int .i64 L] w fun e w' => ∃ A' c',e = .returned (.slice A' L c') ∧ Own w' w.heap.size 5 A' L c' (ls.flatten.take L) ∧ Below w.heap.size w w' := by
 have Hl := hide hr.1
 have hcap := hr.2.1
 have hcm := hr.2.2.1
 unfold maxLen at hcm
 have hLi : (L : Int) ≤ 512 := by omega
 have hL1 : (1 : Int) ≤ (L : Int) := by omega
 have d1 : decide ((L : Int) < 1) = false := by simp; omega
 have d2 : decide (512 < (L : Int)) = false := by simp; omega
 have dL : decide ((L : Int) < (L : Int)) = false := by simp
 have hstep : ∀ k l,ls[k]? = some l → (ls.take (k + 1)).flatten.take L = (ls.take k).flatten.take L ++ l.take (L - ((ls.take k).flatten.take L).length) := by
   intro k l hl
   rw [List.take_add_one,hl,Option.toList_some,List.flatten_append,List.flatten_singleton,List.take_append]
   congr 2
   rw [List.length_take]
   omega
 have hmem : ∀ (k : Nat) l,ls[k]? = some l → l.length ≤ 1000 := fun k l h => hsm l (List.mem_of_getElem? h)
 have Hst := hide hstep
 have Hmem := hide hmem
 have HL := hide hL
 clear hstep hmem hsm hL
 go_enter Tryz.func219,Tryz.ntmps219
 go_wp2_with fail
 go_loopw [5,16] (fun v i wr => ∃ (k m : Nat) (B : Option Addr) (d : Nat),k ≤ n ∧ i = .int .i64 (k : Int) ∧ v = .slice B m d ∧ m ≤ L ∧ Own wr w.heap.size 5 B m d ((ls.take k).flatten.take L) ∧ Below w.heap.size w wr) (fun _ i _ => n - (intOf i).toNat)
 case atStart => exact ⟨0,0,none,0,Nat.zero_le _,rfl,rfl,by omega,by simpa using Own.nil _ _ _,Below.refl _ _⟩
 case round =>
   obtain ⟨k,m,B,d,hk,rfl,rfl,hmL,ho,hB⟩ := hrel
   by_cases hlt : k < n
   · obtain ⟨ad,l,A',n',c',rfl,hl,hc,hrd⟩ := (hr.below hB).at_ hlt
     have hst := Hst.out k l hl
     have hl1 := Hmem.out k l hl
     have hom := ho.len
     rw [hom] at hst
     obtain ⟨mm,hmm⟩ : ∃ mm,min n' (L - m) = mm := ⟨_,rfl⟩
     have hmin : min (n' : Int) ((L : Int) - (m : Int)) = (mm : Int) := by omega
     have hmn : mm ≤ n' := by omega
     have hmn' : (mm : Int) ≤ (n' : Int) := by omega
     have hcn := hrd.2.1
     have hmc : (mm : Int) ≤ (c' : Int) := by omega
     have hm0 : (0 : Int) ≤ (mm : Int) := by omega
     have hmi : (m : Int) ≤ (L : Int) := by omega
     have hn1 : (n' : Int) ≤ 1000 := by have := hrd.1; omega
     have hrm := hrd.hi hmn
     have htk : l.take mm = l.take (L - m) := by
       have := hrd.1
       rw [List.take_eq_take_iff]
       omega
     have S2 := hide hst
     have S3 := hide htk
     have hlt' : (k : Int) < (n : Int) := by omega
     have hml : m + mm ≤ L := by omega
     clear hl hst htk hmm hom
     rcases Int.lt_trichotomy (n' : Int) ((L : Int) - (m : Int)) with h3 | h3 | h3
     · obtain rfl : mm = n' := by omega
       have q1 : decide ((mm : Int) < (L : Int) - (m : Int)) = true := by simp; omega
       have q2 : decide ((mm : Int) ≤ (L : Int) - (m : Int)) = true := by simp; omega
       have q3 : decide ((L : Int) - (m : Int) < (mm : Int)) = false := by simp; omega
       have q4 : decide ((L : Int) - (m : Int) ≤ (mm : Int)) = false := by simp; omega
       clear h3 hmin
       go_wp2_with (at_builtin
                    refine wpList_append8 _ rfl _ _ _ rfl w.heap.size 5 Tryz.underlying22 isByte B m d _ rfl ho A' mm c' (l.take mm) rfl hrm (by omega) hB.size ?_
                    intro A6 c6 w6 ho6 hb6 _ _)
       go_roundw
       case rel => exact ⟨k + 1,m + mm,A6,c6,by omega,by go_num,rfl,hml,by rw [S2.out,← S3.out]; exact ho6,hB.trans hb6⟩
       case measure => simp [intOf]; omega
     · obtain rfl : mm = n' := by omega
       have q1 : (L : Int) - (m : Int) = (mm : Int) := by omega
       clear h3 hmin
       go_wp2_with (at_builtin
                    refine wpList_append8 _ rfl _ _ _ rfl w.heap.size 5 Tryz.underlying22 isByte B m d _ rfl ho A' mm c' (l.take mm) rfl hrm (by omega) hB.size ?_
                    intro A6 c6 w6 ho6 hb6 _ _)
       go_roundw
       case rel => exact ⟨k + 1,m + mm,A6,c6,by omega,by go_num,rfl,hml,by rw [S2.out,← S3.out]; exact ho6,hB.trans hb6⟩
       case measure => simp [intOf]; omega
     · have q1 : (L : Int) - (m : Int) = (mm : Int) := by omega
       have q6 : mm < n' := by omega
       have q2 : decide ((mm : Int) < (n' : Int)) = true := by simp; omega
       have q3 : decide ((n' : Int) < (mm : Int)) = false := by simp; omega
       have q4 : decide ((mm : Int) ≤ (n' : Int)) = true := by simp; omega
       have q5 : decide ((n' : Int) ≤ (mm : Int)) = false := by simp; omega
       clear h3 hmin
       go_wp2_with (at_builtin
                    refine wpList_append8 _ rfl _ _ _ rfl w.heap.size 5 Tryz.underlying22 isByte B m d _ rfl ho A' mm c' (l.take mm) rfl hrm (by omega) hB.size ?_
                    intro A6 c6 w6 ho6 hb6 _ _)
       go_roundw
       case rel => exact ⟨k + 1,m + mm,A6,c6,by omega,by go_num,rfl,hml,by rw [S2.out,← S3.out]; exact ho6,hB.trans hb6⟩
       case measure => simp [intOf]; omega
   · obtain rfl : n = k := by omega
     have hT : (ls.take n).flatten = ls.flatten := by rw [List.take_of_length_le (by rw [Hl.out]; exact Nat.le_refl _)]
     rw [hT] at ho
     have hm : m = L := by rw [← ho.len,List.length_take]; have := HL.out; omega
     subst hm
     clear hT
     go_wp2_with fail
     go_ret
     exact ⟨B,d,rfl,ho,hB⟩
end Go.Proofs.YtkkcpblfheplaaaGreatDoor
