/- Contracts of functions that the laws of downpourtop reach, and plain facts; no condition beyond what each theorem states. -/
import Derived.Test.YtkkcpblfheplaaaGreatDoorME01
import Derived.Lib.LaidTab
import Derived.MakeChecks
import Derived.Lay
import Derived.Handed
set_option maxRecDepth 100000
set_option maxHeartbeats 8000000
set_option linter.all false
namespace Go.Proofs.YtkkcpblfheplaaaGreatDoor
open Go.RowKit
def laidT : List (String × DataW Unit) := [("math/bits.deBruijn64tab",Rows.laid_math_bits_deBruijn64tab)]
theorem laid_plain (W : World) : laidMetH Tryz.prog laidT W = laidMet Tryz.prog laidT W := MakeChecks.laidMetH_plain _ _ _ (by kernel_rfl)
theorem tab_of_laid {W : World} (h : laidMetH Tryz.prog laidT W) : Tab64 W := by
 rw [laid_plain] at h
 have hg : Tryz.prog.globalNamed "math/bits.deBruijn64tab" = some 1 := by kernel_rfl
 obtain ⟨t,hty,hct,e,ht,he⟩ : ∃ t,(Tryz.prog.globals[1]?).map (·.type) = some t ∧ Tryz.prog.cellsOf t = 64 ∧ ∃ e,Tryz.prog.underlying t = some (.array 64 e) ∧ e = 5 :=
   ⟨((Tryz.prog.globals[1]?).map (·.type)).getD 0,by kernel_rfl,by kernel_rfl,5,by kernel_rfl,rfl⟩
 subst he
 have hl : laidT = [("math/bits.deBruijn64tab",Lib.tabData .u8 (List.map (fun n : Nat => (n : Int)) Lib.deBruijn64tab))] := by kernel_rfl
 rw [hl] at h
 have hT := Lib.tabIs_of_head hg hty ht Tryz.underlying5 (by kernel_rfl) hct h
 intro j hj
 have h1 := hT.cell hg j (by rw [List.length_map]; exact hj)
 rw [h1]
 rw [List.getD_eq_getElem?_getD,List.getElem?_map,List.getD_eq_getElem?_getD]
 generalize Lib.deBruijn64tab[j]? = o
 cases o <;> rfl
end Go.Proofs.YtkkcpblfheplaaaGreatDoor
