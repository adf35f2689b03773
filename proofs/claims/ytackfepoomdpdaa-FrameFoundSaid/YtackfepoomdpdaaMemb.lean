/- More words for memory: a literal's row, slices of slices of bytes. No program in sight. -/
import Derived.Test.YtackfepoomdpdaaMem
namespace Go.Proofs.Ytackfepoomdpdaa
open Go.RowKit

theorem Own.lit (w : World) (base : Nat) (e : TypeId) (cs : Array Value) {l : List UInt8} (h : cs.toList = bys l) (hl : l.length ≤ maxLen) (hb : base ≤ w.heap.size) :
    Own (w.alloc (.cells cs e)) base e (some ⟨w.heap.size, 0, none⟩) l.length l.length l := by
  have hs : cs.size = l.length * 1 := by rw [← Array.length_toList, h, bys_len, Nat.mul_one]
  have := World.ownsRow_lit (base := base) (e := e) (size := 1) w cs l.length hb hl hs
  rw [h] at this
  exact this
/-- a slice of slices of bytes reads as lists -/
def RdL (w : World) (A : Option Addr) (n c : Nat) (ls : List (List UInt8)) : Prop :=
  ls.length = n ∧ n ≤ c ∧ c ≤ maxLen ∧ (0 < n → ∃ ad, A = some ad ∧ ∀ j l, ls[j]? = some l → ∃ A' n' c', w.cell? (ad.add j) = some (.slice A' n' c') ∧ Rd w A' n' c' l)
theorem RdL.at_ {w : World} {A : Option Addr} {n c : Nat} {ls : List (List UInt8)} (h : RdL w A n c ls) {k : Nat} (hk : k < n) :
    ∃ ad l A' n' c', A = some ad ∧ ls[k]? = some l ∧ w.cell? (ad.add k) = some (.slice A' n' c') ∧ Rd w A' n' c' l := by
  obtain ⟨h1, _, _, h3⟩ := h
  obtain ⟨ad, e, hc⟩ := h3 (by omega)
  have hl : k < ls.length := by omega
  obtain ⟨A', n', c', hq, hr⟩ := hc k _ (List.getElem?_eq_getElem hl)
  exact ⟨ad, ls[k], A', n', c', e, List.getElem?_eq_getElem hl, hq, hr⟩
theorem RdL.below {w w' : World} {A : Option Addr} {n c : Nat} {ls : List (List UInt8)} (h : RdL w A n c ls) (hb : Below w.heap.size w w') : RdL w' A n c ls :=
  ⟨h.1, h.2.1, h.2.2.1, fun hn => by
    obtain ⟨ad, e, hc⟩ := h.2.2.2 hn
    refine ⟨ad, e, fun j l hj => ?_⟩
    obtain ⟨A', n', c', hq, hr⟩ := hc j l hj
    exact ⟨A', n', c', (hb.cell (World.block_lt_of_cell? w _ hq)).trans hq, hr.below hb⟩⟩
theorem RdL.new (w : World) (e : TypeId) (cs : Array Value) (ls : List (List UInt8)) (hl : ls.length ≤ maxLen)
    (h : ∀ (j : Nat) (l : List UInt8), ls[j]? = some l → ∃ A' n' c', cs[j]? = some (Value.slice A' n' c') ∧ Rd w A' n' c' l) :
    RdL (w.alloc (.cells cs e)) (some ⟨w.heap.size, 0, none⟩) ls.length ls.length ls :=
  ⟨rfl, Nat.le_refl _, hl, fun _ => ⟨_, rfl, fun j l hj => by
    obtain ⟨A', n', c', hq, hr⟩ := h j l hj
    refine ⟨A', n', c', ?_, hr.alloc _⟩
    rw [addAt, cell_of_row (w.alloc (.cells cs e)) w.heap.size j cs e (0, 0) (heap_alloc_new w _)]
    exact hq⟩⟩

end Go.Proofs.Ytackfepoomdpdaa
