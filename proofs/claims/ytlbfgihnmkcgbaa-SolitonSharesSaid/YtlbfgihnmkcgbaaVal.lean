/- Words for a row of numbers of the call's own, and for the soliton table's block. -/
import Derived.Test.YtlbfgihnmkcgbaaNew
import Derived.Maps.AppendAt
import Derived.Deep.AppendLies
import Derived.Deep.Draws
import Derived.OneCell
namespace Go.Proofs.Ytlbfgihnmkcgbaa
open Go.RowKit

theorem below_next {w a b : World} (h : Below w.heap.size w a) (k : Below a.heap.size a b) : Below w.heap.size w b := h.trans (k.mono h.size)
theorem addAt (g j : Nat) : (⟨g, 0, none⟩ : Addr).add j = ⟨g, j, none⟩ := by unfold Addr.add; split <;> simp_all

/-- the values of a row of numbers -/
def vals (k : IntKind) (f : Nat → Nat) (n : Nat) : List Value := (List.range n).map fun i => Value.int k (f i : Nat)
theorem vals_len (k : IntKind) (f : Nat → Nat) (n : Nat) : (vals k f n).length = n := by simp [vals]
theorem vals_succ (k : IntKind) (f : Nat → Nat) (n : Nat) : vals k f (n + 1) = vals k f n ++ [Value.int k (f n : Nat)] := by simp [vals, List.range_succ]
theorem vals_get (k : IntKind) (f : Nat → Nat) (n i : Nat) (h : i < n) : (vals k f n)[i]? = some (Value.int k (f i : Nat)) := by simp [vals, h]

/-- the slice value '.slice A n c' is of the call's own making (blocks from 'base' on) and holds f 0, f 1, .. -/
def OwnF (k : IntKind) (e : TypeId) (w : World) (base : Nat) (A : Option Addr) (n c : Nat) (f : Nat → Nat) : Prop := w.ownsRow base e 1 (.slice A n c) n (vals k f n)
section
variable {k : IntKind} {e : TypeId} {w w' : World} {base n c : Nat} {A : Option Addr} {f : Nat → Nat}
theorem OwnF.nil (k : IntKind) (e : TypeId) (w : World) (base : Nat) (f : Nat → Nat) : OwnF k e w base none 0 0 f := World.ownsRow_nil w base e 1
theorem OwnF.cap (h : OwnF k e w base A n c f) : n ≤ c ∧ c ≤ maxLen := by
  rcases h.2 with ⟨hv, h0⟩ | ⟨g, cap, cur, hv, _, _, hnc, hcm, _⟩
  · simp only [Value.slice.injEq] at hv
    exact ⟨by omega, by rw [hv.2.2]; exact Nat.zero_le _⟩
  · simp only [Value.slice.injEq] at hv
    exact ⟨by omega, by rw [hv.2.2]; exact hcm⟩
theorem OwnF.at_ (h : OwnF k e w base A n c f) {i : Nat} (hi : i < n) : ∃ g, A = some ⟨g, 0, none⟩ ∧ base ≤ g ∧ g < w.heap.size ∧ w.cell? ⟨g, i, none⟩ = some (.int k (f i : Nat)) := by
  obtain ⟨g, cap, hv, h1, h2⟩ := h.form (by omega)
  simp only [Value.slice.injEq, true_and] at hv
  obtain ⟨rfl, rfl⟩ := hv
  have := World.ownsRow.cells h (g := g) rfl i _ (vals_get k f n i hi)
  rw [addAt] at this
  exact ⟨g, rfl, h1, h2, this⟩
theorem OwnF.grown {row : Option Nat} (h : OwnF k e w base A n c f) (hb : w.grownBy w' row) (hg : ∀ g, A = some ⟨g, 0, none⟩ → some g ≠ row) : OwnF k e w' base A n c f := by
  refine ⟨h.1, ?_⟩
  rcases h.2 with h2 | ⟨g, cap, cur, hv, hbg, hgg, r⟩
  · exact .inl h2
  · have hv' := hv
    simp only [Value.slice.injEq] at hv
    exact .inr ⟨g, cap, cur, hv', hbg, (hb.block g (Array.getElem?_eq_some_iff.1 hgg).1 (hg g hv.1)).trans hgg, r⟩
theorem OwnF.below (h : OwnF k e w base A n c f) (hb : Below w.heap.size w w') : OwnF k e w' base A n c f := by
  refine ⟨h.1, ?_⟩
  rcases h.2 with h2 | ⟨g, cap, cur, hv, hbg, hgg, r⟩
  · exact .inl h2
  · exact .inr ⟨g, cap, cur, hv, hbg, (hb.block g (Array.getElem?_eq_some_iff.1 hgg).1).trans hgg, r⟩
theorem OwnF.mono {base' : Nat} (h : OwnF k e w base A n c f) (hb : base' ≤ base) : OwnF k e w base' A n c f := by
  refine ⟨h.1, ?_⟩
  rcases h.2 with h2 | ⟨g, cap, cur, hv, hbg, r⟩
  · exact .inl h2
  · exact .inr ⟨g, cap, cur, hv, by omega, r⟩
/-- a block of another type lies apart -/
theorem OwnF.apart {g : Nat} {cs : Array Value} {t : TypeId} {fr : Nat × Nat} (h : OwnF k e w base A n c f) (hg : w.heap[g]? = some (.cells cs t fr)) (hne : e ≠ t) : A.map (·.block) ≠ some g := by
  rcases h.2 with ⟨hv, h0⟩ | ⟨g2, cap, cur, hv, _, hgg, _⟩
  · simp only [Value.slice.injEq] at hv
    rw [hv.1]
    intro h; cases h
  · simp only [Value.slice.injEq] at hv
    rw [hv.1]
    intro h
    simp at h
    subst h
    rw [hgg] at hg
    simp only [Option.some.injEq, Obj.cells.injEq] at hg
    exact hne hg.2.1
theorem OwnF.set {g : Nat} {cs : Array Value} {t : TypeId} {fr : Nat × Nat} (h : OwnF k e w base A n c f) (hg : w.heap[g]? = some (.cells cs t fr)) (hne : e ≠ t) (j : Nat) (u : Value) : OwnF k e (w.setCell ⟨g, j, none⟩ u) base A n c f :=
  ownsRow_setCell_other h (a := ⟨g, j, none⟩) (fun hE => h.apart hg hne (by cases A with
    | none => simp [Value.ownBlock] at hE
    | some a => simpa [Value.ownBlock] using hE)) u
end

/-- a kind's row of the table of types -/
def IsNum (P : Program) (k : IntKind) (e bytes : Nat) : Prop := (P.info? e).map (fun i => (i.zero, i.size, i.bytes)) = some (some (.int k 0), 1, bytes)
theorem num_parts {P : Program} {k : IntKind} {e bytes : Nat} (h : IsNum P k e bytes) : ∃ i, P.info? e = some i ∧ i.zero = some (.int k 0) ∧ i.size = 1 ∧ i.bytes = bytes := by
  unfold IsNum at h
  cases hi : P.info? e with
  | none => rw [hi] at h; cases h
  | some i =>
    rw [hi] at h
    simp only [Option.map_some, Option.some.injEq, Prod.mk.injEq] at h
    exact ⟨i, rfl, h.1, h.2.1, h.2.2⟩

/-- append of one number to a row of the call's own -/
theorem wpList_appendF {P : Program} (w : World) {ops : Array Oper} {rest : List Oper} {o : Oper} {a : Act} {Q : Exit → Act → World → Prop} (hgd : o.guard = none) (s x : Operand) (t : TypeId)
    (hop : o.op = .call { callee := .builtin .append, args := #[s, x], argTypes := #[t, t] })
    (base : Nat) (k : IntKind) (e bytes : Nat) (ht : P.underlying t = some (.slice e)) (hi : IsNum P k e bytes) (hby : bytes ≤ 8)
    (A : Option Addr) (n c : Nat) (f : Nat → Nat) (hs : a.eval s = .slice A n c) (ho : OwnF k e w base A n c f)
    (X : Addr) (d : Nat) (v : Nat) (hv : f n = v) (hx : a.eval x = .slice (some X) 1 d) (hc : w.cell? X = some (.int k (v : Nat)))
    (hsz : n ≤ 1000000) (hbase : base ≤ w.heap.size)
    (h : ∀ A' c' w', OwnF k e w' base A' (n + 1) c' f → Below base w w' → w.grownBy w' (A.map (·.block)) → wpList P ops Q rest (a.put o.dst (.slice A' (n + 1) c')) w') : wpList P ops Q (o :: rest) a w := by
  refine wpList_plain hgd fun K hK => ?_
  obtain ⟨i, hi, hz0, hz1, hz2⟩ := num_parts hi
  subst hv
  obtain ⟨v', w', hrun, k1, k2, _, k4⟩ := run_append_own_at (P := P) w base t o.type e i _ 1 bytes ht hi hz0 hz1 hz2 rfl (by omega) _ n _ ho X 1 d [.int k (f n : Nat)] rfl
    (fun j u hj => by
      match j, hj with
      | 0, hj => simp at hj; subst hj; exact hc)
    (by simp [Value.oneCell']) (by simp only [maxLen]; omega) (by have := Nat.mul_le_mul (show n + 1 ≤ 1000001 by omega) hby; omega) hbase
  have hown := k1
  obtain ⟨g, cap, rfl, _, _⟩ := k1.form (by omega)
  have eb : Value.ownBlock (.slice A n c) = A.map (·.block) := by cases A <;> rfl
  rw [eb] at k2 k4
  unfold Oper.wp execOp
  simp only [hop, resolve, invoke, builtin, Sem.run_bind, Sem.run_pure, Result.andThen_ok, List.map_toArray, List.map_cons, List.map_nil, hs, hx, hrun]
  refine hK _ _ (h _ cap w' (by unfold OwnF; rw [vals_succ]; exact hown) ((Below.refl _ _).grown k2 hbase (fun q hq => ?_)) k2)
  exact (World.ownsRow.lt ho q (by rw [eb]; exact hq)).1

/-- the table's block -/
def tabCells (n dn st : Int) (v : Value) : Array Value := #[.int .i64 n, .int .u32 dn, .int .i32 st, .int .u32 0, v]
def Tab (w : World) (g : Nat) (n dn st : Int) (v : Value) : Prop := w.heap[g]? = some (.cells (tabCells n dn st v) 49 (0, 0))
section
variable {w w' : World} {g : Nat} {n dn st : Int} {v : Value}
theorem Tab.lt (h : Tab w g n dn st v) : g < w.heap.size := lt_of_block h
theorem Tab.cells (h : Tab w g n dn st v) : w.cell? ⟨g, 0, none⟩ = some (.int .i64 n) ∧ w.cell? ⟨g, 1, none⟩ = some (.int .u32 dn) ∧ w.cell? ⟨g, 2, none⟩ = some (.int .i32 st) ∧ w.cell? ⟨g, 4, none⟩ = some v :=
  ⟨by rw [cell_of_row w g 0 _ _ _ h]; rfl, by rw [cell_of_row w g 1 _ _ _ h]; rfl, by rw [cell_of_row w g 2 _ _ _ h]; rfl, by rw [cell_of_row w g 4 _ _ _ h]; rfl⟩
theorem Tab.free (h : Tab w g n dn st v) (j : Nat) : w.frozen? ⟨g, j, none⟩ = false := by
  unfold Tab at h
  simp [World.frozen?, h]
theorem Tab.below (h : Tab w g n dn st v) (hb : Below w.heap.size w w') : Tab w' g n dn st v := (hb.block g h.lt).trans h
theorem Tab.grown {row : Option Nat} (h : Tab w g n dn st v) (hb : w.grownBy w' row) (hr : row ≠ some g) : Tab w' g n dn st v := (hb.block g h.lt (fun e => hr e.symm)).trans h
theorem Tab.new (w : World) (n : Int) : Tab (w.alloc (.cells (tabCells n 0 0 (.slice none 0 0)) 49)) w.heap.size n 0 0 (.slice none 0 0) := heap_alloc_new w _
theorem tab_set (w : World) (g j : Nat) (u : Value) (cs : Array Value) (h : w.heap[g]? = some (.cells cs 49 (0, 0))) : (w.setCell ⟨g, j, none⟩ u).heap[g]? = some (.cells (cs.setIfInBounds j u) 49 (0, 0)) := by
  have hlt := lt_of_block h
  have h' : w.heap[g] = .cells cs 49 (0, 0) := by simpa [Array.getElem?_eq_getElem hlt] using h
  show (w.heap.modify g _)[g]? = _
  rw [Array.getElem?_eq_getElem (by simpa using hlt), Array.getElem_modify_self, h']
  rfl
theorem Tab.set1 (h : Tab w g n dn st v) (x : Int) : Tab (w.setCell ⟨g, 1, none⟩ (.int .u32 x)) g n x st v := tab_set w g 1 _ _ h
theorem Tab.set2 (h : Tab w g n dn st v) (x : Int) : Tab (w.setCell ⟨g, 2, none⟩ (.int .i32 x)) g n dn x v := tab_set w g 2 _ _ h
theorem Tab.set4 (h : Tab w g n dn st v) (u : Value) : Tab (w.setCell ⟨g, 4, none⟩ u) g n dn st u := tab_set w g 4 _ _ h
end
theorem isU32 : IsNum Try.prog .u32 22 4 := by unfold IsNum; kernel_rfl
theorem isU64 : IsNum Try.prog .u64 30 8 := by unfold IsNum; kernel_rfl
end Go.Proofs.Ytlbfgihnmkcgbaa
