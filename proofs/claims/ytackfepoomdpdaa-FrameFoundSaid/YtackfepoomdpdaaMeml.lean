/- Words for a slice of slices of bytes that the call itself makes, and what append does to it. No program in sight. -/
import Derived.Test.YtackfepoomdpdaaMemb
namespace Go.Proofs.Ytackfepoomdpdaa
open Go.RowKit

theorem ownsRow_keep {w w' : World} {base : Nat} {e : TypeId} {size : Nat} {A : Option Addr} {n c m : Nat} {xs : List Value} {B : Nat} (h : w.ownsRow base e size (.slice A n c) m xs) (hb : Below B w w')
    (hg : ∀ g, A = some ⟨g, 0, none⟩ → g < B) : w'.ownsRow base e size (.slice A n c) m xs := by
  refine ⟨h.1, ?_⟩
  rcases h.2 with h2 | ⟨g, cap, cur, hv, hbg, hgg, r⟩
  · exact .inl h2
  · have hv' := hv
    simp only [Value.slice.injEq] at hv
    exact .inr ⟨g, cap, cur, hv', hbg, (hb.block g (hg g hv.1)).trans hgg, r⟩
theorem ownsRow_lt {w : World} {base : Nat} {e : TypeId} {size : Nat} {A : Option Addr} {n c m : Nat} {xs : List Value} (h : w.ownsRow base e size (.slice A n c) m xs) : ∀ g, A = some ⟨g, 0, none⟩ → g < w.heap.size := by
  intro g hg
  subst hg
  exact (World.ownsRow.lt h g rfl).2
theorem ownsRow_grown {w w' : World} {base : Nat} {e : TypeId} {size : Nat} {A : Option Addr} {n c m : Nat} {xs : List Value} {row : Option Nat} (h : w.ownsRow base e size (.slice A n c) m xs) (hb : w.grownBy w' row)
    (hg : ∀ g, A = some ⟨g, 0, none⟩ → some g ≠ row) : w'.ownsRow base e size (.slice A n c) m xs := by
  refine ⟨h.1, ?_⟩
  rcases h.2 with h2 | ⟨g, cap, cur, hv, hbg, hgg, r⟩
  · exact .inl h2
  · have hv' := hv
    simp only [Value.slice.injEq] at hv
    exact .inr ⟨g, cap, cur, hv', hbg, (hb.block g (Array.getElem?_eq_some_iff.1 hgg).1 (hg g hv.1)).trans hgg, r⟩
/-- two rows of different element types lie apart -/
theorem rows_apart {w : World} {base base' : Nat} {e e' : TypeId} {size size' : Nat} {g n c m n' c' m' : Nat} {A : Option Addr} {xs xs' : List Value} (h : w.ownsRow base e size (.slice (some ⟨g, 0, none⟩) n c) m xs)
    (h' : w.ownsRow base' e' size' (.slice A n' c') m' xs') (hne : e ≠ e') : some g ≠ A.map (·.block) := by
  intro hg
  rcases h.2 with ⟨h2, _⟩ | ⟨g1, cap, cur, hv, _, hgg, _⟩
  · simp at h2
  · rcases h'.2 with ⟨h2', _⟩ | ⟨g2, cap', cur', hv', _, hgg', _⟩
    · simp only [Value.slice.injEq] at h2'
      rw [h2'.1] at hg
      cases hg
    · simp only [Value.slice.injEq, Option.some.injEq, Addr.mk.injEq, and_true] at hv
      simp only [Value.slice.injEq] at hv'
      rw [hv'.1] at hg
      simp at hg
      have e1 : g1 = g2 := by rw [← hv.1, hg]
      subst e1
      rw [hgg] at hgg'
      simp only [Option.some.injEq, Obj.cells.injEq] at hgg'
      exact hne hgg'.2.1

/-- a slice of the call's own, of slices of the call's own; none of these lies in block 'bad' -/
def OwnL (te e : TypeId) (w : World) (base : Nat) (A : Option Addr) (n c : Nat) (fs : List (List UInt8)) (bad : Option Nat) : Prop :=
  ∃ vs : List Value, w.ownsRow base te 1 (.slice A n c) n vs ∧ vs.length = fs.length ∧
    ∀ (j : Nat) (f : List UInt8), fs[j]? = some f → ∃ A' n' c', vs[j]? = some (Value.slice A' n' c') ∧ Own w base e A' n' c' f ∧ (bad = none ∨ A'.map (·.block) ≠ bad)

section
variable {te e : TypeId} {w w' : World} {base n c : Nat} {A : Option Addr} {fs : List (List UInt8)} {bad : Option Nat}
theorem OwnL.nil (te e : TypeId) (w : World) (base : Nat) (bad : Option Nat) : OwnL te e w base none 0 0 [] bad :=
  ⟨[], World.ownsRow_nil w base te 1, rfl, fun j f hj => by simp at hj⟩
theorem OwnL.len (h : OwnL te e w base A n c fs bad) : fs.length = n := by
  obtain ⟨vs, h1, h2, _⟩ := h
  have := h1.1
  omega
theorem OwnL.below (h : OwnL te e w base A n c fs bad) (hb : Below w.heap.size w w') : OwnL te e w' base A n c fs bad := by
  obtain ⟨vs, h1, h2, h3⟩ := h
  refine ⟨vs, ownsRow_keep h1 hb (ownsRow_lt h1), h2, fun j f hj => ?_⟩
  obtain ⟨A', n', c', k1, k2, k3⟩ := h3 j f hj
  exact ⟨A', n', c', k1, k2.below hb, k3⟩
theorem OwnL.at_ (h : OwnL te e w base A n c fs bad) {k : Nat} (hk : k < n) :
    ∃ g f A' n' c', A = some ⟨g, 0, none⟩ ∧ fs[k]? = some f ∧ w.cell? ⟨g, k, none⟩ = some (.slice A' n' c') ∧ Own w base e A' n' c' f := by
  have hl := h.len
  obtain ⟨vs, h1, h2, h3⟩ := h
  obtain ⟨A', n', c', k1, k2, _⟩ := h3 k fs[k] (List.getElem?_eq_getElem (by omega))
  obtain ⟨g, cap, hv, _, _⟩ := h1.form (by omega)
  simp only [Value.slice.injEq, true_and] at hv
  obtain ⟨rfl, rfl⟩ := hv
  refine ⟨g, fs[k], A', n', c', rfl, List.getElem?_eq_getElem (by omega), ?_, k2⟩
  have := World.ownsRow.cells h1 (g := g) rfl k _ k1
  rwa [addAt] at this
theorem OwnL.rdl (h : OwnL te e w base A n c fs bad) : RdL w A n c fs := by
  have hl := h.len
  have h0 := h
  obtain ⟨vs, h1, h2, h3⟩ := h
  refine ⟨hl, ?_, ?_, fun hn => ?_⟩
  · rcases h1.2 with ⟨hv, h0⟩ | ⟨g, cap, cur, hv, _, _, hnc, hcm, _⟩ <;> simp only [Value.slice.injEq] at hv <;> omega
  · rcases h1.2 with ⟨hv, h0⟩ | ⟨g, cap, cur, hv, _, _, hnc, hcm, _⟩
    · simp only [Value.slice.injEq] at hv; rw [hv.2.2]; exact Nat.zero_le _
    · simp only [Value.slice.injEq] at hv; rw [hv.2.2]; exact hcm
  · obtain ⟨g, f, A', n', c', hA, _⟩ := h0.at_ hn
    refine ⟨_, hA, fun j l hj => ?_⟩
    have hjl : j < n := by have := (List.getElem?_eq_some_iff.1 hj).1; omega
    obtain ⟨g', f', A1, n1, c1, hA', hf', hc', ho'⟩ := h0.at_ hjl
    rw [hA] at hA'
    simp only [Option.some.injEq, Addr.mk.injEq, and_true] at hA'
    subst hA'
    rw [hj] at hf'
    cases hf'
    exact ⟨A1, n1, c1, by rw [addAt]; exact hc', ho'.rd⟩
theorem OwnL.other {row : Option Nat} (h : OwnL te e w base A n c fs row) (hrow : row ≠ none) (hg : w.grownBy w' row) (hA : ∀ g, A = some ⟨g, 0, none⟩ → some g ≠ row) : OwnL te e w' base A n c fs row := by
  obtain ⟨vs, h1, h2, h3⟩ := h
  refine ⟨vs, ownsRow_grown h1 hg hA, h2, fun j f hj => ?_⟩
  obtain ⟨A', n', c', k1, k2, k3⟩ := h3 j f hj
  refine ⟨A', n', c', k1, ownsRow_grown k2 hg (fun g hgA => ?_), k3⟩
  rcases k3 with k3 | k3
  · exact absurd k3 hrow
  · rw [hgA] at k3; exact k3
theorem OwnL.rebad {bad' : Option Nat} (h : OwnL te e w base A n c fs bad) (hb : ∀ g, bad' = some g → w.heap.size ≤ g ∨ bad = some g) : OwnL te e w base A n c fs bad' := by
  obtain ⟨vs, h1, h2, h3⟩ := h
  refine ⟨vs, h1, h2, fun j f hj => ?_⟩
  obtain ⟨A', n', c', k1, k2, k3⟩ := h3 j f hj
  refine ⟨A', n', c', k1, k2, ?_⟩
  cases hbd : bad' with
  | none => exact .inl rfl
  | some g =>
    right
    intro hA
    rcases hb g hbd with hlt | heq
    · cases A' with
      | none => cases hA
      | some ad =>
        have := (World.ownsRow.lt k2 ad.block rfl).2
        simp at hA
        omega
    · rcases k3 with k3 | k3
      · rw [k3] at heq; cases heq
      · rw [heq] at k3; exact k3 hA
end

def IsRef (P : Program) (te : TypeId) : Prop := (P.info? te).map (fun i => (i.zero, i.size, i.bytes)) = some (some (.slice none 0 0), 1, 24)

theorem wpList_appendL {P : Program} (w : World) {ops : Array Oper} {rest : List Oper} {o : Oper} {a : Act} {Q : Exit → Act → World → Prop} (hgd : o.guard = none) (s x : Operand) (t : TypeId)
    (hop : o.op = .call { callee := .builtin .append, args := #[s, x], argTypes := #[t, t] })
    (base : Nat) (te e : TypeId) (hne : e ≠ te) (ht : P.underlying t = some (.slice te)) (hi : IsRef P te)
    (A : Option Addr) (n c : Nat) (fs : List (List UInt8)) (bad : Option Nat) (hs : a.eval s = .slice A n c) (ho : OwnL te e w base A n c fs bad)
    (X : Addr) (d : Nat) (A1 : Option Addr) (n1 c1 : Nat) (f : List UInt8) (hx : a.eval x = .slice (some X) 1 d) (hc : w.cell? X = some (.slice A1 n1 c1)) (hf : Own w base e A1 n1 c1 f) (hfb : bad = none ∨ A1.map (·.block) ≠ bad)
    (hsz : n ≤ 1000000) (hbase : base ≤ w.heap.size)
    (h : ∀ A' c' w', OwnL te e w' base A' (n + 1) c' (fs ++ [f]) bad → Below base w w' → w.grownBy w' (A.map (·.block)) → wpList P ops Q rest (a.put o.dst (.slice A' (n + 1) c')) w') : wpList P ops Q (o :: rest) a w := by
  refine wpList_plain hgd fun K hK => ?_
  obtain ⟨i, hi, hz0, hz1, hz2⟩ := info_parts hi
  obtain ⟨vs, h1, h2, h3⟩ := ho
  obtain ⟨v', w', hrun, k1, k2, _, k4⟩ := run_append_own_at (P := P) w base t o.type te i _ 1 24 ht hi hz0 hz1 hz2 rfl (by omega) _ n vs h1 X 1 d [.slice A1 n1 c1] rfl
    (fun j u hj => by
      match j, hj with
      | 0, hj => simp at hj; subst hj; exact hc)
    (by simp [Value.oneCell']) (by simp only [maxLen]; omega) (by omega) hbase
  have hown := k1
  obtain ⟨g, cap, rfl, _, _⟩ := k1.form (by omega)
  have eb : Value.ownBlock (.slice A n c) = A.map (·.block) := by cases A <;> rfl
  rw [eb] at k2 k4
  have hstay : ∀ (A' : Option Addr) (n' c' : Nat) (f' : List UInt8), Own w base e A' n' c' f' → Own w' base e A' n' c' f' := fun A' n' c' f' hq =>
    ownsRow_grown hq k2 (fun g' hg' => by subst hg'; exact rows_apart hq h1 hne)
  unfold Oper.wp execOp
  simp only [hop, resolve, invoke, builtin, Sem.run_bind, Sem.run_pure, Result.andThen_ok, List.map_toArray, List.map_cons, List.map_nil, hs, hx, hrun]
  refine hK _ _ (h _ cap w' ⟨vs ++ [.slice A1 n1 c1], hown, by simp [h2], fun j f' hj => ?_⟩ ((Below.refl _ _).grown k2 hbase (fun k hk => ?_)) k2)
  · rcases Nat.lt_or_ge j fs.length with hlt | hge
    · rw [List.getElem?_append_left hlt] at hj
      obtain ⟨A', n', c', q1, q2, q3⟩ := h3 j f' hj
      exact ⟨A', n', c', by rw [List.getElem?_append_left (by omega)]; exact q1, hstay _ _ _ _ q2, q3⟩
    · have hj0 : j = fs.length := by
        have := (List.getElem?_eq_some_iff.1 hj).1
        simp at this
        omega
      subst hj0
      simp at hj
      subst hj
      exact ⟨A1, n1, c1, by rw [← h2]; simp, hstay _ _ _ _ hf, hfb⟩
  · exact (World.ownsRow.lt h1 k (by rw [eb]; exact hk)).1
end Go.Proofs.Ytackfepoomdpdaa
