/- Words for slices of bytes in memory: a slice that reads as a list of bytes; one that the call itself owns; what append, slicing and string() do to them. No program in sight. -/
import Derived.WalkKit
import Derived.WalkSpells
import Derived.WalkLawsBesides
import Derived.Lib.Hide
import Derived.Maps.AppendAt
import Derived.Deep.AppendLies
import Derived.Deep.Draws
import Derived.Laws.IdiomStrings
import Derived.OpenShut
namespace Go.Proofs.Ytackfepoomdpdaa
open Go.RowKit

theorem hide {p : Prop} (h : p) : Hid p := h

theorem blockAdd (a : Addr) (n : Nat) : (a.add n).block = a.block := by unfold Addr.add; split <;> rfl
theorem addAdd (a : Addr) (i j : Nat) : (a.add i).add j = a.add (i + j) := by
  unfold Addr.add
  by_cases hi : i = 0 <;> by_cases hj : j = 0 <;> simp [hi, hj, Nat.add_assoc]
theorem addAt (g j : Nat) : (⟨g, 0, none⟩ : Addr).add j = ⟨g, j, none⟩ := by unfold Addr.add; split <;> simp_all

theorem undrew {w w1 : World} (h : Below w.drew.heap.size w.drew w1) : Below w.heap.size w w1 := (Below.drew (Below.refl w.heap.size w)).trans h
theorem undrewN {w w1 : World} {n : Nat} (h : Below (w.drewN n).heap.size (w.drewN n) w1) : Below w.heap.size w w1 := (below_drewN (Below.refl w.heap.size w) n).trans h

/-- a byte as a value -/
def by8 (x : UInt8) : Value := .int .u8 x.toNat
def bys (l : List UInt8) : List Value := l.map by8
theorem bys_len (l : List UInt8) : (bys l).length = l.length := by simp [bys]
theorem bys_app (l r : List UInt8) : bys (l ++ r) = bys l ++ bys r := by simp [bys]
theorem bys_get (l : List UInt8) (j : Nat) : (bys l)[j]? = (l[j]?).map by8 := by simp [bys]
theorem bys_one (l : List UInt8) : ∀ u ∈ bys l, u.oneCell' = true := by
  intro u hu
  simp only [bys, List.mem_map] at hu
  obtain ⟨x, _, rfl⟩ := hu
  rfl
/-- the string of bytes -/
def str (l : List UInt8) : ByteArray := ⟨l.toArray⟩
theorem str_inj {l r : List UInt8} : str l = str r ↔ l = r := by
  unfold str
  constructor
  · intro h
    have := congrArg (fun b : ByteArray => b.data.toList) h
    simpa using this
  · rintro rfl; rfl

theorem str_toList (l : List UInt8) : (str l).toList = l := by unfold str; simp
theorem str_same {l r : List UInt8} (h : l = r) : ((str l).toList == (str r).toList) = true := by simp [str_toList, h]
theorem str_other {l r : List UInt8} (h : l ≠ r) : ((str l).toList == (str r).toList) = false := by simp [str_toList, h]

/-- the slice value '.slice A n c' reads as the bytes l -/
def Rd (w : World) (A : Option Addr) (n c : Nat) (l : List UInt8) : Prop :=
  l.length = n ∧ n ≤ c ∧ c ≤ maxLen ∧ (0 < n → ∃ ad, A = some ad ∧ ∀ j x, l[j]? = some x → w.cell? (ad.add j) = some (by8 x))

section
variable {w w' : World} {A : Option Addr} {n c : Nat} {l : List UInt8}
theorem Rd.nil (w : World) (A : Option Addr) {c : Nat} (hc : c ≤ maxLen) : Rd w A 0 c [] := ⟨rfl, Nat.zero_le _, hc, fun h => absurd h (by omega)⟩
theorem Rd.at_ (h : Rd w A n c l) {k : Nat} (hk : k < n) : ∃ ad x, A = some ad ∧ l[k]? = some x ∧ w.cell? (ad.add k) = some (.int .u8 x.toNat) := by
  obtain ⟨h1, _, _, h3⟩ := h
  obtain ⟨ad, e, hc⟩ := h3 (by omega)
  have hl : k < l.length := by omega
  exact ⟨ad, l[k], e, List.getElem?_eq_getElem hl, hc k _ (List.getElem?_eq_getElem hl)⟩
theorem Rd.ptr (h : Rd w A n c l) (hn : 0 < n) : ∃ ad, A = some ad ∧ ad.block < w.heap.size := by
  obtain ⟨ad, x, e, _, hc⟩ := h.at_ hn
  exact ⟨ad, e, by have := World.block_lt_of_cell? w _ hc; rwa [blockAdd] at this⟩
theorem Rd.keep (h : Rd w A n c l) (hk : ∀ p v, w.cell? p = some v → w'.cell? p = some v) : Rd w' A n c l :=
  ⟨h.1, h.2.1, h.2.2.1, fun hn => by
    obtain ⟨ad, e, hc⟩ := h.2.2.2 hn
    exact ⟨ad, e, fun j x hx => hk _ _ (hc j x hx)⟩⟩
theorem Rd.below (h : Rd w A n c l) (hb : Below w.heap.size w w') : Rd w' A n c l :=
  h.keep fun p _ hv => (hb.cell (World.block_lt_of_cell? w p hv)).trans hv
theorem Rd.drewN (h : Rd w A n c l) (k : Nat) : Rd (w.drewN k) A n c l := h
theorem Rd.drew (h : Rd w A n c l) : Rd w.drew A n c l := h
theorem Rd.alloc (h : Rd w A n c l) (o : Obj) : Rd (w.alloc o) A n c l :=
  h.keep fun p _ hv => (World.cell?_alloc_lt w o p (World.block_lt_of_cell? w p hv)).trans hv
theorem Rd.hi (h : Rd w A n c l) {k : Nat} (hk : k ≤ n) : Rd w A k c (l.take k) :=
  ⟨by rw [List.length_take, h.1]; omega, by have := h.2.1; omega, h.2.2.1, fun hn => by
    obtain ⟨ad, e, hc⟩ := h.2.2.2 (by omega)
    exact ⟨ad, e, fun j x hx => hc j x (by rw [List.getElem?_take] at hx; split at hx <;> simp_all)⟩⟩
theorem Rd.lo (h : Rd w A n c l) {k : Nat} (hk : k ≤ n) : Rd w (if c = k then A else A.map (·.add k)) (n - k) (c - k) (l.drop k) :=
  ⟨by rw [List.length_drop, h.1], by have := h.2.1; omega, by have := h.2.2.1; omega, fun hn => by
    obtain ⟨ad, e, hc⟩ := h.2.2.2 (by omega)
    have := h.2.1
    rw [if_neg (by omega), e]
    refine ⟨ad.add k, rfl, fun j x hx => ?_⟩
    rw [addAdd]
    exact hc _ x (by rw [← hx, List.getElem?_drop])⟩
theorem Rd.lo_ne (h : Rd w A n c l) {k : Nat} (hk : k ≤ n) (hc : ¬ c = k) : Rd w (A.map fun x => x.add k) (n - k) (c - k) (l.drop k) := by
  have := h.lo hk
  rwa [if_neg hc] at this
theorem Rd.lo_eq (h : Rd w A n c l) {k : Nat} (hk : k ≤ n) (hc : c = k) : Rd w A (n - k) (c - k) (l.drop k) := by
  have := h.lo hk
  rwa [if_pos hc] at this
theorem Rd.mid (h : Rd w A n c l) {k m : Nat} (hk : k + m ≤ n) (hm : 0 < m) : Rd w (A.map fun x => x.add k) m (c - k) ((l.drop k).take m) :=
  (h.lo_ne (k := k) (by omega) (by have := h.2.1; omega)).hi (by omega)
theorem Rd.new (w : World) (e : TypeId) (cs : Array Value) {l : List UInt8} (h : cs.toList = bys l) (hl : l.length ≤ maxLen) :
    Rd (w.alloc (.cells cs e)) (some ⟨w.heap.size, 0, none⟩) l.length l.length l :=
  ⟨rfl, Nat.le_refl _, hl, fun _ => ⟨_, rfl, fun j x hx => by
    rw [addAt, cell_of_row (w.alloc (.cells cs e)) w.heap.size j cs e (0, 0) (heap_alloc_new w _)]
    have : cs.toList[j]? = some (by8 x) := by rw [h, bys_get, hx]; rfl
    simpa using this⟩⟩
theorem Rd.newFr (w : World) (e : TypeId) (cs : Array Value) (fr : Nat × Nat) {l : List UInt8} (h : cs.toList = bys l) (hl : l.length ≤ maxLen) :
    Rd (w.alloc (.cells cs e fr)) (some ⟨w.heap.size, 0, none⟩) l.length l.length l :=
  ⟨rfl, Nat.le_refl _, hl, fun _ => ⟨_, rfl, fun j x hx => by
    rw [addAt, World.cell?_alloc_mark]
    have : cs.toList[j]? = some (by8 x) := by rw [h, bys_get, hx]; rfl
    simpa using this⟩⟩
theorem Rd.conv {P : Program} (h : Rd w A n c l) (src dst e : TypeId) (hs : P.underlying src = some (.slice e)) (he : P.underlying e = some (.int .u8)) (hd : P.underlying dst = some .string) :
    (convert src dst (.slice A n c)).run P w = .ok (.string (str l)) w := by
  obtain ⟨h1, h2, h3, h4⟩ := h
  rcases Nat.eq_zero_or_pos n with h0 | h0
  · have hl : l = [] := List.eq_nil_of_length_eq_zero (by omega)
    subst hl
    rcases A with _ | ad
    · rw [run_convert_bytes_string w src dst e none n c hs he hd]; rfl
    · have := run_convert_bytes_back (P := P) w src dst e ad c [] hs he hd (fun j hj => by simp at hj)
      simp only [List.length_nil] at this
      rw [h0]; exact this
  · obtain ⟨ad, rfl, hc⟩ := h4 h0
    subst h1
    exact run_convert_bytes_back (P := P) w src dst e ad c l hs he hd (fun j hj => hc j _ (List.getElem?_eq_getElem hj))
end

/-- the slice value '.slice A n c' is of the call's own making (blocks from 'base' on), reads as l, and may be appended to -/
def Own (w : World) (base : Nat) (e : TypeId) (A : Option Addr) (n c : Nat) (l : List UInt8) : Prop := w.ownsRow base e 1 (.slice A n c) n (bys l)

section
variable {w w' : World} {base : Nat} {e : TypeId} {A : Option Addr} {n c : Nat} {l : List UInt8}
theorem Own.nil (w : World) (base : Nat) (e : TypeId) : Own w base e none 0 0 [] := World.ownsRow_nil w base e 1
theorem Own.len (h : Own w base e A n c l) : l.length = n := by have := h.1; simpa [bys_len] using this
theorem Own.cases (h : Own w base e A n c l) : (A = none ∧ n = 0 ∧ c = 0 ∧ l = []) ∨ ∃ g, A = some ⟨g, 0, none⟩ ∧ base ≤ g ∧ g < w.heap.size ∧ n ≤ c ∧ c ≤ maxLen := by
  have hl := h.len
  rcases h.2 with ⟨hv, h0⟩ | ⟨g, cap, cur, hv, hb, hg, hnc, hcm, _⟩
  · simp only [Value.slice.injEq] at hv
    exact .inl ⟨hv.1, hv.2.1, hv.2.2, List.eq_nil_of_length_eq_zero (by omega)⟩
  · simp only [Value.slice.injEq, true_and] at hv
    obtain ⟨rfl, rfl⟩ := hv
    exact .inr ⟨g, rfl, hb, (Array.getElem?_eq_some_iff.1 hg).1, hnc, hcm⟩
theorem Own.form (h : Own w base e A n c l) (hn : 0 < n) : ∃ g, A = some ⟨g, 0, none⟩ ∧ base ≤ g ∧ g < w.heap.size := by
  rcases h.cases with ⟨_, h0, _⟩ | ⟨g, hA, hb, hg, _⟩
  · omega
  · exact ⟨g, hA, hb, hg⟩
theorem Own.rd (h : Own w base e A n c l) : Rd w A n c l := by
  refine ⟨h.len, ?_, ?_, fun hn => ?_⟩
  · rcases h.cases with ⟨_, h0, h1, _⟩ | ⟨g, _, _, _, h1, _⟩ <;> omega
  · rcases h.cases with ⟨_, h0, h1, _⟩ | ⟨g, _, _, _, _, h1⟩
    · rw [h1]; exact Nat.zero_le _
    · exact h1
  · obtain ⟨g, rfl, _⟩ := h.form hn
    exact ⟨_, rfl, fun j x hx => World.ownsRow.cells h (g := g) rfl j (by8 x) (by rw [bys_get, hx]; rfl)⟩
theorem Own.keep {B : Nat} (h : Own w base e A n c l) (hb : Below B w w') (hg : ∀ g, A = some ⟨g, 0, none⟩ → g < B) : Own w' base e A n c l := by
  refine ⟨h.1, ?_⟩
  rcases h.2 with h2 | ⟨g, cap, cur, hv, hbg, hgg, r⟩
  · exact .inl h2
  · simp only [Value.slice.injEq, true_and] at hv
    obtain ⟨rfl, rfl⟩ := hv
    exact .inr ⟨g, c, cur, rfl, hbg, (hb.block g (hg g rfl)).trans hgg, r⟩
theorem Own.below (h : Own w base e A n c l) (hb : Below w.heap.size w w') : Own w' base e A n c l :=
  h.keep hb fun g hg => by
    rcases h.cases with ⟨h0, _⟩ | ⟨g', h0, _, hlt, _⟩
    · rw [h0] at hg; cases hg
    · rw [h0] at hg; simp only [Option.some.injEq, Addr.mk.injEq, and_true] at hg; omega
theorem Own.mono {base' : Nat} (h : Own w base e A n c l) (hb : base' ≤ base) : Own w base' e A n c l := by
  refine ⟨h.1, ?_⟩
  rcases h.2 with h2 | ⟨g, cap, cur, hv, hbg, r⟩
  · exact .inl h2
  · exact .inr ⟨g, cap, cur, hv, by omega, r⟩
theorem Own.alloc (h : Own w base e A n c l) (o : Obj) : Own (w.alloc o) base e A n c l := World.ownsRow.alloc h o
theorem Own.drew (h : Own w base e A n c l) : Own w.drew base e A n c l := h
theorem Own.drewN (h : Own w base e A n c l) (k : Nat) : Own (w.drewN k) base e A n c l := h
theorem Own.cell {g : Nat} (h : Own w base e (some ⟨g, 0, none⟩) n c l) {j : Nat} {x : UInt8} (hj : l[j]? = some x) : w.cell? ⟨g, j, none⟩ = some (.int .u8 x.toNat) := by
  have := World.ownsRow.cells h (g := g) rfl j (by8 x) (by rw [bys_get, hj]; rfl)
  rwa [addAt] at this
theorem Own.frozen {g : Nat} (h : Own w base e (some ⟨g, 0, none⟩) n c l) (j : Nat) : w.frozen? ⟨g, j, none⟩ = false := World.ownsRow.frozenAt h j
theorem Own.set {g : Nat} (h : Own w base e (some ⟨g, 0, none⟩) n c l) (j : Nat) (x : UInt8) : Own (w.setCell ⟨g, j, none⟩ (.int .u8 x.toNat)) base e (some ⟨g, 0, none⟩) n c (l.set j x) := by
  have := (World.ownsRow.stored h j (by8 x)).1
  unfold Own
  have e2 : bys (l.set j x) = (bys l).set j (by8 x) := by simp [bys]
  rw [e2]
  exact this
end

/-- a byte's row of the table -/
def IsByte (P : Program) (e : TypeId) : Prop := (P.info? e).map (fun i => (i.zero, i.size, i.bytes)) = some (some (.int .u8 0), 1, 1)

theorem run_append_nil8 {P : Program} (w : World) (base : Nat) (t ty e : TypeId) (ht : P.underlying t = some (.slice e)) (hi : IsByte P e)
    {A : Option Addr} {n c : Nat} {l : List UInt8} (ho : Own w base e A n c l) (X : Option Addr) (d : Nat) : (Builtin.append_ #[t, t] ty #[.slice A n c, .slice X 0 d]).run P w = .ok (.slice A n c) w := by
  obtain ⟨i, hi, hz0, hz1, hz2⟩ := info_parts hi
  have hfc : (Builtin.firstCells 1 0 (.slice X 0 d)).run P w = .ok #[] w := by
    cases X with
    | none => simp [Builtin.firstCells]
    | some a => simp [Builtin.firstCells, loadCells, loadCellsFrom]
  rcases ho.cases with ⟨rfl, rfl, rfl, _⟩ | ⟨g, rfl, _, _, hnc, _⟩
  · simp [Builtin.append_, run_underlying ht, sizeOf, typeInfo, hi, hz1, Builtin.lenOf, hfc]
  · simp [Builtin.append_, run_underlying ht, sizeOf, typeInfo, hi, hz1, Builtin.lenOf, hfc, hnc, storeCells]

/-- append on a slice of the call's own: the new one is of its own, too -/
theorem run_append8 {P : Program} (w : World) (base : Nat) (t ty e : TypeId) (ht : P.underlying t = some (.slice e)) (hi : IsByte P e)
    {A : Option Addr} {n c : Nat} {l : List UInt8} (ho : Own w base e A n c l) {X : Option Addr} {m d : Nat} {r : List UInt8} (hr : Rd w X m d r)
    (hs : n + m ≤ 140737488355328) (hbase : base ≤ w.heap.size) :
    ∃ A' c' w', (Builtin.append_ #[t, t] ty #[.slice A n c, .slice X m d]).run P w = .ok (.slice A' (n + m) c') w' ∧ Own w' base e A' (n + m) c' (l ++ r) ∧ Below base w w' ∧
      w.grownBy w' (A.map (·.block)) ∧ (A'.map (·.block) = A.map (·.block) ∨ A'.map (·.block) = some w.heap.size) := by
  rcases Nat.eq_zero_or_pos m with h0 | h0
  · subst h0
    have hn : r = [] := List.eq_nil_of_length_eq_zero hr.1
    subst hn
    exact ⟨A, c, w, run_append_nil8 w base t ty e ht hi ho X d, by simpa using ho, Below.refl _ _, World.grownBy.refl w _, .inl rfl⟩
  · obtain ⟨h1, h2, h3, h4⟩ := hr
    obtain ⟨ad, rfl, hc⟩ := h4 h0
    obtain ⟨i, hi, hz0, hz1, hz2⟩ := info_parts hi
    have hcells : ∀ j u, (bys r)[j]? = some u → w.cell? (ad.add j) = some u := by
      intro j u hu
      rw [bys_get, Option.map_eq_some_iff] at hu
      obtain ⟨x, hx, rfl⟩ := hu
      exact hc j x hx
    obtain ⟨v', w', hrun, k1, k2, k3, k4⟩ := run_append_own_at (P := P) w base t ty e i _ 1 1 ht hi hz0 hz1 hz2 rfl (by omega) _ n (bys l) ho ad m d (bys r) (by rw [bys_len]; omega) hcells (bys_one r)
      (by simp only [maxLen]; omega) (by omega) hbase
    have hown := k1
    obtain ⟨g, cap, rfl, _, _⟩ := k1.form (by omega)
    have eb : Value.ownBlock (.slice A n c) = A.map (·.block) := by cases A <;> rfl
    rw [eb] at k2 k4
    refine ⟨_, cap, w', hrun, by unfold Own; rw [bys_app]; exact hown, (Below.refl _ _).grown k2 hbase (fun k hk => ?_), k2, k4⟩
    have := World.ownsRow.lt ho k (by rw [eb]; exact hk)
    exact this.1

theorem wp_append8 {P : Program} (w : World) {o : Oper} {a : Act} {K : Act → World → Prop} {Q : Exit → Act → World → Prop} (s x : Operand) (t : TypeId)
    (hop : o.op = .call { callee := .builtin .append, args := #[s, x], argTypes := #[t, t] })
    (base : Nat) (e : TypeId) (ht : P.underlying t = some (.slice e)) (hi : IsByte P e)
    (A : Option Addr) (n c : Nat) (l : List UInt8) (hs : a.eval s = .slice A n c) (ho : Own w base e A n c l) (X : Option Addr) (m d : Nat) (r : List UInt8) (hx : a.eval x = .slice X m d) (hr : Rd w X m d r)
    (hsz : n + m ≤ 140737488355328) (hbase : base ≤ w.heap.size)
    (h : ∀ A' c' w', Own w' base e A' (n + m) c' (l ++ r) → Below base w w' → w.grownBy w' (A.map (·.block)) → (A'.map (·.block) = A.map (·.block) ∨ A'.map (·.block) = some w.heap.size) →
      K (a.put o.dst (.slice A' (n + m) c')) w') : o.wp P a w K Q := by
  obtain ⟨A', c', w', hrun, h2, h3, h4, h5⟩ := run_append8 (P := P) w base t o.type e ht hi ho hr hsz hbase
  unfold Oper.wp execOp
  simp only [hop, resolve, invoke, builtin, Sem.run_bind, Sem.run_pure, Result.andThen_ok, List.map_toArray, List.map_cons, List.map_nil, hs, hx, hrun]
  exact h A' c' w' h2 h3 h4 h5

theorem wpList_append8 {P : Program} (w : World) {ops : Array Oper} {rest : List Oper} {o : Oper} {a : Act} {Q : Exit → Act → World → Prop} (hgd : o.guard = none) (s x : Operand) (t : TypeId)
    (hop : o.op = .call { callee := .builtin .append, args := #[s, x], argTypes := #[t, t] })
    (base : Nat) (e : TypeId) (ht : P.underlying t = some (.slice e)) (hi : IsByte P e)
    (A : Option Addr) (n c : Nat) (l : List UInt8) (hs : a.eval s = .slice A n c) (ho : Own w base e A n c l) (X : Option Addr) (m d : Nat) (r : List UInt8) (hx : a.eval x = .slice X m d) (hr : Rd w X m d r)
    (hsz : n + m ≤ 140737488355328) (hbase : base ≤ w.heap.size)
    (h : ∀ A' c' w', Own w' base e A' (n + m) c' (l ++ r) → Below base w w' → w.grownBy w' (A.map (·.block)) → (A'.map (·.block) = A.map (·.block) ∨ A'.map (·.block) = some w.heap.size) →
      wpList P ops Q rest (a.put o.dst (.slice A' (n + m) c')) w') : wpList P ops Q (o :: rest) a w :=
  wpList_plain hgd fun _ hK => wp_append8 w s x t hop base e ht hi A n c l hs ho X m d r hx hr hsz hbase fun A' c' w' h2 h3 h4 h5 => hK _ _ (h A' c' w' h2 h3 h4 h5)

theorem step_append8 {P : Program} (w : World) {ops : Array Oper} {o : Oper} {a : Act} {K : Act → World → Prop} {Q : Exit → Act → World → Prop} {E : Prop} (hgd : o.guard = none) (s x : Operand) (t : TypeId)
    (hop : o.op = .call { callee := .builtin .append, args := #[s, x], argTypes := #[t, t] })
    (base : Nat) (e : TypeId) (ht : P.underlying t = some (.slice e)) (hi : IsByte P e)
    (A : Option Addr) (n c : Nat) (l : List UInt8) (hs : a.eval s = .slice A n c) (ho : Own w base e A n c l) (X : Option Addr) (m d : Nat) (r : List UInt8) (hx : a.eval x = .slice X m d) (hr : Rd w X m d r)
    (hsz : n + m ≤ 140737488355328) (hbase : base ≤ w.heap.size)
    (h : ∀ A' c' w', Own w' base e A' (n + m) c' (l ++ r) → Below base w w' → w.grownBy w' (A.map (·.block)) → (A'.map (·.block) = A.map (·.block) ∨ A'.map (·.block) = some w.heap.size) →
      K (a.put o.dst (.slice A' (n + m) c')) w') : if Region.wanted o (yielded ops a.tmps) = true then Oper.wp P o a w K Q else E := by
  have hw : Region.wanted o (yielded ops a.tmps) = true := by simp [Region.wanted, hgd]
  rw [if_pos hw]
  exact wp_append8 w s x t hop base e ht hi A n c l hs ho X m d r hx hr hsz hbase h

/-- a byte as arithmetic leaves it -/
def byt (x : Int) : UInt8 := UInt8.ofNat (x % 256).toNat
theorem byt_val (x : Int) : ((byt x).toNat : Int) = x % 256 := by
  unfold byt
  have : (x % 256).toNat < 256 := by omega
  rw [UInt8.toNat_ofNat']
  omega
theorem byt_of (x : UInt8) : byt (x.toNat : Int) = x := by
  apply UInt8.toNat_inj.1
  have h := byt_val (x.toNat : Int)
  have := x.toNat_lt
  omega
theorem one8 (x : Int) : (#[Value.int .u8 (x % 256)] : Array Value).toList = bys [byt x] := by simp [bys, by8, byt_val]
theorem Rd.one (w : World) (e : TypeId) (x : Int) : Rd (w.alloc (.cells #[.int .u8 (x % 256)] e)) (some ⟨w.heap.size, 0, none⟩) 1 1 [byt x] := Rd.new w e _ (one8 x) (by simp [maxLen])
theorem wf_u8 {x : Int} (h : (Lit.int .u8 x).wf = true) : 0 ≤ x ∧ x < 256 := by
  have := bounds_u8 h
  omega
theorem u8_of {x : Int} (h : (Lit.int .u8 x).wf = true) : ∃ b : UInt8, x = (b.toNat : Int) := by
  have hb := wf_u8 h
  exact ⟨byt x, by rw [byt_val, Int.emod_eq_of_lt hb.1 hb.2]⟩
/-- a slice of bytes that came in reads as some list -/
theorem Rd.of_row {w : World} {a : Option Addr} {len cap : Nat} {zs : List Int} (h : (a = none ∧ len = 0 ∧ cap = 0 ∧ zs = []) ∨
    ∃ x, a = some x ∧ len ≤ cap ∧ cap ≤ maxLen ∧ zs.length = cap ∧ (∀ i, i < zs.length → w.cell? (x.add i) = some (.int .u8 (zs.getD i 0))) ∧ ∀ n ∈ zs, (Lit.int .u8 n).wf = true) : ∃ l, Rd w a len cap l := by
  rcases h with ⟨rfl, rfl, rfl, rfl⟩ | ⟨x, rfl, h1, h2, h3, h4, h5⟩
  · exact ⟨[], Rd.nil _ _ (Nat.zero_le _)⟩
  · refine ⟨(zs.take len).map byt, by simp; omega, h1, h2, fun _ => ⟨x, rfl, fun j u hu => ?_⟩⟩
    rw [List.getElem?_map, Option.map_eq_some_iff] at hu
    obtain ⟨v, hv, rfl⟩ := hu
    rw [List.getElem?_take] at hv
    split at hv
    case isFalse => cases hv
    have hj : j < zs.length := (List.getElem?_eq_some_iff.1 hv).1
    have hm : v ∈ zs := List.mem_of_getElem? hv
    rw [h4 j hj, List.getD_eq_getElem?_getD, hv]
    have hb := wf_u8 (h5 v hm)
    simp only [Option.getD_some, by8, byt_val]
    rw [Int.emod_eq_of_lt hb.1 hb.2]
end Go.Proofs.Ytackfepoomdpdaa
