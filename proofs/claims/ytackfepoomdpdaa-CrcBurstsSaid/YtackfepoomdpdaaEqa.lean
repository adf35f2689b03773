/- Two arrays of four bytes, the second of zeros: what == says of them. -/
import Derived.Test.YtackfepoomdpdaaRight
import Derived.Laws.StructEq
namespace Go.Proofs.Ytackfepoomdpdaa
open Go.RowKit

theorem eq_bytes (d : Nat) (a b : Int) (W : World) : (Op.equalIn (d + 1) 5 (.int .u8 a) (.int .u8 b)).run Try.prog W = .ok (a == b) W := by
  simp [Op.equalIn, run_underlying Try.underlying5]

theorem size5 (W : World) : (sizeOf 5).run Try.prog W = .ok 1 W := by kernel_rfl
theorem part5 (xs : Array Value) (i : Nat) (u : Value) (h : xs[i]? = some u) (W : World) : (part 5 xs i).run Try.prog W = .ok u W := by
  simp [part, h]

theorem pt0 (x0 x1 x2 x3 : Value) (W : World) : (part 5 #[x0, x1, x2, x3] 0).run Try.prog W = .ok x0 W := part5 _ 0 _ rfl W
theorem pt1 (x0 x1 x2 x3 : Value) (W : World) : (part 5 #[x0, x1, x2, x3] 1).run Try.prog W = .ok x1 W := part5 _ 1 _ rfl W
theorem pt2 (x0 x1 x2 x3 : Value) (W : World) : (part 5 #[x0, x1, x2, x3] 2).run Try.prog W = .ok x2 W := part5 _ 2 _ rfl W
theorem pt3 (x0 x1 x2 x3 : Value) (W : World) : (part 5 #[x0, x1, x2, x3] 3).run Try.prog W = .ok x3 W := part5 _ 3 _ rfl W
theorem eq_four (d : Nat) (a0 a1 a2 a3 b0 b1 b2 b3 : Int) (W : World) :
    (Op.equalIn (d + 2) 30 (.agg #[.int .u8 a0, .int .u8 a1, .int .u8 a2, .int .u8 a3]) (.agg #[.int .u8 b0, .int .u8 b1, .int .u8 b2, .int .u8 b3])).run Try.prog W = .ok (a0 == b0 && (a1 == b1 && (a2 == b2 && a3 == b3))) W := by
  rw [Op.equalIn]
  simp only [Sem.run_bind, run_underlying Try.underlying30, Result.andThen_ok, size5]
  simp only [Std.Legacy.Range.forIn_eq_forIn_range', Std.Legacy.Range.size, Nat.sub_zero, Nat.add_sub_cancel, Nat.div_one, Nat.mul_one]
  have e : List.range' 0 4 = [0, 1, 2, 3] := rfl
  simp only [e, List.forIn_cons, List.forIn_nil, Sem.run_bind, pt0, Result.andThen_ok, eq_bytes]
  cases h0 : a0 == b0 <;> cases h1 : a1 == b1 <;> cases h2 : a2 == b2 <;> cases h3 : a3 == b3 <;>
    simp [Sem.run_bind, pt1, pt2, pt3, eq_bytes, h1, h2, h3]
end Go.Proofs.Ytackfepoomdpdaa
