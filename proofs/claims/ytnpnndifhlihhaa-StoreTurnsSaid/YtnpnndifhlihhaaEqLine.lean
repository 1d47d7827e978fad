/- '==' and '!=' of api.Line. -/
import Derived.Test.YtnpnndifhlihhaaTyLine
import Derived.Test.YtnpnndifhlihhaaEq
namespace Go.Proofs.Ytnpnndifhlihhaa
open Go.RowKit Go.Sl
set_option maxHeartbeats 1000000
set_option maxRecDepth 100000
theorem equalIn_line (d : Nat) (x0 y0 : Int) (x1 y1 : Int) (w : World) : (Op.equalIn (d + 2) 39 (.agg #[.int .i64 x0, .int .i64 x1]) (.agg #[.int .i64 y0, .int .i64 y1])).run Try.prog w = .ok (x0 == y0 && (x1 == y1 && (true))) w := by
  refine equalIn_struct (d := d + 1) Try.underlying39 (by kernel_rfl) ?_
  refine eqFields_cons (by rfl) (by go_simp; rfl) (by go_simp; rfl) (by go_simp) ?_
  refine eqFields_cons (by rfl) (by go_simp; rfl) (by go_simp; rfl) (by go_simp) ?_
  exact eqFields_nil
theorem eqc_line (x y : SItem) : (x.kind == y.kind && (x.amt == y.amt && (true))) = decide (x = y) := by
  rw [Bool.eq_iff_iff]; cases x; cases y; simp
theorem ne_line (x y : SItem) (w : World) : (binOp .neq 39 (.agg #[.int .i64 x.kind, .int .i64 x.amt]) (.agg #[.int .i64 y.kind, .int .i64 y.amt])).run Try.prog w = .ok (.bool (neB x y)) w := by
  have h := equalIn_line 9998 x.kind y.kind x.amt y.amt w
  simp only [Nat.reduceAdd] at h
  rw [neq_struct h, eqc_line]; rfl
theorem eq_line (x y : SItem) (w : World) : (binOp .eql 39 (.agg #[.int .i64 x.kind, .int .i64 x.amt]) (.agg #[.int .i64 y.kind, .int .i64 y.amt])).run Try.prog w = .ok (.bool (eqB x y)) w := by
  have h := equalIn_line 9998 x.kind y.kind x.amt y.amt w
  simp only [Nat.reduceAdd] at h
  rw [eql_struct h, eqc_line]; rfl
end Go.Proofs.Ytnpnndifhlihhaa
