/- '==' of structs as one Bool. -/
import Derived.Test.YtdiamknibfamdaaGreatBase
import Derived.Laws.StructEq
namespace Go.Proofs.YtdiamknibfamdaaGreat
open Go.RowKit Go.Shelf


theorem eqA_place (x y : Place) (w : World) (d : Nat) : (Op.equalIn (d + 2) 59 x.v y.v).run Tryz.prog w = .ok (decide (x = y)) w := by
  have u3 := Tryz.underlying3; have a3 := Tryz.isAgg3; have z3 := Tryz.sizeOf3
  have u34 := Tryz.underlying34; have a34 := Tryz.isAgg34; have z34 := Tryz.sizeOf34
  have u22 := Tryz.underlying22; have a22 := Tryz.isAgg22; have z22 := Tryz.sizeOf22
  have hS : Tryz.prog.underlying 59 = some (.struct (Tryz.prog.fieldsOf 59)) := by kernel_rfl
  have hp : Tryz.prog.stoodInHeld 59 = false := by kernel_rfl
  rw [run_equalIn_agg w (d + 1) 59 _ _ hS hp]
  simp only [Program.fieldsOf, Tryz.underlying59]
  clear hS hp
  go_simp
  obtain ⟨x0, x1⟩ := x
  obtain ⟨y0, y1⟩ := y
  by_cases h0 : x0 = y0 <;> by_cases h1 : x1 = y1 <;> simp [h0, h1]
theorem eql_place (x y : Place) (w : World) : (binOp .eql 59 x.v y.v).run Tryz.prog w = .ok (.bool (decide (x = y))) w := by
  rw [run_eql_struct, show (10000 : Nat) = 9998 + 2 from rfl, eqA_place]; rfl
theorem neq_place (x y : Place) (w : World) : (binOp .neq 59 x.v y.v).run Tryz.prog w = .ok (.bool (!decide (x = y))) w := by
  rw [run_neq_struct, show (10000 : Nat) = 9998 + 2 from rfl, eqA_place]; rfl
theorem guard_place (op : BinOp) (a b : Operand) (x y : Place) (w : World) : (eqGuard op 59 a b x.v y.v).run Tryz.prog w = .ok () w := run_eqGuard_agg w op 59 a b _ _ (by kernel_rfl)

theorem eqA_mark (x y : Mark) (w : World) (d : Nat) : (Op.equalIn (d + 2) 134 x.v y.v).run Tryz.prog w = .ok (decide (x = y)) w := by
  have u3 := Tryz.underlying3; have a3 := Tryz.isAgg3; have z3 := Tryz.sizeOf3
  have u34 := Tryz.underlying34; have a34 := Tryz.isAgg34; have z34 := Tryz.sizeOf34
  have u22 := Tryz.underlying22; have a22 := Tryz.isAgg22; have z22 := Tryz.sizeOf22
  have hS : Tryz.prog.underlying 134 = some (.struct (Tryz.prog.fieldsOf 134)) := by kernel_rfl
  have hp : Tryz.prog.stoodInHeld 134 = false := by kernel_rfl
  rw [run_equalIn_agg w (d + 1) 134 _ _ hS hp]
  simp only [Program.fieldsOf, Tryz.underlying134]
  clear hS hp
  go_simp
  obtain ⟨x0, x1, x2⟩ := x
  obtain ⟨y0, y1, y2⟩ := y
  by_cases h0 : x0 = y0 <;> by_cases h1 : x1 = y1 <;> by_cases h2 : x2 = y2 <;> simp [h0, h1, h2]
theorem eql_mark (x y : Mark) (w : World) : (binOp .eql 134 x.v y.v).run Tryz.prog w = .ok (.bool (decide (x = y))) w := by
  rw [run_eql_struct, show (10000 : Nat) = 9998 + 2 from rfl, eqA_mark]; rfl
theorem neq_mark (x y : Mark) (w : World) : (binOp .neq 134 x.v y.v).run Tryz.prog w = .ok (.bool (!decide (x = y))) w := by
  rw [run_neq_struct, show (10000 : Nat) = 9998 + 2 from rfl, eqA_mark]; rfl
theorem guard_mark (op : BinOp) (a b : Operand) (x y : Mark) (w : World) : (eqGuard op 134 a b x.v y.v).run Tryz.prog w = .ok () w := run_eqGuard_agg w op 134 a b _ _ (by kernel_rfl)

theorem eqA_cursor (x y : Cursor) (w : World) (d : Nat) : (Op.equalIn (d + 2) 151 x.v y.v).run Tryz.prog w = .ok (decide (x = y)) w := by
  have u3 := Tryz.underlying3; have a3 := Tryz.isAgg3; have z3 := Tryz.sizeOf3
  have u34 := Tryz.underlying34; have a34 := Tryz.isAgg34; have z34 := Tryz.sizeOf34
  have u22 := Tryz.underlying22; have a22 := Tryz.isAgg22; have z22 := Tryz.sizeOf22
  have hS : Tryz.prog.underlying 151 = some (.struct (Tryz.prog.fieldsOf 151)) := by kernel_rfl
  have hp : Tryz.prog.stoodInHeld 151 = false := by kernel_rfl
  rw [run_equalIn_agg w (d + 1) 151 _ _ hS hp]
  simp only [Program.fieldsOf, Tryz.underlying151]
  clear hS hp
  go_simp
  obtain ⟨x0, x1⟩ := x
  obtain ⟨y0, y1⟩ := y
  by_cases h0 : x0 = y0 <;> by_cases h1 : x1 = y1 <;> simp [h0, h1]
theorem eql_cursor (x y : Cursor) (w : World) : (binOp .eql 151 x.v y.v).run Tryz.prog w = .ok (.bool (decide (x = y))) w := by
  rw [run_eql_struct, show (10000 : Nat) = 9998 + 2 from rfl, eqA_cursor]; rfl
theorem neq_cursor (x y : Cursor) (w : World) : (binOp .neq 151 x.v y.v).run Tryz.prog w = .ok (.bool (!decide (x = y))) w := by
  rw [run_neq_struct, show (10000 : Nat) = 9998 + 2 from rfl, eqA_cursor]; rfl
theorem guard_cursor (op : BinOp) (a b : Operand) (x y : Cursor) (w : World) : (eqGuard op 151 a b x.v y.v).run Tryz.prog w = .ok () w := run_eqGuard_agg w op 151 a b _ _ (by kernel_rfl)

theorem eqA_spot (x y : Spot) (w : World) (d : Nat) : (Op.equalIn (d + 2) 33 x.v y.v).run Tryz.prog w = .ok (decide (x = y)) w := by
  have u3 := Tryz.underlying3; have a3 := Tryz.isAgg3; have z3 := Tryz.sizeOf3
  have u34 := Tryz.underlying34; have a34 := Tryz.isAgg34; have z34 := Tryz.sizeOf34
  have u22 := Tryz.underlying22; have a22 := Tryz.isAgg22; have z22 := Tryz.sizeOf22
  have hS : Tryz.prog.underlying 33 = some (.struct (Tryz.prog.fieldsOf 33)) := by kernel_rfl
  have hp : Tryz.prog.stoodInHeld 33 = false := by kernel_rfl
  rw [run_equalIn_agg w (d + 1) 33 _ _ hS hp]
  simp only [Program.fieldsOf, Tryz.underlying33]
  clear hS hp
  go_simp
  obtain ⟨x0, x1, x2⟩ := x
  obtain ⟨y0, y1, y2⟩ := y
  by_cases h0 : x0 = y0 <;> by_cases h1 : x1 = y1 <;> by_cases h2 : x2 = y2 <;> simp [h0, h1, h2]
theorem eql_spot (x y : Spot) (w : World) : (binOp .eql 33 x.v y.v).run Tryz.prog w = .ok (.bool (decide (x = y))) w := by
  rw [run_eql_struct, show (10000 : Nat) = 9998 + 2 from rfl, eqA_spot]; rfl
theorem neq_spot (x y : Spot) (w : World) : (binOp .neq 33 x.v y.v).run Tryz.prog w = .ok (.bool (!decide (x = y))) w := by
  rw [run_neq_struct, show (10000 : Nat) = 9998 + 2 from rfl, eqA_spot]; rfl
theorem guard_spot (op : BinOp) (a b : Operand) (x y : Spot) (w : World) : (eqGuard op 33 a b x.v y.v).run Tryz.prog w = .ok () w := run_eqGuard_agg w op 33 a b _ _ (by kernel_rfl)

theorem eqA_outcome (x y : Outcome) (w : World) (d : Nat) : (Op.equalIn (d + 2) 63 x.v y.v).run Tryz.prog w = .ok (decide (x = y)) w := by
  have u3 := Tryz.underlying3; have a3 := Tryz.isAgg3; have z3 := Tryz.sizeOf3
  have u34 := Tryz.underlying34; have a34 := Tryz.isAgg34; have z34 := Tryz.sizeOf34
  have u22 := Tryz.underlying22; have a22 := Tryz.isAgg22; have z22 := Tryz.sizeOf22
  have hS : Tryz.prog.underlying 63 = some (.struct (Tryz.prog.fieldsOf 63)) := by kernel_rfl
  have hp : Tryz.prog.stoodInHeld 63 = false := by kernel_rfl
  rw [run_equalIn_agg w (d + 1) 63 _ _ hS hp]
  simp only [Program.fieldsOf, Tryz.underlying63]
  clear hS hp
  go_simp
  obtain ⟨x0, x1, x2, x3, x4⟩ := x
  obtain ⟨y0, y1, y2, y3, y4⟩ := y
  by_cases h0 : x0 = y0 <;> by_cases h1 : x1 = y1 <;> by_cases h2 : x2 = y2 <;> by_cases h3 : x3 = y3 <;> by_cases h4 : x4 = y4 <;> simp [h0, h1, h2, h3, h4]
theorem eql_outcome (x y : Outcome) (w : World) : (binOp .eql 63 x.v y.v).run Tryz.prog w = .ok (.bool (decide (x = y))) w := by
  rw [run_eql_struct, show (10000 : Nat) = 9998 + 2 from rfl, eqA_outcome]; rfl
theorem neq_outcome (x y : Outcome) (w : World) : (binOp .neq 63 x.v y.v).run Tryz.prog w = .ok (.bool (!decide (x = y))) w := by
  rw [run_neq_struct, show (10000 : Nat) = 9998 + 2 from rfl, eqA_outcome]; rfl
theorem guard_outcome (op : BinOp) (a b : Operand) (x y : Outcome) (w : World) : (eqGuard op 63 a b x.v y.v).run Tryz.prog w = .ok () w := run_eqGuard_agg w op 63 a b _ _ (by kernel_rfl)

end Go.Proofs.YtdiamknibfamdaaGreat
