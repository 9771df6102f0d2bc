/- The plain structs of this seat: how they lie in cells, and their equality in the model. -/
import Derived.Test.YtkfckanbpmkbgaaDoorBase
import Derived.Laws.StructEq
namespace Go.Proofs.YtkfckanbpmkbgaaDoor
open Go Go.RowKit
theorem toList_ne {a b : ByteArray} (h : ¬ a = b) : ¬ a.toList = b.toList := fun e => h (by
  rw [ByteArray.toList_eq, ByteArray.toList_eq] at e
  obtain ⟨⟨x⟩⟩ := a
  obtain ⟨⟨y⟩⟩ := b
  simp at e
  rw [e])
@[ext] structure Cube where
  mask : Int
  bits : Int
  deriving DecidableEq
def Cube.cells (a : Cube) : List Value := [i64 a.mask, i64 a.bits]
def Cube.ok (_ : Cube) : Prop := True
def TCube : Ty Cube := Ty.flat 2 Cube.cells (fun _ => rfl) Cube.ok
theorem cube_cells {w : World} {b o : Nat} {a : Cube} (h : w.rangeAt b o a.cells) : w.cell? ⟨b, o, none⟩ = some (i64 a.mask) ∧ w.cell? ⟨b, o + 1, none⟩ = some (i64 a.bits) :=
  ⟨h 0 _ rfl, h 1 _ rfl⟩
theorem Cube.eq_iff (a b : Cube) : a = b ↔ a.mask = b.mask ∧ a.bits = b.bits := by
  constructor
  · rintro rfl; simp
  · obtain ⟨x1, x2⟩ := a
    obtain ⟨y1, y2⟩ := b
    simp only []
    rintro ⟨rfl, rfl⟩
    rfl
theorem Cube.ne_of {a b : Cube} (h : ¬ a.mask = b.mask ∨ ¬ a.bits = b.bits) : ¬ a = b := by rintro rfl; simp at h
theorem one_cube (a : Cube) : ∀ u ∈ a.cells, u.oneCell' = true := by intro u hu; simp [Cube.cells] at hu; rcases hu with rfl | rfl <;> rfl
theorem eqlIn_cube (a0 b0 : Int) (a1 b1 : Int) (w : World) : (Op.equalIn 10000 33 (.agg #[i64 a0, i64 a1]) (.agg #[i64 b0, i64 b1])).run Tryd.prog w = .ok (decide (a0 = b0 ∧ a1 = b1)) w := by
  by_cases h0 : a0 = b0
  rotate_left
  · simp [h0, go_sem]
  by_cases h1 : a1 = b1
  · simp [h0, h1, go_sem]
  · simp [h0, h1, go_sem]
@[go_sem high] theorem eql_cube (a0 b0 : Int) (a1 b1 : Int) (w : World) : (binOp .eql 33 (.agg #[i64 a0, i64 a1]) (.agg #[i64 b0, i64 b1])).run Tryd.prog w = .ok (.bool (decide (a0 = b0 ∧ a1 = b1))) w := by simp [run_eql_struct, eqlIn_cube]
@[go_sem high] theorem neq_cube (a0 b0 : Int) (a1 b1 : Int) (w : World) : (binOp .neq 33 (.agg #[i64 a0, i64 a1]) (.agg #[i64 b0, i64 b1])).run Tryd.prog w = .ok (.bool (!decide (a0 = b0 ∧ a1 = b1))) w := by simp [run_neq_struct, eqlIn_cube]
theorem info_cube : (Tryd.prog.info? 33).map (fun i => (i.zero, i.size, i.bytes)) = some (some (.agg #[i64 0, i64 0]), 2, 16) := by kernel_rfl
@[ext] structure Rule where
  prio : Int
  cube : Cube
  out : Int
  set : Int
  value : Int
  deriving DecidableEq
def Rule.cells (a : Rule) : List Value := [i64 a.prio, i64 a.cube.mask, i64 a.cube.bits, i64 a.out, i64 a.set, i64 a.value]
def Rule.ok (_ : Rule) : Prop := True
def TRule : Ty Rule := Ty.flat 6 Rule.cells (fun _ => rfl) Rule.ok
theorem rule_cells {w : World} {b o : Nat} {a : Rule} (h : w.rangeAt b o a.cells) : w.cell? ⟨b, o, none⟩ = some (i64 a.prio) ∧ w.cell? ⟨b, o + 1, none⟩ = some (i64 a.cube.mask) ∧ w.cell? ⟨b, o + 2, none⟩ = some (i64 a.cube.bits) ∧ w.cell? ⟨b, o + 3, none⟩ = some (i64 a.out) ∧ w.cell? ⟨b, o + 4, none⟩ = some (i64 a.set) ∧ w.cell? ⟨b, o + 5, none⟩ = some (i64 a.value) :=
  ⟨h 0 _ rfl, h 1 _ rfl, h 2 _ rfl, h 3 _ rfl, h 4 _ rfl, h 5 _ rfl⟩
theorem Rule.eq_iff (a b : Rule) : a = b ↔ a.prio = b.prio ∧ a.cube.mask = b.cube.mask ∧ a.cube.bits = b.cube.bits ∧ a.out = b.out ∧ a.set = b.set ∧ a.value = b.value := by
  constructor
  · rintro rfl; simp
  · obtain ⟨x1, ⟨x2, x3⟩, x4, x5, x6⟩ := a
    obtain ⟨y1, ⟨y2, y3⟩, y4, y5, y6⟩ := b
    simp only []
    rintro ⟨rfl, rfl, rfl, rfl, rfl, rfl⟩
    rfl
theorem Rule.ne_of {a b : Rule} (h : ¬ a.prio = b.prio ∨ ¬ a.cube.mask = b.cube.mask ∨ ¬ a.cube.bits = b.cube.bits ∨ ¬ a.out = b.out ∨ ¬ a.set = b.set ∨ ¬ a.value = b.value) : ¬ a = b := by rintro rfl; simp at h
theorem one_rule (a : Rule) : ∀ u ∈ a.cells, u.oneCell' = true := by intro u hu; simp [Rule.cells] at hu; rcases hu with rfl | rfl | rfl | rfl | rfl | rfl <;> rfl
theorem eqlIn_rule (a0 b0 : Int) (a1 b1 : Int) (a2 b2 : Int) (a3 b3 : Int) (a4 b4 : Int) (a5 b5 : Int) (w : World) : (Op.equalIn 10000 35 (.agg #[i64 a0, i64 a1, i64 a2, i64 a3, i64 a4, i64 a5]) (.agg #[i64 b0, i64 b1, i64 b2, i64 b3, i64 b4, i64 b5])).run Tryd.prog w = .ok (decide (a0 = b0 ∧ a1 = b1 ∧ a2 = b2 ∧ a3 = b3 ∧ a4 = b4 ∧ a5 = b5)) w := by
  by_cases h0 : a0 = b0
  rotate_left
  · simp [h0, go_sem]
  by_cases h1 : a1 = b1
  rotate_left
  · simp [h0, h1, go_sem]
  by_cases h2 : a2 = b2
  rotate_left
  · simp [h0, h1, h2, go_sem]
  by_cases h3 : a3 = b3
  rotate_left
  · simp [h0, h1, h2, h3, go_sem]
  by_cases h4 : a4 = b4
  rotate_left
  · simp [h0, h1, h2, h3, h4, go_sem]
  by_cases h5 : a5 = b5
  · simp [h0, h1, h2, h3, h4, h5, go_sem]
  · simp [h0, h1, h2, h3, h4, h5, go_sem]
@[go_sem high] theorem eql_rule (a0 b0 : Int) (a1 b1 : Int) (a2 b2 : Int) (a3 b3 : Int) (a4 b4 : Int) (a5 b5 : Int) (w : World) : (binOp .eql 35 (.agg #[i64 a0, i64 a1, i64 a2, i64 a3, i64 a4, i64 a5]) (.agg #[i64 b0, i64 b1, i64 b2, i64 b3, i64 b4, i64 b5])).run Tryd.prog w = .ok (.bool (decide (a0 = b0 ∧ a1 = b1 ∧ a2 = b2 ∧ a3 = b3 ∧ a4 = b4 ∧ a5 = b5))) w := by simp [run_eql_struct, eqlIn_rule]
@[go_sem high] theorem neq_rule (a0 b0 : Int) (a1 b1 : Int) (a2 b2 : Int) (a3 b3 : Int) (a4 b4 : Int) (a5 b5 : Int) (w : World) : (binOp .neq 35 (.agg #[i64 a0, i64 a1, i64 a2, i64 a3, i64 a4, i64 a5]) (.agg #[i64 b0, i64 b1, i64 b2, i64 b3, i64 b4, i64 b5])).run Tryd.prog w = .ok (.bool (!decide (a0 = b0 ∧ a1 = b1 ∧ a2 = b2 ∧ a3 = b3 ∧ a4 = b4 ∧ a5 = b5))) w := by simp [run_neq_struct, eqlIn_rule]
theorem info_rule : (Tryd.prog.info? 35).map (fun i => (i.zero, i.size, i.bytes)) = some (some (.agg #[i64 0, i64 0, i64 0, i64 0, i64 0, i64 0]), 6, 48) := by kernel_rfl
@[ext] structure Op where
  switch : Int
  add : Bool
  rule : Rule
  deriving DecidableEq
def Op.cells (a : Op) : List Value := [i64 a.switch, Value.bool a.add, i64 a.rule.prio, i64 a.rule.cube.mask, i64 a.rule.cube.bits, i64 a.rule.out, i64 a.rule.set, i64 a.rule.value]
def Op.ok (_ : Op) : Prop := True
def TOp : Ty Op := Ty.flat 8 Op.cells (fun _ => rfl) Op.ok
theorem op_cells {w : World} {b o : Nat} {a : Op} (h : w.rangeAt b o a.cells) : w.cell? ⟨b, o, none⟩ = some (i64 a.switch) ∧ w.cell? ⟨b, o + 1, none⟩ = some (Value.bool a.add) ∧ w.cell? ⟨b, o + 2, none⟩ = some (i64 a.rule.prio) ∧ w.cell? ⟨b, o + 3, none⟩ = some (i64 a.rule.cube.mask) ∧ w.cell? ⟨b, o + 4, none⟩ = some (i64 a.rule.cube.bits) ∧ w.cell? ⟨b, o + 5, none⟩ = some (i64 a.rule.out) ∧ w.cell? ⟨b, o + 6, none⟩ = some (i64 a.rule.set) ∧ w.cell? ⟨b, o + 7, none⟩ = some (i64 a.rule.value) :=
  ⟨h 0 _ rfl, h 1 _ rfl, h 2 _ rfl, h 3 _ rfl, h 4 _ rfl, h 5 _ rfl, h 6 _ rfl, h 7 _ rfl⟩
theorem Op.eq_iff (a b : Op) : a = b ↔ a.switch = b.switch ∧ a.add = b.add ∧ a.rule.prio = b.rule.prio ∧ a.rule.cube.mask = b.rule.cube.mask ∧ a.rule.cube.bits = b.rule.cube.bits ∧ a.rule.out = b.rule.out ∧ a.rule.set = b.rule.set ∧ a.rule.value = b.rule.value := by
  constructor
  · rintro rfl; simp
  · obtain ⟨x1, x2, ⟨x3, ⟨x4, x5⟩, x6, x7, x8⟩⟩ := a
    obtain ⟨y1, y2, ⟨y3, ⟨y4, y5⟩, y6, y7, y8⟩⟩ := b
    simp only []
    rintro ⟨rfl, rfl, rfl, rfl, rfl, rfl, rfl, rfl⟩
    rfl
theorem Op.ne_of {a b : Op} (h : ¬ a.switch = b.switch ∨ ¬ a.add = b.add ∨ ¬ a.rule.prio = b.rule.prio ∨ ¬ a.rule.cube.mask = b.rule.cube.mask ∨ ¬ a.rule.cube.bits = b.rule.cube.bits ∨ ¬ a.rule.out = b.rule.out ∨ ¬ a.rule.set = b.rule.set ∨ ¬ a.rule.value = b.rule.value) : ¬ a = b := by rintro rfl; simp at h
theorem one_op (a : Op) : ∀ u ∈ a.cells, u.oneCell' = true := by intro u hu; simp [Op.cells] at hu; rcases hu with rfl | rfl | rfl | rfl | rfl | rfl | rfl | rfl <;> rfl
theorem eqlIn_op (a0 b0 : Int) (a1 b1 : Bool) (a2 b2 : Int) (a3 b3 : Int) (a4 b4 : Int) (a5 b5 : Int) (a6 b6 : Int) (a7 b7 : Int) (w : World) : (Op.equalIn 10000 37 (.agg #[i64 a0, Value.bool a1, i64 a2, i64 a3, i64 a4, i64 a5, i64 a6, i64 a7]) (.agg #[i64 b0, Value.bool b1, i64 b2, i64 b3, i64 b4, i64 b5, i64 b6, i64 b7])).run Tryd.prog w = .ok (decide (a0 = b0 ∧ a1 = b1 ∧ a2 = b2 ∧ a3 = b3 ∧ a4 = b4 ∧ a5 = b5 ∧ a6 = b6 ∧ a7 = b7)) w := by
  by_cases h0 : a0 = b0
  rotate_left
  · simp [h0, go_sem]
  by_cases h1 : a1 = b1
  rotate_left
  · simp [h0, h1, go_sem]
  by_cases h2 : a2 = b2
  rotate_left
  · simp [h0, h1, h2, go_sem]
  by_cases h3 : a3 = b3
  rotate_left
  · simp [h0, h1, h2, h3, go_sem]
  by_cases h4 : a4 = b4
  rotate_left
  · simp [h0, h1, h2, h3, h4, go_sem]
  by_cases h5 : a5 = b5
  rotate_left
  · simp [h0, h1, h2, h3, h4, h5, go_sem]
  by_cases h6 : a6 = b6
  rotate_left
  · simp [h0, h1, h2, h3, h4, h5, h6, go_sem]
  by_cases h7 : a7 = b7
  · simp [h0, h1, h2, h3, h4, h5, h6, h7, go_sem]
  · simp [h0, h1, h2, h3, h4, h5, h6, h7, go_sem]
@[go_sem high] theorem eql_op (a0 b0 : Int) (a1 b1 : Bool) (a2 b2 : Int) (a3 b3 : Int) (a4 b4 : Int) (a5 b5 : Int) (a6 b6 : Int) (a7 b7 : Int) (w : World) : (binOp .eql 37 (.agg #[i64 a0, Value.bool a1, i64 a2, i64 a3, i64 a4, i64 a5, i64 a6, i64 a7]) (.agg #[i64 b0, Value.bool b1, i64 b2, i64 b3, i64 b4, i64 b5, i64 b6, i64 b7])).run Tryd.prog w = .ok (.bool (decide (a0 = b0 ∧ a1 = b1 ∧ a2 = b2 ∧ a3 = b3 ∧ a4 = b4 ∧ a5 = b5 ∧ a6 = b6 ∧ a7 = b7))) w := by simp [run_eql_struct, eqlIn_op]
@[go_sem high] theorem neq_op (a0 b0 : Int) (a1 b1 : Bool) (a2 b2 : Int) (a3 b3 : Int) (a4 b4 : Int) (a5 b5 : Int) (a6 b6 : Int) (a7 b7 : Int) (w : World) : (binOp .neq 37 (.agg #[i64 a0, Value.bool a1, i64 a2, i64 a3, i64 a4, i64 a5, i64 a6, i64 a7]) (.agg #[i64 b0, Value.bool b1, i64 b2, i64 b3, i64 b4, i64 b5, i64 b6, i64 b7])).run Tryd.prog w = .ok (.bool (!decide (a0 = b0 ∧ a1 = b1 ∧ a2 = b2 ∧ a3 = b3 ∧ a4 = b4 ∧ a5 = b5 ∧ a6 = b6 ∧ a7 = b7))) w := by simp [run_neq_struct, eqlIn_op]
theorem info_op : (Tryd.prog.info? 37).map (fun i => (i.zero, i.size, i.bytes)) = some (some (.agg #[i64 0, Value.bool false, i64 0, i64 0, i64 0, i64 0, i64 0, i64 0]), 8, 64) := by kernel_rfl
@[ext] structure Msg where
  kind : Int
  switch : Int
  round : Int
  index : Int
  op : Op
  deriving DecidableEq
def Msg.cells (a : Msg) : List Value := [i64 a.kind, i64 a.switch, i64 a.round, i64 a.index, i64 a.op.switch, Value.bool a.op.add, i64 a.op.rule.prio, i64 a.op.rule.cube.mask, i64 a.op.rule.cube.bits, i64 a.op.rule.out, i64 a.op.rule.set, i64 a.op.rule.value]
def Msg.ok (_ : Msg) : Prop := True
def TMsg : Ty Msg := Ty.flat 12 Msg.cells (fun _ => rfl) Msg.ok
theorem msg_cells {w : World} {b o : Nat} {a : Msg} (h : w.rangeAt b o a.cells) : w.cell? ⟨b, o, none⟩ = some (i64 a.kind) ∧ w.cell? ⟨b, o + 1, none⟩ = some (i64 a.switch) ∧ w.cell? ⟨b, o + 2, none⟩ = some (i64 a.round) ∧ w.cell? ⟨b, o + 3, none⟩ = some (i64 a.index) ∧ w.cell? ⟨b, o + 4, none⟩ = some (i64 a.op.switch) ∧ w.cell? ⟨b, o + 5, none⟩ = some (Value.bool a.op.add) ∧ w.cell? ⟨b, o + 6, none⟩ = some (i64 a.op.rule.prio) ∧ w.cell? ⟨b, o + 7, none⟩ = some (i64 a.op.rule.cube.mask) ∧ w.cell? ⟨b, o + 8, none⟩ = some (i64 a.op.rule.cube.bits) ∧ w.cell? ⟨b, o + 9, none⟩ = some (i64 a.op.rule.out) ∧ w.cell? ⟨b, o + 10, none⟩ = some (i64 a.op.rule.set) ∧ w.cell? ⟨b, o + 11, none⟩ = some (i64 a.op.rule.value) :=
  ⟨h 0 _ rfl, h 1 _ rfl, h 2 _ rfl, h 3 _ rfl, h 4 _ rfl, h 5 _ rfl, h 6 _ rfl, h 7 _ rfl, h 8 _ rfl, h 9 _ rfl, h 10 _ rfl, h 11 _ rfl⟩
theorem Msg.eq_iff (a b : Msg) : a = b ↔ a.kind = b.kind ∧ a.switch = b.switch ∧ a.round = b.round ∧ a.index = b.index ∧ a.op.switch = b.op.switch ∧ a.op.add = b.op.add ∧ a.op.rule.prio = b.op.rule.prio ∧ a.op.rule.cube.mask = b.op.rule.cube.mask ∧ a.op.rule.cube.bits = b.op.rule.cube.bits ∧ a.op.rule.out = b.op.rule.out ∧ a.op.rule.set = b.op.rule.set ∧ a.op.rule.value = b.op.rule.value := by
  constructor
  · rintro rfl; simp
  · obtain ⟨x1, x2, x3, x4, ⟨x5, x6, ⟨x7, ⟨x8, x9⟩, x10, x11, x12⟩⟩⟩ := a
    obtain ⟨y1, y2, y3, y4, ⟨y5, y6, ⟨y7, ⟨y8, y9⟩, y10, y11, y12⟩⟩⟩ := b
    simp only []
    rintro ⟨rfl, rfl, rfl, rfl, rfl, rfl, rfl, rfl, rfl, rfl, rfl, rfl⟩
    rfl
theorem Msg.ne_of {a b : Msg} (h : ¬ a.kind = b.kind ∨ ¬ a.switch = b.switch ∨ ¬ a.round = b.round ∨ ¬ a.index = b.index ∨ ¬ a.op.switch = b.op.switch ∨ ¬ a.op.add = b.op.add ∨ ¬ a.op.rule.prio = b.op.rule.prio ∨ ¬ a.op.rule.cube.mask = b.op.rule.cube.mask ∨ ¬ a.op.rule.cube.bits = b.op.rule.cube.bits ∨ ¬ a.op.rule.out = b.op.rule.out ∨ ¬ a.op.rule.set = b.op.rule.set ∨ ¬ a.op.rule.value = b.op.rule.value) : ¬ a = b := by rintro rfl; simp at h
theorem one_msg (a : Msg) : ∀ u ∈ a.cells, u.oneCell' = true := by intro u hu; simp [Msg.cells] at hu; rcases hu with rfl | rfl | rfl | rfl | rfl | rfl | rfl | rfl | rfl | rfl | rfl | rfl <;> rfl
theorem eqlIn_msg (a0 b0 : Int) (a1 b1 : Int) (a2 b2 : Int) (a3 b3 : Int) (a4 b4 : Int) (a5 b5 : Bool) (a6 b6 : Int) (a7 b7 : Int) (a8 b8 : Int) (a9 b9 : Int) (a10 b10 : Int) (a11 b11 : Int) (w : World) : (Op.equalIn 10000 39 (.agg #[i64 a0, i64 a1, i64 a2, i64 a3, i64 a4, Value.bool a5, i64 a6, i64 a7, i64 a8, i64 a9, i64 a10, i64 a11]) (.agg #[i64 b0, i64 b1, i64 b2, i64 b3, i64 b4, Value.bool b5, i64 b6, i64 b7, i64 b8, i64 b9, i64 b10, i64 b11])).run Tryd.prog w = .ok (decide (a0 = b0 ∧ a1 = b1 ∧ a2 = b2 ∧ a3 = b3 ∧ a4 = b4 ∧ a5 = b5 ∧ a6 = b6 ∧ a7 = b7 ∧ a8 = b8 ∧ a9 = b9 ∧ a10 = b10 ∧ a11 = b11)) w := by
  by_cases h0 : a0 = b0
  rotate_left
  · simp [h0, go_sem]
  by_cases h1 : a1 = b1
  rotate_left
  · simp [h0, h1, go_sem]
  by_cases h2 : a2 = b2
  rotate_left
  · simp [h0, h1, h2, go_sem]
  by_cases h3 : a3 = b3
  rotate_left
  · simp [h0, h1, h2, h3, go_sem]
  by_cases h4 : a4 = b4
  rotate_left
  · simp [h0, h1, h2, h3, h4, go_sem]
  by_cases h5 : a5 = b5
  rotate_left
  · simp [h0, h1, h2, h3, h4, h5, go_sem]
  by_cases h6 : a6 = b6
  rotate_left
  · simp [h0, h1, h2, h3, h4, h5, h6, go_sem]
  by_cases h7 : a7 = b7
  rotate_left
  · simp [h0, h1, h2, h3, h4, h5, h6, h7, go_sem]
  by_cases h8 : a8 = b8
  rotate_left
  · simp [h0, h1, h2, h3, h4, h5, h6, h7, h8, go_sem]
  by_cases h9 : a9 = b9
  rotate_left
  · simp [h0, h1, h2, h3, h4, h5, h6, h7, h8, h9, go_sem]
  by_cases h10 : a10 = b10
  rotate_left
  · simp [h0, h1, h2, h3, h4, h5, h6, h7, h8, h9, h10, go_sem]
  by_cases h11 : a11 = b11
  · simp [h0, h1, h2, h3, h4, h5, h6, h7, h8, h9, h10, h11, go_sem]
  · simp [h0, h1, h2, h3, h4, h5, h6, h7, h8, h9, h10, h11, go_sem]
@[go_sem high] theorem eql_msg (a0 b0 : Int) (a1 b1 : Int) (a2 b2 : Int) (a3 b3 : Int) (a4 b4 : Int) (a5 b5 : Bool) (a6 b6 : Int) (a7 b7 : Int) (a8 b8 : Int) (a9 b9 : Int) (a10 b10 : Int) (a11 b11 : Int) (w : World) : (binOp .eql 39 (.agg #[i64 a0, i64 a1, i64 a2, i64 a3, i64 a4, Value.bool a5, i64 a6, i64 a7, i64 a8, i64 a9, i64 a10, i64 a11]) (.agg #[i64 b0, i64 b1, i64 b2, i64 b3, i64 b4, Value.bool b5, i64 b6, i64 b7, i64 b8, i64 b9, i64 b10, i64 b11])).run Tryd.prog w = .ok (.bool (decide (a0 = b0 ∧ a1 = b1 ∧ a2 = b2 ∧ a3 = b3 ∧ a4 = b4 ∧ a5 = b5 ∧ a6 = b6 ∧ a7 = b7 ∧ a8 = b8 ∧ a9 = b9 ∧ a10 = b10 ∧ a11 = b11))) w := by simp [run_eql_struct, eqlIn_msg]
@[go_sem high] theorem neq_msg (a0 b0 : Int) (a1 b1 : Int) (a2 b2 : Int) (a3 b3 : Int) (a4 b4 : Int) (a5 b5 : Bool) (a6 b6 : Int) (a7 b7 : Int) (a8 b8 : Int) (a9 b9 : Int) (a10 b10 : Int) (a11 b11 : Int) (w : World) : (binOp .neq 39 (.agg #[i64 a0, i64 a1, i64 a2, i64 a3, i64 a4, Value.bool a5, i64 a6, i64 a7, i64 a8, i64 a9, i64 a10, i64 a11]) (.agg #[i64 b0, i64 b1, i64 b2, i64 b3, i64 b4, Value.bool b5, i64 b6, i64 b7, i64 b8, i64 b9, i64 b10, i64 b11])).run Tryd.prog w = .ok (.bool (!decide (a0 = b0 ∧ a1 = b1 ∧ a2 = b2 ∧ a3 = b3 ∧ a4 = b4 ∧ a5 = b5 ∧ a6 = b6 ∧ a7 = b7 ∧ a8 = b8 ∧ a9 = b9 ∧ a10 = b10 ∧ a11 = b11))) w := by simp [run_neq_struct, eqlIn_msg]
theorem info_msg : (Tryd.prog.info? 39).map (fun i => (i.zero, i.size, i.bytes)) = some (some (.agg #[i64 0, i64 0, i64 0, i64 0, i64 0, Value.bool false, i64 0, i64 0, i64 0, i64 0, i64 0, i64 0]), 12, 96) := by kernel_rfl
@[ext] structure Spot where
  switch : Int
  port : Int
  deriving DecidableEq
def Spot.cells (a : Spot) : List Value := [i64 a.switch, i64 a.port]
def Spot.ok (_ : Spot) : Prop := True
def TSpot : Ty Spot := Ty.flat 2 Spot.cells (fun _ => rfl) Spot.ok
theorem spot_cells {w : World} {b o : Nat} {a : Spot} (h : w.rangeAt b o a.cells) : w.cell? ⟨b, o, none⟩ = some (i64 a.switch) ∧ w.cell? ⟨b, o + 1, none⟩ = some (i64 a.port) :=
  ⟨h 0 _ rfl, h 1 _ rfl⟩
theorem Spot.eq_iff (a b : Spot) : a = b ↔ a.switch = b.switch ∧ a.port = b.port := by
  constructor
  · rintro rfl; simp
  · obtain ⟨x1, x2⟩ := a
    obtain ⟨y1, y2⟩ := b
    simp only []
    rintro ⟨rfl, rfl⟩
    rfl
theorem Spot.ne_of {a b : Spot} (h : ¬ a.switch = b.switch ∨ ¬ a.port = b.port) : ¬ a = b := by rintro rfl; simp at h
theorem one_spot (a : Spot) : ∀ u ∈ a.cells, u.oneCell' = true := by intro u hu; simp [Spot.cells] at hu; rcases hu with rfl | rfl <;> rfl
@[ext] structure Link where
  a : Spot
  b : Spot
  deriving DecidableEq
def Link.cells (a : Link) : List Value := [i64 a.a.switch, i64 a.a.port, i64 a.b.switch, i64 a.b.port]
def Link.ok (_ : Link) : Prop := True
def TLink : Ty Link := Ty.flat 4 Link.cells (fun _ => rfl) Link.ok
theorem link_cells {w : World} {b o : Nat} {a : Link} (h : w.rangeAt b o a.cells) : w.cell? ⟨b, o, none⟩ = some (i64 a.a.switch) ∧ w.cell? ⟨b, o + 1, none⟩ = some (i64 a.a.port) ∧ w.cell? ⟨b, o + 2, none⟩ = some (i64 a.b.switch) ∧ w.cell? ⟨b, o + 3, none⟩ = some (i64 a.b.port) :=
  ⟨h 0 _ rfl, h 1 _ rfl, h 2 _ rfl, h 3 _ rfl⟩
theorem Link.eq_iff (a b : Link) : a = b ↔ a.a.switch = b.a.switch ∧ a.a.port = b.a.port ∧ a.b.switch = b.b.switch ∧ a.b.port = b.b.port := by
  constructor
  · rintro rfl; simp
  · obtain ⟨⟨x1, x2⟩, ⟨x3, x4⟩⟩ := a
    obtain ⟨⟨y1, y2⟩, ⟨y3, y4⟩⟩ := b
    simp only []
    rintro ⟨rfl, rfl, rfl, rfl⟩
    rfl
theorem Link.ne_of {a b : Link} (h : ¬ a.a.switch = b.a.switch ∨ ¬ a.a.port = b.a.port ∨ ¬ a.b.switch = b.b.switch ∨ ¬ a.b.port = b.b.port) : ¬ a = b := by rintro rfl; simp at h
theorem one_link (a : Link) : ∀ u ∈ a.cells, u.oneCell' = true := by intro u hu; simp [Link.cells] at hu; rcases hu with rfl | rfl | rfl | rfl <;> rfl
@[ext] structure Host where
  name : ByteArray
  spot : Spot
  deriving DecidableEq
def Host.cells (a : Host) : List Value := [Value.string a.name, i64 a.spot.switch, i64 a.spot.port]
def Host.ok (a : Host) : Prop := a.name.size ≤ maxLen
def THost : Ty Host := Ty.flat 3 Host.cells (fun _ => rfl) Host.ok
theorem host_cells {w : World} {b o : Nat} {a : Host} (h : w.rangeAt b o a.cells) : w.cell? ⟨b, o, none⟩ = some (Value.string a.name) ∧ w.cell? ⟨b, o + 1, none⟩ = some (i64 a.spot.switch) ∧ w.cell? ⟨b, o + 2, none⟩ = some (i64 a.spot.port) :=
  ⟨h 0 _ rfl, h 1 _ rfl, h 2 _ rfl⟩
theorem Host.eq_iff (a b : Host) : a = b ↔ a.name = b.name ∧ a.spot.switch = b.spot.switch ∧ a.spot.port = b.spot.port := by
  constructor
  · rintro rfl; simp
  · obtain ⟨x1, ⟨x2, x3⟩⟩ := a
    obtain ⟨y1, ⟨y2, y3⟩⟩ := b
    simp only []
    rintro ⟨rfl, rfl, rfl⟩
    rfl
theorem Host.ne_of {a b : Host} (h : ¬ a.name = b.name ∨ ¬ a.spot.switch = b.spot.switch ∨ ¬ a.spot.port = b.spot.port) : ¬ a = b := by rintro rfl; simp at h
theorem one_host (a : Host) : ∀ u ∈ a.cells, u.oneCell' = true := by intro u hu; simp [Host.cells] at hu; rcases hu with rfl | rfl | rfl <;> rfl
@[ext] structure Hop where
  spot : Spot
  header : Int
  deriving DecidableEq
def Hop.cells (a : Hop) : List Value := [i64 a.spot.switch, i64 a.spot.port, i64 a.header]
def Hop.ok (_ : Hop) : Prop := True
def THop : Ty Hop := Ty.flat 3 Hop.cells (fun _ => rfl) Hop.ok
theorem hop_cells {w : World} {b o : Nat} {a : Hop} (h : w.rangeAt b o a.cells) : w.cell? ⟨b, o, none⟩ = some (i64 a.spot.switch) ∧ w.cell? ⟨b, o + 1, none⟩ = some (i64 a.spot.port) ∧ w.cell? ⟨b, o + 2, none⟩ = some (i64 a.header) :=
  ⟨h 0 _ rfl, h 1 _ rfl, h 2 _ rfl⟩
theorem Hop.eq_iff (a b : Hop) : a = b ↔ a.spot.switch = b.spot.switch ∧ a.spot.port = b.spot.port ∧ a.header = b.header := by
  constructor
  · rintro rfl; simp
  · obtain ⟨⟨x1, x2⟩, x3⟩ := a
    obtain ⟨⟨y1, y2⟩, y3⟩ := b
    simp only []
    rintro ⟨rfl, rfl, rfl⟩
    rfl
theorem Hop.ne_of {a b : Hop} (h : ¬ a.spot.switch = b.spot.switch ∨ ¬ a.spot.port = b.spot.port ∨ ¬ a.header = b.header) : ¬ a = b := by rintro rfl; simp at h
theorem one_hop (a : Hop) : ∀ u ∈ a.cells, u.oneCell' = true := by intro u hu; simp [Hop.cells] at hu; rcases hu with rfl | rfl | rfl <;> rfl
@[ext] structure Wish where
  what : Int
  frm : ByteArray
  to : ByteArray
  via : Int
  deriving DecidableEq
def Wish.cells (a : Wish) : List Value := [i64 a.what, Value.string a.frm, Value.string a.to, i64 a.via]
def Wish.ok (a : Wish) : Prop := a.frm.size ≤ maxLen ∧ a.to.size ≤ maxLen
def TWish : Ty Wish := Ty.flat 4 Wish.cells (fun _ => rfl) Wish.ok
theorem wish_cells {w : World} {b o : Nat} {a : Wish} (h : w.rangeAt b o a.cells) : w.cell? ⟨b, o, none⟩ = some (i64 a.what) ∧ w.cell? ⟨b, o + 1, none⟩ = some (Value.string a.frm) ∧ w.cell? ⟨b, o + 2, none⟩ = some (Value.string a.to) ∧ w.cell? ⟨b, o + 3, none⟩ = some (i64 a.via) :=
  ⟨h 0 _ rfl, h 1 _ rfl, h 2 _ rfl, h 3 _ rfl⟩
theorem Wish.eq_iff (a b : Wish) : a = b ↔ a.what = b.what ∧ a.frm = b.frm ∧ a.to = b.to ∧ a.via = b.via := by
  constructor
  · rintro rfl; simp
  · obtain ⟨x1, x2, x3, x4⟩ := a
    obtain ⟨y1, y2, y3, y4⟩ := b
    simp only []
    rintro ⟨rfl, rfl, rfl, rfl⟩
    rfl
theorem Wish.ne_of {a b : Wish} (h : ¬ a.what = b.what ∨ ¬ a.frm = b.frm ∨ ¬ a.to = b.to ∨ ¬ a.via = b.via) : ¬ a = b := by rintro rfl; simp at h
theorem one_wish (a : Wish) : ∀ u ∈ a.cells, u.oneCell' = true := by intro u hu; simp [Wish.cells] at hu; rcases hu with rfl | rfl | rfl | rfl <;> rfl
@[ext] structure Proof where
  wish : Int
  frm : ByteArray
  header : Int
  deriving DecidableEq
def Proof.cells (a : Proof) : List Value := [i64 a.wish, Value.string a.frm, i64 a.header]
def Proof.ok (a : Proof) : Prop := a.frm.size ≤ maxLen
def TProof : Ty Proof := Ty.flat 3 Proof.cells (fun _ => rfl) Proof.ok
theorem proof_cells {w : World} {b o : Nat} {a : Proof} (h : w.rangeAt b o a.cells) : w.cell? ⟨b, o, none⟩ = some (i64 a.wish) ∧ w.cell? ⟨b, o + 1, none⟩ = some (Value.string a.frm) ∧ w.cell? ⟨b, o + 2, none⟩ = some (i64 a.header) :=
  ⟨h 0 _ rfl, h 1 _ rfl, h 2 _ rfl⟩
theorem Proof.eq_iff (a b : Proof) : a = b ↔ a.wish = b.wish ∧ a.frm = b.frm ∧ a.header = b.header := by
  constructor
  · rintro rfl; simp
  · obtain ⟨x1, x2, x3⟩ := a
    obtain ⟨y1, y2, y3⟩ := b
    simp only []
    rintro ⟨rfl, rfl, rfl⟩
    rfl
theorem Proof.ne_of {a b : Proof} (h : ¬ a.wish = b.wish ∨ ¬ a.frm = b.frm ∨ ¬ a.header = b.header) : ¬ a = b := by rintro rfl; simp at h
theorem one_proof (a : Proof) : ∀ u ∈ a.cells, u.oneCell' = true := by intro u hu; simp [Proof.cells] at hu; rcases hu with rfl | rfl | rfl <;> rfl
@[ext] structure Event where
  what : Int
  a : Int
  b : Int
  deriving DecidableEq
def Event.cells (a : Event) : List Value := [i64 a.what, i64 a.a, i64 a.b]
def Event.ok (_ : Event) : Prop := True
def TEvent : Ty Event := Ty.flat 3 Event.cells (fun _ => rfl) Event.ok
theorem event_cells {w : World} {b o : Nat} {a : Event} (h : w.rangeAt b o a.cells) : w.cell? ⟨b, o, none⟩ = some (i64 a.what) ∧ w.cell? ⟨b, o + 1, none⟩ = some (i64 a.a) ∧ w.cell? ⟨b, o + 2, none⟩ = some (i64 a.b) :=
  ⟨h 0 _ rfl, h 1 _ rfl, h 2 _ rfl⟩
theorem Event.eq_iff (a b : Event) : a = b ↔ a.what = b.what ∧ a.a = b.a ∧ a.b = b.b := by
  constructor
  · rintro rfl; simp
  · obtain ⟨x1, x2, x3⟩ := a
    obtain ⟨y1, y2, y3⟩ := b
    simp only []
    rintro ⟨rfl, rfl, rfl⟩
    rfl
theorem Event.ne_of {a b : Event} (h : ¬ a.what = b.what ∨ ¬ a.a = b.a ∨ ¬ a.b = b.b) : ¬ a = b := by rintro rfl; simp at h
theorem one_event (a : Event) : ∀ u ∈ a.cells, u.oneCell' = true := by intro u hu; simp [Event.cells] at hu; rcases hu with rfl | rfl | rfl <;> rfl
end Go.Proofs.YtkfckanbpmkbgaaDoor
