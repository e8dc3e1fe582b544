/- A part of a proof about Go functions of this program: an evaluator with a memory of its own, and the proof that what it finds the model finds (Q8). No conditions beyond those that each theorem names. -/
import Derived.Test.YtohmkigjifhddaaGreatDoorAbsau
set_option linter.all false
set_option maxRecDepth 100000
set_option autoImplicit false
set_option linter.unusedSimpArgs false
namespace Go.Abs
section
@[go_sem] theorem on_alloc (t : Nat) : (Op.alloc t).operands.toList = [] := rfl
@[go_sem] theorem on_move (x : Operand) : (Op.move x).operands.toList = [x] := rfl
@[go_sem] theorem on_assign (x : Operand) : (Op.assign x).operands.toList = [x] := rfl
@[go_sem] theorem on_box (t : Nat) (x : Operand) : (Op.box t x).operands.toList = [x] := rfl
@[go_sem] theorem on_load (t : Nat) (x : Operand) : (Op.load t x).operands.toList = [x] := rfl
@[go_sem] theorem on_nil (x : Operand) : (Op.nilCheck x).operands.toList = [x] := rfl
@[go_sem] theorem on_un (o : UnOp) (t : Nat) (x : Operand) : (Op.unOp o t x).operands.toList = [x] := rfl
@[go_sem] theorem on_conv (s d : Nat) (x : Operand) : (Op.convert s d x).operands.toList = [x] := rfl
@[go_sem] theorem on_fieldAddr (t : Nat) (x : Operand) (f : Nat) : (Op.fieldAddr t x f).operands.toList = [x] := rfl
@[go_sem] theorem on_field (t : Nat) (x : Operand) (f : Nat) : (Op.field t x f).operands.toList = [x] := rfl
@[go_sem] theorem on_extract (x : Operand) (i : Nat) : (Op.extract x i).operands.toList = [x] := rfl
@[go_sem] theorem on_pick (x y z : Operand) : (Op.pick x y z).operands.toList = [x, y, z] := rfl
@[go_sem] theorem on_store (t : Nat) (x y : Operand) : (Op.store t x y).operands.toList = [x, y] := rfl
@[go_sem] theorem on_bin (o : BinOp) (t u : Nat) (x y : Operand) : (Op.binOp o t x y u).operands.toList = [x, y] := rfl
@[go_sem] theorem on_makeSl (t : Nat) (x y : Operand) : (Op.makeSlice t x y).operands.toList = [x, y] := rfl
@[go_sem] theorem on_indexAddr (t : Nat) (x y : Operand) : (Op.indexAddr t x y).operands.toList = [x, y] := rfl
@[go_sem] theorem on_index (t : Nat) (x y : Operand) : (Op.index t x y).operands.toList = [x, y] := rfl
@[go_sem] theorem on_build (t : Nat) (l : List (Nat × Operand)) : (Op.build t ⟨l⟩).operands.toList = l.map (·.2) := rfl
@[go_sem] theorem on_call (f : Operand) (l : List Operand) (ts : Array Nat) : (Op.call ⟨.value f, ⟨l⟩, ts⟩).operands.toList = f :: l := by simp [Op.operands, Call.operands]
@[go_sem] theorem on_bcall (b : Builtin) (l : List Operand) (ts : Array Nat) : (Op.call ⟨.builtin b, ⟨l⟩, ts⟩).operands.toList = l := by simp [Op.operands, Call.operands]
@[go_sem] theorem get_bl (h : Heap) (n b : Nat) : (⟨h.bl, n⟩ : Heap).get b = h.get b := rfl
end
open Go.Proofs
variable {N : Nat} {h : Heap}
set_option maxHeartbeats 1000000 in
theorem sTidy0 (was logged size spare l c g : Int) (n : Nat) (e1 : IntKind.wrap .i64 spare = spare) (e2 : spare.tmod 1025 = l) (e3 : IntKind.wrap .i64 size = size) (e4 : size.tmod 1200 = (n : Int))
    (e5 : was.tmod 6 = c) (e6 : IntKind.wrap .i64 c = c) (e7 : logged.tmod 3 = g) (e8 : IntKind.wrap .i64 g = g) (hn : n < 1200) (hl0 : 0 ≤ l) (hl1 : l ≤ 30000) (h : Heap) (hf : ∀ b, h.next ≤ b → h.get b = none)
    (c1 : spareB n l = true) (c5 : 0 < g) : CallOK env Tryz.prog N 3 [.i .u8 was, .i .u16 logged, .i .u16 size, .i .u16 spare, .b true] h ⟨.b true, h⟩ := by
  refine walkP TD_ok envOK Tryz.func3 rfl Tryz.ntmps3 Tryz.results3 rfl (still_b _) fun K hK => ?_
  have hf' : ∀ k, h.get (h.next + k) = none := fun k => hf _ (Nat.le_add_right _ _)
  have mk : makeSl env 36 (.i .i64 (n : Int)) (.i .i64 (n : Int)) (h.next + 5) = some (.new (.bytes n 0 5) (.sl (h.next + 5) 0 n (.ex n))) := makeSl_b ty36 rfl ty5 rfl .i64 .i64 (by omega)
  have le0 : decide (0 + n ≤ n) = true := by simp
  have hg : gainsF n l c g true = true := by simp [gainsF, gainB, gainK, c1, c5]
  have a0 : n ≤ 30000 := by omega
  have a1 : (0 : Int) ≤ n := by omega
  have a2 : (n : Int) ≤ 30000 := by omega
  simp -implicitDefEqProofs (maxSteps := 100000) only [go_sem, e1, e2, e3, e4, e5, e6, e7, e8, c1, c5, TD9 _ _ a1 a2 hl0 hl1, TD10 _ a1, TD12, ty24, ty31, ty28, ty26, ty3, ty4, ty5, ty22, ty29, ty9, ty36, Int.reduceLT, Int.reduceLE, Int.reduceAdd, Int.reduceNeg, Int.reduceBEq, Nat.reduceEqDiff, Nat.reduceAdd, Nat.reduceMul, Nat.reduceSub, Nat.reduceLT, Nat.reduceLeDiff, reduceIte]
  refine ⟨([0,0,0,4,12,31,0,127,255,511,1023,2047],[0,1,2,3,4,5,6,7,8,9,10,11]), by decide +kernel, ?_⟩
  simp -implicitDefEqProofs (maxSteps := 100000) only [go_sem, c1, c5, TD12, hf', mk, le0, hg, Bool.true_and, TD11 _ _ _ _ _ _ _ _ _ _ _ _ a0 hl0 hl1, ty24, ty31, ty28, ty26, ty3, ty4, ty5, ty22, ty29, ty9, ty36, Int.reduceLT, Int.reduceLE, Int.reduceAdd, Int.reduceNeg, Int.reduceBEq, Nat.reduceEqDiff, Nat.reduceAdd, Nat.reduceMul, Nat.reduceSub, Nat.reduceLT, Nat.reduceLeDiff, reduceIte]
  refine hK _ fun b hb => ?_
  simp only [get_new, get_set, get_bl, next_set, next_new]
  rw [if_neg (by omega), if_neg (by omega), if_neg (by omega), if_neg (by omega)]
set_option maxHeartbeats 1000000 in
theorem sTidy1 (was logged size spare l c g : Int) (n : Nat) (e1 : IntKind.wrap .i64 spare = spare) (e2 : spare.tmod 1025 = l) (e3 : IntKind.wrap .i64 size = size) (e4 : size.tmod 1200 = (n : Int))
    (e5 : was.tmod 6 = c) (e6 : IntKind.wrap .i64 c = c) (e7 : logged.tmod 3 = g) (e8 : IntKind.wrap .i64 g = g) (hn : n < 1200) (hl0 : 0 ≤ l) (hl1 : l ≤ 30000) (h : Heap) (hf : ∀ b, h.next ≤ b → h.get b = none)
    (c1 : spareB n l = true) (c5 : ¬ 0 < g) (c6 : spareK n l < c) : CallOK env Tryz.prog N 3 [.i .u8 was, .i .u16 logged, .i .u16 size, .i .u16 spare, .b true] h ⟨.b true, h⟩ := by
  refine walkP TD_ok envOK Tryz.func3 rfl Tryz.ntmps3 Tryz.results3 rfl (still_b _) fun K hK => ?_
  have hf' : ∀ k, h.get (h.next + k) = none := fun k => hf _ (Nat.le_add_right _ _)
  have mk : makeSl env 36 (.i .i64 (n : Int)) (.i .i64 (n : Int)) (h.next + 5) = some (.new (.bytes n 0 5) (.sl (h.next + 5) 0 n (.ex n))) := makeSl_b ty36 rfl ty5 rfl .i64 .i64 (by omega)
  have le0 : decide (0 + n ≤ n) = true := by simp
  have hg : gainsF n l c g true = true := by simp [gainsF, gainB, gainK, c1, c5, c6]
  have a0 : n ≤ 30000 := by omega
  have a1 : (0 : Int) ≤ n := by omega
  have a2 : (n : Int) ≤ 30000 := by omega
  simp -implicitDefEqProofs (maxSteps := 100000) only [go_sem, e1, e2, e3, e4, e5, e6, e7, e8, c1, c5, c6, TD9 _ _ a1 a2 hl0 hl1, TD10 _ a1, TD12, ty24, ty31, ty28, ty26, ty3, ty4, ty5, ty22, ty29, ty9, ty36, Int.reduceLT, Int.reduceLE, Int.reduceAdd, Int.reduceNeg, Int.reduceBEq, Nat.reduceEqDiff, Nat.reduceAdd, Nat.reduceMul, Nat.reduceSub, Nat.reduceLT, Nat.reduceLeDiff, reduceIte]
  refine ⟨([0,0,0,4,12,31,0,127,255,511,1023,2047],[0,1,2,3,4,5,6,7,8,9,10,11]), by decide +kernel, ?_⟩
  simp -implicitDefEqProofs (maxSteps := 100000) only [go_sem, c1, c5, c6, TD12, hf', mk, le0, hg, Bool.true_and, TD11 _ _ _ _ _ _ _ _ _ _ _ _ a0 hl0 hl1, ty24, ty31, ty28, ty26, ty3, ty4, ty5, ty22, ty29, ty9, ty36, Int.reduceLT, Int.reduceLE, Int.reduceAdd, Int.reduceNeg, Int.reduceBEq, Nat.reduceEqDiff, Nat.reduceAdd, Nat.reduceMul, Nat.reduceSub, Nat.reduceLT, Nat.reduceLeDiff, reduceIte]
  refine hK _ fun b hb => ?_
  simp only [get_new, get_set, get_bl, next_set, next_new]
  rw [if_neg (by omega), if_neg (by omega), if_neg (by omega), if_neg (by omega)]
set_option maxHeartbeats 1000000 in
theorem sTidy2 (was logged size spare l c g : Int) (n : Nat) (e1 : IntKind.wrap .i64 spare = spare) (e2 : spare.tmod 1025 = l) (e3 : IntKind.wrap .i64 size = size) (e4 : size.tmod 1200 = (n : Int))
    (e5 : was.tmod 6 = c) (e6 : IntKind.wrap .i64 c = c) (e7 : logged.tmod 3 = g) (e8 : IntKind.wrap .i64 g = g) (hn : n < 1200) (hl0 : 0 ≤ l) (hl1 : l ≤ 30000) (h : Heap) (hf : ∀ b, h.next ≤ b → h.get b = none)
    (c1 : spareB n l = true) (c5 : ¬ 0 < g) (c6 : ¬ spareK n l < c) : CallOK env Tryz.prog N 3 [.i .u8 was, .i .u16 logged, .i .u16 size, .i .u16 spare, .b true] h ⟨.b true, h⟩ := by
  refine walkP TD_ok envOK Tryz.func3 rfl Tryz.ntmps3 Tryz.results3 rfl (still_b _) fun K hK => ?_
  have hf' : ∀ k, h.get (h.next + k) = none := fun k => hf _ (Nat.le_add_right _ _)
  have mk : makeSl env 36 (.i .i64 (n : Int)) (.i .i64 (n : Int)) (h.next + 5) = some (.new (.bytes n 0 5) (.sl (h.next + 5) 0 n (.ex n))) := makeSl_b ty36 rfl ty5 rfl .i64 .i64 (by omega)
  have le0 : decide (0 + n ≤ n) = true := by simp
  have hg : gainsF n l c g true = false := by simp [gainsF, gainB, gainK, c1, c5, c6]
  have a0 : n ≤ 30000 := by omega
  have a1 : (0 : Int) ≤ n := by omega
  have a2 : (n : Int) ≤ 30000 := by omega
  simp -implicitDefEqProofs (maxSteps := 100000) only [go_sem, e1, e2, e3, e4, e5, e6, e7, e8, c1, c5, c6, TD9 _ _ a1 a2 hl0 hl1, TD10 _ a1, TD12, ty24, ty31, ty28, ty26, ty3, ty4, ty5, ty22, ty29, ty9, ty36, Int.reduceLT, Int.reduceLE, Int.reduceAdd, Int.reduceNeg, Int.reduceBEq, Nat.reduceEqDiff, Nat.reduceAdd, Nat.reduceMul, Nat.reduceSub, Nat.reduceLT, Nat.reduceLeDiff, reduceIte]
  refine ⟨([0,0,0,4,12,31,0,127,255,511,1023,2047],[0,1,2,3,4,5,6,7,8,9,10,11]), by decide +kernel, ?_⟩
  simp -implicitDefEqProofs (maxSteps := 100000) only [go_sem, c1, c5, c6, TD12, hf', mk, le0, hg, Bool.true_and, TD11 _ _ _ _ _ _ _ _ _ _ _ _ a0 hl0 hl1, ty24, ty31, ty28, ty26, ty3, ty4, ty5, ty22, ty29, ty9, ty36, Int.reduceLT, Int.reduceLE, Int.reduceAdd, Int.reduceNeg, Int.reduceBEq, Nat.reduceEqDiff, Nat.reduceAdd, Nat.reduceMul, Nat.reduceSub, Nat.reduceLT, Nat.reduceLeDiff, reduceIte]
  refine hK _ fun b hb => ?_
  simp only [get_new, get_set, get_bl, next_set, next_new]
  rw [if_neg (by omega), if_neg (by omega), if_neg (by omega), if_neg (by omega)]
set_option maxHeartbeats 1000000 in
theorem sTidy3 (was logged size spare l c g : Int) (n : Nat) (e1 : IntKind.wrap .i64 spare = spare) (e2 : spare.tmod 1025 = l) (e3 : IntKind.wrap .i64 size = size) (e4 : size.tmod 1200 = (n : Int))
    (e5 : was.tmod 6 = c) (e6 : IntKind.wrap .i64 c = c) (e7 : logged.tmod 3 = g) (e8 : IntKind.wrap .i64 g = g) (hn : n < 1200) (hl0 : 0 ≤ l) (hl1 : l ≤ 30000) (h : Heap) (hf : ∀ b, h.next ≤ b → h.get b = none)
    (c1 : spareB n l = true) : CallOK env Tryz.prog N 3 [.i .u8 was, .i .u16 logged, .i .u16 size, .i .u16 spare, .b false] h ⟨.b true, h⟩ := by
  refine walkP TD_ok envOK Tryz.func3 rfl Tryz.ntmps3 Tryz.results3 rfl (still_b _) fun K hK => ?_
  have hf' : ∀ k, h.get (h.next + k) = none := fun k => hf _ (Nat.le_add_right _ _)
  have mk : makeSl env 36 (.i .i64 (n : Int)) (.i .i64 (n : Int)) (h.next + 5) = some (.new (.bytes n 0 5) (.sl (h.next + 5) 0 n (.ex n))) := makeSl_b ty36 rfl ty5 rfl .i64 .i64 (by omega)
  have le0 : decide (0 + n ≤ n) = true := by simp
  have hg : gainsF n l c g false = false := by simp [gainsF, gainB, gainK, c1]
  have a0 : n ≤ 30000 := by omega
  have a1 : (0 : Int) ≤ n := by omega
  have a2 : (n : Int) ≤ 30000 := by omega
  simp -implicitDefEqProofs (maxSteps := 100000) only [go_sem, e1, e2, e3, e4, e5, e6, e7, e8, c1, TD9 _ _ a1 a2 hl0 hl1, TD10 _ a1, TD12, ty24, ty31, ty28, ty26, ty3, ty4, ty5, ty22, ty29, ty9, ty36, Int.reduceLT, Int.reduceLE, Int.reduceAdd, Int.reduceNeg, Int.reduceBEq, Nat.reduceEqDiff, Nat.reduceAdd, Nat.reduceMul, Nat.reduceSub, Nat.reduceLT, Nat.reduceLeDiff, reduceIte]
  refine ⟨([0,0,0,4,12,31,0,127,255,511,1023,2047],[0,1,2,3,4,5,6,7,8,9,10,11]), by decide +kernel, ?_⟩
  simp -implicitDefEqProofs (maxSteps := 100000) only [go_sem, c1, TD12, hf', mk, le0, hg, Bool.true_and, TD11 _ _ _ _ _ _ _ _ _ _ _ _ a0 hl0 hl1, ty24, ty31, ty28, ty26, ty3, ty4, ty5, ty22, ty29, ty9, ty36, Int.reduceLT, Int.reduceLE, Int.reduceAdd, Int.reduceNeg, Int.reduceBEq, Nat.reduceEqDiff, Nat.reduceAdd, Nat.reduceMul, Nat.reduceSub, Nat.reduceLT, Nat.reduceLeDiff, reduceIte]
  refine hK _ fun b hb => ?_
  simp only [get_new, get_set, get_bl, next_set, next_new]
  rw [if_neg (by omega), if_neg (by omega), if_neg (by omega), if_neg (by omega)]
set_option maxHeartbeats 1000000 in
theorem sTidy4 (was logged size spare l c g : Int) (n : Nat) (e1 : IntKind.wrap .i64 spare = spare) (e2 : spare.tmod 1025 = l) (e3 : IntKind.wrap .i64 size = size) (e4 : size.tmod 1200 = (n : Int))
    (e5 : was.tmod 6 = c) (e6 : IntKind.wrap .i64 c = c) (e7 : logged.tmod 3 = g) (e8 : IntKind.wrap .i64 g = g) (hn : n < 1200) (hl0 : 0 ≤ l) (hl1 : l ≤ 30000) (h : Heap) (hf : ∀ b, h.next ≤ b → h.get b = none)
    (c1 : spareB n l = false) (c4 : fitB n = true) (c5 : 0 < g) : CallOK env Tryz.prog N 3 [.i .u8 was, .i .u16 logged, .i .u16 size, .i .u16 spare, .b true] h ⟨.b true, h⟩ := by
  refine walkP TD_ok envOK Tryz.func3 rfl Tryz.ntmps3 Tryz.results3 rfl (still_b _) fun K hK => ?_
  have hf' : ∀ k, h.get (h.next + k) = none := fun k => hf _ (Nat.le_add_right _ _)
  have mk : makeSl env 36 (.i .i64 (n : Int)) (.i .i64 (n : Int)) (h.next + 5) = some (.new (.bytes n 0 5) (.sl (h.next + 5) 0 n (.ex n))) := makeSl_b ty36 rfl ty5 rfl .i64 .i64 (by omega)
  have le0 : decide (0 + n ≤ n) = true := by simp
  have hg : gainsF n l c g true = true := by simp [gainsF, gainB, gainK, c1, c4, c5]
  have a0 : n ≤ 30000 := by omega
  have a1 : (0 : Int) ≤ n := by omega
  have a2 : (n : Int) ≤ 30000 := by omega
  simp -implicitDefEqProofs (maxSteps := 100000) only [go_sem, e1, e2, e3, e4, e5, e6, e7, e8, c1, c4, c5, TD9 _ _ a1 a2 hl0 hl1, TD10 _ a1, TD12, ty24, ty31, ty28, ty26, ty3, ty4, ty5, ty22, ty29, ty9, ty36, Int.reduceLT, Int.reduceLE, Int.reduceAdd, Int.reduceNeg, Int.reduceBEq, Nat.reduceEqDiff, Nat.reduceAdd, Nat.reduceMul, Nat.reduceSub, Nat.reduceLT, Nat.reduceLeDiff, reduceIte]
  refine ⟨([0,0,0,4,12,31,0,127,255,511,1023,2047],[0,1,2,3,4,5,6,7,8,9,10,11]), by decide +kernel, ?_⟩
  simp -implicitDefEqProofs (maxSteps := 100000) only [go_sem, c1, c4, c5, TD12, hf', mk, le0, hg, Bool.true_and, TD11 _ _ _ _ _ _ _ _ _ _ _ _ a0 hl0 hl1, ty24, ty31, ty28, ty26, ty3, ty4, ty5, ty22, ty29, ty9, ty36, Int.reduceLT, Int.reduceLE, Int.reduceAdd, Int.reduceNeg, Int.reduceBEq, Nat.reduceEqDiff, Nat.reduceAdd, Nat.reduceMul, Nat.reduceSub, Nat.reduceLT, Nat.reduceLeDiff, reduceIte]
  refine hK _ fun b hb => ?_
  simp only [get_new, get_set, get_bl, next_set, next_new]
  rw [if_neg (by omega), if_neg (by omega), if_neg (by omega), if_neg (by omega)]
set_option maxHeartbeats 1000000 in
theorem sTidy5 (was logged size spare l c g : Int) (n : Nat) (e1 : IntKind.wrap .i64 spare = spare) (e2 : spare.tmod 1025 = l) (e3 : IntKind.wrap .i64 size = size) (e4 : size.tmod 1200 = (n : Int))
    (e5 : was.tmod 6 = c) (e6 : IntKind.wrap .i64 c = c) (e7 : logged.tmod 3 = g) (e8 : IntKind.wrap .i64 g = g) (hn : n < 1200) (hl0 : 0 ≤ l) (hl1 : l ≤ 30000) (h : Heap) (hf : ∀ b, h.next ≤ b → h.get b = none)
    (c1 : spareB n l = false) (c4 : fitB n = true) (c5 : ¬ 0 < g) (c6 : fitK n < c) : CallOK env Tryz.prog N 3 [.i .u8 was, .i .u16 logged, .i .u16 size, .i .u16 spare, .b true] h ⟨.b true, h⟩ := by
  refine walkP TD_ok envOK Tryz.func3 rfl Tryz.ntmps3 Tryz.results3 rfl (still_b _) fun K hK => ?_
  have hf' : ∀ k, h.get (h.next + k) = none := fun k => hf _ (Nat.le_add_right _ _)
  have mk : makeSl env 36 (.i .i64 (n : Int)) (.i .i64 (n : Int)) (h.next + 5) = some (.new (.bytes n 0 5) (.sl (h.next + 5) 0 n (.ex n))) := makeSl_b ty36 rfl ty5 rfl .i64 .i64 (by omega)
  have le0 : decide (0 + n ≤ n) = true := by simp
  have hg : gainsF n l c g true = true := by simp [gainsF, gainB, gainK, c1, c4, c5, c6]
  have a0 : n ≤ 30000 := by omega
  have a1 : (0 : Int) ≤ n := by omega
  have a2 : (n : Int) ≤ 30000 := by omega
  simp -implicitDefEqProofs (maxSteps := 100000) only [go_sem, e1, e2, e3, e4, e5, e6, e7, e8, c1, c4, c5, c6, TD9 _ _ a1 a2 hl0 hl1, TD10 _ a1, TD12, ty24, ty31, ty28, ty26, ty3, ty4, ty5, ty22, ty29, ty9, ty36, Int.reduceLT, Int.reduceLE, Int.reduceAdd, Int.reduceNeg, Int.reduceBEq, Nat.reduceEqDiff, Nat.reduceAdd, Nat.reduceMul, Nat.reduceSub, Nat.reduceLT, Nat.reduceLeDiff, reduceIte]
  refine ⟨([0,0,0,4,12,31,0,127,255,511,1023,2047],[0,1,2,3,4,5,6,7,8,9,10,11]), by decide +kernel, ?_⟩
  simp -implicitDefEqProofs (maxSteps := 100000) only [go_sem, c1, c4, c5, c6, TD12, hf', mk, le0, hg, Bool.true_and, TD11 _ _ _ _ _ _ _ _ _ _ _ _ a0 hl0 hl1, ty24, ty31, ty28, ty26, ty3, ty4, ty5, ty22, ty29, ty9, ty36, Int.reduceLT, Int.reduceLE, Int.reduceAdd, Int.reduceNeg, Int.reduceBEq, Nat.reduceEqDiff, Nat.reduceAdd, Nat.reduceMul, Nat.reduceSub, Nat.reduceLT, Nat.reduceLeDiff, reduceIte]
  refine hK _ fun b hb => ?_
  simp only [get_new, get_set, get_bl, next_set, next_new]
  rw [if_neg (by omega), if_neg (by omega), if_neg (by omega), if_neg (by omega)]
set_option maxHeartbeats 1000000 in
theorem sTidy6 (was logged size spare l c g : Int) (n : Nat) (e1 : IntKind.wrap .i64 spare = spare) (e2 : spare.tmod 1025 = l) (e3 : IntKind.wrap .i64 size = size) (e4 : size.tmod 1200 = (n : Int))
    (e5 : was.tmod 6 = c) (e6 : IntKind.wrap .i64 c = c) (e7 : logged.tmod 3 = g) (e8 : IntKind.wrap .i64 g = g) (hn : n < 1200) (hl0 : 0 ≤ l) (hl1 : l ≤ 30000) (h : Heap) (hf : ∀ b, h.next ≤ b → h.get b = none)
    (c1 : spareB n l = false) (c4 : fitB n = true) (c5 : ¬ 0 < g) (c6 : ¬ fitK n < c) : CallOK env Tryz.prog N 3 [.i .u8 was, .i .u16 logged, .i .u16 size, .i .u16 spare, .b true] h ⟨.b true, h⟩ := by
  refine walkP TD_ok envOK Tryz.func3 rfl Tryz.ntmps3 Tryz.results3 rfl (still_b _) fun K hK => ?_
  have hf' : ∀ k, h.get (h.next + k) = none := fun k => hf _ (Nat.le_add_right _ _)
  have mk : makeSl env 36 (.i .i64 (n : Int)) (.i .i64 (n : Int)) (h.next + 5) = some (.new (.bytes n 0 5) (.sl (h.next + 5) 0 n (.ex n))) := makeSl_b ty36 rfl ty5 rfl .i64 .i64 (by omega)
  have le0 : decide (0 + n ≤ n) = true := by simp
  have hg : gainsF n l c g true = false := by simp [gainsF, gainB, gainK, c1, c4, c5, c6]
  have a0 : n ≤ 30000 := by omega
  have a1 : (0 : Int) ≤ n := by omega
  have a2 : (n : Int) ≤ 30000 := by omega
  simp -implicitDefEqProofs (maxSteps := 100000) only [go_sem, e1, e2, e3, e4, e5, e6, e7, e8, c1, c4, c5, c6, TD9 _ _ a1 a2 hl0 hl1, TD10 _ a1, TD12, ty24, ty31, ty28, ty26, ty3, ty4, ty5, ty22, ty29, ty9, ty36, Int.reduceLT, Int.reduceLE, Int.reduceAdd, Int.reduceNeg, Int.reduceBEq, Nat.reduceEqDiff, Nat.reduceAdd, Nat.reduceMul, Nat.reduceSub, Nat.reduceLT, Nat.reduceLeDiff, reduceIte]
  refine ⟨([0,0,0,4,12,31,0,127,255,511,1023,2047],[0,1,2,3,4,5,6,7,8,9,10,11]), by decide +kernel, ?_⟩
  simp -implicitDefEqProofs (maxSteps := 100000) only [go_sem, c1, c4, c5, c6, TD12, hf', mk, le0, hg, Bool.true_and, TD11 _ _ _ _ _ _ _ _ _ _ _ _ a0 hl0 hl1, ty24, ty31, ty28, ty26, ty3, ty4, ty5, ty22, ty29, ty9, ty36, Int.reduceLT, Int.reduceLE, Int.reduceAdd, Int.reduceNeg, Int.reduceBEq, Nat.reduceEqDiff, Nat.reduceAdd, Nat.reduceMul, Nat.reduceSub, Nat.reduceLT, Nat.reduceLeDiff, reduceIte]
  refine hK _ fun b hb => ?_
  simp only [get_new, get_set, get_bl, next_set, next_new]
  rw [if_neg (by omega), if_neg (by omega), if_neg (by omega), if_neg (by omega)]
set_option maxHeartbeats 1000000 in
theorem sTidy7 (was logged size spare l c g : Int) (n : Nat) (e1 : IntKind.wrap .i64 spare = spare) (e2 : spare.tmod 1025 = l) (e3 : IntKind.wrap .i64 size = size) (e4 : size.tmod 1200 = (n : Int))
    (e5 : was.tmod 6 = c) (e6 : IntKind.wrap .i64 c = c) (e7 : logged.tmod 3 = g) (e8 : IntKind.wrap .i64 g = g) (hn : n < 1200) (hl0 : 0 ≤ l) (hl1 : l ≤ 30000) (h : Heap) (hf : ∀ b, h.next ≤ b → h.get b = none)
    (c1 : spareB n l = false) (c4 : fitB n = true) : CallOK env Tryz.prog N 3 [.i .u8 was, .i .u16 logged, .i .u16 size, .i .u16 spare, .b false] h ⟨.b true, h⟩ := by
  refine walkP TD_ok envOK Tryz.func3 rfl Tryz.ntmps3 Tryz.results3 rfl (still_b _) fun K hK => ?_
  have hf' : ∀ k, h.get (h.next + k) = none := fun k => hf _ (Nat.le_add_right _ _)
  have mk : makeSl env 36 (.i .i64 (n : Int)) (.i .i64 (n : Int)) (h.next + 5) = some (.new (.bytes n 0 5) (.sl (h.next + 5) 0 n (.ex n))) := makeSl_b ty36 rfl ty5 rfl .i64 .i64 (by omega)
  have le0 : decide (0 + n ≤ n) = true := by simp
  have hg : gainsF n l c g false = false := by simp [gainsF, gainB, gainK, c1, c4]
  have a0 : n ≤ 30000 := by omega
  have a1 : (0 : Int) ≤ n := by omega
  have a2 : (n : Int) ≤ 30000 := by omega
  simp -implicitDefEqProofs (maxSteps := 100000) only [go_sem, e1, e2, e3, e4, e5, e6, e7, e8, c1, c4, TD9 _ _ a1 a2 hl0 hl1, TD10 _ a1, TD12, ty24, ty31, ty28, ty26, ty3, ty4, ty5, ty22, ty29, ty9, ty36, Int.reduceLT, Int.reduceLE, Int.reduceAdd, Int.reduceNeg, Int.reduceBEq, Nat.reduceEqDiff, Nat.reduceAdd, Nat.reduceMul, Nat.reduceSub, Nat.reduceLT, Nat.reduceLeDiff, reduceIte]
  refine ⟨([0,0,0,4,12,31,0,127,255,511,1023,2047],[0,1,2,3,4,5,6,7,8,9,10,11]), by decide +kernel, ?_⟩
  simp -implicitDefEqProofs (maxSteps := 100000) only [go_sem, c1, c4, TD12, hf', mk, le0, hg, Bool.true_and, TD11 _ _ _ _ _ _ _ _ _ _ _ _ a0 hl0 hl1, ty24, ty31, ty28, ty26, ty3, ty4, ty5, ty22, ty29, ty9, ty36, Int.reduceLT, Int.reduceLE, Int.reduceAdd, Int.reduceNeg, Int.reduceBEq, Nat.reduceEqDiff, Nat.reduceAdd, Nat.reduceMul, Nat.reduceSub, Nat.reduceLT, Nat.reduceLeDiff, reduceIte]
  refine hK _ fun b hb => ?_
  simp only [get_new, get_set, get_bl, next_set, next_new]
  rw [if_neg (by omega), if_neg (by omega), if_neg (by omega), if_neg (by omega)]
set_option maxHeartbeats 1000000 in
theorem sTidy8 (was logged size spare l c g : Int) (n : Nat) (e1 : IntKind.wrap .i64 spare = spare) (e2 : spare.tmod 1025 = l) (e3 : IntKind.wrap .i64 size = size) (e4 : size.tmod 1200 = (n : Int))
    (e5 : was.tmod 6 = c) (e6 : IntKind.wrap .i64 c = c) (e7 : logged.tmod 3 = g) (e8 : IntKind.wrap .i64 g = g) (hn : n < 1200) (hl0 : 0 ≤ l) (hl1 : l ≤ 30000) (h : Heap) (hf : ∀ b, h.next ≤ b → h.get b = none)
    (c1 : spareB n l = false) (c4 : fitB n = false) : CallOK env Tryz.prog N 3 [.i .u8 was, .i .u16 logged, .i .u16 size, .i .u16 spare, .b true] h ⟨.b true, h⟩ := by
  refine walkP TD_ok envOK Tryz.func3 rfl Tryz.ntmps3 Tryz.results3 rfl (still_b _) fun K hK => ?_
  have hf' : ∀ k, h.get (h.next + k) = none := fun k => hf _ (Nat.le_add_right _ _)
  have mk : makeSl env 36 (.i .i64 (n : Int)) (.i .i64 (n : Int)) (h.next + 5) = some (.new (.bytes n 0 5) (.sl (h.next + 5) 0 n (.ex n))) := makeSl_b ty36 rfl ty5 rfl .i64 .i64 (by omega)
  have le0 : decide (0 + n ≤ n) = true := by simp
  have hg : gainsF n l c g true = false := by simp [gainsF, gainB, gainK, c1, c4]
  have a0 : n ≤ 30000 := by omega
  have a1 : (0 : Int) ≤ n := by omega
  have a2 : (n : Int) ≤ 30000 := by omega
  simp -implicitDefEqProofs (maxSteps := 100000) only [go_sem, e1, e2, e3, e4, e5, e6, e7, e8, c1, c4, TD9 _ _ a1 a2 hl0 hl1, TD10 _ a1, TD12, ty24, ty31, ty28, ty26, ty3, ty4, ty5, ty22, ty29, ty9, ty36, Int.reduceLT, Int.reduceLE, Int.reduceAdd, Int.reduceNeg, Int.reduceBEq, Nat.reduceEqDiff, Nat.reduceAdd, Nat.reduceMul, Nat.reduceSub, Nat.reduceLT, Nat.reduceLeDiff, reduceIte]
  refine ⟨([0,0,0,4,12,31,0,127,255,511,1023,2047],[0,1,2,3,4,5,6,7,8,9,10,11]), by decide +kernel, ?_⟩
  simp -implicitDefEqProofs (maxSteps := 100000) only [go_sem, c1, c4, TD12, hf', mk, le0, hg, Bool.true_and, TD11 _ _ _ _ _ _ _ _ _ _ _ _ a0 hl0 hl1, ty24, ty31, ty28, ty26, ty3, ty4, ty5, ty22, ty29, ty9, ty36, Int.reduceLT, Int.reduceLE, Int.reduceAdd, Int.reduceNeg, Int.reduceBEq, Nat.reduceEqDiff, Nat.reduceAdd, Nat.reduceMul, Nat.reduceSub, Nat.reduceLT, Nat.reduceLeDiff, reduceIte]
  refine hK _ fun b hb => ?_
  simp only [get_new, get_set, get_bl, next_set, next_new]
  rw [if_neg (by omega), if_neg (by omega), if_neg (by omega), if_neg (by omega)]
set_option maxHeartbeats 1000000 in
theorem sTidy9 (was logged size spare l c g : Int) (n : Nat) (e1 : IntKind.wrap .i64 spare = spare) (e2 : spare.tmod 1025 = l) (e3 : IntKind.wrap .i64 size = size) (e4 : size.tmod 1200 = (n : Int))
    (e5 : was.tmod 6 = c) (e6 : IntKind.wrap .i64 c = c) (e7 : logged.tmod 3 = g) (e8 : IntKind.wrap .i64 g = g) (hn : n < 1200) (hl0 : 0 ≤ l) (hl1 : l ≤ 30000) (h : Heap) (hf : ∀ b, h.next ≤ b → h.get b = none)
    (c1 : spareB n l = false) (c4 : fitB n = false) : CallOK env Tryz.prog N 3 [.i .u8 was, .i .u16 logged, .i .u16 size, .i .u16 spare, .b false] h ⟨.b true, h⟩ := by
  refine walkP TD_ok envOK Tryz.func3 rfl Tryz.ntmps3 Tryz.results3 rfl (still_b _) fun K hK => ?_
  have hf' : ∀ k, h.get (h.next + k) = none := fun k => hf _ (Nat.le_add_right _ _)
  have mk : makeSl env 36 (.i .i64 (n : Int)) (.i .i64 (n : Int)) (h.next + 5) = some (.new (.bytes n 0 5) (.sl (h.next + 5) 0 n (.ex n))) := makeSl_b ty36 rfl ty5 rfl .i64 .i64 (by omega)
  have le0 : decide (0 + n ≤ n) = true := by simp
  have hg : gainsF n l c g false = false := by simp [gainsF, gainB, gainK, c1, c4]
  have a0 : n ≤ 30000 := by omega
  have a1 : (0 : Int) ≤ n := by omega
  have a2 : (n : Int) ≤ 30000 := by omega
  simp -implicitDefEqProofs (maxSteps := 100000) only [go_sem, e1, e2, e3, e4, e5, e6, e7, e8, c1, c4, TD9 _ _ a1 a2 hl0 hl1, TD10 _ a1, TD12, ty24, ty31, ty28, ty26, ty3, ty4, ty5, ty22, ty29, ty9, ty36, Int.reduceLT, Int.reduceLE, Int.reduceAdd, Int.reduceNeg, Int.reduceBEq, Nat.reduceEqDiff, Nat.reduceAdd, Nat.reduceMul, Nat.reduceSub, Nat.reduceLT, Nat.reduceLeDiff, reduceIte]
  refine ⟨([0,0,0,4,12,31,0,127,255,511,1023,2047],[0,1,2,3,4,5,6,7,8,9,10,11]), by decide +kernel, ?_⟩
  simp -implicitDefEqProofs (maxSteps := 100000) only [go_sem, c1, c4, TD12, hf', mk, le0, hg, Bool.true_and, TD11 _ _ _ _ _ _ _ _ _ _ _ _ a0 hl0 hl1, ty24, ty31, ty28, ty26, ty3, ty4, ty5, ty22, ty29, ty9, ty36, Int.reduceLT, Int.reduceLE, Int.reduceAdd, Int.reduceNeg, Int.reduceBEq, Nat.reduceEqDiff, Nat.reduceAdd, Nat.reduceMul, Nat.reduceSub, Nat.reduceLT, Nat.reduceLeDiff, reduceIte]
  refine hK _ fun b hb => ?_
  simp only [get_new, get_set, get_bl, next_set, next_new]
  rw [if_neg (by omega), if_neg (by omega), if_neg (by omega), if_neg (by omega)]
theorem sTidy (was logged size spare l c g : Int) (n : Nat) (there : Bool) (e1 : IntKind.wrap .i64 spare = spare) (e2 : spare.tmod 1025 = l) (e3 : IntKind.wrap .i64 size = size) (e4 : size.tmod 1200 = (n : Int))
    (e5 : was.tmod 6 = c) (e6 : IntKind.wrap .i64 c = c) (e7 : logged.tmod 3 = g) (e8 : IntKind.wrap .i64 g = g) (hn : n < 1200) (hl0 : 0 ≤ l) (hl1 : l ≤ 30000) (h : Heap) (hf : ∀ b, h.next ≤ b → h.get b = none) :
    CallOK env Tryz.prog N 3 [.i .u8 was, .i .u16 logged, .i .u16 size, .i .u16 spare, .b there] h ⟨.b true, h⟩ := by
  cases c1 : spareB n l with
  | true =>
    cases there with
    | true =>
      by_cases c5 : 0 < g
      · exact sTidy0 _ _ _ _ _ _ _ _ e1 e2 e3 e4 e5 e6 e7 e8 hn hl0 hl1 h hf c1 c5
      · by_cases c6 : spareK n l < c
        · exact sTidy1 _ _ _ _ _ _ _ _ e1 e2 e3 e4 e5 e6 e7 e8 hn hl0 hl1 h hf c1 c5 c6
        · exact sTidy2 _ _ _ _ _ _ _ _ e1 e2 e3 e4 e5 e6 e7 e8 hn hl0 hl1 h hf c1 c5 c6
    | false => exact sTidy3 _ _ _ _ _ _ _ _ e1 e2 e3 e4 e5 e6 e7 e8 hn hl0 hl1 h hf c1
  | false =>
    cases c4 : fitB n with
    | true =>
      cases there with
      | true =>
        by_cases c5 : 0 < g
        · exact sTidy4 _ _ _ _ _ _ _ _ e1 e2 e3 e4 e5 e6 e7 e8 hn hl0 hl1 h hf c1 c4 c5
        · by_cases c6 : fitK n < c
          · exact sTidy5 _ _ _ _ _ _ _ _ e1 e2 e3 e4 e5 e6 e7 e8 hn hl0 hl1 h hf c1 c4 c5 c6
          · exact sTidy6 _ _ _ _ _ _ _ _ e1 e2 e3 e4 e5 e6 e7 e8 hn hl0 hl1 h hf c1 c4 c5 c6
      | false => exact sTidy7 _ _ _ _ _ _ _ _ e1 e2 e3 e4 e5 e6 e7 e8 hn hl0 hl1 h hf c1 c4
    | false =>
      cases there with
      | true => exact sTidy8 _ _ _ _ _ _ _ _ e1 e2 e3 e4 e5 e6 e7 e8 hn hl0 hl1 h hf c1 c4
      | false => exact sTidy9 _ _ _ _ _ _ _ _ e1 e2 e3 e4 e5 e6 e7 e8 hn hl0 hl1 h hf c1 c4
end Go.Abs
