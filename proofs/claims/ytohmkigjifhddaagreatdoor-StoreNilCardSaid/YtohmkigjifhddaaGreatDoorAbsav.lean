/- A part of a proof about Go functions of this program: an evaluator with a memory of its own, and the proof that what it finds the model finds (Q9). No conditions beyond those that each theorem names. -/
import Derived.Test.YtohmkigjifhddaaGreatDoorAbsau
set_option linter.all false
set_option maxRecDepth 100000
set_option autoImplicit false
set_option linter.unusedSimpArgs false
namespace Go.Abs
open Go.Proofs
variable {N : Nat}
section
variable {E : Env} {h : Heap} {tm : Tm}
@[go_sem] theorem resV_ct (k t j : Nat) : resV E tm h [.cell k t, .tmp j] = ob (ob (tm.get k) fun p => ob (E.ty t) fun ti => ldVar E h ti p) fun u => ob (tm.get j) fun v => some (.tup [u, v]) := by
  show ob (ob (ob (tm.get k) fun p => ob (E.ty t) fun ti => ldVar E h ti p) fun a => ob (ob (tm.get j) fun b => some [b]) fun r => some (a :: r)) (fun l => some (tup1 l)) = _
  cases ob (tm.get k) fun p => ob (E.ty t) fun ti => ldVar E h ti p with
  | none => rfl
  | some a => cases tm.get j <;> rfl
end
theorem sNone (h : Heap) : CallOK env Tryz.prog N 66 [.p0] h ⟨.b true, h⟩ := memo (by decide +kernel) (fun a ha => by simp at ha; subst ha; exact ⟨_, fun φ => by simp only [den]; rfl⟩) (still_b _) h
def TE : Nat → List AVal → Option AVal
  | 66, [.p0] => some (.b true)
  | _, _ => none
theorem TE_ok : TabOK env Tryz.prog N TE := fun f args v h => by
  unfold TE at h
  split at h
  · obtain rfl := Option.some.inj h; exact sNone
  · cases h
theorem TE66 : TE 66 [.p0] = some (.b true) := rfl
theorem sNil14  (h : Heap) : CallOK env Tryz.prog N 14 [.p0] h ⟨.tup [.i .u64 0, .i .i64 1], h⟩ := by
  refine walkP TE_ok envOK Tryz.func14 rfl Tryz.ntmps14 Tryz.results14 rfl ⟨_, fun φ => by simp only [den, denL]; rfl⟩ fun K hK => ?_
  simp -implicitDefEqProofs only [go_sem, TE66, ty3, ty4, ty9, ty24, ty26, ty28, ty29, ty31, ty39, ty40, ty52, ty55, ty57, Int.reduceLT, Int.reduceLE, Int.reduceAdd, Int.reduceNeg, Int.reduceBEq, Nat.reduceEqDiff, Nat.reduceAdd, Nat.reduceMul, Nat.reduceSub, Nat.reduceLT, Nat.reduceLeDiff, reduceIte]
  exact hK h fun _ _ => rfl
theorem sNil15 (n : Int) (p : Int) (h : Heap) : CallOK env Tryz.prog N 15 [.p0, .i .u64 n, .i .i64 p] h ⟨.tup [.agg [.i .i64 0, .i .i64 0, .i .i64 0, .i .i64 0, .b false, .i .u64 0], .i .i64 1], h⟩ := by
  refine walkP TE_ok envOK Tryz.func15 rfl Tryz.ntmps15 Tryz.results15 rfl ⟨_, fun φ => by simp only [den, denL]; rfl⟩ fun K hK => ?_
  simp -implicitDefEqProofs only [go_sem, TE66, ty3, ty4, ty9, ty24, ty26, ty28, ty29, ty31, ty39, ty40, ty52, ty55, ty57, Int.reduceLT, Int.reduceLE, Int.reduceAdd, Int.reduceNeg, Int.reduceBEq, Nat.reduceEqDiff, Nat.reduceAdd, Nat.reduceMul, Nat.reduceSub, Nat.reduceLT, Nat.reduceLeDiff, reduceIte]
  refine hK _ fun b hb => ?_
  simp only [get_new, get_set, next_set, next_new]
  repeat rw [if_neg (by omega)]
theorem sNil16  (h : Heap) : CallOK env Tryz.prog N 16 [.p0, .agg [.i .i64 0, .i .i64 0, .i .i64 0, .i .i64 0, .b false, .i .u64 0]] h ⟨.tup [.s 0 0, .i .i64 1], h⟩ := by
  refine walkP TE_ok envOK Tryz.func16 rfl Tryz.ntmps16 Tryz.results16 rfl ⟨_, fun φ => by simp only [den, denL]; rfl⟩ fun K hK => ?_
  simp -implicitDefEqProofs only [go_sem, TE66, ty3, ty4, ty9, ty24, ty26, ty28, ty29, ty31, ty39, ty40, ty52, ty55, ty57, Int.reduceLT, Int.reduceLE, Int.reduceAdd, Int.reduceNeg, Int.reduceBEq, Nat.reduceEqDiff, Nat.reduceAdd, Nat.reduceMul, Nat.reduceSub, Nat.reduceLT, Nat.reduceLeDiff, reduceIte]
  refine hK _ fun b hb => ?_
  simp only [get_new, get_set, next_set, next_new]
  repeat rw [if_neg (by omega)]
theorem sNil17 (p : Int) (m d : Nat) (h : Heap) : CallOK env Tryz.prog N 17 [.p0, .i .i64 p, .s m d] h ⟨.tup [.s 0 0, .i .i64 1], h⟩ := by
  refine walkP TE_ok envOK Tryz.func17 rfl Tryz.ntmps17 Tryz.results17 rfl ⟨_, fun φ => by simp only [den, denL]; rfl⟩ fun K hK => ?_
  simp -implicitDefEqProofs only [go_sem, TE66, ty3, ty4, ty9, ty24, ty26, ty28, ty29, ty31, ty39, ty40, ty52, ty55, ty57, Int.reduceLT, Int.reduceLE, Int.reduceAdd, Int.reduceNeg, Int.reduceBEq, Nat.reduceEqDiff, Nat.reduceAdd, Nat.reduceMul, Nat.reduceSub, Nat.reduceLT, Nat.reduceLeDiff, reduceIte]
  exact hK h fun _ _ => rfl
theorem sNil18 (m d : Nat) (h : Heap) : CallOK env Tryz.prog N 18 [.p0, .s m d] h ⟨.tup [.agg [.i .i64 0, .i .i64 0, .i .i64 0, .i .i64 0], .i .i64 1], h⟩ := by
  refine walkP TE_ok envOK Tryz.func18 rfl Tryz.ntmps18 Tryz.results18 rfl ⟨_, fun φ => by simp only [den, denL]; rfl⟩ fun K hK => ?_
  simp -implicitDefEqProofs only [go_sem, TE66, ty3, ty4, ty9, ty24, ty26, ty28, ty29, ty31, ty39, ty40, ty52, ty55, ty57, Int.reduceLT, Int.reduceLE, Int.reduceAdd, Int.reduceNeg, Int.reduceBEq, Nat.reduceEqDiff, Nat.reduceAdd, Nat.reduceMul, Nat.reduceSub, Nat.reduceLT, Nat.reduceLeDiff, reduceIte]
  refine hK _ fun b hb => ?_
  simp only [get_new, get_set, next_set, next_new]
  repeat rw [if_neg (by omega)]
theorem sNil19 (a b c e : Int) (m d : Nat) (h : Heap) : CallOK env Tryz.prog N 19 [.p0, .agg [.i .i64 a, .i .i64 b, .i .i64 c, .i .i64 e], .s m d] h ⟨.tup [.agg [.i .i64 0, .i .i64 0, .i .i64 0, .i .i64 0], .i .i64 1], h⟩ := by
  refine walkP TE_ok envOK Tryz.func19 rfl Tryz.ntmps19 Tryz.results19 rfl ⟨_, fun φ => by simp only [den, denL]; rfl⟩ fun K hK => ?_
  simp -implicitDefEqProofs only [go_sem, TE66, ty3, ty4, ty9, ty24, ty26, ty28, ty29, ty31, ty39, ty40, ty52, ty55, ty57, Int.reduceLT, Int.reduceLE, Int.reduceAdd, Int.reduceNeg, Int.reduceBEq, Nat.reduceEqDiff, Nat.reduceAdd, Nat.reduceMul, Nat.reduceSub, Nat.reduceLT, Nat.reduceLeDiff, reduceIte]
  refine hK _ fun b hb => ?_
  simp only [get_new, get_set, next_set, next_new]
  repeat rw [if_neg (by omega)]
theorem sNil20  (h : Heap) : CallOK env Tryz.prog N 20 [.p0, .b true, .sl0] h ⟨.tup [.i .u64 0, .i .i64 1], h⟩ := by
  refine walkP TE_ok envOK Tryz.func20 rfl Tryz.ntmps20 Tryz.results20 rfl ⟨_, fun φ => by simp only [den, denL]; rfl⟩ fun K hK => ?_
  simp -implicitDefEqProofs only [go_sem, TE66, ty3, ty4, ty9, ty24, ty26, ty28, ty29, ty31, ty39, ty40, ty52, ty55, ty57, Int.reduceLT, Int.reduceLE, Int.reduceAdd, Int.reduceNeg, Int.reduceBEq, Nat.reduceEqDiff, Nat.reduceAdd, Nat.reduceMul, Nat.reduceSub, Nat.reduceLT, Nat.reduceLeDiff, reduceIte]
  exact hK h fun _ _ => rfl
theorem sNil21 (n : Int) (h : Heap) : CallOK env Tryz.prog N 21 [.p0, .i .u64 n] h ⟨.tup [.sl0, .i .i64 1], h⟩ := by
  refine walkP TE_ok envOK Tryz.func21 rfl Tryz.ntmps21 Tryz.results21 rfl ⟨_, fun φ => by simp only [den, denL]; rfl⟩ fun K hK => ?_
  simp -implicitDefEqProofs only [go_sem, TE66, ty3, ty4, ty9, ty24, ty26, ty28, ty29, ty31, ty39, ty40, ty52, ty55, ty57, Int.reduceLT, Int.reduceLE, Int.reduceAdd, Int.reduceNeg, Int.reduceBEq, Nat.reduceEqDiff, Nat.reduceAdd, Nat.reduceMul, Nat.reduceSub, Nat.reduceLT, Nat.reduceLeDiff, reduceIte]
  exact hK h fun _ _ => rfl
theorem sNil22  (h : Heap) : CallOK env Tryz.prog N 22 [.p0] h ⟨.sl0, h⟩ := by
  refine walkP TE_ok envOK Tryz.func22 rfl Tryz.ntmps22 Tryz.results22 rfl ⟨_, fun φ => by simp only [den, denL]; rfl⟩ fun K hK => ?_
  simp -implicitDefEqProofs only [go_sem, TE66, ty3, ty4, ty9, ty24, ty26, ty28, ty29, ty31, ty39, ty40, ty52, ty55, ty57, Int.reduceLT, Int.reduceLE, Int.reduceAdd, Int.reduceNeg, Int.reduceBEq, Nat.reduceEqDiff, Nat.reduceAdd, Nat.reduceMul, Nat.reduceSub, Nat.reduceLT, Nat.reduceLeDiff, reduceIte]
  exact hK h fun _ _ => rfl
theorem sNil23  (h : Heap) : CallOK env Tryz.prog N 23 [.p0] h ⟨.sl0, h⟩ := by
  refine walkP TE_ok envOK Tryz.func23 rfl Tryz.ntmps23 Tryz.results23 rfl ⟨_, fun φ => by simp only [den, denL]; rfl⟩ fun K hK => ?_
  simp -implicitDefEqProofs only [go_sem, TE66, ty3, ty4, ty9, ty24, ty26, ty28, ty29, ty31, ty39, ty40, ty52, ty55, ty57, Int.reduceLT, Int.reduceLE, Int.reduceAdd, Int.reduceNeg, Int.reduceBEq, Nat.reduceEqDiff, Nat.reduceAdd, Nat.reduceMul, Nat.reduceSub, Nat.reduceLT, Nat.reduceLeDiff, reduceIte]
  exact hK h fun _ _ => rfl
theorem sNil24  (h : Heap) : CallOK env Tryz.prog N 24 [.p0] h ⟨.sl0, h⟩ := by
  refine walkP TE_ok envOK Tryz.func24 rfl Tryz.ntmps24 Tryz.results24 rfl ⟨_, fun φ => by simp only [den, denL]; rfl⟩ fun K hK => ?_
  simp -implicitDefEqProofs only [go_sem, TE66, ty3, ty4, ty9, ty24, ty26, ty28, ty29, ty31, ty39, ty40, ty52, ty55, ty57, Int.reduceLT, Int.reduceLE, Int.reduceAdd, Int.reduceNeg, Int.reduceBEq, Nat.reduceEqDiff, Nat.reduceAdd, Nat.reduceMul, Nat.reduceSub, Nat.reduceLT, Nat.reduceLeDiff, reduceIte]
  exact hK h fun _ _ => rfl
theorem sNil25  (h : Heap) : CallOK env Tryz.prog N 25 [.p0] h ⟨.sl0, h⟩ := by
  refine walkP TE_ok envOK Tryz.func25 rfl Tryz.ntmps25 Tryz.results25 rfl ⟨_, fun φ => by simp only [den, denL]; rfl⟩ fun K hK => ?_
  simp -implicitDefEqProofs only [go_sem, TE66, ty3, ty4, ty9, ty24, ty26, ty28, ty29, ty31, ty39, ty40, ty52, ty55, ty57, Int.reduceLT, Int.reduceLE, Int.reduceAdd, Int.reduceNeg, Int.reduceBEq, Nat.reduceEqDiff, Nat.reduceAdd, Nat.reduceMul, Nat.reduceSub, Nat.reduceLT, Nat.reduceLeDiff, reduceIte]
  exact hK h fun _ _ => rfl
theorem sNil26  (h : Heap) : CallOK env Tryz.prog N 26 [.p0] h ⟨.sl0, h⟩ := by
  refine walkP TE_ok envOK Tryz.func26 rfl Tryz.ntmps26 Tryz.results26 rfl ⟨_, fun φ => by simp only [den, denL]; rfl⟩ fun K hK => ?_
  simp -implicitDefEqProofs only [go_sem, TE66, ty3, ty4, ty9, ty24, ty26, ty28, ty29, ty31, ty39, ty40, ty52, ty55, ty57, Int.reduceLT, Int.reduceLE, Int.reduceAdd, Int.reduceNeg, Int.reduceBEq, Nat.reduceEqDiff, Nat.reduceAdd, Nat.reduceMul, Nat.reduceSub, Nat.reduceLT, Nat.reduceLeDiff, reduceIte]
  exact hK h fun _ _ => rfl
theorem sNil27 (n : Int) (h : Heap) : CallOK env Tryz.prog N 27 [.p0, .i .u64 n] h ⟨.i .i64 1, h⟩ := by
  refine walkP TE_ok envOK Tryz.func27 rfl Tryz.ntmps27 Tryz.results27 rfl ⟨_, fun φ => by simp only [den, denL]; rfl⟩ fun K hK => ?_
  simp -implicitDefEqProofs only [go_sem, TE66, ty3, ty4, ty9, ty24, ty26, ty28, ty29, ty31, ty39, ty40, ty52, ty55, ty57, Int.reduceLT, Int.reduceLE, Int.reduceAdd, Int.reduceNeg, Int.reduceBEq, Nat.reduceEqDiff, Nat.reduceAdd, Nat.reduceMul, Nat.reduceSub, Nat.reduceLT, Nat.reduceLeDiff, reduceIte]
  exact hK h fun _ _ => rfl
theorem sNil28 (a b c e : Int) (h : Heap) : CallOK env Tryz.prog N 28 [.p0, .agg [.i .i64 a, .i .i64 b, .i .i64 c, .i .i64 e]] h ⟨.i .i64 1, h⟩ := by
  refine walkP TE_ok envOK Tryz.func28 rfl Tryz.ntmps28 Tryz.results28 rfl ⟨_, fun φ => by simp only [den, denL]; rfl⟩ fun K hK => ?_
  simp -implicitDefEqProofs only [go_sem, TE66, ty3, ty4, ty9, ty24, ty26, ty28, ty29, ty31, ty39, ty40, ty52, ty55, ty57, Int.reduceLT, Int.reduceLE, Int.reduceAdd, Int.reduceNeg, Int.reduceBEq, Nat.reduceEqDiff, Nat.reduceAdd, Nat.reduceMul, Nat.reduceSub, Nat.reduceLT, Nat.reduceLeDiff, reduceIte]
  refine hK _ fun b hb => ?_
  simp only [get_new, get_set, next_set, next_new]
  repeat rw [if_neg (by omega)]
theorem sNil29 (n : Int) (h : Heap) : CallOK env Tryz.prog N 29 [.p0, .i .u64 n] h ⟨.i .i64 1, h⟩ := by
  refine walkP TE_ok envOK Tryz.func29 rfl Tryz.ntmps29 Tryz.results29 rfl ⟨_, fun φ => by simp only [den, denL]; rfl⟩ fun K hK => ?_
  simp -implicitDefEqProofs only [go_sem, TE66, ty3, ty4, ty9, ty24, ty26, ty28, ty29, ty31, ty39, ty40, ty52, ty55, ty57, Int.reduceLT, Int.reduceLE, Int.reduceAdd, Int.reduceNeg, Int.reduceBEq, Nat.reduceEqDiff, Nat.reduceAdd, Nat.reduceMul, Nat.reduceSub, Nat.reduceLT, Nat.reduceLeDiff, reduceIte]
  exact hK h fun _ _ => rfl
theorem sNil30 (n : Int) (h : Heap) : CallOK env Tryz.prog N 30 [.p0, .i .u64 n] h ⟨.i .i64 1, h⟩ := by
  refine walkP TE_ok envOK Tryz.func30 rfl Tryz.ntmps30 Tryz.results30 rfl ⟨_, fun φ => by simp only [den, denL]; rfl⟩ fun K hK => ?_
  simp -implicitDefEqProofs only [go_sem, TE66, ty3, ty4, ty9, ty24, ty26, ty28, ty29, ty31, ty39, ty40, ty52, ty55, ty57, Int.reduceLT, Int.reduceLE, Int.reduceAdd, Int.reduceNeg, Int.reduceBEq, Nat.reduceEqDiff, Nat.reduceAdd, Nat.reduceMul, Nat.reduceSub, Nat.reduceLT, Nat.reduceLeDiff, reduceIte]
  exact hK h fun _ _ => rfl
theorem sNil31  (h : Heap) : CallOK env Tryz.prog N 31 [.p0] h ⟨.i .i64 0, h⟩ := by
  refine walkP TE_ok envOK Tryz.func31 rfl Tryz.ntmps31 Tryz.results31 rfl ⟨_, fun φ => by simp only [den, denL]; rfl⟩ fun K hK => ?_
  simp -implicitDefEqProofs only [go_sem, TE66, ty3, ty4, ty9, ty24, ty26, ty28, ty29, ty31, ty39, ty40, ty52, ty55, ty57, Int.reduceLT, Int.reduceLE, Int.reduceAdd, Int.reduceNeg, Int.reduceBEq, Nat.reduceEqDiff, Nat.reduceAdd, Nat.reduceMul, Nat.reduceSub, Nat.reduceLT, Nat.reduceLeDiff, reduceIte]
  exact hK h fun _ _ => rfl
theorem sNil32 (a b c e : Int) (h : Heap) : CallOK env Tryz.prog N 32 [.p0, .agg [.i .i64 a, .i .i64 b, .i .i64 c, .i .i64 e]] h ⟨.i .i64 0, h⟩ := by
  refine walkP TE_ok envOK Tryz.func32 rfl Tryz.ntmps32 Tryz.results32 rfl ⟨_, fun φ => by simp only [den, denL]; rfl⟩ fun K hK => ?_
  simp -implicitDefEqProofs only [go_sem, TE66, ty3, ty4, ty9, ty24, ty26, ty28, ty29, ty31, ty39, ty40, ty52, ty55, ty57, Int.reduceLT, Int.reduceLE, Int.reduceAdd, Int.reduceNeg, Int.reduceBEq, Nat.reduceEqDiff, Nat.reduceAdd, Nat.reduceMul, Nat.reduceSub, Nat.reduceLT, Nat.reduceLeDiff, reduceIte]
  refine hK _ fun b hb => ?_
  simp only [get_new, get_set, next_set, next_new]
  repeat rw [if_neg (by omega)]
theorem sNil33 (p : Int) (h : Heap) : CallOK env Tryz.prog N 33 [.p0, .i .i64 p] h ⟨.i .u64 0, h⟩ := by
  refine walkP TE_ok envOK Tryz.func33 rfl Tryz.ntmps33 Tryz.results33 rfl ⟨_, fun φ => by simp only [den, denL]; rfl⟩ fun K hK => ?_
  simp -implicitDefEqProofs only [go_sem, TE66, ty3, ty4, ty9, ty24, ty26, ty28, ty29, ty31, ty39, ty40, ty52, ty55, ty57, Int.reduceLT, Int.reduceLE, Int.reduceAdd, Int.reduceNeg, Int.reduceBEq, Nat.reduceEqDiff, Nat.reduceAdd, Nat.reduceMul, Nat.reduceSub, Nat.reduceLT, Nat.reduceLeDiff, reduceIte]
  exact hK h fun _ _ => rfl
theorem sNil34  (h : Heap) : CallOK env Tryz.prog N 34 [.p0] h ⟨.i .u64 0, h⟩ := by
  refine walkP TE_ok envOK Tryz.func34 rfl Tryz.ntmps34 Tryz.results34 rfl ⟨_, fun φ => by simp only [den, denL]; rfl⟩ fun K hK => ?_
  simp -implicitDefEqProofs only [go_sem, TE66, ty3, ty4, ty9, ty24, ty26, ty28, ty29, ty31, ty39, ty40, ty52, ty55, ty57, Int.reduceLT, Int.reduceLE, Int.reduceAdd, Int.reduceNeg, Int.reduceBEq, Nat.reduceEqDiff, Nat.reduceAdd, Nat.reduceMul, Nat.reduceSub, Nat.reduceLT, Nat.reduceLeDiff, reduceIte]
  exact hK h fun _ _ => rfl
theorem sNil35  (h : Heap) : CallOK env Tryz.prog N 35 [.p0] h ⟨.agg [.i .i64 0, .i .i64 0, .i .i64 0, .i .i64 0, .i .i64 0], h⟩ := by
  refine walkP TE_ok envOK Tryz.func35 rfl Tryz.ntmps35 Tryz.results35 rfl ⟨_, fun φ => by simp only [den, denL]; rfl⟩ fun K hK => ?_
  simp -implicitDefEqProofs only [go_sem, TE66, ty3, ty4, ty9, ty24, ty26, ty28, ty29, ty31, ty39, ty40, ty52, ty55, ty57, Int.reduceLT, Int.reduceLE, Int.reduceAdd, Int.reduceNeg, Int.reduceBEq, Nat.reduceEqDiff, Nat.reduceAdd, Nat.reduceMul, Nat.reduceSub, Nat.reduceLT, Nat.reduceLeDiff, reduceIte]
  refine hK _ fun b hb => ?_
  simp only [get_new, get_set, next_set, next_new]
  repeat rw [if_neg (by omega)]
end Go.Abs
