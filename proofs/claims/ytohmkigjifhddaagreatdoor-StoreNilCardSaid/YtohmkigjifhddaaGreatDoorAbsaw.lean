/- A part of a proof about Go functions of this program: an evaluator with a memory of its own, and the proof that what it finds the model finds (S1). No conditions beyond those that each theorem names. -/
import Derived.Test.YtohmkigjifhddaaGreatDoorAbsav
set_option linter.all false
set_option maxRecDepth 100000
set_option autoImplicit false
set_option linter.unusedSimpArgs false
namespace Go.Abs
open Go.Proofs
variable {N : Nat}
def TG : Nat → List AVal → Option AVal
  | 13, [] => some (.b true)
  | 14, [.p0] => some (.tup [.i .u64 0, .i .i64 1])
  | 15, [.p0, .i .u64 _, .i .i64 _] => some (.tup [.agg [.i .i64 0, .i .i64 0, .i .i64 0, .i .i64 0, .b false, .i .u64 0], .i .i64 1])
  | 16, [.p0, .agg [.i .i64 0, .i .i64 0, .i .i64 0, .i .i64 0, .b false, .i .u64 0]] => some (.tup [.s 0 0, .i .i64 1])
  | 17, [.p0, .i .i64 _, .s _ _] => some (.tup [.s 0 0, .i .i64 1])
  | 18, [.p0, .s _ _] => some (.tup [.agg [.i .i64 0, .i .i64 0, .i .i64 0, .i .i64 0], .i .i64 1])
  | 19, [.p0, .agg [.i .i64 _, .i .i64 _, .i .i64 _, .i .i64 _], .s _ _] => some (.tup [.agg [.i .i64 0, .i .i64 0, .i .i64 0, .i .i64 0], .i .i64 1])
  | 20, [.p0, .b true, .sl0] => some (.tup [.i .u64 0, .i .i64 1])
  | 21, [.p0, .i .u64 _] => some (.tup [.sl0, .i .i64 1])
  | 22, [.p0] => some (.sl0)
  | 23, [.p0] => some (.sl0)
  | 24, [.p0] => some (.sl0)
  | 25, [.p0] => some (.sl0)
  | 26, [.p0] => some (.sl0)
  | 27, [.p0, .i .u64 _] => some (.i .i64 1)
  | 28, [.p0, .agg [.i .i64 _, .i .i64 _, .i .i64 _, .i .i64 _]] => some (.i .i64 1)
  | 29, [.p0, .i .u64 _] => some (.i .i64 1)
  | 30, [.p0, .i .u64 _] => some (.i .i64 1)
  | 31, [.p0] => some (.i .i64 0)
  | 32, [.p0, .agg [.i .i64 _, .i .i64 _, .i .i64 _, .i .i64 _]] => some (.i .i64 0)
  | 33, [.p0, .i .i64 _] => some (.i .u64 0)
  | 34, [.p0] => some (.i .u64 0)
  | 35, [.p0] => some (.agg [.i .i64 0, .i .i64 0, .i .i64 0, .i .i64 0, .i .i64 0])
  | _, _ => none
theorem TG_ok (hal : ∀ h, CallOK env Tryz.prog N 13 [] h ⟨.b true, h⟩) : TabOK env Tryz.prog N TG := fun f args v h => by
  unfold TG at h
  split at h
  · obtain rfl := Option.some.inj h; exact hal
  · obtain rfl := Option.some.inj h; exact sNil14 
  · obtain rfl := Option.some.inj h; exact sNil15 _ _
  · obtain rfl := Option.some.inj h; exact sNil16 
  · obtain rfl := Option.some.inj h; exact sNil17 _ _ _
  · obtain rfl := Option.some.inj h; exact sNil18 _ _
  · obtain rfl := Option.some.inj h; exact sNil19 _ _ _ _ _ _
  · obtain rfl := Option.some.inj h; exact sNil20 
  · obtain rfl := Option.some.inj h; exact sNil21 _
  · obtain rfl := Option.some.inj h; exact sNil22 
  · obtain rfl := Option.some.inj h; exact sNil23 
  · obtain rfl := Option.some.inj h; exact sNil24 
  · obtain rfl := Option.some.inj h; exact sNil25 
  · obtain rfl := Option.some.inj h; exact sNil26 
  · obtain rfl := Option.some.inj h; exact sNil27 _
  · obtain rfl := Option.some.inj h; exact sNil28 _ _ _ _
  · obtain rfl := Option.some.inj h; exact sNil29 _
  · obtain rfl := Option.some.inj h; exact sNil30 _
  · obtain rfl := Option.some.inj h; exact sNil31 
  · obtain rfl := Option.some.inj h; exact sNil32 _ _ _ _
  · obtain rfl := Option.some.inj h; exact sNil33 _
  · obtain rfl := Option.some.inj h; exact sNil34 
  · obtain rfl := Option.some.inj h; exact sNil35 
  · cases h
theorem eqConf : eqFs env (eqT env 7) [AVal.i .i64 0, AVal.i .i64 0, AVal.i .i64 0, AVal.i .i64 0, AVal.i .i64 0] [AVal.i .i64 0, AVal.i .i64 0, AVal.i .i64 0, AVal.i .i64 0, AVal.i .i64 0] [{ name := "Page", type := 3, offset := 0, embedded := false, tag := "", pkgPath := "", byteOffset := 0 }, { name := "Pages", type := 3, offset := 1, embedded := false, tag := "", pkgPath := "", byteOffset := 8 }, { name := "Arena", type := 3, offset := 2, embedded := false, tag := "", pkgPath := "", byteOffset := 16 }, { name := "Level", type := 3, offset := 3, embedded := false, tag := "", pkgPath := "", byteOffset := 24 }, { name := "Spare", type := 3, offset := 4, embedded := false, tag := "", pkgPath := "", byteOffset := 32 }] = some true := by kernel_rfl
theorem c0 : ((0 : Nat) : Int) = 0 := rfl
theorem w0 : IntKind.wrap .i64 0 = 0 := rfl
theorem TG13 : TG 13 [] = some (.b true) := rfl
theorem TG14  : TG 14 [.p0] = some (.tup [.i .u64 0, .i .i64 1]) := rfl
theorem TG15 (n : Int) (p : Int) : TG 15 [.p0, .i .u64 n, .i .i64 p] = some (.tup [.agg [.i .i64 0, .i .i64 0, .i .i64 0, .i .i64 0, .b false, .i .u64 0], .i .i64 1]) := rfl
theorem TG16  : TG 16 [.p0, .agg [.i .i64 0, .i .i64 0, .i .i64 0, .i .i64 0, .b false, .i .u64 0]] = some (.tup [.s 0 0, .i .i64 1]) := rfl
theorem TG17 (p : Int) (m d : Nat) : TG 17 [.p0, .i .i64 p, .s m d] = some (.tup [.s 0 0, .i .i64 1]) := rfl
theorem TG18 (m d : Nat) : TG 18 [.p0, .s m d] = some (.tup [.agg [.i .i64 0, .i .i64 0, .i .i64 0, .i .i64 0], .i .i64 1]) := rfl
theorem TG19 (a b c e : Int) (m d : Nat) : TG 19 [.p0, .agg [.i .i64 a, .i .i64 b, .i .i64 c, .i .i64 e], .s m d] = some (.tup [.agg [.i .i64 0, .i .i64 0, .i .i64 0, .i .i64 0], .i .i64 1]) := rfl
theorem TG20  : TG 20 [.p0, .b true, .sl0] = some (.tup [.i .u64 0, .i .i64 1]) := rfl
theorem TG21 (n : Int) : TG 21 [.p0, .i .u64 n] = some (.tup [.sl0, .i .i64 1]) := rfl
theorem TG22  : TG 22 [.p0] = some (.sl0) := rfl
theorem TG23  : TG 23 [.p0] = some (.sl0) := rfl
theorem TG24  : TG 24 [.p0] = some (.sl0) := rfl
theorem TG25  : TG 25 [.p0] = some (.sl0) := rfl
theorem TG26  : TG 26 [.p0] = some (.sl0) := rfl
theorem TG27 (n : Int) : TG 27 [.p0, .i .u64 n] = some (.i .i64 1) := rfl
theorem TG28 (a b c e : Int) : TG 28 [.p0, .agg [.i .i64 a, .i .i64 b, .i .i64 c, .i .i64 e]] = some (.i .i64 1) := rfl
theorem TG29 (n : Int) : TG 29 [.p0, .i .u64 n] = some (.i .i64 1) := rfl
theorem TG30 (n : Int) : TG 30 [.p0, .i .u64 n] = some (.i .i64 1) := rfl
theorem TG31  : TG 31 [.p0] = some (.i .i64 0) := rfl
theorem TG32 (a b c e : Int) : TG 32 [.p0, .agg [.i .i64 a, .i .i64 b, .i .i64 c, .i .i64 e]] = some (.i .i64 0) := rfl
theorem TG33 (p : Int) : TG 33 [.p0, .i .i64 p] = some (.i .u64 0) := rfl
theorem TG34  : TG 34 [.p0] = some (.i .u64 0) := rfl
theorem TG35  : TG 35 [.p0] = some (.agg [.i .i64 0, .i .i64 0, .i .i64 0, .i .i64 0, .i .i64 0]) := rfl
set_option maxHeartbeats 1000000 in
theorem sStoreNilA (hal : ∀ h, CallOK env Tryz.prog N 13 [] h ⟨.b true, h⟩) (n p a b c e : Int) (m d : Nat) (hm : m ≤ 9223372036854775807) (h1 : 2048 < (m : Int)) (h : Heap) :
    CallOK env Tryz.prog N 4 [.i .u64 n, .i .i64 p, .agg [.i .i64 a, .i .i64 b, .i .i64 c, .i .i64 e], .s m d] h ⟨.b true, h⟩ := by
  refine walkP (TG_ok hal) envOK Tryz.func4 rfl Tryz.ntmps4 Tryz.results4 rfl (still_b _) fun K hK => ?_
  simp -implicitDefEqProofs (maxSteps := 200000) only [go_sem, hm, h1, Nat.zero_le, eqConf, c0, w0, Int.add_zero, TG13, TG14, TG15, TG16, TG17, TG18, TG19, TG20, TG21, TG22, TG23, TG24, TG25, TG26, TG27, TG28, TG29, TG30, TG31, TG32, TG33, TG34, TG35, ty3, ty4, ty9, ty24, ty26, ty28, ty29, ty31, ty39, ty40, ty52, ty55, ty57, Int.reduceLT, Int.reduceLE, Int.reduceAdd, Int.reduceNeg, Int.reduceBEq, Nat.reduceEqDiff, Nat.reduceAdd, Nat.reduceMul, Nat.reduceSub, Nat.reduceLT, Nat.reduceLeDiff, reduceIte]
  refine hK _ fun b hb => ?_
  simp only [get_new, get_set, next_set, next_new]
  repeat rw [if_neg (by omega)]
set_option maxHeartbeats 1000000 in
theorem sStoreNilB (hal : ∀ h, CallOK env Tryz.prog N 13 [] h ⟨.b true, h⟩) (n p a b c e : Int) (m d : Nat) (hm : m ≤ 9223372036854775807) (h1 : ¬ 2048 < (m : Int)) (h : Heap) :
    CallOK env Tryz.prog N 4 [.i .u64 n, .i .i64 p, .agg [.i .i64 a, .i .i64 b, .i .i64 c, .i .i64 e], .s m d] h ⟨.b true, h⟩ := by
  refine walkP (TG_ok hal) envOK Tryz.func4 rfl Tryz.ntmps4 Tryz.results4 rfl (still_b _) fun K hK => ?_
  simp -implicitDefEqProofs (maxSteps := 200000) only [go_sem, hm, h1, Nat.zero_le, eqConf, c0, w0, Int.add_zero, TG13, TG14, TG15, TG16, TG17, TG18, TG19, TG20, TG21, TG22, TG23, TG24, TG25, TG26, TG27, TG28, TG29, TG30, TG31, TG32, TG33, TG34, TG35, ty3, ty4, ty9, ty24, ty26, ty28, ty29, ty31, ty39, ty40, ty52, ty55, ty57, Int.reduceLT, Int.reduceLE, Int.reduceAdd, Int.reduceNeg, Int.reduceBEq, Nat.reduceEqDiff, Nat.reduceAdd, Nat.reduceMul, Nat.reduceSub, Nat.reduceLT, Nat.reduceLeDiff, reduceIte]
  refine hK _ fun b hb => ?_
  simp only [get_new, get_set, next_set, next_new]
  repeat rw [if_neg (by omega)]
end Go.Abs
