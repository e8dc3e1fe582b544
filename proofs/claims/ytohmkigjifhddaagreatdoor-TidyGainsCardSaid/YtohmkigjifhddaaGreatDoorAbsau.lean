/- A part of a proof about Go functions of this program: an evaluator with a memory of its own, and the proof that what it finds the model finds (Q7). No conditions beyond those that each theorem names. -/
import Derived.Test.YtohmkigjifhddaaGreatDoorAbsat
set_option linter.all false
set_option maxRecDepth 100000
set_option autoImplicit false
set_option linter.unusedSimpArgs false
namespace Go.Abs
open Go.Proofs
variable {N : Nat} {h : Heap}
theorem sWorks29 (h : Heap) : CallOK env Tryz.prog N 12 [] h ⟨.b true, h⟩ := memo (by decide +kernel) (fun a ha => by cases ha) (still_b _) h
def TC : Nat → List AVal → Option AVal
  | 9, [.i .i64 n, .i .i64 l, .i .i64 1024] => if 0 ≤ n ∧ n ≤ 30000 ∧ 0 ≤ l ∧ l ≤ 30000 then some (.tup [.i .i64 (spareK n l), .b (spareB n l)]) else none
  | 10, [.i .i64 n, .i .i64 1024] => if 0 ≤ n then some (.tup [.i .i64 (fitK n), .b (fitB n)]) else none
  | _, _ => none
theorem TC_ok : TabOK env Tryz.prog N TC := fun f args v h => by
  unfold TC at h
  split at h
  · split at h
    · next hn => obtain rfl := Option.some.inj h; exact sSpare _ _ hn.1 hn.2.1 hn.2.2.1 hn.2.2.2
    · cases h
  · split at h
    · next hn => obtain rfl := Option.some.inj h; exact sFit _ hn
    · cases h
  · cases h
theorem TC9 (n l : Int) (h0 : 0 ≤ n) (h1 : n ≤ 30000) (h2 : 0 ≤ l) (h3 : l ≤ 30000) : TC 9 [.i .i64 n, .i .i64 l, .i .i64 1024] = some (.tup [.i .i64 (spareK n l), .b (spareB n l)]) := by
  show (if 0 ≤ n ∧ n ≤ 30000 ∧ 0 ≤ l ∧ l ≤ 30000 then some (AVal.tup [.i .i64 (spareK n l), .b (spareB n l)]) else none) = _
  rw [if_pos ⟨h0, h1, h2, h3⟩]
theorem TC10 (n : Int) (h : 0 ≤ n) : TC 10 [.i .i64 n, .i .i64 1024] = some (.tup [.i .i64 (fitK n), .b (fitB n)]) := by
  show (if 0 ≤ n then some (AVal.tup [.i .i64 (fitK n), .b (fitB n)]) else none) = _
  rw [if_pos h]
def gainK (n l : Int) : Int := if spareB n l = true then spareK n l else fitK n
def gainB (n l : Int) : Bool := if spareB n l = true then true else fitB n
def gainsF (n l cl lg : Int) (there : Bool) : Bool := there && gainB n l && (decide (0 < lg) || decide (gainK n l < cl))
set_option maxHeartbeats 4000000 in
theorem sGains (n : Nat) (d : Nat) (hn : n ≤ 30000) (l a b c e cl ix lg st : Int) (there : Bool) (h2 : 0 ≤ l) (h3 : l ≤ 30000) (h : Heap) :
    CallOK env Tryz.prog N 11 [.agg [.i .i64 1024, .i .i64 a, .i .i64 b, .i .i64 c, .i .i64 l], .agg [.i .i64 e, .i .i64 cl, .i .i64 ix, .i .i64 lg, .b there, .i .u64 st], .s n d] h ⟨.b (gainsF n l cl lg there), h⟩ := by
  refine walkP TC_ok envOK Tryz.func11 rfl Tryz.ntmps11 Tryz.results11 rfl (still_b _) fun K hK => ?_
  have a1 : (0 : Int) ≤ n := by omega
  have a2 : (n : Int) ≤ 30000 := by omega
  have a3 : n ≤ 9223372036854775807 := by omega
  have hK' : ∀ b, gainsF n l cl lg there = b → ∀ o1 o2, K (.b b) ((h.new o1).new o2) := fun b e o1 o2 => by
    subst e; refine hK _ fun b hb => ?_
    rw [get_new, get_new, if_neg (by rw [next_new]; omega), if_neg (by omega)]
  unfold gainsF gainB gainK at hK'
  cases c1 : spareB n l with
  | true =>
    simp only [c1, if_true] at hK'
    cases there <;> by_cases c5 : 0 < lg <;> by_cases c6 : spareK n l < cl <;>
      (simp -implicitDefEqProofs only [go_sem, a3, c1, c5, c6, TC9 _ _ a1 a2 h2 h3, ty24, ty31, ty28, ty26, ty3, ty4, ty29, ty9, Int.reduceLT, Int.reduceLE, Int.reduceAdd, Int.reduceNeg, Nat.reduceEqDiff, Nat.reduceAdd, Nat.reduceMul, Nat.reduceSub, Nat.reduceLT, Nat.reduceLeDiff, reduceIte]
       exact hK' _ (by simp [c5, c6]) _ _)
  | false =>
    simp only [c1, Bool.false_eq_true, if_false] at hK'
    cases c4 : fitB n <;> cases there <;> by_cases c5 : 0 < lg <;> by_cases c6 : fitK n < cl <;>
      (simp -implicitDefEqProofs only [go_sem, a3, c1, c4, c5, c6, TC9 _ _ a1 a2 h2 h3, TC10 _ a1, ty24, ty31, ty28, ty26, ty3, ty4, ty29, ty9, Int.reduceLT, Int.reduceLE, Int.reduceAdd, Int.reduceNeg, Nat.reduceEqDiff, Nat.reduceAdd, Nat.reduceMul, Nat.reduceSub, Nat.reduceLT, Nat.reduceLeDiff, reduceIte]
       exact hK' _ (by simp [c4, c5, c6]) _ _)
def TD : Nat → List AVal → Option AVal
  | 9, [.i .i64 n, .i .i64 l, .i .i64 1024] => if 0 ≤ n ∧ n ≤ 30000 ∧ 0 ≤ l ∧ l ≤ 30000 then some (.tup [.i .i64 (spareK n l), .b (spareB n l)]) else none
  | 10, [.i .i64 n, .i .i64 1024] => if 0 ≤ n then some (.tup [.i .i64 (fitK n), .b (fitB n)]) else none
  | 11, [.agg [.i .i64 1024, .i .i64 _, .i .i64 _, .i .i64 _, .i .i64 l], .agg [.i .i64 _, .i .i64 cl, .i .i64 _, .i .i64 lg, .b there, .i .u64 _], .s n _] => if n ≤ 30000 ∧ 0 ≤ l ∧ l ≤ 30000 then some (.b (gainsF n l cl lg there)) else none
  | 12, [] => some (.b true)
  | _, _ => none
theorem TD_ok : TabOK env Tryz.prog N TD := fun f args v h => by
  unfold TD at h
  split at h
  · split at h
    · next hn => obtain rfl := Option.some.inj h; exact sSpare _ _ hn.1 hn.2.1 hn.2.2.1 hn.2.2.2
    · cases h
  · split at h
    · next hn => obtain rfl := Option.some.inj h; exact sFit _ hn
    · cases h
  · split at h
    · next hn => obtain rfl := Option.some.inj h; exact sGains _ _ hn.1 _ _ _ _ _ _ _ _ _ _ hn.2.1 hn.2.2
    · cases h
  · obtain rfl := Option.some.inj h; exact sWorks29
  · cases h
theorem TD9 (n l : Int) (h0 : 0 ≤ n) (h1 : n ≤ 30000) (h2 : 0 ≤ l) (h3 : l ≤ 30000) : TD 9 [.i .i64 n, .i .i64 l, .i .i64 1024] = some (.tup [.i .i64 (spareK n l), .b (spareB n l)]) := by
  show (if 0 ≤ n ∧ n ≤ 30000 ∧ 0 ≤ l ∧ l ≤ 30000 then some (AVal.tup [.i .i64 (spareK n l), .b (spareB n l)]) else none) = _
  rw [if_pos ⟨h0, h1, h2, h3⟩]
theorem TD10 (n : Int) (h : 0 ≤ n) : TD 10 [.i .i64 n, .i .i64 1024] = some (.tup [.i .i64 (fitK n), .b (fitB n)]) := by
  show (if 0 ≤ n then some (AVal.tup [.i .i64 (fitK n), .b (fitB n)]) else none) = _
  rw [if_pos h]
theorem TD11 (n d : Nat) (l a b c e cl ix lg st : Int) (there : Bool) (hn : n ≤ 30000) (h2 : 0 ≤ l) (h3 : l ≤ 30000) : TD 11 [.agg [.i .i64 1024, .i .i64 a, .i .i64 b, .i .i64 c, .i .i64 l], .agg [.i .i64 e, .i .i64 cl, .i .i64 ix, .i .i64 lg, .b there, .i .u64 st], .s n d] = some (.b (gainsF n l cl lg there)) := by
  show (if n ≤ 30000 ∧ 0 ≤ l ∧ l ≤ 30000 then some (AVal.b (gainsF n l cl lg there)) else none) = _
  rw [if_pos ⟨hn, h2, h3⟩]
theorem TD12 : TD 12 [] = some (.b true) := rfl
end Go.Abs
