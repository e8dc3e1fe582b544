/- A part of a proof about Go functions of this program: an evaluator with a memory of its own, and the proof that what it finds the model finds (Q6). No conditions beyond those that each theorem names. -/
import Derived.Test.YtohmkigjifhddaaGreatDoorAbsat
import Derived.Test.YtohmkigjifhddaaGreatDoorAbsaq
set_option linter.all false
set_option maxRecDepth 100000
set_option autoImplicit false
set_option linter.unusedSimpArgs false
namespace Go.Abs
open Go.Proofs
variable {N : Nat} {h : Heap}
theorem extNone : ExtOK env Tryz.prog N := fun _ _ _ _ h => by cases h
theorem memo {f : Nat} {args : List AVal} {v : AVal} (h : isV (run env 1000 f args ⟨.e, 0⟩) v = true) (ha : ∀ a ∈ args, Still a) (hv : Still v) (h' : Heap) : CallOK env Tryz.prog N f args h' ⟨v, h'⟩ := by
  obtain ⟨m, hm⟩ := isV_true h
  exact (run_ok envOK extNone (fun r hr => drOK envOK r hr) hm).alone ha hv h'
theorem still_i (k : IntKind) (n : Int) : Still (.i k n) := ⟨_, fun φ => by simp only [den]; rfl⟩
theorem still_b (b : Bool) : Still (.b b) := ⟨_, fun φ => by simp only [den]; rfl⟩
theorem still_ib (k : IntKind) (n : Int) (b : Bool) : Still (.tup [.i k n, .b b]) := ⟨_, fun φ => by simp only [den, denL]; rfl⟩
theorem sPage (h : Heap) : CallOK env Tryz.prog N 59 [.i .i64 1024] h ⟨.b true, h⟩ :=
  memo (by decide +kernel) (fun a ha => by simp at ha; subst ha; exact still_i _ _) (still_b _) h
theorem still_ii {k k' : IntKind} {a b : Int} : ∀ x ∈ [AVal.i k a, AVal.i k' b], Still x := fun x hx => by
  simp at hx; rcases hx with rfl | rfl <;> exact still_i _ _
theorem sSize0 (h : Heap) : CallOK env Tryz.prog N 60 [.i .i64 0, .i .i64 1024] h ⟨.i .i64 64, h⟩ := memo (by decide +kernel) still_ii (still_i _ _) h
theorem sSize1 (h : Heap) : CallOK env Tryz.prog N 60 [.i .i64 1, .i .i64 1024] h ⟨.i .i64 128, h⟩ := memo (by decide +kernel) still_ii (still_i _ _) h
theorem sSize2 (h : Heap) : CallOK env Tryz.prog N 60 [.i .i64 2, .i .i64 1024] h ⟨.i .i64 256, h⟩ := memo (by decide +kernel) still_ii (still_i _ _) h
theorem sSize3 (h : Heap) : CallOK env Tryz.prog N 60 [.i .i64 3, .i .i64 1024] h ⟨.i .i64 512, h⟩ := memo (by decide +kernel) still_ii (still_i _ _) h
theorem sSize4 (h : Heap) : CallOK env Tryz.prog N 60 [.i .i64 4, .i .i64 1024] h ⟨.i .i64 1024, h⟩ := memo (by decide +kernel) still_ii (still_i _ _) h
theorem sSize5 (h : Heap) : CallOK env Tryz.prog N 60 [.i .i64 5, .i .i64 1024] h ⟨.i .i64 1088, h⟩ := memo (by decide +kernel) still_ii (still_i _ _) h
def TA : Nat → List AVal → Option AVal
  | 59, [.i .i64 1024] => some (.b true)
  | 60, [.i .i64 0, .i .i64 1024] => some (.i .i64 64)
  | 60, [.i .i64 1, .i .i64 1024] => some (.i .i64 128)
  | 60, [.i .i64 2, .i .i64 1024] => some (.i .i64 256)
  | 60, [.i .i64 3, .i .i64 1024] => some (.i .i64 512)
  | 60, [.i .i64 4, .i .i64 1024] => some (.i .i64 1024)
  | 60, [.i .i64 5, .i .i64 1024] => some (.i .i64 1088)
  | _, _ => none
theorem TA_ok : TabOK env Tryz.prog N TA := fun f args v h => by
  unfold TA at h
  split at h
  · obtain rfl := Option.some.inj h; exact sPage
  · obtain rfl := Option.some.inj h; exact sSize0
  · obtain rfl := Option.some.inj h; exact sSize1
  · obtain rfl := Option.some.inj h; exact sSize2
  · obtain rfl := Option.some.inj h; exact sSize3
  · obtain rfl := Option.some.inj h; exact sSize4
  · obtain rfl := Option.some.inj h; exact sSize5
  · cases h
theorem TA59 : TA 59 [.i .i64 1024] = some (.b true) := rfl
theorem TA60a : TA 60 [.i .i64 0, .i .i64 1024] = some (.i .i64 64) := rfl
theorem TA60b : TA 60 [.i .i64 1, .i .i64 1024] = some (.i .i64 128) := rfl
theorem TA60c : TA 60 [.i .i64 2, .i .i64 1024] = some (.i .i64 256) := rfl
theorem TA60d : TA 60 [.i .i64 3, .i .i64 1024] = some (.i .i64 512) := rfl
theorem TA60e : TA 60 [.i .i64 4, .i .i64 1024] = some (.i .i64 1024) := rfl
theorem TA60f : TA 60 [.i .i64 5, .i .i64 1024] = some (.i .i64 1088) := rfl
def fitK (n : Int) : Int := if n ≤ 64 then 0 else if n ≤ 128 then 1 else if n ≤ 256 then 2 else if n ≤ 512 then 3 else if n ≤ 1024 then 4 else if n ≤ 1088 then 5 else 0
def fitB (n : Int) : Bool := decide (n ≤ 1088)
theorem sFit (n : Int) (h0 : 0 ≤ n) (h : Heap) : CallOK env Tryz.prog N 10 [.i .i64 n, .i .i64 1024] h ⟨.tup [.i .i64 (fitK n), .b (fitB n)], h⟩ := by
  refine walkP TA_ok envOK Tryz.func10 rfl Tryz.ntmps10 Tryz.results10 rfl (still_ib ..) fun K hK => ?_
  have hn : ¬ n < 0 := by omega
  have hK' : ∀ k b, fitK n = k → fitB n = b → K (.tup [.i .i64 k, .b b]) h := fun k b e1 e2 => by
    rw [← e1, ← e2]; exact hK h fun _ _ => rfl
  unfold fitK fitB at hK'
  by_cases h1 : n ≤ 64
  · simp -implicitDefEqProofs only [go_sem, w_loop, hn, h1, TA59, TA60a, TA60b, TA60c, TA60d, TA60e, TA60f, ty3, wrap64, Int.reduceLT, Int.reduceLE, Int.reduceAdd, Int.reduceNeg, Nat.reduceEqDiff, Nat.reduceAdd, Nat.reduceMul, Nat.reduceSub, Nat.reduceLT, Nat.reduceLeDiff, reduceIte]
    exact hK' _ _ (by omega) (by simp; omega)
  by_cases h2 : n ≤ 128
  · simp -implicitDefEqProofs only [go_sem, w_loop, hn, h1, h2, TA59, TA60a, TA60b, TA60c, TA60d, TA60e, TA60f, ty3, wrap64, Int.reduceLT, Int.reduceLE, Int.reduceAdd, Int.reduceNeg, Nat.reduceEqDiff, Nat.reduceAdd, Nat.reduceMul, Nat.reduceSub, Nat.reduceLT, Nat.reduceLeDiff, reduceIte]
    exact hK' _ _ (by omega) (by simp; omega)
  by_cases h3 : n ≤ 256
  · simp -implicitDefEqProofs only [go_sem, w_loop, hn, h1, h2, h3, TA59, TA60a, TA60b, TA60c, TA60d, TA60e, TA60f, ty3, wrap64, Int.reduceLT, Int.reduceLE, Int.reduceAdd, Int.reduceNeg, Nat.reduceEqDiff, Nat.reduceAdd, Nat.reduceMul, Nat.reduceSub, Nat.reduceLT, Nat.reduceLeDiff, reduceIte]
    exact hK' _ _ (by omega) (by simp; omega)
  by_cases h4 : n ≤ 512
  · simp -implicitDefEqProofs only [go_sem, w_loop, hn, h1, h2, h3, h4, TA59, TA60a, TA60b, TA60c, TA60d, TA60e, TA60f, ty3, wrap64, Int.reduceLT, Int.reduceLE, Int.reduceAdd, Int.reduceNeg, Nat.reduceEqDiff, Nat.reduceAdd, Nat.reduceMul, Nat.reduceSub, Nat.reduceLT, Nat.reduceLeDiff, reduceIte]
    exact hK' _ _ (by omega) (by simp; omega)
  by_cases h5 : n ≤ 1024
  · simp -implicitDefEqProofs only [go_sem, w_loop, hn, h1, h2, h3, h4, h5, TA59, TA60a, TA60b, TA60c, TA60d, TA60e, TA60f, ty3, wrap64, Int.reduceLT, Int.reduceLE, Int.reduceAdd, Int.reduceNeg, Nat.reduceEqDiff, Nat.reduceAdd, Nat.reduceMul, Nat.reduceSub, Nat.reduceLT, Nat.reduceLeDiff, reduceIte]
    exact hK' _ _ (by omega) (by simp; omega)
  by_cases h6 : n ≤ 1088
  · simp -implicitDefEqProofs only [go_sem, w_loop, hn, h1, h2, h3, h4, h5, h6, TA59, TA60a, TA60b, TA60c, TA60d, TA60e, TA60f, ty3, wrap64, Int.reduceLT, Int.reduceLE, Int.reduceAdd, Int.reduceNeg, Nat.reduceEqDiff, Nat.reduceAdd, Nat.reduceMul, Nat.reduceSub, Nat.reduceLT, Nat.reduceLeDiff, reduceIte]
    exact hK' _ _ (by omega) (by simp; omega)
  · simp -implicitDefEqProofs only [go_sem, w_loop, hn, h1, h2, h3, h4, h5, h6, TA59, TA60a, TA60b, TA60c, TA60d, TA60e, TA60f, ty3, wrap64, Int.reduceLT, Int.reduceLE, Int.reduceAdd, Int.reduceNeg, Nat.reduceEqDiff, Nat.reduceAdd, Nat.reduceMul, Nat.reduceSub, Nat.reduceLT, Nat.reduceLeDiff, reduceIte]
    exact hK' _ _ (by omega) (by simp; omega)
def TB : Nat → List AVal → Option AVal
  | 10, [.i .i64 n, .i .i64 1024] => if 0 ≤ n then some (.tup [.i .i64 (fitK n), .b (fitB n)]) else none
  | _, _ => none
theorem TB_ok : TabOK env Tryz.prog N TB := fun f args v h => by
  unfold TB at h
  split at h
  · split at h
    · next hn => obtain rfl := Option.some.inj h; exact sFit _ hn
    · cases h
  · cases h
theorem TB10 (n : Int) (h : 0 ≤ n) : TB 10 [.i .i64 n, .i .i64 1024] = some (.tup [.i .i64 (fitK n), .b (fitB n)]) := by
  show (if 0 ≤ n then some (AVal.tup [.i .i64 (fitK n), .b (fitB n)]) else none) = _
  rw [if_pos h]
def spareK (n l : Int) : Int := if 0 < l ∧ n + l ≤ 1088 then fitK (n + l) else fitK n
def spareB (n l : Int) : Bool := if 0 < l ∧ n + l ≤ 1088 then true else fitB n
theorem sSpare (n l : Int) (h0 : 0 ≤ n) (h1 : n ≤ 30000) (h2 : 0 ≤ l) (h3 : l ≤ 30000) (h : Heap) : CallOK env Tryz.prog N 9 [.i .i64 n, .i .i64 l, .i .i64 1024] h ⟨.tup [.i .i64 (spareK n l), .b (spareB n l)], h⟩ := by
  refine walkP TB_ok envOK Tryz.func9 rfl Tryz.ntmps9 Tryz.results9 rfl (still_ib ..) fun K hK => ?_
  have a1 : l ≤ 32768 := by omega
  have a2 : n ≤ 32768 := by omega
  have a3 : IntKind.wrap .i64 (n + l) = n + l := wrap64 (by omega) (by omega)
  have a4 : 0 ≤ n + l := by omega
  by_cases c1 : 0 < l
  · cases c2 : fitB (n + l) with
    | true =>
      simp -implicitDefEqProofs only [go_sem, h0, a1, a2, a3, a4, c1, c2, TB10, ty3, wrap64, Int.reduceLT, Int.reduceLE, Int.reduceAdd, Int.reduceNeg, Nat.reduceEqDiff, Nat.reduceAdd, Nat.reduceMul, Nat.reduceSub, Nat.reduceLT, Nat.reduceLeDiff, reduceIte]
      have c3 : n + l ≤ 1088 := by simpa [fitB] using c2
      have := hK h fun _ _ => rfl
      unfold spareK spareB at this
      rw [if_pos ⟨c1, c3⟩, if_pos ⟨c1, c3⟩] at this
      exact this
    | false =>
      simp -implicitDefEqProofs only [go_sem, h0, a1, a2, a3, a4, c1, c2, TB10, ty3, wrap64, Int.reduceLT, Int.reduceLE, Int.reduceAdd, Int.reduceNeg, Nat.reduceEqDiff, Nat.reduceAdd, Nat.reduceMul, Nat.reduceSub, Nat.reduceLT, Nat.reduceLeDiff, reduceIte]
      have c3 : ¬ n + l ≤ 1088 := by simpa [fitB] using c2
      have := hK h fun _ _ => rfl
      unfold spareK spareB at this
      rw [if_neg (fun q => c3 q.2), if_neg (fun q => c3 q.2)] at this
      cases c4 : fitB n with
      | true => rw [c4] at this; simp -implicitDefEqProofs only [go_sem, c4, ty3, wrap64, Int.reduceLT, Int.reduceLE, Int.reduceAdd, Int.reduceNeg, Nat.reduceEqDiff, Nat.reduceAdd, Nat.reduceMul, Nat.reduceSub, Nat.reduceLT, Nat.reduceLeDiff, reduceIte]; exact this
      | false => rw [c4] at this; simp -implicitDefEqProofs only [go_sem, c4, ty3, wrap64, Int.reduceLT, Int.reduceLE, Int.reduceAdd, Int.reduceNeg, Nat.reduceEqDiff, Nat.reduceAdd, Nat.reduceMul, Nat.reduceSub, Nat.reduceLT, Nat.reduceLeDiff, reduceIte]; exact this
  · have := hK h fun _ _ => rfl
    unfold spareK spareB at this
    rw [if_neg (fun q => c1 q.1), if_neg (fun q => c1 q.1)] at this
    cases c4 : fitB n with
    | true => rw [c4] at this; simp -implicitDefEqProofs only [go_sem, h0, a1, a2, c1, c4, TB10, ty3, wrap64, Int.reduceLT, Int.reduceLE, Int.reduceAdd, Int.reduceNeg, Nat.reduceEqDiff, Nat.reduceAdd, Nat.reduceMul, Nat.reduceSub, Nat.reduceLT, Nat.reduceLeDiff, reduceIte]; exact this
    | false => rw [c4] at this; simp -implicitDefEqProofs only [go_sem, h0, a1, a2, c1, c4, TB10, ty3, wrap64, Int.reduceLT, Int.reduceLE, Int.reduceAdd, Int.reduceNeg, Nat.reduceEqDiff, Nat.reduceAdd, Nat.reduceMul, Nat.reduceSub, Nat.reduceLT, Nat.reduceLeDiff, reduceIte]; exact this
end Go.Abs
