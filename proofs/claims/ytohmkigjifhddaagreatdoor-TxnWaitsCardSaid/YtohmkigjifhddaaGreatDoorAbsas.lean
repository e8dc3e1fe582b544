/- A part of a proof about Go functions of this program: an evaluator with a memory of its own, and the proof that what it finds the model finds (Q2). No conditions beyond those that each theorem names. -/
import Derived.Test.YtohmkigjifhddaaGreatDoorAbsar
import Derived.Test.YtohmkigjifhddaaGreatDoorAbsap
set_option linter.all false
set_option maxRecDepth 100000
set_option autoImplicit false
namespace Go.Abs
open Go.Proofs
theorem envOK : EnvOK env Tryz.prog := envP_ok (by
  intro f fn hf hb
  have : Tryz.prog.funcs.toList.all (fun fn => fn.body.isNone || decide (fn.name ≠ "runtime.NumGoroutine")) = true := by kernel_rfl
  rw [List.all_eq_true] at this
  have := this fn (List.mem_of_getElem? (by rw [Array.getElem?_toList]; exact hf))
  intro e
  rw [e] at this
  cases hbb : fn.body with
  | none => rw [hbb] at hb; cases hb
  | some x => rw [hbb] at this; simp at this)
theorem text {f : Nat} {fn : Func} (h : Tryz.prog.funcs[f]? = some fn) (hb : fn.body.isSome = true) : HasText env f := ⟨fn, by
  show nth Tryz.prog.funcs.toList f = some fn
  rw [nth_eq, Array.getElem?_toList]; exact h, hb⟩
end Go.Abs
