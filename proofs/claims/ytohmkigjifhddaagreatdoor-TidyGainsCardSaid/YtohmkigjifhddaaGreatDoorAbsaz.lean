/- The closed fact that no call of the law starts a goroutine: no body of the program bears a go statement (R4). No conditions. -/
import Derived.Test.YtohmkigjifhddaaGreatDoorRows
import Derived.KernelRfl
import Derived.SevenTiedAt
set_option linter.all false
set_option maxRecDepth 100000
set_option autoImplicit false
namespace Go.Proofs.YtohmkigjifhddaaGreatDoor.TidyGains
theorem noGo : (Tryz.prog.funcs.toList.all fun f => !f.goes) = true := by kernel_rfl
/-- where no function's text bears a go statement, no call starts a goroutine -/
theorem goes_none {P : Program} (h : (P.funcs.toList.all fun f => !f.goes) = true) (f : FuncId) : P.goes f = false := by
  have all : ∀ fn ∈ P.funcs.toList, fn.goes = false := fun fn hf => by
    have := List.all_eq_true.1 h fn hf
    simpa using this
  have one : ∀ g : Nat, (P.funcs[g]?).any Func.goes = false := fun g => by
    cases hg : P.funcs[g]? with
    | none => rfl
    | some fn => exact all fn (by rw [← Array.getElem?_toList] at hg; exact List.mem_of_getElem? hg)
  have any : P.funcs.any Func.goes = false := by
    rw [← Array.any_toList, List.any_eq_false]
    exact fun fn hf => by rw [all fn hf]; decide
  unfold Program.goes
  rw [any, Bool.and_false, Bool.or_false]
  rw [List.any_eq_false]
  exact fun g _ => by rw [one g]; decide
theorem goesAt_none {P : Program} (hP : (P.funcs.toList.all fun f => !f.goes) = true) (start : Start) (func : String) : P.goesAt start func = false := by
  have h : ∀ f, P.goes f = false := goes_none hP
  have h1 : P.goesFrom func = false := by
    unfold Program.goesFrom
    cases P.funcNamed func with
    | none => rfl
    | some f => exact h f
  have h2 : P.inits.toList.any P.goes = false := by
    rw [List.any_eq_false]
    exact fun f _ => by rw [h f]; decide
  unfold Program.goesAt
  rw [h1, h2]
  cases start <;> rfl
theorem c_goes : false = Rows.tidyGainsRow.goesBy Tryz.prog := (goesAt_none noGo Rows.tidyGainsRow.start Rows.tidyGainsRow.func).symm
end Go.Proofs.YtohmkigjifhddaaGreatDoor.TidyGains
