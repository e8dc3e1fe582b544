/- A part of a proof about Go functions of this program: an evaluator with a memory of its own, and the proof that what it finds the model finds (T1). No conditions beyond those that each theorem names. -/
import Derived.Test.YtohmkigjifhddaaGreatDoorAbsax
set_option linter.all false
set_option maxRecDepth 100000
set_option autoImplicit false
set_option linter.unusedSimpArgs false
namespace Go.Proofs.YtohmkigjifhddaaGreatDoor
open Go.ChangeShapes Go.WideShapes Go.ChangeAt Go.RowKit
section
variable {H : Type} {enc : TypeId × Value → H}
theorem c28 : Tryz.prog.cellsOf 28 = 4 := by kernel_rfl
theorem c26 : Tryz.prog.cellsOf 26 = 3 := by kernel_rfl
theorem c3 : Tryz.prog.cellsOf 3 = 1 := by kernel_rfl
/-- a place's name: three numbers -/
theorem open_slot {w : World} {base n : Nat} {sp : Nat → Bool} {held : Bool} {cs : List Value} {x : DataW H × List MemPlace} (h : DataW.trod enc Tryz.prog w base sp held n 26 cs = some x) :
    ∃ a b c : Int, cs = [.int .i64 a, .int .i64 b, .int .i64 c] ∧ x = (.agg [.lit (.int .i64 a), .lit (.int .i64 b), .lit (.int .i64 c)], []) ∧ (Lit.int .i64 a).wf = true ∧ (Lit.int .i64 b).wf = true ∧ (Lit.int .i64 c).wf = true := by
  obtain ⟨xs, m, _, rfl, hl, hlen, hf⟩ := DataW.trod_struct Tryz.underlying26 h
  rw [c26] at hl
  match cs, hl, xs, hlen with
  | [v0, v1, v2], _, [y0, y1, y2], _ =>
    have h0 : DataW.trod enc Tryz.prog w base sp held m 3 (([v0, v1, v2].drop 0).take (Tryz.prog.cellsOf 3)) = [y0, y1, y2][0]? := hf 0 _ rfl
    have h1 : DataW.trod enc Tryz.prog w base sp held m 3 (([v0, v1, v2].drop 1).take (Tryz.prog.cellsOf 3)) = [y0, y1, y2][1]? := hf 1 _ rfl
    have h2 : DataW.trod enc Tryz.prog w base sp held m 3 (([v0, v1, v2].drop 2).take (Tryz.prog.cellsOf 3)) = [y0, y1, y2][2]? := hf 2 _ rfl
    simp only [c3, List.drop_zero, List.drop_succ_cons, List.take_succ_cons, List.take_zero, List.getElem?_cons_zero, List.getElem?_cons_succ] at h0 h1 h2
    obtain ⟨a, e0, rfl, w0⟩ := DataW.trod_int Tryz.underlying3 h0
    obtain ⟨b, e1, rfl, w1⟩ := DataW.trod_int Tryz.underlying3 h1
    obtain ⟨c, e2, rfl, w2⟩ := DataW.trod_int Tryz.underlying3 h2
    obtain rfl : v0 = .int .i64 a := by simpa using e0
    obtain rfl : v1 = .int .i64 b := by simpa using e1
    obtain rfl : v2 = .int .i64 c := by simpa using e2
    exact ⟨a, b, c, rfl, rfl, w0, w1, w2⟩
theorem open_entry {w : World} {base b0 : Nat} {sp : Nat → Bool} {held : Bool} {r : Reach} {v : Value} {d : DataW H} {p : List MemPlace} (hv : Value.okWide Tryz.prog w r b0 28 v) (h : DataW.Trod enc Tryz.prog w base sp held 28 v d p) :
    ∃ a b c e : Int, v = .agg #[.int .i64 a, .int .i64 b, .int .i64 c, .int .i64 e] ∧ d = .agg [.agg [.lit (.int .i64 a), .lit (.int .i64 b), .lit (.int .i64 c)], .lit (.int .i64 e)] ∧ p = [] ∧
      (Lit.int .i64 a).wf = true ∧ (Lit.int .i64 b).wf = true ∧ (Lit.int .i64 c).wf = true ∧ (Lit.int .i64 e).wf = true := by
  obtain ⟨cs, rfl, _⟩ := okWide_struct Tryz.underlying28 hv
  obtain ⟨fuel, hf⟩ := h
  obtain ⟨l⟩ := cs
  have hf : DataW.trod enc Tryz.prog w base sp held fuel 28 l = some (d, p) := hf
  obtain ⟨y0, y1, n, hx, hl, h0, h1⟩ := trod_struct2 Tryz.underlying28 hf
  rw [c28] at hl
  match l, hl with
  | [v0, v1, v2, v3], _ =>
    simp only [c26, c3, List.drop_zero, List.drop_succ_cons, List.take_succ_cons, List.take_zero] at h0 h1
    obtain ⟨a, b, c, e0, rfl, w0, w1, w2⟩ := open_slot h0
    obtain ⟨e, e1, rfl, w3⟩ := DataW.trod_int Tryz.underlying3 h1
    simp only [List.cons.injEq, and_true] at e0 e1
    obtain ⟨rfl, rfl, rfl⟩ := e0
    subst e1
    simp only [Prod.mk.injEq] at hx
    exact ⟨a, b, c, e, rfl, hx.1, hx.2, w0, w1, w2, w3⟩
theorem shut_entry {w : World} {base : Nat} {sp : Nat → Bool} {held : Bool} {a b c e : Int} (w0 : (Lit.int .i64 a).wf = true) (w1 : (Lit.int .i64 b).wf = true) (w2 : (Lit.int .i64 c).wf = true) (w3 : (Lit.int .i64 e).wf = true) :
    DataW.Trod enc Tryz.prog w base sp held 28 (.agg #[.int .i64 a, .int .i64 b, .int .i64 c, .int .i64 e]) (.agg [.agg [.lit (.int .i64 a), .lit (.int .i64 b), .lit (.int .i64 c)], .lit (.int .i64 e)]) [] := by
  have hs : DataW.trod enc Tryz.prog w base sp held 2 26 [.int .i64 a, .int .i64 b, .int .i64 c] = some (.agg [.lit (.int .i64 a), .lit (.int .i64 b), .lit (.int .i64 c)], []) := by
    have := trod_struct_mk (enc := enc) (w := w) (base := base) (spare := sp) (held := held) (n := 1) (cs := [.int .i64 a, .int .i64 b, .int .i64 c]) (xs := [(.lit (.int .i64 a), []), (.lit (.int .i64 b), []), (.lit (.int .i64 c), [])]) Tryz.underlying26 (by rw [c26]; rfl)
      (by simp [c3, trod_int_mk 0 Tryz.underlying3 w0, trod_int_mk 0 Tryz.underlying3 w1, trod_int_mk 0 Tryz.underlying3 w2])
    simpa using this
  exact ⟨3, trod_struct2_mk (y0 := (_, [])) (y1 := (_, [])) Tryz.underlying28 (by rw [c28]; rfl) (by rw [c26]; exact hs) (by rw [c3]; exact trod_int_mk 1 Tryz.underlying3 w3)⟩
end
end Go.Proofs.YtohmkigjifhddaaGreatDoor
