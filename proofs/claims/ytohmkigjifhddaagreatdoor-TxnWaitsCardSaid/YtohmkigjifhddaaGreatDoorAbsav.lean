/- A part of a proof about Go functions of this program: an evaluator with a memory of its own, and the proof that what it finds the model finds (R1). No conditions beyond those that each theorem names. -/
import Derived.Test.YtohmkigjifhddaaGreatDoorAbsau
import Derived.Test.YtohmkigjifhddaaGreatDoorRows
import Derived.Test.YtohmkigjifhddaaGreatDoorTie
import Derived.Test.YtohmkigjifhddaaGreatDoorCards
import Derived.ProofKit
import Derived.OpenShut
import Derived.LaidMore
import Derived.Below
import Derived.ChangeSame
import Derived.Stop.Joined
set_option linter.all false
set_option maxRecDepth 100000
set_option autoImplicit false
namespace Go.Proofs.YtohmkigjifhddaaGreatDoor
open Go.ChangeShapes Go.WideShapes Go.ChangeAt Go.RowKit
theorem own : ownKnob Tryz.prog.godebug = none := by kernel_rfl
theorem gTab : Tryz.prog.globalNamed "math/bits.deBruijn64tab" = some 0 := by kernel_rfl
theorem tTab : (Tryz.prog.globals[0]?).map (·.type) = some 360 := by kernel_rfl
abbrev laidX {H : Type} : List (String × DataW H) := [("math/bits.deBruijn64tab", Rows.laid_math_bits_deBruijn64tab)]
theorem laid_tab : Rows.laid_math_bits_deBruijn64tab (H := Unit) = .agg (Go.Abs.tabL.map fun (x : Nat) => .lit (.int .u8 (x : Int))) := rfl
/-- the door's own heap has the table -/
theorem door_met (os : Os) (args : Array Value) : laidMetH Tryz.prog laidX ((World.doorLaid Tryz.prog 400 os).forCall (fun _ _ => 0) ⟨#[], args, []⟩).memory :=
  laidMetH_of_parts3 (fuel := 8) (laidMet_of_run' 8 (by kernel_rfl) (by kernel_rfl)) (by kernel_rfl) (by kernel_rfl)
/-- the table's cells -/
theorem of_laid {W : World} (h : laidMetH Tryz.prog laidX W) : Go.Abs.GlOK Go.Abs.env 1 W ∧ 1 ≤ W.heap.size := by
  rw [MakeChecks.laidMetH_plain _ _ _ (by kernel_rfl)] at h
  obtain ⟨ps, ⟨g0, t0, cs0, f0, p0, q0, hg0, ht0, hv0, hd0, _, _⟩, _, _⟩ := h
  obtain rfl := Option.some.inj (gTab.symm.trans hg0)
  obtain rfl := Option.some.inj (tTab.symm.trans ht0)
  obtain ⟨xs, m1, rfl, hx1, hlen, hn3, hel⟩ := DataW.trod_array Tryz.underlying360 hd0
  have c5 : Tryz.prog.cellsOf 5 = 1 := by kernel_rfl
  rw [laid_tab] at hx1
  simp only [Prod.mk.injEq, DataW.agg.injEq] at hx1
  have cell : ∀ i, i < 64 → ∀ x : Nat, Go.Abs.tabL[i]? = some x → W.cell? ⟨0, i, none⟩ = some (.int .u8 (x : Int)) := fun i hi x hx => by
    have h0 := hel i hi
    rw [c5, Nat.mul_one] at h0
    have hxs : i < xs.length := by omega
    rw [List.getElem?_eq_getElem hxs] at h0
    obtain ⟨k, e1, e2, _⟩ := DataW.trod_int Tryz.underlying5 h0
    have hk : (xs.map (·.1))[i]? = some (.lit (.int .u8 k)) := by rw [List.getElem?_map, List.getElem?_eq_getElem hxs, e2]; rfl
    rw [← hx1.1, List.getElem?_map, hx] at hk
    have hk : k = (x : Int) := by simpa using hk.symm
    subst hk
    have := World.var?_cell hg0 hv0 i
    rw [this]
    obtain ⟨l⟩ := cs0
    have e3 : (l.drop i)[0]? = some (.int .u8 (x : Int)) := by
      have : ((l.drop i).take 1)[0]? = some (.int .u8 (x : Int)) := by rw [show (l.drop i).take 1 = _ from e1]; rfl
      rw [List.getElem?_take] at this
      simpa using this
    rw [List.getElem?_drop] at e3
    simpa using e3
  refine ⟨fun g off v hv => ?_, ?_⟩
  · have hv : Go.Abs.glob g off = some v := hv
    unfold Go.Abs.glob at hv
    by_cases hg : g = 0
    · subst hg
      have hv : Go.Abs.ob (Go.Abs.nth Go.Abs.tabL off) (fun x => some (Go.Abs.AVal.i .u8 (Int.ofNat x))) = some v := hv
      rw [Go.Abs.nth_eq] at hv
      cases hx : Go.Abs.tabL[off]? with
      | none => rw [hx] at hv; cases hv
      | some x =>
        rw [hx] at hv
        obtain rfl := Option.some.inj hv
        refine ⟨Nat.zero_lt_one, .int .u8 (x : Int), fun φ => rfl, cell off ?_ x hx⟩
        exact (List.getElem?_eq_some_iff.1 hx).1
    · rw [show Nat.beq g 0 = false from Bool.eq_false_iff.2 fun e => hg (Nat.eq_of_beq_eq_true e)] at hv
      cases hv
  · have := cell 0 (by decide) 0 rfl
    exact World.block_lt_of_cell? W ⟨0, 0, none⟩ this
/-- the row's end where the input names no memory -/
theorem post_far {H : Type} {enc : TypeId × Value → H} {f : Func} {s : ChangeSpec} {fresh handsOn again : Bool} {W W' : World} {args : Array Value} {v : Value} {ds : List (DataW H)}
    (hW : DataW.Whole enc Tryz.prog f.params.toList s.vars false W args.toList ds [] []) (hv : s.vars = [])
    (hres : ∀ (b : Nat) (sp : Nat → Bool) (hd : Bool), DataW.TrodAll enc Tryz.prog W' b sp hd f.resultTypes.toList (v.resultList f.resultTypes.size) (s.fn H (ds ++ [])).results [])
    (hargs : ∀ sp : Nat → Bool, DataW.TrodAll enc Tryz.prog W' 0 sp true f.params.toList args.toList (s.fn H (ds ++ [])).args []) (hvs : (s.fn H (ds ++ [])).vars = [])
    (hb : Below W.heap.size W W') (hok : ∀ (j : Nat) (t : TypeId) (r : Value), f.resultTypes[j]? = some t → (v.resultList f.resultTypes.size)[j]? = some r → Value.okWide Tryz.prog W' .any 0 t r) :
    s.post enc Tryz.prog f false fresh handsOn again W args v W' := by
  have vars : ∀ sp : Nat → Bool, DataW.TrodVars enc Tryz.prog W' sp s.vars (s.fn H (ds ++ [])).vars [] := fun sp => by rw [hv, hvs]; rfl
  exact ⟨ds, [], [], [], [], [], hW, hres _ _ _, hargs _, vars _, hb.frame _, fun _ => ⟨hok, _, _, _, ⟨[], [], trodAll_append (hargs _) (hres _ _ _), vars _, rfl, fun b off hp => by simp at hp, fun ha => by cases ha⟩, fun p hp _ => by simp at hp⟩⟩
end Go.Proofs.YtohmkigjifhddaaGreatDoor
