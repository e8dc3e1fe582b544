/- A part of a proof about Go functions of this program: an evaluator with a memory of its own, and the proof that what it finds the model finds (WZ, TW5, V2). No conditions beyond those that each theorem names. -/
import Derived.Test.YtohmkigjifhddaaGreatDoorAbsaz
import Derived.Test.YtohmkigjifhddaaGreatDoorAbsba
import Derived.Test.YtohmkigjifhddaaGreatDoorAbsbb
import Derived.Test.YtohmkigjifhddaaGreatDoorAbsbc
import Derived.Test.YtohmkigjifhddaaGreatDoorAbsbd
import Derived.Test.YtohmkigjifhddaaGreatDoorAbsbe
import Derived.Test.YtohmkigjifhddaaGreatDoorAbsbf
import Derived.Test.YtohmkigjifhddaaGreatDoorAbsbg
import Derived.Test.YtohmkigjifhddaaGreatDoorAbsbh
import Derived.Test.YtohmkigjifhddaaGreatDoorAbsbi
import Derived.Test.YtohmkigjifhddaaGreatDoorAbsbj
import Derived.Test.YtohmkigjifhddaaGreatDoorAbsbk
import Derived.Test.YtohmkigjifhddaaGreatDoorAbsbl
import Derived.Test.YtohmkigjifhddaaGreatDoorAbsbm
import Derived.Test.YtohmkigjifhddaaGreatDoorAbsbn
import Derived.Test.YtohmkigjifhddaaGreatDoorAbsbo
import Derived.Test.YtohmkigjifhddaaGreatDoorAbsbp
import Derived.Test.YtohmkigjifhddaaGreatDoorAbsav
import Derived.Test.YtohmkigjifhddaaGreatDoorAbsaw
import Derived.SevenTiedAt
set_option linter.all false
set_option maxRecDepth 100000
set_option autoImplicit false
set_option linter.all false
namespace Go.Abs
theorem w0_ok {N : Nat} (hP : RepIs Go.Proofs.Tryz.prog 69) : Kn N w0 := Kn.of hP Knows.nil w0_ran
theorem w1_ok {N : Nat} (hP : RepIs Go.Proofs.Tryz.prog 69) : Kn N w1 := Kn.of hP Knows.nil w1_ran
theorem w2_ok {N : Nat} (hP : RepIs Go.Proofs.Tryz.prog 69) : Kn N w2 := Kn.of hP Knows.nil w2_ran
theorem w3_ok {N : Nat} (hP : RepIs Go.Proofs.Tryz.prog 69) : Kn N w3 := Kn.of hP (Knows.cons (w2_ok hP) Knows.nil) w3_ran
theorem w4_ok {N : Nat} (hP : RepIs Go.Proofs.Tryz.prog 69) : Kn N w4 := Kn.of hP Knows.nil w4_ran
theorem w5_ok {N : Nat} (hP : RepIs Go.Proofs.Tryz.prog 69) : Kn N w5 := Kn.of hP (Knows.cons (w4_ok hP) Knows.nil) w5_ran
theorem w6_ok {N : Nat} (hP : RepIs Go.Proofs.Tryz.prog 69) : Kn N w6 := Kn.of hP Knows.nil w6_ran
theorem w7_ok {N : Nat} (hP : RepIs Go.Proofs.Tryz.prog 69) : Kn N w7 := Kn.of hP (Knows.cons (w6_ok hP) Knows.nil) w7_ran
theorem w8_ok {N : Nat} (hP : RepIs Go.Proofs.Tryz.prog 69) : Kn N w8 := Kn.of hP Knows.nil w8_ran
theorem w9_ok {N : Nat} (hP : RepIs Go.Proofs.Tryz.prog 69) : Kn N w9 := Kn.of hP Knows.nil w9_ran
theorem w10_ok {N : Nat} (hP : RepIs Go.Proofs.Tryz.prog 69) : Kn N w10 := Kn.of hP Knows.nil w10_ran
theorem w11_ok {N : Nat} (hP : RepIs Go.Proofs.Tryz.prog 69) : Kn N w11 := Kn.of hP (Knows.cons (w10_ok hP) Knows.nil) w11_ran
theorem w12_ok {N : Nat} (hP : RepIs Go.Proofs.Tryz.prog 69) : Kn N w12 := Kn.of hP (Knows.cons (w11_ok hP) Knows.nil) w12_ran
theorem w13_ok {N : Nat} (hP : RepIs Go.Proofs.Tryz.prog 69) : Kn N w13 := Kn.of hP Knows.nil w13_ran
theorem w14_ok {N : Nat} (hP : RepIs Go.Proofs.Tryz.prog 69) : Kn N w14 := Kn.of hP Knows.nil w14_ran
theorem w15_ok {N : Nat} (hP : RepIs Go.Proofs.Tryz.prog 69) : Kn N w15 := Kn.of hP Knows.nil w15_ran
theorem w16_ok {N : Nat} (hP : RepIs Go.Proofs.Tryz.prog 69) : Kn N w16 := Kn.of hP (Knows.cons (w8_ok hP) (Knows.cons (w9_ok hP) (Knows.cons (w12_ok hP) (Knows.cons (w13_ok hP) (Knows.cons (w14_ok hP) (Knows.cons (w15_ok hP) Knows.nil)))))) w16_ran
theorem w17_ok {N : Nat} (hP : RepIs Go.Proofs.Tryz.prog 69) : Kn N w17 := Kn.of hP Knows.nil w17_ran
theorem w18_ok {N : Nat} (hP : RepIs Go.Proofs.Tryz.prog 69) : Kn N w18 := Kn.of hP (Knows.cons (w17_ok hP) Knows.nil) w18_ran
theorem w19_ok {N : Nat} (hP : RepIs Go.Proofs.Tryz.prog 69) : Kn N w19 := Kn.of hP (Knows.cons (w18_ok hP) Knows.nil) w19_ran
theorem w20_ok {N : Nat} (hP : RepIs Go.Proofs.Tryz.prog 69) : Kn N w20 := Kn.of hP Knows.nil w20_ran
theorem w21_ok {N : Nat} (hP : RepIs Go.Proofs.Tryz.prog 69) : Kn N w21 := Kn.of hP (Knows.cons (w19_ok hP) (Knows.cons (w20_ok hP) Knows.nil)) w21_ran
theorem w22_ok {N : Nat} (hP : RepIs Go.Proofs.Tryz.prog 69) : Kn N w22 := Kn.of hP Knows.nil w22_ran
theorem w23_ok {N : Nat} (hP : RepIs Go.Proofs.Tryz.prog 69) : Kn N w23 := Kn.of hP (Knows.cons (w1_ok hP) (Knows.cons (w3_ok hP) (Knows.cons (w5_ok hP) (Knows.cons (w7_ok hP) (Knows.cons (w16_ok hP) (Knows.cons (w8_ok hP) (Knows.cons (w9_ok hP) (Knows.cons (w21_ok hP) (Knows.cons (w22_ok hP) Knows.nil))))))))) w23_ran
theorem w24_ok {N : Nat} (hP : RepIs Go.Proofs.Tryz.prog 69) : Kn N w24 := Kn.of hP Knows.nil w24_ran
theorem w25_ok {N : Nat} (hP : RepIs Go.Proofs.Tryz.prog 69) : Kn N w25 := Kn.of hP (Knows.cons (w23_ok hP) (Knows.cons (w24_ok hP) Knows.nil)) w25_ran
theorem w26_ok {N : Nat} (hP : RepIs Go.Proofs.Tryz.prog 69) : Kn N w26 := Kn.of hP (Knows.cons (w25_ok hP) (Knows.cons (w24_ok hP) Knows.nil)) w26_ran
theorem w27_ok {N : Nat} (hP : RepIs Go.Proofs.Tryz.prog 69) : Kn N w27 := Kn.of hP (Knows.cons (w24_ok hP) Knows.nil) w27_ran
theorem w28_ok {N : Nat} (hP : RepIs Go.Proofs.Tryz.prog 69) : Kn N w28 := Kn.of hP (Knows.cons (w2_ok hP) Knows.nil) w28_ran
theorem w29_ok {N : Nat} (hP : RepIs Go.Proofs.Tryz.prog 69) : Kn N w29 := Kn.of hP (Knows.cons (w4_ok hP) Knows.nil) w29_ran
theorem w30_ok {N : Nat} (hP : RepIs Go.Proofs.Tryz.prog 69) : Kn N w30 := Kn.of hP (Knows.cons (w6_ok hP) Knows.nil) w30_ran
theorem w31_ok {N : Nat} (hP : RepIs Go.Proofs.Tryz.prog 69) : Kn N w31 := Kn.of hP (Knows.cons (w17_ok hP) (Knows.cons (w19_ok hP) Knows.nil)) w31_ran
theorem w32_ok {N : Nat} (hP : RepIs Go.Proofs.Tryz.prog 69) : Kn N w32 := Kn.of hP Knows.nil w32_ran
theorem w33_ok {N : Nat} (hP : RepIs Go.Proofs.Tryz.prog 69) : Kn N w33 := Kn.of hP (Knows.cons (w24_ok hP) (Knows.cons (w8_ok hP) (Knows.cons (w17_ok hP) (Knows.cons (w31_ok hP) (Knows.cons (w32_ok hP) (Knows.cons (w22_ok hP) Knows.nil)))))) w33_ran
theorem w34_ok {N : Nat} (hP : RepIs Go.Proofs.Tryz.prog 69) : Kn N w34 := Kn.of hP (Knows.cons (w0_ok hP) (Knows.cons (w1_ok hP) (Knows.cons (w28_ok hP) (Knows.cons (w29_ok hP) (Knows.cons (w30_ok hP) (Knows.cons (w16_ok hP) (Knows.cons (w8_ok hP) (Knows.cons (w9_ok hP) (Knows.cons (w21_ok hP) (Knows.cons (w22_ok hP) (Knows.cons (w24_ok hP) (Knows.cons (w33_ok hP) Knows.nil)))))))))))) w34_ran
theorem w35_ok {N : Nat} (hP : RepIs Go.Proofs.Tryz.prog 69) : Kn N w35 := Kn.of hP (Knows.cons (w24_ok hP) Knows.nil) w35_ran
theorem w36_ok {N : Nat} (hP : RepIs Go.Proofs.Tryz.prog 69) : Kn N w36 := Kn.of hP (Knows.cons (w24_ok hP) Knows.nil) w36_ran
theorem w37_ok {N : Nat} (hP : RepIs Go.Proofs.Tryz.prog 69) : Kn N w37 := Kn.of hP (Knows.cons (w24_ok hP) Knows.nil) w37_ran
theorem w38_ok {N : Nat} (hP : RepIs Go.Proofs.Tryz.prog 69) : Kn N w38 := Kn.of hP (Knows.cons (w24_ok hP) Knows.nil) w38_ran
theorem w39_ok {N : Nat} (hP : RepIs Go.Proofs.Tryz.prog 69) : Kn N w39 := Kn.of hP (Knows.cons (w24_ok hP) Knows.nil) w39_ran
theorem w40_ok {N : Nat} (hP : RepIs Go.Proofs.Tryz.prog 69) : Kn N w40 := Kn.of hP (Knows.cons (w24_ok hP) Knows.nil) w40_ran
theorem w41_ok {N : Nat} (hP : RepIs Go.Proofs.Tryz.prog 69) : Kn N w41 := Kn.of hP (Knows.cons (w25_ok hP) (Knows.cons (w24_ok hP) Knows.nil)) w41_ran
end Go.Abs

set_option maxRecDepth 100000
set_option autoImplicit false
set_option linter.all false
namespace Go.Abs
open Go.Proofs
theorem knowsW {N : Nat} (hP : RepIs Tryz.prog 69) : Knows N lW :=
  Knows.cons (w0_ok hP) (Knows.cons (w26_ok hP) (Knows.cons (w27_ok hP) (Knows.cons (w34_ok hP) (Knows.cons (w35_ok hP) (Knows.cons (w36_ok hP) (Knows.cons (w37_ok hP) (Knows.cons (w38_ok hP) (Knows.cons (w39_ok hP) (Knows.cons (w40_ok hP) (Knows.cons (w41_ok hP) Knows.nil))))))))))
theorem resW_ok (t : Nat) : ∃ m, resW t (t % 12) = some ⟨.b true, m⟩ := by
  have hm : t % 12 < 12 := Nat.mod_lt _ (by decide)
  generalize t % 12 = r at hm
  match r, hm with
  | 0, _ => exact isT_some (congrFun bW0 t)
  | 1, _ => exact isT_some (congrFun bW1 t)
  | 2, _ => exact isT_some (congrFun bW2 t)
  | 3, _ => exact isT_some (congrFun bW3 t)
  | 4, _ => exact isT_some (congrFun bW4 t)
  | 5, _ => exact isT_some (congrFun bW5 t)
  | 6, _ => exact isT_some (congrFun bW6 t)
  | 7, _ => exact isT_some (congrFun bW7 t)
  | 8, _ => exact isT_some (congrFun bW8 t)
  | 9, _ => exact isT_some (congrFun bW9 t)
  | 10, _ => exact isT_some (congrFun bW10 t)
  | 11, _ => exact isT_some (congrFun bW11 t)
theorem waits_run (t : Nat) (ht : t < 256) : ∃ m, run EW 100000 7 (argW t) ⟨.e, 0⟩ = some ⟨.b true, m⟩ := by
  obtain ⟨m, hm⟩ := resW_ok t
  refine ⟨m, ?_⟩
  have hA : codeV xA EW RW cW (SW0 t) = some ⟨.normal, SW6 t⟩ := isN_some (congrFun nA t)
  have hR := midW (s := SW6 t) (congrFun gA t) ht
  have hx : xW = .seq (fstC xW) (.seq (fstC (sndC xW)) (.seq (fstC (sndC (sndC xW))) (.seq (fstC (sndC (sndC (sndC xW)))) (.seq (fstC (sndC (sndC (sndC (sndC xW))))) (.seq (fstC (sndC (sndC (sndC (sndC (sndC xW)))))) (.seq xR xB)))))) := by
    show Tryz.f7.body.getD .skip = _
    rw [xW_eq]; rfl
  have hb : Tryz.f7.body = some xW := by
    have := xW_eq
    rw [← hx] at this; exact this
  have key : codeV xW EW RW cW (SW0 t) = codeV xB EW RW cW (GW (SW6 t) t (t % 12)) := by
    refine (congrArg (fun y => codeV y EW RW cW (SW0 t)) hx).trans ?_
    show codeV (.seq (fstC xW) (.seq (fstC (sndC xW)) (.seq (fstC (sndC (sndC xW))) (.seq (fstC (sndC (sndC (sndC xW)))) (.seq (fstC (sndC (sndC (sndC (sndC xW))))) (.seq (fstC (sndC (sndC (sndC (sndC (sndC xW)))))) (.seq xR xB))))))) EW RW cW (SW0 t) = _
    rw [seq_assoc, seq_assoc, seq_assoc, seq_assoc, seq_assoc]
    show ob (codeV xA EW RW cW (SW0 t)) (thenR (codeV (.seq xR xB) EW RW cW)) = _
    rw [hA]
    show ob (codeV xR EW RW cW (SW6 t)) (thenR (codeV xB EW RW cW)) = _
    rw [hR]; rfl
  have hf : EW.fn 7 = some Tryz.f7 := by
    show nth Tryz.prog.funcs.toList 7 = some Tryz.f7
    rw [nth_eq, Array.getElem?_toList]; exact Tryz.func7
  show dcallV EW RW 7 (argW t) ⟨.e, 0⟩ = _
  unfold dcallV
  rw [hf]
  show ob Tryz.f7.body (fun x => bodyV EW RW 7 (argW t) ⟨.e, 0⟩ Tryz.f7 x) = _
  rw [hb]
  show chk (Nat.ble (lenL (argW t)) Tryz.f7.ntmps) (ob (codeV xW EW RW ⟨7, Tryz.f7.ntmps, false⟩ (SW0 t)) (endV EW RW Tryz.f7)) = _
  rw [show Tryz.f7.ntmps = 158 from by kernel_rfl]
  show ob (codeV xW EW RW cW (SW0 t)) (endV EW RW Tryz.f7) = _
  rw [key]; exact hm
theorem waits_ok {N : Nat} (hP : RepIs Tryz.prog 69) (t : Nat) (ht : t < 256) : ∃ m, CallOK env Tryz.prog N 7 (argW t) ⟨.e, 0⟩ ⟨.b true, m⟩ := by
  obtain ⟨m, h⟩ := waits_run t ht
  exact ⟨m, CallOK.env (y := fun _ _ _ => none) (run_ok (envX_ok _) (look_ok hP (knowsW hP)) (fun r hr => drOK (envX_ok _) r hr) h)⟩
end Go.Abs

set_option maxRecDepth 100000
set_option autoImplicit false
namespace Go.Proofs.YtohmkigjifhddaaGreatDoor.TxnWaits
open Go.ChangeShapes Go.WideShapes Go.ChangeAt Go.RowKit
theorem wf_u8 {a : Int} (h : (Lit.int .u8 a).wf = true) : 0 ≤ a ∧ a < 256 := by simp [Lit.wf, IntKind.min, IntKind.max, IntKind.bits, IntKind.signed] at h; omega
theorem walk (a0 : Int) (w0 : (Lit.int .u8 a0).wf = true) (w : World) (hG : Go.Abs.GlOK Go.Abs.env 1 w) (hN : 1 ≤ w.heap.size) :
    Calls Tryz.prog 7 #[.int .u8 a0] w fun e w' => e = .returned (.bool true) ∧ Below w.heap.size w w' := by
  obtain ⟨h0, k0⟩ := wf_u8 w0
  obtain ⟨t, rfl⟩ : ∃ t : Nat, a0 = Int.ofNat t := ⟨a0.toNat, by simp only [Int.ofNat_eq_natCast]; omega⟩
  obtain ⟨m, hc⟩ := Go.Abs.waits_ok (N := 1) Tryz.repeat_is t (by simp only [Int.ofNat_eq_natCast] at k0; omega)
  exact Go.Abs.calls_of hc hG hN (show Go.Abs.denL (fun _ => Option.none) [.i .u8 (Int.ofNat t)] = some [.int .u8 (Int.ofNat t)] from rfl) (fun φ => rfl)
theorem lifted (os : Os) (started : os.Started) (H : Type) (enc : TypeId × Value → H) :
    ReturnsInHanded {} Tryz.checked os 7 .any (fun w args => (Rows.txnWaitsSpec.pre enc Tryz.prog Tryz.f7 [] false w args ∧ laidMetH Tryz.prog laidX w) ∧ sizedMet enc Tryz.prog Tryz.f7 (OpenSpec.ofChange Rows.txnWaitsSpec) false w args)
      (Rows.txnWaitsSpec.post enc Tryz.prog Tryz.f7 false true false false) := by
  refine returnsInHanded_of_change_and (C := Tryz.checked) (X := fun w _ => laidMetH Tryz.prog laidX w) (fun _ _ _ hh h => h.of_heap hh) own started (by kernel_rfl) Tryz.func7
    (ChangeSpec.witness_shaped (enc := enc) (C := Tryz.checked) (os := os) (X := fun w _ => laidMetH Tryz.prog laidX w) false (World.doorLaid Tryz.prog 400 os) #[.int .u8 0] 8 rfl (World.shaped_of_RefB (by kernel_rfl) (by kernel_rfl)) (by kernel_rfl) (by kernel_rfl) (by kernel_rfl) (door_met os _)) ?_
  intro W base args ds gs before hval0 hW _ _ hL _
  have hval : ∀ (j : Nat) t v, Tryz.f7.params[j]? = some t → args[j]? = some v → Value.okWide Tryz.prog W .any base t v := hval0
  have hW' := hW
  obtain ⟨p, q, hA0, hV, rfl, hfz, hnd⟩ := hW
  have hA : DataW.TrodAll enc Tryz.prog W 0 (fun _ => true) true Tryz.f7.params.toList args.toList ds p := hA0
  rw [Tryz.params7] at hA hval
  obtain ⟨v0, vs0, d0, ds0, p0, q0, hargs, rfl, rfl, h0, r0⟩ := trodAll_cons hA
  obtain ⟨rfl, rfl, rfl⟩ := trodAll_nil r0
  obtain rfl : args = #[v0] := by cases args; simp_all
  obtain ⟨rfl, rfl⟩ := trodVars_none hV
  obtain ⟨a0, rfl, rfl, rfl, w0⟩ := open_int Tryz.underlying5 (hval 0 5 v0 rfl rfl) h0
  obtain ⟨hG, hN⟩ := of_laid hL
  clear hA0 hval0
  simp only [List.append_nil] at hW'
  refine (walk a0 w0 W hG hN).mono fun e W' ⟨he, hg⟩ => ?_
  subst he
  exact ⟨_, rfl, post_far hW' rfl (fun _ _ _ => (trodAll_cons_mk (shut_bool Tryz.underlying4 _) trodAll_mk0)) (fun sp => (trodAll_cons_mk (shut_int Tryz.underlying5 w0) trodAll_mk0)) rfl
    hg (ok_one (by kernel_rfl) rfl (okWide_bool_mk Tryz.underlying4 _))⟩
end Go.Proofs.YtohmkigjifhddaaGreatDoor.TxnWaits
