/- A part of a proof about Go functions of this program: an evaluator with a memory of its own, and the proof that what it finds the model finds (T2). No conditions beyond those that each theorem names. -/
import Derived.Test.YtohmkigjifhddaaGreatDoorAbsay
import Derived.Test.YtohmkigjifhddaaGreatDoorAbsaw
set_option linter.all false
set_option maxRecDepth 100000
set_option autoImplicit false
namespace Go.Proofs.YtohmkigjifhddaaGreatDoor.StoreNil
open Go.ChangeShapes Go.WideShapes Go.ChangeAt Go.RowKit
open Go.ChangeMaps (open_string shut_string)
/-- what is left to show: the sample of a live store answers true, in any memory -/
def Alive : Prop := ∀ (N : Nat) (h : Go.Abs.Heap), Go.Abs.CallOK Go.Abs.env Tryz.prog N 13 [] h ⟨.b true, h⟩
theorem den_str (φ : Go.Abs.Phi) (s : ByteArray) : Go.Abs.den φ (.s s.size (Go.Abs.packL s.data.toList)) = some (.string s) := by
  show (if Go.Abs.packL s.data.toList < 256 ^ s.size then some (Value.string (Go.Abs.bytesOf s.size (Go.Abs.packL s.data.toList))) else none) = _
  rw [if_pos (Go.Abs.pack_lt s), Go.Abs.bytesOf_pack]
theorem walk (hal : Alive) (n p a b c e : Int) (s : ByteArray) (hs : s.size ≤ maxLen) (w : World) (hG : Go.Abs.GlOK Go.Abs.env 1 w) (hN : 1 ≤ w.heap.size) :
    Calls Tryz.prog 4 #[.int .u64 n, .int .i64 p, .agg #[.int .i64 a, .int .i64 b, .int .i64 c, .int .i64 e], .string s] w fun e w' => e = .returned (.bool true) ∧ Below w.heap.size w w' := by
  have hm : s.size ≤ 9223372036854775807 := Nat.le_trans hs (by decide)
  have hd : Go.Abs.denL (fun _ => Option.none) [.i .u64 n, .i .i64 p, .agg [.i .i64 a, .i .i64 b, .i .i64 c, .i .i64 e], .s s.size (Go.Abs.packL s.data.toList)] = some [.int .u64 n, .int .i64 p, .agg #[.int .i64 a, .int .i64 b, .int .i64 c, .int .i64 e], .string s] :=
    Go.Abs.denL_cons rfl (Go.Abs.denL_cons rfl (Go.Abs.denL_cons rfl (Go.Abs.denL_cons (den_str _ s) rfl)))
  by_cases h1 : 2048 < (s.size : Int)
  · exact Go.Abs.calls_of (Go.Abs.sStoreNilA (N := 1) (hal 1) n p a b c e s.size (Go.Abs.packL s.data.toList) hm h1 ⟨.e, 0⟩) hG hN hd (fun φ => rfl)
  · exact Go.Abs.calls_of (Go.Abs.sStoreNilB (N := 1) (hal 1) n p a b c e s.size (Go.Abs.packL s.data.toList) hm h1 ⟨.e, 0⟩) hG hN hd (fun φ => rfl)
theorem lifted (hal : Alive) (os : Os) (started : os.Started) (H : Type) (enc : TypeId × Value → H) :
    ReturnsInHanded {} Tryz.checked os 4 .any (fun w args => (Rows.storeNilSpec.pre enc Tryz.prog Tryz.f4 [] false w args ∧ laidMetH Tryz.prog laidX w) ∧ sizedMet enc Tryz.prog Tryz.f4 (OpenSpec.ofChange Rows.storeNilSpec) false w args)
      (Rows.storeNilSpec.post enc Tryz.prog Tryz.f4 false true false false) := by
  refine returnsInHanded_of_change_and (C := Tryz.checked) (X := fun w _ => laidMetH Tryz.prog laidX w) (fun _ _ _ hh h => h.of_heap hh) own started (by kernel_rfl) Tryz.func4
    (ChangeSpec.witness_shaped (enc := enc) (C := Tryz.checked) (os := os) (X := fun w _ => laidMetH Tryz.prog laidX w) false (World.doorLaid Tryz.prog 400 os) #[.int .u64 0, .int .i64 0, .agg #[.int .i64 0, .int .i64 0, .int .i64 0, .int .i64 0], .string ⟨#[]⟩] 8 rfl (World.shaped_of_RefB (by kernel_rfl) (by kernel_rfl)) (by kernel_rfl) (by kernel_rfl) (by kernel_rfl) (door_met os _)) ?_
  intro W base args ds gs before hval0 hW _ _ hL _
  have hval : ∀ (j : Nat) t v, Tryz.f4.params[j]? = some t → args[j]? = some v → Value.okWide Tryz.prog W .any base t v := hval0
  have hW' := hW
  obtain ⟨p, q, hA0, hV, rfl, hfz, hnd⟩ := hW
  have hA : DataW.TrodAll enc Tryz.prog W 0 (fun _ => true) true Tryz.f4.params.toList args.toList ds p := hA0
  rw [Tryz.params4] at hA hval
  obtain ⟨v0, vs0, d0, ds0, p0, q0, hargs, rfl, rfl, h0, r0⟩ := trodAll_cons hA
  obtain ⟨v1, vs1, d1, ds1, p1, q1, rfl, rfl, rfl, h1, r1⟩ := trodAll_cons r0
  obtain ⟨v2, vs2, d2, ds2, p2, q2, rfl, rfl, rfl, h2, r2⟩ := trodAll_cons r1
  obtain ⟨v3, vs3, d3, ds3, p3, q3, rfl, rfl, rfl, h3, r3⟩ := trodAll_cons r2
  obtain ⟨rfl, rfl, rfl⟩ := trodAll_nil r3
  obtain rfl : args = #[v0, v1, v2, v3] := by cases args; simp_all
  obtain ⟨rfl, rfl⟩ := trodVars_none hV
  obtain ⟨a0, rfl, rfl, rfl, w0⟩ := open_int Tryz.underlying29 (hval 0 29 v0 rfl rfl) h0
  obtain ⟨a1, rfl, rfl, rfl, w1⟩ := open_int Tryz.underlying3 (hval 1 3 v1 rfl rfl) h1
  obtain ⟨x0, x1, x2, x3, rfl, rfl, rfl, u0, u1, u2, u3⟩ := open_entry (hval 2 28 v2 rfl rfl) h2
  obtain ⟨s, rfl, rfl, rfl, hs⟩ := open_string Tryz.underlying9 (hval 3 9 v3 rfl rfl) h3
  obtain ⟨hG, hN⟩ := of_laid hL
  clear hA0 hval0
  simp only [List.append_nil] at hW'
  refine (walk hal a0 a1 x0 x1 x2 x3 s hs W hG hN).mono fun e W' ⟨he, hg⟩ => ?_
  subst he
  exact ⟨_, rfl, post_far hW' rfl (fun _ _ _ => (trodAll_cons_mk (shut_bool Tryz.underlying4 _) trodAll_mk0)) (fun sp => (trodAll_cons_mk (shut_int Tryz.underlying29 w0) (trodAll_cons_mk (shut_int Tryz.underlying3 w1) (trodAll_cons_mk (shut_entry u0 u1 u2 u3) (trodAll_cons_mk (shut_string Tryz.underlying9 hs) trodAll_mk0))))) rfl
    hg (ok_one (by kernel_rfl) rfl (okWide_bool_mk Tryz.underlying4 _))⟩
end Go.Proofs.YtohmkigjifhddaaGreatDoor.StoreNil
