/- A part of a proof about Go functions of this program: an evaluator with a memory of its own, and the proof that what it finds the model finds (TW1, TW2). No conditions beyond those that each theorem names. -/
import Derived.Test.YtohmkigjifhddaaGreatDoorAbsay
import Derived.Test.YtohmkigjifhddaaGreatDoorAbsat
import Derived.KernelRfl
set_option linter.all false
set_option maxRecDepth 100000
set_option autoImplicit false
set_option linter.all false
namespace Go.Abs
open Go.Proofs
/-! the law TxnWaits: the text ahead of 'n := int(tries % 12)', that text, and the text behind it -/
noncomputable def lW : List KH := [w0, w26, w27, w34, w35, w36, w37, w38, w39, w40, w41]
noncomputable def EW : Env := envX (lookR lW)
noncomputable def RW : Rec := recN EW 99999
def fstC : Code → Code
  | .seq a _ => a
  | c => c
def sndC : Code → Code
  | .seq _ b => b
  | c => c
def opsC : Code → List Oper
  | .region _ ops _ => ops.toList
  | _ => []
noncomputable def xW : Code := Tryz.f7.body.getD .skip
noncomputable def xA : Code := .seq (.seq (.seq (.seq (.seq (fstC xW) (fstC (sndC xW))) (fstC (sndC (sndC xW)))) (fstC (sndC (sndC (sndC xW))))) (fstC (sndC (sndC (sndC (sndC xW)))))) (fstC (sndC (sndC (sndC (sndC (sndC xW))))))
noncomputable def xR : Code := fstC (sndC (sndC (sndC (sndC (sndC (sndC xW))))))
noncomputable def xB : Code := sndC (sndC (sndC (sndC (sndC (sndC (sndC xW))))))
theorem xW_eq : Tryz.f7.body = some (.seq (fstC xW) (.seq (fstC (sndC xW)) (.seq (fstC (sndC (sndC xW))) (.seq (fstC (sndC (sndC (sndC xW)))) (.seq (fstC (sndC (sndC (sndC (sndC xW))))) (.seq (fstC (sndC (sndC (sndC (sndC (sndC xW)))))) (.seq xR xB))))))) := by kernel_rfl
theorem seq_assoc {E : Env} {r : Rec} {c : FC} {a b d : Code} {s : St} : codeV (.seq a (.seq b d)) E r c s = codeV (.seq (.seq a b) d) E r c s := by
  show ob (codeV a E r c s) (thenR (codeV (.seq b d) E r c)) = ob (ob (codeV a E r c s) (thenR (codeV b E r c))) (thenR (codeV d E r c))
  cases codeV a E r c s with
  | none => rfl
  | some q => obtain ⟨e, s1⟩ := q; cases e <;> rfl
noncomputable def stOf (o : Option Res) : St := Option.rec (motive := fun _ => St) ⟨⟨nat_lit 0, .e, []⟩, [], ⟨.e, nat_lit 0⟩⟩ (fun q => Res.rec (motive := fun _ => St) (fun _ s => s) q) o
noncomputable def isN (o : Option Res) : Bool := Option.rec (motive := fun _ => Bool) false (fun q => Res.rec (motive := fun _ => Bool) (fun e _ => Ex.rec (motive := fun _ => Bool) true (fun _ => false) (fun _ => false) false e) q) o
theorem isN_some {o : Option Res} (h : isN o = true) : o = some ⟨.normal, stOf o⟩ := by
  cases o with
  | none => cases h
  | some q =>
    obtain ⟨e, s⟩ := q
    cases e with
    | normal => rfl
    | _ => cases h
noncomputable def cW : FC := ⟨7, 158, false⟩
noncomputable def argW (t : Nat) : List AVal := [.i .u8 (Int.ofNat t)]
noncomputable def SW0 (t : Nat) : St := ⟨⟨Nat.lor (maskF Tryz.f7 (lenL (argW t)) xW) (Nat.sub (Nat.pow (nat_lit 2) (lenL (argW t))) (nat_lit 1)), argsT (argW t) (nat_lit 0) .e, []⟩, [], ⟨.e, 0⟩⟩
noncomputable def SW6 (t : Nat) : St := stOf (codeV xA EW RW cW (SW0 t))
noncomputable def GW (s : St) (t m : Nat) : St := ⟨(((s.tm.drop.put 66 (.i .u8 (Int.ofNat t))).put 67 (.i .u8 (Int.ofNat m))).put 68 (.i .i64 (Int.ofNat m))).put 11 (.i .i64 (Int.ofNat m)), s.df, s.h⟩
noncomputable def resW (t m : Nat) : Option CR := ob (codeV xB EW RW cW (GW (SW6 t) t m)) (endV EW RW Tryz.f7)
noncomputable def isT (o : Option CR) : Bool := Option.rec (motive := fun _ => Bool) false (fun q => CR.rec (motive := fun _ => Bool) (fun v _ => sameV (.b true) v) q) o
theorem isT_some {o : Option CR} (h : isT o = true) : ∃ m, o = some ⟨.b true, m⟩ := by
  cases o with
  | none => cases h
  | some q =>
    obtain ⟨v, m⟩ := q
    exact ⟨m, by rw [← sameV_true (show sameV (.b true) v = true from h)]⟩
/-! the four operations in the middle -/
theorem oneOp_val {E : Env} {r : Rec} {c : FC} {all : List Oper} {s : St} {o : Oper} {d : Nat} {v : AVal} (hg : o.guard = none) (ho : o.dst = some d) (hx : execS c o.op E s.tm s.h = some (.val v)) (hd : lt d c.nt = true) :
    oneOp E r c all s o = some ⟨s.tm.put d v, s.df, s.h⟩ := by
  obtain ⟨dst, op, ty, pos, after, guard⟩ := o
  obtain ⟨tm, df, h⟩ := s
  obtain rfl : guard = none := hg
  obtain rfl : dst = some d := ho
  show ob (execS c op E tm h) (fun x => doNx x r c ⟨tm, df, h⟩ (some d)) = _
  rw [show execS c op E tm h = some (.val v) from hx]
  show chk (lt d c.nt) _ = _
  rw [hd]; rfl
noncomputable def oW (i : Nat) : Oper := (nth (opsC xR) i).getD ⟨none, .move (.tmp 0), 0, "", #[], none⟩
theorem xR_eq : xR = .region 13 ⟨[oW 0, oW 1, oW 2, oW 3]⟩ false := by kernel_rfl
theorem o0 : (oW 0).guard = none ∧ (oW 0).dst = some 66 ∧ (oW 0).op = .move (.tmp 0) := ⟨by kernel_rfl, by kernel_rfl, by kernel_rfl⟩
theorem o1 : (oW 1).guard = none ∧ (oW 1).dst = some 67 ∧ (oW 1).op = .binOp .rem 5 (.tmp 66) (.const (.int .u8 12)) 5 := ⟨by kernel_rfl, by kernel_rfl, by kernel_rfl⟩
theorem o2 : (oW 2).guard = none ∧ (oW 2).dst = some 68 ∧ (oW 2).op = .convert 5 3 (.tmp 67) := ⟨by kernel_rfl, by kernel_rfl, by kernel_rfl⟩
theorem o3 : (oW 3).guard = none ∧ (oW 3).dst = some 11 ∧ (oW 3).op = .assign (.tmp 68) := ⟨by kernel_rfl, by kernel_rfl, by kernel_rfl⟩
theorem ty5W : EW.ty 5 = some ⟨(.int .u8), 1, 1, (some (.i .u8 0)), false, false⟩ := by kernel_rfl
theorem ty3W : EW.ty 3 = some ⟨(.int .i64), 1, 8, (some (.i .i64 0)), false, false⟩ := by kernel_rfl
theorem midW {s : St} {t : Nat} (h0 : s.tm.drop.get 0 = some (.i .u8 (Int.ofNat t))) (ht : t < 256) : codeV xR EW RW cW s = some ⟨.normal, GW s t (t % 12)⟩ := by
  rw [xR_eq]
  obtain ⟨tm, df, h⟩ := s
  have g1 : ∀ v, (tm.drop.put 66 v).get 66 = some v := fun v => by rw [Tm.get_put, if_pos rfl]
  have g2 : ∀ v u, ((tm.drop.put 66 v).put 67 u).get 67 = some u := fun v u => by rw [Tm.get_put, if_pos rfl]
  have g3 : ∀ v u x, (((tm.drop.put 66 v).put 67 u).put 68 x).get 68 = some x := fun v u x => by rw [Tm.get_put, if_pos rfl]
  have hm : t % 12 < 12 := Nat.mod_lt _ (by decide)
  have e0 := oneOp_val (E := EW) (r := RW) (c := cW) (all := [oW 0, oW 1, oW 2, oW 3]) (s := ⟨tm.drop, df, h⟩) (v := .i .u8 (Int.ofNat t)) o0.1 o0.2.1 (by rw [o0.2.2, x_move]; show ob (tm.drop.get 0) _ = _; rw [show tm.drop.get 0 = _ from h0]; rfl) rfl
  have e1 := oneOp_val (E := EW) (r := RW) (c := cW) (all := [oW 0, oW 1, oW 2, oW 3]) (s := ⟨tm.drop.put 66 (.i .u8 (Int.ofNat t)), df, h⟩) (v := .i .u8 (Int.ofNat (t % 12))) o1.1 o1.2.1 (by
    rw [o1.2.2, x_bin]
    show ob ((tm.drop.put 66 (.i .u8 (Int.ofNat t))).get 66) _ = _
    rw [g1]
    simp -implicitDefEqProofs only [go_sem, ty5W]
    rfl) rfl
  have e2 := oneOp_val (E := EW) (r := RW) (c := cW) (all := [oW 0, oW 1, oW 2, oW 3]) (s := ⟨(tm.drop.put 66 (.i .u8 (Int.ofNat t))).put 67 (.i .u8 (Int.ofNat (t % 12))), df, h⟩) (v := .i .i64 (Int.ofNat (t % 12))) o2.1 o2.2.1 (by
    rw [o2.2.2, x_conv, xConv_go]
    show ob (((tm.drop.put 66 (.i .u8 (Int.ofNat t))).put 67 (.i .u8 (Int.ofNat (t % 12)))).get 67) _ = _
    rw [g2]
    simp -implicitDefEqProofs only [go_sem, ty5W, ty3W]
    rw [show IntKind.wrap .i64 (Int.ofNat (t % 12)) = Int.ofNat (t % 12) from wrap64 (by simp only [Int.ofNat_eq_natCast]; omega) (by simp only [Int.ofNat_eq_natCast]; omega)]) rfl
  have e3 := oneOp_val (E := EW) (r := RW) (c := cW) (all := [oW 0, oW 1, oW 2, oW 3]) (s := ⟨((tm.drop.put 66 (.i .u8 (Int.ofNat t))).put 67 (.i .u8 (Int.ofNat (t % 12)))).put 68 (.i .i64 (Int.ofNat (t % 12))), df, h⟩) (v := .i .i64 (Int.ofNat (t % 12))) o3.1 o3.2.1 (by
    rw [o3.2.2, x_assign]
    show ob ((((tm.drop.put 66 (.i .u8 (Int.ofNat t))).put 67 (.i .u8 (Int.ofNat (t % 12)))).put 68 (.i .i64 (Int.ofNat (t % 12)))).get 68) _ = _
    rw [g3]; rfl) rfl
  show ob (ob (oneOp EW RW cW [oW 0, oW 1, oW 2, oW 3] ⟨tm.drop, df, h⟩ (oW 0)) fun s => ob (oneOp EW RW cW [oW 0, oW 1, oW 2, oW 3] s (oW 1)) fun s => ob (oneOp EW RW cW [oW 0, oW 1, oW 2, oW 3] s (oW 2)) fun s => ob (oneOp EW RW cW [oW 0, oW 1, oW 2, oW 3] s (oW 3)) fun s => some s) (fun s => some (Res.mk .normal s)) = _
  rw [e0]
  show ob (ob (oneOp EW RW cW [oW 0, oW 1, oW 2, oW 3] ⟨tm.drop.put 66 (.i .u8 (Int.ofNat t)), df, h⟩ (oW 1)) fun s => ob (oneOp EW RW cW [oW 0, oW 1, oW 2, oW 3] s (oW 2)) fun s => ob (oneOp EW RW cW [oW 0, oW 1, oW 2, oW 3] s (oW 3)) fun s => some s) (fun s => some (Res.mk .normal s)) = _
  rw [e1]
  show ob (ob (oneOp EW RW cW [oW 0, oW 1, oW 2, oW 3] ⟨(tm.drop.put 66 (.i .u8 (Int.ofNat t))).put 67 (.i .u8 (Int.ofNat (t % 12))), df, h⟩ (oW 2)) fun s => ob (oneOp EW RW cW [oW 0, oW 1, oW 2, oW 3] s (oW 3)) fun s => some s) (fun s => some (Res.mk .normal s)) = _
  rw [e2]
  show ob (ob (oneOp EW RW cW [oW 0, oW 1, oW 2, oW 3] ⟨((tm.drop.put 66 (.i .u8 (Int.ofNat t))).put 67 (.i .u8 (Int.ofNat (t % 12)))).put 68 (.i .i64 (Int.ofNat (t % 12))), df, h⟩ (oW 3)) fun s => some s) (fun s => some (Res.mk .normal s)) = _
  rw [e3]; rfl
end Go.Abs

set_option maxRecDepth 100000
set_option autoImplicit false
set_option linter.all false
set_option maxHeartbeats 0
namespace Go.Abs
theorem nA : (fun t : Nat => isN (codeV xA EW RW cW (SW0 t))) = fun _ => true := by kernel_rfl
theorem gA : (fun t : Nat => (SW6 t).tm.drop.get 0) = fun t => some (.i .u8 (Int.ofNat t)) := by kernel_rfl
end Go.Abs
