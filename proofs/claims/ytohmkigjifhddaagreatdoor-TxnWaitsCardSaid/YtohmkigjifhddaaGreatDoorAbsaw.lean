/- A part of a proof about Go functions of this program: an evaluator with a memory of its own, and the proof that what it finds the model finds (X1, RP). No conditions beyond those that each theorem names. -/
import Derived.Test.YtohmkigjifhddaaGreatDoorAbsau
import Derived.Test.YtohmkigjifhddaaGreatDoorAbsan
import Derived.Shelf.Strings.Repeat
import Derived.Test.YtohmkigjifhddaaGreatDoorProg
set_option linter.all false
set_option maxRecDepth 100000
set_option autoImplicit false
set_option linter.unusedSimpArgs false
namespace Go.Abs
open Go.Proofs
/-! a table of known calls, as the evaluator takes it -/
noncomputable def envX (ext : Nat → List AVal → Heap → Option CR) : Env := envP Tryz.prog glob ext
theorem envX_ok (ext : Nat → List AVal → Heap → Option CR) : EnvOK (envX ext) Tryz.prog := envP_ok (by
  intro f fn hf hb
  have : Tryz.prog.funcs.toList.all (fun fn => fn.body.isNone || decide (fn.name ≠ "runtime.NumGoroutine")) = true := by kernel_rfl
  rw [List.all_eq_true] at this
  have := this fn (List.mem_of_getElem? (by rw [Array.getElem?_toList]; exact hf))
  intro e
  rw [e] at this
  cases hbb : fn.body with
  | none => rw [hbb] at hb; cases hb
  | some x => rw [hbb] at this; simp at this)
section
variable {N : Nat} {x y : Nat → List AVal → Heap → Option CR}
theorem ORel.env {φ : Phi} {o : AObj} {l : Loc} {b : Option Obj} (h : ORel (envX x) φ o l b) : ORel (envX y) φ o l b := by
  cases o <;> exact h
theorem GlOK.env {w : World} (h : GlOK (envX x) N w) : GlOK (envX y) N w := h
theorem Rel.env {φ : Phi} {g : Mem} {w : World} (h : Rel (envX x) N φ g w) : Rel (envX y) N φ g w :=
  ⟨fun b o l h1 h2 => ⟨(h.objs b o l h1 h2).1, (h.objs b o l h1 h2).2.env⟩, h.inj, h.size, h.glob.env⟩
theorem CallOK.env {P : Program} {f : Nat} {args : List AVal} {h : Heap} {q : CR} (hc : CallOK (envX x) P N f args h q) : CallOK (envX y) P N f args h q := by
  intro φ w vs kind cs hk R F hd
  obtain ⟨φ', w', fr, z, G, r⟩ := hc φ w vs kind cs hk R.env F hd
  exact ⟨φ', w', fr, z, ⟨G.ext, G.rel.env, G.fresh, G.frm, G.next, G.old⟩, r⟩
end
noncomputable def look (l : List KH) (f : Nat) (args : List AVal) (h : Heap) : Option CR :=
  List.rec (motive := fun _ => Option CR) none (fun e _ ih => ife (Nat.beq e.f f) (Option.rec (motive := fun _ => Option CR) ih some (khAt e args h)) ih) l
def Knows (N : Nat) (l : List KH) : Prop := ∀ e ∈ l, ∀ args h q, khAt e args h = some q → CallOK env Tryz.prog N e.f args h q
theorem look_some {f : Nat} {args : List AVal} {h : Heap} {q : CR} : ∀ {l : List KH}, look l f args h = some q → ∃ e ∈ l, e.f = f ∧ khAt e args h = some q
  | [], h => by cases h
  | e :: l, k => by
    have k : ife (Nat.beq e.f f) (Option.rec (motive := fun _ => Option CR) (look l f args h) some (khAt e args h)) (look l f args h) = some q := k
    have tail : look l f args h = some q → ∃ x ∈ (e :: l : List KH), x.f = f ∧ khAt x args h = some q := fun k => by
      obtain ⟨x, h1, h2⟩ := look_some k
      exact ⟨x, List.mem_cons_of_mem _ h1, h2⟩
    rw [ife_eq] at k
    split at k
    · next h1 =>
      cases hk : khAt e args h with
      | none => rw [hk] at k; exact tail k
      | some q' =>
        rw [hk] at k
        obtain rfl := Option.some.inj (show some q' = some q from k)
        exact ⟨e, List.mem_cons_self .., beq_true h1, hk⟩
    · exact tail k
/-- strings.Repeat, or a call of the list -/
noncomputable def lookR (l : List KH) (f : Nat) (args : List AVal) (h : Heap) : Option CR := ife (Nat.beq f (nat_lit 69)) (repA args h) (look l f args h)
theorem look_ok {N : Nat} (hP : RepIs Tryz.prog 69) {l : List KH} (hl : Knows N l) : ExtOK (envX (lookR l)) Tryz.prog N := fun f args h q he => by
  have he : ife (Nat.beq f 69) (repA args h) (look l f args h) = some q := he
  rw [ife_eq] at he
  split at he
  · next hf => obtain rfl := beq_true hf; exact repA_ok hP he
  · obtain ⟨e, h1, rfl, h2⟩ := look_some he
    exact (CallOK.env (x := fun _ _ _ => none) (hl e h1 args h q h2)).toN
theorem Knows.nil {N : Nat} : Knows N [] := fun _ h => by cases h
def Kn (N : Nat) (e : KH) : Prop := ∀ args h q, khAt e args h = some q → CallOK env Tryz.prog N e.f args h q
theorem Knows.cons {N : Nat} {l : List KH} {e : KH} (h : Kn N e) (hl : Knows N l) : Knows N (e :: l) := fun x hx => by
  rcases List.mem_cons.1 hx with rfl | hx
  · exact h
  · exact hl x hx
/-- one more known call, run by the kernel over those that are known -/
theorem Kn.of {N : Nat} (hP : RepIs Tryz.prog 69) {l : List KH} (hl : Knows N l) {e : KH} (h : ran (envX (lookR l)) e = true) : Kn N e :=
  fun _ _ _ hk => kh_ok h (fun _ hq => CallOK.env (y := fun _ _ _ => none) (run_ok (envX_ok _) (look_ok hP hl) (fun r hr => drOK (envX_ok _) r hr) hq)) hk
noncomputable def z (n : Nat) : AVal := .i .i64 (Int.ofNat n)
noncomputable def y (n : Nat) : AVal := .i .u8 (Int.ofNat n)
noncomputable def mE (k v n : Nat) : Ent := ⟨z k, z v, n⟩
end Go.Abs

/- strings.Repeat of one byte, by the kit's contract, laid at this program in plain words (no condition). -/
set_option autoImplicit false
namespace Go.Proofs
open Go.Shelf Go.RowKit
def Tryz.laysRepeat_ren : Go.Shelf.Ren := ⟨fun | 105 => 69 | 212 => 143 | 99 => 144 | 165 => 145 | 166 => 146 | 170 => 147 | 169 => 148 | 263 => 212 | 264 => 213 | 206 => 214 | 240 => 215 | 241 => 216 | 276 => 259 | 277 => 260 | n => n, fun | 9 => 9 | 3 => 3 | 4 => 4 | 20 => 20 | 0 => 0 | 46 => 104 | 109 => 206 | 5 => 5 | 72 => 211 | 76 => 215 | 51 => 133 | 146 => 294 | 53 => 29 | 148 => 296 | 70 => 209 | 37 => 36 | 75 => 214 | 127 => 298 | 164 => 331 | 80 => 217 | n => n, fun | n => n⟩
theorem Tryz.laysRepeat : Go.Proofs.Lays.n105 Tryz.prog Tryz.laysRepeat_ren := {
  mixed := by kernel_rfl
  f99 := Tryz.func144.trans (congrArg some (by kernel_rfl))
  f105 := Tryz.func69.trans (congrArg some (by kernel_rfl))
  f165 := Tryz.func145.trans (congrArg some (by kernel_rfl))
  f166 := Tryz.func146.trans (congrArg some (by kernel_rfl))
  f169 := Tryz.func148.trans (congrArg some (by kernel_rfl))
  f170 := Tryz.func147.trans (congrArg some (by kernel_rfl))
  f206 := Tryz.func214.trans (congrArg some (by kernel_rfl))
  f212 := Tryz.func143.trans (congrArg some (by kernel_rfl))
  f240 := Tryz.func215.trans (congrArg some (by kernel_rfl))
  f241 := Tryz.func216.trans (congrArg some (by kernel_rfl))
  f263 := Tryz.func212.trans (congrArg some (by kernel_rfl))
  f264 := Tryz.func213.trans (congrArg some (by kernel_rfl))
  f276 := Tryz.func259.trans (congrArg some (by kernel_rfl))
  f277 := Tryz.func260.trans (congrArg some (by kernel_rfl))
  t0 := Tryz.underlying0
  a0 := Tryz.isAgg0
  z0 := Tryz.sizeOf0
  v0 := Tryz.zeroValue0
  t3 := Tryz.underlying3
  a3 := Tryz.isAgg3
  z3 := Tryz.sizeOf3
  v3 := Tryz.zeroValue3
  t4 := Tryz.underlying4
  a4 := Tryz.isAgg4
  z4 := Tryz.sizeOf4
  v4 := Tryz.zeroValue4
  t5 := Tryz.underlying5
  a5 := Tryz.isAgg5
  z5 := Tryz.sizeOf5
  v5 := Tryz.zeroValue5
  t9 := Tryz.underlying9
  a9 := Tryz.isAgg9
  z9 := Tryz.sizeOf9
  v9 := Tryz.zeroValue9
  t20 := Tryz.underlying20
  a20 := Tryz.isAgg20
  z20 := Tryz.sizeOf20
  v20 := Tryz.zeroValue20
  t37 := Tryz.underlying36
  a37 := Tryz.isAgg36
  z37 := Tryz.sizeOf36
  v37 := Tryz.zeroValue36
  t46 := Tryz.underlying104
  a46 := Tryz.isAgg104
  z46 := Tryz.sizeOf104
  v46 := Tryz.zeroValue104
  t51 := Tryz.underlying133
  a51 := Tryz.isAgg133
  z51 := Tryz.sizeOf133
  v51 := Tryz.zeroValue133
  t53 := Tryz.underlying29
  a53 := Tryz.isAgg29
  z53 := Tryz.sizeOf29
  v53 := Tryz.zeroValue29
  t70 := Tryz.underlying209
  a70 := Tryz.isAgg209
  z70 := Tryz.sizeOf209
  v70 := Tryz.zeroValue209
  t72 := Tryz.underlying211
  a72 := Tryz.isAgg211
  z72 := Tryz.sizeOf211
  v72 := Tryz.zeroValue211
  t75 := Tryz.underlying214
  a75 := Tryz.isAgg214
  z75 := Tryz.sizeOf214
  v75 := Tryz.zeroValue214
  t76 := Tryz.underlying215
  a76 := Tryz.isAgg215
  z76 := Tryz.sizeOf215
  v76 := Tryz.zeroValue215
  t109 := Tryz.underlying206
  a109 := Tryz.isAgg206
  z109 := Tryz.sizeOf206
  v109 := Tryz.zeroValue206
  t127 := Tryz.underlying298
  a127 := Tryz.isAgg298
  z127 := Tryz.sizeOf298
  v127 := Tryz.zeroValue298
  t146 := Tryz.underlying294
  a146 := Tryz.isAgg294
  z146 := Tryz.sizeOf294
  v146 := Tryz.zeroValue294
  t148 := Tryz.underlying296
  a148 := Tryz.isAgg296
  z148 := Tryz.sizeOf296
  v148 := Tryz.zeroValue296
  t164 := Tryz.underlying331
  a164 := Tryz.isAgg331
  z164 := Tryz.sizeOf331
  v164 := Tryz.zeroValue331 }
theorem Tryz.repeatExtra : Builder.Extra Tryz.prog Tryz.laysRepeat_ren := {
  sizeBuilder := by kernel_rfl
  liesBuilder := by kernel_rfl
  t5 := Tryz.laysRepeat.t5
  a5 := Tryz.laysRepeat.a5
  z5 := Tryz.laysRepeat.z5
  v5 := Tryz.laysRepeat.v5
  infoByte := by kernel_rfl
  cellsByte := by kernel_rfl
  sizeByte := by kernel_rfl
  neB5 := by decide }
theorem Tryz.fRepeat : Tryz.laysRepeat_ren.f 105 = 69 := by kernel_rfl
theorem Tryz.repeat_is : Go.Abs.RepIs Tryz.prog 69 := by
  intro b c w hc
  have h := Any.strings_Repeat Tryz.laysRepeat Tryz.repeatExtra ⟨#[b]⟩ c w (by omega) (by show 1 * c ≤ _; omega)
  rw [Tryz.fRepeat] at h
  refine h.mono fun e w' ⟨he, hw⟩ => ⟨?_, hw⟩
  rw [he, show (⟨#[b]⟩ : ByteArray).data.toList = List.replicate 1 b from rfl, Lib.repeatL_replicate, Nat.mul_one]
end Go.Proofs
