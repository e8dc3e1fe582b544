/- A part of a proof about Go functions of this program: an evaluator with a memory of its own, and the proof that what it finds the model finds (X1). No conditions beyond those that each theorem names. -/
import Derived.Test.YtohmkigjifhddaaGreatDoorAbsau
import Derived.Test.YtohmkigjifhddaaGreatDoorAbsan
set_option linter.all false
set_option maxRecDepth 100000
set_option autoImplicit false
set_option linter.unusedSimpArgs false
namespace Go.Abs
open Go.Proofs
/-! a table of known calls, as the evaluator takes it -/
noncomputable def envX (ext : Nat → List AVal → Heap → Option CR) : Env := envP Tryz.prog glob ext
theorem envX_ok (ext : Nat → List AVal → Heap → Option CR) : EnvOK (envX ext) Tryz.prog := envP_ok (by
  intro f fn hf hb
  have : Tryz.prog.funcs.toList.all (fun fn => fn.body.isNone || decide (fn.name ≠ "runtime.NumGoroutine")) = true := by kernel_rfl
  rw [List.all_eq_true] at this
  have := this fn (List.mem_of_getElem? (by rw [Array.getElem?_toList]; exact hf))
  intro e
  rw [e] at this
  cases hbb : fn.body with
  | none => rw [hbb] at hb; cases hb
  | some x => rw [hbb] at this; simp at this)
section
variable {N : Nat} {x y : Nat → List AVal → Heap → Option CR}
theorem ORel.env {φ : Phi} {o : AObj} {l : Loc} {b : Option Obj} (h : ORel (envX x) φ o l b) : ORel (envX y) φ o l b := by
  cases o <;> exact h
theorem GlOK.env {w : World} (h : GlOK (envX x) N w) : GlOK (envX y) N w := h
theorem Rel.env {φ : Phi} {g : Mem} {w : World} (h : Rel (envX x) N φ g w) : Rel (envX y) N φ g w :=
  ⟨fun b o l h1 h2 => ⟨(h.objs b o l h1 h2).1, (h.objs b o l h1 h2).2.env⟩, h.inj, h.size, h.glob.env⟩
theorem CallOK.env {P : Program} {f : Nat} {args : List AVal} {h : Heap} {q : CR} (hc : CallOK (envX x) P N f args h q) : CallOK (envX y) P N f args h q := by
  intro φ w vs kind cs hk R F hd
  obtain ⟨φ', w', fr, z, G, r⟩ := hc φ w vs kind cs hk R.env F hd
  exact ⟨φ', w', fr, z, ⟨G.ext, G.rel.env, G.fresh, G.frm, G.next, G.old⟩, r⟩
end
noncomputable def look (l : List KH) (f : Nat) (args : List AVal) (h : Heap) : Option CR :=
  List.rec (motive := fun _ => Option CR) none (fun e _ ih => ife (Nat.beq e.f f) (Option.rec (motive := fun _ => Option CR) ih some (khAt e args h)) ih) l
def Knows (N : Nat) (l : List KH) : Prop := ∀ e ∈ l, ∀ args h q, khAt e args h = some q → CallOK env Tryz.prog N e.f args h q
theorem look_some {f : Nat} {args : List AVal} {h : Heap} {q : CR} : ∀ {l : List KH}, look l f args h = some q → ∃ e ∈ l, e.f = f ∧ khAt e args h = some q
  | [], h => by cases h
  | e :: l, k => by
    have k : ife (Nat.beq e.f f) (Option.rec (motive := fun _ => Option CR) (look l f args h) some (khAt e args h)) (look l f args h) = some q := k
    have tail : look l f args h = some q → ∃ x ∈ (e :: l : List KH), x.f = f ∧ khAt x args h = some q := fun k => by
      obtain ⟨x, h1, h2⟩ := look_some k
      exact ⟨x, List.mem_cons_of_mem _ h1, h2⟩
    rw [ife_eq] at k
    split at k
    · next h1 =>
      cases hk : khAt e args h with
      | none => rw [hk] at k; exact tail k
      | some q' =>
        rw [hk] at k
        obtain rfl := Option.some.inj (show some q' = some q from k)
        exact ⟨e, List.mem_cons_self .., beq_true h1, hk⟩
    · exact tail k
/-- strings.Repeat, or a call of the list -/
noncomputable def lookR (l : List KH) (f : Nat) (args : List AVal) (h : Heap) : Option CR := ife (Nat.beq f (nat_lit 69)) (repA args h) (look l f args h)
theorem look_ok {N : Nat} (hP : RepIs Tryz.prog 69) {l : List KH} (hl : Knows N l) : ExtOK (envX (lookR l)) Tryz.prog N := fun f args h q he => by
  have he : ife (Nat.beq f 69) (repA args h) (look l f args h) = some q := he
  rw [ife_eq] at he
  split at he
  · next hf => obtain rfl := beq_true hf; exact repA_ok hP he
  · obtain ⟨e, h1, rfl, h2⟩ := look_some he
    exact (CallOK.env (x := fun _ _ _ => none) (hl e h1 args h q h2)).toN
theorem Knows.nil {N : Nat} : Knows N [] := fun _ h => by cases h
def Kn (N : Nat) (e : KH) : Prop := ∀ args h q, khAt e args h = some q → CallOK env Tryz.prog N e.f args h q
theorem Knows.cons {N : Nat} {l : List KH} {e : KH} (h : Kn N e) (hl : Knows N l) : Knows N (e :: l) := fun x hx => by
  rcases List.mem_cons.1 hx with rfl | hx
  · exact h
  · exact hl x hx
/-- one more known call, run by the kernel over those that are known -/
theorem Kn.of {N : Nat} (hP : RepIs Tryz.prog 69) {l : List KH} (hl : Knows N l) {e : KH} (h : ran (envX (lookR l)) e = true) : Kn N e :=
  fun _ _ _ hk => kh_ok h (fun _ hq => CallOK.env (y := fun _ _ _ => none) (run_ok (envX_ok _) (look_ok hP hl) (fun r hr => drOK (envX_ok _) r hr) hq)) hk
noncomputable def z (n : Nat) : AVal := .i .i64 (Int.ofNat n)
noncomputable def y (n : Nat) : AVal := .i .u8 (Int.ofNat n)
noncomputable def mE (k v n : Nat) : Ent := ⟨z k, z v, n⟩
end Go.Abs
