/- A part of a proof about Go functions of this program: an evaluator with a memory of its own, and the proof that what it finds the model finds (Q0). No conditions beyond those that each theorem names. -/
import Derived.Test.YtohmkigjifhddaaGreatDoorAbsam
set_option linter.all false
set_option autoImplicit false
set_option linter.unusedSimpArgs false
namespace Go.Abs
/-! equations for a walk in the calculus -/
section
variable {α β : Type} {E : Env} {P : Program} {N : Nat} {T : Nat → List AVal → Option AVal} {c : FC} {tm : Tm} {df : List ADef} {h : Heap} {r : Rec}
@[go_sem] theorem ob_s (a : α) (f : α → Option β) : ob (some a) f = f a := rfl
@[go_sem] theorem ob_n (f : α → Option β) : ob none f = none := rfl
@[go_sem] theorem ife_t (x y : β) : ife true x y = x := rfl
@[go_sem] theorem ife_f (x y : β) : ife false x y = y := rfl
@[go_sem] theorem chk_t (x : Option β) : chk true x = x := rfl
@[go_sem] theorem chk_f (x : Option β) : chk false x = none := rfl
@[go_sem] theorem ex_s (a : α) (p : α → Prop) : (∃ x, some a = some x ∧ p x) = p a := by simp
@[go_sem] theorem ex_n (p : α → Prop) : (∃ x, none = some x ∧ p x) = False := by simp
@[go_sem] theorem tt_imp (p : Prop) : (true = true → p) = p := by simp
@[go_sem] theorem ft_imp (p : Prop) : (false = true → p) = True := by simp
@[go_sem] theorem tf_imp (p : Prop) : (true = false → p) = True := by simp
@[go_sem] theorem ff_imp (p : Prop) : (false = false → p) = p := by simp
attribute [go_sem] and_true true_and true_implies decide_eq_true_eq decide_eq_false_iff_not Bool.not_true Bool.not_false and_self
@[go_sem] theorem imp_tt (p : Prop) : (p → True) = True := by simp
@[go_sem] theorem fls_imp (p : Prop) : (False → p) = True := by simp
@[go_sem] theorem asB_b (x : Bool) : asB (.b x) = some x := rfl
-- code
@[go_sem] theorem w_skip (K : Ex → KS) : wCode E P N T c .skip K tm df h = K .normal tm df h := rfl
@[go_sem] theorem w_region (id : Nat) (l : List Oper) (K : Ex → KS) : wCode E P N T c (.region id ⟨l⟩ false) K tm df h = wOps E P N T c l (K .normal) l tm df h := rfl
@[go_sem] theorem w_draw (id : Nat) (l : List Oper) (K : Ex → KS) : wCode E P N T c (.region id ⟨l⟩ true) K tm df h = ∃ p, planL E l = some p ∧ wDr E P N T c l p.1 h.next (K .normal) p.2 tm df ⟨h.bl, h.next + l.length⟩ [] := rfl
@[go_sem] theorem w_seq (a b : Code) (K : Ex → KS) : wCode E P N T c (.seq a b) K tm df h = wCode E P N T c a (wThen (wCode E P N T c b K) K) tm df h := rfl
@[go_sem] theorem w_block (id : Nat) (b : Code) (K : Ex → KS) : wCode E P N T c (.block id b) K tm df h = wCode E P N T c b (wBlock id K) tm df h := rfl
@[go_sem] theorem w_exit (id : Nat) (K : Ex → KS) : wCode E P N T c (.exit id) K tm df h = K (.exit id) tm df h := rfl
@[go_sem] theorem w_scope (b : Code) (K : Ex → KS) : wCode E P N T c (.scope b) K tm df h = wCode E P N T c b (wScope E P N c b K) tm df h := rfl
@[go_sem] theorem w_label (l : Nat) (K : Ex → KS) : wCode E P N T c (.label l) K tm df h = K .normal tm df h := rfl
@[go_sem] theorem w_goto (l : Nat) (K : Ex → KS) : wCode E P N T c (.goto l) K tm df h = K (.goto l) tm df h := rfl
@[go_sem] theorem w_ret (K : Ex → KS) : wCode E P N T c .ret K tm df h = K .ret tm df h := rfl
@[go_sem] theorem wThen_n (K1 : KS) (K : Ex → KS) : wThen K1 K .normal tm df h = K1 tm df h := rfl
@[go_sem] theorem wThen_x (K1 : KS) (K : Ex → KS) (i : Nat) : wThen K1 K (.exit i) tm df h = K (.exit i) tm df h := rfl
@[go_sem] theorem wThen_g (K1 : KS) (K : Ex → KS) (i : Nat) : wThen K1 K (.goto i) tm df h = K (.goto i) tm df h := rfl
@[go_sem] theorem wThen_r (K1 : KS) (K : Ex → KS) : wThen K1 K .ret tm df h = K .ret tm df h := rfl
@[go_sem] theorem wBlock_n (i : Nat) (K : Ex → KS) : wBlock i K .normal tm df h = K .normal tm df h := rfl
@[go_sem] theorem wBlock_x (i j : Nat) (K : Ex → KS) : wBlock i K (.exit j) tm df h = if j = i then K .normal tm df h else K (.exit j) tm df h := rfl
@[go_sem] theorem wBlock_g (i j : Nat) (K : Ex → KS) : wBlock i K (.goto j) tm df h = K (.goto j) tm df h := rfl
@[go_sem] theorem wBlock_r (i : Nat) (K : Ex → KS) : wBlock i K .ret tm df h = K .ret tm df h := rfl
@[go_sem] theorem wScope_n (b : Code) (K : Ex → KS) : wScope E P N c b K .normal tm df h = K .normal tm df h := rfl
@[go_sem] theorem wScope_x (b : Code) (K : Ex → KS) (i : Nat) : wScope E P N c b K (.exit i) tm df h = K (.exit i) tm df h := rfl
@[go_sem] theorem wScope_r (b : Code) (K : Ex → KS) : wScope E P N c b K .ret tm df h = K .ret tm df h := rfl
@[go_sem] theorem wEnd_n (fn : Func) (K : AVal → Heap → Prop) : wEnd E P N fn K .normal tm df h = wDefs E P N df h fun h => ∃ v, resV E tm h fn.results.toList = some v ∧ K v h := rfl
@[go_sem] theorem wEnd_r (fn : Func) (K : AVal → Heap → Prop) : wEnd E P N fn K .ret tm df h = wDefs E P N df h fun h => ∃ v, resV E tm h fn.results.toList = some v ∧ K v h := rfl
theorem wDefs_nil (K : Heap → Prop) (hk : K h) : wDefs E P N [] h K := .inl ⟨rfl, hk⟩
-- operations: what is left to do stands as data
def kVal (E : Env) (P : Program) (N : Nat) (T : Nat → List AVal → Option AVal) (c : FC) (all : List Oper) (K : KS) (o : Option AVal) (d : Option Nat) (l : List Oper) : KS := fun tm df h => ∃ v, o = some v ∧ wPut c d v tm fun tm => wOps E P N T c all K l tm df h
def kNx (E : Env) (P : Program) (N : Nat) (T : Nat → List AVal → Option AVal) (c : FC) (all : List Oper) (K : KS) (o : Option Nx) (d : Option Nat) (l : List Oper) : KS := fun tm df h => ∃ x, o = some x ∧ wNx E P N T df h (fun v df h => wPut c d v tm fun tm => wOps E P N T c all K l tm df h) x
def kGuard (E : Env) (P : Program) (N : Nat) (T : Nat → List AVal → Option AVal) (c : FC) (all : List Oper) (K : KS) (w : Option Bool) (op : Op) (d : Option Nat) (l : List Oper) : KS := fun tm df h =>
  ∃ w', w = some w' ∧ (w' = true → kNx E P N T c all K (execS c op E tm h) d l tm df h) ∧ (w' = false → kVal E P N T c all K (some undefA) d l tm df h)
def kIf (E : Env) (P : Program) (N : Nat) (T : Nat → List AVal → Option AVal) (c : FC) (v : Option AVal) (a b : Code) (K : Ex → KS) : KS := fun tm df h => ∃ v', v = some v' ∧ ∃ t, asB v' = some t ∧ (t = true → wCode E P N T c a K tm df h) ∧ (t = false → wCode E P N T c b K tm df h)
def kCall (E : Env) (P : Program) (N : Nat) (T : Nat → List AVal → Option AVal) (c : FC) (all : List Oper) (K : KS) (f : Nat) (args : List AVal) (d : Option Nat) (l : List Oper) : KS := fun tm df h =>
  ∃ q, CallOK E P N f args h q ∧ wPut c d q.v tm fun tm => wOps E P N T c all K l tm df q.h
def kTab (E : Env) (P : Program) (N : Nat) (T : Nat → List AVal → Option AVal) (c : FC) (all : List Oper) (K : KS) (t : Option AVal) (f : Nat) (args : List AVal) (d : Option Nat) (l : List Oper) : KS := fun tm df h => match t with
  | some v => kVal E P N T c all K (some v) d l tm df h
  | none => kCall E P N T c all K f args d l tm df h
@[go_sem] theorem w_cond (o : Operand) (a b : Code) (K : Ex → KS) : wCode E P N T c (.cond o a b) K tm df h = kIf E P N T c (opd o tm) a b K tm df h := rfl
@[go_sem] theorem kIf_t (a b : Code) (K : Ex → KS) : kIf E P N T c (some (.b true)) a b K tm df h = wCode E P N T c a K tm df h := by simp [kIf, asB_b]
@[go_sem] theorem kIf_f (a b : Code) (K : Ex → KS) : kIf E P N T c (some (.b false)) a b K tm df h = wCode E P N T c b K tm df h := by simp [kIf, asB_b]
@[go_sem] theorem wOps_nil (all : List Oper) (K : KS) : wOps E P N T c all K [] tm df h = K tm df h := rfl
@[go_sem] theorem wOps_c (all l : List Oper) (K : KS) (d : Option Nat) (op : Op) (ty : Nat) (p : String) (e : Array Edge) : wOps E P N T c all K (⟨d, op, ty, p, e, none⟩ :: l) tm df h = kNx E P N T c all K (execS c op E tm h) d l tm df h := by
  show (∃ w, some true = some w ∧ _) = _
  simp [kNx]
@[go_sem] theorem wOps_g (all l : List Oper) (K : KS) (d : Option Nat) (op : Op) (ty : Nat) (p : String) (e : Array Edge) (g : Nat × Bool) : wOps E P N T c all K (⟨d, op, ty, p, e, some g⟩ :: l) tm df h = kGuard E P N T c all K (wantG all tm g) op d l tm df h := by
  show (∃ w, wantG all tm g = some w ∧ _) = _
  simp [kGuard, kNx, kVal]
@[go_sem] theorem kGuard_t (all l : List Oper) (K : KS) (d : Option Nat) (op : Op) : kGuard E P N T c all K (some true) op d l tm df h = kNx E P N T c all K (execS c op E tm h) d l tm df h := by simp [kGuard]
@[go_sem] theorem kGuard_f (all l : List Oper) (K : KS) (d : Option Nat) (op : Op) : kGuard E P N T c all K (some false) op d l tm df h = kVal E P N T c all K (some undefA) d l tm df h := by simp [kGuard]
@[go_sem] theorem kNx_val (all l : List Oper) (K : KS) (d : Option Nat) (v : AVal) : kNx E P N T c all K (some (.val v)) d l tm df h = kVal E P N T c all K (some v) d l tm df h := by simp [kNx, kVal, wNx]
@[go_sem] theorem kNx_new (all l : List Oper) (K : KS) (d : Option Nat) (o : AObj) (v : AVal) : kNx E P N T c all K (some (.new o v)) d l tm df h = kVal E P N T c all K (some v) d l tm df (h.new o) := by simp [kNx, kVal, wNx]
@[go_sem] theorem kNx_eff (all l : List Oper) (K : KS) (d : Option Nat) (v : AVal) (h' : Heap) : kNx E P N T c all K (some (.eff v h')) d l tm df h = kVal E P N T c all K (some v) d l tm df h' := by simp [kNx, kVal, wNx]
@[go_sem] theorem kNx_enter (all l : List Oper) (K : KS) (d : Option Nat) (f : Nat) (args : List AVal) : kNx E P N T c all K (some (.enter f args)) d l tm df h = kTab E P N T c all K (T f args) f args d l tm df h := by
  simp only [kNx, kTab, wNx]
  cases hT : T f args with
  | some v => simp [kVal, hT]
  | none => simp [kCall, hT]
@[go_sem] theorem kTab_s (all l : List Oper) (K : KS) (d : Option Nat) (f : Nat) (args : List AVal) (v : AVal) : kTab E P N T c all K (some v) f args d l tm df h = kVal E P N T c all K (some v) d l tm df h := rfl
@[go_sem] theorem kTab_n (all l : List Oper) (K : KS) (d : Option Nat) (f : Nat) (args : List AVal) : kTab E P N T c all K none f args d l tm df h = kCall E P N T c all K f args d l tm df h := rfl
@[go_sem] theorem kNx_none (all l : List Oper) (K : KS) (d : Option Nat) : kNx E P N T c all K none d l tm df h = False := by simp [kNx]
@[go_sem] theorem kVal_no (all l : List Oper) (K : KS) (v : AVal) : kVal E P N T c all K (some v) none l tm df h = wOps E P N T c all K l tm df h := by simp [kVal, wPut]
theorem lt_eq (a b : Nat) : (lt a b = true) = (a < b) := by apply propext; exact ⟨fun h => lt_true h, fun h => Nat.ble_eq_true_of_le h⟩
@[go_sem] theorem kVal_bt (all l : List Oper) (K : KS) (f nt : Nat) (r : Bool) (d : Nat) : kVal E P N T ⟨f, nt, r⟩ all K (some (.b true)) (some d) l tm df h = (d < nt ∧ wOps E P N T ⟨f, nt, r⟩ all K l (tm.put d (.b true)) df h) := by simp [kVal, wPut, lt_eq, wVal]
@[go_sem] theorem kVal_bf (all l : List Oper) (K : KS) (f nt : Nat) (r : Bool) (d : Nat) : kVal E P N T ⟨f, nt, r⟩ all K (some (.b false)) (some d) l tm df h = (d < nt ∧ wOps E P N T ⟨f, nt, r⟩ all K l (tm.put d (.b false)) df h) := by simp [kVal, wPut, lt_eq, wVal]
theorem kVal_b (all l : List Oper) (K : KS) (f nt : Nat) (r : Bool) (d : Nat) (x : Bool) : kVal E P N T ⟨f, nt, r⟩ all K (some (.b x)) (some d) l tm df h =
    (d < nt ∧ (x = true → wOps E P N T ⟨f, nt, r⟩ all K l (tm.put d (.b true)) df h) ∧ (x = false → wOps E P N T ⟨f, nt, r⟩ all K l (tm.put d (.b false)) df h)) := by simp [kVal, wPut, lt_eq, wVal]
@[go_sem] theorem kVal_i (all l : List Oper) (K : KS) (fu nt : Nat) (r : Bool) (d : Nat) (k : IntKind) (n : Int) : kVal E P N T ⟨fu, nt, r⟩ all K (some (.i k n)) (some d) l tm df h = (d < nt ∧ wOps E P N T ⟨fu, nt, r⟩ all K l (tm.put d (.i k n)) df h) := by simp [kVal, wPut, lt_eq, wVal]
@[go_sem] theorem kVal_s (all l : List Oper) (K : KS) (fu nt : Nat) (r : Bool) (d : Nat) (m n : Nat) : kVal E P N T ⟨fu, nt, r⟩ all K (some (.s m n)) (some d) l tm df h = (d < nt ∧ wOps E P N T ⟨fu, nt, r⟩ all K l (tm.put d (.s m n)) df h) := by simp [kVal, wPut, lt_eq, wVal]
@[go_sem] theorem kVal_p0 (all l : List Oper) (K : KS) (fu nt : Nat) (r : Bool) (d : Nat)  : kVal E P N T ⟨fu, nt, r⟩ all K (some (.p0)) (some d) l tm df h = (d < nt ∧ wOps E P N T ⟨fu, nt, r⟩ all K l (tm.put d (.p0)) df h) := by simp [kVal, wPut, lt_eq, wVal]
@[go_sem] theorem kVal_p (all l : List Oper) (K : KS) (fu nt : Nat) (r : Bool) (d : Nat) (b o : Nat) : kVal E P N T ⟨fu, nt, r⟩ all K (some (.p b o)) (some d) l tm df h = (d < nt ∧ wOps E P N T ⟨fu, nt, r⟩ all K l (tm.put d (.p b o)) df h) := by simp [kVal, wPut, lt_eq, wVal]
@[go_sem] theorem kVal_gl (all l : List Oper) (K : KS) (fu nt : Nat) (r : Bool) (d : Nat) (b o : Nat) : kVal E P N T ⟨fu, nt, r⟩ all K (some (.g b o)) (some d) l tm df h = (d < nt ∧ wOps E P N T ⟨fu, nt, r⟩ all K l (tm.put d (.g b o)) df h) := by simp [kVal, wPut, lt_eq, wVal]
@[go_sem] theorem kVal_sl0 (all l : List Oper) (K : KS) (fu nt : Nat) (r : Bool) (d : Nat)  : kVal E P N T ⟨fu, nt, r⟩ all K (some (.sl0)) (some d) l tm df h = (d < nt ∧ wOps E P N T ⟨fu, nt, r⟩ all K l (tm.put d (.sl0)) df h) := by simp [kVal, wPut, lt_eq, wVal]
@[go_sem] theorem kVal_sl (all l : List Oper) (K : KS) (fu nt : Nat) (r : Bool) (d : Nat) (b o m : Nat) (cp : Cap) : kVal E P N T ⟨fu, nt, r⟩ all K (some (.sl b o m cp)) (some d) l tm df h = (d < nt ∧ wOps E P N T ⟨fu, nt, r⟩ all K l (tm.put d (.sl b o m cp)) df h) := by simp [kVal, wPut, lt_eq, wVal]
@[go_sem] theorem kVal_m0 (all l : List Oper) (K : KS) (fu nt : Nat) (r : Bool) (d : Nat)  : kVal E P N T ⟨fu, nt, r⟩ all K (some (.m0)) (some d) l tm df h = (d < nt ∧ wOps E P N T ⟨fu, nt, r⟩ all K l (tm.put d (.m0)) df h) := by simp [kVal, wPut, lt_eq, wVal]
@[go_sem] theorem kVal_m (all l : List Oper) (K : KS) (fu nt : Nat) (r : Bool) (d : Nat) (b : Nat) : kVal E P N T ⟨fu, nt, r⟩ all K (some (.m b)) (some d) l tm df h = (d < nt ∧ wOps E P N T ⟨fu, nt, r⟩ all K l (tm.put d (.m b)) df h) := by simp [kVal, wPut, lt_eq, wVal]
@[go_sem] theorem kVal_f (all l : List Oper) (K : KS) (fu nt : Nat) (r : Bool) (d : Nat) (fn : Fn) (x y : List AVal) : kVal E P N T ⟨fu, nt, r⟩ all K (some (.f fn x y)) (some d) l tm df h = (d < nt ∧ wOps E P N T ⟨fu, nt, r⟩ all K l (tm.put d (.f fn x y)) df h) := by simp [kVal, wPut, lt_eq, wVal]
@[go_sem] theorem kVal_f0 (all l : List Oper) (K : KS) (fu nt : Nat) (r : Bool) (d : Nat)  : kVal E P N T ⟨fu, nt, r⟩ all K (some (.f0)) (some d) l tm df h = (d < nt ∧ wOps E P N T ⟨fu, nt, r⟩ all K l (tm.put d (.f0)) df h) := by simp [kVal, wPut, lt_eq, wVal]
@[go_sem] theorem kVal_ic (all l : List Oper) (K : KS) (fu nt : Nat) (r : Bool) (d : Nat) (t : Nat) (v : AVal) : kVal E P N T ⟨fu, nt, r⟩ all K (some (.ic t v)) (some d) l tm df h = (d < nt ∧ wOps E P N T ⟨fu, nt, r⟩ all K l (tm.put d (.ic t v)) df h) := by simp [kVal, wPut, lt_eq, wVal]
@[go_sem] theorem kVal_i0 (all l : List Oper) (K : KS) (fu nt : Nat) (r : Bool) (d : Nat)  : kVal E P N T ⟨fu, nt, r⟩ all K (some (.i0)) (some d) l tm df h = (d < nt ∧ wOps E P N T ⟨fu, nt, r⟩ all K l (tm.put d (.i0)) df h) := by simp [kVal, wPut, lt_eq, wVal]
@[go_sem] theorem kVal_agg (all l : List Oper) (K : KS) (fu nt : Nat) (r : Bool) (d : Nat) (x : List AVal) : kVal E P N T ⟨fu, nt, r⟩ all K (some (.agg x)) (some d) l tm df h = (d < nt ∧ wOps E P N T ⟨fu, nt, r⟩ all K l (tm.put d (.agg x)) df h) := by simp [kVal, wPut, lt_eq, wVal]
@[go_sem] theorem kVal_tup (all l : List Oper) (K : KS) (fu nt : Nat) (r : Bool) (d : Nat) (x : List AVal) : kVal E P N T ⟨fu, nt, r⟩ all K (some (.tup x)) (some d) l tm df h = (d < nt ∧ wOps E P N T ⟨fu, nt, r⟩ all K l (tm.put d (.tup x)) df h) := by simp [kVal, wPut, lt_eq, wVal]
@[go_sem] theorem undefA_eq : undefA = .tup [] := rfl
-- temporaries
@[go_sem] theorem tm0_eq (args : List AVal) : tm0 args = ⟨0, .e, argsAt args 0⟩ := rfl
@[go_sem] theorem argsAt_nil (k : Nat) : argsAt [] k = [] := rfl
@[go_sem] theorem argsAt_cons (a : AVal) (l : List AVal) (k : Nat) : argsAt (a :: l) k = (k, a) :: argsAt l (k + 1) := rfl
@[go_sem] theorem put_mk (l : List (Nat × AVal)) (d : Nat) (v : AVal) : Tm.put ⟨0, .e, l⟩ d v = ⟨0, .e, (d, v) :: l⟩ := by
  show tmPut d v 0 .e l = _
  unfold tmPut; rw [ife_eq, bit_zero, if_neg (by simp)]
@[go_sem] theorem get_mk (l : List (Nat × AVal)) (k : Nat) : Tm.get ⟨0, .e, l⟩ k = assoc k l := by
  show tmGet k 0 .e l = _
  unfold tmGet; rw [ife_eq, bit_zero, if_neg (by simp)]
@[go_sem] theorem assoc_cons (k j : Nat) (v : AVal) (l : List (Nat × AVal)) : assoc k ((j, v) :: l) = if j = k then some v else assoc k l := by
  show ife (Nat.beq j k) (some v) (assoc k l) = _
  rw [ife_eq]
  by_cases h : j = k
  · subst h; rw [if_pos rfl, if_pos (Nat.beq_refl j)]
  · rw [if_neg h, nbeqf h]; rfl
@[go_sem] theorem opd_t (k : Nat) : opd (.tmp k) tm = tm.get k := rfl
@[go_sem] theorem opd_i (k : IntKind) (n : Int) : opd (.const (.int k n)) tm = some (.i k n) := rfl
@[go_sem] theorem opd_b (b : Bool) : opd (.const (.bool b)) tm = some (.b b) := rfl
@[go_sem] theorem opd_s (s : ByteArray) : opd (.const (.string s)) tm = some (.s s.size (packL s.data.toList)) := rfl
@[go_sem] theorem opd_p0 : opd (.const (.pointer none)) tm = some .p0 := rfl
@[go_sem] theorem opd_sl0 : opd (.const (.slice none 0 0)) tm = some .sl0 := rfl
@[go_sem] theorem opd_m0 : opd (.const (.map none)) tm = some .m0 := rfl
@[go_sem] theorem opd_f0 : opd (.const .nilFunc) tm = some .f0 := rfl
@[go_sem] theorem opd_i0 : opd (.const .nilIface) tm = some .i0 := rfl
@[go_sem] theorem opd_f (f : Nat) : opd (.func f) tm = some (.f (.func f) [] []) := rfl
@[go_sem] theorem opd_g (g : Nat) : opd (.global g) tm = some (.g g 0) := rfl
@[go_sem] theorem asTup_t (l : List AVal) : asTup (.tup l) = some l := rfl
@[go_sem] theorem nth_z (a : α) (l : List α) : nth (a :: l) 0 = some a := rfl
@[go_sem] theorem nth_s (a : α) (l : List α) (n : Nat) : nth (a :: l) (n + 1) = nth l n := rfl
@[go_sem] theorem wantG_eq (all : List Oper) (j : Nat) (b : Bool) : wantG all tm (j, b) = ob (nth all j) fun p => ob p.dst fun d => ob (tm.get d) fun v => wantV b v := rfl
@[go_sem] theorem wantV_b (b x : Bool) : wantV b (.b x) = some (iff2 b x) := rfl
@[go_sem] theorem wantV_t (b : Bool) (l : List AVal) : wantV b (.tup l) = some false := rfl
@[go_sem] theorem iff2_tt : iff2 true true = true := rfl
@[go_sem] theorem iff2_tf : iff2 true false = false := rfl
@[go_sem] theorem iff2_ft : iff2 false true = false := rfl
@[go_sem] theorem iff2_ff : iff2 false false = true := rfl
-- single operations
@[go_sem] theorem x_move (x : Operand) : execS c (.move x) E tm h = ob (opd x tm) fun v => some (.val v) := rfl
@[go_sem] theorem x_assign (x : Operand) : execS c (.assign x) E tm h = ob (opd x tm) fun v => some (.val v) := rfl
@[go_sem] theorem x_pick (x y z : Operand) : execS c (.pick x y z) E tm h = ob (opd x tm) fun v => ob (asB v) fun b => ob (opd (ife b y z) tm) fun v => some (.val v) := rfl
@[go_sem] theorem x_bin (op : BinOp) (t u : Nat) (x y : Operand) : execS c (.binOp op t x y u) E tm h = ob (opd x tm) fun a => ob (opd y tm) fun b => ob (binV E op t (isConst x) (isConst y) a b) fun v => some (.val v) := rfl
@[go_sem] theorem x_un (op : UnOp) (t : Nat) (x : Operand) : execS c (.unOp op t x) E tm h = ob (opd x tm) fun a => ob (unV op a) fun v => some (.val v) := rfl
@[go_sem] theorem x_conv (s d : Nat) (x : Operand) : execS c (.convert s d x) E tm h = xConv s d x E h h.next tm := rfl
@[go_sem] theorem x_extract (x : Operand) (i : Nat) : execS c (.extract x i) E tm h = ob (opd x tm) fun x => ob (asTup x) fun l => ob (nth l i) fun v => some (.val v) := rfl
@[go_sem] theorem x_load (t : Nat) (a : Operand) : execS c (.load t a) E tm h = ob (opd a tm) fun a => ob (E.ty t) fun ti => ob (ldVar E h ti a) fun v => some (.val v) := rfl
@[go_sem] theorem x_store (t : Nat) (a x : Operand) : execS c (.store t a x) E tm h = ob (opd a tm) fun a => ob (opd x tm) fun x => ob (E.ty t) fun ti => ob (stVar h ti a x) fun h => some (.eff (.tup []) h) := rfl
@[go_sem] theorem x_nil (x : Operand) : execS c (.nilCheck x) E tm h = ob (opd x tm) fun v => chk (notNil v) (some (.val v)) := rfl
@[go_sem] theorem x_alloc (t : Nat) : execS c (.alloc t) E tm h = ob (zeroOf E t) fun z => ob (mkRow E t (cellsV z)) fun o => some (.new o (.p h.next 0)) := rfl
@[go_sem] theorem x_box (t : Nat) (x : Operand) : execS c (.box t x) E tm h = ob (opd x tm) fun v => ob (mkRow E t (cellsV v)) fun o => some (.new o (.p h.next 0)) := rfl
@[go_sem] theorem x_build (t : Nat) (l : List (Nat × Operand)) : execS c (.build t ⟨l⟩) E tm h = ob (mapP l tm) fun ps => ob (buildV E t ps) fun v => some (.val v) := rfl
@[go_sem] theorem x_fieldAddr (t : Nat) (x : Operand) (f : Nat) : execS c (.fieldAddr t x f) E tm h = ob (opd x tm) fun x => ob (fieldAd E t x f) fun v => some (.val v) := rfl
@[go_sem] theorem x_field (t : Nat) (x : Operand) (f : Nat) : execS c (.field t x f) E tm h = ob (opd x tm) fun x => ob (fieldV E t x f) fun v => some (.val v) := rfl
@[go_sem] theorem x_indexAddr (t : Nat) (x i : Operand) : execS c (.indexAddr t x i) E tm h = ob (opd x tm) fun x => ob (opd i tm) fun i => ob (indexAd E t x i) fun v => some (.val v) := rfl
@[go_sem] theorem x_index (t : Nat) (x i : Operand) : execS c (.index t x i) E tm h = ob (opd x tm) fun x => ob (opd i tm) fun i => ob (indexV E t x i) fun v => some (.val v) := rfl
@[go_sem] theorem x_makeSlice (t : Nat) (l k : Operand) : execS c (.makeSlice t l k) E tm h = ob (opd l tm) fun l => ob (opd k tm) fun k => makeSl E t l k h.next := rfl
@[go_sem] theorem x_call (f : Operand) (l : List Operand) (ts : Array Nat) : execS c (.call ⟨.value f, ⟨l⟩, ts⟩) E tm h = ob (opd f tm) fun f => ob (opds l tm) fun args => applyV E f args := rfl
@[go_sem] theorem x_len (l : List Operand) (ts : List Nat) : execS c (.call ⟨.builtin .len, ⟨l⟩, ⟨ts⟩⟩) E tm h = ob (opds l tm) fun args => bLen E h ts args := rfl
@[go_sem] theorem opds_nil : opds [] tm = some [] := rfl
@[go_sem] theorem opds_cons (x : Operand) (l : List Operand) : opds (x :: l) tm = ob (opd x tm) fun v => ob (opds l tm) fun r => some (v :: r) := rfl
@[go_sem] theorem mapP_nil : mapP [] tm = some [] := rfl
@[go_sem] theorem mapP_cons (i : Nat) (x : Operand) (l : List (Nat × Operand)) : mapP ((i, x) :: l) tm = ob (opd x tm) fun v => ob (mapP l tm) fun r => some ((i, v) :: r) := by
  show ob (ob (opd x tm) fun v => some (i, v)) (fun b => ob (mapP l tm) fun r => some (b :: r)) = _
  cases opd x tm <;> rfl
/-- a call of a function that has a text -/
def HasText (E : Env) (f : Nat) : Prop := ∃ fn, E.fn f = some fn ∧ fn.body.isSome = true
theorem apply_func {f : Nat} (hf : HasText E f) (args : List AVal) : applyV E (.f (.func f) [] []) args = some (.enter f args) := by
  obtain ⟨fn, h1, h2⟩ := hf
  have hl : app [] (app args []) = args := by
    show app args [] = args
    induction args with
    | nil => rfl
    | cons a l ih => exact congrArg (a :: ·) ih
  show ob (E.fn f) (fun fn => chk (isSm fn.body) (some (Nx.enter f (app [] (app args []))))) = _
  rw [h1, hl]
  show chk (isSm fn.body) _ = _
  cases hb : fn.body with
  | none => rw [hb] at h2; cases h2
  | some x => rfl
-- numbers
@[go_sem] theorem kEq_self (k : IntKind) : kEq k k = true := by cases k <;> rfl
@[go_sem] theorem bin_i (op : BinOp) (t : Nat) (cx cy : Bool) (k k' : IntKind) (a b : Int) : binV E op t cx cy (.i k a) (.i k' b) = Option.rec (motive := fun _ => Option AVal) (chk (kEq k k') (arith op k a b)) (fun s => ob (natI b) fun n => s k a n) (shiftO op) := rfl
@[go_sem] theorem ar_add (k : IntKind) (a b : Int) : arith .add k a b = some (.i k (k.wrap (a + b))) := by show some (AVal.i k (addI k a b)) = _; rw [addI_eq]
@[go_sem] theorem ar_sub (k : IntKind) (a b : Int) : arith .sub k a b = some (.i k (k.wrap (a - b))) := by show some (AVal.i k (subI k a b)) = _; rw [subI_eq]
@[go_sem] theorem ar_mul (k : IntKind) (a b : Int) : arith .mul k a b = some (.i k (k.wrap (a * b))) := by show some (AVal.i k (mulI k a b)) = _; rw [mulI_eq]
@[go_sem] theorem ar_rem (k : IntKind) (a b : Int) : arith .rem k a b = chk (!(b == 0)) (some (.i k (a.tmod b))) := by show chk (Bool.not (eqI b (Int.ofNat 0))) (some (AVal.i k (remI a b))) = _; rw [remI_eq, eqI_eq]; rfl
@[go_sem] theorem ar_quo (k : IntKind) (a b : Int) : arith .quo k a b = chk (!(b == 0)) (some (.i k (k.wrap (a.tdiv b)))) := by show chk (Bool.not (eqI b (Int.ofNat 0))) (some (AVal.i k (quoI k a b))) = _; rw [quoI_eq, eqI_eq]; rfl
@[go_sem] theorem ar_lss (k : IntKind) (a b : Int) : arith .lss k a b = some (.b (decide (a < b))) := by show some (AVal.b (Bool.not (leI b a))) = _; rw [leI_eq]; congr 2; rw [Bool.eq_iff_iff]; simp
@[go_sem] theorem ar_leq (k : IntKind) (a b : Int) : arith .leq k a b = some (.b (decide (a ≤ b))) := by show some (AVal.b (leI a b)) = _; rw [leI_eq]
@[go_sem] theorem ar_gtr (k : IntKind) (a b : Int) : arith .gtr k a b = some (.b (decide (b < a))) := by show some (AVal.b (Bool.not (leI a b))) = _; rw [leI_eq]; congr 2; rw [Bool.eq_iff_iff]; simp
@[go_sem] theorem ar_geq (k : IntKind) (a b : Int) : arith .geq k a b = some (.b (decide (b ≤ a))) := by show some (AVal.b (leI b a)) = _; rw [leI_eq]
@[go_sem] theorem ar_eql (k : IntKind) (a b : Int) : arith .eql k a b = some (.b (decide (a = b))) := by show some (AVal.b (eqI a b)) = _; rw [eqI_eq]; rfl
@[go_sem] theorem ar_neq (k : IntKind) (a b : Int) : arith .neq k a b = some (.b (!decide (a = b))) := by show some (AVal.b (Bool.not (eqI a b))) = _; rw [eqI_eq]; rfl
@[go_sem] theorem un_not (b : Bool) : unV .not (.b b) = some (.b (!b)) := rfl
@[go_sem] theorem sh_add : shiftO .add = none := rfl
@[go_sem] theorem sh_sub : shiftO .sub = none := rfl
@[go_sem] theorem sh_mul : shiftO .mul = none := rfl
@[go_sem] theorem sh_quo : shiftO .quo = none := rfl
@[go_sem] theorem sh_rem : shiftO .rem = none := rfl
@[go_sem] theorem sh_lss : shiftO .lss = none := rfl
@[go_sem] theorem sh_leq : shiftO .leq = none := rfl
@[go_sem] theorem sh_gtr : shiftO .gtr = none := rfl
@[go_sem] theorem sh_geq : shiftO .geq = none := rfl
@[go_sem] theorem sh_eql : shiftO .eql = none := rfl
@[go_sem] theorem sh_neq : shiftO .neq = none := rfl
@[go_sem] theorem resV_nil : resV E tm h [] = some (.tup []) := rfl
@[go_sem] theorem resV_one (k : Nat) : resV E tm h [.tmp k] = ob (tm.get k) fun v => some v := by
  show ob (ob (tm.get k) fun b => some [b]) (fun l => some (tup1 l)) = _
  cases tm.get k <;> rfl
@[go_sem] theorem resV_two (j k : Nat) : resV E tm h [.tmp j, .tmp k] = ob (tm.get j) fun u => ob (tm.get k) fun v => some (.tup [u, v]) := by
  show ob (ob (tm.get j) fun a => ob (ob (tm.get k) fun b => some [b]) fun r => some (a :: r)) (fun l => some (tup1 l)) = _
  cases tm.get j with
  | none => rfl
  | some a => cases tm.get k <;> rfl
/-! a region that draws its order -/
section
variable {all : List Oper} {bs : List Nat} {base : Nat} {K : KS}
def kD1 (E : Env) (P : Program) (N : Nat) (T : Nat → List AVal → Option AVal) (c : FC) (all : List Oper) (bs : List Nat) (base : Nat) (K : KS) (o : Option Oper) (m : Option Nat) (i : Nat) (rest : List Nat) (tm : Tm) (df : List ADef) (h : Heap) (past : List (Nat × Heap)) : Prop :=
  ∃ o' m', o = some o' ∧ m = some m' ∧ wDr E P N T c all bs base K (i :: rest) tm df h past
def kDVal (E : Env) (P : Program) (N : Nat) (T : Nat → List AVal → Option AVal) (c : FC) (all : List Oper) (bs : List Nat) (base : Nat) (K : KS) (x : Option Nx) (d : Option Nat) (rest : List Nat) (tm : Tm) (df : List ADef) (h : Heap) (past : List (Nat × Heap)) : Prop :=
  ∃ v, x = some (.val v) ∧ wPut c d v tm fun tm => wDr E P N T c all bs base K rest tm df h past
def kDRead (E : Env) (P : Program) (N : Nat) (T : Nat → List AVal → Option AVal) (c : FC) (all : List Oper) (bs : List Nat) (base : Nat) (K : KS) (x : Option Nx) (o : Oper) (m : Nat) (rest : List Nat) (tm : Tm) (df : List ADef) (h : Heap) (past : List (Nat × Heap)) : Prop :=
  ∃ v, x = some (.val v) ∧ readsSame E (named o tm) o.op v m past = true ∧ wPut c o.dst v tm fun tm => wDr E P N T c all bs base K rest tm df h past
def kDNew (E : Env) (P : Program) (N : Nat) (T : Nat → List AVal → Option AVal) (c : FC) (all : List Oper) (bs : List Nat) (base : Nat) (K : KS) (x : Option Nx) (d : Option Nat) (i : Nat) (rest : List Nat) (tm : Tm) (df : List ADef) (h : Heap) (past : List (Nat × Heap)) : Prop :=
  ∃ ob v, x = some (.new ob v) ∧ wPut c d v tm fun tm => wDr E P N T c all bs base K rest tm df (h.set (base + i) ob) past
def kDNx (E : Env) (P : Program) (N : Nat) (T : Nat → List AVal → Option AVal) (c : FC) (all : List Oper) (bs : List Nat) (base : Nat) (K : KS) (x : Option Nx) (d : Option Nat) (i : Nat) (rest : List Nat) (tm : Tm) (df : List ADef) (h : Heap) (past : List (Nat × Heap)) : Prop :=
  ∃ x', x = some x' ∧ wNx E P N T df h (fun v df h' => cleanAt base h'.bl rest = true ∧ wPut c d v tm fun tm => wDr E P N T c all bs base K rest tm df h' ((i, h) :: past)) x'
def kDKd (E : Env) (P : Program) (N : Nat) (T : Nat → List AVal → Option AVal) (c : FC) (all : List Oper) (bs : List Nat) (base : Nat) (K : KS) (k : Kd) (o : Oper) (m i : Nat) (rest : List Nat) (tm : Tm) (df : List ADef) (h : Heap) (past : List (Nat × Heap)) : Prop := match k with
  | .pure => kDVal E P N T c all bs base K (execT o.op E h h.next (named o tm)) o.dst rest tm df h past
  | .read => kDRead E P N T c all bs base K (execT o.op E h h.next (named o tm)) o m rest tm df h past
  | .new => kDNew E P N T c all bs base K (execT o.op E h (base + i) (named o tm)) o.dst i rest tm df h past
  | .eff => kDNx E P N T c all bs base K (execS c o.op E (named o tm) h) o.dst i rest tm df h past
def kDW (E : Env) (P : Program) (N : Nat) (T : Nat → List AVal → Option AVal) (c : FC) (all : List Oper) (bs : List Nat) (base : Nat) (K : KS) (w : Option Bool) (o : Oper) (m i : Nat) (rest : List Nat) (tm : Tm) (df : List ADef) (h : Heap) (past : List (Nat × Heap)) : Prop :=
  ∃ w', w = some w' ∧ (w' = true → kDKd E P N T c all bs base K (kd E o) o m i rest tm df h past) ∧ (w' = false → (isEff (kd E o) = true → cleanAt base h.bl rest = true) ∧ wPut c o.dst undefA tm fun tm => wDr E P N T c all bs base K rest tm df h (ife (isEff (kd E o)) ((i, h) :: past) past))
def kDO (E : Env) (P : Program) (N : Nat) (T : Nat → List AVal → Option AVal) (c : FC) (all : List Oper) (bs : List Nat) (base : Nat) (K : KS) (o : Option Oper) (m : Option Nat) (i : Nat) (rest : List Nat) (tm : Tm) (df : List ADef) (h : Heap) (past : List (Nat × Heap)) : Prop :=
  ∃ o' m', o = some o' ∧ m = some m' ∧ kDW E P N T c all bs base K (wants all tm o'.guard) o' m' i rest tm df h past
@[go_sem] theorem wDr_nil (past : List (Nat × Heap)) : wDr E P N T c all bs base K [] tm df h past = K tm df h := rfl
@[go_sem] theorem wDr_c (i : Nat) (rest : List Nat) (past : List (Nat × Heap)) : wDr E P N T c all bs base K (i :: rest) tm df h past = kDO E P N T c all bs base K (nth all i) (nth bs i) i rest tm df h past := by
  apply propext
  constructor
  · rintro ⟨o, m, w, h1, h2, h3, h4, h5⟩
    refine ⟨o, m, h1, h2, w, h3, fun e => ?_, h5⟩
    have h4 := h4 e
    unfold kDKd
    cases hk : kd E o <;> rw [hk] at h4 <;> exact h4
  · rintro ⟨o, m, h1, h2, w, h3, h4, h5⟩
    refine ⟨o, m, w, h1, h2, h3, fun e => ?_, h5⟩
    have h4 := h4 e
    unfold kDKd at h4
    cases hk : kd E o <;> rw [hk] at h4 <;> exact h4
@[go_sem] theorem kDO_s (o : Oper) (m i : Nat) (rest : List Nat) (past : List (Nat × Heap)) : kDO E P N T c all bs base K (some o) (some m) i rest tm df h past = kDW E P N T c all bs base K (wants all tm o.guard) o m i rest tm df h past := by
  apply propext
  constructor
  · rintro ⟨o', m', h1, h2, h⟩
    obtain rfl := Option.some.inj h1
    obtain rfl := Option.some.inj h2
    exact h
  · exact fun h => ⟨_, _, rfl, rfl, h⟩
@[go_sem] theorem wants_n : wants all tm none = some true := rfl
@[go_sem] theorem wants_s (g : Nat × Bool) : wants all tm (some g) = wantG all tm g := rfl
@[go_sem] theorem kDW_t (o : Oper) (m i : Nat) (rest : List Nat) (past : List (Nat × Heap)) : kDW E P N T c all bs base K (some true) o m i rest tm df h past = kDKd E P N T c all bs base K (kd E o) o m i rest tm df h past := by simp [kDW]
@[go_sem] theorem kDW_f (o : Oper) (m i : Nat) (rest : List Nat) (past : List (Nat × Heap)) : kDW E P N T c all bs base K (some false) o m i rest tm df h past = ((isEff (kd E o) = true → cleanAt base h.bl rest = true) ∧ wPut c o.dst undefA tm fun tm => wDr E P N T c all bs base K rest tm df h (ife (isEff (kd E o)) ((i, h) :: past) past)) := by simp [kDW]
@[go_sem] theorem kDKd_p (o : Oper) (m i : Nat) (rest : List Nat) (past : List (Nat × Heap)) : kDKd E P N T c all bs base K .pure o m i rest tm df h past = kDVal E P N T c all bs base K (execT o.op E h h.next (named o tm)) o.dst rest tm df h past := rfl
@[go_sem] theorem kDKd_r (o : Oper) (m i : Nat) (rest : List Nat) (past : List (Nat × Heap)) : kDKd E P N T c all bs base K .read o m i rest tm df h past = kDRead E P N T c all bs base K (execT o.op E h h.next (named o tm)) o m rest tm df h past := rfl
@[go_sem] theorem kDKd_n (o : Oper) (m i : Nat) (rest : List Nat) (past : List (Nat × Heap)) : kDKd E P N T c all bs base K .new o m i rest tm df h past = kDNew E P N T c all bs base K (execT o.op E h (base + i) (named o tm)) o.dst i rest tm df h past := rfl
@[go_sem] theorem kDKd_e (o : Oper) (m i : Nat) (rest : List Nat) (past : List (Nat × Heap)) : kDKd E P N T c all bs base K .eff o m i rest tm df h past = kDNx E P N T c all bs base K (execS c o.op E (named o tm) h) o.dst i rest tm df h past := rfl
@[go_sem] theorem kDRead_s (v : AVal) (o : Oper) (m : Nat) (rest : List Nat) (past : List (Nat × Heap)) : kDRead E P N T c all bs base K (some (.val v)) o m rest tm df h past = (readsSame E (named o tm) o.op v m past = true ∧ kDVal E P N T c all bs base K (some (.val v)) o.dst rest tm df h past) := by simp [kDRead, kDVal]
@[go_sem] theorem kDNx_v (v : AVal) (d : Option Nat) (i : Nat) (rest : List Nat) (past : List (Nat × Heap)) : kDNx E P N T c all bs base K (some (.val v)) d i rest tm df h past = (cleanAt base h.bl rest = true ∧ kDVal E P N T c all bs base K (some (.val v)) d rest tm df h ((i, h) :: past)) := by simp [kDNx, kDVal, wNx]
@[go_sem] theorem kDNx_x (v : AVal) (h' : Heap) (d : Option Nat) (i : Nat) (rest : List Nat) (past : List (Nat × Heap)) : kDNx E P N T c all bs base K (some (.eff v h')) d i rest tm df h past = (cleanAt base h'.bl rest = true ∧ kDVal E P N T c all bs base K (some (.val v)) d rest tm df h' ((i, h) :: past)) := by simp [kDNx, kDVal, wNx]
def kDTab (E : Env) (P : Program) (N : Nat) (T : Nat → List AVal → Option AVal) (c : FC) (all : List Oper) (bs : List Nat) (base : Nat) (K : KS) (t : Option AVal) (f : Nat) (args : List AVal) (d : Option Nat) (i : Nat) (rest : List Nat) (tm : Tm) (df : List ADef) (h : Heap) (past : List (Nat × Heap)) : Prop := match t with
  | some v => cleanAt base h.bl rest = true ∧ kDVal E P N T c all bs base K (some (.val v)) d rest tm df h ((i, h) :: past)
  | none => ∃ q, CallOK E P N f args h q ∧ cleanAt base q.h.bl rest = true ∧ kDVal E P N T c all bs base K (some (.val q.v)) d rest tm df q.h ((i, h) :: past)
@[go_sem] theorem kDNx_c (f : Nat) (args : List AVal) (d : Option Nat) (i : Nat) (rest : List Nat) (past : List (Nat × Heap)) : kDNx E P N T c all bs base K (some (.enter f args)) d i rest tm df h past = kDTab E P N T c all bs base K (T f args) f args d i rest tm df h past := by
  simp only [kDNx, kDTab, wNx]
  cases hT : T f args with
  | some v => simp [kDVal, hT]
  | none => simp [kDVal, hT]
@[go_sem] theorem kDTab_s (v : AVal) (f : Nat) (args : List AVal) (d : Option Nat) (i : Nat) (rest : List Nat) (past : List (Nat × Heap)) : kDTab E P N T c all bs base K (some v) f args d i rest tm df h past = (cleanAt base h.bl rest = true ∧ kDVal E P N T c all bs base K (some (.val v)) d rest tm df h ((i, h) :: past)) := rfl
@[go_sem] theorem kDVal_no (v : AVal) (rest : List Nat) (past : List (Nat × Heap)) : kDVal E P N T c all bs base K (some (.val v)) none rest tm df h past = wDr E P N T c all bs base K rest tm df h past := by simp [kDVal, wPut]
@[go_sem] theorem kDVal_bt (fu nt : Nat) (r : Bool) (d : Nat)  (rest : List Nat) (past : List (Nat × Heap)) : kDVal E P N T ⟨fu, nt, r⟩ all bs base K (some (.val (.b true))) (some d) rest tm df h past = (d < nt ∧ wDr E P N T ⟨fu, nt, r⟩ all bs base K rest (tm.put d (.b true)) df h past) := by simp [kDVal, wPut, lt_eq, wVal]
@[go_sem] theorem kDVal_bf (fu nt : Nat) (r : Bool) (d : Nat)  (rest : List Nat) (past : List (Nat × Heap)) : kDVal E P N T ⟨fu, nt, r⟩ all bs base K (some (.val (.b false))) (some d) rest tm df h past = (d < nt ∧ wDr E P N T ⟨fu, nt, r⟩ all bs base K rest (tm.put d (.b false)) df h past) := by simp [kDVal, wPut, lt_eq, wVal]
@[go_sem] theorem kDVal_i (fu nt : Nat) (r : Bool) (d : Nat) (k : IntKind) (n : Int) (rest : List Nat) (past : List (Nat × Heap)) : kDVal E P N T ⟨fu, nt, r⟩ all bs base K (some (.val (.i k n))) (some d) rest tm df h past = (d < nt ∧ wDr E P N T ⟨fu, nt, r⟩ all bs base K rest (tm.put d (.i k n)) df h past) := by simp [kDVal, wPut, lt_eq, wVal]
@[go_sem] theorem kDVal_s (fu nt : Nat) (r : Bool) (d : Nat) (m n : Nat) (rest : List Nat) (past : List (Nat × Heap)) : kDVal E P N T ⟨fu, nt, r⟩ all bs base K (some (.val (.s m n))) (some d) rest tm df h past = (d < nt ∧ wDr E P N T ⟨fu, nt, r⟩ all bs base K rest (tm.put d (.s m n)) df h past) := by simp [kDVal, wPut, lt_eq, wVal]
@[go_sem] theorem kDVal_p0 (fu nt : Nat) (r : Bool) (d : Nat)  (rest : List Nat) (past : List (Nat × Heap)) : kDVal E P N T ⟨fu, nt, r⟩ all bs base K (some (.val (.p0))) (some d) rest tm df h past = (d < nt ∧ wDr E P N T ⟨fu, nt, r⟩ all bs base K rest (tm.put d (.p0)) df h past) := by simp [kDVal, wPut, lt_eq, wVal]
@[go_sem] theorem kDVal_p (fu nt : Nat) (r : Bool) (d : Nat) (b o : Nat) (rest : List Nat) (past : List (Nat × Heap)) : kDVal E P N T ⟨fu, nt, r⟩ all bs base K (some (.val (.p b o))) (some d) rest tm df h past = (d < nt ∧ wDr E P N T ⟨fu, nt, r⟩ all bs base K rest (tm.put d (.p b o)) df h past) := by simp [kDVal, wPut, lt_eq, wVal]
@[go_sem] theorem kDNew_p (ob : AObj) (fu nt : Nat) (r : Bool) (d i : Nat) (b o : Nat) (rest : List Nat) (past : List (Nat × Heap)) : kDNew E P N T ⟨fu, nt, r⟩ all bs base K (some (.new ob (.p b o))) (some d) i rest tm df h past = (d < nt ∧ wDr E P N T ⟨fu, nt, r⟩ all bs base K rest (tm.put d (.p b o)) df (h.set (base + i) ob) past) := by
  apply propext
  constructor
  · rintro ⟨ob', v', h1, h2⟩
    injection h1 with h1; injection h1 with h1 h3
    subst h1; subst h3
    exact ⟨(lt_eq d nt).mp h2.1, h2.2⟩
  · exact fun h => ⟨_, _, rfl, (lt_eq d nt).mpr h.1, h.2⟩
@[go_sem] theorem kDVal_gl (fu nt : Nat) (r : Bool) (d : Nat) (b o : Nat) (rest : List Nat) (past : List (Nat × Heap)) : kDVal E P N T ⟨fu, nt, r⟩ all bs base K (some (.val (.g b o))) (some d) rest tm df h past = (d < nt ∧ wDr E P N T ⟨fu, nt, r⟩ all bs base K rest (tm.put d (.g b o)) df h past) := by simp [kDVal, wPut, lt_eq, wVal]
@[go_sem] theorem kDVal_sl0 (fu nt : Nat) (r : Bool) (d : Nat)  (rest : List Nat) (past : List (Nat × Heap)) : kDVal E P N T ⟨fu, nt, r⟩ all bs base K (some (.val (.sl0))) (some d) rest tm df h past = (d < nt ∧ wDr E P N T ⟨fu, nt, r⟩ all bs base K rest (tm.put d (.sl0)) df h past) := by simp [kDVal, wPut, lt_eq, wVal]
@[go_sem] theorem kDVal_sl (fu nt : Nat) (r : Bool) (d : Nat) (b o m : Nat) (cp : Cap) (rest : List Nat) (past : List (Nat × Heap)) : kDVal E P N T ⟨fu, nt, r⟩ all bs base K (some (.val (.sl b o m cp))) (some d) rest tm df h past = (d < nt ∧ wDr E P N T ⟨fu, nt, r⟩ all bs base K rest (tm.put d (.sl b o m cp)) df h past) := by simp [kDVal, wPut, lt_eq, wVal]
@[go_sem] theorem kDNew_sl (ob : AObj) (fu nt : Nat) (r : Bool) (d i : Nat) (b o m : Nat) (cp : Cap) (rest : List Nat) (past : List (Nat × Heap)) : kDNew E P N T ⟨fu, nt, r⟩ all bs base K (some (.new ob (.sl b o m cp))) (some d) i rest tm df h past = (d < nt ∧ wDr E P N T ⟨fu, nt, r⟩ all bs base K rest (tm.put d (.sl b o m cp)) df (h.set (base + i) ob) past) := by
  apply propext
  constructor
  · rintro ⟨ob', v', h1, h2⟩
    injection h1 with h1; injection h1 with h1 h3
    subst h1; subst h3
    exact ⟨(lt_eq d nt).mp h2.1, h2.2⟩
  · exact fun h => ⟨_, _, rfl, (lt_eq d nt).mpr h.1, h.2⟩
@[go_sem] theorem kDVal_m0 (fu nt : Nat) (r : Bool) (d : Nat)  (rest : List Nat) (past : List (Nat × Heap)) : kDVal E P N T ⟨fu, nt, r⟩ all bs base K (some (.val (.m0))) (some d) rest tm df h past = (d < nt ∧ wDr E P N T ⟨fu, nt, r⟩ all bs base K rest (tm.put d (.m0)) df h past) := by simp [kDVal, wPut, lt_eq, wVal]
@[go_sem] theorem kDVal_m (fu nt : Nat) (r : Bool) (d : Nat) (b : Nat) (rest : List Nat) (past : List (Nat × Heap)) : kDVal E P N T ⟨fu, nt, r⟩ all bs base K (some (.val (.m b))) (some d) rest tm df h past = (d < nt ∧ wDr E P N T ⟨fu, nt, r⟩ all bs base K rest (tm.put d (.m b)) df h past) := by simp [kDVal, wPut, lt_eq, wVal]
@[go_sem] theorem kDNew_m (ob : AObj) (fu nt : Nat) (r : Bool) (d i : Nat) (b : Nat) (rest : List Nat) (past : List (Nat × Heap)) : kDNew E P N T ⟨fu, nt, r⟩ all bs base K (some (.new ob (.m b))) (some d) i rest tm df h past = (d < nt ∧ wDr E P N T ⟨fu, nt, r⟩ all bs base K rest (tm.put d (.m b)) df (h.set (base + i) ob) past) := by
  apply propext
  constructor
  · rintro ⟨ob', v', h1, h2⟩
    injection h1 with h1; injection h1 with h1 h3
    subst h1; subst h3
    exact ⟨(lt_eq d nt).mp h2.1, h2.2⟩
  · exact fun h => ⟨_, _, rfl, (lt_eq d nt).mpr h.1, h.2⟩
@[go_sem] theorem kDVal_f (fu nt : Nat) (r : Bool) (d : Nat) (fn : Fn) (x y : List AVal) (rest : List Nat) (past : List (Nat × Heap)) : kDVal E P N T ⟨fu, nt, r⟩ all bs base K (some (.val (.f fn x y))) (some d) rest tm df h past = (d < nt ∧ wDr E P N T ⟨fu, nt, r⟩ all bs base K rest (tm.put d (.f fn x y)) df h past) := by simp [kDVal, wPut, lt_eq, wVal]
@[go_sem] theorem kDVal_f0 (fu nt : Nat) (r : Bool) (d : Nat)  (rest : List Nat) (past : List (Nat × Heap)) : kDVal E P N T ⟨fu, nt, r⟩ all bs base K (some (.val (.f0))) (some d) rest tm df h past = (d < nt ∧ wDr E P N T ⟨fu, nt, r⟩ all bs base K rest (tm.put d (.f0)) df h past) := by simp [kDVal, wPut, lt_eq, wVal]
@[go_sem] theorem kDVal_ic (fu nt : Nat) (r : Bool) (d : Nat) (t : Nat) (v : AVal) (rest : List Nat) (past : List (Nat × Heap)) : kDVal E P N T ⟨fu, nt, r⟩ all bs base K (some (.val (.ic t v))) (some d) rest tm df h past = (d < nt ∧ wDr E P N T ⟨fu, nt, r⟩ all bs base K rest (tm.put d (.ic t v)) df h past) := by simp [kDVal, wPut, lt_eq, wVal]
@[go_sem] theorem kDVal_i0 (fu nt : Nat) (r : Bool) (d : Nat)  (rest : List Nat) (past : List (Nat × Heap)) : kDVal E P N T ⟨fu, nt, r⟩ all bs base K (some (.val (.i0))) (some d) rest tm df h past = (d < nt ∧ wDr E P N T ⟨fu, nt, r⟩ all bs base K rest (tm.put d (.i0)) df h past) := by simp [kDVal, wPut, lt_eq, wVal]
@[go_sem] theorem kDVal_agg (fu nt : Nat) (r : Bool) (d : Nat) (x : List AVal) (rest : List Nat) (past : List (Nat × Heap)) : kDVal E P N T ⟨fu, nt, r⟩ all bs base K (some (.val (.agg x))) (some d) rest tm df h past = (d < nt ∧ wDr E P N T ⟨fu, nt, r⟩ all bs base K rest (tm.put d (.agg x)) df h past) := by simp [kDVal, wPut, lt_eq, wVal]
@[go_sem] theorem kDVal_tup (fu nt : Nat) (r : Bool) (d : Nat) (x : List AVal) (rest : List Nat) (past : List (Nat × Heap)) : kDVal E P N T ⟨fu, nt, r⟩ all bs base K (some (.val (.tup x))) (some d) rest tm df h past = (d < nt ∧ wDr E P N T ⟨fu, nt, r⟩ all bs base K rest (tm.put d (.tup x)) df h past) := by simp [kDVal, wPut, lt_eq, wVal]
theorem kDVal_b (fu nt : Nat) (r : Bool) (d : Nat) (x : Bool) (rest : List Nat) (past : List (Nat × Heap)) : kDVal E P N T ⟨fu, nt, r⟩ all bs base K (some (.val (.b x))) (some d) rest tm df h past =
    (d < nt ∧ (x = true → wDr E P N T ⟨fu, nt, r⟩ all bs base K rest (tm.put d (.b true)) df h past) ∧ (x = false → wDr E P N T ⟨fu, nt, r⟩ all bs base K rest (tm.put d (.b false)) df h past)) := by simp [kDVal, wPut, lt_eq, wVal]
-- kinds
@[go_sem] theorem kd_go (d : Option Nat) (op : Op) (ty : Nat) (p : String) (e : Array Edge) (g : Option (Nat × Bool)) : kd E ⟨d, op, ty, p, e, g⟩ = kdT E op := rfl
@[go_sem] theorem kd_move (x : Operand) : kdT E (.move x) = .pure := rfl
@[go_sem] theorem kd_assign (x : Operand) : kdT E (.assign x) = .pure := rfl
@[go_sem] theorem kd_pick (x y z : Operand) : kdT E (.pick x y z) = .pure := rfl
@[go_sem] theorem kd_alloc (t : Nat) : kdT E (.alloc t) = .new := rfl
@[go_sem] theorem kd_box (t : Nat) (x : Operand) : kdT E (.box t x) = .new := rfl
@[go_sem] theorem kd_build (t : Nat) (l : Array (Nat × Operand)) : kdT E (.build t l) = .pure := rfl
@[go_sem] theorem kd_buildSl (t n : Nat) (l : Array (Nat × Operand)) : kdT E (.buildSlice t n l) = .new := rfl
@[go_sem] theorem kd_load (t : Nat) (x : Operand) : kdT E (.load t x) = .read := rfl
@[go_sem] theorem kd_store (t : Nat) (x y : Operand) : kdT E (.store t x y) = .eff := rfl
@[go_sem] theorem kd_nil (x : Operand) : kdT E (.nilCheck x) = .pure := rfl
@[go_sem] theorem kd_bin (op : BinOp) (t u : Nat) (x y : Operand) : kdT E (.binOp op t x y u) = .pure := rfl
@[go_sem] theorem kd_un (op : UnOp) (t : Nat) (x : Operand) : kdT E (.unOp op t x) = .pure := rfl
@[go_sem] theorem kd_conv (s d : Nat) (x : Operand) : kdT E (.convert s d x) = kdConv E s d x := rfl
@[go_sem] theorem kd_makeFunc (fn : Fn) (a b : Array Operand) : kdT E (.makeFunc fn a b) = .pure := rfl
@[go_sem] theorem kd_makeMap (t : Nat) (x : Option Operand) : kdT E (.makeMap t x) = .new := rfl
@[go_sem] theorem kd_makeSl (t : Nat) (x y : Operand) : kdT E (.makeSlice t x y) = .new := rfl
@[go_sem] theorem kd_slice (t : Nat) (x : Operand) (a b d : Option Operand) : kdT E (.slice t x a b d) = .pure := rfl
@[go_sem] theorem kd_fieldAddr (t : Nat) (x : Operand) (f : Nat) : kdT E (.fieldAddr t x f) = .pure := rfl
@[go_sem] theorem kd_field (t : Nat) (x : Operand) (f : Nat) : kdT E (.field t x f) = .pure := rfl
@[go_sem] theorem kd_indexAddr (t : Nat) (x i : Operand) : kdT E (.indexAddr t x i) = .pure := rfl
@[go_sem] theorem kd_index (t : Nat) (x i : Operand) : kdT E (.index t x i) = .pure := rfl
@[go_sem] theorem kd_lookup (t : Nat) (x i : Operand) (b : Bool) : kdT E (.lookup t x i b) = .read := rfl
@[go_sem] theorem kd_extract (x : Operand) (i : Nat) : kdT E (.extract x i) = .pure := rfl
@[go_sem] theorem kd_call (f : Operand) (l : Array Operand) (ts : Array Nat) : kdT E (.call ⟨.value f, l, ts⟩) = .eff := rfl
@[go_sem] theorem kd_len (l : Array Operand) (ts : Array Nat) : kdT E (.call ⟨.builtin .len, l, ts⟩) = .read := rfl
@[go_sem] theorem kd_append (l : Array Operand) (ts : Array Nat) : kdT E (.call ⟨.builtin .append, l, ts⟩) = .eff := rfl
@[go_sem] theorem kd_copy (l : Array Operand) (ts : Array Nat) : kdT E (.call ⟨.builtin .copy, l, ts⟩) = .eff := rfl
@[go_sem] theorem kd_max (l : Array Operand) (ts : Array Nat) : kdT E (.call ⟨.builtin .max, l, ts⟩) = .pure := rfl
@[go_sem] theorem kd_min (l : Array Operand) (ts : Array Nat) : kdT E (.call ⟨.builtin .min, l, ts⟩) = .pure := rfl
-- the same operations without a frame
@[go_sem] theorem t_move (x : Operand) (n : Nat) : execT (.move x) E h n tm = ob (opd x tm) fun v => some (.val v) := rfl
@[go_sem] theorem t_assign (x : Operand) (n : Nat) : execT (.assign x) E h n tm = ob (opd x tm) fun v => some (.val v) := rfl
@[go_sem] theorem t_pick (x y z : Operand) (n : Nat) : execT (.pick x y z) E h n tm = ob (opd x tm) fun v => ob (asB v) fun b => ob (opd (ife b y z) tm) fun v => some (.val v) := rfl
@[go_sem] theorem t_bin (op : BinOp) (t u : Nat) (x y : Operand) (n : Nat) : execT (.binOp op t x y u) E h n tm = ob (opd x tm) fun a => ob (opd y tm) fun b => ob (binV E op t (isConst x) (isConst y) a b) fun v => some (.val v) := rfl
@[go_sem] theorem t_un (op : UnOp) (t : Nat) (x : Operand) (n : Nat) : execT (.unOp op t x) E h n tm = ob (opd x tm) fun a => ob (unV op a) fun v => some (.val v) := rfl
@[go_sem] theorem t_conv (s d : Nat) (x : Operand) (n : Nat) : execT (.convert s d x) E h n tm = xConv s d x E h n tm := rfl
@[go_sem] theorem t_extract (x : Operand) (i n : Nat) : execT (.extract x i) E h n tm = ob (opd x tm) fun x => ob (asTup x) fun l => ob (nth l i) fun v => some (.val v) := rfl
@[go_sem] theorem t_load (t : Nat) (a : Operand) (n : Nat) : execT (.load t a) E h n tm = ob (opd a tm) fun a => ob (E.ty t) fun ti => ob (ldVar E h ti a) fun v => some (.val v) := rfl
@[go_sem] theorem t_nil (x : Operand) (n : Nat) : execT (.nilCheck x) E h n tm = ob (opd x tm) fun v => chk (notNil v) (some (.val v)) := rfl
@[go_sem] theorem t_alloc (t n : Nat) : execT (.alloc t) E h n tm = ob (zeroOf E t) fun z => ob (mkRow E t (cellsV z)) fun o => some (.new o (.p n 0)) := rfl
@[go_sem] theorem t_box (t : Nat) (x : Operand) (n : Nat) : execT (.box t x) E h n tm = ob (opd x tm) fun v => ob (mkRow E t (cellsV v)) fun o => some (.new o (.p n 0)) := rfl
@[go_sem] theorem t_build (t : Nat) (l : List (Nat × Operand)) (n : Nat) : execT (.build t ⟨l⟩) E h n tm = ob (mapP l tm) fun ps => ob (buildV E t ps) fun v => some (.val v) := rfl
@[go_sem] theorem t_fieldAddr (t : Nat) (x : Operand) (f n : Nat) : execT (.fieldAddr t x f) E h n tm = ob (opd x tm) fun x => ob (fieldAd E t x f) fun v => some (.val v) := rfl
@[go_sem] theorem t_field (t : Nat) (x : Operand) (f n : Nat) : execT (.field t x f) E h n tm = ob (opd x tm) fun x => ob (fieldV E t x f) fun v => some (.val v) := rfl
@[go_sem] theorem t_indexAddr (t : Nat) (x i : Operand) (n : Nat) : execT (.indexAddr t x i) E h n tm = ob (opd x tm) fun x => ob (opd i tm) fun i => ob (indexAd E t x i) fun v => some (.val v) := rfl
@[go_sem] theorem t_index (t : Nat) (x i : Operand) (n : Nat) : execT (.index t x i) E h n tm = ob (opd x tm) fun x => ob (opd i tm) fun i => ob (indexV E t x i) fun v => some (.val v) := rfl
@[go_sem] theorem t_makeSlice (t : Nat) (l k : Operand) (n : Nat) : execT (.makeSlice t l k) E h n tm = ob (opd l tm) fun l => ob (opd k tm) fun k => makeSl E t l k n := rfl
@[go_sem] theorem t_len (l : List Operand) (ts : List Nat) (n : Nat) : execT (.call ⟨.builtin .len, ⟨l⟩, ⟨ts⟩⟩) E h n tm = ob (opds l tm) fun args => bLen E h ts args := rfl
-- the temporaries that are named
def kPick (v : Option AVal) (t : Nat) (r : List (Nat × AVal)) : List (Nat × AVal) := match v with | some v => (t, v) :: r | none => r
@[go_sem] theorem kPick_s (v : AVal) (t : Nat) (r : List (Nat × AVal)) : kPick (some v) t r = (t, v) :: r := rfl
@[go_sem] theorem kPick_n (t : Nat) (r : List (Nat × AVal)) : kPick none t r = r := rfl
@[go_sem] theorem pickT_nil : pickT tm [] = [] := rfl
@[go_sem] theorem pickT_go (t : Nat) (l : List Nat) : pickT tm (t :: l) = kPick (tm.get t) t (pickT tm l) := by
  show Option.rec (motive := fun _ => List (Nat × AVal)) (pickT tm l) (fun v => (t, v) :: pickT tm l) (tm.get t) = _
  cases tm.get t <;> rfl
noncomputable def nameL (l : List Operand) : List Nat := List.rec (motive := fun _ => List Nat) [] (fun x _ ih => tmpsOf ih x) l
@[go_sem] theorem named_go (d : Option Nat) (op : Op) (ty : Nat) (p : String) (e : Array Edge) (g : Option (Nat × Bool)) : named ⟨d, op, ty, p, e, g⟩ tm = ⟨0, .e, pickT tm (nameL op.operands.toList)⟩ := rfl
@[go_sem] theorem nameL_nil : nameL [] = [] := rfl
@[go_sem] theorem nameL_t (k : Nat) (l : List Operand) : nameL (.tmp k :: l) = k :: nameL l := rfl
@[go_sem] theorem nameL_c (v : Value) (l : List Operand) : nameL (.const v :: l) = nameL l := rfl
@[go_sem] theorem nameL_g (k : Nat) (l : List Operand) : nameL (.global k :: l) = nameL l := rfl
@[go_sem] theorem nameL_f (k : Nat) (l : List Operand) : nameL (.func k :: l) = nameL l := rfl
@[go_sem] theorem readsSame_n (o : Op) (v : AVal) (m : Nat) : readsSame E tm o v m [] = true := rfl
noncomputable def kSame (b : Bool) (o : Option AVal) (v : AVal) (r : Bool) : Bool := ife b r (ife (Option.rec (motive := fun _ => Bool) false (fun u => sameV v u) o) r false)
@[go_sem] theorem readsSame_c (o : Op) (v : AVal) (m i : Nat) (h' : Heap) (hs : List (Nat × Heap)) : readsSame E tm o v m ((i, h') :: hs) = kSame (bit m i) (ob (execT o E h' h'.next tm) asVal) v (readsSame E tm o v m hs) := rfl
@[go_sem] theorem asVal_v (v : AVal) : asVal (.val v) = some v := rfl
@[go_sem] theorem kSame_t (o : Option AVal) (v : AVal) (r : Bool) : kSame true o v r = r := rfl
theorem sameV_i (k : IntKind) (n : Int) : sameV (.i k n) (.i k n) = true := by
  show ife (kEq k k) (eqI n n) false = true
  rw [kEq_self, eqI_eq]; simp [ife_t]
@[go_sem] theorem kSame_i (k : IntKind) (n : Int) (r : Bool) : kSame false (some (.i k n)) (.i k n) r = r := by
  show ife (sameV (.i k n) (.i k n)) r false = r
  rw [sameV_i]; rfl
@[go_sem] theorem cleanAt_nil (g : Tr AObj) : cleanAt base g [] = true := rfl
def kClean (o : Option AObj) (r : Bool) : Bool := match o with | some _ => false | none => r
@[go_sem] theorem kClean_n (r : Bool) : kClean none r = r := rfl
@[go_sem] theorem cleanAt_go (h : Heap) (j : Nat) (l : List Nat) : cleanAt base h.bl (j :: l) = kClean (h.get (base + j)) (cleanAt base h.bl l) := by
  show Option.rec (motive := fun _ => Bool) (cleanAt base h.bl l) (fun _ => false) (h.bl.get (base + j)) = _
  show _ = kClean (h.bl.get (base + j)) _
  cases h.bl.get (base + j) <;> rfl
@[go_sem] theorem bit_go (m k : Nat) : bit m k = decide (m / 2 ^ k % 2 = 1) := by
  unfold bit
  rw [show Nat.shiftRight m k = m / 2 ^ k from Nat.shiftRight_eq_div_pow m k, Bool.eq_iff_iff, decide_eq_true_iff]
  exact ⟨fun h => beq_true h, fun h => by show Nat.beq (m / 2 ^ k % 2) 1 = true; rw [h]; rfl⟩
end
end
end Go.Abs
