/- A part of a proof about Go functions of this program: an evaluator with a memory of its own, and the proof that what it finds the model finds (Q5). No conditions beyond those that each theorem names. -/
import Derived.Test.YtohmkigjifhddaaGreatDoorAbsap
set_option linter.all false
set_option autoImplicit false
set_option linter.unusedSimpArgs false
namespace Go.Abs
variable {E : Env} {P : Program} {N : Nat} {T : Nat → List AVal → Option AVal} {c : FC}
/-! what holds behind a code: less may be asked; a number may be found behind it -/
theorem wVal_mono {v : AVal} {K K' : AVal → Prop} (hk : ∀ v, K v → K' v) (h : wVal v K) : wVal v K' := by
  cases v with
  | b x => exact ⟨fun e => hk _ (h.1 e), fun e => hk _ (h.2 e)⟩
  | _ => exact hk _ h
theorem wPut_mono {d : Option Nat} {v : AVal} {tm : Tm} {K K' : Tm → Prop} (hk : ∀ t, K t → K' t) (h : wPut c d v tm K) : wPut c d v tm K' := by
  cases d with
  | none => exact hk _ h
  | some d => exact ⟨h.1, wVal_mono (fun v => hk _) h.2⟩
theorem wNx_mono {df : List ADef} {h : Heap} {K K' : AVal → List ADef → Heap → Prop} (hk : ∀ v df h, K v df h → K' v df h) {x : Nx} (hx : wNx E P N T df h K x) : wNx E P N T df h K' x := by
  cases x with
  | enter f args =>
    have hx : (match T f args with | some v => K v df h | none => ∃ q, CallOK E P N f args h q ∧ K q.v df q.h) := hx
    show (match T f args with | some v => K' v df h | none => ∃ q, CallOK E P N f args h q ∧ K' q.v df q.h)
    cases ht : T f args with
    | some v => rw [ht] at hx; exact hk _ _ _ hx
    | none => rw [ht] at hx; obtain ⟨q, h1, h2⟩ := hx; exact ⟨q, h1, hk _ _ _ h2⟩
  | round l args => obtain ⟨q, h1, h2⟩ := hx; exact ⟨q, h1, hk _ _ _ h2⟩
  | _ => exact hk _ _ _ hx
theorem wOps_mono {all : List Oper} {K K' : KS} (hk : ∀ tm df h, K tm df h → K' tm df h) : ∀ (l : List Oper) (tm : Tm) (df : List ADef) (h : Heap), wOps E P N T c all K l tm df h → wOps E P N T c all K' l tm df h
  | [], tm, df, h, hw => hk _ _ _ hw
  | o :: l, tm, df, h, hw => by
    obtain ⟨w, h1, h2, h3⟩ := hw
    refine ⟨w, h1, fun e => ?_, fun e => wPut_mono (fun t => wOps_mono hk l t df h) (h3 e)⟩
    obtain ⟨x, h4, h5⟩ := h2 e
    exact ⟨x, h4, wNx_mono (fun v df h => wPut_mono (fun t => wOps_mono hk l t df h)) h5⟩
theorem wDr_mono {all : List Oper} {bs : List Nat} {base : Nat} {K K' : KS} (hk : ∀ tm df h, K tm df h → K' tm df h) : ∀ (l : List Nat) (tm : Tm) (df : List ADef) (h : Heap) (past : List (Nat × Heap)), wDr E P N T c all bs base K l tm df h past → wDr E P N T c all bs base K' l tm df h past
  | [], tm, df, h, past, hw => hk _ _ _ hw
  | i :: l, tm, df, h, past, hw => by
    obtain ⟨o, m, w, h1, h2, h3, h4, h5⟩ := hw
    refine ⟨o, m, w, h1, h2, h3, fun e => ?_, fun e => ⟨(h5 e).1, wPut_mono (fun t => wDr_mono hk l t df h _) (h5 e).2⟩⟩
    have h4 := h4 e
    cases hkd : kd E o with
    | pure => rw [hkd] at h4; obtain ⟨v, q1, q2⟩ := h4; exact ⟨v, q1, wPut_mono (fun t => wDr_mono hk l t df h _) q2⟩
    | read => rw [hkd] at h4; obtain ⟨v, q1, q2, q3⟩ := h4; exact ⟨v, q1, q2, wPut_mono (fun t => wDr_mono hk l t df h _) q3⟩
    | new => rw [hkd] at h4; obtain ⟨ob, v, q1, q2⟩ := h4; exact ⟨ob, v, q1, wPut_mono (fun t => wDr_mono hk l t df _ _) q2⟩
    | eff => rw [hkd] at h4; obtain ⟨x, q1, q2⟩ := h4; exact ⟨x, q1, wNx_mono (fun v df h ⟨a, b⟩ => ⟨a, wPut_mono (fun t => wDr_mono hk l t df h _) b⟩) q2⟩
theorem wLoop_mono {B : (Ex → KS) → KS} (hB : ∀ {K K' : Ex → KS}, (∀ e tm df h, K e tm df h → K' e tm df h) → ∀ tm df h, B K tm df h → B K' tm df h) {K K' : Ex → KS} (hk : ∀ e tm df h, K e tm df h → K' e tm df h) : ∀ (n : Nat) (tm : Tm) (df : List ADef) (h : Heap), wLoop B K n tm df h → wLoop B K' n tm df h
  | 0, _, _, _, hw => hw.elim
  | n + 1, tm, df, h, hw => by
    refine hB (fun e tm df h hh => ?_) tm df h hw
    cases e with
    | normal => exact wLoop_mono hB hk n tm df h hh
    | exit i => exact hk _ _ _ _ hh
    | goto i => exact hk _ _ _ _ hh
    | ret => exact hk _ _ _ _ hh
theorem wCode_mono : ∀ (x : Code) {K K' : Ex → KS}, (∀ e tm df h, K e tm df h → K' e tm df h) → ∀ tm df h, wCode E P N T c x K tm df h → wCode E P N T c x K' tm df h := by
  intro x
  induction x with
  | region id ops draw =>
    intro K K' hk tm df h hw
    cases draw with
    | true => obtain ⟨p, h1, h2⟩ := hw; exact ⟨p, h1, wDr_mono (hk _) _ _ _ _ _ h2⟩
    | false => exact wOps_mono (hk _) _ _ _ _ hw
  | seq a b iha ihb =>
    intro K K' hk tm df h hw
    refine iha (fun e tm df h hh => ?_) tm df h hw
    cases e with
    | normal => exact ihb hk tm df h hh
    | exit i => exact hk _ _ _ _ hh
    | goto i => exact hk _ _ _ _ hh
    | ret => exact hk _ _ _ _ hh
  | cond o a b iha ihb =>
    intro K K' hk tm df h hw
    obtain ⟨v, h1, t, h2, h3, h4⟩ := hw
    exact ⟨v, h1, t, h2, fun e => iha hk _ _ _ (h3 e), fun e => ihb hk _ _ _ (h4 e)⟩
  | block id b ih =>
    intro K K' hk tm df h hw
    refine ih (fun e tm df h hh => ?_) tm df h hw
    cases e with
    | exit i =>
      have hh : (if i = id then K .normal tm df h else K (.exit i) tm df h) := hh
      show (if i = id then K' .normal tm df h else K' (.exit i) tm df h)
      split at hh
      · next hi => rw [if_pos hi]; exact hk _ _ _ _ hh
      · next hi => rw [if_neg hi]; exact hk _ _ _ _ hh
    | normal => exact hk _ _ _ _ hh
    | goto i => exact hk _ _ _ _ hh
    | ret => exact hk _ _ _ _ hh
  | loop b ih =>
    intro K K' hk tm df h hw
    obtain ⟨n, hn⟩ := hw
    exact ⟨n, wLoop_mono (fun hk => ih hk) hk n tm df h hn⟩
  | rangeFunc f ps asg b iha ihb =>
    intro K K' hk tm df h hw
    obtain ⟨r, q, h1, h2, h3⟩ := hw
    exact ⟨r, q, h1, h2, hk _ _ _ _ h3⟩
  | scope b ih =>
    intro K K' hk tm df h hw
    refine ih (fun e tm df h hh => ?_) tm df h hw
    cases e with
    | goto l =>
      have hh : (match findLabel b l with | some rest => ∃ q, CodeOK E P N [.code rest, .inScope b] c ⟨tm, df, h⟩ q ∧ K q.e q.s.tm q.s.df q.s.h | none => K (.goto l) tm df h) := hh
      show (match findLabel b l with | some rest => ∃ q, CodeOK E P N [.code rest, .inScope b] c ⟨tm, df, h⟩ q ∧ K' q.e q.s.tm q.s.df q.s.h | none => K' (.goto l) tm df h)
      cases hf : findLabel b l with
      | some rest => rw [hf] at hh; obtain ⟨q, h1, h2⟩ := hh; exact ⟨q, h1, hk _ _ _ _ h2⟩
      | none => rw [hf] at hh; exact hk _ _ _ _ hh
    | normal => exact hk _ _ _ _ hh
    | exit i => exact hk _ _ _ _ hh
    | ret => exact hk _ _ _ _ hh
  | refuse w => intro K K' hk tm df h hw; exact hw.elim
  | skip => intro K K' hk tm df h hw; exact hk _ _ _ _ hw
  | exit i => intro K K' hk tm df h hw; exact hk _ _ _ _ hw
  | label i => intro K K' hk tm df h hw; exact hk _ _ _ _ hw
  | goto i => intro K K' hk tm df h hw; exact hk _ _ _ _ hw
  | ret => intro K K' hk tm df h hw; exact hk _ _ _ _ hw
/-! a number is found -/
section
variable {ι : Type}
theorem wVal_ex [Nonempty ι] {v : AVal} {K : ι → AVal → Prop} (h : wVal v fun v => ∃ n, K n v) : ∃ n, wVal v (K n) := by
  cases v with
  | b x =>
    cases x with
    | true => obtain ⟨n, hn⟩ := h.1 rfl; exact ⟨n, fun _ => hn, fun e => by cases e⟩
    | false => obtain ⟨n, hn⟩ := h.2 rfl; exact ⟨n, (fun e => by cases e), fun _ => hn⟩
  | _ => exact h
theorem wPut_ex [Nonempty ι] {d : Option Nat} {v : AVal} {tm : Tm} {K : ι → Tm → Prop} (h : wPut c d v tm fun t => ∃ n, K n t) : ∃ n, wPut c d v tm (K n) := by
  cases d with
  | none => exact h
  | some d =>
    obtain ⟨n, hn⟩ := wVal_ex (K := fun n v => K n (tm.put d v)) h.2
    exact ⟨n, h.1, hn⟩
theorem wNx_ex {df : List ADef} {h : Heap} {K : ι → AVal → List ADef → Heap → Prop} {x : Nx} (hx : wNx E P N T df h (fun v df h => ∃ n, K n v df h) x) : ∃ n, wNx E P N T df h (K n) x := by
  cases x with
  | enter f args =>
    have hx : (match T f args with | some v => ∃ n, K n v df h | none => ∃ q, CallOK E P N f args h q ∧ ∃ n, K n q.v df q.h) := hx
    show ∃ n, (match T f args with | some v => K n v df h | none => ∃ q, CallOK E P N f args h q ∧ K n q.v df q.h)
    cases ht : T f args with
    | some v => rw [ht] at hx; exact hx
    | none => rw [ht] at hx; obtain ⟨q, h1, n, h2⟩ := hx; exact ⟨n, q, h1, h2⟩
  | round l args => obtain ⟨q, h1, n, h2⟩ := hx; exact ⟨n, q, h1, h2⟩
  | _ => exact hx
theorem wOps_ex [Nonempty ι] {all : List Oper} {K : ι → KS} : ∀ (l : List Oper) (tm : Tm) (df : List ADef) (h : Heap), wOps E P N T c all (fun tm df h => ∃ n, K n tm df h) l tm df h → ∃ n, wOps E P N T c all (K n) l tm df h
  | [], tm, df, h, hw => hw
  | o :: l, tm, df, h, hw => by
    obtain ⟨w, h1, h2, h3⟩ := hw
    cases w with
    | true =>
      obtain ⟨x, h4, h5⟩ := h2 rfl
      obtain ⟨n, hn⟩ := wNx_ex (K := fun n v df h => wPut c o.dst v tm fun t => wOps E P N T c all (K n) l t df h) (wNx_mono (fun v df h hh => wPut_ex (K := fun n t => wOps E P N T c all (K n) l t df h) (wPut_mono (fun t => wOps_ex l t df h) hh)) h5)
      exact ⟨n, true, h1, fun _ => ⟨x, h4, hn⟩, fun e => by cases e⟩
    | false =>
      obtain ⟨n, hn⟩ := wPut_ex (K := fun n t => wOps E P N T c all (K n) l t df h) (wPut_mono (fun t => wOps_ex l t df h) (h3 rfl))
      exact ⟨n, false, h1, (fun e => by cases e), fun _ => hn⟩
theorem wDr_ex [Nonempty ι] {all : List Oper} {bs : List Nat} {base : Nat} {K : ι → KS} : ∀ (l : List Nat) (tm : Tm) (df : List ADef) (h : Heap) (past : List (Nat × Heap)), wDr E P N T c all bs base (fun tm df h => ∃ n, K n tm df h) l tm df h past → ∃ n, wDr E P N T c all bs base (K n) l tm df h past
  | [], tm, df, h, past, hw => hw
  | i :: l, tm, df, h, past, hw => by
    obtain ⟨o, m, w, h1, h2, h3, h4, h5⟩ := hw
    have put : ∀ {v : AVal} {df : List ADef} {h : Heap} {past : List (Nat × Heap)}, (wPut c o.dst v tm fun t => wDr E P N T c all bs base (fun tm df h => ∃ n, K n tm df h) l t df h past) → ∃ n, wPut c o.dst v tm fun t => wDr E P N T c all bs base (K n) l t df h past :=
      fun {v df h past} hh => wPut_ex (K := fun n t => wDr E P N T c all bs base (K n) l t df h past) (wPut_mono (fun t => wDr_ex l t df h past) hh)
    cases w with
    | true =>
      have h4 := h4 rfl
      cases hkd : kd E o with
      | pure =>
        rw [hkd] at h4; obtain ⟨v, q1, q2⟩ := h4; obtain ⟨n, hn⟩ := put q2
        exact ⟨n, o, m, true, h1, h2, h3, fun _ => by rw [hkd]; exact ⟨v, q1, hn⟩, fun e => by cases e⟩
      | read =>
        rw [hkd] at h4; obtain ⟨v, q1, q2, q3⟩ := h4; obtain ⟨n, hn⟩ := put q3
        exact ⟨n, o, m, true, h1, h2, h3, fun _ => by rw [hkd]; exact ⟨v, q1, q2, hn⟩, fun e => by cases e⟩
      | new =>
        rw [hkd] at h4; obtain ⟨ob, v, q1, q2⟩ := h4; obtain ⟨n, hn⟩ := put q2
        exact ⟨n, o, m, true, h1, h2, h3, fun _ => by rw [hkd]; exact ⟨ob, v, q1, hn⟩, fun e => by cases e⟩
      | eff =>
        rw [hkd] at h4; obtain ⟨x, q1, q2⟩ := h4
        obtain ⟨n, hn⟩ := wNx_ex (K := fun n v df h' => cleanAt base h'.bl l = true ∧ wPut c o.dst v tm fun t => wDr E P N T c all bs base (K n) l t df h' ((i, h) :: past)) (wNx_mono (fun v df h' ⟨a, b⟩ => let ⟨n, hn⟩ := put b; ⟨n, a, hn⟩) q2)
        exact ⟨n, o, m, true, h1, h2, h3, fun _ => by rw [hkd]; exact ⟨x, q1, hn⟩, fun e => by cases e⟩
    | false =>
      obtain ⟨n, hn⟩ := put (h5 rfl).2
      exact ⟨n, o, m, false, h1, h2, h3, fun e => (by cases e), fun _ => ⟨(h5 rfl).1, hn⟩⟩
theorem wLoop_ex [Nonempty ι] {B : (Ex → KS) → KS} (hB : ∀ {K K' : Ex → KS}, (∀ e tm df h, K e tm df h → K' e tm df h) → ∀ tm df h, B K tm df h → B K' tm df h) (hE : ∀ {K : ι → Ex → KS} (tm df h), B (fun e tm df h => ∃ n, K n e tm df h) tm df h → ∃ n, B (K n) tm df h) {K : ι → Ex → KS} :
    ∀ (m : Nat) (tm : Tm) (df : List ADef) (h : Heap), wLoop B (fun e tm df h => ∃ n, K n e tm df h) m tm df h → ∃ n, wLoop B (K n) m tm df h
  | 0, _, _, _, hw => hw.elim
  | m + 1, tm, df, h, hw => by
    refine hE (K := fun n e tm df h => match e with | .normal => wLoop B (K n) m tm df h | e => K n e tm df h) tm df h (hB (fun e tm df h hh => ?_) tm df h hw)
    cases e with
    | normal => exact wLoop_ex hB hE m tm df h hh
    | exit i => exact hh
    | goto i => exact hh
    | ret => exact hh
theorem wCode_ex [Nonempty ι] : ∀ (x : Code) {K : ι → Ex → KS} (tm : Tm) (df : List ADef) (h : Heap), wCode E P N T c x (fun e tm df h => ∃ n, K n e tm df h) tm df h → ∃ n, wCode E P N T c x (K n) tm df h := by
  intro x
  induction x with
  | region id ops draw =>
    intro K tm df h hw
    cases draw with
    | true => obtain ⟨p, h1, h2⟩ := hw; obtain ⟨n, hn⟩ := wDr_ex (K := fun n => K n .normal) _ _ _ _ _ h2; exact ⟨n, p, h1, hn⟩
    | false => exact wOps_ex (K := fun n => K n .normal) _ _ _ _ hw
  | seq a b iha ihb =>
    intro K tm df h hw
    refine iha (K := fun n => wThen (wCode E P N T c b (K n)) (K n)) tm df h (wCode_mono a (fun e tm df h hh => ?_) tm df h hw)
    cases e with
    | normal => exact ihb tm df h hh
    | exit i => exact hh
    | goto i => exact hh
    | ret => exact hh
  | cond o a b iha ihb =>
    intro K tm df h hw
    obtain ⟨v, h1, t, h2, h3, h4⟩ := hw
    cases t with
    | true => obtain ⟨n, hn⟩ := iha _ _ _ (h3 rfl); exact ⟨n, v, h1, true, h2, fun _ => hn, fun e => by cases e⟩
    | false => obtain ⟨n, hn⟩ := ihb _ _ _ (h4 rfl); exact ⟨n, v, h1, false, h2, (fun e => by cases e), fun _ => hn⟩
  | block id b ih =>
    intro K tm df h hw
    refine ih (K := fun n => wBlock id (K n)) tm df h (wCode_mono b (fun e tm df h hh => ?_) tm df h hw)
    cases e with
    | exit i =>
      have hh : (if i = id then ∃ n, K n .normal tm df h else ∃ n, K n (.exit i) tm df h) := hh
      show ∃ n, (if i = id then K n .normal tm df h else K n (.exit i) tm df h)
      split at hh
      · next hi => obtain ⟨n, hn⟩ := hh; exact ⟨n, by rw [if_pos hi]; exact hn⟩
      · next hi => obtain ⟨n, hn⟩ := hh; exact ⟨n, by rw [if_neg hi]; exact hn⟩
    | normal => exact hh
    | goto i => exact hh
    | ret => exact hh
  | loop b ih =>
    intro K tm df h hw
    obtain ⟨m, hm⟩ := hw
    obtain ⟨n, hn⟩ := wLoop_ex (fun hk => wCode_mono b hk) (fun tm df h => ih tm df h) m tm df h hm
    exact ⟨n, m, hn⟩
  | rangeFunc f ps asg b iha ihb =>
    intro K tm df h hw
    obtain ⟨r, q, h1, h2, n, h3⟩ := hw
    exact ⟨n, r, q, h1, h2, h3⟩
  | scope b ih =>
    intro K tm df h hw
    refine ih (K := fun n => wScope E P N c b (K n)) tm df h (wCode_mono b (fun e tm df h hh => ?_) tm df h hw)
    cases e with
    | goto l =>
      have hh : (match findLabel b l with | some rest => ∃ q, CodeOK E P N [.code rest, .inScope b] c ⟨tm, df, h⟩ q ∧ ∃ n, K n q.e q.s.tm q.s.df q.s.h | none => ∃ n, K n (.goto l) tm df h) := hh
      show ∃ n, (match findLabel b l with | some rest => ∃ q, CodeOK E P N [.code rest, .inScope b] c ⟨tm, df, h⟩ q ∧ K n q.e q.s.tm q.s.df q.s.h | none => K n (.goto l) tm df h)
      cases hf : findLabel b l with
      | some rest => rw [hf] at hh; obtain ⟨q, h1, n, h2⟩ := hh; exact ⟨n, q, h1, h2⟩
      | none => rw [hf] at hh; exact hh
    | normal => exact hh
    | exit i => exact hh
    | ret => exact hh
  | refuse w => intro K tm df h hw; exact hw.elim
  | skip => intro K tm df h hw; exact hw
  | exit i => intro K tm df h hw; exact hw
  | label i => intro K tm df h hw; exact hw
  | goto i => intro K tm df h hw; exact hw
  | ret => intro K tm df h hw; exact hw
end
def wBack (E : Env) (P : Program) (N : Nat) (T : Nat → List AVal → Option AVal) (c : FC) (b : Code) (K : Ex → KS) : Ex → KS := fun e tm df h => match e with | .normal => wCode E P N T c (.loop b) K tm df h | e => K e tm df h
section
variable {tm : Tm} {df : List ADef} {h : Heap}
theorem w_loop (b : Code) (K : Ex → KS) : wCode E P N T c (.loop b) K tm df h = wCode E P N T c b (wBack E P N T c b K) tm df h := by
  apply propext
  constructor
  · rintro ⟨n, hn⟩
    cases n with
    | zero => exact hn.elim
    | succ n =>
      refine wCode_mono b (fun e tm df h hh => ?_) tm df h hn
      cases e with
      | normal => exact ⟨n, hh⟩
      | exit i => exact hh
      | goto i => exact hh
      | ret => exact hh
  · intro hw
    obtain ⟨n, hn⟩ := wCode_ex (K := fun n e tm df h => match e with | .normal => wLoop (wCode E P N T c b) K n tm df h | e => K e tm df h) b tm df h (wCode_mono b (fun e tm df h hh => by
      cases e with
      | normal => exact hh
      | exit i => exact ⟨0, hh⟩
      | goto i => exact ⟨0, hh⟩
      | ret => exact ⟨0, hh⟩) tm df h hw)
    exact ⟨n + 1, hn⟩
@[go_sem] theorem wBack_n (b : Code) (K : Ex → KS) : wBack E P N T c b K .normal tm df h = wCode E P N T c (.loop b) K tm df h := rfl
@[go_sem] theorem wBack_x (b : Code) (K : Ex → KS) (i : Nat) : wBack E P N T c b K (.exit i) tm df h = K (.exit i) tm df h := rfl
@[go_sem] theorem wBack_g (b : Code) (K : Ex → KS) (i : Nat) : wBack E P N T c b K (.goto i) tm df h = K (.goto i) tm df h := rfl
@[go_sem] theorem wBack_r (b : Code) (K : Ex → KS) : wBack E P N T c b K .ret tm df h = K .ret tm df h := rfl
end
/-! a call that is run by the kernel -/
noncomputable def isV (r : Option CR) (v : AVal) : Bool := Option.rec (motive := fun _ => Bool) false (fun q => CR.rec (motive := fun _ => Bool) (fun u _ => sameV u v) q) r
theorem isV_true {r : Option CR} {v : AVal} (h : isV r v = true) : ∃ m, r = some ⟨v, m⟩ := by
  cases r with
  | none => cases h
  | some q =>
    obtain ⟨u, m⟩ := q
    exact ⟨m, by rw [sameV_true (show sameV u v = true from h)]⟩
theorem wrap64 {x : Int} (h1 : -9223372036854775808 ≤ x) (h2 : x ≤ 9223372036854775807) : IntKind.wrap .i64 x = x := by
  simp only [IntKind.wrap, IntKind.bits, IntKind.signed]; simp; omega
end Go.Abs
