/- A part of a proof about Go functions of this program: an evaluator with a memory of its own, and the proof that what it finds the model finds (C43, C44). No conditions beyond those that each theorem names. -/
import Derived.Test.YtohmkigjifhddaaGreatDoorAbsal
import Derived.Below
set_option linter.all false
set_option autoImplicit false
set_option linter.unusedSimpArgs false
set_option linter.unusedSectionVars false
namespace Go.Abs
/-! a calculus over the evaluator's memory: what holds behind a code -/
abbrev KS := Tm → List ADef → Heap → Prop
section
variable (E : Env) (P : Program) (N : Nat) (T : Nat → List AVal → Option AVal)
def wNx (df : List ADef) (h : Heap) (K : AVal → List ADef → Heap → Prop) : Nx → Prop
  | .val v => K v df h
  | .new o v => K v df (h.new o)
  | .eff v h' => K v df h'
  | .enter f args => (match T f args with | some v => K v df h | none => ∃ q, CallOK E P N f args h q ∧ K q.v df q.h)
  | .round l args => ∃ q, RoundOK E P N l args h q ∧ K q.v df q.h
  | .defer v => K undefA (.fn v :: df) h
/-- a bool is told apart at once -/
def wVal (v : AVal) (K : AVal → Prop) : Prop := match v with
  | .b x => (x = true → K (.b true)) ∧ (x = false → K (.b false))
  | v => K v
def wPut (c : FC) (d : Option Nat) (v : AVal) (tm : Tm) (K : Tm → Prop) : Prop := match d with
  | none => K tm
  | some d => lt d c.nt = true ∧ wVal v fun v => K (tm.put d v)
def wOps (c : FC) (all : List Oper) (K : KS) : List Oper → KS
  | [], tm, df, h => K tm df h
  | o :: l, tm, df, h => ∃ w, wants all tm o.guard = some w ∧
      (w = true → ∃ x, execS c o.op E tm h = some x ∧ wNx E P N T df h (fun v df h => wPut c o.dst v tm fun tm => wOps c all K l tm df h) x) ∧
      (w = false → wPut c o.dst undefA tm fun tm => wOps c all K l tm df h)
def wDr (c : FC) (all : List Oper) (bs : List Nat) (base : Nat) (K : KS) : List Nat → Tm → List ADef → Heap → List (Nat × Heap) → Prop
  | [], tm, df, h, _ => K tm df h
  | i :: rest, tm, df, h, past => ∃ o m w, nth all i = some o ∧ nth bs i = some m ∧ wants all tm o.guard = some w ∧
      (w = true → match kd E o with
        | .pure => ∃ v, execT o.op E h h.next (named o tm) = some (.val v) ∧ wPut c o.dst v tm fun tm => wDr c all bs base K rest tm df h past
        | .read => ∃ v, execT o.op E h h.next (named o tm) = some (.val v) ∧ readsSame E (named o tm) o.op v m past = true ∧ wPut c o.dst v tm fun tm => wDr c all bs base K rest tm df h past
        | .new => ∃ ob v, execT o.op E h (base + i) (named o tm) = some (.new ob v) ∧ wPut c o.dst v tm fun tm => wDr c all bs base K rest tm df (h.set (base + i) ob) past
        | .eff => ∃ x, execS c o.op E (named o tm) h = some x ∧ wNx E P N T df h (fun v df h' => cleanAt base h'.bl rest = true ∧ wPut c o.dst v tm fun tm => wDr c all bs base K rest tm df h' ((i, h) :: past)) x) ∧
      (w = false → (isEff (kd E o) = true → cleanAt base h.bl rest = true) ∧ wPut c o.dst undefA tm fun tm => wDr c all bs base K rest tm df h (ife (isEff (kd E o)) ((i, h) :: past) past))
def wRegion (c : FC) (ops : List Oper) (draw : Bool) (K : KS) (tm : Tm) (df : List ADef) (h : Heap) : Prop := match draw with
  | true => ∃ p, planL E ops = some p ∧ wDr E P N T c ops p.1 h.next K p.2 tm df ⟨h.bl, h.next + ops.length⟩ []
  | false => wOps E P N T c ops K ops tm df h
def wLoop (B : (Ex → KS) → KS) (K : Ex → KS) : Nat → KS
  | 0, _, _, _ => False
  | n + 1, tm, df, h => B (fun e tm df h => match e with | .normal => wLoop B K n tm df h | e => K e tm df h) tm df h
def wThen (K1 : KS) (K : Ex → KS) : Ex → KS := fun e tm df h => match e with | .normal => K1 tm df h | e => K e tm df h
def wBlock (id : Nat) (K : Ex → KS) : Ex → KS := fun e tm df h => match e with | .exit i => (if i = id then K .normal tm df h else K (.exit i) tm df h) | e => K e tm df h
def wScope (c : FC) (b : Code) (K : Ex → KS) : Ex → KS := fun e tm df h => match e with
  | .goto l => (match findLabel b l with
    | some rest => ∃ q, CodeOK E P N [.code rest, .inScope b] c ⟨tm, df, h⟩ q ∧ K q.e q.s.tm q.s.df q.s.h
    | none => K (.goto l) tm df h)
  | e => K e tm df h
def wCode (c : FC) : Code → (Ex → KS) → KS
  | .skip, K, tm, df, h => K .normal tm df h
  | .region _ ops draw, K, tm, df, h => wRegion E P N T c ops.toList draw (K .normal) tm df h
  | .seq a b, K, tm, df, h => wCode c a (wThen (wCode c b K) K) tm df h
  | .cond o a b, K, tm, df, h => ∃ v, opd o tm = some v ∧ ∃ t, asB v = some t ∧ (t = true → wCode c a K tm df h) ∧ (t = false → wCode c b K tm df h)
  | .block id b, K, tm, df, h => wCode c b (wBlock id K) tm df h
  | .loop b, K, tm, df, h => ∃ n, wLoop (wCode c b) K n tm df h
  | .rangeFunc f ps asg b, K, tm, df, h => ∃ r q, RecOK E P N r ∧ cRange f ps asg b (codeV asg) (codeV b) E r c ⟨tm, df, h⟩ = some q ∧ K q.e q.s.tm q.s.df q.s.h
  | .exit id, K, tm, df, h => K (.exit id) tm df h
  | .scope b, K, tm, df, h => wCode c b (wScope E P N c b K) tm df h
  | .label _, K, tm, df, h => K .normal tm df h
  | .goto l, K, tm, df, h => K (.goto l) tm df h
  | .ret, K, tm, df, h => K .ret tm df h
  | .refuse _, _, _, _, _ => False
end
/-- what is known of calls that look at nothing and leave nothing -/
def TabOK (E : Env) (P : Program) (N : Nat) (T : Nat → List AVal → Option AVal) : Prop := ∀ f args v, T f args = some v → ∀ h, CallOK E P N f args h ⟨v, h⟩
variable {E : Env} {P : Program} {N : Nat} {T : Nat → List AVal → Option AVal} {φ φ' : Phi} {w w' : World}
/-! it is sound -/
def recNone : Rec := ⟨fun _ _ _ => none, fun _ _ _ => none, fun _ _ _ => none, fun _ _ _ _ => none, fun _ _ _ => none⟩
theorem recNone_ok : RecOK E P N recNone := ⟨fun _ _ _ _ h => (by cases h), fun _ _ _ _ h => (by cases h), fun _ _ _ _ h => (by cases h), fun _ _ _ _ _ h => (by cases h), fun _ _ _ _ h => (by cases h)⟩
open Classical in
noncomputable def recCall (f : Nat) (args : List AVal) (h : Heap) (q : CR) : Rec := ⟨fun f' a' h' => if f' = f ∧ a' = args ∧ h' = h then some q else none, fun _ _ _ => none, fun _ _ _ => none, fun _ _ _ _ => none, fun _ _ _ => none⟩
theorem recCall_ok {f : Nat} {args : List AVal} {h : Heap} {q : CR} (hq : CallOK E P N f args h q) : RecOK E P N (recCall f args h q) := by
  refine ⟨fun f' a' h' q' e => ?_, fun _ _ _ _ h => (by cases h), fun _ _ _ _ h => (by cases h), fun _ _ _ _ _ h => (by cases h), fun _ _ _ _ h => (by cases h)⟩
  simp only [recCall] at e
  split at e
  · next hc => obtain ⟨rfl, rfl, rfl⟩ := hc; obtain rfl := Option.some.inj e; exact hq.toN
  · cases e
theorem recCall_get {f : Nat} {args : List AVal} {h : Heap} {q : CR} : (recCall f args h q).call f args h = some q := by simp [recCall]
open Classical in
noncomputable def recRound (f : Nat) (args : List AVal) (h : Heap) (q : CR) : Rec := ⟨fun _ _ _ => none, fun f' a' h' => if f' = f ∧ a' = args ∧ h' = h then some q else none, fun _ _ _ => none, fun _ _ _ _ => none, fun _ _ _ => none⟩
theorem recRound_ok {f : Nat} {args : List AVal} {h : Heap} {q : CR} (hq : RoundOK E P N f args h q) : RecOK E P N (recRound f args h q) := by
  refine ⟨fun _ _ _ _ h => (by cases h), fun f' a' h' q' e => ?_, fun _ _ _ _ h => (by cases h), fun _ _ _ _ _ h => (by cases h), fun _ _ _ _ h => (by cases h)⟩
  simp only [recRound] at e
  split at e
  · next hc => obtain ⟨rfl, rfl, rfl⟩ := hc; obtain rfl := Option.some.inj e; exact hq
  · cases e
theorem recRound_get {f : Nat} {args : List AVal} {h : Heap} {q : CR} : (recRound f args h q).round f args h = some q := by simp [recRound]
theorem wVal_some {v : AVal} {K : AVal → Prop} (h : wVal v K) : K v := by
  cases v with
  | b x => cases x; exact h.2 rfl; exact h.1 rfl
  | _ => exact h
theorem wPut_some {c : FC} {d : Option Nat} {v : AVal} {tm : Tm} {K : Tm → Prop} (h : wPut c d v tm K) : K (putT d v tm) ∧ ∀ s df h', putD c ⟨s, df, h'⟩ d v = some ⟨putT d v s, df, h'⟩ := by
  cases d with
  | none => exact ⟨h, fun _ _ _ => rfl⟩
  | some d =>
    obtain ⟨h1, h2⟩ := h
    refine ⟨wVal_some h2, fun s df h' => ?_⟩
    show chk (lt d c.nt) (some (stPut d v ⟨s, df, h'⟩)) = _
    rw [h1]; rfl
/-- of what an operation leads to: some evaluator does it -/
theorem wNx_some (hT : TabOK E P N T) {c : FC} {d : Option Nat} {df : List ADef} {h : Heap} {x : Nx} {tm : Tm} {K : Tm → List ADef → Heap → Prop} {L : Heap → Prop} (hx : wNx E P N T df h (fun v df h => L h ∧ wPut c d v tm fun tm => K tm df h) x) :
    ∃ r v df' h', RecOK E P N r ∧ doNx x r c ⟨tm, df, h⟩ d = some ⟨putT d v tm, df', h'⟩ ∧ L h' ∧ K (putT d v tm) df' h' := by
  cases x with
  | val v => obtain ⟨h0, hx⟩ := hx; obtain ⟨h1, h2⟩ := wPut_some hx; exact ⟨recNone, v, df, h, recNone_ok, h2 tm df h, h0, h1⟩
  | new o v => obtain ⟨h0, hx⟩ := hx; obtain ⟨h1, h2⟩ := wPut_some hx; exact ⟨recNone, v, df, h.new o, recNone_ok, h2 tm df (h.new o), h0, h1⟩
  | eff v h' => obtain ⟨h0, hx⟩ := hx; obtain ⟨h1, h2⟩ := wPut_some hx; exact ⟨recNone, v, df, h', recNone_ok, h2 tm df h', h0, h1⟩
  | enter f args =>
    have hx : match T f args with | some v => L h ∧ wPut c d v tm (fun tm => K tm df h) | none => ∃ q, CallOK E P N f args h q ∧ L q.h ∧ wPut c d q.v tm fun tm => K tm df q.h := hx
    have hx : ∃ q, CallOK E P N f args h q ∧ L q.h ∧ wPut c d q.v tm fun tm => K tm df q.h := by
      cases ht : T f args with
      | none => rw [ht] at hx; exact hx
      | some v => rw [ht] at hx; exact ⟨⟨v, h⟩, hT f args v ht h, hx⟩
    obtain ⟨q, hq, h0, hx⟩ := hx
    obtain ⟨h1, h2⟩ := wPut_some hx
    refine ⟨recCall f args h q, q.v, df, q.h, recCall_ok hq, ?_, h0, h1⟩
    show ob ((recCall f args h q).call f args h) (nCR c ⟨tm, df, h⟩ d) = _
    rw [recCall_get]
    obtain ⟨v, h'⟩ := q
    exact h2 tm df h'
  | round f args =>
    obtain ⟨q, hq, h0, hx⟩ := hx
    obtain ⟨h1, h2⟩ := wPut_some hx
    refine ⟨recRound f args h q, q.v, df, q.h, recRound_ok hq, ?_, h0, h1⟩
    show ob ((recRound f args h q).round f args h) (nCR c ⟨tm, df, h⟩ d) = _
    rw [recRound_get]
    obtain ⟨v, h'⟩ := q
    exact h2 tm df h'
  | defer v => obtain ⟨h0, hx⟩ := hx; obtain ⟨h1, h2⟩ := wPut_some hx; exact ⟨recNone, undefA, .fn v :: df, h, recNone_ok, h2 tm _ h, h0, h1⟩
section
variable {c : FC} {ops : Array Oper} {K : KS}
theorem wOps_run (hT : TabOK E P N T) (hE : EnvOK E P) : ∀ (l : List Oper) (j : Nat) (tm : Tm) (df : List ADef) (h : Heap), ops.toList.drop j = l → wOps E P N T c ops.toList K l tm df h →
    ∃ tm' df' h', K tm' df' h' ∧ ∀ (φ : Phi) (a : Act) (w : World) (kind : CallKind) (ro : Option Nat) (k : List Item) (cs : List Frame), KindOK kind cs → ro.isSome = c.round → StRel E P N φ c ⟨tm, df, h⟩ a w →
      ∃ φ' a' w', Goes E N φ h w φ' h' w' ∧ TmRel P φ' c tm' df' a' ∧ Steps P (lone (mkF c.f kind ro a (.inRegion ops (List.range' j l.length) :: k)) cs w) (lone (mkF c.f kind ro a' k) cs w') := by
  intro l
  induction l with
  | nil =>
    intro j tm df h hl hw
    exact ⟨tm, df, h, hw, fun φ a w kind ro k cs hk hro S => ⟨φ, a, w, Goes.refl S.rel S.fresh, S.t, .one mk_region_end⟩⟩
  | cons o l ih =>
    intro j tm df h hl hw
    obtain ⟨b, h1, h2, h3⟩ := hw
    have ho : ops[j]? = some o := by
      have : (ops.toList.drop j)[0]? = some o := by rw [hl]; rfl
      rw [List.getElem?_drop, Nat.add_zero, Array.getElem?_toList] at this; exact this
    have hl' : ops.toList.drop (j + 1) = l := by rw [← List.drop_drop, hl]; rfl
    have step : ∃ r tm1 df1 hp1, RecOK E P N r ∧ oneOp E r c ops.toList ⟨tm, df, h⟩ o = some ⟨tm1, df1, hp1⟩ ∧ wOps E P N T c ops.toList K l tm1 df1 hp1 := by
      have e : ∀ r, oneOp E r c ops.toList ⟨tm, df, h⟩ o = ob (wants ops.toList tm o.guard) (fun w => ife w (ob (execS c o.op E tm h) fun x => doNx x r c ⟨tm, df, h⟩ o.dst) (putD c ⟨tm, df, h⟩ o.dst undefA)) := fun r => by obtain ⟨dst, op, ty, pos, after, guard⟩ := o; rfl
      cases b with
      | true =>
        obtain ⟨x, h4, h5⟩ := h2 rfl
        obtain ⟨r, v, df', h', k1, k2, _, k3⟩ := wNx_some hT (L := fun _ => True) (c := c) (d := o.dst) (tm := tm) (K := fun tm df h => wOps E P N T c ops.toList K l tm df h) (x := x) (df := df) (h := h) (by
          cases x <;> first | exact ⟨trivial, h5⟩ | (obtain ⟨q, q1, q2⟩ := h5; exact ⟨q, q1, trivial, q2⟩) | skip
          show match T _ _ with | some v => _ | none => _
          have h5 : match T _ _ with | some v => _ | none => _ := h5
          split at h5
          · exact ⟨trivial, h5⟩
          · obtain ⟨q, q1, q2⟩ := h5; exact ⟨q, q1, trivial, q2⟩)
        refine ⟨r, _, df', h', k1, ?_, k3⟩
        rw [e, h1]
        show ob (execS c o.op E tm h) _ = _
        rw [h4]; exact k2
      | false =>
        obtain ⟨k1, k2⟩ := wPut_some (h3 rfl)
        refine ⟨recNone, _, df, h, recNone_ok, ?_, k1⟩
        rw [e, h1]; exact k2 tm df h
    obtain ⟨r, tm1, df1, hp1, s1, s2, s3⟩ := step
    obtain ⟨tm2, df2, h2', k1, k2⟩ := ih (j + 1) tm1 df1 hp1 hl' s3
    refine ⟨tm2, df2, h2', k1, fun φ a w kind ro k cs hk hro S => ?_⟩
    obtain ⟨φ1, a1, w1, G1, T1, S1⟩ := oneOp_run (kind := kind) (cs := cs) (ro := ro) (rest := List.range' (j + 1) l.length) (k := k) hE s1 ho s2 hk hro S
    obtain ⟨φ2, a2, w2, G2, T2, S2⟩ := k2 φ1 a1 w1 kind ro k cs hk hro ⟨T1, G1.rel, G1.fresh⟩
    exact ⟨φ2, a2, w2, G1.trans G2, T2, S1.trans S2⟩
theorem wDr_trace (hT : TabOK E P N T) {all : List Oper} {bs : List Nat} {base : Nat} : ∀ (ord : List Nat) (tm : Tm) (df : List ADef) (h : Heap) (past : List (Nat × Heap)), wDr E P N T c all bs base K ord tm df h past →
    ∃ Q : Nat → Dr, Q 0 = ⟨⟨tm, df, h⟩, past⟩ ∧ K (Q ord.length).s.tm (Q ord.length).s.df (Q ord.length).s.h ∧
      ∀ (p i : Nat), ord[p]? = some i → ∃ o m r, RecOK E P N r ∧ all[i]? = some o ∧ bs[i]? = some m ∧ DrStep E r c all base i o m (Q p) (Q (p + 1)) ∧ (isEff (kd E o) = true → ∀ q j, p < q → ord[q]? = some j → (Q (p + 1)).s.h.get (base + j) = none)
  | [], tm, df, h, past, hw => ⟨fun _ => ⟨⟨tm, df, h⟩, past⟩, rfl, hw, fun p i e => by simp at e⟩
  | i :: ord, tm, df, h, past, hw => by
    obtain ⟨o, m, b, h1, h2, h3, h4, h5⟩ := hw
    rw [nth_eq] at h1 h2
    have key : ∃ r tm1 df1 hp1 past1, RecOK E P N r ∧ DrStep E r c all base i o m ⟨⟨tm, df, h⟩, past⟩ ⟨⟨tm1, df1, hp1⟩, past1⟩ ∧ (isEff (kd E o) = true → cleanAt base hp1.bl ord = true) ∧ wDr E P N T c all bs base K ord tm1 df1 hp1 past1 := by
      cases b with
      | false =>
        obtain ⟨k0, k⟩ := h5 rfl
        obtain ⟨k1, k2⟩ := wPut_some k
        cases he : isEff (kd E o) with
        | false => rw [he] at k1; exact ⟨recNone, _, df, h, past, recNone_ok, .off h3 (k2 tm df h) he rfl, (fun e => by cases e), k1⟩
        | true =>
          rw [he] at k1
          refine ⟨recNone, _, df, h, _, recNone_ok, .offE h3 (k2 tm df h) ?_ rfl, fun _ => k0 he, k1⟩
          cases hk : kd E o <;> rw [hk] at he <;> first | rfl | cases he
      | true =>
        have h4 := h4 rfl
        cases hk : kd E o with
        | pure =>
          rw [hk] at h4
          obtain ⟨v, q1, q2⟩ := h4
          obtain ⟨k1, k2⟩ := wPut_some q2
          exact ⟨recNone, _, df, h, past, recNone_ok, .pure v h3 hk q1 (k2 tm df h) rfl, (fun e => by cases e), k1⟩
        | read =>
          rw [hk] at h4
          obtain ⟨v, q1, q2, q3⟩ := h4
          obtain ⟨k1, k2⟩ := wPut_some q3
          exact ⟨recNone, _, df, h, past, recNone_ok, .read v h3 hk q1 q2 (k2 tm df h) rfl, (fun e => by cases e), k1⟩
        | new =>
          rw [hk] at h4
          obtain ⟨ob, v, q1, q3⟩ := h4
          obtain ⟨k1, k2⟩ := wPut_some q3
          exact ⟨recNone, _, df, h.set (base + i) ob, past, recNone_ok, .new ob v h3 hk q1 (k2 tm df (h.set (base + i) ob)) rfl, (fun e => by cases e), k1⟩
        | eff =>
          rw [hk] at h4
          obtain ⟨x, q1, q2⟩ := h4
          obtain ⟨r, v, df', h', k1, k2, k3, k4⟩ := wNx_some hT (L := fun h' => cleanAt base h'.bl ord = true) (K := fun tm df h' => wDr E P N T c all bs base K ord tm df h' ((i, h) :: past)) q2
          exact ⟨r, _, df', h', _, k1, .eff x h3 hk q1 k2 rfl, fun _ => k3, k4⟩
    obtain ⟨r, tm1, df1, hp1, past1, k1, k2, k3, k4⟩ := key
    obtain ⟨Q, e1, e2, e3⟩ := wDr_trace hT ord tm1 df1 hp1 past1 k4
    refine ⟨fun p => match p with | 0 => ⟨⟨tm, df, h⟩, past⟩ | p + 1 => Q p, rfl, e2, fun p j e => ?_⟩
    cases p with
    | zero =>
      rw [List.getElem?_cons_zero] at e; obtain rfl := Option.some.inj e
      refine ⟨o, m, r, k1, h1, h2, ?_, fun he q j hq hj => ?_⟩
      · show DrStep E r c all base i o m ⟨⟨tm, df, h⟩, past⟩ (Q 0)
        rw [e1]; exact k2
      · show (Q 0).s.h.get (base + j) = none
        rw [e1]
        cases q with
        | zero => omega
        | succ q =>
          rw [List.getElem?_cons_succ] at hj
          exact cleanAt_spec (k3 he) j (List.mem_of_getElem? hj)
    | succ p =>
      rw [List.getElem?_cons_succ] at e
      obtain ⟨o', m', r', g1, g2, g3, g4, g5⟩ := e3 p j e
      refine ⟨o', m', r', g1, g2, g3, g4, fun he q j' hq hj => ?_⟩
      cases q with
      | zero => omega
      | succ q =>
        rw [List.getElem?_cons_succ] at hj
        exact g5 he q j' (by omega) hj
theorem wRegion_run (hT : TabOK E P N T) (hE : EnvOK E P) {id : Nat} {draw : Bool} {tm : Tm} {df : List ADef} {h : Heap} (hw : wRegion E P N T c ops.toList draw K tm df h) :
    ∃ tm' df' h', CodeOK E P N [.code (.region id ops draw)] c ⟨tm, df, h⟩ ⟨.normal, ⟨tm', df', h'⟩⟩ ∧ K tm' df' h' := by
  cases draw with
  | true =>
    obtain ⟨p, h1, h2⟩ := hw
    obtain ⟨Q, e1, e2, e3⟩ := wDr_trace hT p.2 tm df _ [] h2
    exact ⟨_, _, _, trace_code hE (s := ⟨tm, df, h⟩) (planL_spec h1) e1 e3, e2⟩
  | false =>
    obtain ⟨tm', df', h', k1, k2⟩ := wOps_run hT hE ops.toList 0 tm df h rfl hw
    refine ⟨tm', df', h', fun φ a w kind ro k cs hk hro S => ?_, k1⟩
    obtain ⟨φ', a', w', G, T, S'⟩ := k2 φ a w kind ro k cs hk hro S
    refine ⟨φ', a', w', G, T, .head mk_region ?_⟩
    rw [List.range_eq_range', ← Array.length_toList]; exact S'
/-- a loop's body and the loop behind it -/
def LoopOK (E : Env) (P : Program) (N : Nat) (c : FC) (b : Code) (s : St) (q : Res) : Prop := CodeOK E P N [.code b, .inLoop b] c s q
theorem loop_step {b : Code} {s s1 : St} {e : Ex} {q : Res} (h : CodeOK E P N [.code b] c s ⟨e, s1⟩) (hn : e = .normal → LoopOK E P N c b s1 q) (hx : e ≠ .normal → q = ⟨e, s1⟩) : LoopOK E P N c b s q := by
  intro φ a w kind ro k cs hk hro S
  obtain ⟨φ1, a1, w1, G, T, A⟩ := h φ a w kind ro (.inLoop b :: k) cs hk hro S
  cases e with
  | normal =>
    refine Ends.after G (Ends.of_steps (Steps.trans A (.one mk_inLoop)) ?_)
    exact hn rfl φ1 a1 w1 kind ro k cs hk hro ⟨T, G.rel, G.fresh⟩
  | exit id => obtain rfl := hx (by simp); exact ⟨φ1, a1, w1, G, T, Arr.pass (by simp) (fun _ => rfl) (fun _ => rfl) A⟩
  | goto l => obtain rfl := hx (by simp); exact ⟨φ1, a1, w1, G, T, Arr.pass (by simp) (fun _ => rfl) (fun _ => rfl) A⟩
  | ret => obtain rfl := hx (by simp); exact ⟨φ1, a1, w1, G, T, Arr.pass (by simp) (fun _ => rfl) (fun _ => rfl) A⟩
theorem LoopOK.code {b : Code} {s : St} {q : Res} (h : LoopOK E P N c b s q) : CodeOK E P N [.code (.loop b)] c s q :=
  fun φ a w kind ro k cs hk hro S => Ends.of_steps (.one mk_loop) (h φ a w kind ro k cs hk hro S)
theorem seq_code {x y : Code} {s s1 : St} {e : Ex} {q : Res} (h : CodeOK E P N [.code x] c s ⟨e, s1⟩) (hn : e = .normal → CodeOK E P N [.code y] c s1 q) (hx : e ≠ .normal → q = ⟨e, s1⟩) : CodeOK E P N [.code (.seq x y)] c s q := by
  intro φ a w kind ro k cs hk hro S
  obtain ⟨φ1, a1, w1, G, T, A⟩ := h φ a w kind ro (.code y :: k) cs hk hro S
  refine Ends.of_steps (.one mk_seq) ?_
  cases e with
  | normal => exact Ends.after G (Ends.of_steps A (hn rfl φ1 a1 w1 kind ro k cs hk hro ⟨T, G.rel, G.fresh⟩))
  | exit id => obtain rfl := hx (by simp); exact ⟨φ1, a1, w1, G, T, Arr.pass (by simp) (fun _ => rfl) (fun _ => rfl) A⟩
  | goto l => obtain rfl := hx (by simp); exact ⟨φ1, a1, w1, G, T, Arr.pass (by simp) (fun _ => rfl) (fun _ => rfl) A⟩
  | ret => obtain rfl := hx (by simp); exact ⟨φ1, a1, w1, G, T, Arr.pass (by simp) (fun _ => rfl) (fun _ => rfl) A⟩
end
section
variable {c : FC}
theorem wCode_run (hT : TabOK E P N T) (hE : EnvOK E P) : ∀ (x : Code) {K : Ex → KS} {tm : Tm} {df : List ADef} {h : Heap}, wCode E P N T c x K tm df h → ∃ e tm' df' h', CodeOK E P N [.code x] c ⟨tm, df, h⟩ ⟨e, ⟨tm', df', h'⟩⟩ ∧ K e tm' df' h' := by
  intro x
  induction x with
  | skip => intro K tm df h hw; exact ⟨.normal, tm, df, h, fun φ a w kind ro k cs hk hro S => ⟨φ, a, w, Goes.refl S.rel S.fresh, S.t, .one mk_skip⟩, hw⟩
  | region id ops draw =>
    intro K tm df h hw
    obtain ⟨tm', df', h', k1, k2⟩ := wRegion_run (id := id) hT hE (show wRegion E P N T c ops.toList draw (K .normal) tm df h from hw)
    exact ⟨.normal, tm', df', h', k1, k2⟩
  | seq x y ihx ihy =>
    intro K tm df h hw
    obtain ⟨e, tm1, df1, h1, k1, k2⟩ := ihx (show wCode E P N T c x (wThen (wCode E P N T c y K) K) tm df h from hw)
    cases e with
    | normal =>
      obtain ⟨e2, tm2, df2, h2, k3, k4⟩ := ihy (show wCode E P N T c y K tm1 df1 h1 from k2)
      exact ⟨e2, tm2, df2, h2, seq_code k1 (fun _ => k3) (fun e => absurd rfl e), k4⟩
    | exit id => exact ⟨_, tm1, df1, h1, seq_code k1 (fun e => by cases e) (fun _ => rfl), k2⟩
    | goto id => exact ⟨_, tm1, df1, h1, seq_code k1 (fun e => by cases e) (fun _ => rfl), k2⟩
    | ret => exact ⟨_, tm1, df1, h1, seq_code k1 (fun e => by cases e) (fun _ => rfl), k2⟩
  | cond o x y ihx ihy =>
    intro K tm df h hw
    obtain ⟨v, h1, t, h3, h4, h5⟩ := hw
    obtain rfl := asB_some h3
    cases t with
    | true =>
      obtain ⟨e, tm1, df1, hp1, k1, k2⟩ := ihx (h4 rfl)
      refine ⟨e, tm1, df1, hp1, fun φ a w kind ro k cs hk hro S => ?_, k2⟩
      have hc := den_b (S.t.opds o _ h1)
      exact Ends.of_steps (.one (mk_cond hc)) (k1 φ a w kind ro k cs hk hro S)
    | false =>
      obtain ⟨e, tm1, df1, hp1, k1, k2⟩ := ihy (h5 rfl)
      refine ⟨e, tm1, df1, hp1, fun φ a w kind ro k cs hk hro S => ?_, k2⟩
      have hc := den_b (S.t.opds o _ h1)
      exact Ends.of_steps (.one (mk_cond hc)) (k1 φ a w kind ro k cs hk hro S)
  | block id b ih =>
    intro K tm df h hw
    obtain ⟨e, tm1, df1, h1, k1, k2⟩ := ih (show wCode E P N T c b (wBlock id K) tm df h from hw)
    have key : ∀ q, blockX id e ⟨tm1, df1, h1⟩ = some q → CodeOK E P N [.code (.block id b)] c ⟨tm, df, h⟩ q := fun q hq φ a w kind ro k cs hk hro S => by
      obtain ⟨φ1, a1, w1, G, T, A⟩ := k1 φ a w kind ro (.inBlock id :: k) cs hk hro S
      exact Ends.of_steps (.one mk_block) (blockX_run hq G T A)
    cases e with
    | normal => exact ⟨.normal, tm1, df1, h1, key _ rfl, k2⟩
    | exit i =>
      have k2 : (if i = id then K .normal tm1 df1 h1 else K (.exit i) tm1 df1 h1) := k2
      by_cases hi : i = id
      · subst hi
        rw [if_pos rfl] at k2
        refine ⟨.normal, tm1, df1, h1, key _ ?_, k2⟩
        show ife (Nat.beq i i) _ _ = _
        rw [show Nat.beq i i = true from Nat.beq_refl i]; rfl
      · rw [if_neg hi] at k2
        refine ⟨.exit i, tm1, df1, h1, key _ ?_, k2⟩
        show ife (Nat.beq i id) _ _ = _
        rw [nbeqf hi]; rfl
    | goto l => exact ⟨.goto l, tm1, df1, h1, key _ rfl, k2⟩
    | ret => exact ⟨.ret, tm1, df1, h1, key _ rfl, k2⟩
  | loop b ih =>
    intro K tm df h hw
    obtain ⟨n, hn⟩ := hw
    have key : ∀ (n : Nat) (tm : Tm) (df : List ADef) (h : Heap), wLoop (wCode E P N T c b) K n tm df h → ∃ e tm' df' h', LoopOK E P N c b ⟨tm, df, h⟩ ⟨e, ⟨tm', df', h'⟩⟩ ∧ K e tm' df' h' := by
      intro n
      induction n with
      | zero => intro tm df h hh; exact hh.elim
      | succ n ihn =>
        intro tm df h hh
        obtain ⟨e, tm1, df1, h1, k1, k2⟩ := ih (show wCode E P N T c b _ tm df h from hh)
        cases e with
        | normal =>
          obtain ⟨e2, tm2, df2, h2, k3, k4⟩ := ihn tm1 df1 h1 k2
          exact ⟨e2, tm2, df2, h2, loop_step k1 (fun _ => k3) (fun e => absurd rfl e), k4⟩
        | exit id => exact ⟨_, tm1, df1, h1, loop_step k1 (fun e => by cases e) (fun _ => rfl), k2⟩
        | goto id => exact ⟨_, tm1, df1, h1, loop_step k1 (fun e => by cases e) (fun _ => rfl), k2⟩
        | ret => exact ⟨_, tm1, df1, h1, loop_step k1 (fun e => by cases e) (fun _ => rfl), k2⟩
    obtain ⟨e, tm1, df1, h1, k1, k2⟩ := key n tm df h hn
    exact ⟨e, tm1, df1, h1, k1.code, k2⟩
  | rangeFunc f ps asg b iha ihb =>
    intro K tm df h hw
    obtain ⟨r, ⟨e, tm1, df1, h1⟩, hr, hq, k⟩ := hw
    exact ⟨e, tm1, df1, h1, range_run hE hr hq, k⟩
  | exit id => intro K tm df h hw; exact ⟨.exit id, tm, df, h, fun φ a w kind ro k cs hk hro S => ⟨φ, a, w, Goes.refl S.rel S.fresh, S.t, k, rfl, .refl _ _⟩, hw⟩
  | scope b ih =>
    intro K tm df h hw
    obtain ⟨e, tm1, df1, h1, k1, k2⟩ := ih (show wCode E P N T c b (wScope E P N c b K) tm df h from hw)
    have plain : ∀ e, (∀ l, e ≠ .goto l) → CodeOK E P N [.code b] c ⟨tm, df, h⟩ ⟨e, ⟨tm1, df1, h1⟩⟩ → CodeOK E P N [.code (.scope b)] c ⟨tm, df, h⟩ ⟨e, ⟨tm1, df1, h1⟩⟩ := fun e he k1 φ a w kind ro k cs hk hro S => by
      obtain ⟨φ1, a1, w1, G, T, A⟩ := k1 φ a w kind ro (.inScope b :: k) cs hk hro S
      refine Ends.of_steps (.one mk_scope) (scopeX_run (r := recNone) (b := b) recNone_ok ?_ hk hro G T A)
      cases e <;> first | rfl | exact absurd rfl (he _)
    cases e with
    | normal => exact ⟨.normal, tm1, df1, h1, plain _ (by simp) k1, k2⟩
    | exit i => exact ⟨.exit i, tm1, df1, h1, plain _ (by simp) k1, k2⟩
    | ret => exact ⟨.ret, tm1, df1, h1, plain _ (by simp) k1, k2⟩
    | goto l =>
      have k2 : (match findLabel b l with | some rest => ∃ q, CodeOK E P N [.code rest, .inScope b] c ⟨tm1, df1, h1⟩ q ∧ K q.e q.s.tm q.s.df q.s.h | none => K (.goto l) tm1 df1 h1) := k2
      cases hf : findLabel b l with
      | none =>
        rw [hf] at k2
        refine ⟨.goto l, tm1, df1, h1, fun φ a w kind ro k cs hk hro S => ?_, k2⟩
        obtain ⟨φ1, a1, w1, G, T, A⟩ := k1 φ a w kind ro (.inScope b :: k) cs hk hro S
        refine Ends.of_steps (.one mk_scope) (scopeX_run (r := recNone) (b := b) recNone_ok ?_ hk hro G T A)
        unfold scopeX; simp only [hf]
      | some rest =>
        rw [hf] at k2
        obtain ⟨⟨e2, tm2, df2, h2⟩, q1, q2⟩ := k2
        refine ⟨e2, tm2, df2, h2, fun φ a w kind ro k cs hk hro S => ?_, q2⟩
        obtain ⟨φ1, a1, w1, G, T, kk, ek, A⟩ := k1 φ a w kind ro (.inScope b :: k) cs hk hro S
        refine Ends.of_steps (.one mk_scope) (Ends.after G (Ends.of_steps (A.trans (.one (mk_goto ?_))) (q1 φ1 a1 w1 kind ro k cs hk hro ⟨T, G.rel, G.fresh⟩)))
        rw [ek]; simp [gotoIn, hf]
  | label l => intro K tm df h hw; exact ⟨.normal, tm, df, h, fun φ a w kind ro k cs hk hro S => ⟨φ, a, w, Goes.refl S.rel S.fresh, S.t, .one mk_label⟩, hw⟩
  | goto l => intro K tm df h hw; exact ⟨.goto l, tm, df, h, fun φ a w kind ro k cs hk hro S => ⟨φ, a, w, Goes.refl S.rel S.fresh, S.t, k, rfl, .refl _ _⟩, hw⟩
  | ret => intro K tm df h hw; exact ⟨.ret, tm, df, h, fun φ a w kind ro k cs hk hro S => ⟨φ, a, w, Goes.refl S.rel S.fresh, S.t, k, .refl _ _⟩, hw⟩
  | refuse why => intro K tm df h hw; exact hw.elim
end
end Go.Abs

set_option autoImplicit false
set_option linter.unusedSimpArgs false
set_option linter.unusedSectionVars false
namespace Go.Abs
variable {E : Env} {P : Program} {N : Nat} {T : Nat → List AVal → Option AVal} {φ φ' : Phi} {w w' : World}
def argsAt : List AVal → Nat → List (Nat × AVal)
  | [], _ => []
  | a :: l, k => (k, a) :: argsAt l (k + 1)
noncomputable def tm0 (args : List AVal) : Tm := ⟨0, .e, argsAt args 0⟩
theorem argsAt_get {k : Nat} {v : AVal} : ∀ {l : List AVal} {i : Nat}, assoc k (argsAt l i) = some v → i ≤ k ∧ l[k - i]? = some v
  | [], i, h => by cases h
  | a :: l, i, h => by
    have h : ife (Nat.beq i k) (some a) (assoc k (argsAt l (i + 1))) = some v := h
    have h' := h
    rw [ife_eq] at h
    split at h
    · next hk =>
      obtain rfl := beq_true hk
      refine ⟨Nat.le_refl _, ?_⟩
      rw [ife_eq, if_pos (Nat.beq_refl i)] at h'
      rw [Nat.sub_self, List.getElem?_cons_zero]; exact h'
    · next hk =>
      obtain ⟨h1, h2⟩ := argsAt_get h
      refine ⟨by omega, ?_⟩
      rw [show k - i = (k - (i + 1)) + 1 from by omega, List.getElem?_cons_succ]; exact h2
theorem tm0_get {args : List AVal} {k : Nat} {v : AVal} (h : (tm0 args).get k = some v) : args[k]? = some v := by
  have h : tmGet k 0 .e (argsAt args 0) = some v := h
  unfold tmGet at h
  rw [ife_eq, bit_zero, if_neg (by simp)] at h
  exact (argsAt_get h).2
/-- the deferred calls of a frame -/
def wDefs (E : Env) (P : Program) (N : Nat) (df : List ADef) (h : Heap) (K : Heap → Prop) : Prop := (df = [] ∧ K h) ∨ ∃ r h', RecOK E P N r ∧ defsV E r df h = some h' ∧ K h'
def wEnd (E : Env) (P : Program) (N : Nat) (fn : Func) (K : AVal → Heap → Prop) : Ex → KS := fun e tm df h => match e with
  | .normal => wDefs E P N df h fun h => ∃ v, resV E tm h fn.results.toList = some v ∧ K v h
  | .ret => wDefs E P N df h fun h => ∃ v, resV E tm h fn.results.toList = some v ∧ K v h
  | _ => False
theorem wDefs_some {df : List ADef} {h : Heap} {K : Heap → Prop} (hw : wDefs E P N df h K) : ∃ r h', RecOK E P N r ∧ defsV E r df h = some h' ∧ K h' := by
  rcases hw with ⟨rfl, hk⟩ | hw
  · exact ⟨recNone, h, recNone_ok, rfl, hk⟩
  · exact hw
theorem body_code (hE : EnvOK E P) {f : Nat} {args : List AVal} {h : Heap} {fn : Func} {x : Code} {e : Ex} {s1 : St} {v : AVal} {h' : Heap} {r : Rec} (hf : P.funcs[f]? = some fn) (hx : fn.body = some x) (hle : args.length ≤ fn.ntmps)
    (hC : CodeOK E P N [.code x] ⟨f, fn.ntmps, false⟩ ⟨tm0 args, [], h⟩ ⟨e, s1⟩) (he : e = .normal ∨ e = .ret) (hr : RecOK E P N r) (hd : defsV E r s1.df s1.h = some h') (hv : resV E s1.tm h' fn.results.toList = some v) : CallOK E P N f args h ⟨v, h'⟩ := by
  intro φ w as kind cs hk R F ha
  have hal := denL_length ha
  have henter : Frame.enter P f as.toArray kind = mkF f kind none ⟨as.toArray ++ Array.replicate (fn.ntmps - as.toArray.size) undef, []⟩ ([.code x] ++ []) := by
    simp [Frame.enter, mkF, hf, hx]
  have hT : TmRel P φ ⟨f, fn.ntmps, false⟩ (tm0 args) [] ⟨as.toArray ++ Array.replicate (fn.ntmps - as.toArray.size) undef, []⟩ := by
    refine ⟨by simp; omega, fun k v hk => ?_, fun k v hk => (by cases hk), fun _ => trivial⟩
    have k2 := tm0_get hk
    have hlt := (List.getElem?_eq_some_iff.1 k2).1
    obtain ⟨y, d1, d2⟩ := denL_get ha k2
    rw [d1, Array.getD_eq_getD_getElem?, Array.getElem?_append_left (by simp; omega), List.getElem?_toArray, d2]; rfl
  obtain ⟨φ1, a1, w1, G1, T1, A1⟩ := hC φ _ w kind none [] cs hk rfl ⟨hT, R, F⟩
  rw [← henter] at A1
  have fin : (∃ todo, Steps P (lone (Frame.enter P f as.toArray kind) cs w) (lone (mkR f kind a1 todo) cs w1)) →
      ∃ φ' w' fr y, Goes E N φ h w φ' h' w' ∧ den φ' v = some y ∧ Steps P (lone (Frame.enter P f as.toArray kind) cs w) (lone fr cs w') ∧ Left P f kind fr w' y := by
    rintro ⟨todo, S⟩
    obtain ⟨t1, ds1⟩ := a1
    obtain ⟨φ2, w2, G2, S2⟩ := defs_run (fn := f) (kind := kind) (cs := cs) (todo := todo) (t := t1) hE hr (T1.df rfl) hd G1.rel G1.fresh
    obtain ⟨y, r1, r2⟩ := resV_run (fn := fn) hE G2.rel (T1.mono G2.ext) hv
    exact ⟨φ2, w2, _, y, G1.trans G2, r2, S.trans S2, rfl, rfl, rfl, rfl, fn, hf, r1⟩
  rcases he with rfl | rfl
  · exact fin ⟨_, Steps.trans A1 (.one mk_end)⟩
  · obtain ⟨k1, S⟩ := A1; exact fin ⟨_, S.trans (.one mk_ret)⟩
theorem wBody (hT : TabOK E P N T) (hE : EnvOK E P) {f : Nat} {args : List AVal} {h : Heap} {fn : Func} {x : Code} {K : AVal → Heap → Prop} (hf : P.funcs[f]? = some fn) (hx : fn.body = some x) (hle : args.length ≤ fn.ntmps)
    (hw : wCode E P N T ⟨f, fn.ntmps, false⟩ x (wEnd E P N fn K) (tm0 args) [] h) : ∃ q, CallOK E P N f args h q ∧ K q.v q.h := by
  obtain ⟨e, tm', df', h', k1, k2⟩ := wCode_run hT hE x hw
  have key : wDefs E P N df' h' (fun h => ∃ v, resV E tm' h fn.results.toList = some v ∧ K v h) → (e = .normal ∨ e = .ret) → ∃ q, CallOK E P N f args h q ∧ K q.v q.h := fun hd he => by
    obtain ⟨r, h2, r1, r2, v, r3, r4⟩ := wDefs_some hd
    exact ⟨⟨v, h2⟩, body_code hE hf hx hle k1 he r1 r2 r3, r4⟩
  cases e with
  | normal => exact key k2 (.inl rfl)
  | ret => exact key k2 (.inr rfl)
  | exit id => exact k2.elim
  | goto l => exact k2.elim
theorem den_back {v : AVal} {y y0 : Value} (h : PExt φ φ') (h1 : den φ v = some y0) (h2 : den φ' v = some y) : den φ v = some y := by
  have := den_mono h v y0 h1
  rw [this] at h2; rw [← h2]; exact h1
theorem EntsRel.back (h : PExt φ φ') : ∀ {es : List Ent} {a b : List MapEntry}, EntsRel φ es a → EntsRel φ' es b → EntsRel φ es b
  | [], [], [], _, _ => trivial
  | _ :: _, _ :: _, _ :: _, ⟨a1, a2, _, a4⟩, ⟨b1, b2, b3, b4⟩ => ⟨den_back h a1 b1, den_back h a2 b2, b3, EntsRel.back h a4 b4⟩
theorem CellsRel.back (h : PExt φ φ') {g : Nat → Option AVal} {n : Nat} {a b : Array Value} (h1 : CellsRel φ g n a) (h2 : CellsRel φ' g n b) : CellsRel φ g n b := by
  refine ⟨h2.1, fun i hi => ?_⟩
  obtain ⟨v, y, e1, e2, e3, e4⟩ := h2.2 i hi
  obtain ⟨v', y', d1, d2, _, _⟩ := h1.2 i hi
  obtain rfl := Option.some.inj (e1.symm.trans d1)
  exact ⟨v, y, e1, den_back h d2 e2, e3, e4⟩
theorem ORel.back (h : PExt φ φ') {o : AObj} {l l' : Loc} {x y : Option Obj} (h1 : ORel E φ o l' x) (h2 : ORel E φ' o l y) : ORel E φ o l y := by
  cases o with
  | cells c n e =>
    obtain ⟨a, e', fz, k1, k2, k3, k4⟩ := h2
    obtain ⟨_, _, _, _, _, _, j4⟩ := h1
    exact ⟨a, e', fz, k1, k2, k3, CellsRel.back h j4 k4⟩
  | bytes n d e =>
    obtain ⟨a, e', fz, k1, k2, k3, k4, k5⟩ := h2
    obtain ⟨_, _, _, _, _, _, _, j5⟩ := h1
    exact ⟨a, e', fz, k1, k2, k3, k4, CellsRel.back h j5 k5⟩
  | map es c =>
    obtain ⟨L, k1, k2⟩ := h2
    obtain ⟨_, _, j2⟩ := h1
    exact ⟨L, k1, EntsRel.back h j2 k2⟩
  | iter m since seen last =>
    obtain ⟨m', k1, k2⟩ := h2
    obtain ⟨m1, _, j2⟩ := h1
    refine ⟨m', k1, ?_⟩
    cases m with
    | none => exact k2
    | some b =>
      obtain ⟨lb, e1, e2⟩ := k2
      obtain ⟨lb', e3, _⟩ := j2
      have := h _ _ e3
      obtain rfl := Option.some.inj (e1.symm.trans this)
      exact ⟨lb, e3, e2⟩
  | loop st pend fn tm nt ps asg bd d =>
    obtain ⟨a, ld, k1, k2, k3⟩ := h2
    obtain ⟨a1, ld1, j1, _, j3⟩ := h1
    obtain rfl := Option.some.inj (k1.symm.trans (h _ _ j1))
    refine ⟨a, ld, j1, k2, k3.1, fun i v e => ⟨(k3.2 i v e).1, den_back h (j3.2 i v e).2 (k3.2 i v e).2⟩⟩
  | dfr => exact h2
/-! known calls -/
/-- a value that names no memory -/
def Still (v : AVal) : Prop := ∃ y, ∀ φ, den φ v = some y
theorem Rel.none (hG : GlOK E N w) (hN : N ≤ w.heap.size) : Rel E N (fun _ => none) (fun _ => none) w := ⟨fun _ _ _ h => (by cases h), fun _ _ _ _ _ _ h => (by cases h), hN, hG⟩
/-- what was found in an empty memory is so in each: nothing is looked at, all that was made is let go -/
theorem CallOK.alone {f : Nat} {args : List AVal} {v : AVal} {h' : Heap} (hc : CallOK E P N f args ⟨.e, 0⟩ ⟨v, h'⟩) (ha : ∀ a ∈ args, Still a) (hv : Still v) (h : Heap) : CallOK E P N f args h ⟨v, h⟩ := by
  intro φ w as kind cs hk R F hd
  have hd0 : denL (fun _ => Option.none) args = some as := by
    clear hc
    induction args generalizing as with
    | nil => rw [denL_nil] at hd ⊢; exact hd
    | cons a l ih =>
      obtain ⟨y, ys, d1, d2, rfl⟩ := denL_cons' hd
      obtain ⟨z, hz⟩ := ha a (List.mem_cons_self ..)
      have : y = z := Option.some.inj (d1.symm.trans (hz φ))
      subst this
      exact denL_cons (hz _) (ih (fun b hb => ha b (List.mem_cons_of_mem _ hb)) ys d2)
  obtain ⟨φ', w', fr, y, G, e1, e2, e3⟩ := hc (fun _ => Option.none) w as kind cs hk (by
    have : (⟨.e, 0⟩ : Heap).get = fun _ => Option.none := by funext b; exact Tr.get_e b
    rw [this]; exact Rel.none R.glob R.size) (fun b _ => ⟨rfl, Tr.get_e b⟩) hd0
  obtain ⟨z, hz⟩ := hv
  have hy : y = z := Option.some.inj (e1.symm.trans (hz φ'))
  subst hy
  have hb : ∀ B, B < w.heap.size → w'.heap[B]? = w.heap[B]? := fun B hB => G.frm.block B hB fun b o l h1 => by rw [show (⟨.e, 0⟩ : Heap).get b = Option.none from Tr.get_e b] at h1; cases h1
  have hlt : ∀ b o l, h.get b = some o → φ b = some l → l.blk < w.heap.size := fun b o l h1 h2 => by
    obtain ⟨y, hy⟩ := (R.objs b o l h1 h2).2.isSome
    exact (Array.getElem?_eq_some_iff.1 hy).1
  refine ⟨φ, w', fr, y, ⟨.refl _, ⟨fun b o l h1 h2 => ?_, R.inj, Nat.le_trans R.size G.frm.size, G.rel.glob⟩, F, ⟨G.frm.os, G.frm.tape, G.frm.output, G.frm.size, fun B hB _ => hb B hB, fun b o l h1 h2 => .inr ⟨b, o, l, h1, h2, rfl⟩⟩, Nat.le_refl _, fun _ _ => rfl⟩, hz φ, e2, e3⟩
  obtain ⟨r1, r2⟩ := R.objs b o l h1 h2
  exact ⟨r1, by rw [hb _ (hlt b o l h1 h2)]; exact r2⟩
/-- what is not asked for any more is let go -/
theorem CallOK.less {f : Nat} {args : List AVal} {h : Heap} {q : CR} {h' : Heap} (hc : CallOK E P N f args h q) (hs : ∀ b o, h'.get b = some o → q.h.get b = some o) (hn : h'.next = q.h.next) : CallOK E P N f args h ⟨q.v, h'⟩ := by
  intro φ w as kind cs hk R F hd
  obtain ⟨φ', w', fr, y, G, e1, e2, e3⟩ := hc φ w as kind cs hk R F hd
  refine ⟨φ', w', fr, y, ⟨G.ext, ⟨fun b o l h1 h2 => G.rel.objs b o l (hs b o h1) h2, fun b b' o o' l l' h1 h2 => G.rel.inj b b' o o' l l' (hs b o h1) (hs b' o' h2), G.rel.size, G.rel.glob⟩, fun b hb => ?_, ⟨G.frm.os, G.frm.tape, G.frm.output, G.frm.size, G.frm.block, fun b o l h1 h2 => G.frm.from' b o l (hs b o h1) h2⟩, by rw [hn]; exact G.next, G.old⟩, e1, e2, e3⟩
  rw [hn] at hb
  obtain ⟨f1, f2⟩ := G.fresh b hb
  refine ⟨f1, ?_⟩
  cases hg : h'.get b with
  | none => rfl
  | some o => rw [hs b o hg] at f2; cases f2
/-- the memory that was there stands as it stood -/
theorem CallOK.pure {f : Nat} {args : List AVal} {h : Heap} {v : AVal} {h' : Heap} (hc : CallOK E P N f args h ⟨v, h'⟩) (hs : ∀ b, b < h.next → h'.get b = h.get b) (hv : Still v) : CallOK E P N f args h ⟨v, h⟩ := by
  intro φ w as kind cs hk R F hd
  obtain ⟨φ', w', fr, y, G, e1, e2, e3⟩ := hc φ w as kind cs hk R F hd
  obtain ⟨z, hz⟩ := hv
  have hy : y = z := Option.some.inj (e1.symm.trans (hz φ'))
  subst hy
  have low : ∀ b o, h.get b = some o → b < h.next := fun b o h1 => by
    apply Decidable.byContradiction
    intro hn
    rw [(F b (by omega)).2] at h1; cases h1
  have key : ∀ b o, h.get b = some o → h'.get b = some o := fun b o h1 => by rw [hs b (low b o h1)]; exact h1
  refine ⟨φ, w', fr, y, ⟨.refl _, ⟨fun b o l h1 h2 => ?_, fun b b' o o' l l' h1 h2 h3 h4 => G.rel.inj b b' o o' l l' (key b o h1) (key b' o' h2) (G.ext _ _ h3) (G.ext _ _ h4), G.rel.size, G.rel.glob⟩, F, ⟨G.frm.os, G.frm.tape, G.frm.output, G.frm.size, G.frm.block, fun b o l h1 h2 => .inr ⟨b, o, l, h1, h2, rfl⟩⟩, Nat.le_refl _, fun _ _ => rfl⟩, hz φ, e2, e3⟩
  obtain ⟨r1, r2⟩ := G.rel.objs b o l (key b o h1) (G.ext _ _ h2)
  refine ⟨r1, ?_⟩
  -- the values of the block are told by the places that were known before
  obtain ⟨_, r4⟩ := R.objs b o l h1 h2
  exact ORel.back G.ext r4 r2
/-- a call, as the kit has it -/
theorem calls_of {f : Nat} {args : List AVal} {q : CR} {as : List Value} {y : Value} (hc : CallOK E P N f args ⟨.e, 0⟩ q) (hG : GlOK E N w) (hN : N ≤ w.heap.size) (ha : denL (fun _ => Option.none) args = some as) (hv : ∀ φ, den φ q.v = some y) :
    Calls P f as.toArray w fun e w' => e = .returned y ∧ RowKit.Below w.heap.size w w' := by
  intro cs
  obtain ⟨φ', w', fr, z, G, e1, e2, hm, hd, hk, hf, fn, hfn, hr⟩ := hc (fun _ => Option.none) w as .normal cs (.inl rfl) (by
    have : (⟨.e, 0⟩ : Heap).get = fun _ => Option.none := by funext b; exact Tr.get_e b
    rw [this]; exact Rel.none hG hN) (fun b _ => ⟨rfl, Tr.get_e b⟩) ha
  have hz : z = y := Option.some.inj (e1.symm.trans (hv φ'))
  subst hz
  exact ⟨.returned z, w', fr, ⟨rfl, G.frm.os, G.frm.tape, G.frm.output, G.frm.size, fun B hB => G.frm.block B hB fun b o l h1 => by rw [show (⟨.e, 0⟩ : Heap).get b = Option.none from Tr.get_e b] at h1; cases h1⟩, e2, hf, hm, hd, hk, fn, by rw [hf]; exact hfn, hr⟩
end Go.Abs
