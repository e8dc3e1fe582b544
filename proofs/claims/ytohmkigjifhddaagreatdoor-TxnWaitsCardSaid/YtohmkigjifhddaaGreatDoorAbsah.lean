/- A part of a proof about Go functions of this program: an evaluator with a memory of its own, and the proof that what it finds the model finds (C21, C22, C23, C24). No conditions beyond those that each theorem names. -/
import Derived.Test.YtohmkigjifhddaaGreatDoorAbsag
import Derived.Calls
set_option linter.all false
set_option autoImplicit false
set_option linter.unusedSimpArgs false
namespace Go.Abs
variable {E : Env} {P : Program} {N : Nat} {φ : Phi} {w w' : World}
def mkF (fn : FuncId) (kind : CallKind) (ro : Option Nat) (a : Act) (todo : List Item) : Frame := { fn, tmps := a.tmps, todo, defers := a.defers, mode := .run, kind, roundOf := ro }
def mkR (fn : FuncId) (kind : CallKind) (a : Act) (todo : List Item) : Frame := { fn, tmps := a.tmps, todo, defers := a.defers, mode := .returning, kind, roundOf := none }
section
variable {fn : FuncId} {kind : CallKind} {ro : Option Nat} {a : Act} {todo k : List Item} {cs : List Frame} {ops : Array Oper} {i : Nat} {rest : List Nat} {v : Value}
theorem eval_mk (x : Operand) : (mkF fn kind ro a todo).eval x = a.eval x := by cases x <;> rfl
theorem eval_mk' : (mkF fn kind ro a todo).eval = a.eval := funext eval_mk
theorem finish_mk : (mkF fn kind ro a (.inRegion ops (i :: rest) :: k)).finish v = mkF fn kind ro (a.put ((ops[i]?).bind (·.dst)) v) (.inRegion ops rest :: k) := by
  cases h : (ops[i]?).bind (·.dst) <;> simp [Frame.finish, mkF, Act.put, h]
theorem mk_skip : step P (lone (mkF fn kind ro a (.code .skip :: k)) cs w) = .next (lone (mkF fn kind ro a k) cs w) := step_lone_go (by simp [stepG, stepG.exec, mkF])
theorem mk_label {l : Nat} : step P (lone (mkF fn kind ro a (.code (.label l) :: k)) cs w) = .next (lone (mkF fn kind ro a k) cs w) := step_lone_go (by simp [stepG, stepG.exec, mkF])
theorem mk_inBlock {id : Nat} : step P (lone (mkF fn kind ro a (.inBlock id :: k)) cs w) = .next (lone (mkF fn kind ro a k) cs w) := step_lone_go (by simp [stepG, stepG.exec, mkF])
theorem mk_inScope {x : Code} : step P (lone (mkF fn kind ro a (.inScope x :: k)) cs w) = .next (lone (mkF fn kind ro a k) cs w) := step_lone_go (by simp [stepG, stepG.exec, mkF])
theorem mk_seq {x y : Code} : step P (lone (mkF fn kind ro a (.code (.seq x y) :: k)) cs w) = .next (lone (mkF fn kind ro a (.code x :: .code y :: k)) cs w) := step_lone_go (by simp [stepG, stepG.exec, mkF])
theorem mk_cond {c : Operand} {x y : Code} {t : Bool} (h : a.eval c = .bool t) : step P (lone (mkF fn kind ro a (.code (.cond c x y) :: k)) cs w) = .next (lone (mkF fn kind ro a (.code (if t then x else y) :: k)) cs w) :=
  step_lone_go (by
    have := eval_mk (fn := fn) (kind := kind) (ro := ro) (a := a) (todo := .code (.cond c x y) :: k) c
    simp only [mkF] at this
    simp [stepG, stepG.exec, mkF, this, h])
theorem mk_block {id : Nat} {x : Code} : step P (lone (mkF fn kind ro a (.code (.block id x) :: k)) cs w) = .next (lone (mkF fn kind ro a (.code x :: .inBlock id :: k)) cs w) := step_lone_go (by simp [stepG, stepG.exec, mkF])
theorem mk_loop {x : Code} : step P (lone (mkF fn kind ro a (.code (.loop x) :: k)) cs w) = .next (lone (mkF fn kind ro a (.code x :: .inLoop x :: k)) cs w) := step_lone_go (by simp [stepG, stepG.exec, mkF])
theorem mk_inLoop {x : Code} : step P (lone (mkF fn kind ro a (.inLoop x :: k)) cs w) = .next (lone (mkF fn kind ro a (.code x :: .inLoop x :: k)) cs w) := step_lone_go (by simp [stepG, stepG.exec, mkF])
theorem mk_scope {x : Code} : step P (lone (mkF fn kind ro a (.code (.scope x) :: k)) cs w) = .next (lone (mkF fn kind ro a (.code x :: .inScope x :: k)) cs w) := step_lone_go (by simp [stepG, stepG.exec, mkF])
theorem mk_exit {id : Nat} {k' : List Item} (h : exitTo id k = some k') : step P (lone (mkF fn kind ro a (.code (.exit id) :: k)) cs w) = .next (lone (mkF fn kind ro a k') cs w) := step_lone_go (by simp [stepG, stepG.exec, mkF, h])
theorem mk_goto {l : Nat} {k' : List Item} (h : gotoIn l k = some k') : step P (lone (mkF fn kind ro a (.code (.goto l) :: k)) cs w) = .next (lone (mkF fn kind ro a k') cs w) := step_lone_go (by simp [stepG, stepG.exec, mkF, h])
theorem mk_ret : step P (lone (mkF fn kind none a (.code .ret :: k)) cs w) = .next (lone (mkR fn kind a (.code .ret :: k)) cs w) := step_lone_go (by simp [stepG, stepG.exec, mkF, mkR])
theorem mk_end : step P (lone (mkF fn kind none a []) cs w) = .next (lone (mkR fn kind a []) cs w) := step_lone_go (by simp [stepG, stepG.exec, mkF, mkR])
/-! the end of a round -/
theorem rd_end {l : Nat} {c : Frame} (h : (Instr.endRound l none).run P w = .ok v w') : step P (lone (mkF fn .normal (some l) a []) (c :: cs) w) = .next (lone (c.finish v) cs w') :=
  step_lone_go (by simp [stepG, stepG.exec, mkF, h, doReturn])
theorem rd_ret {l : Nat} {c : Frame} (h : (Instr.endRound l (some .ret)).run P w = .ok v w') : step P (lone (mkF fn .normal (some l) a (.code .ret :: k)) (c :: cs) w) = .next (lone (c.finish v) cs w') :=
  step_lone_go (by simp [stepG, stepG.exec, mkF, h, doReturn])
theorem rd_exit {l id : Nat} {c : Frame} (hk : exitTo id k = none) (h : (Instr.endRound l (some (.exit id))).run P w = .ok v w') : step P (lone (mkF fn .normal (some l) a (.code (.exit id) :: k)) (c :: cs) w) = .next (lone (c.finish v) cs w') :=
  step_lone_go (by simp [stepG, stepG.exec, mkF, h, doReturn, hk])
theorem rd_goto {l g : Nat} {c : Frame} (hk : gotoIn g k = none) (h : (Instr.endRound l (some (.goto g))).run P w = .ok v w') : step P (lone (mkF fn .normal (some l) a (.code (.goto g) :: k)) (c :: cs) w) = .next (lone (c.finish v) cs w') :=
  step_lone_go (by simp [stepG, stepG.exec, mkF, h, doReturn, hk])
theorem rd_begin {l : Nat} (h : (Instr.beginRound l).run P w = .ok () w') : step P (lone (mkF fn kind (some l) a (.beginRound :: k)) cs w) = .next (lone (mkF fn kind (some l) a k) cs w') :=
  step_lone_go (by simp [stepG, stepG.exec, stepG.apply, mkF, h, Frame.finish, Result.andThen])
/-! regions -/
theorem mk_region {id : Nat} : step P (lone (mkF fn kind ro a (.code (.region id ops false) :: k)) cs w) = .next (lone (mkF fn kind ro a (.inRegion ops (List.range ops.size) :: k)) cs w) := step_lone_go (by simp [stepG, stepG.exec, mkF])
theorem mk_region_draw {id : Nat} : step P (lone (mkF fn kind ro a (.code (.region id ops true) :: k)) cs w) =
      .next (lone (mkF fn kind ro a (.inRegion ops (Region.schedule (P.follows .mixedOrders) ops (w.tape w.drawn (.order fn id))) :: k)) cs { w with drawn := w.drawn + 1 }) :=
  step_lone_go (by simp [stepG, stepG.exec, mkF, choose, Sem.run, Question.forced, Question.cut])
theorem mk_region_end : step P (lone (mkF fn kind ro a (.inRegion ops [] :: k)) cs w) = .next (lone (mkF fn kind ro a k) cs w) := step_lone_go (by simp [stepG, stepG.exec, mkF])
theorem mk_op_not {o : Oper} (ho : ops[i]? = some o) (h : Region.wanted o (yielded ops a.tmps) = false) :
    step P (lone (mkF fn kind ro a (.inRegion ops (i :: rest) :: k)) cs w) = .next (lone (mkF fn kind ro (a.put o.dst undef) (.inRegion ops rest :: k)) cs w) := by
  have e := finish_mk (fn := fn) (kind := kind) (ro := ro) (a := a) (ops := ops) (i := i) (rest := rest) (k := k) (v := undef)
  rw [ho] at e
  simp only [Option.bind_some] at e
  rw [← e]
  exact step_lone_go (by simp only [mkF] at *; simp [stepG, stepG.exec, ho, h])
variable {o : Oper}
theorem stepG_mk (ho : ops[i]? = some o) (hw : Region.wanted o (yielded ops a.tmps) = true) (hd : ro = none ∨ ∀ c, o.op ≠ .defer c) :
    stepG P true { frame := mkF fn kind ro a (.inRegion ops (i :: rest) :: k), callers := cs, status := .running, dying := none } w =
      stepG.apply P true (mkF fn kind ro a (.inRegion ops (i :: rest) :: k)) cs none (execOp a.eval o) w := by
  have he := eval_mk' (fn := fn) (kind := kind) (ro := ro) (a := a) (todo := .inRegion ops (i :: rest) :: k)
  simp only [mkF] at he
  rcases hd with rfl | hd
  · simp [stepG, stepG.exec, stepG.oper, Frame.oper?, mkF, ho, hw, he]
  · cases ro with
    | none => simp [stepG, stepG.exec, stepG.oper, Frame.oper?, mkF, ho, hw, he]
    | some l =>
      simp only [stepG, stepG.exec, stepG.oper, Frame.oper?, mkF, ho, hw, he, Option.map_some, Option.getD_some, if_true]
      obtain ⟨dst, op, ty, pos, after, guard⟩ := o
      cases op <;> first | rfl | exact absurd rfl (hd _)
theorem mk_op_value (ho : ops[i]? = some o) (hw : Region.wanted o (yielded ops a.tmps) = true) (hd : ro = none ∨ ∀ c, o.op ≠ .defer c) (hr : (execOp a.eval o).run P w = .ok (.value v) w') :
    step P (lone (mkF fn kind ro a (.inRegion ops (i :: rest) :: k)) cs w) = .next (lone (mkF fn kind ro (a.put o.dst v) (.inRegion ops rest :: k)) cs w') := by
  have e := finish_mk (fn := fn) (kind := kind) (ro := ro) (a := a) (ops := ops) (i := i) (rest := rest) (k := k) (v := v)
  rw [ho] at e
  simp only [Option.bind_some] at e
  rw [← e]
  exact step_lone_go (by rw [stepG_mk ho hw hd]; simp [stepG.apply, hr])
theorem mk_op_skip (ho : ops[i]? = some o) (hw : Region.wanted o (yielded ops a.tmps) = true) (hd : ro = none ∨ ∀ c, o.op ≠ .defer c) (hr : (execOp a.eval o).run P w = .ok .skip w') :
    step P (lone (mkF fn kind ro a (.inRegion ops (i :: rest) :: k)) cs w) = .next (lone (mkF fn kind ro (a.put o.dst undef) (.inRegion ops rest :: k)) cs w') := by
  have e := finish_mk (fn := fn) (kind := kind) (ro := ro) (a := a) (ops := ops) (i := i) (rest := rest) (k := k) (v := undef)
  rw [ho] at e
  simp only [Option.bind_some] at e
  rw [← e]
  exact step_lone_go (by rw [stepG_mk ho hw hd]; simp [stepG.apply, hr])
theorem mk_op_enter {f : FuncId} {args : Array Value} (ho : ops[i]? = some o) (hw : Region.wanted o (yielded ops a.tmps) = true) (hd : ro = none ∨ ∀ c, o.op ≠ .defer c) (hr : (execOp a.eval o).run P w = .ok (.enter f args) w') :
    step P (lone (mkF fn kind ro a (.inRegion ops (i :: rest) :: k)) cs w) = .next (lone (Frame.enter P f args .normal) (mkF fn kind ro a (.inRegion ops (i :: rest) :: k) :: cs) w') :=
  step_lone_go (by rw [stepG_mk ho hw hd]; simp [stepG.apply, hr, mkF])
theorem mk_op_round {l f : Nat} {tmps : Array Value} {asg body : Code} (ho : ops[i]? = some o) (hw : Region.wanted o (yielded ops a.tmps) = true) (hd : ro = none ∨ ∀ c, o.op ≠ .defer c) (hr : (execOp a.eval o).run P w = .ok (.round l f tmps asg body) w') :
    step P (lone (mkF fn kind ro a (.inRegion ops (i :: rest) :: k)) cs w) = .next (lone (Frame.round l f tmps asg body .normal) (mkF fn kind ro a (.inRegion ops (i :: rest) :: k) :: cs) w') :=
  step_lone_go (by rw [stepG_mk ho hw hd]; simp [stepG.apply, hr, mkF])
theorem mk_op_defer {d : Deferred} (ho : ops[i]? = some o) (hw : Region.wanted o (yielded ops a.tmps) = true) (hd : ro = none) (hr : (execOp a.eval o).run P w = .ok (.defer d) w') :
    step P (lone (mkF fn kind ro a (.inRegion ops (i :: rest) :: k)) cs w) = .next (lone (mkF fn kind ro (({ a with defers := d :: a.defers } : Act).put o.dst undef) (.inRegion ops rest :: k)) cs w') := by
  have e := finish_mk (fn := fn) (kind := kind) (ro := ro) (a := { a with defers := d :: a.defers }) (ops := ops) (i := i) (rest := rest) (k := k) (v := undef)
  rw [ho] at e
  simp only [Option.bind_some] at e
  rw [← e]
  exact step_lone_go (by rw [stepG_mk ho hw (.inl hd)]; simp [stepG.apply, hr, mkF])
theorem mk_op_recover (ho : ops[i]? = some o) (hw : Region.wanted o (yielded ops a.tmps) = true) (hr : (execOp a.eval o).run P w = .ok .recover w') (ht : ∀ todo, tryRecover (mkF fn kind none a todo) cs = none) :
    step P (lone (mkF fn kind none a (.inRegion ops (i :: rest) :: k)) cs w) = .next (lone (mkF fn kind none (a.put o.dst .nilIface) (.inRegion ops rest :: k)) cs w') := by
  have e := finish_mk (fn := fn) (kind := kind) (ro := none) (a := a) (ops := ops) (i := i) (rest := rest) (k := k) (v := .nilIface)
  rw [ho] at e
  simp only [Option.bind_some] at e
  rw [← e]
  have ht' := ht (.inRegion ops (i :: rest) :: k)
  simp only [mkF] at ht'
  exact step_lone_go (by rw [stepG_mk ho hw (.inl rfl)]; simp [stepG.apply, hr, mkF, ht'])
end
end Go.Abs

set_option autoImplicit false
set_option linter.unusedSimpArgs false
namespace Go.Abs
variable {E : Env} {P : Program} {N : Nat} {φ φ' : Phi} {w w' : World}
/-! temporaries -/
theorem Tm.get_put (t : Tm) (d : Nat) (v : AVal) (k : Nat) : (t.put d v).get k = if k = d then some v else t.get k := by
  obtain ⟨m, base, loc⟩ := t
  show (tmPut d v m base loc).get k = if k = d then some v else tmGet k m base loc
  unfold tmPut
  rw [ife_eq]
  by_cases hb : bit m d = true
  · rw [if_pos hb]
    show tmGet k m (base.set d v) loc = _
    unfold tmGet
    rw [ife_eq, ife_eq, Tr.get_set]
    by_cases hk : k = d
    · subst hk; rw [if_pos hb, if_pos rfl, if_pos rfl]
    · rw [if_neg hk, if_neg hk]
  · rw [if_neg hb]
    show tmGet k m base ((d, v) :: loc) = _
    unfold tmGet
    rw [ife_eq, ife_eq]
    by_cases hk : k = d
    · subst hk
      rw [if_neg hb, if_pos rfl]
      show ife (Nat.beq k k) (some v) (assoc k loc) = _
      rw [show Nat.beq k k = true from Nat.beq_refl k]; rfl
    · rw [if_neg hk]
      by_cases hbk : bit m k = true
      · rw [if_pos hbk, if_pos hbk]
      · rw [if_neg hbk, if_neg hbk]
        show ife (Nat.beq d k) (some v) (assoc k loc) = _
        rw [show Nat.beq d k = false from by rw [Bool.eq_false_iff]; intro q; exact hk (beq_true q).symm]; rfl
def DfRel (P : Program) (φ : Phi) : List ADef → List Deferred → Prop
  | [], [] => True
  | .coll b :: l, d :: ds => (∃ lb, φ b = some lb ∧ d = { target := .collected lb.blk, args := #[] }) ∧ DfRel P φ l ds
  | .fn v :: l, d :: ds => (∃ x, den φ v = some x ∧ ∀ w, (Deferred.ofValue x #[]).run P w = .ok d w) ∧ DfRel P φ l ds
  | _, _ => False
theorem DfRel.mono (h : PExt φ φ') : ∀ {l : List ADef} {ds : List Deferred}, DfRel P φ l ds → DfRel P φ' l ds
  | [], [], _ => trivial
  | .coll _ :: _, _ :: _, ⟨⟨lb, e, q⟩, k⟩ => ⟨⟨lb, h _ _ e, q⟩, DfRel.mono h k⟩
  | .fn _ :: _, _ :: _, ⟨⟨x, e, q⟩, k⟩ => ⟨⟨x, den_mono h _ _ e, q⟩, DfRel.mono h k⟩
/-- the temporaries and the deferred calls of a frame -/
structure TmRel (P : Program) (φ : Phi) (c : FC) (tm : Tm) (df : List ADef) (a : Act) : Prop where
  size : a.tmps.size = c.nt
  tmv : ∀ k v, tm.get k = some v → den φ v = some (a.tmps.getD k undef)
  msk : ∀ k v, tm.base.get k = some v → bit tm.mask k = true ∧ k < c.nt
  df : c.round = false → DfRel P φ df a.defers
theorem TmRel.mono {c : FC} {tm : Tm} {df : List ADef} {a : Act} (h : PExt φ φ') (k : TmRel P φ c tm df a) : TmRel P φ' c tm df a :=
  ⟨k.size, fun i v e => den_mono h _ _ (k.tmv i v e), k.msk, fun e => (k.df e).mono h⟩
structure StRel (E : Env) (P : Program) (N : Nat) (φ : Phi) (c : FC) (s : St) (a : Act) (w : World) : Prop where
  t : TmRel P φ c s.tm s.df a
  rel : Rel E N φ s.h.get w
  fresh : Fresh s.h.next φ s.h.get
theorem TmRel.drop {c : FC} {tm : Tm} {df : List ADef} {a : Act} (k : TmRel P φ c tm df a) : TmRel P φ c tm.drop df a := by
  refine ⟨k.size, fun i v e => k.tmv i v ?_, k.msk, k.df⟩
  obtain ⟨m, base, loc⟩ := tm
  have e : tmGet i m base [] = some v := e
  show tmGet i m base loc = some v
  unfold tmGet at e ⊢
  rw [ife_eq] at e ⊢
  split at e
  · next h => rw [if_pos h]; exact e
  · cases e
theorem TmRel.base {c : FC} {tm : Tm} {df : List ADef} {a : Act} (k : TmRel P φ c tm df a) : TRel φ c.nt tm.base.get a.tmps := by
  refine ⟨k.size, fun i v e => ⟨(k.msk i v e).2, k.tmv i v ?_⟩⟩
  obtain ⟨m, base, loc⟩ := tm
  show tmGet i m base loc = some v
  unfold tmGet
  rw [ife_eq, if_pos (k.msk i v e).1]; exact e
theorem TmRel.opds {c : FC} {tm : Tm} {df : List ADef} {a : Act} (k : TmRel P φ c tm df a) : OpdsOK φ tm a.eval := by
  intro o v h
  cases o with
  | tmp t => exact k.tmv t v h
  | const x => exact absV_den 9 x v h _
  | global g =>
    obtain rfl : v = .g g 0 := (Option.some.inj (show some (AVal.g g 0) = some v from h)).symm
    simp only [den]; rfl
  | func f =>
    obtain rfl : v = .f (.func f) [] [] := (Option.some.inj (show some (AVal.f (.func f) [] []) = some v from h)).symm
    simp only [den, denFn, denL]; rfl
theorem bit_put (t : Tm) (d : Nat) (v : AVal) : (t.put d v).mask = t.mask := by
  obtain ⟨m, base, loc⟩ := t
  show (tmPut d v m base loc).mask = m
  unfold tmPut; rw [ife_eq]; split <;> rfl
theorem TmRel.put {c : FC} {tm : Tm} {df : List ADef} {a : Act} {d : Nat} {v : AVal} {y : Value} (k : TmRel P φ c tm df a) (hd : d < c.nt) (hv : den φ v = some y) : TmRel P φ c (tm.put d v) df (a.put (some d) y) := by
  refine ⟨by simp [Act.put, k.size], fun i u e => ?_, fun i u e => ?_, k.df⟩
  · rw [Tm.get_put] at e
    simp only [Act.put]
    by_cases hi : i = d
    · subst hi
      rw [if_pos rfl] at e
      obtain rfl := Option.some.inj e
      rw [hv]
      simp [Array.getD_eq_getD_getElem?, k.size, hd]
    · rw [if_neg hi] at e
      rw [k.tmv i u e]
      simp only [Array.getD_eq_getD_getElem?]
      rw [Array.getElem?_setIfInBounds_ne (by omega)]
  · rw [bit_put]
    obtain ⟨m, base, loc⟩ := tm
    have e : (tmPut d v m base loc).base.get i = some u := e
    unfold tmPut at e
    rw [ife_eq] at e
    split at e
    · next hb =>
      have e : (base.set d v).get i = some u := e
      rw [Tr.get_set] at e
      split at e
      · next hi => subst hi; exact ⟨hb, hd⟩
      · exact k.msk i u e
    · exact k.msk i u e
theorem putD_rel {c : FC} {s s' : St} {a : Act} {d : Option Nat} {v : AVal} {y : Value} (h : putD c s d v = some s') (k : TmRel P φ c s.tm s.df a) (hv : den φ v = some y) : TmRel P φ c s'.tm s'.df (a.put d y) ∧ s'.h = s.h := by
  cases d with
  | none => obtain rfl := Option.some.inj h; exact ⟨k, rfl⟩
  | some d =>
    obtain ⟨h1, h2⟩ := chk_some (show chk (lt d c.nt) (some (stPut d v s)) = some s' from h)
    obtain rfl := Option.some.inj h2
    obtain ⟨tm, df, h⟩ := s
    exact ⟨k.put (lt_true h1) hv, rfl⟩
theorem wants_run {c : FC} {tm : Tm} {df : List ADef} {a : Act} {ops : Array Oper} {o : Oper} {b : Bool} (k : TmRel P φ c tm df a) (h : wants ops.toList tm o.guard = some b) : Region.wanted o (yielded ops a.tmps) = b := by
  unfold Region.wanted
  cases hg : o.guard with
  | none =>
    rw [hg] at h
    exact Option.some.inj (show some true = some b from h)
  | some g =>
    rw [hg] at h
    obtain ⟨p, h1, h2⟩ := ob_some (show wantG ops.toList tm g = some b from h)
    obtain ⟨d, h3, h4⟩ := ob_some h2
    obtain ⟨v, h5, h6⟩ := ob_some h4
    obtain ⟨j, want⟩ := g
    have e := k.tmv d _ h5
    rw [nth_eq, Array.getElem?_toList] at h1
    have h6 : Option.rec (motive := fun _ => Option Bool) (ob (asTup v) fun _ => some false) (fun x => some (iff2 want x)) (asB v) = some b := h6
    cases hb : asB v with
    | some x =>
      rw [hb] at h6
      obtain rfl := Option.some.inj h6
      obtain rfl := asB_some hb
      have e := den_b e
      have hlt : d < a.tmps.size := by
        apply Decidable.byContradiction
        intro hn
        rw [Array.getD_eq_getD_getElem?, Array.getElem?_eq_none (Nat.le_of_not_lt hn)] at e
        cases e
      have hy : yielded ops a.tmps j = some x := by
        unfold yielded
        rw [h1]
        simp only [Option.bind_some, h3]
        rw [Array.getElem?_eq_getElem hlt]
        rw [Array.getD_eq_getD_getElem?, Array.getElem?_eq_getElem hlt, Option.getD_some] at e
        rw [e]
      simp only [hy, iff2_eq]
      cases x <;> cases want <;> rfl
    | none =>
      rw [hb] at h6
      obtain ⟨l, h7, h8⟩ := ob_some h6
      obtain rfl := Option.some.inj h8
      obtain rfl := asTup_some h7
      have hy : yielded ops a.tmps j = none := by
        unfold yielded
        rw [h1]
        simp only [Option.bind_some, h3]
        obtain ⟨ys, _, e2⟩ : ∃ ys, denL φ l = some ys ∧ a.tmps.getD d undef = .tuple ys.toArray := by
          simp only [den] at e
          cases hl : denL φ l with
          | none => rw [hl] at e; cases e
          | some ys => rw [hl] at e; exact ⟨ys, rfl, (Option.some.inj e).symm⟩
        rcases Nat.lt_or_ge d a.tmps.size with hs | hs
        · rw [Array.getElem?_eq_getElem hs]
          rw [Array.getD_eq_getD_getElem?, Array.getElem?_eq_getElem hs, Option.getD_some] at e2
          rw [e2]
        · rw [Array.getElem?_eq_none hs]
      simp only [hy]
      cases want <;> rfl
/-! arrivals -/
def KindOK (kind : CallKind) (cs : List Frame) : Prop := kind = .normal ∨ (kind = .deferred ∧ ∃ c rest, cs = c :: rest ∧ c.mode = .returning)
theorem KindOK.recover {fn : FuncId} {kind : CallKind} {cs : List Frame} {a : Act} (h : KindOK kind cs) (todo : List Item) : tryRecover (mkF fn kind none a todo) cs = none := by
  rcases h with rfl | ⟨rfl, c, rest, rfl, hc⟩
  · simp [tryRecover, mkF]
  · simp [tryRecover, mkF, hc]
def Arr (P : Program) (m : Machine) (fn : FuncId) (kind : CallKind) (ro : Option Nat) (cs : List Frame) (k : List Item) (e : Ex) (a : Act) (w : World) : Prop := match e with
  | .normal => Steps P m (lone (mkF fn kind ro a k) cs w)
  | .exit id => ∃ k1, exitTo id k1 = exitTo id k ∧ Steps P m (lone (mkF fn kind ro a (.code (.exit id) :: k1)) cs w)
  | .goto l => ∃ k1, gotoIn l k1 = gotoIn l k ∧ Steps P m (lone (mkF fn kind ro a (.code (.goto l) :: k1)) cs w)
  | .ret => ∃ k1, Steps P m (lone (mkF fn kind ro a (.code .ret :: k1)) cs w)
theorem Arr.of_steps {m m' : Machine} {fn : FuncId} {kind : CallKind} {ro : Option Nat} {cs : List Frame} {k : List Item} {e : Ex} {a : Act} (h : Steps P m m') (h' : Arr P m' fn kind ro cs k e a w) : Arr P m fn kind ro cs k e a w := by
  cases e with
  | normal => exact h.trans h'
  | exit id => obtain ⟨k1, q, s⟩ := h'; exact ⟨k1, q, h.trans s⟩
  | goto l => obtain ⟨k1, q, s⟩ := h'; exact ⟨k1, q, h.trans s⟩
  | ret => obtain ⟨k1, s⟩ := h'; exact ⟨k1, h.trans s⟩
def CodeOK (E : Env) (P : Program) (N : Nat) (items : List Item) (c : FC) (s : St) (q : Res) : Prop :=
  ∀ φ a w kind ro k cs, KindOK kind cs → ro.isSome = c.round → StRel E P N φ c s a w →
    ∃ φ' a' w', Goes E N φ s.h w φ' q.s.h w' ∧ TmRel P φ' c q.s.tm q.s.df a' ∧ Arr P (lone (mkF c.f kind ro a (items ++ k)) cs w) c.f kind ro cs k q.e a' w'
/-- a frame that leaves -/
def Left (P : Program) (f : FuncId) (kind : CallKind) (fr : Frame) (w : World) (v : Value) : Prop :=
  fr.mode = .returning ∧ fr.defers = [] ∧ fr.kind = kind ∧ fr.fn = f ∧ ∃ fn, P.funcs[f]? = some fn ∧ (results fn fr.tmps).run P w = .ok v w
def CallOK (E : Env) (P : Program) (N : Nat) (f : Nat) (args : List AVal) (h : Heap) (q : CR) : Prop :=
  ∀ φ w as kind cs, KindOK kind cs → Rel E N φ h.get w → Fresh h.next φ h.get → denL φ args = some as →
    ∃ φ' w' fr y, Goes E N φ h w φ' q.h w' ∧ den φ' q.v = some y ∧ Steps P (lone (Frame.enter P f as.toArray kind) cs w) (lone fr cs w') ∧ Left P f kind fr w' y
/-- the same of a call that is not deferred -/
def CallN (E : Env) (P : Program) (N : Nat) (f : Nat) (args : List AVal) (h : Heap) (q : CR) : Prop :=
  ∀ φ w as cs, Rel E N φ h.get w → Fresh h.next φ h.get → denL φ args = some as →
    ∃ φ' w' fr y, Goes E N φ h w φ' q.h w' ∧ den φ' q.v = some y ∧ Steps P (lone (Frame.enter P f as.toArray .normal) cs w) (lone fr cs w') ∧ Left P f .normal fr w' y
theorem CallOK.toN {f : Nat} {args : List AVal} {h : Heap} {q : CR} (hc : CallOK E P N f args h q) : CallN E P N f args h q := fun φ w as cs R F hd => hc φ w as .normal cs (.inl rfl) R F hd
def RoundOK (E : Env) (P : Program) (N : Nat) (l : Nat) (args : List AVal) (h : Heap) (q : CR) : Prop :=
  ∀ φ w as lb, φ l = some lb → Rel E N φ h.get w → Fresh h.next φ h.get → denL φ args = some as →
    ∃ f tmps asg bd, (Instr.yield lb.blk as.toArray).run P w = .ok (.round lb.blk f tmps asg bd) w ∧
      ∀ c cs, ∃ φ' w' y, Goes E N φ h w φ' q.h w' ∧ den φ' q.v = some y ∧ Steps P (lone (Frame.round lb.blk f tmps asg bd .normal) (c :: cs) w) (lone (c.finish y) cs w')
structure RecOK (E : Env) (P : Program) (N : Nat) (r : Rec) : Prop where
  call : ∀ f args h q, r.call f args h = some q → CallN E P N f args h q
  round : ∀ l args h q, r.round l args h = some q → RoundOK E P N l args h q
  code : ∀ c x s q, r.code c x s = some q → CodeOK E P N [.code x] c s q ∧ ∀ b, x = .loop b → CodeOK E P N [.inLoop b] c s q
  scope : ∀ c b rest s q, r.scope c b rest s = some q → CodeOK E P N [.code rest, .inScope b] c s q
  dcall : ∀ f args h q, r.dcall f args h = some q → CallOK E P N f args h q
theorem step_left {f : FuncId} {fr c : Frame} {cs : List Frame} {v : Value} (h : Left P f .normal fr w v) : step P (lone fr (c :: cs) w) = .next (lone (c.finish v) cs w) := by
  obtain ⟨hm, hd, hk, hf, fn, hfn, hr⟩ := h
  exact step_leave_returned ⟨hm, hd, hk, fn, by rw [hf]; exact hfn, hr⟩
theorem step_left_deferred {f : FuncId} {fr c : Frame} {cs : List Frame} {v : Value} (h : Left P f .deferred fr w v) (hc : c.mode = .returning) : step P (lone fr (c :: cs) w) = .next (lone c cs w) := by
  obtain ⟨hm, hd, hk, rfl, fn, hfn, hr⟩ := h
  exact step_lone_go (by simp [stepG, unwind, doReturn, hm, hd, hk, hfn, hr, hc])
end Go.Abs

set_option autoImplicit false
set_option linter.unusedSimpArgs false
namespace Go.Abs
variable {E : Env} {P : Program} {N : Nat} {φ φ' : Phi} {w w' : World}
theorem den_undef (φ : Phi) : den φ undefA = some undef := by simp only [undefA, den, denL]; rfl
theorem special_none {op : Op} (h : specialT op = none) : ∀ c, op ≠ .defer c := by
  intro c e; subst e
  obtain ⟨callee, args, ts⟩ := c
  cases h
theorem isFn_some {v : AVal} (h : isFn v = true) : ∃ fn a c, v = .f fn a c := by
  unfold isFn at h
  rcases asF_cases v with ⟨rfl, e⟩ | ⟨fn, a, c, rfl, e⟩ | e
  · rw [e] at h; cases h
  · exact ⟨_, _, _, rfl⟩
  · rw [e] at h; cases h
section
variable {r : Rec} {c : FC} {s s' : St} {ops : Array Oper} {o : Oper} {i : Nat} {nx : Nx} {a : Act} {kind : CallKind} {ro : Option Nat} {rest : List Nat} {k : List Item} {cs : List Frame}
def OpOK (E : Env) (P : Program) (N : Nat) (φ : Phi) (w : World) (c : FC) (s s' : St) (ops : Array Oper) (i : Nat) (a : Act) (kind : CallKind) (ro : Option Nat) (rest : List Nat) (k : List Item) (cs : List Frame) : Prop :=
  ∃ φ' a' w', Goes E N φ s.h w φ' s'.h w' ∧ TmRel P φ' c s'.tm s'.df a' ∧ Steps P (lone (mkF c.f kind ro a (.inRegion ops (i :: rest) :: k)) cs w) (lone (mkF c.f kind ro a' (.inRegion ops rest :: k)) cs w')
theorem op_run_in {tm1 : Tm} (ht : ∀ φ ρ, OpdsOK φ s.tm ρ → OpdsOK φ tm1 ρ) (hE : EnvOK E P) (hr : RecOK E P N r) (ho : ops[i]? = some o) (hw : Region.wanted o (yielded ops a.tmps) = true) (hx : execS c o.op E tm1 s.h = some nx) (hd : doNx nx r c s o.dst = some s')
    (hk : KindOK kind cs) (hro : ro.isSome = c.round) (S : StRel E P N φ c s a w) : OpOK E P N φ w c s s' ops i a kind ro rest k cs := by
  unfold execS at hx
  cases hsp : specialT o.op with
  | none =>
    rw [hsp] at hx
    have hx : execT o.op E s.h s.h.next tm1 = some nx := hx
    have hnd := special_none hsp
    have hid := (S.fresh s.h.next (Nat.le_refl _)).1
    have K := exec_run hE S.rel S.fresh hid (ht _ _ S.t.opds) hx
    cases nx with
    | val v =>
      obtain ⟨y, h1, h2⟩ := K
      obtain ⟨h3, h4⟩ := putD_rel (show putD c s o.dst v = some s' from hd) S.t h2
      exact ⟨φ, _, w, by rw [h4]; exact Goes.refl S.rel S.fresh, h3, .one (mk_op_value ho hw (.inr hnd) h1)⟩
    | new o' v =>
      obtain ⟨x, ext, y, w', h1, h2, h3, h4, h5, h6, h7⟩ := K
      have G := Goes.new S.rel S.fresh h2 h3 h4 h5 h6
      obtain ⟨q1, q2⟩ := putD_rel (s := stHeap (s.h.new o') s) (show putD c (stHeap (s.h.new o') s) o.dst v = some s' from hd) (S.t.mono G.ext) h7
      exact ⟨_, _, w', by rw [q2]; exact G, q1, .one (mk_op_value ho hw (.inr hnd) h1)⟩
    | eff v h' =>
      obtain ⟨w', φ', G, h1⟩ := K
      rcases h1 with ⟨y, h1, h2⟩ | ⟨h1, h2⟩
      · obtain ⟨q1, q2⟩ := putD_rel (s := stHeap h' s) (show putD c (stHeap h' s) o.dst v = some s' from hd) (S.t.mono G.ext) h2
        exact ⟨φ', _, w', by rw [q2]; exact G, q1, .one (mk_op_value ho hw (.inr hnd) h1)⟩
      · subst h2
        obtain ⟨q1, q2⟩ := putD_rel (s := stHeap h' s) (show putD c (stHeap h' s) o.dst (.tup []) = some s' from hd) (S.t.mono G.ext) (den_undef φ')
        exact ⟨φ', _, w', by rw [q2]; exact G, q1, .one (mk_op_skip ho hw (.inr hnd) h1)⟩
    | enter f args =>
      obtain ⟨as, h1, h2, _⟩ := K
      obtain ⟨q, h3, h4⟩ := ob_some (show ob (r.call f args s.h) (nCR c s o.dst) = some s' from hd)
      obtain ⟨v, h'⟩ := q
      obtain ⟨φ', w', fr, y, G, h5, h6, h7⟩ := hr.call f args s.h _ h3 φ w as (mkF c.f kind ro a (.inRegion ops (i :: rest) :: k) :: cs) S.rel S.fresh h2
      obtain ⟨q1, q2⟩ := putD_rel (s := stHeap h' s) (show putD c (stHeap h' s) o.dst v = some s' from h4) (S.t.mono G.ext) h5
      refine ⟨φ', _, w', by rw [q2]; exact G, q1, .head (mk_op_enter ho hw (.inr hnd) h1) (h6.trans (.one ?_))⟩
      have e := step_left (c := mkF c.f kind ro a (.inRegion ops (i :: rest) :: k)) (cs := cs) h7
      rw [finish_mk, ho] at e
      exact e
    | round l args =>
      obtain ⟨lb, as, h1, h2, h3⟩ := K
      obtain ⟨q, h4, h5⟩ := ob_some (show ob (r.round l args s.h) (nCR c s o.dst) = some s' from hd)
      obtain ⟨v, h'⟩ := q
      obtain ⟨f, tmps, asg, bd, e1, K2⟩ := hr.round l args s.h _ h4 φ w as lb h1 S.rel S.fresh h2
      obtain ⟨φ', w', y, G, e2, e⟩ := K2 (mkF c.f kind ro a (.inRegion ops (i :: rest) :: k)) cs
      obtain ⟨q1, q2⟩ := putD_rel (s := stHeap h' s) (show putD c (stHeap h' s) o.dst v = some s' from h5) (S.t.mono G.ext) e2
      refine ⟨φ', _, w', by rw [q2]; exact G, q1, .head (mk_op_round ho hw (.inr hnd) (h3.trans e1)) ?_⟩
      rw [finish_mk, ho] at e
      exact e
    | defer v => exact K.elim
  | some f =>
    rw [hsp] at hx
    have hx : f c tm1 = some nx := hx
    obtain ⟨dst, op, ty, pos, after, guard⟩ := o
    cases op with
    | call cl =>
      obtain ⟨callee, args, ts⟩ := cl
      cases callee with
      | builtin b =>
        cases b with
        | recover =>
          obtain rfl : f = sRecover := (Option.some.inj (show some sRecover = some f from hsp)).symm
          obtain ⟨h1, h2⟩ := chk_some (show chk (Bool.not c.round) (some (.val .i0)) = some nx from hx)
          obtain rfl := Option.some.inj h2
          have hn : ro = none := by
            cases ro with
            | none => rfl
            | some l =>
              rw [Option.isSome_some] at hro
              rw [← hro] at h1; cases h1
          subst hn
          obtain ⟨q1, q2⟩ := putD_rel (show putD c s dst .i0 = some s' from hd) S.t (y := .nilIface) (by simp only [den])
          refine ⟨φ, _, w, by rw [q2]; exact Goes.refl S.rel S.fresh, q1, .one (mk_op_recover ho hw rfl fun todo => hk.recover todo)⟩
        | _ => cases hsp
      | _ => cases hsp
    | defer cl =>
      obtain ⟨callee, args, ts⟩ := cl
      cases callee with
      | value fo =>
        obtain rfl : f = sDefer (lenL args.toList) fo := (Option.some.inj (show some (sDefer (lenL args.toList) fo) = some f from hsp)).symm
        obtain ⟨h1, h2⟩ := chk_some (show chk (Bool.not c.round) (chk (Nat.beq (lenL args.toList) (nat_lit 0)) (ob (opd fo tm1) fun v => chk (isFn v) (some (.defer v)))) = some nx from hx)
        obtain ⟨h3, h4⟩ := chk_some h2
        obtain ⟨v, h5, h6⟩ := ob_some h4
        obtain ⟨h7, h8⟩ := chk_some h6
        obtain rfl := Option.some.inj h8
        have hn : ro = none := by
          cases ro with
          | none => rfl
          | some l =>
            rw [Option.isSome_some] at hro
            rw [← hro] at h1; cases h1
        subst hn
        have hargs : args.map a.eval = #[] := by
          have : args.toList.length = 0 := by rw [← lenL_eq]; exact beq_true h3
          apply Array.ext'; simp [List.eq_nil_of_length_eq_zero this]
        have hv := ht _ _ S.t.opds fo v h5
        obtain ⟨fn, fa, fc, rfl⟩ := isFn_some h7
        obtain ⟨fn', fa', fc', _, _, _, e⟩ := den_f hv
        have hof : ∀ w, (Deferred.ofValue (a.eval fo) #[]).run P w = .ok ⟨.fn fn' fc'.toArray, fa'.toArray ++ #[]⟩ w := fun w => by rw [e]; rfl
        have hrun : (execOp a.eval ⟨dst, .defer ⟨.value fo, args, ts⟩, ty, pos, after, guard⟩).run P w = .ok (.defer ⟨.fn fn' fc'.toArray, fa'.toArray ++ #[]⟩) w := by
          show (do pure (.defer (← Deferred.ofValue (a.eval fo) (args.map a.eval))) : Sem Next).run P w = _
          rw [hargs]
          simp only [Sem.run_bind, hof, Result.andThen, Sem.run_pure]
        have hT : TmRel P φ c s.tm (.fn (.f fn fa fc) :: s.df) { a with defers := ⟨.fn fn' fc'.toArray, fa'.toArray ++ #[]⟩ :: a.defers } := ⟨S.t.size, S.t.tmv, S.t.msk, fun e => ⟨⟨_, hv, hof⟩, S.t.df e⟩⟩
        obtain ⟨q1, q2⟩ := putD_rel (s := ⟨s.tm, .fn (.f fn fa fc) :: s.df, s.h⟩) (show putD c ⟨s.tm, .fn (.f fn fa fc) :: s.df, s.h⟩ dst undefA = some s' from hd) hT (den_undef φ)
        exact ⟨φ, _, w, by rw [q2]; exact Goes.refl S.rel S.fresh, q1, .one (mk_op_defer ho hw rfl hrun)⟩
      | invoke ro' n =>
        obtain rfl : f = sNo := (Option.some.inj (show some sNo = some f from hsp)).symm
        cases hx
      | builtin b =>
        obtain rfl : f = sNo := (Option.some.inj (show some sNo = some f from hsp)).symm
        cases hx
    | _ => cases hsp
theorem op_run (hE : EnvOK E P) (hr : RecOK E P N r) (ho : ops[i]? = some o) (hw : Region.wanted o (yielded ops a.tmps) = true) (hx : execS c o.op E s.tm s.h = some nx) (hd : doNx nx r c s o.dst = some s')
    (hk : KindOK kind cs) (hro : ro.isSome = c.round) (S : StRel E P N φ c s a w) : OpOK E P N φ w c s s' ops i a kind ro rest k cs :=
  op_run_in (fun _ _ h => h) hE hr ho hw hx hd hk hro S
theorem oneOp_run (hE : EnvOK E P) (hr : RecOK E P N r) (ho : ops[i]? = some o) (h : oneOp E r c ops.toList s o = some s')
    (hk : KindOK kind cs) (hro : ro.isSome = c.round) (S : StRel E P N φ c s a w) : OpOK E P N φ w c s s' ops i a kind ro rest k cs := by
  have h : ob (wants ops.toList s.tm o.guard) (fun w => ife w (ob (execS c o.op E s.tm s.h) fun x => doNx x r c s o.dst) (putD c s o.dst undefA)) = some s' := by
    obtain ⟨dst, op, ty, pos, after, guard⟩ := o
    exact h
  obtain ⟨b, h1, h2⟩ := ob_some h
  have hw := wants_run S.t h1
  cases b with
  | true =>
    obtain ⟨x, h3, h4⟩ := ob_some h2
    exact op_run hE hr ho hw h3 h4 hk hro S
  | false =>
    obtain ⟨q1, q2⟩ := putD_rel (show putD c s o.dst undefA = some s' from h2) S.t (den_undef φ)
    exact ⟨φ, _, w, by rw [q2]; exact Goes.refl S.rel S.fresh, q1, .one (mk_op_not ho hw)⟩
theorem plainOps_run (hE : EnvOK E P) (hr : RecOK E P N r) (hk : KindOK kind cs) (hro : ro.isSome = c.round) : ∀ {l : List Oper} {j : Nat} {s s' : St} {φ : Phi} {a : Act} {w : World}, ops.toList.drop j = l → plainOps E r c ops.toList l s = some s' →
    StRel E P N φ c s a w → ∃ φ' a' w', Goes E N φ s.h w φ' s'.h w' ∧ TmRel P φ' c s'.tm s'.df a' ∧ Steps P (lone (mkF c.f kind ro a (.inRegion ops (List.range' j l.length) :: k)) cs w) (lone (mkF c.f kind ro a' k) cs w') := by
  intro l
  induction l with
  | nil =>
    intro j s s' φ a w hl h S
    obtain rfl := Option.some.inj (show some s = some s' from h)
    exact ⟨φ, a, w, Goes.refl S.rel S.fresh, S.t, .one mk_region_end⟩
  | cons o l ih =>
    intro j s s' φ a w hl h S
    obtain ⟨s1, h1, h2⟩ := ob_some (show ob (oneOp E r c ops.toList s o) (plainOps E r c ops.toList l) = some s' from h)
    have ho : ops[j]? = some o := by
      have : (ops.toList.drop j)[0]? = some o := by rw [hl]; rfl
      rw [List.getElem?_drop, Nat.add_zero, Array.getElem?_toList] at this; exact this
    obtain ⟨φ1, a1, w1, G1, T1, S1⟩ := oneOp_run (kind := kind) (cs := cs) (ro := ro) (rest := List.range' (j + 1) l.length) (k := k) hE hr ho h1 hk hro S
    have hl' : ops.toList.drop (j + 1) = l := by rw [← List.drop_drop, hl]; rfl
    obtain ⟨φ2, a2, w2, G2, T2, S2⟩ := ih hl' h2 ⟨T1, G1.rel, G1.fresh⟩
    exact ⟨φ2, a2, w2, G1.trans G2, T2, S1.trans S2⟩
end
end Go.Abs

set_option autoImplicit false
set_option linter.unusedSimpArgs false
namespace Go.Abs
variable {E : Env} {P : Program} {N : Nat} {φ φ' : Phi} {w w' : World}
/-- the rest of a code, from a machine on -/
def Ends (E : Env) (P : Program) (N : Nat) (φ : Phi) (h : Heap) (w : World) (c : FC) (q : Res) (m : Machine) (kind : CallKind) (ro : Option Nat) (cs : List Frame) (k : List Item) : Prop :=
  ∃ φ' a' w', Goes E N φ h w φ' q.s.h w' ∧ TmRel P φ' c q.s.tm q.s.df a' ∧ Arr P m c.f kind ro cs k q.e a' w'
def DrOK (E : Env) (P : Program) (N : Nat) (r : Rec) : Prop := ∀ c id (ops : Array Oper) s s', drawn E r c ops.toList s = some s' → CodeOK E P N [.code (.region id ops true)] c s ⟨.normal, s'⟩
section
variable {r : Rec} {c : FC} {s s1 : St} {q : Res} {m m' : Machine} {kind : CallKind} {ro : Option Nat} {cs : List Frame} {k : List Item} {h : Heap} {e : Ex} {a : Act}
theorem Ends.of_steps (hs : Steps P m m') (h1 : Ends E P N φ h w c q m' kind ro cs k) : Ends E P N φ h w c q m kind ro cs k := by
  obtain ⟨φ', a', w', G, T, A⟩ := h1
  exact ⟨φ', a', w', G, T, A.of_steps hs⟩
theorem Ends.after {h1 : Heap} (G : Goes E N φ h w φ' h1 w') (h2 : Ends E P N φ' h1 w' c q m kind ro cs k) : Ends E P N φ h w c q m kind ro cs k := by
  obtain ⟨φ2, a2, w2, G2, T, A⟩ := h2
  exact ⟨φ2, a2, w2, G.trans G2, T, A⟩
theorem Arr.pass {fn : FuncId} {x : Item} (he : e ≠ .normal) (h1 : ∀ id, exitTo id (x :: k) = exitTo id k) (h2 : ∀ l, gotoIn l (x :: k) = gotoIn l k) (hA : Arr P m fn kind ro cs (x :: k) e a w) : Arr P m fn kind ro cs k e a w := by
  cases e with
  | normal => exact absurd rfl he
  | exit id => obtain ⟨k1, q, s⟩ := hA; exact ⟨k1, q.trans (h1 id), s⟩
  | goto l => obtain ⟨k1, q, s⟩ := hA; exact ⟨k1, q.trans (h2 l), s⟩
  | ret => exact hA
theorem then_run {f : St → Option Res} {x : Item} (hx : thenX f e s1 = some q) (h1 : ∀ id, exitTo id (x :: k) = exitTo id k) (h2 : ∀ l, gotoIn l (x :: k) = gotoIn l k)
    (G : Goes E N φ h w φ' s1.h w') (T : TmRel P φ' c s1.tm s1.df a) (A : Arr P m c.f kind ro cs (x :: k) e a w')
    (hn : e = .normal → f s1 = some q → Ends E P N φ' s1.h w' c q (lone (mkF c.f kind ro a (x :: k)) cs w') kind ro cs k) : Ends E P N φ h w c q m kind ro cs k := by
  cases e with
  | normal => exact .after G (.of_steps A (hn rfl hx))
  | exit id => obtain rfl := Option.some.inj (show some (Res.mk (.exit id) s1) = some q from hx); exact ⟨φ', a, w', G, T, A.pass (by simp) h1 h2⟩
  | goto l => obtain rfl := Option.some.inj (show some (Res.mk (.goto l) s1) = some q from hx); exact ⟨φ', a, w', G, T, A.pass (by simp) h1 h2⟩
  | ret => obtain rfl := Option.some.inj (show some (Res.mk .ret s1) = some q from hx); exact ⟨φ', a, w', G, T, A.pass (by simp) h1 h2⟩
theorem scopeX_run (hr : RecOK E P N r) {b : Code} (hx : scopeX c r b e s1 = some q) (hk : KindOK kind cs) (hro : ro.isSome = c.round)
    (G : Goes E N φ h w φ' s1.h w') (T : TmRel P φ' c s1.tm s1.df a) (A : Arr P m c.f kind ro cs (.inScope b :: k) e a w') : Ends E P N φ h w c q m kind ro cs k := by
  cases e with
  | normal =>
    obtain rfl := Option.some.inj (show some (Res.mk .normal s1) = some q from hx)
    exact ⟨φ', a, w', G, T, Steps.trans A (.one mk_inScope)⟩
  | exit id =>
    obtain rfl := Option.some.inj (show some (Res.mk (.exit id) s1) = some q from hx)
    obtain ⟨k1, e1, S⟩ := A
    exact ⟨φ', a, w', G, T, k1, e1, S⟩
  | goto l =>
    obtain ⟨k1, e1, S⟩ := A
    cases hf : findLabel b l with
    | none =>
      unfold scopeX at hx
      simp only [hf] at hx
      obtain rfl := Option.some.inj hx
      exact ⟨φ', a, w', G, T, k1, by rw [e1]; simp [gotoIn, hf], S⟩
    | some rest =>
      unfold scopeX at hx
      simp only [hf] at hx
      have h2 := hr.scope c b rest s1 q hx φ' a w' kind ro k cs hk hro ⟨T, G.rel, G.fresh⟩
      refine .after G (.of_steps (S.trans (.one (mk_goto ?_))) h2)
      rw [e1]; simp [gotoIn, hf]
  | ret =>
    obtain rfl := Option.some.inj (show some (Res.mk .ret s1) = some q from hx)
    exact ⟨φ', a, w', G, T, A⟩
theorem blockX_run {id : Nat} (hx : blockX id e s1 = some q) (G : Goes E N φ h w φ' s1.h w') (T : TmRel P φ' c s1.tm s1.df a) (A : Arr P m c.f kind ro cs (.inBlock id :: k) e a w') : Ends E P N φ h w c q m kind ro cs k := by
  cases e with
  | normal =>
    obtain rfl := Option.some.inj (show some (Res.mk .normal s1) = some q from hx)
    exact ⟨φ', a, w', G, T, Steps.trans A (.one mk_inBlock)⟩
  | exit i =>
    replace hx : ife (Nat.beq i id) (some (Res.mk .normal s1)) (some (Res.mk (.exit i) s1)) = some q := hx
    obtain ⟨k1, e1, S⟩ := A
    rw [ife_eq] at hx
    split at hx
    · next hi =>
      obtain rfl := beq_true hi
      obtain rfl := Option.some.inj hx
      refine ⟨φ', a, w', G, T, S.trans (.one (mk_exit ?_))⟩
      rw [e1]; simp [exitTo]
    · next hi =>
      obtain rfl := Option.some.inj hx
      refine ⟨φ', a, w', G, T, k1, ?_, S⟩
      rw [e1]
      have : (id == i) = false := by simpa using fun q : id = i => hi (by rw [q]; exact Nat.beq_refl i)
      simp [exitTo, this]
  | goto l =>
    obtain rfl := Option.some.inj (show some (Res.mk (.goto l) s1) = some q from hx)
    obtain ⟨k1, e1, S⟩ := A
    exact ⟨φ', a, w', G, T, k1, e1, S⟩
  | ret =>
    obtain rfl := Option.some.inj (show some (Res.mk .ret s1) = some q from hx)
    exact ⟨φ', a, w', G, T, A⟩
end
/-! a range over a function -/
section
variable {fn : FuncId} {kind : CallKind} {a : Act} {k : List Item} {cs : List Frame} {f : Operand} {ps : Array Tmp} {asg b : Code}
def loopObj (fn : FuncId) (a : Act) (ps : Array Tmp) (asg b : Code) (d : Nat) : Loop := { state := .ready, pending := none, fn, tmps := a.tmps, params := ps, assign := asg, body := b, defers := d }
def inLoopW (w : World) (l : Loop) : World := { w with heap := (w.heap.push (.deferred (some []))).push (.loop l) }
theorem mk_range {g : FuncId} {args : Array Value} {w2 : World}
    (hc : (do let d ← Deferred.ofValue (a.eval f) #[.func (.yield (w.heap.size + 1)) #[] #[]]; invoke d.target d.args : Sem Next).run P (inLoopW w (loopObj fn a ps asg b w.heap.size)) = .ok (.enter g args) w2) :
    step P (lone (mkF fn kind none a (.code (.rangeFunc f ps asg b) :: k)) cs w) =
      .next (lone (Frame.enter P g args .normal) (mkF fn kind none { a with defers := { target := .collected w.heap.size, args := #[] } :: a.defers } (.inRangeFunc (w.heap.size + 1) :: k) :: cs) w2) := by
  have he : (mkF fn kind none { a with defers := { target := .collected w.heap.size, args := #[] } :: a.defers } (.inRangeFunc (w.heap.size + 1) :: k)).eval f = a.eval f := by cases f <;> rfl
  refine step_lone_go ?_
  simp only [inLoopW, loopObj] at hc
  simp only [mkF] at he
  simp only [stepG, stepG.exec, mkF, Instr.enterLoop, Sem.runT_eq, Sem.run_bind, run_newObj, Result.andThen, Sem.run_pure, GStep.bare_after, List.cons_append, List.nil_append, Array.size_push]
  simp only [stepG.apply, resolve, List.map_toArray, List.map_cons, List.map_nil, he]
  simp [he, hc, Frame.eval]
theorem mk_endRange {l : Nat} {j : Option Code} (h : (Instr.endLoop l).run P w = .ok j w') :
    step P (lone (mkF fn kind none a (.endRangeFunc l :: k)) cs w) = .next (lone (mkF fn kind none a ((j.map Item.code).toList ++ k)) cs w') :=
  step_lone_go (by simp [stepG, stepG.exec, mkF, h])
end
end Go.Abs
