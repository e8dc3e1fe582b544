/- A part of a proof about Go functions of this program: an evaluator with a memory of its own, and the proof that what it finds the model finds (C25, C26, C27, C28, C29). No conditions beyond those that each theorem names. -/
import Derived.Test.YtohmkigjifhddaaGreatDoorAbsah
set_option linter.all false
set_option autoImplicit false
set_option linter.unusedSimpArgs false
namespace Go.Abs
variable {E : Env} {P : Program} {N : Nat} {φ φ' : Phi} {w w' : World}
theorem OF_one {fn : Fn} {a c : List AVal} : asF (.f fn a c) = .at fn a c := rfl
theorem jumpK_run {s : St} {j : Code} {q : Res} (h : jumpK s j = some q) : q.s = s ∧ ((j = .ret ∧ q.e = .ret) ∨ (∃ id, j = .exit id ∧ q.e = .exit id) ∨ (∃ l, j = .goto l ∧ q.e = .goto l)) := by
  cases j with
  | ret => obtain rfl := Option.some.inj h; exact ⟨rfl, .inl ⟨rfl, rfl⟩⟩
  | exit id => obtain rfl := Option.some.inj h; exact ⟨rfl, .inr (.inl ⟨id, rfl, rfl⟩)⟩
  | goto l => obtain rfl := Option.some.inj h; exact ⟨rfl, .inr (.inr ⟨l, rfl, rfl⟩)⟩
  | _ => cases h
theorem noloop (L : Loop) : ∀ x e f, Obj.loop L ≠ .cells x e f := fun _ _ _ h => by cases h
section
variable {r : Rec} {c : FC} {s : St} {q : Res} {kind : CallKind} {ro : Option Nat} {cs : List Frame} {k : List Item} {a : Act}
theorem range_run (hE : EnvOK E P) (hr : RecOK E P N r) {f : Operand} {ps : Array Tmp} {asg b : Code} {ia ib : CT} (h : cRange f ps asg b ia ib E r c s = some q) : CodeOK E P N [.code (.rangeFunc f ps asg b)] c s q := by
  intro φ a w kind ro k cs hk hro S
  obtain ⟨h0, h1⟩ := chk_some h
  have hn : ro = none := by
    cases ro with
    | none => rfl
    | some l => rw [Option.isSome_some] at hro; rw [← hro] at h0; cases h0
  subst hn
  obtain ⟨fv, h2, h3⟩ := ob_some h1
  obtain ⟨x, h4, h5⟩ := ob_some h3
  cases x with
  | enter g args =>
    obtain ⟨⟨v, hh⟩, h6, h7⟩ := ob_some h5
    obtain ⟨o, h8, h9⟩ := ob_some h7
    -- the two new blocks
    have G1 := Goes.new (E := E) (N := N) (o := .dfr) (x := .deferred (some [])) (ext := 0) (w' := { w with heap := w.heap.push (.deferred (some [])) }) S.rel S.fresh rfl rfl rfl rfl rfl
    have T1 := S.t.mono G1.ext
    have hsz : ({ w with heap := w.heap.push (.deferred (some [])) } : World).heap.size = w.heap.size + 1 := by simp
    have G2 := Goes.new (E := E) (N := N) (o := .loop .ready none c.f s.tm.base c.nt ps.toList asg b s.h.next) (x := .loop (loopObj c.f a ps asg b w.heap.size)) (ext := 0) (w' := inLoopW w (loopObj c.f a ps asg b w.heap.size)) G1.rel G1.fresh rfl rfl rfl rfl (by
      have hput := Phi.put_ext (φ := φ.put s.h.next ⟨w.heap.size, 0⟩) (b := (s.h.new .dfr).next) ⟨({ w with heap := w.heap.push (.deferred (some [])) } : World).heap.size, 0⟩ (G1.fresh _ (Nat.le_refl _)).1
      refine ⟨a.tmps, ⟨w.heap.size, 0⟩, hput _ _ (Phi.put_same _ _ _), by simp [loopObj], (T1.mono hput).base⟩)
    rw [hsz] at G2
    have G := G1.trans G2
    have T := T1.mono G2.ext
    -- the call
    have hy : den ((φ.put s.h.next ⟨w.heap.size, 0⟩).put (s.h.new .dfr).next ⟨w.heap.size + 1, 0⟩) (.f (.yield (Nat.succ s.h.next)) [] []) = some (.func (.yield (w.heap.size + 1)) #[] #[]) := by
      have : ((φ.put s.h.next ⟨w.heap.size, 0⟩).put (s.h.new .dfr).next ⟨w.heap.size + 1, 0⟩) (Nat.succ s.h.next) = some ⟨w.heap.size + 1, 0⟩ := Phi.put_same _ _ _
      simp only [den, denFn, denL, this]; rfl
    obtain ⟨d, d1, d2⟩ := applyV_run (w := inLoopW w (loopObj c.f a ps asg b w.heap.size)) (N := N) (h := (s.h.new .dfr).new (.loop .ready none c.f s.tm.base c.nt ps.toList asg b s.h.next)) (id := 0) hE h4 (T.opds f fv h2) (denL_cons hy (denL_nil _))
    obtain ⟨as, d3, d4, _⟩ := d2
    have hrun : (do let d ← Deferred.ofValue (a.eval f) #[.func (.yield (w.heap.size + 1)) #[] #[]]; invoke d.target d.args : Sem Next).run P (inLoopW w (loopObj c.f a ps asg b w.heap.size)) = .ok (.enter g as.toArray) (inLoopW w (loopObj c.f a ps asg b w.heap.size)) := by
      simp only [Sem.run_bind, d1, Result.andThen]; exact d3
    obtain ⟨φ3, w3, fr, y, G3, _, e2, e3⟩ := hr.call g args _ _ h6 _ _ as (mkF c.f kind none { a with defers := { target := .collected w.heap.size, args := #[] } :: a.defers } (.inRangeFunc (w.heap.size + 1) :: k) :: cs) G.rel G.fresh d4
    have S1 : Steps P (lone (mkF c.f kind none a (.code (.rangeFunc f ps asg b) :: k)) cs w) (lone (mkF c.f kind none { a with defers := { target := .collected w.heap.size, args := #[] } :: a.defers } (.endRangeFunc (w.heap.size + 1) :: k)) cs w3) :=
      .head (mk_range hrun) (e2.trans (.one (step_left e3)))
    -- the end
    cases o with
    | loop st pend fn tm nt ps' as' bd d' =>
      have hb3 : φ3 (Nat.succ s.h.next) = some ⟨w.heap.size + 1, 0⟩ := G3.ext _ _ (Phi.put_same _ _ _)
      have hd3 : φ3 s.h.next = some ⟨w.heap.size, 0⟩ := G3.ext _ _ (G2.ext _ _ (Phi.put_same _ _ _))
      obtain ⟨arr, ld, k1, k2, k3⟩ := G3.rel.at (l := ⟨w.heap.size + 1, 0⟩) h8 hb3
      have T3 := T.mono G3.ext
      have Td : TmRel P φ3 c s.tm.drop (.coll s.h.next :: s.df) { a with defers := { target := .collected w.heap.size, args := #[] } :: a.defers } := ⟨T3.size, T3.drop.tmv, T3.drop.msk, fun e => ⟨⟨⟨w.heap.size, 0⟩, hd3, rfl⟩, T3.df e⟩⟩
      have key : st ≠ .busy → ∃ w4, (Instr.endLoop (w.heap.size + 1)).run P w3 = .ok pend w4 ∧ Goes E N φ3 hh w3 φ3 (hh.set (Nat.succ s.h.next) (.loop .exhausted pend fn tm nt ps' as' bd d')) w4 := by
        intro hst
        have hgo := Goes.obj (o := .loop st pend fn tm nt ps' as' bd d') (o' := .loop .exhausted pend fn tm nt ps' as' bd d') (x := .loop { state := .exhausted, pending := pend, fn, tmps := arr, params := ps'.toArray, assign := as', body := bd, defers := ld.blk }) G3.rel G3.fresh h8 hb3 ⟨arr, ld, k1, rfl, k3⟩
        have hne : (st == LoopState.busy) = false := by
          cases st <;> first | rfl | exact absurd rfl hst
        refine ⟨_, ?_, hgo⟩
        simp only [Instr.endLoop, Instr.getLoop, Sem.run_bind, run_getObj_of k2 (noloop _), Result.andThen, Sem.run_pure, hne, Bool.false_eq_true, if_false, run_setObj_of k2 (noloop _)]
      have fin : st ≠ .busy → Option.rec (motive := fun _ => Option Res) (some ⟨.normal, ⟨s.tm.drop, .coll s.h.next :: s.df, hh.set (Nat.succ s.h.next) (.loop .exhausted pend fn tm nt ps' as' bd d')⟩⟩) (fun j => jumpK ⟨s.tm.drop, .coll s.h.next :: s.df, hh.set (Nat.succ s.h.next) (.loop .exhausted pend fn tm nt ps' as' bd d')⟩ j) pend = some q →
          Ends E P N φ s.h w c q (lone (mkF c.f kind none a ([.code (.rangeFunc f ps asg b)] ++ k)) cs w) kind none cs k := by
        intro hst hq
        obtain ⟨w4, e4, G4⟩ := key hst
        have GG := (G.trans G3).trans G4
        have SS := S1.trans (.one (mk_endRange e4))
        cases pend with
        | none =>
          obtain rfl := Option.some.inj hq
          exact ⟨φ3, _, w4, GG, Td, SS⟩
        | some j =>
          obtain ⟨qs, hj⟩ := jumpK_run hq
          obtain ⟨qe, qst⟩ := q
          simp only at qs; subst qs
          rcases hj with ⟨rfl, e⟩ | ⟨id, rfl, e⟩ | ⟨l, rfl, e⟩
          · simp only at e; subst e
            exact ⟨φ3, _, w4, GG, Td, k, SS⟩
          · simp only at e; subst e
            exact ⟨φ3, _, w4, GG, Td, k, rfl, SS⟩
          · simp only at e; subst e
            exact ⟨φ3, _, w4, GG, Td, k, rfl, SS⟩
      cases st with
      | busy => cases h9
      | ready => exact fin (by simp) h9
      | done => exact fin (by simp) h9
      | exhausted => exact fin (by simp) h9
    | _ => cases h9
  | _ => cases h5
theorem codeV_run (hE : EnvOK E P) (hr : RecOK E P N r) (hD : DrOK E P N r) : ∀ (x : Code) {s : St} {q : Res}, codeV x E r c s = some q → CodeOK E P N [.code x] c s q ∧ ∀ b, x = .loop b → CodeOK E P N [.inLoop b] c s q := by
  intro x
  induction x with
  | skip =>
    intro s q h
    obtain rfl := Option.some.inj (show some (Res.mk .normal s) = some q from h)
    exact ⟨fun φ a w kind ro k cs hk hro S => ⟨φ, a, w, Goes.refl S.rel S.fresh, S.t, .one mk_skip⟩, fun b e => by cases e⟩
  | region id ops draw =>
    intro s q h
    refine ⟨?_, fun b e => by cases e⟩
    obtain ⟨s1, h1, h2⟩ := ob_some (show ob (ife draw (drawn E r c ops.toList (stDrop s)) (plainOps E r c ops.toList ops.toList (stDrop s))) (fun s => some (Res.mk .normal s)) = some q from h)
    obtain rfl := Option.some.inj h2
    obtain ⟨tm, df, hp⟩ := s
    cases draw with
    | true =>
      intro φ a w kind ro k cs hk hro S
      exact hD c id ops _ _ (show drawn E r c ops.toList ⟨tm.drop, df, hp⟩ = some s1 from h1) φ a w kind ro k cs hk hro ⟨S.t.drop, S.rel, S.fresh⟩
    | false =>
      intro φ a w kind ro k cs hk hro S
      obtain ⟨φ', a', w', G, T, S'⟩ := plainOps_run (k := k) hE hr hk hro (l := ops.toList) (j := 0) rfl (show plainOps E r c ops.toList ops.toList ⟨tm.drop, df, hp⟩ = some s1 from h1) ⟨S.t.drop, S.rel, S.fresh⟩
      refine ⟨φ', a', w', G, T, .head mk_region ?_⟩
      rw [List.range_eq_range', ← Array.length_toList]; exact S'
  | seq x y ihx ihy =>
    intro s q h
    refine ⟨?_, fun b e => by cases e⟩
    obtain ⟨⟨e, s1⟩, h1, h2⟩ := ob_some (show ob (codeV x E r c s) (thenR (codeV y E r c)) = some q from h)
    intro φ a w kind ro k cs hk hro S
    obtain ⟨φ1, a1, w1, G, T, A⟩ := (ihx h1).1 φ a w kind ro (.code y :: k) cs hk hro S
    exact Ends.of_steps (.one mk_seq) (then_run h2 (fun _ => rfl) (fun _ => rfl) G T A fun _ h3 => (ihy h3).1 φ1 a1 w1 kind ro k cs hk hro ⟨T, G.rel, G.fresh⟩)
  | cond o x y ihx ihy =>
    intro s q h
    refine ⟨?_, fun b e => by cases e⟩
    obtain ⟨v, h1, h2⟩ := ob_some (show ob (opd o s.tm) (fun v => ob (asB v) fun t => ife t (codeV x E r c s) (codeV y E r c s)) = some q from h)
    obtain ⟨t, h3, h4⟩ := ob_some h2
    obtain rfl := asB_some h3
    intro φ a w kind ro k cs hk hro S
    have hc := den_b (S.t.opds o _ h1)
    refine Ends.of_steps (.one (mk_cond hc)) ?_
    cases t with
    | true => exact (ihx h4).1 φ a w kind ro k cs hk hro S
    | false => exact (ihy h4).1 φ a w kind ro k cs hk hro S
  | block id b ih =>
    intro s q h
    refine ⟨?_, fun b e => by cases e⟩
    obtain ⟨⟨e, s1⟩, h1, h2⟩ := ob_some (show ob (codeV b E r c s) (fun q => Res.rec (motive := fun _ => Option Res) (blockX id) q) = some q from h)
    intro φ a w kind ro k cs hk hro S
    obtain ⟨φ1, a1, w1, G, T, A⟩ := (ih h1).1 φ a w kind ro (.inBlock id :: k) cs hk hro S
    exact Ends.of_steps (.one mk_block) (blockX_run h2 G T A)
  | loop b ih =>
    intro s q h
    obtain ⟨⟨e, s1⟩, h1, h2⟩ := ob_some (show ob (codeV b E r c s) (thenR (r.code c (.loop b))) = some q from h)
    have main : ∀ φ a w kind ro k cs, KindOK kind cs → ro.isSome = c.round → StRel E P N φ c s a w → Ends E P N φ s.h w c q (lone (mkF c.f kind ro a (.code b :: .inLoop b :: k)) cs w) kind ro cs k := by
      intro φ a w kind ro k cs hk hro S
      obtain ⟨φ1, a1, w1, G, T, A⟩ := (ih h1).1 φ a w kind ro (.inLoop b :: k) cs hk hro S
      exact then_run h2 (fun _ => rfl) (fun _ => rfl) G T A fun _ h3 => (hr.code c (.loop b) s1 q h3).2 b rfl φ1 a1 w1 kind ro k cs hk hro ⟨T, G.rel, G.fresh⟩
    refine ⟨fun φ a w kind ro k cs hk hro S => Ends.of_steps (.one mk_loop) (main φ a w kind ro k cs hk hro S), fun b' e => ?_⟩
    obtain rfl := Code.loop.inj e
    exact fun φ a w kind ro k cs hk hro S => Ends.of_steps (.one mk_inLoop) (main φ a w kind ro k cs hk hro S)
  | rangeFunc f ps asg b iha ihb =>
    intro s q h
    exact ⟨range_run (ia := codeV asg) (ib := codeV b) hE hr h, fun b e => by cases e⟩
  | exit id =>
    intro s q h
    obtain rfl := Option.some.inj (show some (Res.mk (.exit id) s) = some q from h)
    exact ⟨fun φ a w kind ro k cs hk hro S => ⟨φ, a, w, Goes.refl S.rel S.fresh, S.t, k, rfl, .refl _ _⟩, fun b e => by cases e⟩
  | scope b ih =>
    intro s q h
    refine ⟨?_, fun b e => by cases e⟩
    obtain ⟨⟨e, s1⟩, h1, h2⟩ := ob_some (show ob (codeV b E r c s) (fun q => Res.rec (motive := fun _ => Option Res) (scopeX c r b) q) = some q from h)
    intro φ a w kind ro k cs hk hro S
    obtain ⟨φ1, a1, w1, G, T, A⟩ := (ih h1).1 φ a w kind ro (.inScope b :: k) cs hk hro S
    exact Ends.of_steps (.one mk_scope) (scopeX_run hr h2 hk hro G T A)
  | label l =>
    intro s q h
    obtain rfl := Option.some.inj (show some (Res.mk .normal s) = some q from h)
    exact ⟨fun φ a w kind ro k cs hk hro S => ⟨φ, a, w, Goes.refl S.rel S.fresh, S.t, .one mk_label⟩, fun b e => by cases e⟩
  | goto l =>
    intro s q h
    obtain rfl := Option.some.inj (show some (Res.mk (.goto l) s) = some q from h)
    exact ⟨fun φ a w kind ro k cs hk hro S => ⟨φ, a, w, Goes.refl S.rel S.fresh, S.t, k, rfl, .refl _ _⟩, fun b e => by cases e⟩
  | ret =>
    intro s q h
    obtain rfl := Option.some.inj (show some (Res.mk .ret s) = some q from h)
    exact ⟨fun φ a w kind ro k cs hk hro S => ⟨φ, a, w, Goes.refl S.rel S.fresh, S.t, k, .refl _ _⟩, fun b e => by cases e⟩
  | refuse why => intro s q h; cases h
theorem scopeV_run (hr : RecOK E P N r) {b rest : Code} (h : scopeV r c b rest s = some q) : CodeOK E P N [.code rest, .inScope b] c s q := by
  obtain ⟨⟨e, s1⟩, h1, h2⟩ := ob_some (show ob (r.code c rest s) (fun q => Res.rec (motive := fun _ => Option Res) (scopeX c r b) q) = some q from h)
  intro φ a w kind ro k cs hk hro S
  obtain ⟨φ1, a1, w1, G, T, A⟩ := (hr.code c rest s _ h1).1 φ a w kind ro (.inScope b :: k) cs hk hro S
  exact scopeX_run hr h2 hk hro G T A
end
end Go.Abs

set_option autoImplicit false
set_option linter.unusedSimpArgs false
namespace Go.Abs
variable {E : Env} {P : Program} {N : Nat} {φ φ' : Phi} {w w' : World}
theorem bit_eq (m k : Nat) : bit m k = m.testBit k := by
  unfold bit
  rw [Nat.testBit_eq_decide_div_mod_eq]
  show Nat.beq ((m >>> k) % 2) 1 = _
  rw [Nat.shiftRight_eq_div_pow]
  cases h : decide (m / 2 ^ k % 2 = 1) with
  | true => rw [of_decide_eq_true h]; rfl
  | false => rw [Bool.eq_false_iff]; intro q; exact of_decide_eq_false h (beq_true q)
theorem bit_ones {n k : Nat} (h : k < n) : bit (2 ^ n - 1) k = true := by rw [bit_eq, Nat.testBit_two_pow_sub_one]; simpa using h
theorem bit_lor_right {m n k : Nat} (h : bit n k = true) : bit (Nat.lor m n) k = true := by
  rw [bit_eq] at h ⊢
  show (m ||| n).testBit k = true
  rw [Nat.testBit_or, h, Bool.or_true]
theorem argsT_get (l : List AVal) (k i : Nat) (t : Tr AVal) : (argsT l k t).get i = if k ≤ i ∧ i < k + l.length then l[i - k]? else t.get i := ofL_get l k i t
/-! deferred calls -/
section
variable {r : Rec} {fn : FuncId} {kind : CallKind} {cs : List Frame} {todo : List Item}
theorem mkR_collect {blk : Nat} {ds : List Deferred} {t : Array Value} (h : (Instr.takeDeferred blk).run P w = .ok [] w') :
    step P (lone (mkR fn kind ⟨t, { target := .collected blk, args := #[] } :: ds⟩ todo) cs w) = .next (lone (mkR fn kind ⟨t, ds⟩ todo) cs w') :=
  step_lone_go (by simp [stepG, unwind, mkR, h])
theorem mkR_deferred {d : Deferred} {ds : List Deferred} {t : Array Value} {g : FuncId} {args : Array Value} {fv : Fn} {cap : Array Value} (hd : d.target = .fn fv cap) (h : (invoke d.target d.args).run P w = .ok (.enter g args) w') :
    step P (lone (mkR fn kind ⟨t, d :: ds⟩ todo) cs w) = .next (lone (Frame.enter P g args .deferred) (mkR fn kind ⟨t, ds⟩ todo :: cs) w') := by
  obtain ⟨target, as⟩ := d
  simp only at hd; subst hd
  exact step_lone_go (by simp [stepG, unwind, mkR, callDeferred, h])
theorem defs_run (hE : EnvOK E P) (hr : RecOK E P N r) : ∀ {l : List ADef} {ds : List Deferred} {φ : Phi} {h h' : Heap} {w : World} {t : Array Value}, DfRel P φ l ds → defsV E r l h = some h' → Rel E N φ h.get w → Fresh h.next φ h.get →
    ∃ φ' w', Goes E N φ h w φ' h' w' ∧ Steps P (lone (mkR fn kind ⟨t, ds⟩ todo) cs w) (lone (mkR fn kind ⟨t, []⟩ todo) cs w') := by
  intro l
  induction l with
  | nil =>
    intro ds φ h h' w t hD hv R F
    cases ds with
    | cons _ _ => exact hD.elim
    | nil =>
      obtain rfl := Option.some.inj (show some h = some h' from hv)
      exact ⟨φ, w, Goes.refl R F, .refl _ _⟩
  | cons x l ih =>
    intro ds φ h h' w t hD hv R F
    cases ds with
    | nil => cases x <;> exact hD.elim
    | cons d ds =>
      cases x with
      | coll b =>
        obtain ⟨⟨lb, h1, rfl⟩, hD'⟩ := hD
        obtain ⟨o, h2, h3⟩ := ob_some (show ob (h.get b) (fun o => (match o with | .dfr => defsV E r l (h.del b) | _ => none)) = some h' from hv)
        cases o with
        | dfr =>
          have hb : w.heap[lb.blk]? = some (.deferred (some [])) := R.at h2 h1
          have hnc : ∀ x e f, Obj.deferred (some []) ≠ .cells x e f := fun _ _ _ h => by cases h
          have hrun : (Instr.takeDeferred lb.blk).run P w = .ok [] { w with heap := w.heap.setIfInBounds lb.blk (.deferred none) } := by
            simp only [Instr.takeDeferred, Sem.run_bind, run_getObj_of hb hnc, Result.andThen, run_setObj_of hb hnc, Sem.run_pure]
          have hne : ∀ B, B ≠ lb.blk → (w.heap.setIfInBounds lb.blk (.deferred none))[B]? = w.heap[B]? := fun B hB => Array.getElem?_setIfInBounds_ne (by omega)
          have hg : ∀ c, c ≠ b → (h.del b).get c = h.get c := fun c hc => by rw [get_del, if_neg hc]
          have G1 : Goes E N φ h w φ (h.del b) { w with heap := w.heap.setIfInBounds lb.blk (.deferred none) } := by
            refine ⟨.refl _, R.upd h2 h1 hne (by simp) hg ?_, ?_, Frm.upd h2 h1 hne (by simp) rfl rfl rfl hg, Nat.le_refl _, fun _ _ => rfl⟩
            · intro o' e; rw [get_del, if_pos rfl] at e; cases e
            · intro c hc
              have := F c hc
              exact ⟨this.1, by rw [get_del]; split; exact rfl; exact this.2⟩
          obtain ⟨φ', w', G2, S2⟩ := ih (t := t) (hD'.mono G1.ext) h3 G1.rel G1.fresh
          exact ⟨φ', w', G1.trans G2, .head (mkR_collect hrun) S2⟩
        | _ => cases h3
      | fn v =>
        obtain ⟨⟨x, h1, h2⟩, hD'⟩ := hD
        obtain ⟨nx, h3, h4⟩ := ob_some (show ob (applyV E v []) (fun x => (match x with | .enter f args => ob (r.dcall f args h) fun q => defsV E r l q.h | _ => none)) = some h' from hv)
        cases nx with
        | enter f args =>
          obtain ⟨q, h5, h6⟩ := ob_some h4
          have hfn : ∃ fv cap, d.target = .fn fv cap := by
            unfold applyV at h3
            rcases asF_cases v with ⟨rfl, e⟩ | ⟨fn, fa, ca, rfl, e⟩ | e
            · rw [e] at h3; cases h3
            · obtain ⟨fn', fa', ca', _, _, _, rfl⟩ := den_f h1
              have := h2 w
              obtain ⟨rfl, _⟩ := Result.ok.inj (show Result.ok (⟨.fn fn' ca'.toArray, fa'.toArray ++ #[]⟩ : Deferred) w = .ok d w from this)
              exact ⟨_, _, rfl⟩
            · rw [e] at h3; cases h3
          obtain ⟨fv, cap, hfn⟩ := hfn
          obtain ⟨d', e1, e2⟩ := applyV_run (w := w) (N := N) (h := h) (id := 0) hE h3 h1 (denL_nil φ)
          obtain ⟨rfl, _⟩ := Result.ok.inj ((h2 w).symm.trans (e1 w))
          obtain ⟨as, e3, e4, _⟩ := e2
          obtain ⟨φ1, w1, fr, y, G1, _, s1, L⟩ := hr.dcall f args h q h5 φ w as .deferred (mkR fn kind ⟨t, ds⟩ todo :: cs) (.inr ⟨rfl, _, _, rfl, rfl⟩) R F e4
          obtain ⟨φ2, w2, G2, S2⟩ := ih (t := t) (hD'.mono G1.ext) h6 G1.rel G1.fresh
          exact ⟨φ2, w2, G1.trans G2, .head (mkR_deferred hfn e3) (s1.trans (.head (step_left_deferred L rfl) S2))⟩
        | _ => cases h4
end
/-! results -/
theorem resOne_run (hE : EnvOK E P) {c : FC} {tm : Tm} {df : List ADef} {a : Act} {h : Heap} (R : Rel E N φ h.get w) (T : TmRel P φ c tm df a) : ∀ {rs : List ResultVar} {l : List AVal}, mapO (resOne E tm h) rs = some l →
    ∃ ys, (rs.mapM (fun | .tmp t => pure (a.tmps.getD t undef) | .cell x t => do loadVar t (← asAddr (a.tmps.getD x undef)) : ResultVar → Sem Value)).run P w = .ok ys w ∧ denL φ l = some ys
  | [], l, hv => by obtain rfl := Option.some.inj hv; exact ⟨[], rfl, denL_nil φ⟩
  | x :: rs, l, hv => by
    rw [mapO_cons] at hv
    obtain ⟨v, h1, h2⟩ := ob_some hv
    obtain ⟨l', h3, h4⟩ := ob_some h2
    obtain rfl := Option.some.inj h4
    obtain ⟨ys, e1, e2⟩ := resOne_run hE R T h3
    cases x with
    | tmp t =>
      have hy := T.tmv t v h1
      refine ⟨a.tmps.getD t undef :: ys, ?_, denL_cons hy e2⟩
      simp only [List.mapM_cons, Sem.run_bind, Sem.run_pure, Result.andThen, e1]
    | cell x t =>
      obtain ⟨p, h5, h6⟩ := ob_some (show ob (tm.get x) (fun p => ob (E.ty t) fun ti => ldVar E h ti p) = some v from h1)
      obtain ⟨ti, h7, h8⟩ := ob_some h6
      obtain ⟨p', y, q1, q2, q3⟩ := ldVar_run (hE.tys _ _ h7) R (T.tmv x p h5) h8
      refine ⟨y :: ys, ?_, denL_cons q3 e2⟩
      have ha : (asAddr (a.tmps.getD x undef)).run P w = .ok p' w := by rw [q1]; rfl
      simp only [List.mapM_cons, Sem.run_bind, Sem.run_pure, Result.andThen, ha, q2, e1]
theorem resV_run (hE : EnvOK E P) {c : FC} {tm : Tm} {df : List ADef} {a : Act} {h : Heap} {fn : Func} {v : AVal} (R : Rel E N φ h.get w) (T : TmRel P φ c tm df a) (hv : resV E tm h fn.results.toList = some v) :
    ∃ y, (results fn a.tmps).run P w = .ok y w ∧ den φ v = some y := by
  obtain ⟨l, h1, h2⟩ := ob_some hv
  obtain rfl := Option.some.inj h2
  obtain ⟨ys, e1, e2⟩ := resOne_run hE R T h1
  have hm : (results fn a.tmps).run P w = .ok (if h : ys.toArray.size = 1 then ys.toArray[0] else .tuple ys.toArray) w := by
    unfold results
    rw [Sem.run_bind, ← Array.toArray_toList (xs := fn.results), List.mapM_toArray, Sem.run_map]
    erw [e1]
    rfl
  rw [hm]
  match l, ys, e2 with
  | [], ys, e2 =>
    rw [denL_nil] at e2; obtain rfl := Option.some.inj e2
    exact ⟨_, rfl, by simp [tup1, den, denL]⟩
  | [v], ys, e2 =>
    obtain ⟨y, r, d1, d2, rfl⟩ := denL_cons' e2
    rw [denL_nil] at d2; obtain rfl := Option.some.inj d2
    exact ⟨_, rfl, by simpa [tup1] using d1⟩
  | v :: u :: l, ys, e2 =>
    obtain ⟨y, r, d1, d2, rfl⟩ := denL_cons' e2
    obtain ⟨z, r, d3, d4, rfl⟩ := denL_cons' d2
    exact ⟨_, rfl, by simp [tup1, den, e2]⟩
end Go.Abs

set_option autoImplicit false
set_option linter.unusedSimpArgs false
namespace Go.Abs
variable {E : Env} {P : Program} {N : Nat} {φ φ' : Phi} {w w' : World}
section
variable {r : Rec}
theorem body_run (hE : EnvOK E P) (hr : RecOK E P N r) (hD : DrOK E P N r) {f : Nat} {args : List AVal} {h : Heap} {fn : Func} {x : Code} {q : CR} (hf : P.funcs[f]? = some fn) (hx : fn.body = some x) (hv : bodyV E r f args h fn x = some q) : CallOK E P N f args h q := by
  intro φ w as kind cs hk R F ha
  obtain ⟨h1, h2⟩ := chk_some hv
  obtain ⟨⟨e, s1⟩, h3, h4⟩ := ob_some h2
  have hle : args.length ≤ fn.ntmps := by rw [← lenL_eq]; exact ble_true h1
  have hal := denL_length ha
  have henter : Frame.enter P f as.toArray kind = mkF f kind none ⟨as.toArray ++ Array.replicate (fn.ntmps - as.toArray.size) undef, []⟩ ([.code x] ++ []) := by
    simp [Frame.enter, mkF, hf, hx]
  have hT : TmRel P φ ⟨f, fn.ntmps, false⟩ ⟨Nat.lor (maskF fn (lenL args) x) (Nat.sub (Nat.pow (nat_lit 2) (lenL args)) (nat_lit 1)), argsT args (nat_lit 0) .e, []⟩ [] ⟨as.toArray ++ Array.replicate (fn.ntmps - as.toArray.size) undef, []⟩ := by
    have base : ∀ k v, (argsT args 0 .e).get k = some v → k < args.length ∧ args[k]? = some v := by
      intro k v hk
      rw [argsT_get] at hk
      split at hk
      · next hc => exact ⟨by omega, by simpa using hk⟩
      · cases hk
    refine ⟨by simp; omega, fun k v hk => ?_, fun k v hk => ?_, fun _ => trivial⟩
    · have hk : tmGet k (Nat.lor (maskF fn (lenL args) x) (Nat.sub (Nat.pow (nat_lit 2) (lenL args)) (nat_lit 1))) (argsT args 0 .e) [] = some v := hk
      unfold tmGet at hk
      rw [ife_eq] at hk
      split at hk
      · obtain ⟨k1, k2⟩ := base k v hk
        obtain ⟨y, d1, d2⟩ := denL_get ha k2
        rw [d1, Array.getD_eq_getD_getElem?, Array.getElem?_append_left (by simp; omega), List.getElem?_toArray, d2]; rfl
      · cases hk
    · obtain ⟨k1, _⟩ := base k v hk
      refine ⟨bit_lor_right ?_, by show k < fn.ntmps; omega⟩
      rw [lenL_eq]; exact bit_ones k1
  obtain ⟨φ1, a1, w1, G1, T1, A1⟩ := (codeV_run hE hr hD x h3).1 φ _ w kind none [] cs hk rfl ⟨hT, R, F⟩
  rw [← henter] at A1
  have fin : (∃ todo, Steps P (lone (Frame.enter P f as.toArray kind) cs w) (lone (mkR f kind a1 todo) cs w1)) → ob (defsV E r s1.df s1.h) (fun h => ob (resV E s1.tm h fn.results.toList) fun v => some (CR.mk v h)) = some q →
      ∃ φ' w' fr y, Goes E N φ h w φ' q.h w' ∧ den φ' q.v = some y ∧ Steps P (lone (Frame.enter P f as.toArray kind) cs w) (lone fr cs w') ∧ Left P f kind fr w' y := by
    rintro ⟨todo, S⟩ hq
    obtain ⟨h5, q1, q2⟩ := ob_some hq
    obtain ⟨v, q3, q4⟩ := ob_some q2
    obtain rfl := Option.some.inj q4
    obtain ⟨t1, ds1⟩ := a1
    obtain ⟨φ2, w2, G2, S2⟩ := defs_run (fn := f) (kind := kind) (cs := cs) (todo := todo) (t := t1) hE hr (T1.df rfl) q1 G1.rel G1.fresh
    obtain ⟨y, r1, r2⟩ := resV_run (fn := fn) hE G2.rel (T1.mono G2.ext) q3
    exact ⟨φ2, w2, _, y, G1.trans G2, r2, S.trans S2, rfl, rfl, rfl, rfl, fn, hf, r1⟩
  cases e with
  | normal => exact fin ⟨_, Steps.trans A1 (.one mk_end)⟩ h4
  | exit id => cases h4
  | goto l => cases h4
  | ret => obtain ⟨k1, S⟩ := A1; exact fin ⟨_, S.trans (.one mk_ret)⟩ h4
/-! a round -/
theorem bindP_run : ∀ {ps : List Tmp} {args : List AVal} {as : List Value} {t t' : Tr AVal} {arr : Array Value}, bindP ps args t = some t' → denL φ args = some as → (∀ k v, t.get k = some v → k < arr.size ∧ den φ v = some (arr.getD k undef)) → (∀ p ∈ ps, p < arr.size) →
    as.length = ps.length ∧ ((ps.zip as).foldl (fun tmps (p : Tmp × Value) => tmps.setIfInBounds p.1 p.2) arr).size = arr.size ∧
      ∀ k v, t'.get k = some v → k < arr.size ∧ den φ v = some (((ps.zip as).foldl (fun tmps (p : Tmp × Value) => tmps.setIfInBounds p.1 p.2) arr).getD k undef)
  | [], args, as, t, t', arr, h, ha, ht, _ => by
    cases args with
    | nil =>
      rw [denL_nil] at ha; obtain rfl := Option.some.inj ha
      obtain rfl := Option.some.inj (show some t = some t' from h)
      exact ⟨rfl, rfl, ht⟩
    | cons _ _ => cases h
  | p :: ps, args, as, t, t', arr, h, ha, ht, hp => by
    cases args with
    | nil => cases h
    | cons v args =>
      obtain ⟨y, ys, d1, d2, rfl⟩ := denL_cons' ha
      have hpp := hp p (List.mem_cons_self ..)
      obtain ⟨i1, i2, i3⟩ := bindP_run (arr := arr.setIfInBounds p y) (show bindP ps args (t.set p v) = some t' from h) d2 (fun k u e => by
        rw [Tr.get_set] at e
        rw [Array.size_setIfInBounds]
        split at e
        · next hk =>
          subst hk
          obtain rfl := Option.some.inj e
          refine ⟨hpp, ?_⟩
          rw [d1, Array.getD_eq_getD_getElem?, Array.getElem?_setIfInBounds_self_of_lt hpp]; rfl
        · next hk =>
          obtain ⟨e1, e2⟩ := ht k u e
          refine ⟨e1, ?_⟩
          rw [e2, Array.getD_eq_getD_getElem?, Array.getD_eq_getD_getElem?, Array.getElem?_setIfInBounds_ne (by omega)]) (fun p' hp' => by rw [Array.size_setIfInBounds]; exact hp p' (List.mem_cons_of_mem _ hp'))
      rw [Array.size_setIfInBounds] at i2 i3
      exact ⟨by simp [i1], i2, i3⟩
theorem allL_mem {p : Nat → Nat → Bool} : ∀ {l : List Nat} {i : Nat}, allL p l i = true → ∀ x ∈ l, ∃ j, p j x = true
  | [], _, _, x, hx => by cases hx
  | a :: l, i, h, x, hx => by
    have h : ife (p i a) (allL p l (i + 1)) false = true := h
    obtain ⟨h1, h2⟩ := ife_and h
    rcases List.mem_cons.1 hx with rfl | hx
    · exact ⟨i, h1⟩
    · exact allL_mem h2 x hx
end
end Go.Abs

set_option autoImplicit false
set_option linter.unusedSimpArgs false
namespace Go.Abs
variable {E : Env} {P : Program} {N : Nat} {φ φ' : Phi} {w w' : World}
section
variable {r : Rec}
/-- what the end of a round writes into the loop -/
theorem endRound_run {l : Loc} {L : Loop} (h : w.heap[l.blk]? = some (.loop L)) (j : Option Code) :
    (Instr.endRound l.blk j).run P w = .ok (.bool j.isNone) { w with heap := w.heap.setIfInBounds l.blk (.loop { L with state := if j.isNone then .ready else .done, pending := j }) } := by
  simp only [Instr.endRound, Instr.getLoop, Sem.run_bind, run_getObj_of h (noloop _), Result.andThen, Sem.run_pure, run_setObj_of h (noloop _)]
theorem roundEnd_run {l : Nat} {lb : Loc} {q2 : Res} {q : CR} {fn : FuncId} {a : Act} {m : Machine} {c : Frame} {cs : List Frame} (h : roundEnd l q2 = some q) (hl : φ l = some lb) (R : Rel E N φ q2.s.h.get w) (F : Fresh q2.s.h.next φ q2.s.h.get)
    (A : Arr P m fn .normal (some lb.blk) (c :: cs) [] q2.e a w) : ∃ w' y, Goes E N φ q2.s.h w φ q.h w' ∧ den φ q.v = some y ∧ Steps P m (lone (c.finish y) cs w') := by
  obtain ⟨o, h1, h2⟩ := ob_some h
  cases o with
  | loop st pend fn' tm nt ps asg bd d =>
    obtain ⟨arr, ld, k1, k2, k3⟩ := R.at h1 hl
    have key : ∀ (j : Option Code), Goes E N φ q2.s.h w φ (q2.s.h.set l (.loop (if j.isNone then .ready else .done) j fn' tm nt ps asg bd d)) { w with heap := w.heap.setIfInBounds lb.blk (.loop { state := if j.isNone then .ready else .done, pending := j, fn := fn', tmps := arr, params := ps.toArray, assign := asg, body := bd, defers := ld.blk }) } := fun j =>
      Goes.obj R F h1 hl ⟨arr, ld, k1, rfl, k3⟩
    have hrun := fun j => endRound_run (P := P) (w := w) (l := lb) k2 j
    obtain ⟨e, s2⟩ := q2
    cases e with
    | normal =>
      obtain rfl := Option.some.inj h2
      exact ⟨_, .bool true, key none, by simp only [den], Steps.trans A (.one (rd_end (hrun none)))⟩
    | exit id =>
      obtain rfl := Option.some.inj h2
      obtain ⟨kk, e1, S⟩ := A
      exact ⟨_, .bool false, key (some (.exit id)), by simp only [den], S.trans (.one (rd_exit e1 (hrun (some (.exit id)))))⟩
    | goto g =>
      obtain rfl := Option.some.inj h2
      obtain ⟨kk, e1, S⟩ := A
      exact ⟨_, .bool false, key (some (.goto g)), by simp only [den], S.trans (.one (rd_goto e1 (hrun (some (.goto g)))))⟩
    | ret =>
      obtain rfl := Option.some.inj h2
      obtain ⟨kk, S⟩ := A
      exact ⟨_, .bool false, key (some .ret), by simp only [den], S.trans (.one (rd_ret (hrun (some .ret))))⟩
  | _ => cases h2
theorem round_run (hr : RecOK E P N r) {l : Nat} {args : List AVal} {h : Heap} {q : CR} (hv : roundV r l args h = some q) : RoundOK E P N l args h q := by
  intro φ w as lb hl R F ha
  obtain ⟨o, h1, h2⟩ := ob_some hv
  cases o with
  | loop st pend fn tm nt ps asg bd d =>
    cases st with
    | ready =>
      obtain ⟨t, h3, h4⟩ := ob_some (show ob (bindP ps args tm) _ = some q from h2)
      obtain ⟨h5, h6⟩ := chk_some h4
      obtain ⟨q1, h7, h8⟩ := ob_some h6
      obtain ⟨e1, s1⟩ := q1
      cases e1 with
      | normal =>
        obtain ⟨o1, h9, h10⟩ := ob_some (show ob (s1.h.get l) _ = some q from h8)
        cases o1 with
        | loop st1 pend1 fn1 tm1 nt1 ps1 asg1 bd1 d1 =>
          cases st1 with
          | ready =>
            obtain ⟨q2, h11, h12⟩ := ob_some (show ob (r.code ⟨fn, nt, true⟩ bd _) (roundEnd l) = some q from h10)
            obtain ⟨arr, ld, k1, k2, k3, k4⟩ := R.at h1 hl
            obtain ⟨b1, b2, b3⟩ := bindP_run h3 ha (fun k v e => ⟨by rw [k3]; exact (k4 k v e).1, (k4 k v e).2⟩) (fun p hp => by
              obtain ⟨_, hj⟩ := allL_mem h5 p hp
              rw [k3]; exact lt_true hj)
            have hyield : (Instr.yield lb.blk as.toArray).run P w = .ok (.round lb.blk fn ((ps.zip as).foldl (fun tmps (p : Tmp × Value) => tmps.setIfInBounds p.1 p.2) arr) asg bd) w := by
              have hz : (ps.toArray.zip as.toArray).foldl (fun tmps (p : Tmp × Value) => tmps.setIfInBounds p.1 p.2) arr = (ps.zip as).foldl (fun tmps (p : Tmp × Value) => tmps.setIfInBounds p.1 p.2) arr := by
                rw [← Array.foldl_toList, Array.toList_zip]
              simp only [Instr.yield, Instr.getLoop, Sem.run_bind, run_getObj_of k2 (noloop _), Result.andThen, Sem.run_pure, List.size_toArray, b1, ne_eq, not_true, if_false]
              rw [← hz]
            have hT : TmRel P φ ⟨fn, nt, true⟩ ⟨Nat.sub (Nat.pow (nat_lit 2) nt) (nat_lit 1), t, []⟩ [] ⟨(ps.zip as).foldl (fun tmps (p : Tmp × Value) => tmps.setIfInBounds p.1 p.2) arr, []⟩ := by
              refine ⟨b2.trans k3, fun k v e => ?_, fun k v e => ?_, fun _ => trivial⟩
              · have e : tmGet k (Nat.sub (Nat.pow (nat_lit 2) nt) (nat_lit 1)) t [] = some v := e
                unfold tmGet at e
                rw [ife_eq] at e
                split at e
                · exact (b3 k v e).2
                · cases e
              · have := (b3 k v e).1
                rw [k3] at this
                exact ⟨bit_ones this, this⟩
            -- for any caller
            have run : ∀ c cs, ∃ φ' w' y, Goes E N φ h w φ' q.h w' ∧ den φ' q.v = some y ∧ Steps P (lone (Frame.round lb.blk fn ((ps.zip as).foldl (fun tmps (p : Tmp × Value) => tmps.setIfInBounds p.1 p.2) arr) asg bd .normal) (c :: cs) w) (lone (c.finish y) cs w') := by
              intro c cs
              obtain ⟨φ1, a1, w1, G1, T1, A1⟩ := (hr.code _ _ _ _ h7).1 φ _ w .normal (some lb.blk) [.beginRound, .code bd] (c :: cs) (.inl rfl) rfl ⟨hT, R, F⟩
              have hl1 := G1.ext _ _ hl
              obtain ⟨arr1, ld1, m1, m2, m3⟩ := G1.rel.at h9 hl1
              have hb : (Instr.beginRound lb.blk).run P w1 = .ok () { w1 with heap := w1.heap.setIfInBounds lb.blk (.loop { state := .busy, pending := pend1, fn := fn1, tmps := arr1, params := ps1.toArray, assign := asg1, body := bd1, defers := ld1.blk }) } := by
                simp only [Instr.beginRound, Instr.getLoop, Sem.run_bind, run_getObj_of m2 (noloop _), Result.andThen, Sem.run_pure, run_setObj_of m2 (noloop _)]
              have G2 : Goes E N φ1 s1.h w1 φ1 (s1.h.set l (.loop .busy pend1 fn1 tm1 nt1 ps1 asg1 bd1 d1)) { w1 with heap := w1.heap.setIfInBounds lb.blk (.loop { state := .busy, pending := pend1, fn := fn1, tmps := arr1, params := ps1.toArray, assign := asg1, body := bd1, defers := ld1.blk }) } :=
                Goes.obj G1.rel G1.fresh h9 hl1 ⟨arr1, ld1, m1, rfl, m3⟩
              have T1' : TmRel P φ1 ⟨fn, nt, true⟩ s1.tm [] a1 := ⟨T1.size, T1.tmv, T1.msk, fun e => by cases e⟩
              obtain ⟨φ2, a2, w2, G3, T3, A3⟩ := (hr.code _ _ _ _ h11).1 φ1 a1 _ .normal (some lb.blk) [] (c :: cs) (.inl rfl) rfl ⟨T1', G2.rel, G2.fresh⟩
              have hl2 := G3.ext _ _ hl1
              obtain ⟨w', y, G4, e4, S4⟩ := roundEnd_run h12 hl2 G3.rel G3.fresh A3
              exact ⟨φ2, w', y, ((G1.trans G2).trans G3).trans G4, e4, Steps.trans A1 (.head (rd_begin hb) S4)⟩
            exact ⟨_, _, _, _, hyield, run⟩
          | _ => cases h10
        | _ => cases h10
      | _ => cases h8
    | _ => cases h2
  | _ => cases h2
end
end Go.Abs

set_option autoImplicit false
set_option linter.unusedSimpArgs false
namespace Go.Abs
variable {E : Env} {P : Program} {N : Nat} {φ φ' : Phi} {w w' : World}
/-- what is known of calls beforehand -/
def ExtOK (E : Env) (P : Program) (N : Nat) : Prop := ∀ f args h q, E.ext f args h = some q → CallN E P N f args h q
theorem callV_run (hE : EnvOK E P) (hX : ExtOK E P N) {r : Rec} (hr : RecOK E P N r) (hD : DrOK E P N r) {f : Nat} {args : List AVal} {h : Heap} {q : CR} (hv : callV E r f args h = some q) : CallN E P N f args h q := by
  unfold callV at hv
  cases he : E.ext f args h with
  | some q' =>
    rw [he] at hv
    obtain rfl := Option.some.inj (show some q' = some q from hv)
    exact hX f args h q' he
  | none =>
    rw [he] at hv
    obtain ⟨fn, h1, h2⟩ := ob_some (show ob (E.fn f) (fun fn => ob fn.body fun x => bodyV E r f args h fn x) = some q from hv)
    obtain ⟨x, h3, h4⟩ := ob_some h2
    exact (body_run hE hr hD (hE.fns f fn h1) h3 h4).toN
theorem dcallV_run (hE : EnvOK E P) {r : Rec} (hr : RecOK E P N r) (hD : DrOK E P N r) {f : Nat} {args : List AVal} {h : Heap} {q : CR} (hv : dcallV E r f args h = some q) : CallOK E P N f args h q := by
  obtain ⟨fn, h1, h2⟩ := ob_some (show ob (E.fn f) (fun fn => ob fn.body fun x => bodyV E r f args h fn x) = some q from hv)
  obtain ⟨x, h3, h4⟩ := ob_some h2
  exact body_run hE hr hD (hE.fns f fn h1) h3 h4
theorem recN_ok (hE : EnvOK E P) (hX : ExtOK E P N) (hD : ∀ r, RecOK E P N r → DrOK E P N r) : ∀ n, RecOK E P N (recN E n)
  | 0 => ⟨fun _ _ _ _ h => (by cases h), fun _ _ _ _ h => (by cases h), fun _ _ _ _ h => (by cases h), fun _ _ _ _ _ h => (by cases h), fun _ _ _ _ h => (by cases h)⟩
  | n + 1 => by
    have ih := recN_ok hE hX hD n
    have hd := hD _ ih
    exact ⟨fun f args h q hv => callV_run hE hX ih hd (show callV E (recN E n) f args h = some q from hv), fun l args h q hv => round_run ih (show roundV (recN E n) l args h = some q from hv),
      fun c x s q hv => codeV_run hE ih hd x (show codeV x E (recN E n) c s = some q from hv), fun c b rest s q hv => scopeV_run ih (show scopeV (recN E n) c b rest s = some q from hv), fun f args h q hv => dcallV_run hE ih hd (show dcallV E (recN E n) f args h = some q from hv)⟩
theorem run_ok (hE : EnvOK E P) (hX : ExtOK E P N) (hD : ∀ r, RecOK E P N r → DrOK E P N r) {n f : Nat} {args : List AVal} {h : Heap} {q : CR} (hv : run E n f args h = some q) : CallOK E P N f args h q :=
  (recN_ok hE hX hD n).dcall f args h q hv
end Go.Abs
