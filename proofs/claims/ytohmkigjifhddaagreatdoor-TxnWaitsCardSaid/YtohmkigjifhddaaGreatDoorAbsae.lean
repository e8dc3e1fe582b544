/- A part of a proof about Go functions of this program: an evaluator with a memory of its own, and the proof that what it finds the model finds (C10, C11, C12, C13). No conditions beyond those that each theorem names. -/
import Derived.Test.YtohmkigjifhddaaGreatDoorAbsad
set_option linter.all false
set_option autoImplicit false
namespace Go.Abs
variable {E : Env} {P : Program} {N : Nat} {φ : Phi} {w : World}
theorem opt_rec_true {α : Type} {x : Option α} {f : α → Bool} (h : Option.rec (motive := fun _ => Bool) false f x = true) : ∃ a, x = some a ∧ f a = true := by
  cases x with
  | none => cases h
  | some a => exact ⟨a, rfl, h⟩
theorem ife_and {a b : Bool} (h : ife a b false = true) : a = true ∧ b = true := by
  cases a with
  | false => cases h
  | true => exact ⟨rfl, h⟩
/-! keys -/
theorem keyFs_run (hT : TysOK P E) {em : Bool} {d : Nat} {key : TypeId → AVal → Bool} (ih : ∀ t x a, key t x = true → den φ x = some a → ∀ w, (Instr.checkKey em d t a).run P w = .ok () w)
    {xs : List AVal} {as : List Value} (ha : denL φ xs = some as) : ∀ (fs : List Field), keyFs E key xs fs = true → ∀ w,
    (forIn fs PUnit.unit fun f (_ : PUnit) => (if f.name ≠ "_" then (do
      let x ← part f.type as.toArray f.offset
      Instr.checkKey em d f.type x
      pure (ForInStep.yield PUnit.unit)) else pure (ForInStep.yield PUnit.unit) : Sem (ForInStep PUnit))).run P w = .ok PUnit.unit w := by
  intro fs
  induction fs with
  | nil => intro _ w; rfl
  | cons f fs ihf =>
    intro h w
    have h0 : ife (strEq f.name "_") (keyFs E key xs fs) (Option.rec (motive := fun _ => Bool) false (fun t => Option.rec (motive := fun _ => Bool) false (fun x => ife (key f.type x) (keyFs E key xs fs) false) (partL t xs f.offset)) (E.ty f.type)) = true := h
    rw [ife_eq, strEq_eq] at h0
    by_cases hn : f.name = "_"
    · rw [if_pos (by simpa using hn)] at h0
      simp only [List.forIn_cons, hn, ne_eq, not_true, if_false, Sem.run_bind, Sem.run_pure, Result.andThen]
      exact ihf h0 w
    · rw [if_neg (by simpa using hn)] at h0
      obtain ⟨t, h1, h2⟩ := opt_rec_true h0
      obtain ⟨x, h3, h4⟩ := opt_rec_true h2
      obtain ⟨h5, h6⟩ := ife_and h4
      obtain ⟨a, e1, e2⟩ := part_run (hT _ _ h1) ha h3
      simp only [List.forIn_cons, hn, ne_eq, not_false_eq_true, if_true, Sem.run_bind, e2, ih _ _ _ h5 e1, Sem.run_pure, Result.andThen]
      exact ihf h6 w
theorem keyAr_run {em : Bool} {d : Nat} {e : TypeId} {te : Ty} (hTe : TyOK P e te) {key : AVal → Bool} (ih : ∀ x a, key x = true → den φ x = some a → ∀ w, (Instr.checkKey em d e a).run P w = .ok () w)
    {xs : List AVal} {as : List Value} (ha : denL φ xs = some as) : ∀ (n i : Nat), keyAr key te xs n (i * te.size) = true → ∀ w,
    (forIn (List.range' i n) PUnit.unit fun j (_ : PUnit) => (do
      let q ← sizeOf e
      let x ← part e as.toArray (j * q)
      Instr.checkKey em d e x
      pure (ForInStep.yield PUnit.unit) : Sem (ForInStep PUnit))).run P w = .ok PUnit.unit w := by
  intro n
  induction n with
  | zero => intro i _ w; rfl
  | succ n ihn =>
    intro i h w
    have h0 : Option.rec (motive := fun _ => Bool) false (fun x => ife (key x) (keyAr key te xs n (i * te.size + te.size)) false) (partL te xs (i * te.size)) = true := h
    obtain ⟨x, h3, h4⟩ := opt_rec_true h0
    obtain ⟨h5, h6⟩ := ife_and h4
    obtain ⟨a, e1, e2⟩ := part_run hTe ha h3
    simp only [List.range'_succ, List.forIn_cons, Sem.run_bind, hTe.run_size, e2, ih _ _ h5 e1, Sem.run_pure, Result.andThen]
    exact ihn (i + 1) (by rw [Nat.add_mul, Nat.one_mul]; exact h6) w
theorem keyT_run (hT : TysOK P E) (em : Bool) (d : Nat) : ∀ (t : TypeId) (x : AVal) (a : Value), keyT E d t x = true → den φ x = some a → ∀ d', d ≤ d' → ∀ w, (Instr.checkKey em d' t a).run P w = .ok () w := by
  induction d with
  | zero => intro t x a h; cases h
  | succ d ih =>
    intro t x a h ha d' hd w
    obtain ⟨d', rfl⟩ : ∃ k, d' = k + 1 := ⟨d' - 1, by omega⟩
    obtain ⟨ti, h1, h2⟩ := opt_rec_true (show Option.rec (motive := fun _ => Bool) false (fun ti =>
      DK.rec (motive := fun _ => Bool) false true (fun _ => true) true (fun _ => true) (fun _ => false) (fun n e => keyAy E (keyT E d) x n e) (fun _ _ => false) (fun fs => keySt E (keyT E d) x fs) false false (dk ti.desc)) (E.ty t) = true from h)
    have hti := hT t ti h1
    have hu := fun w => hti.run_under (w := w)
    cases hd' : dk ti.desc with
    | boolD => rw [dk_bool hd'] at hu; simp only [Instr.checkKey, Sem.run_bind, hu, Result.andThen, Sem.run_pure]
    | intD k => rw [dk_int hd'] at hu; simp only [Instr.checkKey, Sem.run_bind, hu, Result.andThen, Sem.run_pure]
    | strD => rw [dk_str hd'] at hu; simp only [Instr.checkKey, Sem.run_bind, hu, Result.andThen, Sem.run_pure]
    | ptrD e => rw [dk_ptr hd'] at hu; simp only [Instr.checkKey, Sem.run_bind, hu, Result.andThen, Sem.run_pure]
    | arrD n e =>
      rw [hd'] at h2; rw [dk_arr hd'] at hu
      obtain ⟨xs, h3, h4⟩ := opt_rec_true (show Option.rec (motive := fun _ => Bool) false (fun xs => Option.rec (motive := fun _ => Bool) false (fun te => keyAr (keyT E d e) te xs n (nat_lit 0)) (E.ty e)) (asAgg x) = true from h2)
      obtain ⟨te, h5, h6⟩ := opt_rec_true h4
      obtain rfl := asAgg_some h3
      obtain ⟨as, e1, rfl⟩ := den_agg ha
      have := keyAr_run (hT _ _ h5) (em := em) (d := d') (fun x a p1 p2 w => ih _ _ _ p1 p2 d' (by omega) w) e1 n 0 (by rw [Nat.zero_mul]; exact h6) w
      simp only [Instr.checkKey, Sem.run_bind, hu, Result.andThen, Std.Legacy.Range.forIn_eq_forIn_range', Std.Legacy.Range.size, Nat.sub_zero, Nat.add_one_sub_one, Nat.div_one]
      rw [this]; rfl
    | structD fs =>
      rw [hd'] at h2
      obtain ⟨f, hf, rfl⟩ := dk_struct hd'
      rw [hf] at hu
      obtain ⟨xs, h3, h4⟩ := opt_rec_true (show Option.rec (motive := fun _ => Bool) false (fun xs => keyFs E (keyT E d) xs f.toList) (asAgg x) = true from h2)
      obtain rfl := asAgg_some h3
      obtain ⟨as, e1, rfl⟩ := den_agg ha
      have := keyFs_run hT (em := em) (d := d') (fun t x a p1 p2 w => ih _ _ _ p1 p2 d' (by omega) w) e1 f.toList h4 w
      simp only [Instr.checkKey, Sem.run_bind, hu, Result.andThen]
      rw [← Array.forIn_toList, this]; rfl
    | _ => rw [hd'] at h2; cases h2
/-! entries -/
theorem ents_get {es : List Ent} : ∀ {ms : List MapEntry} {i : Nat} {e : Ent}, EntsRel φ es ms → es[i]? = some e → ∃ m, ms[i]? = some m ∧ den φ e.k = some m.key ∧ den φ e.v = some m.val ∧ m.born = e.n := by
  induction es with
  | nil => intro ms i e _ h; simp at h
  | cons e' es ih =>
    intro ms i e hr h
    cases ms with
    | nil => exact hr.elim
    | cons m ms =>
      obtain ⟨h1, h2, h3, h4⟩ := hr
      cases i with
      | zero => obtain rfl : e' = e := by simpa using h
                exact ⟨m, rfl, h1, h2, h3⟩
      | succ i => exact ih (i := i) h4 (by simpa using h)
theorem ents_len {es : List Ent} : ∀ {ms : List MapEntry}, EntsRel φ es ms → ms.length = es.length := by
  induction es with
  | nil => intro ms h; cases ms with
    | nil => rfl
    | cons m ms => exact h.elim
  | cons e es ih => intro ms h; cases ms with
    | nil => exact h.elim
    | cons m ms => simp [ih h.2.2.2]
/-- where a key is found -/
noncomputable def hitI (E : Env) (kt : TypeId) (k : AVal) : List Ent → Option (Option Nat)
  | [] => some none
  | e :: es => ob (eqT E eqD kt k e.k) fun b => ife b (some (some 0)) (ob (hitI E kt k es) fun j => some (j.map (· + 1)))
theorem findK_hit {kt : TypeId} {k : AVal} : ∀ {es : List Ent} {r : Option Ent}, findK E kt k es = some r → ∃ j, hitI E kt k es = some j ∧ match j with
    | none => r = none
    | some i => ∃ e, es[i]? = some e ∧ r = some e := by
  intro es
  induction es with
  | nil => intro r h; exact ⟨none, rfl, (Option.some.inj h).symm⟩
  | cons e es ih =>
    intro r h
    obtain ⟨b, h5, h6⟩ := ob_some (show ob (eqT E eqD kt k e.k) (fun r => ife r (some (some e)) (findK E kt k es)) = some r from h)
    cases b with
    | true => exact ⟨some 0, by simp only [hitI, h5]; rfl, e, rfl, (Option.some.inj h6).symm⟩
    | false =>
      obtain ⟨j, h7, h8⟩ := ih h6
      refine ⟨j.map (· + 1), by simp only [hitI, h5]; show ob (hitI E kt k es) _ = _; rw [h7]; rfl, ?_⟩
      cases j with
      | none => exact h8
      | some i => exact h8
def FoundAt (φ : Phi) (j : Option Nat) (es : List Ent) (ms : List MapEntry) (i0 : Nat) (q : Option (Nat × Value)) : Prop := match j with
  | none => q = none
  | some i => ∃ e m, es[i]? = some e ∧ ms[i]? = some m ∧ den φ e.k = some m.key ∧ den φ e.v = some m.val ∧ m.born = e.n ∧ q = some (i0 + i, m.val)
theorem FoundAt.succ {j : Option Nat} {e : Ent} {es : List Ent} {m : MapEntry} {ms : List MapEntry} {i0 : Nat} {q : Option (Nat × Value)} (h : FoundAt φ j es ms (i0 + 1) q) : FoundAt φ (j.map (· + 1)) (e :: es) (m :: ms) i0 q := by
  cases j with
  | none => exact h
  | some i =>
    obtain ⟨e', m', q1, q2, q3, q4, q5, q6⟩ := h
    exact ⟨e', m', by simpa using q1, by simpa using q2, q3, q4, q5, by rw [q6]; congr 2; show i0 + 1 + i = i0 + (i + 1); omega⟩
theorem hitI_cons {kt : TypeId} {k : AVal} {e : Ent} {es : List Ent} {j : Option Nat} (h : hitI E kt k (e :: es) = some j) : ∃ b, eqT E eqD kt k e.k = some b ∧ ((b = true ∧ j = some 0) ∨ (b = false ∧ ∃ j', hitI E kt k es = some j' ∧ j = j'.map (· + 1))) := by
  obtain ⟨b, h1, h2⟩ := ob_some (show ob (eqT E eqD kt k e.k) (fun b => ife b (some (some 0)) (ob (hitI E kt k es) fun j => some (j.map (· + 1)))) = some j from h)
  refine ⟨b, h1, ?_⟩
  cases b with
  | true => exact .inl ⟨rfl, (Option.some.inj h2).symm⟩
  | false =>
    obtain ⟨j', h3, h4⟩ := ob_some (show ob (hitI E kt k es) _ = some j from h2)
    exact .inr ⟨rfl, j', h3, (Option.some.inj h4).symm⟩
theorem findAsking_run (hT : TysOK P E) {kt : TypeId} {k : AVal} {a : Value} (ha : den φ k = some a) : ∀ (es : List Ent) (ms : List MapEntry) (j : Option Nat) (i0 : Nat), EntsRel φ es ms → hitI E kt k es = some j →
    ∃ q, (∀ w, (Instr.findAsking kt a ms i0).run P w = .ok q w) ∧ FoundAt φ j es ms i0 q := by
  intro es
  induction es with
  | nil =>
    intro ms j i0 hr h
    cases ms with
    | nil => obtain rfl := Option.some.inj h; exact ⟨none, fun w => rfl, rfl⟩
    | cons m ms => exact hr.elim
  | cons e es ih =>
    intro ms j i0 hr h
    cases ms with
    | nil => exact hr.elim
    | cons m ms =>
      obtain ⟨h1, h2, h3, h4⟩ := hr
      obtain ⟨b, h5, h6⟩ := hitI_cons h
      have hq := equal_of (eqT_run hT eqD kt k e.k b a m.key h5 ha h1)
      rcases h6 with ⟨rfl, rfl⟩ | ⟨rfl, j', h7, rfl⟩
      · exact ⟨some (i0, m.val), fun w => by simp only [Instr.findAsking, Sem.run_bind, hq, Result.andThen, if_true, Sem.run_pure], e, m, rfl, rfl, h1, h2, h3, rfl⟩
      · obtain ⟨q, h8, h9⟩ := ih ms j' (i0 + 1) h4 h7
        exact ⟨q, fun w => by simp only [Instr.findAsking, Sem.run_bind, hq, Result.andThen, Bool.false_eq_true, if_false, h8], h9.succ⟩
theorem findNow_run (hT : TysOK P E) {kt : TypeId} {ti : Ty} (ht : E.ty kt = some ti) {k : AVal} {a : Value} (ha : den φ k = some a) : ∀ (es : List Ent) (ms : List MapEntry) (j : Option Nat) (i0 : Nat) (q : Option (Nat × Value)), EntsRel φ es ms → hitI E kt k es = some j →
    Instr.findNow ti.desc a ms i0 = some q → FoundAt φ j es ms i0 q := by
  intro es
  induction es with
  | nil =>
    intro ms j i0 q hr h hq
    cases ms with
    | nil => obtain rfl := Option.some.inj h; exact (Option.some.inj hq).symm
    | cons m ms => exact hr.elim
  | cons e es ih =>
    intro ms j i0 q hr h hq
    cases ms with
    | nil => exact hr.elim
    | cons m ms =>
      obtain ⟨h1, h2, h3, h4⟩ := hr
      obtain ⟨b, h5, h6⟩ := hitI_cons h
      have hs : ∀ c, Instr.sameNow ti.desc a m.key = some c → c = b := by
        intro c hc
        have hti := hT kt ti ht
        have heq := equal_of (eqT_run hT eqD kt k e.k b a m.key h5 ha h1)
        have heq' := heq default
        simp only [Instr.sameNow] at hc
        split at hc
        · next kk k1 x k2 hdesc hdd =>
          rw [hdd] at heq'
          split at hc
          · next hk =>
            subst hk
            obtain rfl := Option.some.inj hc
            have h9 := heq'.symm.trans (run_equalIn_int default 9999 kt _ _ _ _ (hti.under.trans (congrArg some hdesc)))
            injection h9 with h9; exact h9.symm
          · cases hc
        · next x y hdesc hdd =>
          rw [hdd] at heq'
          obtain rfl := Option.some.inj hc
          have h9 := heq'.symm.trans (run_equalIn_string default 9999 kt _ _ (by rw [hti.under, hdesc]))
          injection h9 with h9
          rw [beq_toListBytes]; exact h9.symm
        · next x y hdesc hdd =>
          rw [hdd] at heq'
          obtain rfl := Option.some.inj hc
          have h9 := heq'.symm.trans (run_equalIn_bool default 9999 kt _ _ (by rw [hti.under, hdesc]))
          injection h9 with h9; exact h9.symm
        · cases hc
      simp only [Instr.findNow] at hq
      split at hq
      · next hc =>
        obtain rfl := hs true hc
        obtain rfl := Option.some.inj hq
        rcases h6 with ⟨_, rfl⟩ | ⟨h, _⟩
        · exact ⟨e, m, rfl, rfl, h1, h2, h3, rfl⟩
        · cases h
      · next hc =>
        obtain rfl := hs false hc
        rcases h6 with ⟨h, _⟩ | ⟨_, j', h7, rfl⟩
        · cases h
        · exact (ih ms j' (i0 + 1) q h4 h7 hq).succ
      · cases hq
theorem findKey_run (hT : TysOK P E) {kt : TypeId} {ti : Ty} (ht : E.ty kt = some ti) {k : AVal} {a : Value} (ha : den φ k = some a) {es : List Ent} {ms : List MapEntry} {j : Option Nat} (hr : EntsRel φ es ms) (h : hitI E kt k es = some j) :
    ∃ q, (∀ w, (Instr.findKey kt a ms).run P w = .ok q w) ∧ FoundAt φ j es ms 0 q := by
  have hu := fun w => (hT kt ti ht).run_under (w := w)
  cases hn : Instr.findNow ti.desc a ms 0 with
  | none =>
    obtain ⟨q, h1, h2⟩ := findAsking_run hT ha es ms j 0 hr h
    exact ⟨q, fun w => by simp only [Instr.findKey, Sem.run_bind, hu, Result.andThen, hn]; exact h1 w, h2⟩
  | some q => exact ⟨q, fun w => by simp only [Instr.findKey, Sem.run_bind, hu, Result.andThen, hn, Sem.run_pure], findNow_run hT ht ha es ms j 0 q hr h hn⟩
theorem putK_hit {kt : TypeId} {k v : AVal} {c : Nat} : ∀ {es : List Ent} {p : List Ent × Nat}, putK E kt k v c es = some p → ∃ j, hitI E kt k es = some j ∧ match j with
    | none => p = (es ++ [⟨k, v, c⟩], c + 1)
    | some i => ∃ e, es[i]? = some e ∧ p = (es.set i ⟨k, v, e.n⟩, c) ∧ sameK e.k k = true := by
  intro es
  induction es with
  | nil => intro p h; exact ⟨none, rfl, (Option.some.inj h).symm⟩
  | cons e es ih =>
    intro p h
    obtain ⟨b, h5, h6⟩ := ob_some (show ob (eqT E eqD kt k e.k) (fun q => ife q (chk (sameK e.k k) (some (⟨k, v, e.n⟩ :: es, c))) (ob (putK E kt k v c es) fun p => some (e :: p.1, p.2))) = some p from h)
    cases b with
    | true =>
      obtain ⟨h7, h8⟩ := chk_some (show chk (sameK e.k k) _ = some p from h6)
      exact ⟨some 0, by simp only [hitI, h5]; rfl, e, rfl, (Option.some.inj h8).symm, h7⟩
    | false =>
      obtain ⟨p', h7, h8⟩ := ob_some (show ob (putK E kt k v c es) _ = some p from h6)
      obtain ⟨j, h9, h10⟩ := ih h7
      obtain rfl := Option.some.inj h8
      refine ⟨j.map (· + 1), by simp only [hitI, h5]; show ob (hitI E kt k es) _ = _; rw [h9]; rfl, ?_⟩
      cases j with
      | none => rw [show p' = _ from h10]; rfl
      | some i => obtain ⟨e', q1, q2, q3⟩ := h10; exact ⟨e', q1, by rw [q2]; rfl, q3⟩
theorem delK_hit {kt : TypeId} {k : AVal} : ∀ {es es' : List Ent}, delK E kt k es = some es' → ∃ j, hitI E kt k es = some j ∧ match j with
    | none => es' = es
    | some i => es' = es.eraseIdx i := by
  intro es
  induction es with
  | nil => intro p h; exact ⟨none, rfl, (Option.some.inj h).symm⟩
  | cons e es ih =>
    intro p h
    obtain ⟨b, h5, h6⟩ := ob_some (show ob (eqT E eqD kt k e.k) (fun q => ife q (some es) (ob (delK E kt k es) fun r => some (e :: r))) = some p from h)
    cases b with
    | true => exact ⟨some 0, by simp only [hitI, h5]; rfl, (Option.some.inj h6).symm⟩
    | false =>
      obtain ⟨p', h7, h8⟩ := ob_some (show ob (delK E kt k es) _ = some p from h6)
      obtain ⟨j, h9, h10⟩ := ih h7
      obtain rfl := Option.some.inj h8
      refine ⟨j.map (· + 1), by simp only [hitI, h5]; show ob (hitI E kt k es) _ = _; rw [h9]; rfl, ?_⟩
      cases j with
      | none => rw [show p' = _ from h10]; rfl
      | some i => rw [show p' = _ from h10]; rfl
/-! entries that turn -/
theorem ents_set {es : List Ent} : ∀ {ms : List MapEntry} {i : Nat} {e : Ent} {m : MapEntry}, EntsRel φ es ms → den φ e.k = some m.key → den φ e.v = some m.val → m.born = e.n → EntsRel φ (es.set i e) (ms.set i m) := by
  induction es with
  | nil => intro ms i e m hr _ _ _; cases ms with
    | nil => exact trivial
    | cons _ _ => exact hr.elim
  | cons e' es ih => intro ms i e m hr h1 h2 h3; cases ms with
    | nil => exact hr.elim
    | cons m' ms =>
      obtain ⟨q1, q2, q3, q4⟩ := hr
      cases i with
      | zero => exact ⟨h1, h2, h3, q4⟩
      | succ i => exact ⟨q1, q2, q3, ih q4 h1 h2 h3⟩
theorem ents_push {es : List Ent} : ∀ {ms : List MapEntry} {e : Ent} {m : MapEntry}, EntsRel φ es ms → den φ e.k = some m.key → den φ e.v = some m.val → m.born = e.n → EntsRel φ (es ++ [e]) (ms ++ [m]) := by
  induction es with
  | nil => intro ms e m hr h1 h2 h3; cases ms with
    | nil => exact ⟨h1, h2, h3, trivial⟩
    | cons _ _ => exact hr.elim
  | cons e' es ih => intro ms e m hr h1 h2 h3; cases ms with
    | nil => exact hr.elim
    | cons m' ms => obtain ⟨q1, q2, q3, q4⟩ := hr; exact ⟨q1, q2, q3, ih q4 h1 h2 h3⟩
theorem ents_erase {es : List Ent} : ∀ {ms : List MapEntry} {i : Nat}, EntsRel φ es ms → EntsRel φ (es.eraseIdx i) (ms.eraseIdx i) := by
  induction es with
  | nil => intro ms i hr; cases ms with
    | nil => exact trivial
    | cons _ _ => exact hr.elim
  | cons e' es ih => intro ms i hr; cases ms with
    | nil => exact hr.elim
    | cons m' ms =>
      obtain ⟨q1, q2, q3, q4⟩ := hr
      cases i with
      | zero => exact q4
      | succ i => exact ⟨q1, q2, q3, ih q4⟩
/-! the same bits -/
theorem sameA_run {x y : AVal} {a b : Value} (h : sameA x y = true) (ha : den φ x = some a) (hb : den φ y = some b) (d : Nat) : Instr.sameBits d a b = true := by
  cases x with
  | b p =>
    have h' : sameB p y = true := h
    unfold sameB at h'
    obtain ⟨c, h1, h2⟩ := opt_rec_true h'
    obtain rfl := asB_some h1
    rw [den_b ha, den_b hb]
    simp only [Instr.sameBits]; rw [← iff2_eq]; exact h2
  | i k n =>
    have h' : sameI k n y = true := h
    unfold sameI at h'
    rcases asI_cases y with ⟨k', m, rfl, e⟩ | e
    · rw [e] at h'
      obtain ⟨h1, h2⟩ := ife_and h'
      obtain rfl := kEq_true h1
      rw [eqI_eq] at h2
      rw [den_i ha, den_i hb]
      simp only [Instr.sameBits]; simpa using h2
    · rw [e] at h'; cases h'
  | s l n =>
    have h' : sameS l n y = true := h
    unfold sameS at h'
    rcases asS_cases y with ⟨l', m, rfl, e⟩ | e
    · rw [e] at h'
      obtain ⟨h1, h2⟩ := ife_and h'
      obtain rfl := beq_true h1
      obtain rfl := beq_true h2
      rw [(den_s ha).1, (den_s hb).1]
      simp only [Instr.sameBits, beq_toListBytes, beq_self_eq_true]
    · rw [e] at h'; cases h'
  | _ => cases h
theorem all2_run {p : AVal → AVal → Bool} {d : Nat} (ih : ∀ x y a b, p x y = true → den φ x = some a → den φ y = some b → Instr.sameBits d a b = true) : ∀ {l m : List AVal} {xs ys : List Value}, all2 p l m = true → denL φ l = some xs → denL φ m = some ys →
    xs.length = ys.length ∧ (xs.zip ys).all (fun (x, y) => Instr.sameBits d x y) = true
  | [], [], xs, ys, _, h1, h2 => by rw [denL_nil] at h1 h2; obtain rfl := Option.some.inj h1; obtain rfl := Option.some.inj h2; exact ⟨rfl, rfl⟩
  | [], _ :: _, _, _, h, _, _ => by cases h
  | _ :: _, [], _, _, h, _, _ => by cases h
  | x :: l, y :: m, xs, ys, h, h1, h2 => by
    obtain ⟨a, as, p1, p2, rfl⟩ := denL_cons' h1
    obtain ⟨b, bs, q1, q2, rfl⟩ := denL_cons' h2
    obtain ⟨h3, h4⟩ := ife_and (show ife (p x y) (all2 p l m) false = true from h)
    obtain ⟨h5, h6⟩ := all2_run ih h4 p2 q2
    exact ⟨by simp [h5], by simp only [List.zip_cons_cons, List.all_cons, ih x y a b h3 p1 q1, Bool.true_and]; exact h6⟩
theorem sameK_run {x y : AVal} {a b : Value} (h : sameK x y = true) (ha : den φ x = some a) (hb : den φ y = some b) (d : Nat) (hd : 0 < d) : Instr.sameBits d a b = true := by
  unfold sameK at h
  cases hx : asAgg x with
  | none => rw [hx] at h; exact sameA_run h ha hb d
  | some l =>
    rw [hx] at h
    obtain ⟨m, h1, h2⟩ := opt_rec_true (show Option.rec (motive := fun _ => Bool) false (fun m => all2 sameA l m) (asAgg y) = true from h)
    obtain rfl := asAgg_some hx; obtain rfl := asAgg_some h1
    obtain ⟨xs, e1, rfl⟩ := den_agg ha; obtain ⟨ys, e2, rfl⟩ := den_agg hb
    obtain ⟨d, rfl⟩ : ∃ k, d = k + 1 := ⟨d - 1, by omega⟩
    obtain ⟨h3, h4⟩ := all2_run (d := d) (fun x y a b q1 q2 q3 => sameA_run q1 q2 q3 d) h2 e1 e2
    simp only [Instr.sameBits, List.size_toArray, h3, beq_self_eq_true, Bool.true_and]
    exact h4
theorem run_keyThatStays {x y : AVal} {a b : Value} (h : sameK x y = true) (ha : den φ x = some a) (hb : den φ y = some b) : (Instr.keyThatStays a b).run P w = .ok b w := by
  simp only [Instr.keyThatStays, sameK_run h ha hb 10000 (by decide), if_true, Sem.run_pure]
end Go.Abs

set_option autoImplicit false
namespace Go.Abs
variable {E : Env} {P : Program} {N : Nat} {φ : Phi} {w : World}
/-! objects that are no rows -/
theorem run_getObj_of {r : Nat} {o : Obj} (h : w.heap[r]? = some o) (hc : ∀ c e f, o ≠ .cells c e f) : (getObj r).run P w = .ok o w := by
  simp only [getObj, Sem.run, h]
theorem run_setObj_of {r : Nat} {o o' : Obj} (h : w.heap[r]? = some o) (hc : ∀ c e f, o ≠ .cells c e f) : (setObj r o').run P w = .ok () { w with heap := w.heap.setIfInBounds r o' } := by
  simp only [setObj, Sem.run, h]
theorem Goes.obj {h : Heap} {b : Nat} {o o' : AObj} {l : Loc} {x : Obj} (r : Rel E N φ h.get w) (f : Fresh h.next φ h.get) (hb : h.get b = some o) (hl : φ b = some l) (hO : ORel E φ o' l (some x)) :
    Goes E N φ h w φ (h.set b o') { w with heap := w.heap.setIfInBounds l.blk x } := by
  obtain ⟨y, hy⟩ := (r.at hb hl).isSome
  have hlt : l.blk < w.heap.size := (Array.getElem?_eq_some_iff.1 hy).1
  refine Goes.upd r f hb hl (fun B hB => ?_) (by simp) rfl rfl rfl ?_
  · exact Array.getElem?_setIfInBounds_ne (by omega)
  · rw [Array.getElem?_setIfInBounds_self_of_lt hlt]; exact hO
theorem asMap_some {o : AObj} {q : List Ent × Nat} (h : asMap o = some q) : o = .map q.1 q.2 := by
  cases o with
  | map l c => obtain rfl := Option.some.inj h; rfl
  | _ => cases h
theorem mapAt_rel {h : Heap} {b : Nat} {l : Loc} {q : List Ent × Nat} (r : Rel E N φ h.get w) (hm : mapAt h b = some q) (hl : φ b = some l) : h.get b = some (.map q.1 q.2) ∧ ∃ L, w.heap[l.blk]? = some (.map L q.2) ∧ EntsRel φ q.1 L.toList := by
  obtain ⟨o, h1, h2⟩ := ob_some hm
  obtain rfl := asMap_some h2
  exact ⟨h1, r.at h1 hl⟩
theorem mapT_some (hT : TysOK P E) {t : TypeId} {q : TypeId × TypeId} (h : mapT E t = some q) : ∀ w, (underlying t).run P w = .ok (.map q.1 q.2) w := by
  obtain ⟨ti, h1, h2⟩ := ob_some h
  intro w
  rw [(hT _ _ h1).run_under, mapOfD_some h2]
theorem keyT_ty {d : Nat} {t : TypeId} {x : AVal} (h : keyT E d t x = true) : ∃ ti, E.ty t = some ti := by
  cases d with
  | zero => cases h
  | succ d =>
    obtain ⟨ti, h1, _⟩ := opt_rec_true (show Option.rec (motive := fun _ => Bool) false (fun ti =>
      DK.rec (motive := fun _ => Bool) false true (fun _ => true) true (fun _ => true) (fun _ => false) (fun n e => keyAy E (keyT E d) x n e) (fun _ _ => false) (fun fs => keySt E (keyT E d) x fs) false false (dk ti.desc)) (E.ty t) = true from h)
    exact ⟨ti, h1⟩
theorem nomap (L : Array MapEntry) (c : Nat) : ∀ x e f, Obj.map L c ≠ .cells x e f := fun _ _ _ h => by cases h
theorem eqD_le : eqD ≤ 10000 := by decide
theorem lookupV_run (hT : TysOK P E) {h : Heap} (r : Rel E N φ h.get w) {t : TypeId} {x k v : AVal} {ok : Bool} {a j : Value} (hv : lookupV E h t x k ok = some v) (ha : den φ x = some a) (hk : den φ k = some j) :
    ∃ y, (Instr.lookup t a j ok).run P w = .ok y w ∧ den φ v = some y := by
  obtain ⟨q, h1, h2⟩ := ob_some hv
  obtain ⟨h3, h4⟩ := chk_some h2
  obtain ⟨l, h5, h6⟩ := ob_some h4
  obtain ⟨e, h7, h8⟩ := ob_some h6
  obtain ⟨u, h9, h10⟩ := ob_some h8
  obtain rfl := Option.some.inj h10
  have hu := mapT_some hT h1
  have hkey := fun em w => keyT_run hT em eqD q.1 k j h3 hk 10000 eqD_le w
  obtain ⟨ti, hti⟩ := keyT_ty h3
  -- behind the entries
  have key : ∀ L : Array MapEntry, EntsRel φ l.1 L.toList → ∃ y, den φ u = some y ∧ ∀ w, (do
      Instr.checkKey L.isEmpty 10000 q.1 j
      match ← Instr.findKey q.1 j L.toList with
      | some (_, v) => pure (if ok = true then Value.tuple #[v, .bool true] else v)
      | none => do
        let v ← zeroValue q.2
        pure (if ok = true then Value.tuple #[v, .bool false] else v) : Sem Value).run P w = .ok (if ok then .tuple #[y, .bool (isSm e)] else y) w := by
    intro L hL
    obtain ⟨i, g1, g2⟩ := findK_hit h7
    obtain ⟨f, g3, g4⟩ := findKey_run hT hti hk hL g1
    cases i with
    | none =>
      obtain rfl : e = none := g2
      obtain rfl : f = none := g4
      obtain ⟨y, z1, z2⟩ := zeroOf_run hT (show zeroOf E q.2 = some u from h9)
      exact ⟨y, z2 φ, fun w => by simp only [Sem.run_bind, hkey, g3, z1, Result.andThen, Sem.run_pure]; rfl⟩
    | some i =>
      obtain ⟨e', p1, rfl⟩ := g2
      obtain ⟨e2, m, p2, p3, p4, p5, p6, rfl⟩ := g4
      obtain rfl : e' = e2 := Option.some.inj (p1.symm.trans p2)
      obtain rfl : e'.v = u := Option.some.inj (show some e'.v = some u from h9)
      exact ⟨m.val, p5, fun w => by simp only [Sem.run_bind, hkey, g3, Result.andThen, Sem.run_pure]; rfl⟩
  have fin : ∀ y, den φ u = some y → den φ (ife ok (.tup [u, .b (isSm e)]) u) = some (if ok then .tuple #[y, .bool (isSm e)] else y) := by
    intro y hy
    rw [ife_eq]
    split
    · simp only [den, denL, hy]
    · exact hy
  rcases asM_cases x with ⟨rfl, e'⟩ | ⟨b, rfl, e'⟩ | e'
  · simp only [mapL, e'] at h5
    obtain rfl := Option.some.inj h5
    obtain rfl := den_m0 ha
    obtain ⟨y, k1, k2⟩ := key #[] trivial
    refine ⟨_, ?_, fin y k1⟩
    rw [← k2 w]
    simp only [Instr.lookup, Sem.run_bind, hu, Result.andThen, Sem.run_pure]
    split <;> first | rfl | (split <;> rfl)
  · simp only [mapL, e'] at h5
    obtain ⟨loc, hl, rfl⟩ := den_m ha
    obtain ⟨_, L, q2, q3⟩ := mapAt_rel r h5 hl
    obtain ⟨y, k1, k2⟩ := key L q3
    refine ⟨_, ?_, fin y k1⟩
    rw [← k2 w]
    simp only [Instr.lookup, Sem.run_bind, hu, Result.andThen, Sem.run_pure, run_getObj_of q2 (nomap _ _)]
    split <;> first | rfl | (split <;> first | rfl | (split <;> rfl))
  · simp only [mapL, e'] at h5; cases h5
/-- an operation that answers nothing, but changes memory -/
def UnitOK (E : Env) (N : Nat) (φ : Phi) (h : Heap) (w : World) (h' : Heap) (r : Result Unit) : Prop := ∃ w', r = .ok () w' ∧ Goes E N φ h w φ h' w'
theorem updV_run (hT : TysOK P E) {h h' : Heap} (r : Rel E N φ h.get w) (f : Fresh h.next φ h.get) {t : TypeId} {x k v : AVal} {a j y : Value} (hv : updV E h t x k v = some h') (ha : den φ x = some a) (hk : den φ k = some j) (hy : den φ v = some y) :
    UnitOK E N φ h w h' ((Instr.mapUpdate t a j y).run P w) := by
  obtain ⟨q, h1, h2⟩ := ob_some hv
  obtain ⟨h3, h4⟩ := chk_some h2
  obtain ⟨b, h5, h6⟩ := ob_some h4
  obtain ⟨l, h7, h8⟩ := ob_some h6
  obtain ⟨p, h9, h10⟩ := ob_some h8
  obtain rfl := Option.some.inj h10
  have hu := mapT_some hT h1
  have hkey := fun em w => keyT_run hT em eqD q.1 k j h3 hk 10000 eqD_le w
  obtain ⟨ti, hti⟩ := keyT_ty h3
  rcases asM_cases x with ⟨rfl, e'⟩ | ⟨b', rfl, e'⟩ | e'
  · simp only [mapId, e'] at h5; cases h5
  · simp only [mapId, e'] at h5
    obtain rfl := Option.some.inj h5
    obtain ⟨loc, hl, rfl⟩ := den_m ha
    obtain ⟨hb, L, q2, q3⟩ := mapAt_rel r h7 hl
    obtain ⟨i, g1, g2⟩ := putK_hit h9
    obtain ⟨fd, g3, g4⟩ := findKey_run hT hti hk q3 g1
    cases i with
    | none =>
      obtain rfl : fd = none := g4
      obtain rfl : p = _ := g2
      refine ⟨_, ?_, Goes.obj (x := .map (L.push { key := j, val := y, born := l.2 }) (l.2 + 1)) r f hb hl ⟨_, rfl, by rw [Array.toList_push]; exact ents_push q3 hk hy rfl⟩⟩
      simp only [Instr.mapUpdate, Sem.run_bind, hu, Result.andThen, run_getObj_of q2 (nomap _ _), hkey, g3, run_setObj_of q2 (nomap _ _)]
    | some i =>
      obtain ⟨e, p1, rfl, p3⟩ := g2
      obtain ⟨e2, m, p4, p5, p6, p7, p8, rfl⟩ := g4
      obtain rfl : e = e2 := Option.some.inj (p1.symm.trans p4)
      have hLi : L[i]? = some m := by rw [← Array.getElem?_toList]; exact p5
      have hst : (Instr.keyThatStays (((L[i]?).map (·.key)).getD j) j).run P w = .ok j w := by rw [hLi]; exact run_keyThatStays p3 p6 hk
      have hmod : (L.modify i fun e => { e with key := j, val := y }).toList = L.toList.set i { key := j, val := y, born := e.n } := by
        rw [Array.toList_modify]
        apply List.ext_getElem?
        intro n
        rw [List.getElem?_modify, List.getElem?_set]
        by_cases hn : i = n
        · subst hn
          have hlt : i < L.toList.length := (List.getElem?_eq_some_iff.1 p5).1
          rw [if_pos rfl, if_pos hlt, p5]
          simp [p8]
        · simp [hn]
      refine ⟨_, ?_, Goes.obj (x := .map (L.modify i fun e => { e with key := j, val := y }) l.2) r f hb hl ⟨_, rfl, by rw [hmod]; exact ents_set q3 hk hy rfl⟩⟩
      simp only [Instr.mapUpdate, Sem.run_bind, hu, Result.andThen, run_getObj_of q2 (nomap _ _), hkey, g3, Nat.zero_add, hst, run_setObj_of q2 (nomap _ _)]
  · simp only [mapId, e'] at h5; cases h5
end Go.Abs

set_option autoImplicit false
namespace Go.Abs
variable {E : Env} {P : Program} {N : Nat} {φ : Phi} {w : World}
/-- an operation that answers, and changes memory -/
def EffOK (E : Env) (N : Nat) (φ : Phi) (h : Heap) (w : World) (v : AVal) (h' : Heap) (r : Result Value) : Prop := ∃ w' φ' a, r = .ok a w' ∧ den φ' v = some a ∧ Goes E N φ h w φ' h' w'
theorem modify_list {L : Array MapEntry} {i : Nat} {m : MapEntry} (f : MapEntry → MapEntry) (h : L.toList[i]? = some m) : (L.modify i f).toList = L.toList.set i (f m) := by
  rw [Array.toList_modify]
  apply List.ext_getElem?
  intro n
  rw [List.getElem?_modify, List.getElem?_set]
  by_cases hn : i = n
  · subst hn
    have hlt : i < L.toList.length := (List.getElem?_eq_some_iff.1 h).1
    rw [if_pos rfl, if_pos hlt, h]; simp
  · simp [hn]
theorem entryV_run (hT : TysOK P E) {h h' : Heap} (r : Rel E N φ h.get w) (f : Fresh h.next φ h.get) {t : TypeId} {x k v : AVal} {a j : Value} (hv : entryV E h t x k = some (.eff v h')) (ha : den φ x = some a) (hk : den φ k = some j) :
    EffOK E N φ h w v h' ((Instr.mapEntry t a j).run P w) := by
  obtain ⟨q, h1, h2⟩ := ob_some hv
  obtain ⟨h3, h4⟩ := chk_some h2
  obtain ⟨b, h5, h6⟩ := ob_some h4
  obtain ⟨l, h7, h8⟩ := ob_some h6
  obtain ⟨e, h9, h10⟩ := ob_some h8
  obtain ⟨u, h11, h12⟩ := ob_some h10
  obtain ⟨p, h13, h14⟩ := ob_some h12
  obtain ⟨rfl, rfl⟩ := Nx.eff.inj (Option.some.inj h14)
  have hu := mapT_some hT h1
  have hkey := fun em w => keyT_run hT em eqD q.1 k j h3 hk 10000 eqD_le w
  obtain ⟨ti, hti⟩ := keyT_ty h3
  rcases asM_cases x with ⟨rfl, e'⟩ | ⟨b', rfl, e'⟩ | e'
  · simp only [mapId, e'] at h5; cases h5
  · simp only [mapId, e'] at h5
    obtain rfl := Option.some.inj h5
    obtain ⟨loc, hl, rfl⟩ := den_m ha
    obtain ⟨hb, L, q2, q3⟩ := mapAt_rel r h7 hl
    obtain ⟨i, g1, g2⟩ := putK_hit h13
    obtain ⟨i', g1', g2'⟩ := findK_hit h9
    obtain rfl := Option.some.inj (g1.symm.trans g1')
    obtain ⟨fd, g3, g4⟩ := findKey_run hT hti hk q3 g1
    cases i with
    | none =>
      obtain rfl : fd = none := g4
      obtain rfl : p = _ := g2
      obtain rfl : e = none := g2'
      obtain ⟨z, z1, z2⟩ := zeroOf_run hT (show zeroOf E q.2 = some u from h11)
      refine ⟨_, φ, .tuple #[z, goInt l.2], ?_, ?_, Goes.obj (x := .map (L.push { key := j, val := z, born := l.2 }) (l.2 + 1)) r f hb hl ⟨_, rfl, by rw [Array.toList_push]; exact ents_push q3 hk (z2 φ) rfl⟩⟩
      · simp only [Instr.mapEntry, Sem.run_bind, hu, Result.andThen, run_getObj_of q2 (nomap _ _), hkey, g3, z1, run_setObj_of q2 (nomap _ _), Sem.run_pure]
      · simp only [den, denL, z2]; rfl
    | some i =>
      obtain ⟨e1, p1, rfl, p3⟩ := g2
      obtain ⟨e2, m, p4, p5, p6, p7, p8, rfl⟩ := g4
      obtain ⟨e3, p9, rfl⟩ := g2'
      obtain rfl : e1 = e2 := Option.some.inj (p1.symm.trans p4)
      obtain rfl : e1 = e3 := Option.some.inj (p1.symm.trans p9)
      obtain rfl : e1.v = u := Option.some.inj (show some e1.v = some u from h11)
      have hLi : L[i]? = some m := by rw [← Array.getElem?_toList]; exact p5
      have hst : (Instr.keyThatStays m.key j).run P w = .ok j w := run_keyThatStays p3 p6 hk
      refine ⟨_, φ, .tuple #[m.val, goInt e1.n], ?_, ?_, Goes.obj (x := .map (L.modify i fun e => { e with key := j }) l.2) r f hb hl ⟨_, rfl, by rw [modify_list _ p5]; exact ents_set q3 hk p7 p8⟩⟩
      · simp only [Instr.mapEntry, Sem.run_bind, hu, Result.andThen, run_getObj_of q2 (nomap _ _), hkey, g3, Nat.zero_add, hst, run_setObj_of q2 (nomap _ _), Sem.run_pure, hLi, Option.map_some, Option.getD_some, p8]
      · simp only [den, denL, p7]; rfl
  · simp only [mapId, e'] at h5; cases h5
theorem putN_hit {n : Nat} {v : AVal} : ∀ {es es' : List Ent}, putN n v es = some es' → ∃ i e, es[i]? = some e ∧ e.n = n ∧ (∀ j e', j < i → es[j]? = some e' → e'.n ≠ n) ∧ es' = es.set i ⟨e.k, v, e.n⟩ := by
  intro es
  induction es with
  | nil => intro es' h; cases h
  | cons e es ih =>
    intro es' h
    have h0 : ife (Nat.beq e.n n) (some (⟨e.k, v, e.n⟩ :: es)) (ob (putN n v es) fun r => some (e :: r)) = some es' := h
    rw [ife_eq] at h0
    split at h0
    · next hb => exact ⟨0, e, rfl, beq_true hb, fun j e' hj => by omega, (Option.some.inj h0).symm⟩
    · next hb =>
      obtain ⟨r, h1, h2⟩ := ob_some h0
      obtain rfl := Option.some.inj h2
      obtain ⟨i, e', q1, q2, q3, rfl⟩ := ih h1
      refine ⟨i + 1, e', q1, q2, fun j e2 hj he => ?_, rfl⟩
      cases j with
      | zero => obtain rfl : e = e2 := by simpa using he
                exact beq_false (Bool.eq_false_iff.2 hb)
      | succ j => exact q3 j e2 (by omega) (by simpa using he)
theorem findIdx_of {es : List Ent} {n i : Nat} {e : Ent} : ∀ {ms : List MapEntry}, EntsRel φ es ms → es[i]? = some e → e.n = n → (∀ j e', j < i → es[j]? = some e' → e'.n ≠ n) → ms.findIdx? (fun m => ((m.born : Nat) : Int) == ((n : Nat) : Int)) = some i := by
  induction es generalizing i with
  | nil => intro ms _ h; simp at h
  | cons e0 es ih =>
    intro ms hr h he hlt
    cases ms with
    | nil => exact hr.elim
    | cons m ms =>
      obtain ⟨_, _, q3, q4⟩ := hr
      cases i with
      | zero =>
        obtain rfl : e0 = e := by simpa using h
        simp [List.findIdx?_cons, q3, he]
      | succ i =>
        have hne : e0.n ≠ n := hlt 0 e0 (by omega) rfl
        have hm : (((m.born : Nat) : Int) == ((n : Nat) : Int)) = false := by
          rw [beq_eq_false_iff_ne]; rw [q3]; omega
        rw [List.findIdx?_cons, hm]
        have := ih (i := i) q4 (by simpa using h) he (fun j e' hj h' => hlt (j + 1) e' (by omega) (by simpa using h'))
        simp [this]
theorem entryS_run {h h' : Heap} (r : Rel E N φ h.get w) (f : Fresh h.next φ h.get) {t : TypeId} {x n v : AVal} {a j y : Value} (hv : entryS h x n v = some h') (ha : den φ x = some a) (hn : den φ n = some j) (hy : den φ v = some y) :
    UnitOK E N φ h w h' ((Instr.entryStore t a j y).run P w) := by
  obtain ⟨b, h5, h6⟩ := ob_some hv
  obtain ⟨l, h7, h8⟩ := ob_some h6
  obtain ⟨c, h9, h10⟩ := ob_some h8
  obtain ⟨es, h11, h12⟩ := ob_some h10
  obtain rfl := Option.some.inj h12
  obtain ⟨kk, rfl⟩ := natV_some h9
  obtain rfl := den_i hn
  rcases asM_cases x with ⟨rfl, e'⟩ | ⟨b', rfl, e'⟩ | e'
  · simp only [mapId, e'] at h5; cases h5
  · simp only [mapId, e'] at h5
    obtain rfl := Option.some.inj h5
    obtain ⟨loc, hl, rfl⟩ := den_m ha
    obtain ⟨hb, L, q2, q3⟩ := mapAt_rel r h7 hl
    obtain ⟨i, e, p1, p2, p3, rfl⟩ := putN_hit h11
    obtain ⟨m, p4, p5, p6, p7⟩ := ents_get q3 p1
    have hfi := findIdx_of q3 p1 p2 p3
    have hfi' : L.findIdx? (fun m => ((m.born : Nat) : Int) == ((c : Nat) : Int)) = some i := by
      rw [← hfi, ← List.findIdx?_toArray]
    refine ⟨_, ?_, Goes.obj (x := .map (L.modify i fun e => { e with val := y }) l.2) r f hb hl ⟨_, rfl, by rw [modify_list _ p4]; exact ents_set q3 p5 hy p7⟩⟩
    simp only [Instr.entryStore, Sem.run_bind, Result.andThen, run_getObj_of q2 (nomap _ _), asInt, asIntOf, Sem.run_pure, hfi', run_setObj_of q2 (nomap _ _)]
  · simp only [mapId, e'] at h5; cases h5
theorem delV_run (hT : TysOK P E) {h h' : Heap} (r : Rel E N φ h.get w) (f : Fresh h.next φ h.get) {ts : Array TypeId} {t ty : TypeId} {x k : AVal} {a j : Value} (hts : ts[0]? = some t) (hv : delV E h t x k = some h') (ha : den φ x = some a) (hk : den φ k = some j) :
    EffOK E N φ h w (.tup []) h' ((Builtin.delete_ ts ty #[a, j]).run P w) := by
  obtain ⟨q, h1, h2⟩ := ob_some hv
  obtain ⟨h3, h4⟩ := chk_some h2
  have hu := mapT_some hT h1
  have hkey := fun em w => keyT_run hT em eqD q.1 k j h3 hk 10000 eqD_le w
  obtain ⟨ti, hti⟩ := keyT_ty h3
  rcases asM_cases x with ⟨rfl, e'⟩ | ⟨b, rfl, e'⟩ | e'
  · rw [e'] at h4; cases h4
  · rw [e'] at h4
    obtain ⟨l, h7, h8⟩ := ob_some (show ob (mapAt h b) (fun l => ob (delK E q.1 k l.1) fun m => some (h.set b (.map m l.2))) = some h' from h4)
    obtain ⟨es, h9, h10⟩ := ob_some h8
    obtain rfl := Option.some.inj h10
    obtain ⟨loc, hl, rfl⟩ := den_m ha
    obtain ⟨hb, L, q2, q3⟩ := mapAt_rel r h7 hl
    obtain ⟨i, g1, g2⟩ := delK_hit h9
    obtain ⟨fd, g3, g4⟩ := findKey_run hT hti hk q3 g1
    cases i with
    | none =>
      obtain rfl : fd = none := g4
      obtain rfl : es = _ := g2
      refine ⟨_, φ, .tuple #[], ?_, by simp only [den, denL], Goes.obj (x := .map L l.2) r f hb hl ⟨_, rfl, q3⟩⟩
      simp only [Builtin.delete_, hts, Array.getElem?_eq_getElem (show 0 < #[Value.map (some loc.blk), j].size by simp), Array.getElem?_eq_getElem (show 1 < #[Value.map (some loc.blk), j].size by simp)]
      simp [hu, run_getObj_of q2 (nomap _ _), hkey, g3, run_setObj_of q2 (nomap _ _)]
    | some i =>
      obtain rfl : es = _ := g2
      obtain ⟨e2, m, p4, p5, p6, p7, p8, rfl⟩ := g4
      refine ⟨_, φ, .tuple #[], ?_, by simp only [den, denL], Goes.obj (x := .map (L.eraseIdxIfInBounds i) l.2) r f hb hl ⟨_, rfl, ?_⟩⟩
      · simp only [Builtin.delete_, hts, Array.getElem?_eq_getElem (show 0 < #[Value.map (some loc.blk), j].size by simp), Array.getElem?_eq_getElem (show 1 < #[Value.map (some loc.blk), j].size by simp)]
        simp [hu, run_getObj_of q2 (nomap _ _), hkey, g3, run_setObj_of q2 (nomap _ _)]
      · have : (L.eraseIdxIfInBounds i).toList = L.toList.eraseIdx i := by
          have hlt : i < L.size := by simpa using (List.getElem?_eq_some_iff.1 p5).1
          simp [Array.eraseIdxIfInBounds, hlt]
        rw [this]; exact ents_erase q3
  · rw [e'] at h4; cases h4
end Go.Abs

set_option autoImplicit false
namespace Go.Abs
variable {E : Env} {P : Program} {N : Nat} {φ : Phi} {w : World}
/-! a range over a map -/
theorem noiter (m : Option Nat) (s : Nat) (seen : Array Nat) (l : Nat) : ∀ x e f, Obj.mapIter m s seen l ≠ .cells x e f := fun _ _ _ h => by cases h
theorem rangeV_run (hT : TysOK P E) {h : Heap} (r : Rel E N φ h.get w) {t : TypeId} {x v : AVal} {id : Nat} {o : AObj} {a : Value} (hv : rangeV E h t x id = some (.new o v)) (ha : den φ x = some a) (hid : φ id = none) :
    NewOK E φ w id o v ((Instr.range t a).run P w) := by
  obtain ⟨q, h1, h2⟩ := ob_some hv
  have hu := mapT_some hT h1
  rcases asM_cases x with ⟨rfl, e'⟩ | ⟨b, rfl, e'⟩ | e'
  · rw [e'] at h2
    obtain ⟨rfl, rfl⟩ := Nx.new.inj (Option.some.inj h2)
    obtain rfl := den_m0 ha
    exact ⟨.mapIter none 0 #[] 0, 0, .pointer (some ⟨w.heap.size, 0, none⟩), { w with heap := w.heap.push (.mapIter none 0 #[] 0) }, by simp [Instr.range, hu], rfl, rfl, rfl, rfl, ⟨none, rfl, rfl⟩, den_p_mk (Phi.put_same _ _ _)⟩
  · rw [e'] at h2
    obtain ⟨l, h3, h4⟩ := ob_some (show ob (mapAt h b) (fun l => some (.new (.iter (some b) l.2 [] l.2) (.p id (nat_lit 0)))) = some (Nx.new o v) from h2)
    obtain ⟨rfl, rfl⟩ := Nx.new.inj (Option.some.inj h4)
    obtain ⟨loc, hl, rfl⟩ := den_m ha
    obtain ⟨hb, L, q2, q3⟩ := mapAt_rel r h3 hl
    have hrun : (Instr.range t (.map (some loc.blk))).run P w = .ok (.pointer (some ⟨w.heap.size, 0, none⟩)) { w with heap := w.heap.push (.mapIter (some loc.blk) l.2 #[] l.2) } := by
      simp [Instr.range, hu, run_getObj_of q2 (nomap _ _)]
    exact ⟨.mapIter (some loc.blk) l.2 #[] l.2, 0, _, _, hrun, rfl, rfl, rfl, rfl, ⟨some loc.blk, rfl, loc, Phi.put_ext _ hid _ _ hl, rfl⟩, den_p_mk (Phi.put_same _ _ _)⟩
  · rw [e'] at h2; cases h2
theorem memN_eq (n : Nat) (l : List Nat) : memN n l = l.contains n := by
  induction l with
  | nil => rfl
  | cons a l ih =>
    show ife (Nat.beq a n) true (memN n l) = _
    rw [ife_eq, ih, List.contains_cons]
    by_cases h : a = n
    · subst h; simp
    · rw [if_neg (by intro h'; exact h (beq_true h'))]
      have : (n == a) = false := by rw [beq_eq_false_iff_ne]; exact fun e => h e.symm
      rw [this, Bool.false_or]
theorem left_rel {seen : List Nat} : ∀ {l : List Ent} {ms : List MapEntry}, EntsRel φ l ms → EntsRel φ (leftE seen l) (ms.filter fun m => !seen.contains m.born) := by
  intro l
  induction l with
  | nil => intro ms h; cases ms with
    | nil => exact trivial
    | cons _ _ => exact h.elim
  | cons e l ih =>
    intro ms h
    cases ms with
    | nil => exact h.elim
    | cons m ms =>
      obtain ⟨h1, h2, h3, h4⟩ := h
      show EntsRel φ (ife (memN e.n seen) (leftE seen l) (e :: leftE seen l)) _
      rw [ife_eq, memN_eq, List.filter_cons, h3]
      by_cases hc : seen.contains e.n = true
      · rw [if_pos hc, if_neg (by rw [hc]; simp)]; exact ih h4
      · rw [if_neg hc, if_pos (by simpa using hc)]; exact ⟨h1, h2, h3, ih h4⟩
theorem allNew_rel {last : Nat} : ∀ {l : List Ent} {ms : List MapEntry}, EntsRel φ l ms → ms.all (fun m => decide (m.born ≥ last)) = allNew last l := by
  intro l
  induction l with
  | nil => intro ms h; cases ms with
    | nil => rfl
    | cons _ _ => exact h.elim
  | cons e l ih =>
    intro ms h
    cases ms with
    | nil => exact h.elim
    | cons m ms =>
      obtain ⟨_, _, h3, h4⟩ := h
      show _ = ife (Nat.ble last e.n) (allNew last l) false
      rw [List.all_cons, ih h4, h3, ife_eq]
      by_cases hc : last ≤ e.n
      · rw [if_pos (Nat.ble_eq_true_of_le hc), decide_eq_true (show e.n ≥ last from hc), Bool.true_and]
      · rw [if_neg (fun h => hc (ble_true h)), decide_eq_false (show ¬e.n ≥ last from hc), Bool.false_and]
theorem seen_empty (seen : List Nat) : seen.toArray.isEmpty = Nat.beq (lenL seen) 0 := by
  rw [lenL_eq]; cases seen <;> rfl
theorem ents_empty {l : List Ent} {L : Array MapEntry} (h : EntsRel φ l L.toList) : L.isEmpty = Nat.beq (lenL l) 0 := by
  rw [lenL_eq, ← ents_len h]
  rw [← Array.isEmpty_toList]; cases L.toList <;> rfl
/-- what comes next: nothing new, or one entry -/
theorem nextV_run {h : Heap} (r : Rel E N φ h.get w) (f : Fresh h.next φ h.get) {x : AVal} {a : Value} {nx : Nx} {ty : TypeId} (hv : nextV h x = some nx) (ha : den φ x = some a) :
    (∃ v y, nx = .val v ∧ (Instr.next a false ty).run P w = .ok y w ∧ den φ v = some y) ∨ (∃ v h', nx = .eff v h' ∧ EffOK E N φ h w v h' ((Instr.next a false ty).run P w)) := by
  unfold nextV at hv
  rcases asP_cases x with ⟨rfl, e⟩ | ⟨b, o, rfl, e⟩ | ⟨b, o, rfl, e⟩ | e
  · rw [e] at hv; cases hv
  · rw [e] at hv
    obtain ⟨h1, h2⟩ := chk_some (show chk (Nat.beq o (nat_lit 0)) (ob (h.get b) (nextO h b)) = some nx from hv)
    obtain rfl := beq_true h1
    obtain ⟨ob', h3, h4⟩ := ob_some h2
    obtain ⟨loc, hl, rfl⟩ := den_p ha
    have hO := r.at h3 hl
    cases ob' with
    | iter m since seen last =>
      obtain ⟨m', hm1, hm2⟩ := hO
      have h5 : nextI h b m since seen last = some nx := h4
      cases m with
      | none =>
        obtain rfl : m' = none := hm2
        obtain rfl := Option.some.inj h5
        exact .inl ⟨_, .tuple #[.bool false], rfl, by simp only [Instr.next, Sem.run_bind, run_getObj_of hm1 (noiter _ _ _ _), Result.andThen, Sem.run_pure], by simp only [den, denL]⟩
      | some mb =>
        obtain ⟨lb, hlb, rfl⟩ := hm2
        obtain ⟨q, h6, h7⟩ := ob_some (show ob (mapAt h mb) (fun l => chk (ife (Nat.beq (lenL seen) (nat_lit 0)) true (ife (Nat.beq (lenL l.1) (nat_lit 0)) true (Bool.not (allNew last l.1)))) (nextM h b mb since seen l.2 (leftE seen l.1))) = some nx from h5)
        obtain ⟨h8, h9⟩ := chk_some h7
        obtain ⟨hmb, L, q2, q3⟩ := mapAt_rel r h6 hlb
        have hcond : (!seen.toArray.isEmpty && !L.isEmpty && L.all (fun e => decide (e.born ≥ last))) = false := by
          have hall : L.all (fun e => decide (e.born ≥ last)) = allNew last q.1 := by rw [← Array.all_toList]; exact allNew_rel q3
          rw [seen_empty, ents_empty q3, hall]
          have h8' : ife (Nat.beq (lenL seen) 0) true (ife (Nat.beq (lenL q.1) 0) true (Bool.not (allNew last q.1))) = true := h8
          revert h8'
          cases Nat.beq (lenL seen) 0 <;> cases Nat.beq (lenL q.1) 0 <;> cases allNew last q.1 <;> simp [ife]
        have hleft := left_rel (seen := seen) q3
        have hfl : (L.filter fun e => !seen.toArray.contains e.born).toList = L.toList.filter fun m => !seen.contains m.born := by simp
        cases hE : leftE seen q.1 with
        | nil =>
          rw [hE] at h9 hleft
          obtain rfl := Option.some.inj (show some (Nx.val (.tup [.b false])) = some nx from h9)
          have hnil : (L.filter fun e => !seen.toArray.contains e.born) = #[] := by
            apply Array.ext'
            rw [hfl]
            cases hF : L.toList.filter (fun m => !seen.contains m.born) with
            | nil => rfl
            | cons _ _ => rw [hF] at hleft; exact hleft.elim
          refine .inl ⟨_, .tuple #[.bool false], rfl, ?_, by simp only [den, denL]⟩
          simp only [Instr.next, Sem.run_bind, run_getObj_of hm1 (noiter _ _ _ _), Result.andThen, run_getObj_of q2 (nomap _ _), hcond, hnil]
          simp [Question.forced]
        | cons e rest =>
          rw [hE] at h9 hleft
          cases rest with
          | cons _ _ => cases h9
          | nil =>
            obtain ⟨h10, h11⟩ := chk_some (show chk (lt e.n since) (some (Nx.eff (.tup [.b true, e.k, e.v]) (h.set b (.iter (some mb) since (seen ++ [e.n]) q.2)))) = some nx from h9)
            obtain rfl := Option.some.inj h11
            have hlt := lt_true h10
            obtain ⟨m, hm, k1, k2, k3⟩ : ∃ m, (L.filter fun e => !seen.toArray.contains e.born) = #[m] ∧ den φ e.k = some m.key ∧ den φ e.v = some m.val ∧ m.born = e.n := by
              cases hF : L.toList.filter (fun m => !seen.contains m.born) with
              | nil => rw [hF] at hleft; exact hleft.elim
              | cons m ms =>
                rw [hF] at hleft
                obtain ⟨k1, k2, k3, k4⟩ := hleft
                cases ms with
                | cons _ _ => exact k4.elim
                | nil => exact ⟨m, by apply Array.ext'; rw [hfl, hF], k1, k2, k3⟩
            have hb1 : decide (m.born < since) = true := by simpa [k3] using hlt
            have hb2 : decide (m.born ≥ since) = false := by simp [k3]; omega
            refine .inr ⟨_, _, rfl, _, φ, .tuple #[.bool true, m.key, m.val], ?_, by simp only [den, denL, k1, k2], Goes.obj (x := .mapIter (some lb.blk) since (seen.toArray.push m.born) q.2) r f h3 hl ⟨some lb.blk, by rw [k3]; simp, lb, hlb, rfl⟩⟩
            simp only [Instr.next, Sem.run_bind, run_getObj_of hm1 (noiter _ _ _ _), Result.andThen, run_getObj_of q2 (nomap _ _), hcond, hm]
            simp [Question.forced, hb1, hb2, run_setObj_of hm1 (noiter _ _ _ _)]
    | _ => cases h4
  · rw [e] at hv; cases hv
  · rw [e] at hv; cases hv
theorem lastN_eq (l : List Nat) : lastN l = l.getLast? := by
  induction l with
  | nil => rfl
  | cons a l ih =>
    cases l with
    | nil => rfl
    | cons b l => show lastN (b :: l) = _; rw [ih]; simp
theorem findN_rel {n : Nat} : ∀ {l : List Ent} {ms : List MapEntry} {e : Ent}, EntsRel φ l ms → findN n l = some e → ∃ m, ms.find? (fun m => m.born == n) = some m ∧ den φ e.k = some m.key ∧ den φ e.v = some m.val := by
  intro l
  induction l with
  | nil => intro ms e _ h; cases h
  | cons e0 l ih =>
    intro ms e h hf
    cases ms with
    | nil => exact h.elim
    | cons m ms =>
      obtain ⟨h1, h2, h3, h4⟩ := h
      have hf' : ife (Nat.beq e0.n n) (some e0) (findN n l) = some e := hf
      rw [ife_eq] at hf'
      split at hf'
      · next hb => obtain rfl := Option.some.inj hf'; exact ⟨m, by simp [h3, beq_true hb], h1, h2⟩
      · next hb =>
        obtain ⟨m', k1, k2, k3⟩ := ih h4 hf'
        have : (m.born == n) = false := by rw [beq_eq_false_iff_ne, h3]; exact beq_false (Bool.eq_false_iff.2 hb)
        exact ⟨m', by simp [this, k1], k2, k3⟩
theorem entV_run {h : Heap} (r : Rel E N φ h.get w) {x v : AVal} {a : Value} (hv : entV h x = some v) (ha : den φ x = some a) : ∃ y, (Instr.entry a).run P w = .ok y w ∧ den φ v = some y := by
  unfold entV at hv
  rcases asP_cases x with ⟨rfl, e⟩ | ⟨b, o, rfl, e⟩ | ⟨b, o, rfl, e⟩ | e
  · rw [e] at hv; cases hv
  · rw [e] at hv
    obtain ⟨h1, h2⟩ := chk_some (show chk (Nat.beq o (nat_lit 0)) (ob (h.get b) (entO h)) = some v from hv)
    obtain rfl := beq_true h1
    obtain ⟨ob', h3, h4⟩ := ob_some h2
    obtain ⟨loc, hl, rfl⟩ := den_p ha
    have hO := r.at h3 hl
    cases ob' with
    | iter m since seen last =>
      obtain ⟨m', hm1, hm2⟩ := hO
      obtain ⟨mb, h5, h6⟩ := ob_some (show ob m (fun m => ob (mapAt h m) fun l => chk (Nat.beq l.2 last) (ob (lastN seen) fun n => ob (findN n l.1) fun e => some (.tup [e.k, e.v]))) = some v from h4)
      obtain rfl : m = some mb := h5
      obtain ⟨lb, hlb, rfl⟩ := hm2
      obtain ⟨q, h7, h8⟩ := ob_some h6
      obtain ⟨h9, h10⟩ := chk_some h8
      obtain ⟨n, h11, h12⟩ := ob_some h10
      obtain ⟨e1, h13, h14⟩ := ob_some h12
      obtain rfl := Option.some.inj h14
      obtain ⟨hmb, L, q2, q3⟩ := mapAt_rel r h7 hlb
      obtain ⟨m, k1, k2, k3⟩ := findN_rel q3 h13
      rw [lastN_eq] at h11
      have hback : seen.toArray.back? = some n := by simpa using h11
      have hfind : L.find? (fun m => m.born == n) = some m := by rw [← Array.find?_toList]; exact k1
      have hclock : (q.2 != last) = false := by rw [beq_true h9]; simp
      refine ⟨.tuple #[m.key, m.val], ?_, by simp only [den, denL, k2, k3]⟩
      simp only [Instr.entry, Sem.run_bind, run_getObj_of hm1 (noiter _ _ _ _), Result.andThen, hback, run_getObj_of q2 (nomap _ _), hclock, Bool.false_eq_true, if_false, hfind, Sem.run_pure]
    | _ => cases h4
  · rw [e] at hv; cases hv
  · rw [e] at hv; cases hv
end Go.Abs
