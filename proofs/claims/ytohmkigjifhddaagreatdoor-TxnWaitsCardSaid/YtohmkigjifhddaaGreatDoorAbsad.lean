/- A part of a proof about Go functions of this program: an evaluator with a memory of its own, and the proof that what it finds the model finds (C6, C7, C8, C9). No conditions beyond those that each theorem names. -/
import Derived.Test.YtohmkigjifhddaaGreatDoorAbsac
set_option linter.all false
set_option autoImplicit false
namespace Go.Abs
variable {E : Env} {P : Program} {φ : Phi} {w : World}
theorem bitsN_eq (k : IntKind) : bitsN k = k.bits := by cases k <;> rfl
theorem minN_eq (a b : Nat) : minN a b = min a b := by
  unfold minN
  rw [ife_eq]
  split
  · next h => have := ble_true h; omega
  · next h => have := ble_false (Bool.eq_false_iff.2 h); omega
theorem shlI_eq (k : IntKind) (x : Int) (n : Nat) : shlI k x n = k.wrap (x * 2 ^ n) := by
  cases x with
  | negSucc a => rfl
  | ofNat a =>
    show fit k (a * 2 ^ n) = _
    rw [fit_eq]; congr 1
theorem shrI_eq (x : Int) (n : Nat) : shrI x n = x.fdiv (2 ^ n) := by
  cases x with
  | negSucc a => rfl
  | ofNat a =>
    show Int.ofNat (a / 2 ^ n) = _
    have : (2 : Int) ^ n = ((2 ^ n : Nat) : Int) := by simp
    rw [this, Int.ofNat_eq_natCast, Int.ofNat_eq_natCast, Int.natCast_ediv, Int.fdiv_eq_ediv_of_nonneg _ (Int.natCast_nonneg _)]
theorem hi_lt (k : IntKind) : hi k < 2 ^ k.bits := by cases k <;> decide
theorem hi_pow (k : IntKind) : ∃ m, m ≤ k.bits ∧ hi k + 1 = 2 ^ m := by
  cases k
  · exact ⟨7, by decide, rfl⟩
  · exact ⟨15, by decide, rfl⟩
  · exact ⟨31, by decide, rfl⟩
  · exact ⟨63, by decide, rfl⟩
  · exact ⟨8, by decide, rfl⟩
  · exact ⟨16, by decide, rfl⟩
  · exact ⟨32, by decide, rfl⟩
  · exact ⟨64, by decide, rfl⟩
theorem ofInt_toNat (k : IntKind) {a : Nat} (h : a ≤ hi k) : (BitVec.ofInt k.bits (a : Int)).toNat = a := by
  rw [BitVec.ofInt_natCast, BitVec.toNat_ofNat]
  exact Nat.mod_eq_of_lt (Nat.lt_of_le_of_lt h (hi_lt k))
theorem bits2_eq {slow : IntKind → Int → Int → Int} {op : Nat → Nat → Nat} (k : IntKind) (h : ∀ a b, a ≤ hi k → b ≤ hi k → ((op a b : Nat) : Int) = slow k a b) (x y : Int) : bits2 slow op k x y = slow k x y := by
  cases x with
  | negSucc a => rfl
  | ofNat a =>
    cases y with
    | negSucc b => rfl
    | ofNat b =>
      show ife (Nat.ble a (hi k)) (ife (Nat.ble b (hi k)) (Int.ofNat (op a b)) (slow k a b)) (slow k a b) = slow k a b
      rw [ife_eq, ife_eq]
      split
      · next h1 =>
        split
        · next h2 => exact h a b (ble_true h1) (ble_true h2)
        · rfl
      · rfl
theorem andI_eq (k : IntKind) (x y : Int) : andI k x y = k.wrap ((BitVec.ofInt k.bits x &&& BitVec.ofInt k.bits y).toNat : Int) := by
  refine bits2_eq k (fun a b ha hb => ?_) x y
  show _ = k.wrap _
  rw [BitVec.toNat_and, ofInt_toNat k ha, ofInt_toNat k hb]
  exact (wrap_hi k _ (Nat.le_trans Nat.and_le_left ha)).symm
theorem orI_eq (k : IntKind) (x y : Int) : orI k x y = k.wrap ((BitVec.ofInt k.bits x ||| BitVec.ofInt k.bits y).toNat : Int) := by
  refine bits2_eq k (fun a b ha hb => ?_) x y
  show ((a ||| b : Nat) : Int) = k.wrap _
  rw [BitVec.toNat_or, ofInt_toNat k ha, ofInt_toNat k hb]
  obtain ⟨m, _, hm⟩ := hi_pow k
  have : a ||| b < 2 ^ m := Nat.or_lt_two_pow (by omega) (by omega)
  exact (wrap_hi k _ (by omega)).symm
theorem xorI_eq (k : IntKind) (x y : Int) : xorI k x y = k.wrap ((BitVec.ofInt k.bits x ^^^ BitVec.ofInt k.bits y).toNat : Int) := by
  refine bits2_eq k (fun a b ha hb => ?_) x y
  show ((a ^^^ b : Nat) : Int) = k.wrap _
  rw [BitVec.toNat_xor, ofInt_toNat k ha, ofInt_toNat k hb]
  obtain ⟨m, _, hm⟩ := hi_pow k
  have : a ^^^ b < 2 ^ m := Nat.xor_lt_two_pow (by omega) (by omega)
  exact (wrap_hi k _ (by omega)).symm
theorem convI_eq (k : IntKind) (n : Int) : convI k n = k.wrap n := by
  cases n with
  | ofNat a => exact fit_eq k a
  | negSucc a => rfl
theorem not_zero {y : Int} (h : Bool.not (eqI y (Int.ofNat (nat_lit 0))) = true) : y ≠ 0 := by
  rw [eqI_eq] at h
  intro e
  subst e
  cases h
theorem den_int {k : IntKind} {n m : Int} (h : n = m) : den φ (.i k n) = some (.int k m) := by rw [h]; simp only [den]
theorem den_bool {x y : Bool} (h : x = y) : den φ (.b x) = some (.bool y) := by rw [h]; simp only [den]
theorem not_decide (p : Prop) [Decidable p] : (!decide p) = decide ¬p := by by_cases h : p <;> simp [h]
theorem arith_run {op : BinOp} {k : IntKind} {x y : Int} {v : AVal} {t : TypeId} (h : arith op k x y = some v) : ∃ r, (∀ w, (binOp op t (.int k x) (.int k y)).run P w = .ok r w) ∧ den φ v = some r := by
  cases op with
  | add => obtain rfl := Option.some.inj h; exact ⟨_, fun w => by simp only [binOp, ne_eq, not_true, if_false, Op.intArith, Sem.run_pure], den_int (addI_eq k x y)⟩
  | sub => obtain rfl := Option.some.inj h; exact ⟨_, fun w => by simp only [binOp, ne_eq, not_true, if_false, Op.intArith, Sem.run_pure], den_int (subI_eq k x y)⟩
  | mul => obtain rfl := Option.some.inj h; exact ⟨_, fun w => by simp only [binOp, ne_eq, not_true, if_false, Op.intArith, Sem.run_pure], den_int (mulI_eq k x y)⟩
  | quo =>
    obtain ⟨h1, h2⟩ := chk_some h
    obtain rfl := Option.some.inj h2
    exact ⟨_, fun w => by simp only [binOp, ne_eq, not_true, if_false, Op.intDiv, not_zero h1, Sem.run_pure], den_int (quoI_eq k x y)⟩
  | rem =>
    obtain ⟨h1, h2⟩ := chk_some h
    obtain rfl := Option.some.inj h2
    exact ⟨_, fun w => by simp only [binOp, ne_eq, not_true, if_false, Op.intDiv, not_zero h1, Sem.run_pure], den_int (remI_eq x y)⟩
  | and => obtain rfl := Option.some.inj h; exact ⟨_, fun w => by simp only [binOp, ne_eq, not_true, if_false, Op.intBits, Sem.run_pure], den_int (andI_eq k x y)⟩
  | or => obtain rfl := Option.some.inj h; exact ⟨_, fun w => by simp only [binOp, ne_eq, not_true, if_false, Op.intBits, Sem.run_pure], den_int (orI_eq k x y)⟩
  | xor => obtain rfl := Option.some.inj h; exact ⟨_, fun w => by simp only [binOp, ne_eq, not_true, if_false, Op.intBits, Sem.run_pure], den_int (xorI_eq k x y)⟩
  | shl => cases h
  | shr => cases h
  | andNot => obtain rfl := Option.some.inj h; exact ⟨.int k (andNotI k x y), fun w => by simp only [binOp, ne_eq, not_true, if_false, Op.intBits, Sem.run_pure]; rfl, den_int rfl⟩
  | eql => obtain rfl := Option.some.inj h; exact ⟨_, fun w => by simp only [binOp, ne_eq, not_true, if_false, Op.intCmp, Sem.run_pure], den_bool (eqI_eq x y)⟩
  | neq => obtain rfl := Option.some.inj h; exact ⟨.bool (x != y), fun w => by simp only [binOp, ne_eq, not_true, if_false, Op.intCmp, Sem.run_pure], den_bool (by unfold neI; rw [eqI_eq]; rfl)⟩
  | lss => obtain rfl := Option.some.inj h; exact ⟨.bool (decide (x < y)), fun w => by simp only [binOp, ne_eq, not_true, if_false, Op.intCmp, Sem.run_pure], den_bool (by unfold ltI; rw [leI_eq]; show (!_) = _; rw [not_decide]; simp)⟩
  | leq => obtain rfl := Option.some.inj h; exact ⟨.bool (decide (x ≤ y)), fun w => by simp only [binOp, ne_eq, not_true, if_false, Op.intCmp, Sem.run_pure], den_bool (leI_eq x y)⟩
  | gtr => obtain rfl := Option.some.inj h; exact ⟨.bool (decide (x > y)), fun w => by simp only [binOp, ne_eq, not_true, if_false, Op.intCmp, Sem.run_pure], den_bool (by unfold gtI; rw [leI_eq]; show (!_) = _; rw [not_decide]; simp)⟩
  | geq => obtain rfl := Option.some.inj h; exact ⟨.bool (decide (x ≥ y)), fun w => by simp only [binOp, ne_eq, not_true, if_false, Op.intCmp, Sem.run_pure], den_bool (by unfold geI; rw [leI_eq])⟩
theorem shift_run {op : BinOp} {s : SOp} {k k' : IntKind} {x y : Int} {n : Nat} {v : AVal} {t : TypeId} (hs : shiftO op = some s) (hn : natI y = some n) (h : s k x n = some v) :
    ∃ r, (∀ w, (binOp op t (.int k x) (.int k' y)).run P w = .ok r w) ∧ den φ v = some r := by
  obtain rfl := natI_some hn
  have h0 : ¬((n : Int) < 0) := by omega
  cases op with
  | shl =>
    obtain rfl := Option.some.inj hs; obtain rfl := Option.some.inj h
    exact ⟨.int k (k.wrap (x * 2 ^ min (n : Int).toNat k.bits)), fun w => by simp only [binOp, Op.shift, h0, if_false, Sem.run_pure], den_int (by rw [shlI_eq, minN_eq, bitsN_eq, Int.toNat_natCast])⟩
  | shr =>
    obtain rfl := Option.some.inj hs; obtain rfl := Option.some.inj h
    exact ⟨.int k (x.fdiv (2 ^ min (n : Int).toNat k.bits)), fun w => by simp only [binOp, Op.shift, h0, if_false, Sem.run_pure], den_int (by rw [shrI_eq, minN_eq, bitsN_eq, Int.toNat_natCast])⟩
  | _ => cases hs
theorem strOp_run {op : BinOp} {l a l' c : Nat} {v : AVal} {t : TypeId} (ha : a < 256 ^ l) (hc : c < 256 ^ l') (h : strOp op l a l' c = some v) :
    ∃ r, (∀ w, (binOp op t (.string (bytesOf l a)) (.string (bytesOf l' c))).run P w = .ok r w) ∧ den φ v = some r := by
  cases op with
  | add =>
    obtain ⟨h1, h2⟩ := chk_some h
    obtain rfl := Option.some.inj h2
    have h3 : l + l' ≤ 9223372036854775807 := ble_true h1
    have h4 : ¬(((l + l' : Nat) : Int) > IntKind.i64.max) := by
      have : IntKind.i64.max = 9223372036854775807 := rfl
      omega
    refine ⟨.string (bytesOf (l + l') (cat l a c)), fun w => ?_, by simp only [den]; exact if_pos (cat_lt ha hc)⟩
    simp only [binOp, Op.stringOp, bytesOf_size, h4, if_false, Sem.run_pure, bytesOf_append ha]
  | eql => obtain rfl := Option.some.inj h; exact ⟨.bool ((bytesOf l a).toList == (bytesOf l' c).toList), fun w => by simp only [binOp, Op.stringOp, Sem.run_pure], den_bool (str_eq ha hc).symm⟩
  | neq => obtain rfl := Option.some.inj h; exact ⟨.bool (!((bytesOf l a).toList == (bytesOf l' c).toList)), fun w => by simp only [binOp, Op.stringOp, Sem.run_pure], den_bool (by rw [str_eq ha hc])⟩
  | _ => cases h
theorem eqOp_cases {op : BinOp} {f : Bool → Bool} (h : eqOp op = some f) : (op = .eql ∧ f = fun b => b) ∨ (op = .neq ∧ f = Bool.not) := by
  cases op with
  | eql => exact .inl ⟨rfl, (Option.some.inj h).symm⟩
  | neq => exact .inr ⟨rfl, (Option.some.inj h).symm⟩
  | _ => cases h
theorem equal_of {t : TypeId} {a b : Value} {r : Bool} (h : ∀ d', 8 ≤ d' → ∀ w, (Op.equalIn d' t a b).run P w = .ok r w) : ∀ w, (Op.equal t a b).run P w = .ok r w := fun w => h 10000 (by decide) w
theorem binV_run (hT : TysOK P E) {op : BinOp} {t : TypeId} {ox oy : Operand} {x y v : AVal} {a b : Value} (h : binV E op t (isConst ox) (isConst oy) x y = some v) (ha : den φ x = some a) (hb : den φ y = some b) :
    ∃ r, (∀ w, (do eqGuard op t ox oy a b; binOp op t a b : Sem Value).run P w = .ok r w) ∧ den φ v = some r := by
  unfold binV at h
  rcases asI_cases x with ⟨k, n, rfl, e⟩ | e
  · rw [e] at h
    have h1 : binI op k n y = some v := h
    unfold binI at h1
    rcases asI_cases y with ⟨k', m, rfl, e'⟩ | e'
    · rw [e'] at h1
      rw [den_i ha, den_i hb]
      have hg : ∀ w, (eqGuard op t ox oy (.int k n) (.int k' m)).run P w = .ok () w := fun w => by cases op <;> rfl
      cases hs : shiftO op with
      | none =>
        rw [hs] at h1
        obtain ⟨h2, h3⟩ := chk_some (show chk (kEq k k') (arith op k n m) = some v from h1)
        obtain rfl := kEq_true h2
        obtain ⟨r, h4, h5⟩ := arith_run (P := P) (φ := φ) (t := t) h3
        exact ⟨r, fun w => by rw [Sem.run_bind, hg]; exact h4 w, h5⟩
      | some s =>
        rw [hs] at h1
        obtain ⟨q, h2, h3⟩ := ob_some (show ob (natI m) (fun q => s k n q) = some v from h1)
        obtain ⟨r, h4, h5⟩ := shift_run (P := P) (φ := φ) (t := t) (k' := k') hs h2 h3
        exact ⟨r, fun w => by rw [Sem.run_bind, hg]; exact h4 w, h5⟩
    · rw [e'] at h1; cases h1
  · rw [e] at h
    rcases asS_cases x with ⟨l, n, rfl, e2⟩ | e2
    · rw [e2] at h
      have h1 : binS op l n y = some v := h
      unfold binS at h1
      rcases asS_cases y with ⟨l', m, rfl, e'⟩ | e'
      · rw [e'] at h1
        obtain ⟨rfl, hn⟩ := den_s ha; obtain ⟨rfl, hm⟩ := den_s hb
        have hg : ∀ w, (eqGuard op t ox oy (.string (bytesOf l n)) (.string (bytesOf l' m))).run P w = .ok () w := fun w => by cases op <;> rfl
        obtain ⟨r, h4, h5⟩ := strOp_run (P := P) (φ := φ) (t := t) hn hm h1
        exact ⟨r, fun w => by rw [Sem.run_bind, hg]; exact h4 w, h5⟩
      · rw [e'] at h1; cases h1
    · rw [e2] at h
      obtain ⟨ti, h1, h2⟩ := ob_some (show ob (E.ty t) (fun ti => chk (ife (isSm (asAgg x)) (Bool.not ti.guard) (ife (isI0 x) (ife (isI0 y) (ife (isConst ox) true (isConst oy)) true) true)) (binE op (eqT E eqD t x y))) = some v from h)
      obtain ⟨h3, h4⟩ := chk_some h2
      obtain ⟨f, h5, h6⟩ := ob_some (show ob (eqOp op) (fun f => ob (eqT E eqD t x y) fun r => some (.b (f r))) = some v from h4)
      obtain ⟨r, h7, h8⟩ := ob_some h6
      obtain rfl := Option.some.inj h8
      have hq := equal_of (eqT_run hT eqD t x y r a b h7 ha hb)
      have hg : ∀ w, (eqGuard op t ox oy a b).run P w = .ok () w := by
        intro w
        have hcl : ∀ {p : Value}, (p matches .nilIface) = false → (p matches .agg _) = false → (eqGuard op t ox oy p b).run P w = .ok () w := by
          intro p p1 p2
          rcases eqOp_cases h5 with ⟨rfl, _⟩ | ⟨rfl, _⟩ <;> cases p <;> first | rfl | (simp at p1; done) | (simp at p2; done)
        cases x with
        | agg l =>
          obtain ⟨xs, _, rfl⟩ := den_agg ha
          have hguard : P.eqGuardType P.depth t = false := by
            rw [(hT t ti h1).guard]
            have h3' : Bool.not ti.guard = true := h3
            cases hh : ti.guard <;> simp_all
          rcases eqOp_cases h5 with ⟨rfl, _⟩ | ⟨rfl, _⟩ <;> cases b <;> first | rfl | simp [eqGuard, hguard]
        | i0 =>
          obtain rfl := den_i0 ha
          cases y with
          | i0 =>
            obtain rfl := den_i0 hb
            have h3' : ife (isConst ox) true (isConst oy) = true := h3
            rcases eqOp_cases h5 with ⟨rfl, _⟩ | ⟨rfl, _⟩ <;> cases ox <;> cases oy <;> first | rfl | cases h3'
          | ic t' v' => obtain ⟨_, _, rfl⟩ := den_ic hb; rcases eqOp_cases h5 with ⟨rfl, _⟩ | ⟨rfl, _⟩ <;> rfl
          | agg l => obtain ⟨_, _, rfl⟩ := den_agg hb; rcases eqOp_cases h5 with ⟨rfl, _⟩ | ⟨rfl, _⟩ <;> rfl
          | b z => rw [den_b hb]; rcases eqOp_cases h5 with ⟨rfl, _⟩ | ⟨rfl, _⟩ <;> rfl
          | i k n => rw [den_i hb]; rcases eqOp_cases h5 with ⟨rfl, _⟩ | ⟨rfl, _⟩ <;> rfl
          | s l n => rw [(den_s hb).1]; rcases eqOp_cases h5 with ⟨rfl, _⟩ | ⟨rfl, _⟩ <;> rfl
          | p0 => rw [den_p0 hb]; rcases eqOp_cases h5 with ⟨rfl, _⟩ | ⟨rfl, _⟩ <;> rfl
          | p b o => obtain ⟨_, _, rfl⟩ := den_p hb; rcases eqOp_cases h5 with ⟨rfl, _⟩ | ⟨rfl, _⟩ <;> rfl
          | g b o => rw [den_g hb]; rcases eqOp_cases h5 with ⟨rfl, _⟩ | ⟨rfl, _⟩ <;> rfl
          | sl0 => rw [den_sl0 hb]; rcases eqOp_cases h5 with ⟨rfl, _⟩ | ⟨rfl, _⟩ <;> rfl
          | sl b o n c => obtain ⟨_, _, rfl⟩ := den_sl hb; rcases eqOp_cases h5 with ⟨rfl, _⟩ | ⟨rfl, _⟩ <;> rfl
          | m0 => rw [den_m0 hb]; rcases eqOp_cases h5 with ⟨rfl, _⟩ | ⟨rfl, _⟩ <;> rfl
          | m b => obtain ⟨_, _, rfl⟩ := den_m hb; rcases eqOp_cases h5 with ⟨rfl, _⟩ | ⟨rfl, _⟩ <;> rfl
          | f fn a c => obtain ⟨_, _, _, _, _, _, rfl⟩ := den_f hb; rcases eqOp_cases h5 with ⟨rfl, _⟩ | ⟨rfl, _⟩ <;> rfl
          | f0 => rw [den_f0 hb]; rcases eqOp_cases h5 with ⟨rfl, _⟩ | ⟨rfl, _⟩ <;> rfl
          | tup l => obtain ⟨_, _, rfl⟩ := den_tup hb; rcases eqOp_cases h5 with ⟨rfl, _⟩ | ⟨rfl, _⟩ <;> rfl
        | ic t' v' => obtain ⟨_, _, rfl⟩ := den_ic ha; exact hcl rfl rfl
        | b z => rw [den_b ha]; exact hcl rfl rfl
        | i k n => cases e
        | s l n => cases e2
        | p0 => rw [den_p0 ha]; exact hcl rfl rfl
        | p b o => obtain ⟨_, _, rfl⟩ := den_p ha; exact hcl rfl rfl
        | g b o => rw [den_g ha]; exact hcl rfl rfl
        | sl0 => rw [den_sl0 ha]; exact hcl rfl rfl
        | sl b o n c => obtain ⟨_, _, rfl⟩ := den_sl ha; exact hcl rfl rfl
        | m0 => rw [den_m0 ha]; exact hcl rfl rfl
        | m b => obtain ⟨_, _, rfl⟩ := den_m ha; exact hcl rfl rfl
        | f fn a c => obtain ⟨_, _, _, _, _, _, rfl⟩ := den_f ha; exact hcl rfl rfl
        | f0 => rw [den_f0 ha]; exact hcl rfl rfl
        | tup l => obtain ⟨_, _, rfl⟩ := den_tup ha; exact hcl rfl rfl
      have hbin : ∀ w, (binOp op t a b).run P w = .ok (.bool (f r)) w := by
        intro w
        have hcl : ∀ {p : Value}, (∀ k n, p ≠ .int k n) → (∀ s, p ≠ .string s) → (∀ k n, p ≠ .float k n) → (∀ k n m, p ≠ .complex k n m) → (Op.equal t p b).run P w = .ok r w → (binOp op t p b).run P w = .ok (.bool (f r)) w := by
          intro p p1 p2 p3 p4 p5
          rcases eqOp_cases h5 with ⟨rfl, rfl⟩ | ⟨rfl, rfl⟩ <;> cases p <;>
            first
              | exact absurd rfl (p1 _ _)
              | exact absurd rfl (p2 _)
              | exact absurd rfl (p3 _ _)
              | exact absurd rfl (p4 _ _ _)
              | simp [binOp, p5]
        refine hcl ?_ ?_ ?_ ?_ (hq w)
        · rintro k n rfl
          cases x with
          | i k n => cases e
          | b z => cases den_b ha
          | s l n => cases (den_s ha).1
          | p0 => cases den_p0 ha
          | p b o => obtain ⟨_, _, h⟩ := den_p ha; cases h
          | g b o => cases den_g ha
          | sl0 => cases den_sl0 ha
          | sl b o n c => obtain ⟨_, _, h⟩ := den_sl ha; cases h
          | m0 => cases den_m0 ha
          | m b => obtain ⟨_, _, h⟩ := den_m ha; cases h
          | f fn a c => obtain ⟨_, _, _, _, _, _, h⟩ := den_f ha; cases h
          | f0 => cases den_f0 ha
          | ic t v => obtain ⟨_, _, h⟩ := den_ic ha; cases h
          | i0 => cases den_i0 ha
          | agg l => obtain ⟨_, _, h⟩ := den_agg ha; cases h
          | tup l => obtain ⟨_, _, h⟩ := den_tup ha; cases h
        · rintro s rfl
          cases x with
          | i k n => cases e
          | b z => cases den_b ha
          | s l n => cases e2
          | p0 => cases den_p0 ha
          | p b o => obtain ⟨_, _, h⟩ := den_p ha; cases h
          | g b o => cases den_g ha
          | sl0 => cases den_sl0 ha
          | sl b o n c => obtain ⟨_, _, h⟩ := den_sl ha; cases h
          | m0 => cases den_m0 ha
          | m b => obtain ⟨_, _, h⟩ := den_m ha; cases h
          | f fn a c => obtain ⟨_, _, _, _, _, _, h⟩ := den_f ha; cases h
          | f0 => cases den_f0 ha
          | ic t v => obtain ⟨_, _, h⟩ := den_ic ha; cases h
          | i0 => cases den_i0 ha
          | agg l => obtain ⟨_, _, h⟩ := den_agg ha; cases h
          | tup l => obtain ⟨_, _, h⟩ := den_tup ha; cases h
        all_goals
          intros
          rintro rfl
          cases x with
          | i k n => cases e
          | b z => cases den_b ha
          | s l n => cases (den_s ha).1
          | p0 => cases den_p0 ha
          | p b o => obtain ⟨_, _, h⟩ := den_p ha; cases h
          | g b o => cases den_g ha
          | sl0 => cases den_sl0 ha
          | sl b o n c => obtain ⟨_, _, h⟩ := den_sl ha; cases h
          | m0 => cases den_m0 ha
          | m b => obtain ⟨_, _, h⟩ := den_m ha; cases h
          | f fn a c => obtain ⟨_, _, _, _, _, _, h⟩ := den_f ha; cases h
          | f0 => cases den_f0 ha
          | ic t v => obtain ⟨_, _, h⟩ := den_ic ha; cases h
          | i0 => cases den_i0 ha
          | agg l => obtain ⟨_, _, h⟩ := den_agg ha; cases h
          | tup l => obtain ⟨_, _, h⟩ := den_tup ha; cases h
      exact ⟨.bool (f r), fun w => by rw [Sem.run_bind, hg]; exact hbin w, den_bool rfl⟩
end Go.Abs

set_option autoImplicit false
namespace Go.Abs
variable {E : Env} {P : Program} {N : Nat} {φ : Phi} {w : World}
/-! one number -/
theorem hi_max (k : IntKind) (h : k.signed = false) : ((hi k : Nat) : Int) = k.max := by cases k <;> first | rfl | cases h
theorem unV_run {op : UnOp} {x v : AVal} {a : Value} (h : unV op x = some v) (ha : den φ x = some a) : ∃ r, (∀ w, (Op.unary op a).run P w = .ok r w) ∧ den φ v = some r := by
  unfold unV at h
  rcases asI_cases x with ⟨k, n, rfl, e⟩ | e
  · rw [e] at h
    rw [den_i ha]
    cases op with
    | neg => obtain rfl := Option.some.inj h; exact ⟨.int k (k.wrap (0 - n)), fun w => by simp only [Op.unary, Op.intArith, Sem.run_pure], den_int (subI_eq k 0 n)⟩
    | xor =>
      obtain rfl := Option.some.inj h
      refine ⟨.int k (k.wrap ((BitVec.ofInt k.bits (if k.signed then -1 else k.max) ^^^ BitVec.ofInt k.bits n).toNat : Int)), fun w => by simp only [Op.unary, Op.intBits, Sem.run_pure], den_int ?_⟩
      rw [xorI_eq, ife_eq]
      split
      · rfl
      · next hs => rw [show Int.ofNat (hi k) = k.max from hi_max k (by simpa using hs)]
    | _ => cases h
  · rw [e] at h
    obtain ⟨b, h1, h2⟩ := ob_some (show ob (asB x) (fun b => unB b op) = some v from h)
    obtain rfl := asB_some h1
    rw [den_b ha]
    cases op with
    | not => obtain rfl := Option.some.inj h2; exact ⟨.bool (!b), fun w => by simp only [Op.unary, Sem.run_pure], den_bool rfl⟩
    | _ => cases h2
/-! slices -/
theorem optN_cases {x : Option AVal} {n m : Nat} (h : optN x n = some m) : (x = none ∧ m = n) ∨ ∃ k, x = some (.i k (m : Int)) := by
  cases x with
  | none => exact .inl ⟨rfl, (Option.some.inj h).symm⟩
  | some v => obtain ⟨k, rfl⟩ := natV_some h; exact .inr ⟨k, rfl⟩
/-- operands that may be left out -/
def denO (φ : Phi) : Option AVal → Option Value → Prop
  | none, none => True
  | some v, some a => den φ v = some a
  | _, _ => False
theorem run_sliceBound {k : IntKind} {n y : Nat} {c : BoundsCode} (h : n ≤ y) : (Instr.sliceBound (.int k (n : Int)) y c).run P w = .ok n w := by
  simp only [Instr.sliceBound, asIntOf, Sem.run_bind, Sem.run_pure, Result.andThen]
  rw [if_pos ⟨by omega, by omega⟩]
  simp
theorem denO_none {x : Option Value} (h : denO φ none x) : x = none := by
  cases x with
  | none => rfl
  | some v => exact h.elim
theorem denO_some {v : AVal} {x : Option Value} (h : denO φ (some v) x) : ∃ a, x = some a ∧ den φ v = some a := by
  cases x with
  | none => exact h.elim
  | some a => exact ⟨a, rfl, h⟩
theorem run_bounds {sl : Bool} {len cap l h : Nat} {lo hi : Option AVal} {lo' hi' : Option Value} (h1 : optN lo 0 = some l) (h2 : optN hi len = some h) (d1 : denO φ lo lo') (d2 : denO φ hi hi') (e1 : l ≤ h) (e2 : h ≤ cap) :
    (Instr.sliceBounds sl len cap lo' hi' none).run P w = .ok (l, h, cap) w := by
  rcases optN_cases h2 with ⟨rfl, rfl⟩ | ⟨k, rfl⟩
  · obtain rfl := denO_none d2
    rcases optN_cases h1 with ⟨rfl, rfl⟩ | ⟨k, rfl⟩
    · obtain rfl := denO_none d1
      rfl
    · obtain ⟨_, rfl, d1⟩ := denO_some d1
      obtain rfl := den_i d1
      simp only [Instr.sliceBounds, Sem.run_bind, Sem.run_pure, Result.andThen, run_sliceBound e1]
  · obtain ⟨_, rfl, d2⟩ := denO_some d2
    obtain rfl := den_i d2
    rcases optN_cases h1 with ⟨rfl, rfl⟩ | ⟨k, rfl⟩
    · obtain rfl := denO_none d1
      simp only [Instr.sliceBounds, Sem.run_bind, Sem.run_pure, Result.andThen, run_sliceBound e2]
    · obtain ⟨_, rfl, d1⟩ := denO_some d1
      obtain rfl := den_i d1
      simp only [Instr.sliceBounds, Sem.run_bind, Sem.run_pure, Result.andThen, run_sliceBound e1, run_sliceBound e2]
theorem run_bounds3 {sl : Bool} {len cap l h m : Nat} {lo hi : Option AVal} {mx : AVal} {lo' hi' : Option Value} {mx' : Value} (h1 : optN lo 0 = some l) (h2 : optN hi len = some h) (hh : ∃ v, hi = some v) (h3 : natV mx = some m) (d1 : denO φ lo lo') (d2 : denO φ hi hi') (d3 : den φ mx = some mx')
    (e1 : l ≤ h) (e2 : h ≤ m) (e3 : m ≤ cap) : (Instr.sliceBounds sl len cap lo' hi' (some mx')).run P w = .ok (l, h, m) w := by
  obtain ⟨k3, rfl⟩ := natV_some h3
  obtain rfl := den_i d3
  obtain ⟨hv, rfl⟩ := hh
  rcases optN_cases h2 with ⟨h4, _⟩ | ⟨k2, h4⟩
  · cases h4
  · obtain rfl := Option.some.inj h4
    obtain ⟨_, rfl, d2⟩ := denO_some d2
    obtain rfl := den_i d2
    rcases optN_cases h1 with ⟨rfl, rfl⟩ | ⟨k, rfl⟩
    · obtain rfl := denO_none d1
      simp only [Instr.sliceBounds, Sem.run_bind, Sem.run_pure, Result.andThen, run_sliceBound e2, run_sliceBound e3]
    · obtain ⟨_, rfl, d1⟩ := denO_some d1
      obtain rfl := den_i d1
      simp only [Instr.sliceBounds, Sem.run_bind, Sem.run_pure, Result.andThen, run_sliceBound e1, run_sliceBound e2, run_sliceBound e3]
theorem moved_eq (c l off sz : Nat) : moved c l off sz = if c = l then off else off + l * sz := by
  unfold moved
  rw [ife_eq]
  cases h : Nat.beq c l with
  | true => rw [if_pos rfl, if_pos (beq_true h)]
  | false => rw [if_neg (by simp), if_neg (beq_false h)]; rfl
theorem addr_moved (b off m l sz : Nat) : (if m = l then (⟨b, off, none⟩ : Addr) else (Addr.mk b off none).add (l * sz)) = ⟨b, moved m l off sz, none⟩ := by
  rw [moved_eq]
  split
  · rfl
  · exact addr_add b off (l * sz)
theorem sliceV_run (hT : TysOK P E) {t : TypeId} {ti : Ty} (ht : E.ty t = some ti) {x v : AVal} {a : Value} {lo hi mx : Option AVal} {lo' hi' mx' : Option Value} (h : sliceV E (dk ti.desc) x lo hi mx = some v)
    (ha : den φ x = some a) (d1 : denO φ lo lo') (d2 : denO φ hi hi') (d3 : denO φ mx mx') : ∃ r, (∀ w, (Instr.sliceAt t a lo' hi' mx').run P w = .ok r w) ∧ den φ v = some r := by
  obtain ⟨l, h1, h2⟩ := ob_some (show ob (optN lo 0) _ = some v from h)
  have hti := hT t ti ht
  cases hd : dk ti.desc with
  | strD =>
    rw [hd] at h2
    have hu : ∀ w, (underlying t).run P w = .ok .string w := fun w => by rw [hti.run_under, dk_str hd]
    obtain ⟨h3, h4⟩ := chk_some (show chk (Bool.not (isSm mx)) (slStr l hi x) = some v from h2)
    unfold slStr at h4
    rcases asS_cases x with ⟨len, n, rfl, e⟩ | e
    · rw [e] at h4
      obtain ⟨q, h5, h6⟩ := ob_some (show ob (optN hi len) (fun h => chk (Nat.ble l h) (chk (Nat.ble h len) (some (.s (Nat.sub h l) (sub n l (Nat.sub h l)))))) = some v from h4)
      obtain ⟨h7, h8⟩ := chk_some h6
      obtain ⟨h9, h10⟩ := chk_some h8
      obtain rfl := Option.some.inj h10
      obtain ⟨rfl, hn⟩ := den_s ha
      have hmx : mx' = none := by
        cases mx with
        | none => cases mx' with
          | none => rfl
          | some _ => exact d3.elim
        | some _ => cases h3
      subst hmx
      refine ⟨.string (bytesOf (q - l) (sub n l (q - l))), fun w => ?_, by simp only [den]; exact if_pos (sub_lt _ _ _)⟩
      have hb := run_bounds (P := P) (w := w) (sl := false) (φ := φ) h1 h5 d1 d2 (ble_true h7) (ble_true h9)
      have hb' : (Instr.sliceBounds false (bytesOf len n).size (bytesOf len n).size lo' hi' none).run P w = .ok (l, q, len) w := by rw [bytesOf_size]; exact hb
      simp only [Instr.sliceAt, Sem.run_bind, hu, Result.andThen, Instr.slice, Option.isSome_none, Bool.false_eq_true, if_false, Sem.run_pure, hb', bytesOf_extract (ble_true h7) (ble_true h9)]
    · rw [e] at h4; cases h4
  | arrD n e =>
    rw [hd] at h2
    have hu : ∀ w, (underlying t).run P w = .ok (.array n e) w := fun w => by rw [hti.run_under, dk_arr hd]
    obtain ⟨h3, h4⟩ := chk_some (show chk (Bool.not (isSm mx)) (slArr E l n e hi x) = some v from h2)
    unfold slArr at h4
    rcases asP_cases x with ⟨rfl, e'⟩ | ⟨b, o, rfl, e'⟩ | ⟨b, o, rfl, e'⟩ | e'
    · rw [e'] at h4; cases h4
    · rw [e'] at h4
      obtain ⟨te, h4', h5'⟩ := ob_some (show ob (E.ty e) (fun te => ob (optN hi n) fun h => chk (Nat.ble l h) (chk (Nat.ble h n) (some (.sl b (moved n l o te.size) (Nat.sub h l) (.ex (Nat.sub n l)))))) = some v from h4)
      obtain ⟨q, h5, h6⟩ := ob_some h5'
      obtain ⟨h7, h8⟩ := chk_some h6
      obtain ⟨h9, h10⟩ := chk_some h8
      obtain rfl := Option.some.inj h10
      obtain ⟨loc, hl, rfl⟩ := den_p ha
      have hmx : mx' = none := by
        cases mx with
        | none => cases mx' with
          | none => rfl
          | some _ => exact d3.elim
        | some _ => cases h3
      subst hmx
      have k1 := ble_true h7; have k2 := ble_true h9
      refine ⟨_, fun w => ?_, den_sl_ex hl (show q - l ≤ n - l by omega)⟩
      simp only [Instr.sliceAt, Sem.run_bind, hu, Result.andThen, Instr.sureAddr, Sem.run_pure, run_bounds (P := P) (w := w) (sl := false) (φ := φ) h1 h5 d1 d2 k1 k2, (hT _ _ h4').run_size, addr_moved]
      rfl
    · rw [e'] at h4; cases h4
    · rw [e'] at h4; cases h4
  | sliceD e =>
    rw [hd] at h2
    have hu : ∀ w, (underlying t).run P w = .ok (.slice e) w := fun w => by rw [hti.run_under, dk_slice hd]
    have h3 : slSl E l e hi mx x = some v := h2
    obtain ⟨te, ht', h3⟩ := ob_some h3
    obtain ⟨hmh, h3⟩ := chk_some h3
    have hhi : ∀ mv, mx = some mv → ∃ v, hi = some v := by
      rintro mv rfl
      cases hi with
      | none => cases hmh
      | some v => exact ⟨v, rfl⟩
    have hsz : ∀ w, (sizeOf e).run P w = .ok te.size w := fun w => (hT _ _ ht').run_size
    rcases asSl_cases x with ⟨rfl, e'⟩ | ⟨b, o, len, cap, rfl, e'⟩ | e'
    · rw [e'] at h3
      obtain ⟨q, h4, h5⟩ := ob_some (show ob (optN hi (nat_lit 0)) (fun h => ob (optN mx (nat_lit 0)) fun m => chk (Nat.beq (Nat.add m (Nat.add h l)) (nat_lit 0)) (some .sl0)) = some v from h3)
      obtain ⟨m, h6, h7⟩ := ob_some h5
      obtain ⟨h8, h9⟩ := chk_some h7
      obtain rfl := Option.some.inj h9
      have hz : m + (q + l) = 0 := beq_true h8
      obtain rfl : m = 0 := by omega
      obtain rfl : q = 0 := by omega
      obtain rfl : l = 0 := by omega
      obtain rfl := den_sl0 ha
      cases mx with
      | none =>
        obtain rfl := denO_none d3
        refine ⟨.slice none 0 0, fun w => ?_, by simp only [den]⟩
        simp only [Instr.sliceAt, Sem.run_bind, hu, Result.andThen, Instr.slice, run_bounds (P := P) (w := w) (sl := true) (φ := φ) h1 h4 d1 d2 (Nat.le_refl 0) (Nat.le_refl 0)]
        simp only [hsz, Sem.run_pure]; rfl
      | some mv =>
        obtain ⟨mv', rfl, d3⟩ := denO_some d3
        have hh : ∃ v, hi = some v := hhi mv rfl
        refine ⟨.slice none 0 0, fun w => ?_, by simp only [den]⟩
        simp only [Instr.sliceAt, Sem.run_bind, hu, Result.andThen, Instr.slice, run_bounds3 (P := P) (w := w) (sl := true) (φ := φ) h1 h4 hh h6 d1 d2 d3 (Nat.le_refl 0) (Nat.le_refl 0) (Nat.le_refl 0)]
        simp only [hsz, Sem.run_pure]; rfl
    · rw [e'] at h3
      obtain ⟨q, h5, h6⟩ := ob_some (show ob (optN hi len) (fun h => Option.rec (motive := fun _ => Option AVal) (slCap b o len l h te.size cap) (fun m => ob (natV m) fun m => sl3 b o len l h te.size m) mx) = some v from h3)
      obtain ⟨loc, hl, rfl, hlen⟩ := den_sl' ha
      rw [asSl_off e'] at *
      cases mx with
      | none =>
        obtain rfl := denO_none d3
        cases cap with
        | ex c =>
          obtain ⟨h7, h8⟩ := chk_some (show chk (Nat.ble l q) (chk (Nat.ble q c) (some (.sl b (moved c l o te.size) (Nat.sub q l) (.ex (Nat.sub c l))))) = some v from h6)
          obtain ⟨h9, h10⟩ := chk_some h8
          obtain rfl := Option.some.inj h10
          have k1 := ble_true h7; have k2 := ble_true h9
          refine ⟨_, fun w => ?_, den_sl_ex hl (show q - l ≤ c - l by omega)⟩
          simp only [Instr.sliceAt, Sem.run_bind, hu, Result.andThen, Instr.slice, capOf, run_bounds (P := P) (w := w) (sl := true) (φ := φ) h1 h5 d1 d2 k1 k2, hsz, Sem.run_pure, Option.map_some, ← addr_moved]
          split <;> rfl
        | op k =>
          obtain ⟨h7, h8⟩ := chk_some (show chk (Nat.ble l q) (chk (Nat.ble q len) (ife (Nat.beq l (nat_lit 0)) (some (.sl b o q (.op k))) (ife (lt l len) (some (.sl b (Nat.add o (Nat.mul l te.size)) (Nat.sub q l) (.op (Nat.add k l)))) (some (.sl b (Nat.add o (Nat.mul l te.size)) (nat_lit 0) (.cut (Nat.add k l) o)))))) = some v from h6)
          obtain ⟨h9, h10⟩ := chk_some h8
          have k1 := ble_true h7; have k2 := ble_true h9
          simp only [capOf] at hlen
          rw [ife_eq] at h10
          split at h10
          · next hz =>
            obtain rfl := beq_true hz
            obtain rfl := Option.some.inj h10
            refine ⟨_, fun w => ?_, den_sl_op hl (show q ≤ loc.ext - k by omega)⟩
            simp only [Instr.sliceAt, Sem.run_bind, hu, Result.andThen, Instr.slice, capOf, run_bounds (P := P) (w := w) (sl := true) (φ := φ) h1 h5 d1 d2 k1 (show q ≤ loc.ext - k by omega), hsz, Sem.run_pure, Option.map_some, addr_add]
            rw [show (nat_lit 0) * te.size = 0 from Nat.zero_mul _]
            split <;> rfl
          · next hz =>
            rw [ife_eq] at h10
            split at h10
            case isFalse h11 =>
              obtain rfl := Option.some.inj h10
              have k3 : ¬ l < len := fun x => h11 (Nat.ble_eq_true_of_le x)
              obtain rfl : q = l := by omega
              refine ⟨_, fun w => ?_, den_sl_mk hl (Nat.zero_le _)⟩
              simp only [Instr.sliceAt, Sem.run_bind, hu, Result.andThen, Instr.slice, capOf, run_bounds (P := P) (w := w) (sl := true) (φ := φ) h1 h5 d1 d2 k1 (show q ≤ loc.ext - k by omega), hsz, Sem.run_pure, Option.map_some, addr_add, offOf]
              rw [Nat.sub_self, Nat.sub_sub]
              by_cases hz : loc.ext - k = q
              · rw [if_pos hz, if_pos (show loc.ext - Nat.add k q = 0 from by show loc.ext - (k + q) = 0; omega)]; rfl
              · rw [if_neg hz, if_neg (show ¬ loc.ext - Nat.add k q = 0 from by show ¬ loc.ext - (k + q) = 0; omega)]; rfl
            case isTrue h11 =>
            obtain rfl := Option.some.inj h10
            have k3 := lt_true h11
            refine ⟨_, fun w => ?_, den_sl_op hl (show q - l ≤ loc.ext - (k + l) by omega)⟩
            simp only [Instr.sliceAt, Sem.run_bind, hu, Result.andThen, Instr.slice, capOf, run_bounds (P := P) (w := w) (sl := true) (φ := φ) h1 h5 d1 d2 k1 (show q ≤ loc.ext - k by omega), hsz, Sem.run_pure, Option.map_some, addr_add]
            rw [if_neg (show ¬loc.ext - k = l by omega), Nat.sub_sub]
            rfl
        | cut k x => cases e'
      | some mv =>
        obtain ⟨mv', rfl, d3⟩ := denO_some d3
        obtain ⟨m, h7, h8⟩ := ob_some (show ob (natV mv) (fun m => sl3 b o len l q te.size m) = some v from h6)
        obtain ⟨h9, h10⟩ := chk_some (show chk (Nat.ble l q) (chk (Nat.ble q m) (chk (Nat.ble m len) (some (.sl b (moved m l o te.size) (Nat.sub q l) (.ex (Nat.sub m l)))))) = some v from h8)
        obtain ⟨h11, h12⟩ := chk_some h10
        obtain ⟨h13, h14⟩ := chk_some h12
        obtain rfl := Option.some.inj h14
        have k1 := ble_true h9; have k2 := ble_true h11; have k3 := ble_true h13
        have hh : ∃ v, hi = some v := hhi mv rfl
        refine ⟨_, fun w => ?_, den_sl_ex hl (show q - l ≤ m - l by omega)⟩
        simp only [Instr.sliceAt, Sem.run_bind, hu, Result.andThen, Instr.slice, run_bounds3 (P := P) (w := w) (sl := true) (φ := φ) h1 h5 hh h7 d1 d2 d3 k1 k2 (show m ≤ capOf loc cap by omega), hsz, Sem.run_pure, Option.map_some, ← addr_moved]
        split <;> rfl
    · rw [e'] at h3; cases h3
  | _ => rw [hd] at h2; cases h2
end Go.Abs

set_option autoImplicit false
namespace Go.Abs
variable {E : Env} {P : Program} {N : Nat} {φ : Phi} {w : World}
/-! fields and elements -/
theorem fieldsOfD_some {d : TypeDesc} {fs : List Field} (h : fieldsOfD (dk d) = some fs) : ∃ f, d = .struct f ∧ f.toList = fs := by
  cases hd : dk d with
  | structD g => rw [hd] at h; obtain rfl := Option.some.inj h; exact dk_struct hd
  | _ => rw [hd] at h; cases h
theorem elemOfD_some {d : TypeDesc} {e : TypeId} (h : elemOfD (dk d) = some e) : d = .slice e := by
  cases hd : dk d with
  | sliceD g => rw [hd] at h; obtain rfl := Option.some.inj h; exact dk_slice hd
  | _ => rw [hd] at h; cases h
theorem mapOfD_some {d : TypeDesc} {q : TypeId × TypeId} (h : mapOfD (dk d) = some q) : d = .map q.1 q.2 := by
  cases hd : dk d with
  | mapD k e => rw [hd] at h; obtain rfl := Option.some.inj h; exact dk_map hd
  | _ => rw [hd] at h; cases h
theorem fieldAd_run (hT : TysOK P E) {t : TypeId} {x v : AVal} {f : Nat} {a : Value} (h : fieldAd E t x f = some v) (ha : den φ x = some a) : ∃ r, (∀ w, (Instr.fieldAt t a f).run P w = .ok r w) ∧ den φ v = some r := by
  obtain ⟨ti, h1, h2⟩ := ob_some h
  obtain ⟨fs, h3, h4⟩ := ob_some h2
  obtain ⟨fd, h5, h6⟩ := ob_some h4
  obtain ⟨tf, h7, h8⟩ := ob_some h6
  obtain ⟨h9, h10⟩ := chk_some h8
  obtain ⟨f', hf, rfl⟩ := fieldsOfD_some h3
  rw [nth_eq] at h5
  unfold addrAdd at h10
  rcases asP_cases x with ⟨rfl, e⟩ | ⟨b, o, rfl, e⟩ | ⟨b, o, rfl, e⟩ | e
  · rw [e] at h10; cases h10
  · rw [e] at h10
    obtain rfl := Option.some.inj h10
    obtain ⟨l, hl, rfl⟩ := den_p ha
    have hu : ∀ w, (underlying t).run P w = .ok (.struct f') w := fun w => by rw [(hT _ _ h1).run_under, hf]
    have hsz : tf.size ≠ 0 := by have := lt_true h9; omega
    refine ⟨_, fun w => ?_, den_p_mk hl⟩
    have h5' : f'[f]? = some fd := by rw [← Array.getElem?_toList]; exact h5
    simp only [Instr.fieldAt, Sem.run_bind, hu, Result.andThen, h5', Instr.sureAddr, Sem.run_pure, fieldPlace, (hT _ _ h7).run_size, hsz, if_false, addr_add]
    rfl
  · rw [e] at h10; cases h10
  · rw [e] at h10; cases h10
theorem fieldV_run (hT : TysOK P E) {t : TypeId} {x v : AVal} {f : Nat} {a : Value} (h : fieldV E t x f = some v) (ha : den φ x = some a) : ∃ r, (∀ w, (Instr.field t a f).run P w = .ok r w) ∧ den φ v = some r := by
  obtain ⟨ti, h1, h2⟩ := ob_some h
  obtain ⟨fs, h3, h4⟩ := ob_some h2
  obtain ⟨fd, h5, h6⟩ := ob_some h4
  obtain ⟨tf, h7, h8⟩ := ob_some h6
  obtain ⟨l, h9, h10⟩ := ob_some h8
  obtain ⟨f', hf, rfl⟩ := fieldsOfD_some h3
  rw [nth_eq] at h5
  obtain rfl := asAgg_some h9
  obtain ⟨xs, e1, rfl⟩ := den_agg ha
  obtain ⟨r, e2, e3⟩ := part_run (hT _ _ h7) e1 h10
  have hu : ∀ w, (underlying t).run P w = .ok (.struct f') w := fun w => by rw [(hT _ _ h1).run_under, hf]
  have h5' : f'[f]? = some fd := by rw [← Array.getElem?_toList]; exact h5
  exact ⟨r, fun w => by simp only [Instr.field, Sem.run_bind, hu, Result.andThen, h5', Go.asAgg, Sem.run_pure, e3], e2⟩
theorem indexAd_run (hT : TysOK P E) {t : TypeId} {x i v : AVal} {a j : Value} (h : indexAd E t x i = some v) (ha : den φ x = some a) (hi : den φ i = some j) : ∃ r, (∀ w, (Instr.indexAt t a j).run P w = .ok r w) ∧ den φ v = some r := by
  obtain ⟨n, h1, h2⟩ := ob_some h
  obtain ⟨ti, h3, h4⟩ := ob_some h2
  obtain ⟨k, rfl⟩ := natV_some h1
  obtain rfl := den_i hi
  have hti := hT _ _ h3
  cases hd : dk ti.desc with
  | arrD len e =>
    rw [hd] at h4
    obtain ⟨te, h5, h6⟩ := ob_some (show ob (E.ty e) (fun te => chk (lt n len) (addrAddG (Nat.mul n te.size) x)) = some v from h4)
    obtain ⟨h7, h8⟩ := chk_some h6
    have hlt := lt_true h7
    have hu : ∀ w, (underlying t).run P w = .ok (.array len e) w := fun w => by rw [hti.run_under, dk_arr hd]
    have hc : (0 : Int) ≤ (n : Int) ∧ (n : Int) < (len : Int) := ⟨by omega, by omega⟩
    have key : ∀ p : Addr, a = .pointer (some p) → ∀ w, (Instr.indexAt t a (.int k (n : Int))).run P w = .ok (.pointer (some (p.add (n * te.size)))) w := by
      rintro p rfl w
      simp only [Instr.indexAt, asIntOf, Sem.run_bind, Sem.run_pure, Result.andThen, hu, Instr.sureAddr]
      rw [if_pos hc]
      simp only [Sem.run_bind, Sem.run_pure, Result.andThen, (hT _ _ h5).run_size, Int.toNat_natCast]
    unfold addrAddG at h8
    rcases asP_cases x with ⟨rfl, e'⟩ | ⟨b, o, rfl, e'⟩ | ⟨b, o, rfl, e'⟩ | e'
    · rw [e'] at h8; cases h8
    · rw [e'] at h8
      obtain rfl := Option.some.inj h8
      obtain ⟨l, hl, rfl⟩ := den_p ha
      exact ⟨_, fun w => by rw [key _ rfl w, addr_add]; rfl, den_p_mk hl⟩
    · rw [e'] at h8
      obtain rfl := Option.some.inj h8
      obtain rfl := den_g ha
      exact ⟨_, fun w => by rw [key _ rfl w, addr_add], by simp only [den]; rfl⟩
    · rw [e'] at h8; cases h8
  | sliceD e =>
    rw [hd] at h4
    obtain ⟨te, h5, h6⟩ := ob_some (show ob (E.ty e) (fun te => OSl.rec (motive := fun _ => Option AVal) none none (fun b off len _ => chk (lt n len) (some (.p b (Nat.add off (Nat.mul n te.size))))) (asSl x)) = some v from h4)
    have hu : ∀ w, (underlying t).run P w = .ok (.slice e) w := fun w => by rw [hti.run_under, dk_slice hd]
    rcases asSl_cases x with ⟨rfl, e'⟩ | ⟨b, o, len, c, rfl, e'⟩ | e'
    · rw [e'] at h6; cases h6
    · rw [e'] at h6
      obtain ⟨h7, h8⟩ := chk_some (show chk (lt n len) (some (.p b (Nat.add o (Nat.mul n te.size)))) = some v from h6)
      have hlt := lt_true h7
      obtain rfl := Option.some.inj h8
      obtain ⟨l, hl, rfl⟩ := den_sl ha
      rw [asSl_off e']
      have hc : (0 : Int) ≤ (n : Int) ∧ (n : Int) < (len : Int) := ⟨by omega, by omega⟩
      refine ⟨_, fun w => ?_, den_p_mk hl⟩
      simp only [Instr.indexAt, asIntOf, Sem.run_bind, Sem.run_pure, Result.andThen, hu]
      rw [if_pos hc]
      simp only [Sem.run_bind, Sem.run_pure, Result.andThen, (hT _ _ h5).run_size, Int.toNat_natCast, addr_add]
      rfl
    · rw [e'] at h6; cases h6
  | _ => rw [hd] at h4; cases h4
theorem bytes_get {l n i : Nat} (h : i < l) : (bytesOf l n)[i]? = some (UInt8.ofNat (dig n i)) := by
  have hs : i < (bytesOf l n).size := by rw [bytesOf_size]; exact h
  rw [ByteArray.getElem?_lt' _ _ hs]
  have := bytesOf_data l n i
  rw [if_pos h, Array.getElem?_eq_getElem (show i < (bytesOf l n).data.size from hs)] at this
  exact this
theorem indexV_run (hT : TysOK P E) {t : TypeId} {x i v : AVal} {a j : Value} (h : indexV E t x i = some v) (ha : den φ x = some a) (hi : den φ i = some j) : ∃ r, (∀ w, (Instr.index t a j).run P w = .ok r w) ∧ den φ v = some r := by
  obtain ⟨n, h1, h2⟩ := ob_some h
  obtain ⟨ti, h3, h4⟩ := ob_some h2
  obtain ⟨k, rfl⟩ := natV_some h1
  obtain rfl := den_i hi
  have hti := hT _ _ h3
  cases hd : dk ti.desc with
  | arrD len e =>
    rw [hd] at h4
    obtain ⟨te, h5, h6⟩ := ob_some (show ob (E.ty e) (fun te => chk (lt n len) (ob (asAgg x) fun l => partL te l (Nat.mul n te.size))) = some v from h4)
    obtain ⟨h7, h8⟩ := chk_some h6
    obtain ⟨l, h9, h10⟩ := ob_some h8
    have hlt := lt_true h7
    obtain rfl := asAgg_some h9
    obtain ⟨xs, e1, rfl⟩ := den_agg ha
    obtain ⟨r, e2, e3⟩ := part_run (hT _ _ h5) e1 h10
    have hu : ∀ w, (underlying t).run P w = .ok (.array len e) w := fun w => by rw [hti.run_under, dk_arr hd]
    have hc : (0 : Int) ≤ (n : Int) ∧ (n : Int) < (len : Int) := ⟨by omega, by omega⟩
    refine ⟨r, fun w => ?_, e2⟩
    simp only [Instr.index, asIntOf, Sem.run_bind, Sem.run_pure, Result.andThen, hu]
    rw [if_pos hc]
    simp only [Sem.run_bind, Result.andThen, (hT _ _ h5).run_size, Int.toNat_natCast]
    exact e3 w
  | strD =>
    rw [hd] at h4
    have h5 : iyStr n x = some v := h4
    unfold iyStr at h5
    rcases asS_cases x with ⟨l, d, rfl, e'⟩ | e'
    · rw [e'] at h5
      obtain ⟨h7, h8⟩ := chk_some (show chk (lt n l) (some (.i .u8 (Int.ofNat (dig d n)))) = some v from h5)
      have hlt := lt_true h7
      obtain rfl := Option.some.inj h8
      obtain ⟨rfl, _⟩ := den_s ha
      have hu : ∀ w, (underlying t).run P w = .ok .string w := fun w => by rw [hti.run_under, dk_str hd]
      refine ⟨.int .u8 (dig d n), fun w => ?_, by simp only [den]; rfl⟩
      simp only [Instr.index, asIntOf, Sem.run_bind, Sem.run_pure, Result.andThen, hu]
      rw [if_pos (show (0 : Int) ≤ (n : Int) by omega), Int.toNat_natCast, bytes_get hlt]
      simp only [Sem.run_pure, toNat_dig]
    · rw [e'] at h5; cases h5
  | _ => rw [hd] at h4; cases h4
/-! aggregates -/
theorem over_den : ∀ {c l l' : List AVal} {ys xs : List Value}, over c l = some l' → denL φ c = some ys → denL φ l = some xs → ys.length ≤ xs.length ∧ denL φ l' = some (ys ++ xs.drop ys.length)
  | [], l, l', ys, xs, h, hc, hl => by
    obtain rfl := Option.some.inj h
    rw [denL_nil] at hc; obtain rfl := Option.some.inj hc
    exact ⟨by simp, by simpa using hl⟩
  | v :: c, [], l', ys, xs, h, _, _ => by cases h
  | v :: c, u :: l, l', ys, xs, h, hc, hl => by
    obtain ⟨r, h1, h2⟩ := ob_some (show ob (over c l) (fun r => some (v :: r)) = some l' from h)
    obtain rfl := Option.some.inj h2
    obtain ⟨y, ys', e1, e2, rfl⟩ := denL_cons' hc
    obtain ⟨x, xs', _, e4, rfl⟩ := denL_cons' hl
    obtain ⟨h3, h4⟩ := over_den h1 e2 e4
    exact ⟨by simpa using h3, denL_cons e1 (by simpa using h4)⟩
theorem place_den : ∀ {off : Nat} {c l l' : List AVal} {ys xs : List Value}, place off c l = some l' → denL φ c = some ys → denL φ l = some xs → off + ys.length ≤ xs.length ∧ denL φ l' = some (xs.take off ++ ys ++ xs.drop (off + ys.length))
  | 0, c, l, l', ys, xs, h, hc, hl => by
    obtain ⟨h1, h2⟩ := over_den (show over c l = some l' from h) hc hl
    exact ⟨by omega, by simpa using h2⟩
  | off + 1, c, [], l', ys, xs, h, _, _ => by cases h
  | off + 1, c, u :: l, l', ys, xs, h, hc, hl => by
    obtain ⟨r, h1, h2⟩ := ob_some (show ob (place off c l) (fun r => some (u :: r)) = some l' from h)
    obtain rfl := Option.some.inj h2
    obtain ⟨x, xs', e3, e4, rfl⟩ := denL_cons' hl
    obtain ⟨h3, h4⟩ := place_den h1 hc e4
    refine ⟨by simp only [List.length_cons]; omega, ?_⟩
    rw [show off + 1 + ys.length = (off + ys.length) + 1 from by omega]
    exact denL_cons e3 (by simpa using h4)
theorem foldl_set (off : Nat) : ∀ (ys : List Value) (k : Nat) (cs : Array Value), off + k + ys.length ≤ cs.size →
    ((ys.zipIdx k).foldl (fun cs (c, j) => cs.setIfInBounds (off + j) c) cs).toList = cs.toList.take (off + k) ++ ys ++ cs.toList.drop (off + k + ys.length)
  | [], k, cs, _ => by simp
  | y :: ys, k, cs, h => by
    simp only [List.length_cons] at h
    rw [List.zipIdx_cons, List.foldl_cons, foldl_set off ys (k + 1) _ (by simp; omega)]
    simp only [Array.toList_setIfInBounds]
    have hlt : off + k < cs.toList.length := by simp; omega
    rw [List.take_set, List.drop_set_of_lt (by omega), show off + (k + 1) = off + k + 1 from by omega, List.take_succ_eq_append_getElem hlt, List.set_append_right _ _ (by simp; omega)]
    simp only [List.length_take, Nat.min_eq_left (Nat.le_of_lt hlt), Nat.sub_self, List.set_cons_zero, List.append_assoc, List.singleton_append, List.length_cons]
    rw [show off + k + 1 + ys.length = off + k + (ys.length + 1) from by omega]
theorem fillV_run {pl : Nat → Option (Nat × Nat)} : ∀ {ps : List (Nat × AVal)} {ps' : List (Nat × Value)} {l l' : List AVal} {xs : List Value}, fillV pl ps l = some l' → denL φ l = some xs →
    ps.length = ps'.length → (∀ k : Nat, ∀ p q, ps[k]? = some p → ps'[k]? = some q → p.1 = q.1 ∧ den φ p.2 = some q.2) → ∃ zs, Instr.fill pl xs.toArray ps' = some zs.toArray ∧ denL φ l' = some zs
  | [], ps', l, l', xs, h, hl, hlen, _ => by
    obtain rfl := Option.some.inj h
    cases ps' with
    | nil => exact ⟨xs, rfl, hl⟩
    | cons p ps' => simp at hlen
  | (i, v) :: ps, [], l, l', xs, h, hl, hlen, _ => by simp at hlen
  | (i, v) :: ps, (i', v') :: ps', l, l', xs, h, hl, hlen, hp => by
    obtain ⟨q, h1, h2⟩ := ob_some (show ob (pl i) (fun q => chk (Nat.beq (lenL (cellsV v)) q.2) (ob (place q.1 (cellsV v) l) (fillV pl ps))) = some l' from h)
    obtain ⟨h3, h4⟩ := chk_some h2
    obtain ⟨m, h5, h6⟩ := ob_some h4
    obtain ⟨e1, e2⟩ := hp 0 _ _ rfl rfl
    simp only at e1 e2
    subst e1
    have hc := cellsV_den e2
    obtain ⟨h7, h8⟩ := place_den h5 hc hl
    have hsz : v'.cells.size = q.2 := by
      have := denL_length hc
      rw [← beq_true h3, lenL_eq, ← this]; simp
    obtain ⟨zs, h9, h10⟩ := fillV_run h6 h8 (by simpa using hlen) (fun k p q a b => hp (k + 1) p q (by simpa using a) (by simpa using b))
    refine ⟨zs, ?_, h10⟩
    obtain ⟨q1, q2⟩ := q
    simp only at hsz h7
    simp only [Instr.fill, h1]
    have hb : (v'.cells.size ≠ q2 || q1 + v'.cells.size > xs.toArray.size) = false := by
      have : q1 + v'.cells.size ≤ xs.length := by simpa using h7
      simp [hsz]; omega
    rw [if_neg (by rw [hb]; simp)]
    have hf : v'.cells.zipIdx.foldl (fun cs (x : Value × Nat) => cs.setIfInBounds (q1 + x.2) x.1) xs.toArray = (xs.take q1 ++ v'.cells.toList ++ xs.drop (q1 + v'.cells.toList.length)).toArray := by
      rw [← Array.foldl_toList, Array.toList_zipIdx]
      apply Array.ext'
      have := foldl_set q1 v'.cells.toList 0 xs.toArray (by simpa using h7)
      simpa using this
    rw [hf]
    exact h9
end Go.Abs

set_option autoImplicit false
namespace Go.Abs
variable {E : Env} {P : Program} {N : Nat} {φ : Phi} {w : World}
def NewOK (E : Env) (φ : Phi) (w : World) (id : Nat) (o : AObj) (v : AVal) (r : Result Value) : Prop :=
  ∃ x ext a w', r = .ok a w' ∧ w'.heap = w.heap.push x ∧ w'.os = w.os ∧ w'.tape = w.tape ∧ w'.output = w.output ∧ ORel E (φ.put id ⟨w.heap.size, ext⟩) o ⟨w.heap.size, ext⟩ (some x) ∧ den (φ.put id ⟨w.heap.size, ext⟩) v = some a
theorem ofL_cons (v : AVal) (l : List AVal) (k : Nat) (t : Tr AVal) : ofL (v :: l) k t = ofL l (k + 1) (t.set k v) := rfl
theorem ofL_get (l : List AVal) : ∀ (k i : Nat) (t : Tr AVal), (ofL l k t).get i = if k ≤ i ∧ i < k + l.length then l[i - k]? else t.get i := by
  induction l with
  | nil => intro k i t; rw [if_neg (by rw [List.length_nil]; omega)]; rfl
  | cons v l ih =>
    intro k i t
    rw [ofL_cons, ih, Tr.get_set]
    by_cases h1 : i = k
    · subst h1
      rw [if_neg (by omega), if_pos rfl, if_pos ⟨Nat.le_refl _, by simp⟩]; simp
    · rw [if_neg h1]
      by_cases h2 : k + 1 ≤ i ∧ i < k + 1 + l.length
      · rw [if_pos h2, if_pos ⟨by omega, by simp only [List.length_cons]; omega⟩]
        rw [show i - k = (i - (k + 1)) + 1 from by omega]; simp
      · rw [if_neg h2, if_neg (by simp only [List.length_cons]; omega)]
theorem allOne_mem {l : List AVal} (h : allOne l = true) : ∀ v ∈ l, one v = true := by
  induction l with
  | nil => simp
  | cons a l ih =>
    have h0 : ife (one a) (allOne l) false = true := h
    rw [ife_eq] at h0
    split at h0
    · next h1 =>
      intro v hv
      rcases List.mem_cons.1 hv with rfl | hv
      · exact h1
      · exact ih h0 v hv
    · cases h0
theorem packV_spec : ∀ {l : List AVal} {d : Nat}, packV l = some d → d < 256 ^ l.length ∧ ∀ i, i < l.length → l[i]? = some (.i .u8 (dig d i : Int))
  | [], d, h => by obtain rfl := Option.some.inj h; exact ⟨by decide, by simp⟩
  | v :: l, d, h => by
    obtain ⟨x, h1, h2⟩ := ob_some (show ob (byteV v) (fun x => ob (packV l) fun r => some (Nat.add (Nat.mul r (nat_lit 256)) x)) = some d from h)
    obtain ⟨r, h3, h4⟩ := ob_some h2
    obtain rfl := Option.some.inj h4
    obtain ⟨rfl, hx⟩ := byteV_some h1
    obtain ⟨h5, h6⟩ := packV_spec h3
    have he : Nat.add (Nat.mul r (nat_lit 256)) x = x + r * 256 ^ 1 := by show r * 256 + x = _; omega
    rw [he]
    refine ⟨by rw [List.length_cons, Nat.pow_succ]; omega, fun i hi => ?_⟩
    cases i with
    | zero => rw [dig_add_low (by omega), dig_one hx]; rfl
    | succ i =>
      rw [dig_add_high (by simpa using hx) (by omega), Nat.add_sub_cancel]
      simpa using h6 i (by simpa using hi)
theorem cells_of_list {l : List AVal} {xs rest : List Value} (h : denL φ l = some xs) (h1 : ∀ v ∈ l, one v = true) {g : Nat → Option AVal} (hg : ∀ i, i < l.length → g i = l[i]?) : CellsRel φ g l.length (xs ++ rest).toArray := by
  have hlen := denL_length h
  refine ⟨by simp; omega, fun i hi => ?_⟩
  have hv : l[i]? = some l[i] := List.getElem?_eq_getElem hi
  obtain ⟨a, e1, e2⟩ := denL_get h hv
  refine ⟨l[i], a, by rw [hg i hi, hv], e1, one_den (h1 _ (List.getElem_mem hi)) e1, ?_⟩
  rw [List.getElem?_toArray, List.getElem?_append_left (by omega)]
  exact e2
theorem mkRow_rel {e : TypeId} {l : List AVal} {o : AObj} {xs : List Value} (h : mkRow E e l = some o) (hd : denL φ l = some xs) (rest : List Value) (loc : Loc) (fz : Nat × Nat) (e' : TypeId) (hf : NF fz (xs ++ rest).toArray.size)
    (hx : ∀ te, E.ty e = some te → loc.ext * te.size ≤ (xs ++ rest).toArray.size) : ORel E φ o loc (some (.cells (xs ++ rest).toArray e' fz)) := by
  obtain ⟨t, h1, h2⟩ := ob_some h
  rw [ife_eq] at h2
  split at h2
  · obtain ⟨d, h3, h4⟩ := ob_some h2
    obtain rfl := Option.some.inj h4
    obtain ⟨h5, h6⟩ := packV_spec h3
    rw [lenL_eq]
    refine ⟨_, _, _, rfl, hf, hx, h5, cells_of_list hd ?_ fun i hi => (h6 i hi).symm⟩
    intro v hv
    obtain ⟨i, hi, rfl⟩ := List.mem_iff_getElem.1 hv
    have := h6 i hi
    rw [List.getElem?_eq_getElem hi] at this
    rw [Option.some.inj this]; rfl
  · obtain ⟨h3, h4⟩ := chk_some h2
    obtain rfl := Option.some.inj h4
    rw [lenL_eq]
    refine ⟨_, _, _, rfl, hf, hx, cells_of_list hd (allOne_mem h3) fun i hi => ?_⟩
    rw [ofL_get, if_pos ⟨Nat.zero_le _, by omega⟩]; rfl
theorem NF_zero (n : Nat) : NF (0, 0) n := fun i _ h => by have := h.2; simp at this
theorem mkRow_new {e : TypeId} {l : List AVal} {o : AObj} {xs : List Value} {id : Nat} (h : mkRow E e l = some o) (hd : denL φ l = some xs) (hid : φ id = none) :
    ORel E (φ.put id ⟨w.heap.size, 0⟩) o ⟨w.heap.size, 0⟩ (some (.cells xs.toArray e)) := by
  have := mkRow_rel (E := E) h (denL_mono (Phi.put_ext ⟨w.heap.size, 0⟩ hid) _ _ hd) [] ⟨w.heap.size, 0⟩ (0, 0) e (NF_zero _) (by simp)
  simpa using this
theorem TyOK.run_zero {t : TypeId} {i : Ty} (hT : TyOK P t i) {z : AVal} (hz : i.zero = some z) : ∃ y, (∀ w, (zeroValue t).run P w = .ok y w) ∧ ∀ φ, den φ z = some y := by
  obtain ⟨x, h1, _, _, h4⟩ := hT.info
  obtain ⟨y, h5, h6⟩ := h4 z hz
  refine ⟨y, fun w => ?_, h6⟩
  simp [zeroValue, typeInfo, h1, h5]
theorem zeroOf_run (hT : TysOK P E) {t : TypeId} {z : AVal} (h : zeroOf E t = some z) : ∃ y, (∀ w, (zeroValue t).run P w = .ok y w) ∧ ∀ φ, den φ z = some y := by
  obtain ⟨ti, h1, h2⟩ := ob_some h
  exact (hT _ _ h1).run_zero h2
theorem alloc_run (hT : TysOK P E) {e : TypeId} {z : AVal} {o : AObj} {id : Nat} (h : zeroOf E e = some z) (ho : mkRow E e (cellsV z) = some o) (hid : φ id = none) :
    NewOK E φ w id o (.p id 0) ((Instr.alloc e true (.tuple #[])).run P w) := by
  obtain ⟨y, h1, h2⟩ := zeroOf_run hT h
  refine ⟨.cells y.cells e, 0, .pointer (some ⟨w.heap.size, 0, none⟩), { w with heap := w.heap.push (.cells y.cells e) }, ?_, rfl, rfl, rfl, rfl, ?_, den_p_mk (Phi.put_same _ _ _)⟩
  · simp only [Instr.alloc, Sem.run_bind, h1, Result.andThen, newVar, newRow, run_newObj, Sem.run_pure]
  · have := mkRow_new (w := w) ho (cellsV_den (h2 φ)) hid
    simpa using this
theorem box_run {e : TypeId} {v : AVal} {a : Value} {o : AObj} {id : Nat} (hv : den φ v = some a) (ho : mkRow E e (cellsV v) = some o) (hid : φ id = none) :
    NewOK E φ w id o (.p id 0) ((Instr.box e a).run P w) := by
  refine ⟨.cells a.cells e, 0, .pointer (some ⟨w.heap.size, 0, none⟩), { w with heap := w.heap.push (.cells a.cells e) }, ?_, rfl, rfl, rfl, rfl, ?_, den_p_mk (Phi.put_same _ _ _)⟩
  · simp only [Instr.box, Sem.run_bind, Result.andThen, newVar, newRow, run_newObj, Sem.run_pure]
  · have := mkRow_new (w := w) ho (cellsV_den hv) hid
    simpa using this
/-! rows of noughts -/
theorem rep_den {l : List AVal} {xs : List Value} (h : denL φ l = some xs) : ∀ n, denL φ (rep n l) = some (List.replicate n xs).flatten
  | 0 => by show denL φ [] = _; rw [denL_nil]; rfl
  | n + 1 => by
    show denL φ (app l (rep n l)) = _
    rw [app_eq, List.replicate_succ, List.flatten_cons]
    exact denL_app h (rep_den h n)
theorem flat_get (xs : List Value) (hx : xs ≠ []) : ∀ (n i : Nat), i < n * xs.length → (List.replicate n xs).flatten[i]? = xs[i % xs.length]?
  | 0, i, h => by simp at h
  | n + 1, i, h => by
    have hpos : 0 < xs.length := List.length_pos_iff.2 hx
    rw [List.replicate_succ, List.flatten_cons]
    by_cases hi : i < xs.length
    · rw [List.getElem?_append_left hi, Nat.mod_eq_of_lt hi]
    · have hm := Nat.mod_eq_sub_mod (show i ≥ xs.length by omega)
      rw [List.getElem?_append_right (by omega), flat_get xs hx n _ (by rw [Nat.add_mul, Nat.one_mul] at h; omega), hm]
theorem zeros_eq (z : Array Value) (n : Nat) (hz : z.size ≠ 0) : ((Array.range (n * z.size)).map fun i => z[i % z.size]!) = (List.replicate n z.toList).flatten.toArray := by
  apply Array.ext'
  rw [Array.toList_map, Array.toList_range]
  have hne : z.toList ≠ [] := by intro h; apply hz; rw [← Array.length_toList, h]; rfl
  apply List.ext_getElem?
  intro i
  by_cases hi : i < n * z.size
  · have h1 := flat_get z.toList hne n i (by simpa using hi)
    have hm : i % z.size < z.size := Nat.mod_lt _ (by omega)
    rw [List.getElem?_map, List.getElem?_range hi, Option.map_some]
    show _ = (List.replicate n z.toList).flatten[i]?
    rw [h1]
    simp [hm]
  · have hl : (List.replicate n z.toList).flatten.length = n * z.size := by simp
    rw [List.getElem?_eq_none (by simp; omega)]
    symm
    exact List.getElem?_eq_none (by show (List.replicate n z.toList).flatten.length ≤ i; omega)
theorem elemD_some (hT : TysOK P E) {t e : TypeId} (h : elemD E t = some e) : ∀ w, (underlying t).run P w = .ok (.slice e) w := by
  obtain ⟨ti, h1, h2⟩ := ob_some h
  intro w
  rw [(hT _ _ h1).run_under, elemOfD_some h2]
/-- operands of parts -/
def denP (φ : Phi) (ps : List (Nat × AVal)) (ps' : List (Nat × Value)) : Prop := ps.length = ps'.length ∧ ∀ k : Nat, ∀ p q, ps[k]? = some p → ps'[k]? = some q → p.1 = q.1 ∧ den φ p.2 = some q.2
theorem buildSl_run (hT : TysOK P E) {t : TypeId} {len id : Nat} {ps : List (Nat × AVal)} {ps' : List (Nat × Value)} {o : AObj} {v : AVal} (h : buildSl E t len ps id = some (.new o v)) (hp : denP φ ps ps') (hid : φ id = none) :
    NewOK E φ w id o v ((Instr.buildSlice t len ps'.toArray).run P w) := by
  obtain ⟨e, h1, h2⟩ := ob_some h
  obtain ⟨te, h3, h4⟩ := ob_some h2
  obtain ⟨z, h5, h6⟩ := ob_some h4
  obtain ⟨h7, h8⟩ := chk_some h6
  obtain ⟨h9, h10⟩ := chk_some h8
  obtain ⟨l, h11, h12⟩ := ob_some h10
  obtain ⟨o', h13, h14⟩ := ob_some h12
  obtain ⟨rfl, rfl⟩ := Nx.new.inj (Option.some.inj h14)
  obtain ⟨y, hz1, hz2⟩ := (hT _ _ h3).run_zero h5
  have hu := elemD_some hT h1
  have hc := cellsV_den (hz2 φ)
  have hsz : y.cells.size = te.size := by
    have := denL_length hc
    rw [← beq_true h7, lenL_eq, ← this]; simp
  obtain ⟨zs, hf1, hf2⟩ := fillV_run h11 (rep_den hc len) hp.1 hp.2
  have hlim : ¬(len * te.size > 2 ^ 24) := by have := ble_true h9; show ¬(16777216 < len * te.size); exact Nat.not_lt.2 this
  have hpl : (fun i => some (i * te.size, te.size) : Nat → Option (Nat × Nat)) = plAr te.size := rfl
  have hrow : ((Array.range (len * te.size)).map fun i => (if len * te.size = 0 then (#[] : Array Value) else y.cells)[i % (if len * te.size = 0 then (#[] : Array Value) else y.cells).size]!) = (List.replicate len y.cells.toList).flatten.toArray := by
    by_cases h0 : len * te.size = 0
    · rw [if_pos h0, h0]
      have : (List.replicate len y.cells.toList).flatten.length = 0 := by simp [hsz, h0]
      rw [List.eq_nil_of_length_eq_zero this]; simp
    · rw [if_neg h0, ← hsz]
      exact zeros_eq _ _ (by rw [hsz]; intro h; rw [h, Nat.mul_zero] at h0; exact h0 rfl)
  refine ⟨.cells zs.toArray e, 0, .slice (some ⟨w.heap.size, 0, none⟩) len len, { w with heap := w.heap.push (.cells zs.toArray e) }, ?_, rfl, rfl, rfl, rfl, mkRow_new (w := w) h13 hf2 hid, den_sl_mk (Phi.put_same _ _ _) (Nat.le_refl _)⟩
  simp only [Instr.buildSlice, Sem.run_bind, hu, Result.andThen, (hT _ _ h3).run_size, if_neg hlim]
  by_cases h0 : len * te.size = 0
  · rw [if_pos h0] at hrow
    simp only [if_pos h0, Sem.run_pure, Sem.run_bind, hrow, hpl, hf1, newRow, run_newObj, Result.andThen]
  · rw [if_neg h0] at hrow
    simp only [if_neg h0, Sem.run_pure, Sem.run_bind, hz1, hrow, hpl, hf1, newRow, run_newObj, Result.andThen]
theorem zeroRow_rel {e : TypeId} {te : Ty} {c : Nat} {z : AVal} {y : Value} {o : AObj} {id : Nat} (h : zeroRow E e te c z = some o) (hy : ∀ φ, den φ z = some y) (hid : φ id = none) :
    ORel E (φ.put id ⟨w.heap.size, 0⟩) o ⟨w.heap.size, 0⟩ (some (.cells (List.replicate c y.cells.toList).flatten.toArray e)) := by
  unfold zeroRow at h
  rw [ife_eq] at h
  split at h
  · next hb =>
    obtain ⟨h1, h2⟩ := chk_some h
    obtain rfl := Option.some.inj h2
    unfold isZ at h1
    cases hz : byteV z with
    | none => rw [hz] at h1; cases h1
    | some x =>
      rw [hz] at h1
      obtain rfl : x = 0 := beq_true h1
      obtain ⟨rfl, _⟩ := byteV_some hz
      obtain rfl := den_i (hy φ)
      refine ⟨_, _, _, rfl, NF_zero _, by simp, Nat.pow_pos (by decide), ?_, fun i hi => ⟨.i .u8 (Int.ofNat 0), .int .u8 0, ?_, by simp only [den]; rfl, rfl, ?_⟩⟩
      · simp [Value.cells]
      · simp only [digV, dig_zero]
      · have := flat_get [Value.int .u8 (0 : Int)] (by simp) c i (by simpa using hi)
        simp only [Value.cells, List.getElem?_toArray]
        simpa [Nat.mod_one] using this
  · exact mkRow_new (w := w) h (rep_den (cellsV_den (hy φ)) c) hid
theorem wrap_big {n : Nat} (h : n ≤ 9223372036854775807) : IntKind.i64.wrap (n : Int) = n := wrap_hi .i64 n h
theorem TyOK.run_info {t : TypeId} {i : Ty} (hT : TyOK P t i) : ∃ x, (∀ w, (typeInfo t).run P w = .ok x w) ∧ x.bytes = i.bytes := by
  obtain ⟨x, h1, _, h3, _⟩ := hT.info
  exact ⟨x, fun w => by simp [typeInfo, h1], h3⟩
theorem makeSl_run (hT : TysOK P E) {t : TypeId} {id : Nat} {l c : AVal} {l' c' : Value} {o : AObj} {v : AVal} (h : makeSl E t l c id = some (.new o v)) (hl : den φ l = some l') (hc : den φ c = some c') (hid : φ id = none) :
    NewOK E φ w id o v ((Instr.makeSlice t l' c').run P w) := by
  obtain ⟨e, h1, h2⟩ := ob_some h
  obtain ⟨te, h3, h4⟩ := ob_some h2
  obtain ⟨z, h5, h6⟩ := ob_some h4
  obtain ⟨h7, h8⟩ := chk_some h6
  obtain ⟨n, h9, h10⟩ := ob_some h8
  obtain ⟨m, h11, h12⟩ := ob_some h10
  obtain ⟨h13, h14⟩ := chk_some h12
  obtain ⟨h15, h16⟩ := chk_some h14
  obtain ⟨h17, h18⟩ := chk_some h16
  obtain ⟨o', h19, h20⟩ := ob_some h18
  obtain ⟨rfl, rfl⟩ := Nx.new.inj (Option.some.inj h20)
  obtain ⟨k1, rfl⟩ := natV_some h9
  obtain ⟨k2, rfl⟩ := natV_some h11
  obtain rfl := den_i hl; obtain rfl := den_i hc
  obtain ⟨y, hz1, hz2⟩ := (hT _ _ h3).run_zero h5
  obtain ⟨inf, hi1, hi2⟩ := (hT _ _ h3).run_info
  have hu := elemD_some hT h1
  have q1 : n ≤ m := ble_true h13
  have q2 : m ≤ 9223372036854775807 := ble_true h15
  have q3 : te.bytes * m ≤ 140737488355328 := ble_true h17
  have hsz : y.cells.size = te.size := by
    have := denL_length (cellsV_den (hz2 φ))
    rw [← beq_true h7, lenL_eq, ← this]; simp
  have hrow : ((Array.range (m * te.size)).map fun i => (if m * te.size = 0 then (#[] : Array Value) else y.cells)[i % (if m * te.size = 0 then (#[] : Array Value) else y.cells).size]!) = (List.replicate m y.cells.toList).flatten.toArray := by
    by_cases h0 : m * te.size = 0
    · rw [if_pos h0, h0]
      have : (List.replicate m y.cells.toList).flatten.length = 0 := by simp [hsz, h0]
      rw [List.eq_nil_of_length_eq_zero this]; simp
    · rw [if_neg h0, ← hsz]
      exact zeros_eq _ _ (by rw [hsz]; intro h; rw [h, Nat.mul_zero] at h0; exact h0 rfl)
  have hmul : ((inf.bytes : Nat) : Int) * (m : Int) ≤ 140737488355328 := by rw [hi2, ← Int.natCast_mul]; omega
  have b1 : ¬((m : Int) < 0 ∨ ((inf.bytes : Nat) : Int) * (m : Int) > 2 ^ 48) := by
    have : (2 : Int) ^ 48 = 281474976710656 := by decide
    omega
  have hcond : ((decide ((m : Int) < 0) || decide (((inf.bytes : Nat) : Int) * (m : Int) > 2 ^ 48)) || decide ((n : Int) < 0) || decide ((n : Int) > (m : Int))) = false := by
    simp only [Bool.or_eq_false_iff, decide_eq_false_iff_not]
    refine ⟨⟨⟨by omega, ?_⟩, by omega⟩, by omega⟩
    exact fun h => b1 (.inr h)
  refine ⟨.cells (List.replicate m y.cells.toList).flatten.toArray e, 0, .slice (some ⟨w.heap.size, 0, none⟩) n m, { w with heap := w.heap.push (.cells (List.replicate m y.cells.toList).flatten.toArray e) }, ?_, rfl, rfl, rfl, rfl, zeroRow_rel h19 hz2 hid, den_sl_mk (Phi.put_same _ _ _) q1⟩
  simp only [Instr.makeSlice, Sem.run_bind, hu, Result.andThen, asInt, asIntOf, Sem.run_pure, hi1, wrap_big q2, wrap_big (Nat.le_trans q1 q2), hcond, Bool.false_eq_true, if_false, run_askRoom, (hT _ _ h3).run_size, Int.toNat_natCast]
  by_cases h0 : m * te.size = 0
  · rw [if_pos h0] at hrow
    simp only [if_pos h0, Sem.run_pure, hrow, newRow, run_newObj, Sem.run_bind, Result.andThen]
  · rw [if_neg h0] at hrow
    simp only [if_neg h0, Sem.run_pure, Sem.run_bind, hz1, hrow, newRow, run_newObj, Result.andThen]
theorem makeMap_run {t : TypeId} {id : Nat} : NewOK E φ w id (.map [] 0) (.m id) ((Instr.makeMap t none).run P w) :=
  ⟨.map #[] 0, 0, .map (some w.heap.size), { w with heap := w.heap.push (.map #[] 0) }, by simp [Instr.makeMap], rfl, rfl, rfl, rfl, ⟨#[], rfl, trivial⟩, by simp only [den, Phi.put_same]⟩
/-! strings and bytes -/
theorem isByteD_true {d : TypeDesc} (h : isByteD d = true) : d = .int .u8 := by
  cases d with
  | int k => rw [show k = .u8 from kNo_inj (beq_true h)]
  | _ => cases h
theorem digs_list {l n : Nat} (rest : List Value) : CellsRel φ (digV n) l (((bytesOf l n).data.map fun b => Value.int .u8 b.toNat).toList ++ rest).toArray := by
  have hl : ((bytesOf l n).data.map fun b => Value.int .u8 (b.toNat : Int)).toList.length = l := by simpa using bytesOf_size l n
  refine ⟨by simp only [List.size_toArray, List.length_append, hl]; omega, fun i hi => ⟨_, .int .u8 (dig n i), rfl, by simp only [den]; rfl, rfl, ?_⟩⟩
  rw [List.getElem?_toArray, List.getElem?_append_left (by omega), Array.getElem?_toList, Array.getElem?_map, bytesOf_data, if_pos hi]
  simp only [Option.map_some, toNat_dig]
theorem freeze_push {x : Array Value} {e : TypeId} : ({ w with heap := w.heap.push (.cells x e) } : World).freeze ⟨w.heap.size, x.size, none⟩ 1 = { w with heap := w.heap.push (.cells x e (x.size, x.size + 1)) } := by
  simp only [World.freeze, if_neg (show ¬(1 = 0) by decide)]
  congr 1
  apply Array.ext_getElem?
  intro i
  rw [Array.getElem?_modify, Array.getElem?_push, Array.getElem?_push]
  by_cases hi : w.heap.size = i
  · subst hi; simp
  · rw [if_neg hi, if_neg (by omega), if_neg (by omega)]
theorem run_mark_new {x : Array Value} {e : TypeId} : (markStringish ⟨w.heap.size, 0, none⟩).run P { w with heap := w.heap.push (.cells x e) } = .ok () { w with heap := w.heap.push (.cells x e (x.size, x.size + 1)) } := by
  have hs : World.shape? { w with heap := w.heap.push (.cells x e) } w.heap.size = some (e, x.size) := by simp [World.shape?]
  simp only [markStringish, Sem.run_bind, run_shape, hs, Result.andThen, run_freeze]
  rw [freeze_push]
theorem cvSl_run (hT : TysOK P E) {s d e : TypeId} {ts td : Ty} (hs : E.ty s = some ts) (hd : E.ty d = some td) (hde : dk td.desc = .sliceD e) {a : AVal} {x : Value} {id : Nat} {o : AObj} {v : AVal} (h : cvSl E id e a = some (.new o v)) (ha : den φ a = some x) :
    NewOK E φ w id o v ((convert s d x).run P w) := by
  unfold cvSl at h
  rcases asS_cases a with ⟨l, n, rfl, e'⟩ | e'
  · rw [e'] at h
    obtain ⟨te, h1, h2⟩ := ob_some (show ob (E.ty e) (fun te => chk (isByteD te.desc) (chk (Nat.beq te.size (nat_lit 1)) (some (.new (.bytes l n e) (.sl id (nat_lit 0) l (.op (nat_lit 0))))))) = some (Nx.new o v) from h)
    obtain ⟨h3, h4'⟩ := chk_some h2
    obtain ⟨h4s, h4⟩ := chk_some h4'
    obtain ⟨rfl, rfl⟩ := Nx.new.inj (Option.some.inj h4)
    obtain ⟨rfl, hn⟩ := den_s ha
    have hu1 : ∀ w, (underlying d).run P w = .ok (.slice e) w := fun w => by rw [(hT _ _ hd).run_under, dk_slice hde]
    have hu2 : ∀ w, (underlying e).run P w = .ok (.int .u8) w := fun w => by rw [(hT _ _ h1).run_under, isByteD_true h3]
    have hu0 := fun w => (hT _ _ hs).run_under (w := w)
    have hbs := bytesOf_size l n
    obtain ⟨cap, hcap, hch⟩ : ∃ cap, l ≤ cap ∧ (choose (.appendCap (bytesOf l n).size 0 e)).run P w = .ok cap { w with drawn := w.drawn + 1 } := by
      refine ⟨_, ?_, by rw [run_choose]; exact if_neg (by simp [Question.forced])⟩
      rw [hbs]
      exact Nat.le_add_right _ _
    obtain ⟨row, hrow⟩ : ∃ row : Array Value, row = (bytesOf l n).data.map (fun b : UInt8 => Value.int .u8 (b.toNat : Int)) ++ Array.replicate (cap - (bytesOf l n).size) (.int .u8 0) := ⟨_, rfl⟩
    have hrl : row = (((bytesOf l n).data.map fun b : UInt8 => Value.int .u8 (b.toNat : Int)).toList ++ List.replicate (cap - l) (Value.int .u8 0)).toArray := by
      rw [hrow, hbs]; apply Array.ext'; simp
    have hrs : row.size = cap := by
      have : ((bytesOf l n).data.map fun b : UInt8 => Value.int .u8 (b.toNat : Int)).toList.length = l := by simpa using hbs
      rw [hrl, List.size_toArray, List.length_append, this, List.length_replicate]; omega
    refine ⟨.cells row e (row.size, row.size + 1), cap, .slice (some ⟨w.heap.size, 0, none⟩) l cap, { w with heap := w.heap.push (.cells row e (row.size, row.size + 1)), drawn := w.drawn + 1 }, ?_, rfl, rfl, rfl, rfl, ?_, ?_⟩
    · have hconv : (convert s d (.string (bytesOf l n))).run P w = (Conv.stringToBytes e (bytesOf l n)).run P w := by
        simp only [convert, Sem.run_bind, hu0, hu1, Result.andThen]
        cases ts.desc <;> simp only [hu2]
      have hm := run_mark_new (P := P) (w := { w with drawn := w.drawn + 1 }) (x := row) (e := e)
      rw [hconv]
      simp only [Conv.stringToBytes, Sem.run_bind, hch, Result.andThen, newRow, run_newObj, Sem.run_pure, ← hrow]
      simp only at hm
      rw [hm]
      simp only [hbs]
    · refine ⟨row, e, _, rfl, ?_, ?_, hn, ?_⟩
      · intro i hi h; simp only at h; omega
      · intro te' h5
        obtain rfl := Option.some.inj (h1.symm.trans h5)
        rw [show te.size = 1 from beq_true h4s, Nat.mul_one, hrs]; exact Nat.le_refl _
      · rw [hrl]; exact digs_list _
    · exact den_sl_mk (Phi.put_same _ _ _) (by simp only [capOf]; omega)
  · rw [e'] at h; cases h
end Go.Abs
