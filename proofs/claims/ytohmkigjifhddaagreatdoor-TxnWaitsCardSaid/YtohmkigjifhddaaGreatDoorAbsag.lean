/- A part of a proof about Go functions of this program: an evaluator with a memory of its own, and the proof that what it finds the model finds (C18, C19, C20). No conditions beyond those that each theorem names. -/
import Derived.Test.YtohmkigjifhddaaGreatDoorAbsaf
import Derived.Laws.BytesString
set_option linter.all false
set_option autoImplicit false
set_option linter.unusedSimpArgs false
namespace Go.Abs
variable {E : Env} {P : Program} {N : Nat} {φ : Phi} {w : World}
theorem foldl_push (ns : List Int) : ∀ s : ByteArray, (ns.foldl (fun r n => r.push (UInt8.ofNat n.toNat)) s).data.toList = s.data.toList ++ ns.map fun n => UInt8.ofNat n.toNat := by
  induction ns with
  | nil => intro s; simp
  | cons n ns ih => intro s; rw [List.foldl_cons, ih]; simp [ByteArray.push]
theorem run_bytes_of {blk off len cap d : Nat} (h : ∀ j, j < len → w.cell? ⟨blk, off + j, none⟩ = some (.int .u8 (dig d j : Int))) :
    (Conv.bytesToString (.slice (some ⟨blk, off, none⟩) len cap)).run P w = .ok (.string (bytesOf len d)) w := by
  have hl : (loadCells ⟨blk, off, none⟩ len).run P w = .ok (((List.range' 0 len).map fun i => (dig d i : Int)).map (Value.int .u8)).toArray w := by
    refine run_loadCells_of (by simp) fun j y hj => ?_
    rw [List.getElem?_map, List.getElem?_map] at hj
    by_cases hjl : j < len
    · rw [List.getElem?_range' hjl] at hj
      simp only [Option.map_some, Nat.zero_add, Nat.one_mul] at hj
      obtain rfl := Option.some.inj hj
      exact h j hjl
    · rw [List.getElem?_eq_none (by simp; omega)] at hj; cases hj
  rw [run_bytesToString w _ _ _ _ hl]
  congr 2
  apply byte_ext
  intro i
  rw [← Array.getElem?_toList, foldl_push, bytesOf_data]
  simp only [List.map_map, Array.toList_empty, ByteArray.data_empty, List.nil_append, List.getElem?_map]
  by_cases hi : i < len
  · rw [if_pos hi, List.getElem?_range' hi]
    simp
  · rw [if_neg hi, List.getElem?_eq_none (by simp; omega)]; rfl
theorem subS_run {o : AObj} {loc : Loc} {len off cap : Nat} {v : AVal} (k : ORel E φ o loc w.heap[loc.blk]?) (h : subS len off o = some v) :
    ∃ y, (Conv.bytesToString (.slice (some ⟨loc.blk, off, none⟩) len cap)).run P w = .ok y w ∧ den φ v = some y := by
  cases o with
  | cells c n e =>
    obtain ⟨l, h1, h2⟩ := ob_some (show ob (ldN (.cells c n e) len off) (fun l => ob (packV l) fun d => some (.s len d)) = some v from h)
    obtain ⟨d, h3, h4⟩ := ob_some h2
    obtain rfl := Option.some.inj h4
    obtain ⟨ys, e1, e2, _, e4⟩ := ldN_cells k h1
    obtain ⟨p1, p2⟩ := packV_spec h3
    have hll : l.length = len := by rw [← denL_length e1, e2]
    rw [hll] at p1 p2
    refine ⟨_, run_bytes_of (d := d) fun j hj => ?_, by simp only [den, if_pos p1]⟩
    obtain ⟨y, q1, q2⟩ := denL_get e1 (p2 j hj)
    rw [e4 j y q2, den_i q1]
  | bytes n d e =>
    obtain ⟨h1, h2⟩ := chk_some (show chk (Nat.ble (off + len) n) (some (.s len (sub d off len))) = some v from h)
    obtain rfl := Option.some.inj h2
    have hle := ble_true h1
    refine ⟨_, run_bytes_of (d := sub d off len) fun j hj => ?_, by simp only [den, if_pos (sub_lt d off len)]⟩
    obtain ⟨y, q1, _, q3⟩ := ldO_cell (off := off + j) (v := AVal.i .u8 (Int.ofNat (dig d (off + j)))) k (by
      show chk (lt (off + j) n) (some (AVal.i .u8 (Int.ofNat (dig d (off + j))))) = _
      rw [show lt (off + j) n = true from Nat.ble_eq_true_of_le (by show off + j + 1 ≤ n; omega)]; rfl)
    rw [q3, den_i q1, dig_sub hj]; rfl
  | _ => cases h
theorem bytesS_run {h : Heap} (r : Rel E N φ h.get w) {x v : AVal} {a : Value} (hv : bytesS h x = some v) (ha : den φ x = some a) : ∃ y, (Conv.bytesToString a).run P w = .ok y w ∧ den φ v = some y := by
  unfold bytesS at hv
  rcases asSl_cases x with ⟨rfl, q⟩ | ⟨b, off, len, cap, rfl, q⟩ | q
  · rw [q] at hv
    obtain rfl : v = .s 0 0 := (Option.some.inj (show some (AVal.s 0 0) = some v from hv)).symm
    rw [den_sl0 ha]
    exact ⟨.string ByteArray.empty, rfl, by simp only [den]; rfl⟩
  · rw [q] at hv
    obtain ⟨o, h1, h2⟩ := ob_some (show ob (h.get b) (fun o => subS len off o) = some v from hv)
    obtain ⟨loc, h3, rfl⟩ := den_sl ha
    rw [asSl_off q]
    exact subS_run (r.at h1 h3) h2
  · rw [q] at hv; cases hv
/-! conversions -/
theorem cvInt_run (hT : TysOK P E) {s d : TypeId} {ts td : Ty} (hs : E.ty s = some ts) (hd : E.ty d = some td) {k : IntKind} (hk : dk td.desc = .intD k) {a : AVal} {x : Value} {nx : Nx} (h : cvInt k a = some nx) (ha : den φ a = some x) :
    ∃ v y, nx = .val v ∧ (∀ w, (convert s d x).run P w = .ok y w) ∧ den φ v = some y := by
  unfold cvInt at h
  rcases asI_cases a with ⟨k', n, rfl, e⟩ | e
  · rw [e] at h
    obtain rfl : nx = .val (.i k (convI k n)) := (Option.some.inj h).symm
    obtain rfl := den_i ha
    refine ⟨_, .int k (k.wrap n), rfl, fun w => ?_, by simp only [den, convI_eq]⟩
    have hu0 := fun w => (hT _ _ hs).run_under (w := w)
    have hu1 : ∀ w, (underlying d).run P w = .ok (.int k) w := fun w => by
      rw [(hT _ _ hd).run_under]
      cases hdd : td.desc with
      | int k'' => rw [hdd] at hk; obtain rfl := DK.intD.inj hk; rfl
      | _ => rw [hdd] at hk; cases hk
    simp only [convert, Sem.run_bind, hu0, hu1, Result.andThen]
    cases ts.desc <;> rfl
  · rw [e] at h; cases h
theorem cvStr_run (hT : TysOK P E) {h : Heap} (r : Rel E N φ h.get w) {s d : TypeId} {ts td : Ty} (hs : E.ty s = some ts) (hd : E.ty d = some td) (hk : dk td.desc = .strD) {a : AVal} {x : Value} {nx : Nx} (hv : cvStr E h ts a = some nx) (ha : den φ a = some x) :
    ∃ v y, nx = .val v ∧ (convert s d x).run P w = .ok y w ∧ den φ v = some y := by
  have hu0 := fun w => (hT _ _ hs).run_under (w := w)
  have hu1 : ∀ w, (underlying d).run P w = .ok .string w := fun w => by
    rw [(hT _ _ hd).run_under]
    cases hdd : td.desc with
    | string => rfl
    | _ => rw [hdd] at hk; cases hk
  unfold cvStr at hv
  cases he : elemOfD (dk ts.desc) with
  | none =>
    rw [he] at hv
    obtain ⟨h1, h2⟩ := chk_some (show chk (isSm (lenS a)) (some (.val a)) = some nx from hv)
    obtain rfl := Option.some.inj h2
    cases hl : lenS a with
    | none => rw [hl] at h1; cases h1
    | some n =>
      obtain ⟨q, rfl⟩ := lenS_some hl
      obtain ⟨rfl, _⟩ := den_s ha
      refine ⟨_, .string (bytesOf n q), rfl, ?_, ha⟩
      simp only [convert, Sem.run_bind, hu0, hu1, Result.andThen]
      cases ts.desc <;> rfl
  | some e =>
    rw [he] at hv
    obtain ⟨te, h1, h2⟩ := ob_some (show ob (E.ty e) (fun te => chk (isByteD te.desc) (ob (bytesS h a) fun v => some (.val v))) = some nx from hv)
    obtain ⟨h3, h4⟩ := chk_some h2
    obtain ⟨v, h5, h6⟩ := ob_some h4
    obtain rfl := Option.some.inj h6
    obtain ⟨y, h7, h8⟩ := bytesS_run (P := P) r h5 ha
    refine ⟨v, y, rfl, ?_, h8⟩
    have hue : ∀ w, (underlying e).run P w = .ok (.int .u8) w := fun w => by rw [(hT _ _ h1).run_under, isByteD_true h3]
    have hsl : ts.desc = .slice e := elemOfD_some he
    have hsl' : ∃ p n c, x = .slice p n c := by
      unfold bytesS at h5
      rcases asSl_cases a with ⟨rfl, q⟩ | ⟨b, off, len, cap, rfl, q⟩ | q
      · exact ⟨_, _, _, den_sl0 ha⟩
      · obtain ⟨loc, _, rfl⟩ := den_sl ha; exact ⟨_, _, _, rfl⟩
      · rw [q] at h5; cases h5
    obtain ⟨p, n, c, rfl⟩ := hsl'
    simp only [convert, Sem.run_bind, hu0, hu1, Result.andThen, hsl, hue]
    exact h7
end Go.Abs

set_option autoImplicit false
set_option linter.unusedSimpArgs false
namespace Go.Abs
variable {E : Env} {P : Program} {N : Nat} {φ : Phi} {w : World}
structure EnvOK (E : Env) (P : Program) : Prop where
  tys : TysOK P E
  fns : ∀ f fn, E.fn f = some fn → P.funcs[f]? = some fn
  body : ∀ f fn, E.fn f = some fn → fn.body.isSome = true → fn.name ≠ "runtime.NumGoroutine"
  meth : ∀ t name f p v w, E.meth t name = some (f, p) → (method (P.types.size + Made.depth) t v name).run P w = .ok (f, v) w
def OpdsOK (φ : Phi) (tm : Tm) (ρ : Operand → Value) : Prop := ∀ o v, opd o tm = some v → den φ v = some (ρ o)
def NextOK (E : Env) (P : Program) (N : Nat) (φ : Phi) (h : Heap) (w : World) (id : Nat) (nx : Nx) (r : Result Next) : Prop := match nx with
  | .val v => ∃ a, r = .ok (.value a) w ∧ den φ v = some a
  | .new o v => ∃ x ext a w', r = .ok (.value a) w' ∧ w'.heap = w.heap.push x ∧ w'.os = w.os ∧ w'.tape = w.tape ∧ w'.output = w.output ∧ ORel E (φ.put id ⟨w.heap.size, ext⟩) o ⟨w.heap.size, ext⟩ (some x) ∧ den (φ.put id ⟨w.heap.size, ext⟩) v = some a
  | .eff v h' => ∃ w' φ', Goes E N φ h w φ' h' w' ∧ ((∃ a, r = .ok (.value a) w' ∧ den φ' v = some a) ∨ (r = .ok .skip w' ∧ v = .tup []))
  | .enter f args => ∃ as, r = .ok (.enter f as.toArray) w ∧ denL φ args = some as ∧ ∃ fn, E.fn f = some fn ∧ fn.body.isSome = true
  | .round l args => ∃ lb as, φ l = some lb ∧ denL φ args = some as ∧ r = (Instr.yield lb.blk as.toArray).run P w
  | .defer _ => False
section
variable {h h' : Heap} {id : Nat} {s : Sem Value} {v : AVal} {o : AObj} {nx : Nx}
theorem valN_ok {a : Value} {w' : World} (h : s.run P w = .ok a w') : (do pure (Next.value (← s)) : Sem Next).run P w = .ok (.value a) w' := by simp only [Sem.run_bind, h, Result.andThen, Sem.run_pure]
theorem val_ok (k : ∃ y, s.run P w = .ok y w ∧ den φ v = some y) : NextOK E P N φ h w id (.val v) ((do pure (Next.value (← s)) : Sem Next).run P w) := by
  obtain ⟨y, h1, h2⟩ := k
  exact ⟨y, valN_ok h1, h2⟩
theorem new_ok (k : NewOK E φ w id o v (s.run P w)) : NextOK E P N φ h w id (.new o v) ((do pure (Next.value (← s)) : Sem Next).run P w) := by
  obtain ⟨x, ext, a, w', h1, h2⟩ := k
  exact ⟨x, ext, a, w', valN_ok h1, h2⟩
theorem eff_ok (k : EffOK E N φ h w v h' (s.run P w)) : NextOK E P N φ h w id (.eff v h') ((do pure (Next.value (← s)) : Sem Next).run P w) := by
  obtain ⟨w', φ', a, h1, h2, h3⟩ := k
  exact ⟨w', φ', h3, .inl ⟨a, valN_ok h1, h2⟩⟩
theorem nx_ok (k : NxOK E N φ h w nx (s.run P w)) : NextOK E P N φ h w id nx ((do pure (Next.value (← s)) : Sem Next).run P w) := by
  cases nx with
  | val v => obtain ⟨a, h1, h2⟩ := k; exact val_ok ⟨a, h1, h2⟩
  | eff v h' => exact eff_ok k
  | _ => exact k.elim
theorem unit_ok {s : Sem Unit} (k : UnitOK E N φ h w h' (s.run P w)) : NextOK E P N φ h w id (.eff (.tup []) h') ((do s; pure .skip : Sem Next).run P w) := by
  obtain ⟨w', h1, h2⟩ := k
  exact ⟨w', φ, h2, .inr ⟨by simp only [Sem.run_bind, h1, Result.andThen, Sem.run_pure], rfl⟩⟩
end
theorem opds_den {tm : Tm} {ρ : Operand → Value} (ho : OpdsOK φ tm ρ) : ∀ {l : List Operand} {vs : List AVal}, opds l tm = some vs → denL φ vs = some (l.map ρ)
  | [], vs, h => by obtain rfl := Option.some.inj h; exact denL_nil φ
  | o :: l, vs, h => by
    obtain ⟨v, h1, h2⟩ := ob_some (show ob (opd o tm) (fun b => ob (opds l tm) fun r => some (b :: r)) = some vs from h)
    obtain ⟨r, h3, h4⟩ := ob_some h2
    obtain rfl := Option.some.inj h4
    exact denL_cons (ho _ _ h1) (opds_den ho h3)
theorem opds_den' {tm : Tm} {ρ : Operand → Value} (ho : OpdsOK φ tm ρ) {a : Array Operand} {vs : List AVal} (h : opds a.toList tm = some vs) : denL φ vs = some (a.map ρ).toList := by
  rw [Array.toList_map]; exact opds_den ho h
theorem oopd_den {tm : Tm} {ρ : Operand → Value} (ho : OpdsOK φ tm ρ) {x : Option Operand} {v : Option AVal} (h : oopd x tm = some v) : denO φ v (x.map ρ) := by
  cases x with
  | none => obtain rfl : v = none := (Option.some.inj (show some none = some v from h)).symm; trivial
  | some o =>
    obtain ⟨a, h1, h2⟩ := ob_some (show ob (opd o tm) (fun v => some (some v)) = some v from h)
    obtain rfl := Option.some.inj h2
    exact ho _ _ h1
theorem mapP_den {tm : Tm} {ρ : Operand → Value} (ho : OpdsOK φ tm ρ) : ∀ {l : List (Nat × Operand)} {ps : List (Nat × AVal)}, mapP l tm = some ps → denP φ ps (l.map fun p => (p.1, ρ p.2))
  | [], ps, h => by obtain rfl := Option.some.inj h; exact ⟨rfl, fun k p q h1 _ => by simp at h1⟩
  | a :: l, ps, h => by
    obtain ⟨p, h1, h2⟩ := ob_some (show ob (ob (opd a.2 tm) fun v => some (a.1, v)) (fun b => ob (mapP l tm) fun r => some (b :: r)) = some ps from h)
    obtain ⟨r, h3, h4⟩ := ob_some h2
    obtain rfl := Option.some.inj h4
    obtain ⟨v, h5, h6⟩ := ob_some h1
    obtain rfl := Option.some.inj h6
    obtain ⟨i1, i2⟩ := mapP_den ho h3
    refine ⟨by simp [i1], fun k p q e1 e2 => ?_⟩
    cases k with
    | zero =>
      rw [List.getElem?_cons_zero] at e1
      rw [List.map_cons, List.getElem?_cons_zero] at e2
      obtain rfl := Option.some.inj e1; obtain rfl := Option.some.inj e2
      exact ⟨rfl, ho _ _ h5⟩
    | succ k =>
      rw [List.getElem?_cons_succ] at e1
      rw [List.map_cons, List.getElem?_cons_succ] at e2
      exact i2 k p q e1 e2
theorem denL_hd {args : List AVal} {as : List Value} {x : AVal} (h : denL φ args = some as) (hx : hd args = some x) : ∃ a, as[0]? = some a ∧ den φ x = some a := by
  unfold hd at hx
  rw [nth_eq] at hx
  obtain ⟨a, h1, h2⟩ := denL_get h hx
  exact ⟨a, h2, h1⟩
theorem denL_snd {args : List AVal} {as : List Value} {x : AVal} (h : denL φ args = some as) (hx : snd args = some x) : ∃ a, as[1]? = some a ∧ den φ x = some a := by
  unfold snd at hx
  rw [nth_eq] at hx
  obtain ⟨a, h1, h2⟩ := denL_get h hx
  exact ⟨a, h2, h1⟩
/-! calls -/
theorem callF_run (hE : EnvOK E P) {f : FuncId} {args : List AVal} {as : List Value} {nx : Nx} {h : Heap} {id : Nat} (hv : callF E f args = some nx) (ha : denL φ args = some as) :
    NextOK E P N φ h w id nx ((callFunc f as.toArray).run P w) := by
  obtain ⟨fn, h1, h2⟩ := ob_some hv
  obtain ⟨h3, h4⟩ := chk_some h2
  obtain rfl := Option.some.inj h4
  have hb : fn.body.isSome = true := by cases hq : fn.body with | none => rw [hq] at h3; cases h3 | some _ => rfl
  refine ⟨as, ?_, ha, fn, h1, hb⟩
  have hn : (fn.name == "runtime.NumGoroutine") = false := by simpa using hE.body f fn h1 hb
  have hbn : fn.body.isNone = false := by cases hq : fn.body with | none => rw [hq] at hb; cases hb | some _ => rfl
  simp only [callFunc, Sem.run_bind, run_program, Result.andThen, hE.fns f fn h1, hn, hbn, Bool.false_eq_true, if_false, Sem.run_pure]
theorem applyV_run (hE : EnvOK E P) {fv : AVal} {args : List AVal} {x : Value} {as : List Value} {nx : Nx} {h : Heap} {id : Nat} (hv : applyV E fv args = some nx) (hx : den φ fv = some x) (ha : denL φ args = some as) :
    ∃ d, (∀ w, (Deferred.ofValue x as.toArray).run P w = .ok d w) ∧ NextOK E P N φ h w id nx ((invoke d.target d.args).run P w) := by
  unfold applyV at hv
  rcases asF_cases fv with ⟨rfl, q⟩ | ⟨fn, fa, ca, rfl, q⟩ | q
  · rw [q] at hv; cases hv
  · rw [q] at hv
    obtain ⟨fn', fa', ca', d1, d2, d3, rfl⟩ := den_f hx
    refine ⟨⟨.fn fn' ca'.toArray, fa'.toArray ++ as.toArray⟩, fun w => rfl, ?_⟩
    cases fn with
    | func f =>
      obtain rfl : fn' = .func f := (Option.some.inj d1).symm
      have h1 : callF E f (app fa (app args ca)) = some nx := hv
      rw [app_eq, app_eq] at h1
      have h2 := callF_run (N := N) (h := h) (id := id) (w := w) hE h1 (denL_app d2 (denL_app ha d3))
      have e : fa'.toArray ++ as.toArray ++ ca'.toArray = (fa' ++ (as ++ ca')).toArray := by simp
      show NextOK E P N φ h w id nx ((callFunc f (fa'.toArray ++ as.toArray ++ ca'.toArray)).run P w)
      rw [e]; exact h2
    | yield l =>
      obtain ⟨lb, k1, k2⟩ := Option.map_eq_some_iff.1 (show (φ l).map (fun x => Fn.yield x.blk) = some fn' from d1)
      subst k2
      obtain rfl : nx = .round l (app fa args) := (Option.some.inj (show some (Nx.round l (app fa args)) = some nx from hv)).symm
      rw [app_eq]
      refine ⟨lb, fa' ++ as, k1, denL_app d2 ha, ?_⟩
      show (Instr.yield lb.blk (fa'.toArray ++ as.toArray)).run P w = _
      congr 2; simp
    | _ => cases hv
  · rw [q] at hv; cases hv
theorem invokeV_run (hE : EnvOK E P) {rv : AVal} {name : String} {args : List AVal} {x : Value} {as : List Value} {nx : Nx} {h : Heap} {id : Nat} (hv : invokeV E rv name args = some nx) (hx : den φ rv = some x) (ha : denL φ args = some as) :
    NextOK E P N φ h w id nx ((callMethod x name as.toArray).run P w) := by
  unfold invokeV at hv
  rcases asIc_cases rv with ⟨rfl, q⟩ | ⟨t, v, rfl, q⟩ | q
  · rw [q] at hv; cases hv
  · rw [q] at hv
    obtain ⟨y, d1, rfl⟩ := den_ic hx
    obtain ⟨⟨f, p⟩, h1, h2⟩ := ob_some (show ob (E.meth t name) (fun q => callF E q.1 (v :: args)) = some nx from hv)
    have h3 := callF_run (N := N) (h := h) (id := id) (w := w) hE h2 (denL_cons d1 ha)
    simp only [callMethod, Sem.run_bind, run_program, Result.andThen, hE.meth t name f p y w h1]
    have e : #[y] ++ as.toArray = (y :: as).toArray := by simp
    rw [e]; exact h3
  · rw [q] at hv; cases hv
/-! builtins -/
theorem builtinV_run (hE : EnvOK E P) {b : Builtin} {ts : Array TypeId} {ty : TypeId} {cs : Array Bool} {args : List AVal} {as : List Value} {nx : Nx} {h : Heap} {id : Nat} (r : Rel E N φ h.get w) (f : Fresh h.next φ h.get)
    (hv : builtinV b E h ts.toList args = some nx) (ha : denL φ args = some as) : NextOK E P N φ h w id nx ((builtin b ts ty cs as.toArray).run P w) := by
  have hd0 : ∀ t, hd ts.toList = some t → ts[0]? = some t := fun t e => by
    unfold hd at e; rw [nth_eq] at e; simpa using e
  have hd1 : ∀ t, snd ts.toList = some t → ts[1]? = some t := fun t e => by
    unfold snd at e; rw [nth_eq] at e; simpa using e
  cases b with
  | append =>
    obtain ⟨s, h1, h2⟩ := ob_some (show bAppend E h ts.toList args = some nx from hv)
    obtain ⟨x, h3, h4⟩ := ob_some h2
    obtain ⟨t, h5, h6⟩ := ob_some h4
    obtain ⟨u, h7, h8⟩ := ob_some h6
    obtain ⟨tu, h9, h10⟩ := ob_some h8
    obtain ⟨h11, h12⟩ := chk_some h10
    obtain ⟨a, a1, a2⟩ := denL_hd ha h1
    obtain ⟨j, j1, j2⟩ := denL_snd ha h3
    exact nx_ok (appendV_run (ty := ty) (args := as.toArray) hE.tys r f (hd0 _ h5) (hd1 _ h7) h9 (by cases hq : isIntD (dk tu.desc) with | false => rfl | true => rw [hq] at h11; cases h11) (by simpa using a1) (by simpa using j1) a2 j2 h12)
  | copy =>
    obtain ⟨s, h1, h2⟩ := ob_some (show bCopy E h ts.toList args = some nx from hv)
    obtain ⟨x, h3, h4⟩ := ob_some h2
    obtain ⟨t, h5, h6⟩ := ob_some h4
    obtain ⟨a, a1, a2⟩ := denL_hd ha h1
    obtain ⟨j, j1, j2⟩ := denL_snd ha h3
    exact nx_ok (copyV_run (ty := ty) (args := as.toArray) hE.tys r f (hd0 _ h5) (by simpa using a1) (by simpa using j1) a2 j2 h6)
  | delete =>
    obtain ⟨h0, h0'⟩ := chk_some (show bDelete E h ts.toList args = some nx from hv)
    obtain ⟨s, h1, h2⟩ := ob_some h0'
    obtain ⟨x, h3, h4⟩ := ob_some h2
    obtain ⟨t, h5, h6⟩ := ob_some h4
    obtain ⟨h', h7, h8⟩ := ob_some h6
    obtain rfl := Option.some.inj h8
    obtain ⟨a, a1, a2⟩ := denL_hd ha h1
    obtain ⟨j, j1, j2⟩ := denL_snd ha h3
    have hl : as.length = 2 := by rw [denL_length ha, ← lenL_eq]; exact beq_true h0
    obtain rfl : as = [a, j] := by
      match as, hl with
      | [p, q], _ => simp at a1 j1; rw [a1, j1]
    exact eff_ok (delV_run (ty := ty) hE.tys r f (hd0 _ h5) h7 a2 j2)
  | len =>
    obtain ⟨h0, h0'⟩ := chk_some (show bLen E h ts.toList args = some nx from hv)
    obtain ⟨s, h1, h2⟩ := ob_some h0'
    obtain ⟨t, h3, h4⟩ := ob_some h2
    obtain ⟨ti, h5, h6⟩ := ob_some h4
    obtain ⟨n, h7, h8⟩ := ob_some h6
    obtain ⟨h9, h10⟩ := chk_some h8
    obtain rfl := Option.some.inj h10
    obtain ⟨a, a1, a2⟩ := denL_hd ha h1
    have hl : as.length = 1 := by rw [denL_length ha, ← lenL_eq]; exact beq_true h0
    obtain rfl : as = [a] := by
      match as, hl with
      | [p], _ => simp at a1; rw [a1]
    exact val_ok ⟨_, lenV_run (ty := ty) hE.tys r (hd0 _ h3) h5 h7 a2, by simp only [den]; rfl⟩
  | max =>
    obtain ⟨x, h1, h2⟩ := ob_some (show bMax E h ts.toList args = some nx from hv)
    obtain ⟨v, h3, h4⟩ := ob_some h2
    obtain rfl := Option.some.inj h4
    match args, h1, h3 with
    | y :: l, h1, h3 =>
      obtain rfl : y = x := Option.some.inj h1
      obtain ⟨a, r', d1, d2, rfl⟩ := denL_cons' ha
      have h3 : maxV leI l y = some v := h3
      have key : ∃ q, (∀ w, (r'.foldlM Builtin.max2 a).run P w = .ok q w) ∧ den φ v = some q := by
        cases l with
        | nil => rw [denL_nil] at d2; obtain rfl := Option.some.inj d2; obtain rfl := Option.some.inj h3; exact ⟨a, fun w => rfl, d1⟩
        | cons z l =>
          rcases asI_cases y with ⟨k, n, rfl, e⟩ | e
          · exact max_fold h3 ⟨k, n, rfl⟩ d1 d2
          · have : OI.rec (motive := fun _ => Option AVal) none (fun k a => OI.rec (motive := fun _ => Option AVal) none (fun _ c => maxV leI l (.i k (ife (leI c a) a c))) (asI z)) (asI y) = some v := h3
            rw [e] at this; cases this
      obtain ⟨q, k1, k2⟩ := key
      exact val_ok ⟨q, k1 w, k2⟩
  | min =>
    obtain ⟨x, h1, h2⟩ := ob_some (show bMin E h ts.toList args = some nx from hv)
    obtain ⟨v, h3, h4⟩ := ob_some h2
    obtain rfl := Option.some.inj h4
    match args, h1, h3 with
    | y :: l, h1, h3 =>
      obtain rfl : y = x := Option.some.inj h1
      obtain ⟨a, r', d1, d2, rfl⟩ := denL_cons' ha
      have h3 : maxV geI l y = some v := h3
      have key : ∃ q, (∀ w, (r'.foldlM Builtin.min2 a).run P w = .ok q w) ∧ den φ v = some q := by
        cases l with
        | nil => rw [denL_nil] at d2; obtain rfl := Option.some.inj d2; obtain rfl := Option.some.inj h3; exact ⟨a, fun w => rfl, d1⟩
        | cons z l =>
          rcases asI_cases y with ⟨k, n, rfl, e⟩ | e
          · exact min_fold h3 ⟨k, n, rfl⟩ d1 d2
          · have : OI.rec (motive := fun _ => Option AVal) none (fun k a => OI.rec (motive := fun _ => Option AVal) none (fun _ c => maxV geI l (.i k (ife (geI c a) a c))) (asI z)) (asI y) = some v := h3
            rw [e] at this; cases this
      obtain ⟨q, k1, k2⟩ := key
      exact val_ok ⟨q, k1 w, k2⟩
  | _ => cases hv
end Go.Abs

set_option autoImplicit false
set_option linter.unusedSimpArgs false
namespace Go.Abs
variable {E : Env} {P : Program} {N : Nat} {φ : Phi} {w : World}
theorem notNil_run {v : AVal} {ρ : Operand → Value} {x : Operand} {dst : Option Tmp} {ty : TypeId} {pos : String} {after : Array Edge} {guard : Option (Nat × Bool)} (h : notNil v = true) (hy : den φ v = some (ρ x)) :
    (execOp ρ ⟨dst, .nilCheck x, ty, pos, after, guard⟩).run P w = .ok (.value (ρ x)) w := by
  cases v with
  | b x => simp only [execOp, den_b hy]; rfl
  | i k n => simp only [execOp, den_i hy]; rfl
  | s l n => simp only [execOp, (den_s hy).1]; rfl
  | p0 => cases h
  | p b o => obtain ⟨l, _, e⟩ := den_p hy; simp only [execOp, e]; rfl
  | g b o => simp only [execOp, den_g hy]; rfl
  | sl0 => simp only [execOp, den_sl0 hy]; rfl
  | sl b o l c => obtain ⟨l, _, e⟩ := den_sl hy; simp only [execOp, e]; rfl
  | m0 => simp only [execOp, den_m0 hy]; rfl
  | m b => obtain ⟨l, _, e⟩ := den_m hy; simp only [execOp, e]; rfl
  | f fn a c =>
    obtain ⟨fn', a', c', h1, _, _, e⟩ := den_f hy
    cases fn with
    | method n => cases h
    | yield l =>
      obtain ⟨x, _, h3⟩ := Option.map_eq_some_iff.1 (show (φ l).map (fun x => Fn.yield x.blk) = some fn' from h1)
      subst h3; simp only [execOp, e]; rfl
    | func f => obtain rfl := Option.some.inj h1; simp only [execOp, e]; rfl
    | methodOf a b => obtain rfl := Option.some.inj h1; simp only [execOp, e]; rfl
    | via a b c d => obtain rfl := Option.some.inj h1; simp only [execOp, e]; rfl
  | f0 => cases h
  | ic t v => obtain ⟨x, _, e⟩ := den_ic hy; simp only [execOp, e]; rfl
  | i0 => cases h
  | agg l => obtain ⟨x, _, e⟩ := den_agg hy; simp only [execOp, e]; rfl
  | tup l => obtain ⟨x, _, e⟩ := den_tup hy; simp only [execOp, e]; rfl
theorem cvSl_new {id : Nat} {e : TypeId} {a : AVal} {nx : Nx} (h : cvSl E id e a = some nx) : ∃ o v, nx = .new o v := by
  unfold cvSl at h
  rcases asS_cases a with ⟨l, n, rfl, q⟩ | q
  · rw [q] at h
    obtain ⟨_, _, h⟩ := ob_some h
    obtain ⟨_, h⟩ := chk_some h
    obtain ⟨_, h⟩ := chk_some h
    exact ⟨_, _, (Option.some.inj h).symm⟩
  · rw [q] at h; cases h
theorem convert_run (hT : TysOK P E) {h : Heap} (r : Rel E N φ h.get w) {s d : TypeId} {x : Operand} {id : Nat} {tm : Tm} {nx : Nx} {a : Value} (hv : xConv s d x E h id tm = some nx) (ha : ∀ v, opd x tm = some v → den φ v = some a) :
    NextOK E P N φ h w id nx ((do pure (Next.value (← convert s d a)) : Sem Next).run P w) := by
  obtain ⟨v, h1, h2⟩ := ob_some hv
  obtain ⟨ts, h3, h4⟩ := ob_some h2
  obtain ⟨td, h5, h6⟩ := ob_some h4
  have d1 := ha v h1
  cases hk : dk td.desc with
  | intD k =>
    rw [hk] at h6
    obtain ⟨v', y, rfl, e1, e2⟩ := cvInt_run hT h3 h5 hk (show cvInt k v = some nx from h6) d1
    exact val_ok ⟨y, e1 w, e2⟩
  | strD =>
    rw [hk] at h6
    obtain ⟨v', y, rfl, e1, e2⟩ := cvStr_run hT r h3 h5 hk (show cvStr E h ts v = some nx from h6) d1
    exact val_ok ⟨y, e1, e2⟩
  | sliceD e =>
    rw [hk] at h6
    have h7 : cvSl E id e v = some nx := h6
    obtain ⟨o, u, rfl⟩ := cvSl_new h7
    exact new_ok (cvSl_run hT h3 h5 hk h7 d1)
  | _ => rw [hk] at h6; cases h6
theorem makeSl_new {t : TypeId} {l c : AVal} {id : Nat} {nx : Nx} (h : makeSl E t l c id = some nx) : ∃ o v, nx = .new o v := by
  obtain ⟨_, _, h⟩ := ob_some h
  obtain ⟨_, _, h⟩ := ob_some h
  obtain ⟨_, _, h⟩ := ob_some h
  obtain ⟨_, h⟩ := chk_some h
  obtain ⟨_, _, h⟩ := ob_some h
  obtain ⟨_, _, h⟩ := ob_some h
  obtain ⟨_, h⟩ := chk_some h
  obtain ⟨_, h⟩ := chk_some h
  obtain ⟨_, h⟩ := chk_some h
  obtain ⟨_, _, h⟩ := ob_some h
  exact ⟨_, _, (Option.some.inj h).symm⟩
theorem buildSl_new {t : TypeId} {len id : Nat} {ps : List (Nat × AVal)} {nx : Nx} (h : buildSl E t len ps id = some nx) : ∃ o v, nx = .new o v := by
  obtain ⟨_, _, h⟩ := ob_some h
  obtain ⟨_, _, h⟩ := ob_some h
  obtain ⟨_, _, h⟩ := ob_some h
  obtain ⟨_, h⟩ := chk_some h
  obtain ⟨_, h⟩ := chk_some h
  obtain ⟨_, _, h⟩ := ob_some h
  obtain ⟨_, _, h⟩ := ob_some h
  exact ⟨_, _, (Option.some.inj h).symm⟩
theorem entryV_eff {h : Heap} {t : TypeId} {x k : AVal} {nx : Nx} (hv : entryV E h t x k = some nx) : ∃ v h', nx = .eff v h' := by
  obtain ⟨_, _, h⟩ := ob_some hv
  obtain ⟨_, h⟩ := chk_some h
  obtain ⟨_, _, h⟩ := ob_some h
  obtain ⟨_, _, h⟩ := ob_some h
  obtain ⟨_, _, h⟩ := ob_some h
  obtain ⟨_, _, h⟩ := ob_some h
  obtain ⟨_, _, h⟩ := ob_some h
  exact ⟨_, _, (Option.some.inj h).symm⟩
theorem rangeV_new {h : Heap} {t : TypeId} {x : AVal} {id : Nat} {nx : Nx} (hv : rangeV E h t x id = some nx) : ∃ o v, nx = .new o v := by
  obtain ⟨_, _, h⟩ := ob_some hv
  rcases asM_cases x with ⟨rfl, e⟩ | ⟨b, rfl, e⟩ | e
  · rw [e] at h; exact ⟨_, _, (Option.some.inj h).symm⟩
  · rw [e] at h
    obtain ⟨_, _, h⟩ := ob_some h
    exact ⟨_, _, (Option.some.inj h).symm⟩
  · rw [e] at h; cases h
set_option maxHeartbeats 4000000 in
theorem exec_run (hE : EnvOK E P) {h : Heap} {id : Nat} {tm : Tm} {ρ : Operand → Value} {o : Oper} {nx : Nx} (r : Rel E N φ h.get w) (f : Fresh h.next φ h.get) (hid : φ id = none) (ho : OpdsOK φ tm ρ) (hv : execT o.op E h id tm = some nx) :
    NextOK E P N φ h w id nx ((execOp ρ o).run P w) := by
  have hT := hE.tys
  obtain ⟨dst, op, ty, pos, after, guard⟩ := o
  cases op with
  | move x =>
    obtain ⟨v, h1, h2⟩ := ob_some (show xMove x E h id tm = some nx from hv)
    obtain rfl := Option.some.inj h2
    exact ⟨_, rfl, ho _ _ h1⟩
  | assign x =>
    obtain ⟨v, h1, h2⟩ := ob_some (show xMove x E h id tm = some nx from hv)
    obtain rfl := Option.some.inj h2
    exact ⟨_, rfl, ho _ _ h1⟩
  | pick c a d =>
    obtain ⟨v, h1, h2⟩ := ob_some (show xPick c a d E h id tm = some nx from hv)
    obtain ⟨b, h3, h4⟩ := ob_some h2
    obtain ⟨u, h5, h6⟩ := ob_some h4
    obtain rfl := Option.some.inj h6
    obtain rfl := asB_some h3
    have hc := den_b (ho _ _ h1)
    rw [ife_eq] at h5
    refine ⟨if b then ρ a else ρ d, ?_, ?_⟩
    · show (do pure (.value (if ← asBool (ρ c) then ρ a else ρ d)) : Sem Next).run P w = _
      rw [hc]; rfl
    · cases b with
      | true => exact ho _ _ h5
      | false => exact ho _ _ h5
  | alloc e =>
    obtain ⟨z, h1, h2⟩ := ob_some (show xAlloc e E h id tm = some nx from hv)
    obtain ⟨o, h3, h4⟩ := ob_some h2
    obtain rfl := Option.some.inj h4
    exact new_ok (alloc_run hT h1 h3 hid)
  | box e x =>
    obtain ⟨v, h1, h2⟩ := ob_some (show xBox e x E h id tm = some nx from hv)
    obtain ⟨o, h3, h4⟩ := ob_some h2
    obtain rfl := Option.some.inj h4
    exact new_ok (box_run (ho _ _ h1) h3 hid)
  | build t ps =>
    obtain ⟨ps', h1, h2⟩ := ob_some (show xBuild t ps E h id tm = some nx from hv)
    obtain ⟨v, h3, h4⟩ := ob_some h2
    obtain rfl := Option.some.inj h4
    obtain ⟨y, e1, e2⟩ := buildV_run hT h3 (mapP_den ho h1)
    refine val_ok ⟨y, ?_, e2⟩
    rw [← e1 w]; congr 2; apply Array.ext'; simp
  | buildSlice t n ps =>
    obtain ⟨ps', h1, h2⟩ := ob_some (show xBuildSl t n ps E h id tm = some nx from hv)
    obtain ⟨o, v, rfl⟩ := buildSl_new h2
    have := buildSl_run (w := w) hT h2 (mapP_den ho h1) hid
    refine new_ok (s := Instr.buildSlice t n (ps.map fun (i, x) => (i, ρ x))) ?_
    have e : (ps.map fun (i, x) => (i, ρ x)) = (ps.toList.map fun p => (p.1, ρ p.2)).toArray := by apply Array.ext'; simp
    rw [e]; exact this
  | insert t m k x =>
    obtain ⟨vm, h1, h2⟩ := ob_some (show xInsert t m k x E h id tm = some nx from hv)
    obtain ⟨vk, h3, h4⟩ := ob_some h2
    obtain ⟨vx, h5, h6⟩ := ob_some h4
    obtain ⟨h', h7, h8⟩ := ob_some h6
    obtain rfl := Option.some.inj h8
    exact unit_ok (updV_run hT r f h7 (ho _ _ h1) (ho _ _ h3) (ho _ _ h5))
  | load t a =>
    obtain ⟨va, h1, h2⟩ := ob_some (show xLoad t a E h id tm = some nx from hv)
    obtain ⟨ti, h3, h4⟩ := ob_some h2
    obtain ⟨v, h5, h6⟩ := ob_some h4
    obtain rfl := Option.some.inj h6
    obtain ⟨p, y, e1, e2, e3⟩ := ldVar_run (hT _ _ h3) r (ho _ _ h1) h5
    refine val_ok (s := Instr.loadAt t (ρ a)) ⟨y, ?_, e3⟩
    rw [e1]; exact e2
  | store t a x =>
    obtain ⟨va, h1, h2⟩ := ob_some (show xStore t a x E h id tm = some nx from hv)
    obtain ⟨vx, h3, h4⟩ := ob_some h2
    obtain ⟨ti, h5, h6⟩ := ob_some h4
    obtain ⟨h', h7, h8⟩ := ob_some h6
    obtain rfl := Option.some.inj h8
    obtain ⟨p, w', e1, e2, e3⟩ := stVar_run (hT _ _ h5) r f (ho _ _ h1) (ho _ _ h3) h7
    refine unit_ok (s := Instr.storeAt t (ρ a) (ρ x)) ⟨w', ?_, e3⟩
    rw [e1]; exact e2
  | nilCheck x =>
    obtain ⟨v, h1, h2⟩ := ob_some (show xNil x E h id tm = some nx from hv)
    obtain ⟨h3, h4⟩ := chk_some h2
    obtain rfl := Option.some.inj h4
    exact ⟨_, notNil_run h3 (ho _ _ h1), ho _ _ h1⟩
  | binOp op t x y u =>
    obtain ⟨a, h1, h2⟩ := ob_some (show xBin op t x y u E h id tm = some nx from hv)
    obtain ⟨c, h3, h4⟩ := ob_some h2
    obtain ⟨v, h5, h6⟩ := ob_some h4
    obtain rfl := Option.some.inj h6
    obtain ⟨q, e1, e2⟩ := binV_run hT h5 (ho _ _ h1) (ho _ _ h3)
    exact val_ok ⟨q, e1 w, e2⟩
  | unOp op t x =>
    obtain ⟨a, h1, h2⟩ := ob_some (show xUn op t x E h id tm = some nx from hv)
    obtain ⟨v, h5, h6⟩ := ob_some h2
    obtain rfl := Option.some.inj h6
    obtain ⟨q, e1, e2⟩ := unV_run (P := P) h5 (ho _ _ h1)
    exact val_ok ⟨q, e1 w, e2⟩
  | convert s d x => exact convert_run hT r (show xConv s d x E h id tm = some nx from hv) fun v => ho _ v
  | makeInterface t x =>
    obtain ⟨v, h1, h2⟩ := ob_some (show xMkIf t x E h id tm = some nx from hv)
    obtain ⟨ti, h3, h4⟩ := ob_some h2
    obtain ⟨h5, h6⟩ := chk_some h4
    obtain rfl := Option.some.inj h6
    refine val_ok ⟨.iface t (ρ x), ?_, by simp only [den, ho _ _ h1]⟩
    simp only [Instr.makeInterface, Sem.run_bind, (hT _ _ h3).run_under, Result.andThen]
    cases hd : ti.desc with
    | interface m => rw [hd] at h5; cases h5
    | _ => rfl
  | makeFunc fn a c =>
    obtain ⟨h0, h0'⟩ := chk_some (show xMkFn fn a c E h id tm = some nx from hv)
    obtain ⟨va, h1, h2⟩ := ob_some h0'
    obtain ⟨vc, h3, h4⟩ := ob_some h2
    obtain rfl := Option.some.inj h4
    have hf : denFn φ fn = some fn := by
      cases fn with
      | yield l => cases h0
      | _ => rfl
    refine val_ok ⟨.func fn (a.map ρ) (c.map ρ), rfl, by simp only [den, hf, opds_den' ho h1, opds_den' ho h3]⟩
  | makeMap t x =>
    obtain ⟨h1, h2⟩ := chk_some (show xMkMap t x E h id tm = some nx from hv)
    obtain rfl := Option.some.inj h2
    cases x with
    | none => exact new_ok makeMap_run
    | some x => cases h1
  | makeSlice t l c =>
    obtain ⟨vl, h1, h2⟩ := ob_some (show xMkSl t l c E h id tm = some nx from hv)
    obtain ⟨vc, h3, h4⟩ := ob_some h2
    obtain ⟨o, v, rfl⟩ := makeSl_new h4
    exact new_ok (makeSl_run hT h4 (ho _ _ h1) (ho _ _ h3) hid)
  | slice t x lo hi mx =>
    obtain ⟨vx, h1, h2⟩ := ob_some (show xSlice t x lo hi mx E h id tm = some nx from hv)
    obtain ⟨ti, h3, h4⟩ := ob_some h2
    obtain ⟨vl, h5, h6⟩ := ob_some h4
    obtain ⟨vh, h7, h8⟩ := ob_some h6
    obtain ⟨vm, h9, h10⟩ := ob_some h8
    obtain ⟨v, h11, h12⟩ := ob_some h10
    obtain rfl := Option.some.inj h12
    obtain ⟨q, e1, e2⟩ := sliceV_run hT h3 h11 (ho _ _ h1) (oopd_den ho h5) (oopd_den ho h7) (oopd_den ho h9)
    exact val_ok ⟨q, e1 w, e2⟩
  | fieldAddr t x n =>
    obtain ⟨vx, h1, h2⟩ := ob_some (show xFieldAd t x n E h id tm = some nx from hv)
    obtain ⟨v, h3, h4⟩ := ob_some h2
    obtain rfl := Option.some.inj h4
    obtain ⟨q, e1, e2⟩ := fieldAd_run hT h3 (ho _ _ h1)
    exact val_ok ⟨q, e1 w, e2⟩
  | field t x n =>
    obtain ⟨vx, h1, h2⟩ := ob_some (show xField t x n E h id tm = some nx from hv)
    obtain ⟨v, h3, h4⟩ := ob_some h2
    obtain rfl := Option.some.inj h4
    obtain ⟨q, e1, e2⟩ := fieldV_run hT h3 (ho _ _ h1)
    exact val_ok ⟨q, e1 w, e2⟩
  | indexAddr t x i =>
    obtain ⟨vx, h1, h2⟩ := ob_some (show xIndexAd t x i E h id tm = some nx from hv)
    obtain ⟨vi, h3, h4⟩ := ob_some h2
    obtain ⟨v, h5, h6⟩ := ob_some h4
    obtain rfl := Option.some.inj h6
    obtain ⟨q, e1, e2⟩ := indexAd_run hT h5 (ho _ _ h1) (ho _ _ h3)
    exact val_ok ⟨q, e1 w, e2⟩
  | index t x i =>
    obtain ⟨vx, h1, h2⟩ := ob_some (show xIndex t x i E h id tm = some nx from hv)
    obtain ⟨vi, h3, h4⟩ := ob_some h2
    obtain ⟨v, h5, h6⟩ := ob_some h4
    obtain rfl := Option.some.inj h6
    obtain ⟨q, e1, e2⟩ := indexV_run hT h5 (ho _ _ h1) (ho _ _ h3)
    exact val_ok ⟨q, e1 w, e2⟩
  | lookup t x k ok =>
    obtain ⟨vx, h1, h2⟩ := ob_some (show xLookup t x k ok E h id tm = some nx from hv)
    obtain ⟨vk, h3, h4⟩ := ob_some h2
    obtain ⟨v, h5, h6⟩ := ob_some h4
    obtain rfl := Option.some.inj h6
    exact val_ok (lookupV_run hT r h5 (ho _ _ h1) (ho _ _ h3))
  | mapUpdate t m k x =>
    obtain ⟨vm, h1, h2⟩ := ob_some (show xInsert t m k x E h id tm = some nx from hv)
    obtain ⟨vk, h3, h4⟩ := ob_some h2
    obtain ⟨vx, h5, h6⟩ := ob_some h4
    obtain ⟨h', h7, h8⟩ := ob_some h6
    obtain rfl := Option.some.inj h8
    exact unit_ok (updV_run hT r f h7 (ho _ _ h1) (ho _ _ h3) (ho _ _ h5))
  | mapEntry t m k =>
    obtain ⟨vm, h1, h2⟩ := ob_some (show xEntry t m k E h id tm = some nx from hv)
    obtain ⟨vk, h3, h4⟩ := ob_some h2
    obtain ⟨v, h', rfl⟩ := entryV_eff h4
    exact eff_ok (entryV_run hT r f h4 (ho _ _ h1) (ho _ _ h3))
  | entryStore t m s x =>
    obtain ⟨vm, h1, h2⟩ := ob_some (show xEntryS t m s x E h id tm = some nx from hv)
    obtain ⟨vs, h3, h4⟩ := ob_some h2
    obtain ⟨vx, h5, h6⟩ := ob_some h4
    obtain ⟨h', h7, h8⟩ := ob_some h6
    obtain rfl := Option.some.inj h8
    exact unit_ok (entryS_run r f h7 (ho _ _ h1) (ho _ _ h3) (ho _ _ h5))
  | range t x =>
    obtain ⟨vx, h1, h2⟩ := ob_some (show xRange t x E h id tm = some nx from hv)
    obtain ⟨o, v, rfl⟩ := rangeV_new h2
    exact new_ok (rangeV_run hT r h2 (ho _ _ h1) hid)
  | next x isS =>
    obtain ⟨vx, h1, h2⟩ := ob_some (show xNext x isS E h id tm = some nx from hv)
    cases isS with
    | true => cases h2
    | false =>
      rcases nextV_run (P := P) (ty := ty) r f (show nextV h vx = some nx from h2) (ho _ _ h1) with ⟨v, y, rfl, e1, e2⟩ | ⟨v, h', rfl, e⟩
      · exact val_ok ⟨y, e1, e2⟩
      · exact eff_ok e
  | entry x =>
    obtain ⟨vx, h1, h2⟩ := ob_some (show xEnt x E h id tm = some nx from hv)
    obtain ⟨v, h3, h4⟩ := ob_some h2
    obtain rfl := Option.some.inj h4
    exact val_ok (entV_run r h3 (ho _ _ h1))
  | extract x i =>
    obtain ⟨vx, h1, h2⟩ := ob_some (show xExtract x i E h id tm = some nx from hv)
    obtain ⟨l, h3, h4⟩ := ob_some h2
    obtain ⟨v, h5, h6⟩ := ob_some h4
    obtain rfl := Option.some.inj h6
    obtain rfl := asTup_some h3
    obtain ⟨ys, d1, d2⟩ := den_tup (ho _ _ h1)
    rw [nth_eq] at h5
    obtain ⟨y, d3, d4⟩ := denL_get d1 h5
    refine val_ok ⟨y, ?_, d3⟩
    show (Instr.extract (ρ x) i).run P w = _
    rw [d2]
    simp only [Instr.extract, List.getElem?_toArray, d4, Sem.run_pure]
  | call c =>
    obtain ⟨callee, args, ts⟩ := c
    cases callee with
    | value fo =>
      obtain ⟨vf, h1, h2⟩ := ob_some (show xCallV args ts fo E h id tm = some nx from hv)
      obtain ⟨vs, h3, h4⟩ := ob_some h2
      obtain ⟨d, e1, e2⟩ := applyV_run (w := w) (N := N) (h := h) (id := id) hE h4 (ho _ _ h1) (opds_den' ho h3)
      show NextOK E P N φ h w id nx ((do let d ← Deferred.ofValue (ρ fo) (args.map ρ); invoke d.target d.args : Sem Next).run P w)
      rw [Array.toArray_toList] at e1
      simp only [Sem.run_bind, e1 w, Result.andThen]
      exact e2
    | invoke ro name =>
      obtain ⟨vr, h1, h2⟩ := ob_some (show xCallI args ts ro name E h id tm = some nx from hv)
      obtain ⟨vs, h3, h4⟩ := ob_some h2
      have e2 := invokeV_run (w := w) (N := N) (h := h) (id := id) hE h4 (ho _ _ h1) (opds_den' ho h3)
      show NextOK E P N φ h w id nx ((invoke (.fn (.method name) #[]) (#[ρ ro] ++ args.map ρ)).run P w)
      have q1 : (#[ρ ro] ++ args.map ρ)[0]? = some (ρ ro) := by
        rw [Array.getElem?_append_left (by show 0 < 1; omega)]; rfl
      have q2 : (#[ρ ro] ++ args.map ρ).extract 1 (#[ρ ro] ++ args.map ρ).size = args.map ρ := by
        apply Array.ext'
        rw [Array.toList_extract]
        simp only [Array.toList_append, Array.size_append, List.extract_eq_take_drop, Array.size_map]
        show ((args.map ρ).toList.take (1 + args.size - 1)) = _
        rw [List.take_of_length_le (by simp)]
      simp only [invoke, q1, q2]
      rw [Array.toArray_toList] at e2
      exact e2
    | builtin b =>
      obtain ⟨vs, h3, h4⟩ := ob_some (show xCallB args ts b E h id tm = some nx from hv)
      have e2 := builtinV_run (w := w) (N := N) (h := h) (id := id) (ty := ty) (cs := args.map fun | .const _ => true | _ => false) hE r f h4 (opds_den' ho h3)
      rw [Array.toArray_toList] at e2
      exact e2
  | _ => cases hv
end Go.Abs
