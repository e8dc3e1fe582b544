/- A part of a proof about Go functions of this program: an evaluator with a memory of its own, and the proof that what it finds the model finds (C30, C31, C32, C33, C34). No conditions beyond those that each theorem names. -/
import Derived.Test.YtohmkigjifhddaaGreatDoorAbsai
set_option linter.all false
set_option autoImplicit false
set_option linter.unusedSimpArgs false
namespace Go.Abs
variable {E : Env} {P : Program} {N : Nat} {φ φ' : Phi} {w w' : World}
/-! which operations look at the memory -/
theorem kdConv_dst {s d : TypeId} {x : Operand} {td : Ty} (hd : E.ty d = some td) {ts : Ty} (hs : E.ty s = some ts) : kdConv E s d x = kdC ts.desc td.desc := by
  unfold kdConv; rw [hs, hd]
theorem exec_pure {op : Op} (h : kdT E op = .pure) (h1 h2 : Heap) (id1 id2 : Nat) (tm : Tm) : execT op E h1 id1 tm = execT op E h2 id2 tm := by
  cases op with
  | convert s d x =>
    have h : kdConv E s d x = .pure := h
    show xConv s d x E h1 id1 tm = xConv s d x E h2 id2 tm
    unfold xConv
    cases hx : opd x tm with
    | none => rfl
    | some a =>
      cases hs : E.ty s with
      | none => rfl
      | some ts =>
        cases hd : E.ty d with
        | none => rfl
        | some td =>
          rw [kdConv_dst hd hs] at h
          unfold kdC at h
          show DK.rec (motive := fun _ => Option Nx) none none (fun k => cvInt k a) (cvStr E h1 ts a) (fun _ => none) (fun e => cvSl E id1 e a) (fun _ _ => none) (fun _ _ => none) (fun _ => none) none none (dk td.desc) = DK.rec (motive := fun _ => Option Nx) none none (fun k => cvInt k a) (cvStr E h2 ts a) (fun _ => none) (fun e => cvSl E id2 e a) (fun _ _ => none) (fun _ _ => none) (fun _ => none) none none (dk td.desc)
          cases hk : dk td.desc with
          | strD =>
            rw [hk] at h
            show cvStr E h1 ts a = cvStr E h2 ts a
            unfold cvStr
            cases he : elemOfD (dk ts.desc) with
            | none => rfl
            | some e => simp only [he] at h; cases h
          | sliceD e => rw [hk] at h; cases h
          | _ => rfl
  | call c =>
    obtain ⟨callee, args, ts⟩ := c
    cases callee with
    | value f => cases h
    | invoke r n => cases h
    | builtin b => cases b <;> first | rfl | cases h
  | _ => first | rfl | cases h
theorem exec_new {op : Op} (h : kdT E op = .new) (h1 h2 : Heap) (id : Nat) (tm : Tm) : execT op E h1 id tm = execT op E h2 id tm := by
  cases op with
  | convert s d x =>
    have h : kdConv E s d x = .new := h
    show xConv s d x E h1 id tm = xConv s d x E h2 id tm
    unfold xConv
    cases hx : opd x tm with
    | none => rfl
    | some a =>
      cases hs : E.ty s with
      | none => rfl
      | some ts =>
        cases hd : E.ty d with
        | none => rfl
        | some td =>
          rw [kdConv_dst hd hs] at h
          unfold kdC at h
          show DK.rec (motive := fun _ => Option Nx) none none (fun k => cvInt k a) (cvStr E h1 ts a) (fun _ => none) (fun e => cvSl E id e a) (fun _ _ => none) (fun _ _ => none) (fun _ => none) none none (dk td.desc) = DK.rec (motive := fun _ => Option Nx) none none (fun k => cvInt k a) (cvStr E h2 ts a) (fun _ => none) (fun e => cvSl E id e a) (fun _ _ => none) (fun _ _ => none) (fun _ => none) none none (dk td.desc)
          cases hk : dk td.desc with
          | strD =>
            rw [hk] at h
            cases he : elemOfD (dk ts.desc) with
            | none => simp only [he] at h; cases h
            | some e => simp only [he] at h; cases h
          | _ => rfl
  | call c =>
    obtain ⟨callee, args, ts⟩ := c
    cases callee with
    | value f => cases h
    | invoke r n => cases h
    | builtin b => cases b <;> first | rfl | cases h
  | _ => first | rfl | cases h
end Go.Abs

set_option autoImplicit false
set_option linter.unusedSimpArgs false
namespace Go.Abs
variable {E : Env} {P : Program} {N : Nat} {φ φ' : Phi} {w w' : World}
section
variable {r : Rec} {c : FC} {all : List Oper} {bs : List Nat} {base : Nat}
theorem isEffAt_some {i : Nat} {o : Oper} (h : all[i]? = some o) : isEffAt E all i = isEff (kd E o) := by
  unfold isEffAt; rw [nth_eq, h]
theorem cleanAt_spec {g : Tr AObj} : ∀ {l : List Nat}, cleanAt base g l = true → ∀ j ∈ l, g.get (base + j) = none
  | [], _, j, hj => by cases hj
  | a :: l, h, j, hj => by
    have h : Option.rec (motive := fun _ => Bool) (cleanAt base g l) (fun _ => false) (g.get (base + a)) = true := h
    cases hg : g.get (base + a) with
    | some x => rw [hg] at h; cases h
    | none =>
      rw [hg] at h
      rcases List.mem_cons.1 hj with rfl | hj
      · exact hg
      · exact cleanAt_spec h j hj
/-- the canonical run, place by place -/
theorem dr_trace : ∀ {ord : List Nat} {q0 qn : Dr}, drOps E r c all bs base ord q0 = some qn → ∃ Q : Nat → Dr, Q 0 = q0 ∧ Q ord.length = qn ∧
    ∀ (p i : Nat), ord[p]? = some i → drOp E r c all bs base i (Q p) = some (Q (p + 1)) ∧ (isEffAt E all i = true → ∀ q j, p < q → ord[q]? = some j → (Q (p + 1)).s.h.get (base + j) = none)
  | [], q0, qn, h => by
    obtain rfl := Option.some.inj (show some q0 = some qn from h)
    exact ⟨fun _ => q0, rfl, rfl, fun p i e => by simp at e⟩
  | i :: ord, q0, qn, h => by
    obtain ⟨q1, h1, h2'⟩ := ob_some (show ob (drOp E r c all bs base i q0) (fun q' => chk (ife (isEffAt E all i) (cleanAt base q'.s.h.bl ord) true) (drOps E r c all bs base ord q')) = some qn from h)
    obtain ⟨hcl, h2⟩ := chk_some h2'
    obtain ⟨Q, e1, e2, e3⟩ := dr_trace h2
    refine ⟨fun p => match p with | 0 => q0 | p + 1 => Q p, rfl, e2, fun p j e => ?_⟩
    cases p with
    | zero =>
      rw [List.getElem?_cons_zero] at e; obtain rfl := Option.some.inj e
      refine ⟨?_, fun he q j hq hj => ?_⟩
      · show drOp E r c all bs base i q0 = some (Q 0)
        rw [e1]; exact h1
      · show (Q 0).s.h.get (base + j) = none
        rw [e1]
        rw [he] at hcl
        cases q with
        | zero => omega
        | succ q =>
          rw [List.getElem?_cons_succ] at hj
          exact cleanAt_spec (show cleanAt base q1.s.h.bl ord = true from hcl) j (List.mem_of_getElem? hj)
    | succ p =>
      rw [List.getElem?_cons_succ] at e
      obtain ⟨q1, q2⟩ := e3 p j e
      refine ⟨q1, fun he q j' hq hj => ?_⟩
      cases q with
      | zero => omega
      | succ q =>
        rw [List.getElem?_cons_succ] at hj
        exact q2 he q j' (by omega) hj
inductive DrStep (E : Env) (r : Rec) (c : FC) (all : List Oper) (base i : Nat) (o : Oper) (m : Nat) (q q' : Dr) : Prop
  | off (hw : wants all q.s.tm o.guard = some false) (hp : putD c q.s o.dst undefA = some q'.s) (he : isEff (kd E o) = false) (h1 : q'.past = q.past)
  | offE (hw : wants all q.s.tm o.guard = some false) (hp : putD c q.s o.dst undefA = some q'.s) (he : kd E o = .eff) (h1 : q'.past = (i, q.s.h) :: q.past)
  | pure (v : AVal) (hw : wants all q.s.tm o.guard = some true) (hk : kd E o = .pure) (hx : execT o.op E q.s.h q.s.h.next (named o q.s.tm) = some (.val v)) (hp : putD c q.s o.dst v = some q'.s) (h1 : q'.past = q.past)
  | read (v : AVal) (hw : wants all q.s.tm o.guard = some true) (hk : kd E o = .read) (hx : execT o.op E q.s.h q.s.h.next (named o q.s.tm) = some (.val v)) (hr : readsSame E (named o q.s.tm) o.op v m q.past = true)
      (hp : putD c q.s o.dst v = some q'.s) (h1 : q'.past = q.past)
  | new (ob : AObj) (v : AVal) (hw : wants all q.s.tm o.guard = some true) (hk : kd E o = .new) (hx : execT o.op E q.s.h (base + i) (named o q.s.tm) = some (.new ob v)) (hp : putD c (stHeap (q.s.h.set (base + i) ob) q.s) o.dst v = some q'.s) (h1 : q'.past = q.past)
  | eff (x : Nx) (hw : wants all q.s.tm o.guard = some true) (hk : kd E o = .eff) (hx : execS c o.op E (named o q.s.tm) q.s.h = some x) (hp : doNx x r c q.s o.dst = some q'.s) (h1 : q'.past = (i, q.s.h) :: q.past)
theorem asVal_some {x : Nx} {v : AVal} (h : asVal x = some v) : x = .val v := by
  cases x with
  | val u => obtain rfl := Option.some.inj h; rfl
  | _ => cases h
theorem asNew_some {x : Nx} {p : AObj × AVal} (h : asNew x = some p) : x = .new p.1 p.2 := by
  cases x with
  | new o u => obtain rfl := Option.some.inj h; rfl
  | _ => cases h
theorem drOp_step {i : Nat} {q q' : Dr} (h : drOp E r c all bs base i q = some q') : ∃ o m, all[i]? = some o ∧ bs[i]? = some m ∧ DrStep E r c all base i o m q q' := by
  obtain ⟨o, h1, h2⟩ := ob_some h
  obtain ⟨m, h3, h4⟩ := ob_some h2
  obtain ⟨b, h5, h6⟩ := ob_some h4
  rw [nth_eq] at h1 h3
  refine ⟨o, m, h1, h3, ?_⟩
  cases b with
  | false =>
    obtain ⟨p, h7, h8⟩ := ob_some (show ob (dVal c o q undefA) (fun p => some (ife (isEff (kd E o)) ⟨p.s, (i, q.s.h) :: q.past⟩ p)) = some q' from h6)
    obtain ⟨s, h9, h10⟩ := ob_some (show ob (putD c q.s o.dst undefA) (fun s => some (Dr.mk s q.past)) = some p from h7)
    obtain rfl := Option.some.inj h10
    cases hk : kd E o with
    | eff => rw [hk] at h8; obtain rfl := Option.some.inj h8; exact .offE h5 h9 hk rfl
    | pure => rw [hk] at h8; obtain rfl := Option.some.inj h8; exact .off h5 h9 (by rw [hk]; rfl) rfl
    | read => rw [hk] at h8; obtain rfl := Option.some.inj h8; exact .off h5 h9 (by rw [hk]; rfl) rfl
    | new => rw [hk] at h8; obtain rfl := Option.some.inj h8; exact .off h5 h9 (by rw [hk]; rfl) rfl
  | true =>
    cases hk : kd E o with
    | pure =>
      rw [hk] at h6
      obtain ⟨v, h7, h8⟩ := ob_some (show ob (ob (execT o.op E q.s.h q.s.h.next (named o q.s.tm)) asVal) (fun v => dVal c o q v) = some q' from h6)
      obtain ⟨x, h9, h10⟩ := ob_some h7
      obtain rfl := asVal_some h10
      obtain ⟨s, h11, h12⟩ := ob_some (show ob (putD c q.s o.dst v) (fun s => some (Dr.mk s q.past)) = some q' from h8)
      obtain rfl := Option.some.inj h12
      exact .pure v h5 hk h9 h11 rfl
    | read =>
      rw [hk] at h6
      obtain ⟨v, h7, h8⟩ := ob_some (show ob (ob (execT o.op E q.s.h q.s.h.next (named o q.s.tm)) asVal) (fun v => chk (readsSame E (named o q.s.tm) o.op v m q.past) (dVal c o q v)) = some q' from h6)
      obtain ⟨x, h9, h10⟩ := ob_some h7
      obtain rfl := asVal_some h10
      obtain ⟨h13, h14⟩ := chk_some h8
      obtain ⟨s, h11, h12⟩ := ob_some (show ob (putD c q.s o.dst v) (fun s => some (Dr.mk s q.past)) = some q' from h14)
      obtain rfl := Option.some.inj h12
      exact .read v h5 hk h9 h13 h11 rfl
    | new =>
      rw [hk] at h6
      obtain ⟨x, h7, h8⟩ := ob_some (show ob (execT o.op E q.s.h (base + i) (named o q.s.tm)) (fun x => ob (asNew x) fun p => ob (putD c (stHeap (q.s.h.set (base + i) p.1) q.s) o.dst p.2) fun s => some (Dr.mk s q.past)) = some q' from h6)
      obtain ⟨p, h9, h10⟩ := ob_some h8
      obtain rfl := asNew_some h9
      obtain ⟨s, h11, h12⟩ := ob_some h10
      obtain rfl := Option.some.inj h12
      exact .new p.1 p.2 h5 hk h7 h11 rfl
    | eff =>
      rw [hk] at h6
      obtain ⟨x, h7, h8⟩ := ob_some (show ob (execS c o.op E (named o q.s.tm) q.s.h) (fun x => ob (doNx x r c q.s o.dst) fun s => some (Dr.mk s ((i, q.s.h) :: q.past))) = some q' from h6)
      obtain ⟨s, h9, h10⟩ := ob_some h8
      obtain rfl := Option.some.inj h10
      exact .eff x h5 hk h7 h9 rfl
end
end Go.Abs

set_option autoImplicit false
set_option linter.unusedSimpArgs false
namespace Go.Abs
variable {E : Env}
theorem bit_zero (k : Nat) : bit 0 k = false := by rw [bit_eq, Nat.zero_testBit]
theorem bit_lor (m n k : Nat) : bit (Nat.lor m n) k = (bit m k || bit n k) := by
  rw [bit_eq, bit_eq, bit_eq]; exact Nat.testBit_or ..
theorem bit_set (m j k : Nat) : bit (setBit m j) k = (bit m k || decide (j = k)) := by
  unfold setBit
  rw [bit_lor]
  congr 1
  rw [bit_eq]; exact Nat.testBit_two_pow
/-- of a mask: where each of its bits comes from -/
def FromEdges (acc : List Nat) (l : List Edge) (m : Nat) : Prop := ∀ j, bit m j = true → ∃ e ∈ l, bindsE e = true ∧ ∃ b, acc[e.on]? = some b ∧ (j = e.on ∨ bit b j = true)
theorem edgesL_from {acc : List Nat} {i : Nat} : ∀ {l : List Edge} {m : Nat}, edgesL acc i l = some m → FromEdges acc l m ∧ ∀ e ∈ l, bindsE e = true → e.on < i ∧ bit m e.on = true
  | [], m, h => by
    obtain rfl := Option.some.inj (show some 0 = some m from h)
    exact ⟨fun j hj => (by rw [bit_zero] at hj; cases hj), fun e he => by cases he⟩
  | e :: l, m, h => by
    obtain ⟨m1, h1, h2⟩ := ob_some (show ob (edgesL acc i l) (fun m => ife (bindsE e) (chk (lt e.on i) (ob (nth acc e.on) fun b => some (Nat.lor (setBit m e.on) b))) (some m)) = some m from h)
    obtain ⟨i1, i2⟩ := edgesL_from h1
    rw [ife_eq] at h2
    split at h2
    · next hb =>
      obtain ⟨h3, h4⟩ := chk_some h2
      obtain ⟨b, h5, h6⟩ := ob_some h4
      obtain rfl := Option.some.inj h6
      rw [nth_eq] at h5
      constructor
      · intro j hj
        rw [bit_lor, bit_set] at hj
        cases h7 : bit m1 j with
        | true =>
          obtain ⟨e', he', r⟩ := i1 j h7
          exact ⟨e', List.mem_cons_of_mem _ he', r⟩
        | false =>
          rw [h7, Bool.false_or] at hj
          refine ⟨e, List.mem_cons_self .., hb, b, h5, ?_⟩
          rcases Bool.or_eq_true_iff.1 hj with hd | hd
          · exact .inl (of_decide_eq_true hd).symm
          · exact .inr hd
      · intro e' he' hb'
        rcases List.mem_cons.1 he' with rfl | he'
        · refine ⟨lt_true h3, ?_⟩
          rw [bit_lor, bit_set]; simp
        · obtain ⟨q1, q2⟩ := i2 e' he' hb'
          refine ⟨q1, ?_⟩
          rw [bit_lor, bit_set, q2]; simp
    · next hb =>
      obtain rfl := Option.some.inj h2
      constructor
      · intro j hj
        obtain ⟨e', he', r⟩ := i1 j hj
        exact ⟨e', List.mem_cons_of_mem _ he', r⟩
      · intro e' he' hb'
        rcases List.mem_cons.1 he' with rfl | he'
        · exact absurd hb' hb
        · exact i2 e' he' hb'
/-- the masks of a region: each from its edges, by those ahead of it -/
structure Masks (l : List Oper) (bs : List Nat) : Prop where
  len : bs.length = l.length
  spec : ∀ (i : Nat) (o : Oper) (m : Nat), l[i]? = some o → bs[i]? = some m → FromEdges bs o.after.toList m ∧ ∀ e ∈ o.after.toList, bindsE e = true → e.on < i ∧ bit m e.on = true
theorem beforeL_masks : ∀ {rest pre : List Oper} {acc bs : List Nat}, Masks pre acc → beforeL rest acc pre.length = some bs → Masks (pre ++ rest) bs
  | [], pre, acc, bs, M, h => by
    obtain rfl := Option.some.inj (show some acc = some bs from h)
    rwa [List.append_nil]
  | o :: rest, pre, acc, bs, M, h => by
    obtain ⟨m, h1, h2⟩ := ob_some (show ob (edgesL acc pre.length o.after.toList) (fun m => beforeL rest (acc ++ [m]) (pre.length + 1)) = some bs from h)
    obtain ⟨e1, e2⟩ := edgesL_from h1
    have up : ∀ {l : List Edge} {k : Nat}, FromEdges acc l k → FromEdges (acc ++ [m]) l k := fun hf j hj => by
      obtain ⟨e, he, hb, b, q1, q2⟩ := hf j hj
      exact ⟨e, he, hb, b, by rw [List.getElem?_append_left (List.getElem?_eq_some_iff.1 q1).1]; exact q1, q2⟩
    have M' : Masks (pre ++ [o]) (acc ++ [m]) := by
      refine ⟨by simp [M.len], fun i o' m' ho hm => ?_⟩
      by_cases hi : i < pre.length
      · rw [List.getElem?_append_left hi] at ho
        rw [List.getElem?_append_left (by rw [M.len]; exact hi)] at hm
        obtain ⟨q1, q2⟩ := M.spec i o' m' ho hm
        exact ⟨up q1, q2⟩
      · have hlt := (List.getElem?_eq_some_iff.1 ho).1
        simp at hlt
        obtain rfl : i = pre.length := by omega
        rw [List.getElem?_append_right (Nat.le_refl _), Nat.sub_self] at ho
        rw [List.getElem?_append_right (by rw [M.len]; exact Nat.le_refl _), M.len, Nat.sub_self] at hm
        obtain rfl := Option.some.inj ho
        obtain rfl := Option.some.inj hm
        exact ⟨up e1, e2⟩
    have := beforeL_masks (rest := rest) M' (by rw [List.length_append]; exact h2)
    rwa [List.append_assoc] at this
end Go.Abs

set_option autoImplicit false
set_option linter.unusedSimpArgs false
namespace Go.Abs
variable {E : Env}
/-- a set that is closed under the edges is closed under the masks -/
theorem Masks.closed {l : List Oper} {bs : List Nat} (M : Masks l bs) {S : Nat → Prop} (hS : ∀ (i : Nat) (o : Oper), S i → l[i]? = some o → ∀ e ∈ o.after.toList, bindsE e = true → S e.on) :
    ∀ (n i : Nat), i < n → S i → ∀ m, bs[i]? = some m → ∀ j, bit m j = true → S j
  | 0, i, h, _, _, _, _, _ => absurd h (Nat.not_lt_zero i)
  | n + 1, i, h, hi, m, hm, j, hj => by
    have hlt : i < l.length := by rw [← M.len]; exact (List.getElem?_eq_some_iff.1 hm).1
    obtain ⟨f1, f2⟩ := M.spec i l[i] m (List.getElem?_eq_getElem hlt) hm
    obtain ⟨e, he, hb, b, q1, q2⟩ := f1 j hj
    have hon := hS i l[i] hi (List.getElem?_eq_getElem hlt) e he hb
    rcases q2 with rfl | q2
    · exact hon
    · exact Masks.closed M hS n e.on (by have := (f2 e he hb).1; omega) hon b q1 j q2
/-- what the canonical order keeps -/
structure OrdAt (E : Env) (all : List Oper) (bs : List Nat) (pre : List Nat) (i : Nat) : Prop where
  new : i ∉ pre
  mask : ∃ o m, all[i]? = some o ∧ bs[i]? = some m ∧ (∀ j, bit m j = true → j ∈ pre) ∧ (isEff (kd E o) = true → ∀ j ∈ pre, bit m j = true)
theorem ordOK_spec {all : List Oper} {bs : List Nat} : ∀ {l pre : List Nat} {done : Nat}, ordOK E all bs l done = true → (∀ j, bit done j = true ↔ j ∈ pre) →
    (∀ (p i : Nat), l[p]? = some i → OrdAt E all bs (pre ++ l.take p) i) ∧ ∀ j, j ∈ pre ++ l ↔ j < all.length
  | [], pre, done, h, hd => by
    have h : Nat.beq done (2 ^ (lenL all) - 1) = true := h
    refine ⟨fun p i e => by simp at e, fun j => ?_⟩
    rw [List.append_nil, ← hd, beq_true h, lenL_eq, bit_eq, Nat.testBit_two_pow_sub_one]
    exact decide_eq_true_iff
  | i :: l, pre, done, h, hd => by
    have h : Option.rec (motive := fun _ => Bool) false (fun o => Option.rec (motive := fun _ => Bool) false (fun m =>
      ife (bit done i) false (ife (ife (isEff (kd E o)) (Nat.beq m done) (Nat.beq (Nat.lor m done) done)) (ordOK E all bs l (setBit done i)) false)) (nth bs i)) (nth all i) = true := h
    obtain ⟨o, h1, h2⟩ := opt_rec_true h
    obtain ⟨m, h3, h4⟩ := opt_rec_true h2
    rw [nth_eq] at h1 h3
    rw [ife_eq] at h4
    split at h4
    · cases h4
    · next hnb =>
      obtain ⟨h5, h6⟩ := ife_and h4
      have hd' : ∀ j, bit (setBit done i) j = true ↔ j ∈ pre ++ [i] := fun j => by
        rw [bit_set, Bool.or_eq_true_iff, hd, List.mem_append, List.mem_singleton, decide_eq_true_iff]
        exact ⟨fun h => h.imp id Eq.symm, fun h => h.imp id Eq.symm⟩
      obtain ⟨i1, i2⟩ := ordOK_spec (pre := pre ++ [i]) h6 hd'
      refine ⟨fun p k e => ?_, fun j => by rw [← i2 j, List.append_assoc]; rfl⟩
      cases p with
      | zero =>
        rw [List.getElem?_cons_zero] at e; obtain rfl := Option.some.inj e
        rw [List.take_zero, List.append_nil]
        refine ⟨fun hp => hnb ((hd _).2 hp), o, m, h1, h3, ?_, ?_⟩
        · intro j hj
          rw [← hd]
          rw [ife_eq] at h5
          split at h5
          · rw [← beq_true h5]; exact hj
          · rw [← beq_true h5, bit_lor, hj]; rfl
        · intro he j hp
          rw [he] at h5
          have h5 : Nat.beq m done = true := h5
          rw [beq_true h5, hd]; exact hp
      | succ p =>
        rw [List.getElem?_cons_succ] at e
        have := i1 p k e
        rwa [List.append_assoc] at this
/-- orders of two operations -/
theorem ordered_spec {bs : List Nat} {i j : Nat} (h : ordered bs i j = true) (hij : i < j) : ∃ m, bs[j]? = some m ∧ bit m i = true := by
  unfold ordered at h
  rw [ife_eq, if_pos (show lt i j = true from Nat.ble_eq_true_of_le hij)] at h
  obtain ⟨m, h1, h2⟩ := opt_rec_true h
  rw [nth_eq] at h1
  exact ⟨m, h1, h2⟩
theorem ordered_spec' {bs : List Nat} {i j : Nat} (h : ordered bs i j = true) (hij : j < i) : ∃ m, bs[i]? = some m ∧ bit m j = true := by
  unfold ordered at h
  rw [ife_eq, if_neg (fun q => by have := lt_true q; omega), ife_eq, if_pos (show lt j i = true from Nat.ble_eq_true_of_le hij)] at h
  obtain ⟨m, h1, h2⟩ := opt_rec_true h
  rw [nth_eq] at h1
  exact ⟨m, h1, h2⟩
theorem allL_get {α : Type} {p : Nat → α → Bool} : ∀ {l : List α} {k : Nat}, allL p l k = true → ∀ (i : Nat) (x : α), l[i]? = some x → p (k + i) x = true
  | [], _, _, i, x, e => by simp at e
  | a :: l, k, h, i, x, e => by
    obtain ⟨h1, h2⟩ := ife_and (show ife (p k a) (allL p l (k + 1)) false = true from h)
    cases i with
    | zero => rw [List.getElem?_cons_zero] at e; obtain rfl := Option.some.inj e; exact h1
    | succ i => rw [List.getElem?_cons_succ] at e; rw [show k + (i + 1) = k + 1 + i from by omega]; exact allL_get h2 i x e
theorem lists_iff (t : Nat) : ∀ l : List Nat, lists t l = true ↔ t ∈ l
  | [] => by simp [lists]
  | a :: l => by
    show ife (Nat.beq a t) true (lists t l) = true ↔ _
    rw [ife_eq, List.mem_cons, ← lists_iff t l]
    split
    · next h => simp [beq_true h]
    · next h =>
      have : t ≠ a := fun e => h (by rw [e]; exact Nat.beq_refl a)
      simp [this]
end Go.Abs

set_option autoImplicit false
set_option linter.unusedSimpArgs false
namespace Go.Abs
variable {E : Env}
structure Plan (E : Env) (l : List Oper) (bs ord : List Nat) : Prop where
  masks : Masks l bs
  tmps : ∀ (i j : Nat) (o o' : Oper) (d : Nat), l[i]? = some o → l[j]? = some o' → o.dst = some d → d ∈ namesOf o' → ordered bs i j = true
  effs : ∀ (i j : Nat) (o o' : Oper), l[i]? = some o → l[j]? = some o' → isEff (kd E o) = true → isEff (kd E o') = true → ordered bs i j = true
  guard : ∀ (i : Nat) (o : Oper) (g : Nat × Bool), l[i]? = some o → o.guard = some g → g.1 < i ∧ (∃ m, bs[i]? = some m ∧ bit m g.1 = true) ∧ ∃ og d, l[g.1]? = some og ∧ og.dst = some d ∧ ∀ (j : Nat) (o' : Oper), l[j]? = some o' → o'.dst = some d → j = g.1
  at' : ∀ (p i : Nat), ord[p]? = some i → OrdAt E l bs (ord.take p) i
  all : ∀ j, j ∈ ord ↔ j < l.length
  topo : topoOK l = true
theorem planL_spec {l : List Oper} {p : List Nat × List Nat} (h : planL E l = some p) : Plan E l p.1 p.2 := by
  obtain ⟨bs, h1, h2⟩ := ob_some h
  obtain ⟨h3, h4⟩ := chk_some h2
  obtain ⟨h5, h6⟩ := chk_some h4
  obtain ⟨h7, h8'⟩ := chk_some h6
  obtain ⟨h12, h8⟩ := chk_some h8'
  obtain ⟨ord, _, h9⟩ := ob_some h8
  obtain ⟨h10, h11⟩ := chk_some h9
  obtain rfl := Option.some.inj h11
  have M : Masks l bs := by
    have := beforeL_masks (rest := l) (pre := []) (acc := []) ⟨rfl, fun i o m e => by simp at e⟩ h1
    rwa [List.nil_append] at this
  obtain ⟨o1, o2⟩ := ordOK_spec (pre := []) h10 (fun j => by rw [bit_zero]; simp)
  refine ⟨M, ?_, ?_, ?_, fun p i e => by have := o1 p i e; rwa [List.nil_append] at this, fun j => by have := o2 j; rwa [List.nil_append] at this, h12⟩
  · intro i j o o' d hi hj hd hn
    have := allL_get (show allL _ l 0 = true from h3) i o hi
    rw [hd] at this
    have := allL_get (show allL (fun j o' => ife (lists d (namesOf o')) (ordered bs (0 + i) j) true) l 0 = true from this) j o' hj
    rw [ife_eq, if_pos ((lists_iff d _).2 hn), Nat.zero_add, Nat.zero_add] at this
    exact this
  · intro i j o o' hi hj he he'
    have := allL_get (show allL _ l 0 = true from h5) i o hi
    rw [ife_eq, if_pos he] at this
    have := allL_get (show allL (fun j o' => ife (isEff (kd E o')) (ordered bs (0 + i) j) true) l 0 = true from this) j o' hj
    rw [ife_eq, if_pos he', Nat.zero_add, Nat.zero_add] at this
    exact this
  · intro i o g hi hg
    have := allL_get (show allL _ l 0 = true from h7) i o hi
    rw [hg] at this
    have : guardOK bs l (0 + i) g = true := this
    rw [Nat.zero_add] at this
    obtain ⟨q1', q5⟩ := ife_and this
    obtain ⟨q1, q2⟩ := ife_and q1'
    obtain ⟨m, q3, q4⟩ := opt_rec_true q2
    obtain ⟨og, q6, q7⟩ := opt_rec_true q5
    obtain ⟨d, q8, q9⟩ := opt_rec_true q7
    rw [nth_eq] at q3 q6
    refine ⟨lt_true q1, ⟨m, q3, q4⟩, og, d, q6, q8, fun j o' hj hd => ?_⟩
    have := allL_get q9 j o' hj
    have hw : writes d o' = true := by unfold writes; rw [hd]; exact Nat.beq_refl d
    rw [ife_eq, if_pos hw, Nat.zero_add] at this
    exact beq_true this
end Go.Abs
