/- A part of a proof about Go functions of this program: an evaluator with a memory of its own, and the proof that what it finds the model finds (C45, C46, C47, C48). No conditions beyond those that each theorem names. -/
import Derived.Test.YtohmkigjifhddaaGreatDoorAbsam
set_option linter.all false
set_option autoImplicit false
set_option linter.unusedSimpArgs false
namespace Go.Abs
variable {E : Env} {P : Program} {N : Nat}
/-! values and objects under other numbers -/
noncomputable def renFn (ρ : Nat → Nat) (f : Fn) : Fn := Fn.rec (motive := fun _ => Fn) (fun f => .func f) (fun n => .method n) (fun t n => .methodOf t n) (fun t p f b => .via t p f b) (fun l => .yield (ρ l)) f
noncomputable def ren (ρ : Nat → Nat) : AVal → AVal := AVal.rec (motive_1 := fun _ => AVal) (motive_2 := fun _ => List AVal) (fun x => .b x) (fun k n => .i k n) (fun l n => .s l n) .p0 (fun b o => .p (ρ b) o) (fun b o => .g b o) .sl0 (fun b o l c => .sl (ρ b) o l c) .m0 (fun b => .m (ρ b)) (fun f _ _ a c => .f (renFn ρ f) a c) .f0 (fun t _ v => .ic t v) .i0 (fun _ l => .agg l) (fun _ l => .tup l) [] (fun _ _ a l => a :: l)
noncomputable def renM (ρ : Nat → Nat) (l : List AVal) : List AVal := AVal.rec_1 (motive_1 := fun _ => AVal) (motive_2 := fun _ => List AVal) (fun x => .b x) (fun k n => .i k n) (fun l n => .s l n) .p0 (fun b o => .p (ρ b) o) (fun b o => .g b o) .sl0 (fun b o l c => .sl (ρ b) o l c) .m0 (fun b => .m (ρ b)) (fun f _ _ a c => .f (renFn ρ f) a c) .f0 (fun t _ v => .ic t v) .i0 (fun _ l => .agg l) (fun _ l => .tup l) [] (fun _ _ a l => a :: l) l
theorem renFn_ok {ρ : Nat → Nat} {φ ψ : Phi} (h : ∀ b, φ (ρ b) = ψ b) (f : Fn) : denFn φ (renFn ρ f) = denFn ψ f := by
  cases f with
  | yield l => show (φ (ρ l)).map _ = _; rw [h]; rfl
  | _ => rfl
mutual
theorem den_ren {ρ : Nat → Nat} {φ ψ : Phi} (h : ∀ b, φ (ρ b) = ψ b) : ∀ v : AVal, den φ (ren ρ v) = den ψ v
  | .b _ => by show den φ (.b _) = _; simp only [den]
  | .i _ _ => by show den φ (.i _ _) = _; simp only [den]
  | .s _ _ => by show den φ (.s _ _) = _; simp only [den]
  | .p0 => by show den φ .p0 = _; simp only [den]
  | .p b o => by show den φ (.p (ρ b) o) = _; simp only [den]; rw [h]
  | .g _ _ => by show den φ (.g _ _) = _; simp only [den]
  | .sl0 => by show den φ .sl0 = _; simp only [den]
  | .sl b o n c => by show den φ (.sl (ρ b) o n c) = _; simp only [den]; rw [h]
  | .m0 => by show den φ .m0 = _; simp only [den]
  | .m b => by show den φ (.m (ρ b)) = _; simp only [den]; rw [h]
  | .f fn a c => by show den φ (.f (renFn ρ fn) (renM ρ a) (renM ρ c)) = _; simp only [den]; rw [renFn_ok h, denM_ren h a, denM_ren h c]
  | .f0 => by show den φ .f0 = _; simp only [den]
  | .ic t v => by show den φ (.ic t (ren ρ v)) = _; simp only [den]; rw [den_ren h v]
  | .i0 => by show den φ .i0 = _; simp only [den]
  | .agg l => by show den φ (.agg (renM ρ l)) = _; simp only [den]; rw [denM_ren h l]
  | .tup l => by show den φ (.tup (renM ρ l)) = _; simp only [den]; rw [denM_ren h l]
theorem denM_ren {ρ : Nat → Nat} {φ ψ : Phi} (h : ∀ b, φ (ρ b) = ψ b) : ∀ l : List AVal, denL φ (renM ρ l) = denL ψ l
  | [] => by show denL φ [] = _; simp only [denL]
  | v :: l => by show denL φ (ren ρ v :: renM ρ l) = _; simp only [denL]; rw [den_ren h v, denM_ren h l]
end
end Go.Abs

set_option autoImplicit false
set_option linter.unusedSimpArgs false
namespace Go.Abs
variable {E : Env} {P : Program} {N : Nat}
/-- an object, told as a list -/
inductive FO where
  | cells (l : List AVal) (e : TypeId)
  | bytes (n d : Nat) (e : TypeId)
  | map (l : List Ent) (c : Nat)
noncomputable def renE (ρ : Nat → Nat) (l : List Ent) : List Ent := List.rec (motive := fun _ => List Ent) [] (fun e _ ih => Ent.rec (motive := fun _ => List Ent) (fun k v n => ⟨ren ρ k, ren ρ v, n⟩ :: ih) e) l
noncomputable def mkFO : FO → AObj := FO.rec (motive := fun _ => AObj) (fun l e => .cells (argsT l (nat_lit 0) .e) (lenL l) e) (fun n d e => .bytes n d e) (fun l c => .map l c)
noncomputable def renF (ρ : Nat → Nat) : FO → FO := FO.rec (motive := fun _ => FO) (fun l e => .cells (renM ρ l) e) (fun n d e => .bytes n d e) (fun l c => .map (renE ρ l) c)
/-- what an object told as a list says of a world's -/
def FRel (E : Env) (φ : Phi) (x : FO) (l : Loc) (X : Option Obj) : Prop := match x with
  | .cells L e => ∃ a e' fz, X = some (.cells a e' fz) ∧ NF fz a.size ∧ (∀ te, E.ty e = some te → l.ext * te.size ≤ a.size) ∧ L.length ≤ a.size ∧ ∀ (i : Nat) (v : AVal), L[i]? = some v → ∃ y, den φ v = some y ∧ oneC y = true ∧ a[i]? = some y
  | .bytes n d e => ORel E φ (.bytes n d e) l X
  | .map es c => ORel E φ (.map es c) l X
theorem renE_ok {ρ : Nat → Nat} {φ ψ : Phi} (h : ∀ b, φ (ρ b) = ψ b) : ∀ (l : List Ent) (ms : List MapEntry), EntsRel φ (renE ρ l) ms ↔ EntsRel ψ l ms
  | [], [] => Iff.rfl
  | [], _ :: _ => Iff.rfl
  | ⟨k, v, n⟩ :: l, [] => Iff.rfl
  | ⟨k, v, n⟩ :: l, m :: ms => by
    show (den φ (ren ρ k) = some m.key ∧ den φ (ren ρ v) = some m.val ∧ m.born = n ∧ EntsRel φ (renE ρ l) ms) ↔ (den ψ k = some m.key ∧ den ψ v = some m.val ∧ m.born = n ∧ EntsRel ψ l ms)
    rw [den_ren h, den_ren h, renE_ok h l ms]
theorem renM_get (ρ : Nat → Nat) : ∀ (l : List AVal) (i : Nat), (renM ρ l)[i]? = l[i]?.map (ren ρ)
  | [], i => by show ([] : List AVal)[i]? = _; simp
  | v :: l, 0 => by show (ren ρ v :: renM ρ l)[0]? = _; simp
  | v :: l, i + 1 => by show (ren ρ v :: renM ρ l)[i + 1]? = _; simp [renM_get ρ l i]
theorem renM_len (ρ : Nat → Nat) : ∀ (l : List AVal), (renM ρ l).length = l.length
  | [] => rfl
  | v :: l => by show (ren ρ v :: renM ρ l).length = _; simp [renM_len ρ l]
theorem FRel.mk {φ : Phi} {x : FO} {l : Loc} {X : Option Obj} (h : FRel E φ x l X) : ORel E φ (mkFO x) l X := by
  cases x with
  | bytes n d e => exact h
  | map es c => exact h
  | cells L e =>
    obtain ⟨a, e', fz, h1, h2, h3, h4, h5⟩ := h
    refine ⟨a, e', fz, h1, h2, h3, by rw [lenL_eq]; exact h4, fun i hi => ?_⟩
    rw [lenL_eq] at hi
    obtain ⟨y, y1, y2, y3⟩ := h5 i L[i] (List.getElem?_eq_getElem hi)
    refine ⟨L[i], y, ?_, y1, y2, y3⟩
    show (argsT L 0 .e).get i = _
    rw [argsT_get, if_pos ⟨by omega, by omega⟩, Nat.sub_zero, List.getElem?_eq_getElem hi]
theorem FRel.ren {ρ : Nat → Nat} {φ ψ : Phi} (h : ∀ b, φ (ρ b) = ψ b) {x : FO} {l : Loc} {X : Option Obj} : FRel E φ (renF ρ x) l X ↔ FRel E ψ x l X := by
  cases x with
  | map es c =>
    show (∃ L, X = some (.map L c) ∧ EntsRel φ (renE ρ es) L.toList) ↔ (∃ L, X = some (.map L c) ∧ EntsRel ψ es L.toList)
    constructor
    · rintro ⟨L, h1, h2⟩; exact ⟨L, h1, (renE_ok h _ _).1 h2⟩
    · rintro ⟨L, h1, h2⟩; exact ⟨L, h1, (renE_ok h _ _).2 h2⟩
  | bytes n d e =>
    show ORel E φ (.bytes n d e) l X ↔ ORel E ψ (.bytes n d e) l X
    have : ∀ (α β : Phi), ORel E α (.bytes n d e) l X → ORel E β (.bytes n d e) l X := fun α β k => by
      obtain ⟨a, e', fz, h1, h2, h3, h4, h5, h6⟩ := k
      refine ⟨a, e', fz, h1, h2, h3, h4, h5, fun i hi => ?_⟩
      obtain ⟨v, y, g1, g2, g3, g4⟩ := h6 i hi
      obtain rfl : AVal.i .u8 (Int.ofNat (dig d i)) = v := Option.some.inj g1
      exact ⟨_, y, g1, by simpa only [den] using g2, g3, g4⟩
    exact ⟨this φ ψ, this ψ φ⟩
  | cells L e =>
    constructor
    · rintro ⟨a, e', fz, h1, h2, h3, h4, h5⟩
      refine ⟨a, e', fz, h1, h2, h3, by rw [renM_len] at h4; exact h4, fun i v hv => ?_⟩
      obtain ⟨y, y1, y2⟩ := h5 i (Abs.ren ρ v) (by rw [renM_get, hv]; rfl)
      exact ⟨y, by rw [← den_ren h]; exact y1, y2⟩
    · rintro ⟨a, e', fz, h1, h2, h3, h4, h5⟩
      refine ⟨a, e', fz, h1, h2, h3, by rw [renM_len]; exact h4, fun i v hv => ?_⟩
      rw [renM_get] at hv
      obtain ⟨u, e1, rfl⟩ := Option.map_eq_some_iff.1 hv
      obtain ⟨y, y1, y2⟩ := h5 i u e1
      exact ⟨y, by rw [den_ren h]; exact y1, y2⟩
/-- a call found in a small memory stands in a greater one, under its numbers -/
theorem CallOK.move {f : Nat} {args : List AVal} {h0 m h h' : Heap} {v : AVal} {k nw : Nat} {ρ ρ' : Nat → Nat} (hc : CallOK E P N f args h0 ⟨Abs.ren ρ' v, m⟩)
    (hk : h0.next = k) (pre0 : ∀ b o, h0.get b = some o → b < k) (hρ : ∀ b, b < k → ρ b < h.next) (hρn : ∀ b, k ≤ b → ρ b = h.next + (b - k))
    (inj : ∀ b b', b < k → b' < k → ρ b = ρ b' → b = b')
    (pre : ∀ b o, h0.get b = some o → ∃ o', h.get (ρ b) = some o' ∧ ∀ (φ ψ : Phi) l X, (∀ b, φ (ρ b) = ψ b) → ORel E φ o' l X → ORel E ψ o l X)
    (hρ' : ∀ b, b < k → ρ' b = b) (big : ∀ b, k + nw ≤ b → m.next ≤ ρ' b) (inj' : ∀ b b', b < k + nw → b' < k + nw → ρ' b = ρ' b' → b = b')
    (hn : h'.next = h.next + nw)
    (post : ∀ c o, h'.get c = some o → (∃ b x o1, b < k + nw ∧ c = ρ b ∧ m.get (ρ' b) = some o1 ∧ (∀ φ l X, ORel E φ o1 l X → FRel E φ (renF ρ' x) l X) ∧ o = mkFO (renF ρ x)) ∨ (h.get c = some o ∧ ∀ b o, h0.get b = some o → ρ b ≠ c)) :
    CallOK E P N f (renM ρ args) h ⟨Abs.ren ρ v, h'⟩ := by
  intro φ w as kind cs hkd R F hd
  have F0 : Fresh k (fun b => φ (ρ b)) h0.get := fun b hb => ⟨(by show φ (ρ b) = none; rw [hρn b hb]; exact (F _ (by omega)).1), by
    cases hg : h0.get b with
    | none => rfl
    | some o => have := pre0 b o hg; omega⟩
  have R0 : Rel E N (fun b => φ (ρ b)) h0.get w := by
    refine ⟨fun b o l g p => ?_, fun b b' o o' l l' g g' p p' q => ?_, R.size, R.glob⟩
    · obtain ⟨o', k1, k2⟩ := pre b o g
      obtain ⟨r1, r2⟩ := R.objs (ρ b) o' l k1 p
      exact ⟨r1, k2 φ _ l _ (fun _ => rfl) r2⟩
    · obtain ⟨o1, k1, _⟩ := pre b o g
      obtain ⟨o2, k2, _⟩ := pre b' o' g'
      exact inj b b' (pre0 b o g) (pre0 b' o' g') (R.inj (ρ b) (ρ b') o1 o2 l l' k1 k2 p p' q)
  obtain ⟨φ1, w', fr, y, G, e1, e2, e3⟩ := hc (fun b => φ (ρ b)) w as kind cs hkd R0 (by rw [hk]; exact F0) (by rw [← denM_ren (ρ := ρ) (φ := φ) (fun _ => rfl)]; exact hd)
  let φ' : Phi := fun c => if c < h.next then φ c else if c < h.next + nw then φ1 (ρ' (c - h.next + k)) else none
  have lo : ∀ c, c < h.next → φ' c = φ c := fun c hc => if_pos hc
  have key : ∀ b, φ' (ρ b) = φ1 (ρ' b) := fun b => by
    by_cases h1 : b < k
    · rw [lo _ (hρ b h1), hρ' b h1]
      exact (G.old b (by rw [hk]; exact h1)).symm
    · have e : ρ b = h.next + (b - k) := hρn b (by omega)
      have e' : φ' (ρ b) = if ρ b < h.next then φ (ρ b) else if ρ b < h.next + nw then φ1 (ρ' (ρ b - h.next + k)) else none := rfl
      rw [e', if_neg (by omega)]
      by_cases h2 : b < k + nw
      · rw [if_pos (by omega), show ρ b - h.next + k = b from by omega]
      · rw [if_neg (by omega)]
        exact ((G.fresh (ρ' b) (big b (by omega))).1).symm
  have hext : PExt φ φ' := fun b l e => by
    by_cases hb : b < h.next
    · rw [lo b hb]; exact e
    · rw [(F b (by omega)).1] at e; cases e
  have low : ∀ c o, h.get c = some o → c < h.next := fun c o g => by
    apply Decidable.byContradiction
    intro hx
    rw [(F c (by omega)).2] at g; cases g
  have hlt : ∀ b o l, h.get b = some o → φ b = some l → l.blk < w.heap.size := fun b o l h1 h2 => by
    obtain ⟨y, hy⟩ := (R.objs b o l h1 h2).2.isSome
    exact (Array.getElem?_eq_some_iff.1 hy).1
  have apart : ∀ c o l, h.get c = some o → (∀ b o, h0.get b = some o → ρ b ≠ c) → φ c = some l → ∀ b o2 l2, h0.get b = some o2 → φ (ρ b) = some l2 → l2.blk ≠ l.blk := fun c o l g hne p b o2 l2 g2 p2 q => by
    obtain ⟨o', k1, _⟩ := pre b o2 g2
    exact hne b o2 g2 (R.inj (ρ b) c o' o l2 l k1 g p2 p q)
  have mixed : ∀ c o l b o1 l1, h.get c = some o → (∀ b o, h0.get b = some o → ρ b ≠ c) → φ c = some l → m.get (ρ' b) = some o1 → φ1 (ρ' b) = some l1 → l1.blk ≠ l.blk := fun c o l b o1 l1 g hne p g1 p1 q => by
    rcases G.frm.from' (ρ' b) o1 l1 g1 p1 with h1 | ⟨c2, o2, l2, g2, p2, q2⟩
    · have := hlt c o l g p; omega
    · exact apart c o l g hne p c2 o2 l2 g2 p2 (q2.trans q)
  have val : ∀ v, den φ' (Abs.ren ρ v) = den φ1 (Abs.ren ρ' v) := fun v => by rw [den_ren (ψ := fun b => φ' (ρ b)) (fun _ => rfl), den_ren (ψ := fun b => φ' (ρ b)) (fun b => (key b).symm)]
  refine ⟨φ', w', fr, y, ⟨hext, ⟨fun c o l g p => ?_, fun c c' o o' l l' g g' p p' q => ?_, Nat.le_trans R.size G.frm.size, G.rel.glob⟩, fun c hc => ?_, ⟨G.frm.os, G.frm.tape, G.frm.output, G.frm.size, fun B hB hx => ?_, fun c o l g p => ?_⟩, by rw [hn]; omega, fun b hb => lo b hb⟩, by rw [val]; exact e1, e2, e3⟩
  · rcases post c o g with ⟨b, x, o1, hb, rfl, g1, f1, rfl⟩ | ⟨g1, hne⟩
    · rw [key] at p
      obtain ⟨r1, r2⟩ := G.rel.objs (ρ' b) o1 l g1 p
      exact ⟨r1, FRel.mk ((FRel.ren (ψ := fun b => φ' (ρ b)) fun _ => rfl).2 ((FRel.ren (ψ := fun b => φ' (ρ b)) fun b => (key b).symm).1 (f1 _ _ _ r2)))⟩
    · rw [lo c (low c o g1)] at p
      obtain ⟨r1, r2⟩ := R.objs c o l g1 p
      refine ⟨r1, ?_⟩
      rw [G.frm.block l.blk (hlt c o l g1 p) (fun b o2 l2 g2 p2 => apart c o l g1 hne p b o2 l2 g2 p2)]
      exact r2.mono hext
  · rcases post c o g with ⟨b, x, o1, hb, rfl, g1, f1, rfl⟩ | ⟨g1, hne⟩ <;> rcases post c' o' g' with ⟨b', x', o1', hb', rfl, g1', f1', rfl⟩ | ⟨g1', hne'⟩
    · rw [key] at p p'
      rw [inj' b b' hb hb' (G.rel.inj _ _ _ _ _ _ g1 g1' p p' q)]
    · rw [key] at p
      rw [lo c' (low c' o' g1')] at p'
      exact absurd q (mixed c' o' l' b o1 l g1' hne' p' g1 p)
    · rw [key] at p'
      rw [lo c (low c o g1)] at p
      exact absurd q.symm (mixed c o l b' o1' l' g1 hne p g1' p')
    · rw [lo c (low c o g1)] at p
      rw [lo c' (low c' o' g1')] at p'
      exact R.inj c c' o o' l l' g1 g1' p p' q
  · rw [hn] at hc
    refine ⟨?_, ?_⟩
    · show (if c < h.next then φ c else if c < h.next + nw then φ1 (ρ' (c - h.next + k)) else none) = none
      rw [if_neg (by omega), if_neg (by omega)]
    · cases g : h'.get c with
      | none => rfl
      | some o =>
        rcases post c o g with ⟨b, x, o1, hb, rfl, g1, f1, rfl⟩ | ⟨g1, hne⟩
        · by_cases h1 : b < k
          · have := hρ b h1; omega
          · have := hρn b (by omega); omega
        · have := low c o g1; omega
  · exact G.frm.block B hB fun b o l g p => by
      obtain ⟨o', k1, _⟩ := pre b o g
      exact hx (ρ b) o' l k1 p
  · rcases post c o g with ⟨b, x, o1, hb, rfl, g1, f1, rfl⟩ | ⟨g1, hne⟩
    · rw [key] at p
      rcases G.frm.from' (ρ' b) o1 l g1 p with h1 | ⟨c2, o2, l2, g2, p2, q2⟩
      · exact .inl h1
      · obtain ⟨o', k1, _⟩ := pre c2 o2 g2
        exact .inr ⟨ρ c2, o', l2, k1, p2, q2⟩
    · rw [lo c (low c o g1)] at p
      exact .inr ⟨c, o, l, g1, p, rfl⟩
end Go.Abs

set_option autoImplicit false
set_option linter.unusedSimpArgs false
namespace Go.Abs
variable {E : Env} {P : Program} {N : Nat}
noncomputable def sameW (x y : AVal) : Bool := Option.rec (motive := fun _ => Bool) (sameV x y) (fun l => Option.rec (motive := fun _ => Bool) false (fun m => all2 sameV l m) (asTup y)) (asTup x)
theorem sameW_true {x y : AVal} (h : sameW x y = true) : x = y := by
  unfold sameW at h
  cases hx : asTup x with
  | none => rw [hx] at h; exact sameV_true h
  | some l =>
    rw [hx] at h
    cases hy : asTup y with
    | none => rw [hy] at h; cases h
    | some m =>
      rw [hy] at h
      rw [asTup_some hx, asTup_some hy, all2_eq (fun a b => sameV_true) (show all2 sameV l m = true from h)]
/-- where a block is found: named by an argument, by a cell, or by an entry, of a block that was found before -/
inductive Src where
  | arg (j i : Nat)
  | cell (b c : Nat)
  | ent (b i : Nat)
/-- a call that is known: in a memory with these blocks, so numbered; what it answers, and what these and the new blocks are then -/
structure KH where
  f : Nat
  args : List AVal
  pre : List FO
  src : List Src
  v : AVal
  post : List (Nat × FO)
  more : List Src
noncomputable def blkV : AVal → Option Nat := AVal.rec (motive_1 := fun _ => Option Nat) (motive_2 := fun _ => Unit) (fun _ => none) (fun _ _ => none) (fun _ _ => none) none (fun b _ => some b) (fun _ _ => none) none (fun b _ _ _ => some b) none (fun b => some b) (fun _ _ _ _ _ => none) none (fun _ _ _ => none) none (fun _ _ => none) (fun _ _ => none) () (fun _ _ _ _ => ())
noncomputable def cellO (i : Nat) : AObj → Option AVal := AObj.rec (motive := fun _ => Option AVal) (fun c _ _ => c.get i) (fun _ _ _ => none) (fun _ _ => none) (fun _ _ _ _ => none) (fun _ _ _ _ _ _ _ _ _ => none) none
noncomputable def srcB (h : Heap) (args : List AVal) (acc : List Nat) : Src → Option Nat := Src.rec (motive := fun _ => Option Nat)
  (fun j i => ob (nth args j) fun v => Option.rec (motive := fun _ => Option Nat) (blkV v) (fun l => ob (nth l i) blkV) (asAgg v))
  (fun b c => ob (nth acc b) fun p => ob (h.get p) fun o => ob (cellO c o) blkV)
  (fun b i => ob (nth acc b) fun p => ob (mapAt h p) fun l => ob (nth l.1 i) fun e => blkV e.v)
noncomputable def findR (h : Heap) (args : List AVal) (l : List Src) : List Nat → Option (List Nat) :=
  List.rec (motive := fun _ => List Nat → Option (List Nat)) (fun acc => some acc) (fun s _ ih acc => ob (srcB h args acc s) fun b => ih (acc ++ [b])) l
structure Row4 where
  b : Nat
  o : Nat
  l : Nat
  c : Cap
noncomputable def slRow : AVal → Option Row4 := AVal.rec (motive_1 := fun _ => Option Row4) (motive_2 := fun _ => Unit) (fun _ => none) (fun _ _ => none) (fun _ _ => none) none (fun _ _ => none) (fun _ _ => none) none (fun b o l c => some ⟨b, o, l, c⟩) none (fun _ => none) (fun _ _ _ _ _ => none) none (fun _ _ _ => none) none (fun _ _ => none) (fun _ _ => none) () (fun _ _ _ _ => ())
/-- the same slice, its end too -/
noncomputable def sameR (x y : AVal) : Bool := Option.rec (motive := fun _ => Bool) false (fun p => Option.rec (motive := fun _ => Bool) false (fun q => ife (Nat.beq p.b q.b) (ife (Nat.beq p.o q.o) (ife (Nat.beq p.l q.l) (capEq p.c q.c) false) false) false) (slRow y)) (slRow x)
noncomputable def sameC (x y : AVal) : Bool := ife (sameV x y) true (sameR x y)
theorem slRow_some {v : AVal} {p : Row4} (h : slRow v = some p) : v = .sl p.b p.o p.l p.c := by
  cases v with
  | sl b o l c => obtain rfl := Option.some.inj (show some (Row4.mk b o l c) = some p from h); rfl
  | _ => cases h
theorem sameC_true {x y : AVal} (h : sameC x y = true) : x = y := by
  have h : ife (sameV x y) true (sameR x y) = true := h
  rw [ife_eq] at h
  split at h
  · next h1 => exact sameV_true h1
  · unfold sameR at h
    cases hx : slRow x with
    | none => rw [hx] at h; cases h
    | some p =>
      rw [hx] at h
      cases hy : slRow y with
      | none => rw [hy] at h; cases h
      | some q =>
        rw [hy] at h
        have h : ife (Nat.beq p.b q.b) (ife (Nat.beq p.o q.o) (ife (Nat.beq p.l q.l) (capEq p.c q.c) false) false) false = true := h
        obtain ⟨h1, h2⟩ := ife_and h
        obtain ⟨h3, h4⟩ := ife_and h2
        obtain ⟨h5, h6⟩ := ife_and h4
        rw [slRow_some hx, slRow_some hy, beq_true h1, beq_true h3, beq_true h5, capEq_true h6]
noncomputable def isC (c : Tr AVal) (i : Nat) (v : AVal) : Bool := Option.rec (motive := fun _ => Bool) false (fun u => sameC v u) (c.get i)
noncomputable def eqEs (l : List Ent) : List Ent → Bool := List.rec (motive := fun _ => List Ent → Bool) (fun m => List.rec (motive := fun _ => Bool) true (fun _ _ _ => false) m)
  (fun a _ ih m => List.rec (motive := fun _ => Bool) false (fun b r _ => ife (Nat.beq a.n b.n) (ife (sameV a.k b.k) (ife (sameV a.v b.v) (ih r) false) false) false) m) l
noncomputable def isO : FO → AObj → Bool := FO.rec (motive := fun _ => AObj → Bool)
  (fun L e o => AObj.rec (motive := fun _ => Bool) (fun c n e' => ife (Nat.beq n (lenL L)) (ife (Nat.beq e e') (allL (isC c) L (nat_lit 0)) false) false) (fun _ _ _ => false) (fun _ _ => false) (fun _ _ _ _ => false) (fun _ _ _ _ _ _ _ _ _ => false) false o)
  (fun n d e o => AObj.rec (motive := fun _ => Bool) (fun _ _ _ => false) (fun n' d' e' => ife (Nat.beq n n') (ife (Nat.beq d d') (Nat.beq e e') false) false) (fun _ _ => false) (fun _ _ _ _ => false) (fun _ _ _ _ _ _ _ _ _ => false) false o)
  (fun l c o => AObj.rec (motive := fun _ => Bool) (fun _ _ _ => false) (fun _ _ _ => false) (fun l' c' => ife (Nat.beq c c') (eqEs l l') false) (fun _ _ _ _ => false) (fun _ _ _ _ _ _ _ _ _ => false) false o)
noncomputable def rho (r : List Nat) (nx b : Nat) : Nat := Option.rec (motive := fun _ => Nat) (Nat.add nx (Nat.sub b (lenL r))) (fun c => c) (nth r b)
noncomputable def apart (l : List Nat) : Bool := List.rec (motive := fun _ => Bool) true (fun a r ih => ife (lists a r) false ih) l
noncomputable def isAt (h : Heap) (b : Nat) (x : FO) : Bool := Option.rec (motive := fun _ => Bool) false (isO x) (h.get b)
noncomputable def delR (r : List Nat) : Tr AObj → Tr AObj := List.rec (motive := fun _ => Tr AObj → Tr AObj) (fun t => t) (fun b _ ih t => ih (t.del b)) r
noncomputable def setP (ρ : Nat → Nat) (l : List (Nat × FO)) : Tr AObj → Tr AObj := List.rec (motive := fun _ => Tr AObj → Tr AObj) (fun t => t) (fun p _ ih t => ih (t.set (ρ p.1) (mkFO (renF ρ p.2)))) l
noncomputable def setO (l : List FO) : Nat → Tr AObj → Tr AObj := List.rec (motive := fun _ => Nat → Tr AObj → Tr AObj) (fun _ t => t) (fun x _ ih i t => ih (Nat.succ i) (t.set i (mkFO x))) l
/-- the answer of a known call, where it is one -/
noncomputable def khAt (e : KH) (args : List AVal) (h : Heap) : Option CR :=
  ob (findR h args e.src []) fun r => chk (Nat.beq (lenL r) (lenL e.pre)) (chk (all2 sameW (renM (rho r h.next) e.args) args) (chk (apart r) (chk (allL (fun _ b => lt b h.next) r (nat_lit 0))
    (chk (allL (fun i x => isAt h (rho r h.next i) (renF (rho r h.next) x)) e.pre (nat_lit 0)) (some ⟨ren (rho r h.next) e.v, ⟨setP (rho r h.next) e.post (delR r h.bl), Nat.add h.next (lenL e.more)⟩⟩)))))
noncomputable def tupL (v : AVal) : List AVal := Option.rec (motive := fun _ => List AVal) [v] (fun l => l) (asTup v)
noncomputable def ranOK (e : KH) (v : AVal) (m : Heap) (r : List Nat) : Bool :=
  ife (Nat.beq (lenL r) (Nat.add (lenL e.pre) (lenL e.more))) (ife (apart r) (ife (allL (fun i b => ife (lt i (lenL e.pre)) (Nat.beq b i) true) r (nat_lit 0)) (ife (sameW (ren (rho r m.next) e.v) v)
    (allL (fun _ p => ife (lt p.1 (lenL r)) (isAt m (rho r m.next p.1) (renF (rho r m.next) p.2)) false) e.post (nat_lit 0)) false) false) false) false
/-- the run that makes a call known -/
noncomputable def ran (E : Env) (e : KH) : Bool := Option.rec (motive := fun _ => Bool) false (fun q => CR.rec (motive := fun _ => Bool) (fun v m => Option.rec (motive := fun _ => Bool) false (ranOK e v m) (findR m (tupL v) e.more (rangeL (lenL e.pre) (nat_lit 0)))) q)
  (run E (nat_lit 100000) e.f e.args ⟨setO e.pre (nat_lit 0) .e, lenL e.pre⟩)

theorem eqEs_true : ∀ {l m : List Ent}, eqEs l m = true → l = m
  | [], [], _ => rfl
  | [], _ :: _, h => by cases h
  | _ :: _, [], h => by cases h
  | ⟨k, v, n⟩ :: l, ⟨k', v', n'⟩ :: m, h => by
    have h : ife (Nat.beq n n') (ife (sameV k k') (ife (sameV v v') (eqEs l m) false) false) false = true := h
    rw [ife_eq] at h
    split at h
    · next h1 =>
      rw [ife_eq] at h
      split at h
      · next h2 =>
        rw [ife_eq] at h
        split at h
        · next h3 => rw [beq_true h1, sameV_true h2, sameV_true h3, eqEs_true h]
        · cases h
      · cases h
    · cases h
theorem isO_rel {φ : Phi} {x : FO} {o : AObj} {l : Loc} {X : Option Obj} (h : isO x o = true) (k : ORel E φ o l X) : FRel E φ x l X := by
  cases x with
  | map es c =>
    cases o with
    | map es' c' =>
      have g : ife (Nat.beq c c') (eqEs es es') false = true := h
      clear h
      rw [ife_eq] at g
      split at g
      · next h1 =>
        obtain rfl := beq_true h1
        obtain rfl := eqEs_true g
        exact k
      · cases g
    | _ => cases h
  | bytes n d e =>
    cases o with
    | bytes n' d' e' =>
      have g : ife (Nat.beq n n') (ife (Nat.beq d d') (Nat.beq e e') false) false = true := h
      clear h
      rw [ife_eq] at g
      split at g
      · next h1 =>
        rw [ife_eq] at g
        split at g
        · next h2 =>
          obtain rfl := beq_true h1
          obtain rfl := beq_true h2
          obtain rfl := beq_true (show Nat.beq e e' = true from g)
          exact k
        · cases g
      · cases g
    | _ => cases h
  | cells L e =>
    cases o with
    | cells c n e' =>
      have g : ife (Nat.beq n (lenL L)) (ife (Nat.beq e e') (allL (isC c) L 0) false) false = true := h
      clear h
      rw [ife_eq] at g
      split at g
      · next h1 =>
        rw [ife_eq] at g
        split at g
        · next h2 =>
          obtain rfl := beq_true h1
          obtain rfl := beq_true h2
          obtain ⟨a, e', fz, k1, k2, k3, k4, k5⟩ := k
          rw [lenL_eq] at k4 k5
          refine ⟨a, e', fz, k1, k2, k3, k4, fun i v hv => ?_⟩
          have h6 := allL_get (show allL (isC c) L 0 = true from g) i v hv
          rw [Nat.zero_add] at h6
          have hi : i < L.length := (List.getElem?_eq_some_iff.1 hv).1
          obtain ⟨u, y, g1, g2, g3, g4⟩ := k5 i hi
          have h6 : isC c i v = true := h6
          unfold isC at h6
          rw [g1] at h6
          obtain rfl := sameC_true (show sameC v u = true from h6)
          exact ⟨y, g2, g3, g4⟩
        · cases g
      · cases g
    | _ => cases h
theorem lists_get {a : Nat} : ∀ (l : List Nat) (k : Nat), l[k]? = some a → lists a l = true
  | [], k, hk => by simp at hk
  | b :: l, k, hk => by
    show ife (Nat.beq b a) true (lists a l) = true
    rw [ife_eq]
    split
    · rfl
    · next hb =>
      cases k with
      | zero =>
        have e : b = a := by simpa using hk
        subst e
        exact absurd (Nat.beq_refl b) hb
      | succ k => exact lists_get l k (by simpa using hk)
theorem apart_get : ∀ {l : List Nat}, apart l = true → ∀ (i j : Nat) (x : Nat), l[i]? = some x → l[j]? = some x → i = j
  | [], _, i, j, x, h1, h2 => by simp at h1
  | a :: l, h, i, j, x, h1, h2 => by
    have h : ife (lists a l) false (apart l) = true := h
    rw [ife_eq] at h
    split at h
    · cases h
    · next hl =>
      have hne : ∀ (k : Nat), l[k]? ≠ some a := fun k hk => hl (lists_get l k hk)
      cases i with
      | zero =>
        cases j with
        | zero => rfl
        | succ j =>
          have e : a = x := by simpa using h1
          subst e
          exact absurd (by simpa using h2) (hne j)
      | succ i =>
        cases j with
        | zero =>
          have e : a = x := by simpa using h2
          subst e
          exact absurd (by simpa using h1) (hne i)
        | succ j => rw [apart_get h i j x (by simpa using h1) (by simpa using h2)]
theorem rho_lt {r : List Nat} {nx b : Nat} (h : b < r.length) : rho r nx b = r[b] := by
  unfold rho
  rw [nth_eq, List.getElem?_eq_getElem h]
theorem rho_ge {r : List Nat} {nx b : Nat} (h : r.length ≤ b) : rho r nx b = nx + (b - r.length) := by
  unfold rho
  rw [nth_eq, List.getElem?_eq_none h, lenL_eq]
  rfl
theorem setO_get : ∀ (l : List FO) (i : Nat) (t : Tr AObj) (b : Nat), (setO l i t).get b = if i ≤ b ∧ b < i + l.length then l[b - i]?.map mkFO else t.get b
  | [], i, t, b => by rw [if_neg (by simp)]; rfl
  | x :: l, i, t, b => by
    show (setO l (i + 1) (t.set i (mkFO x))).get b = _
    rw [setO_get l (i + 1)]
    by_cases h1 : i + 1 ≤ b ∧ b < i + 1 + l.length
    · rw [if_pos h1, if_pos ⟨by omega, by simp; omega⟩, show b - i = (b - (i + 1)) + 1 from by omega]; simp
    · rw [if_neg h1, Tr.get_set]
      by_cases h2 : b = i
      · subst h2
        rw [if_pos rfl, if_pos ⟨by omega, by simp⟩]; simp
      · rw [if_neg h2, if_neg (by simp at h1 ⊢; omega)]
theorem delR_get : ∀ (r : List Nat) (t : Tr AObj) (c : Nat) (o : AObj), (delR r t).get c = some o → t.get c = some o ∧ ∀ i : Nat, r[i]? ≠ some c
  | [], t, c, o, h => ⟨h, fun i => by simp⟩
  | b :: r, t, c, o, h => by
    obtain ⟨h1, h2⟩ := delR_get r (t.del b) c o h
    rw [Tr.get_del] at h1
    split at h1
    · cases h1
    · next hb =>
      refine ⟨h1, fun i => ?_⟩
      cases i with
      | zero => intro q; exact hb (by simpa using q.symm)
      | succ i => simpa using h2 i
theorem setP_get {ρ : Nat → Nat} : ∀ (l : List (Nat × FO)) (t : Tr AObj) (c : Nat) (o : AObj), (setP ρ l t).get c = some o → (∃ p ∈ l, c = ρ p.1 ∧ o = mkFO (renF ρ p.2)) ∨ t.get c = some o
  | [], t, c, o, h => .inr h
  | p :: l, t, c, o, h => by
    rcases setP_get l (t.set (ρ p.1) (mkFO (renF ρ p.2))) c o h with ⟨q, h1, h2⟩ | h1
    · exact .inl ⟨q, List.mem_cons_of_mem _ h1, h2⟩
    · rw [Tr.get_set] at h1
      split at h1
      · next hc => exact .inl ⟨p, List.mem_cons_self .., hc, (Option.some.inj h1).symm⟩
      · exact .inr h1
theorem isAt_some {h : Heap} {b : Nat} {x : FO} (k : isAt h b x = true) : ∃ o, h.get b = some o ∧ isO x o = true := by
  unfold isAt at k
  cases g : h.get b with
  | none => rw [g] at k; cases k
  | some o => rw [g] at k; exact ⟨o, rfl, k⟩
theorem mkFO_rel {φ : Phi} {x : FO} {l : Loc} {X : Option Obj} (k : FRel E φ x l X) : ORel E φ (mkFO x) l X := k.mk
/-- what the run found stands wherever its blocks are found again -/
theorem kh_ok {E' : Env} {e : KH} (hrun : ran E e = true) (hE : ∀ q, run E (nat_lit 100000) e.f e.args ⟨setO e.pre (nat_lit 0) .e, lenL e.pre⟩ = some q → CallOK E' P N e.f e.args ⟨setO e.pre (nat_lit 0) .e, lenL e.pre⟩ q)
    {args : List AVal} {h : Heap} {q : CR} (hk : khAt e args h = some q) : CallOK E' P N e.f args h q := by
  unfold ran at hrun
  cases hr : run E (nat_lit 100000) e.f e.args ⟨setO e.pre (nat_lit 0) .e, lenL e.pre⟩ with
  | none => rw [hr] at hrun; cases hrun
  | some q1 =>
    have hc := hE q1 hr
    rw [hr] at hrun
    clear hr hE
    obtain ⟨v1, m⟩ := q1
    have hrun : Option.rec (motive := fun _ => Bool) false (ranOK e v1 m) (findR m (tupL v1) e.more (rangeL (lenL e.pre) 0)) = true := hrun
    cases hf : findR m (tupL v1) e.more (rangeL (lenL e.pre) 0) with
    | none => rw [hf] at hrun; cases hrun
    | some r' =>
      rw [hf] at hrun
      have hrun : ranOK e v1 m r' = true := hrun
      unfold ranOK at hrun
      rw [ife_eq] at hrun
      split at hrun
      case isFalse => cases hrun
      case isTrue a1 =>
      rw [ife_eq] at hrun
      split at hrun
      case isFalse => cases hrun
      case isTrue a2 =>
      rw [ife_eq] at hrun
      split at hrun
      case isFalse => cases hrun
      case isTrue a3 =>
      rw [ife_eq] at hrun
      split at hrun
      case isFalse => cases hrun
      case isTrue a4 =>
      have a1 := beq_true a1
      rw [lenL_eq, lenL_eq, lenL_eq] at a1
      have a1 : r'.length = e.pre.length + e.more.length := a1
      unfold khAt at hk
      obtain ⟨r, b0, hk⟩ := ob_some hk
      obtain ⟨b1, hk⟩ := chk_some hk
      obtain ⟨b2, hk⟩ := chk_some hk
      obtain ⟨b3, hk⟩ := chk_some hk
      obtain ⟨b4, hk⟩ := chk_some hk
      obtain ⟨b5, hk⟩ := chk_some hk
      obtain rfl := Option.some.inj hk
      have b1 := beq_true b1
      rw [lenL_eq, lenL_eq] at b1
      have b2 := all2_eq (fun a b => sameW_true) b2
      rw [← b2]
      rw [← sameW_true a4] at hc
      have rl : ∀ b, b < e.pre.length → ∃ c, r[b]? = some c ∧ rho r h.next b = c := fun b hb => ⟨r[b]'(by omega), List.getElem?_eq_getElem (by omega), rho_lt (by omega)⟩
      have rl' : ∀ b, b < e.pre.length + e.more.length → ∃ c, r'[b]? = some c ∧ rho r' m.next b = c := fun b hb => ⟨r'[b]'(by omega), List.getElem?_eq_getElem (by omega), rho_lt (by omega)⟩
      have hget : ∀ b o, (⟨setO e.pre 0 .e, lenL e.pre⟩ : Heap).get b = some o → b < e.pre.length ∧ ∃ x, e.pre[b]? = some x ∧ o = mkFO x := fun b o g => by
        have g : (setO e.pre 0 .e).get b = some o := g
        rw [setO_get] at g
        split at g
        · next hb =>
          obtain ⟨x, x1, x2⟩ := Option.map_eq_some_iff.1 g
          rw [Nat.sub_zero] at x1
          exact ⟨by omega, x, x1, x2.symm⟩
        · rw [Tr.get_e] at g; cases g
      refine CallOK.move (k := e.pre.length) (nw := e.more.length) (ρ := rho r h.next) (ρ' := rho r' m.next) hc (lenL_eq _) (fun b o g => (hget b o g).1) (fun b hb => ?_) (fun b hb => ?_) (fun b b' hb hb' q => ?_) (fun b o g => ?_) (fun b hb => ?_) (fun b hb => ?_) (fun b b' hb hb' q => ?_) ?_ (fun c o g => ?_)
      · obtain ⟨c, c1, c2⟩ := rl b hb
        rw [c2]
        have := allL_get b4 b c c1
        exact Nat.le_of_ble_eq_true this
      · rw [rho_ge (by omega), b1]
      · obtain ⟨c, c1, c2⟩ := rl b hb
        obtain ⟨c', c1', c2'⟩ := rl b' hb'
        rw [c2, c2'] at q
        subst q
        exact apart_get b3 b b' c c1 c1'
      · obtain ⟨hb, x, x1, rfl⟩ := hget b o g
        have := allL_get b5 b x x1
        rw [Nat.zero_add] at this
        obtain ⟨o', o1, o2⟩ := isAt_some this
        exact ⟨o', o1, fun φ ψ l X hφ k => mkFO_rel ((FRel.ren hφ).1 (isO_rel o2 k))⟩
      · obtain ⟨c, c1, c2⟩ := rl' b (by omega)
        have := allL_get a3 b c c1
        rw [Nat.zero_add, ife_eq] at this
        split at this
        · rw [c2]; exact beq_true this
        · next hx => exact absurd (Nat.ble_eq_true_of_le (show b + 1 ≤ lenL e.pre from by rw [lenL_eq]; omega)) hx
      · rw [rho_ge (by omega)]; omega
      · obtain ⟨c, c1, c2⟩ := rl' b hb
        obtain ⟨c', c1', c2'⟩ := rl' b' hb'
        rw [c2, c2'] at q
        subst q
        exact apart_get a2 b b' c c1 c1'
      · show Nat.add h.next (lenL e.more) = _
        rw [lenL_eq]; rfl
      · rcases setP_get e.post (delR r h.bl) c o g with ⟨p, p1, p2, p3⟩ | g1
        · obtain ⟨i, hi⟩ := List.mem_iff_getElem?.1 p1
          have := allL_get hrun i p hi
          rw [ife_eq] at this
          split at this
          · next hlt =>
            have hlt : p.1 < lenL r' := Nat.le_of_ble_eq_true hlt
            rw [lenL_eq] at hlt
            obtain ⟨o1, o2, o3⟩ := isAt_some this
            exact .inl ⟨p.1, p.2, o1, by omega, p2, o2, fun φ l X k => isO_rel o3 k, p3⟩
          · cases this
        · obtain ⟨g2, g3⟩ := delR_get r h.bl c o g1
          refine .inr ⟨g2, fun b o g q => ?_⟩
          obtain ⟨hb, _⟩ := hget b o g
          obtain ⟨c', c1, c2⟩ := rl b hb
          exact g3 b (by rw [c1, ← c2, q])
end Go.Abs

set_option autoImplicit false
set_option linter.unusedSimpArgs false
namespace Go.Abs
variable {E : Env} {P : Program} {N : Nat}
/-- a call of which the kit has a contract, and which leaves all that was there as it was -/
theorem callN_of {f : Nat} {args : List AVal} {v : AVal} {as : List Value} {y : Value} (ha : ∀ φ, denL φ args = some as) (hv : ∀ φ, den φ v = some y)
    (hc : ∀ w, Calls P f as.toArray w fun e w' => e = .returned y ∧ RowKit.Below w.heap.size w w') (h : Heap) : CallN E P N f args h ⟨v, h⟩ := by
  intro φ w as' cs R F hd
  obtain rfl : as = as' := Option.some.inj ((ha φ).symm.trans hd)
  obtain ⟨e, w', fr, ⟨rfl, hb⟩, hs, hf, hm, hdf, hk, fn, hfn, hr⟩ := hc w cs
  obtain ⟨b1, b2, b3, b4, b5⟩ := hb
  have hlt : ∀ b o l, h.get b = some o → φ b = some l → l.blk < w.heap.size := fun b o l h1 h2 => by
    obtain ⟨y, hy⟩ := (R.objs b o l h1 h2).2.isSome
    exact (Array.getElem?_eq_some_iff.1 hy).1
  refine ⟨φ, w', fr, y, ⟨.refl _, ⟨fun b o l h1 h2 => ?_, R.inj, Nat.le_trans R.size b4, R.glob.keep fun B hB => b5 B (Nat.lt_of_lt_of_le hB R.size)⟩, F, ⟨b1, b2, b3, b4, fun B hB _ => b5 B hB, fun b o l h1 h2 => .inr ⟨b, o, l, h1, h2, rfl⟩⟩, Nat.le_refl _, fun _ _ => rfl⟩, hv φ, hs, hm, hdf, hk, hf, fn, by rw [← hf]; exact hfn, hr⟩
  obtain ⟨r1, r2⟩ := R.objs b o l h1 h2
  exact ⟨r1, by rw [b5 _ (hlt b o l h1 h2)]; exact r2⟩
/-! strings.Repeat of one byte -/
noncomputable def repN (d n : Nat) : Nat := Nat.rec (motive := fun _ => Nat) (nat_lit 0) (fun _ ih => Nat.add (Nat.mul ih (nat_lit 256)) d) n
noncomputable def repS (d : Nat) (h : Heap) (n : Nat) : Option CR := chk (Nat.ble n (nat_lit 1048576)) (some ⟨.s n (repN d n), h⟩)
noncomputable def repV (h : Heap) (s n : AVal) : Option CR := OS.rec (motive := fun _ => Option CR) none (fun l d => chk (Nat.beq l (nat_lit 1)) (chk (lt d (nat_lit 256)) (OI.rec (motive := fun _ => Option CR) none (fun k n => chk (Nat.beq (kNo k) (nat_lit 3)) (ob (natI n) (repS d h))) (asI n)))) (asS s)
noncomputable def repA (args : List AVal) (h : Heap) : Option CR := chk (Nat.beq (lenL args) (nat_lit 2)) (ob (nth args (nat_lit 0)) fun s => ob (nth args (nat_lit 1)) fun n => repV h s n)
/-- the contract that is asked of the function -/
def RepIs (P : Program) (f : Nat) : Prop := ∀ (b : UInt8) (c : Nat) (w : World), c ≤ 1048576 →
  Calls P f #[.string ⟨#[b]⟩, .int .i64 c] w fun e w' => e = .returned (.string ⟨(List.replicate c b).toArray⟩) ∧ RowKit.Below w.heap.size w w'
theorem repN_pack (b : UInt8) : ∀ n, repN b.toNat n = packL (List.replicate n b)
  | 0 => rfl
  | n + 1 => by
    rw [List.replicate_succ]
    show repN b.toNat n * 256 + b.toNat = packL (List.replicate n b) * 256 + b.toNat
    rw [repN_pack b n]
theorem repA_ok {f : Nat} (hP : RepIs P f) {args : List AVal} {h : Heap} {q : CR} (hv : repA args h = some q) : CallN E P N f args h q := by
  obtain ⟨h1, h2⟩ := chk_some hv
  obtain ⟨s, h3, h4⟩ := ob_some h2
  obtain ⟨n, h5, h6⟩ := ob_some h4
  have hl := beq_true h1
  rw [lenL_eq] at hl
  obtain ⟨a, b, rfl⟩ : ∃ a b, args = [a, b] := by
    match args, hl with
    | [a, b], _ => exact ⟨a, b, rfl⟩
  obtain rfl : a = s := Option.some.inj h3
  obtain rfl : b = n := Option.some.inj h5
  unfold repV at h6
  rcases asS_cases a with ⟨l, d, rfl, e⟩ | e
  · rw [e] at h6
    obtain ⟨h7, h8⟩ := chk_some (show chk (Nat.beq l 1) (chk (lt d 256) (OI.rec (motive := fun _ => Option CR) none (fun k n => chk (Nat.beq (kNo k) 3) (ob (natI n) (repS d h))) (asI b))) = some q from h6)
    obtain ⟨h9, h10⟩ := chk_some h8
    obtain rfl := beq_true h7
    have hd := lt_true h9
    cases b with
    | i k n =>
      obtain ⟨h11, h12⟩ := chk_some (show chk (Nat.beq (kNo k) 3) (ob (natI n) (repS d h)) = some q from h10)
      obtain ⟨c, h13, h14⟩ := ob_some h12
      obtain ⟨h15, h16⟩ := chk_some h14
      obtain rfl := Option.some.inj h16
      have hk : k = .i64 := by cases k <;> first | rfl | (exact absurd h11 (by decide))
      subst hk
      cases n with
      | negSucc m => cases h13
      | ofNat m =>
        obtain rfl : m = c := Option.some.inj h13
        have hm : m ≤ 1048576 := ble_true h15
        have e1 : bytesOf 1 d = ⟨#[UInt8.ofNat d]⟩ := by
          have := bytesOf_pack ⟨#[UInt8.ofNat d]⟩
          have e2 : packL [UInt8.ofNat d] = d := by
            show 0 * 256 + (UInt8.ofNat d).toNat = d
            rw [UInt8.toNat_ofNat', Nat.mod_eq_of_lt (by omega)]; omega
          rw [show (⟨#[UInt8.ofNat d]⟩ : ByteArray).data.toList = [UInt8.ofNat d] from rfl, e2] at this
          exact this
        have e3 : repN d m = packL (List.replicate m (UInt8.ofNat d)) := by
          rw [← repN_pack, UInt8.toNat_ofNat', Nat.mod_eq_of_lt (by omega)]
        have e4 := bytesOf_pack ⟨(List.replicate m (UInt8.ofNat d)).toArray⟩
        have e5 := pack_lt ⟨(List.replicate m (UInt8.ofNat d)).toArray⟩
        have e6 : (⟨(List.replicate m (UInt8.ofNat d)).toArray⟩ : ByteArray).size = m := by simp [ByteArray.size]
        simp only [e6] at e4 e5
        refine callN_of (as := [.string ⟨#[UInt8.ofNat d]⟩, .int .i64 m]) (y := .string ⟨(List.replicate m (UInt8.ofNat d)).toArray⟩) (fun φ => denL_cons ?_ (denL_cons (by simp only [den]; rfl) (denL_nil φ))) (fun φ => ?_) (fun w => hP _ m w hm) h
        · simp only [den]
          rw [if_pos (by simpa using hd), e1]
        · simp only [den]
          rw [e3, if_pos e5, e4]
    | _ => cases h10
  · rw [e] at h6; cases h6
end Go.Abs
