/- A part of a proof about Go functions of this program: an evaluator with a memory of its own, and the proof that what it finds the model finds (C38, C39, C40, C41, C42). No conditions beyond those that each theorem names. -/
import Derived.Test.YtohmkigjifhddaaGreatDoorAbsak
set_option linter.all false
set_option autoImplicit false
set_option linter.unusedSimpArgs false
namespace Go.Abs
variable {E : Env} {P : Program} {N : Nat} {φ φ' : Phi} {w w' : World}
open Classical in
/-- the memory behind the operations of a set: the canonical one of a place, and what was made ahead of its time -/
noncomputable def Mof (ord : List Nat) (base : Nat) (Q : Nat → Dr) (S : Nat → Prop) (p0 b : Nat) : Option AObj :=
  if h : ∃ q j, p0 ≤ q ∧ ord[q]? = some j ∧ S j ∧ b = base + j then (Q (Classical.choose h + 1)).s.h.get b else (Q p0).s.h.get b
section
variable {r : Rec} {c : FC} {all : List Oper} {bs ord : List Nat} {base : Nat} {Q : Nat → Dr} {S : Nat → Prop} {p0 : Nat}
theorem Mof_late {b : Nat} (h : ∀ q j, p0 ≤ q → ord[q]? = some j → S j → b ≠ base + j) : Mof ord base Q S p0 b = (Q p0).s.h.get b := by
  unfold Mof
  rw [dif_neg]
  rintro ⟨q, j, h1, h2, h3, h4⟩
  exact h q j h1 h2 h3 h4
theorem Mof_early (H : Plan E all bs ord) {q j : Nat} (h1 : p0 ≤ q) (h2 : ord[q]? = some j) (h3 : S j) : Mof ord base Q S p0 (base + j) = (Q (q + 1)).s.h.get (base + j) := by
  have h : ∃ q j', p0 ≤ q ∧ ord[q]? = some j' ∧ S j' ∧ base + j = base + j' := ⟨q, j, h1, h2, h3, rfl⟩
  unfold Mof
  rw [dif_pos h]
  obtain ⟨j', _, k2, _, k4⟩ := Classical.choose_spec h
  have : j' = j := by omega
  subst this
  rw [H.inj k2 h2]
/-- what is known when the operations of a set were done -/
structure Inv (E : Env) (P : Program) (N : Nat) (c : FC) (all : List Oper) (ord : List Nat) (base : Nat) (Q : Nat → Dr) (φ0 : Phi) (g0 : Mem) (w0 : World) (S : Nat → Prop) (p0 : Nat) (tm : Tm) (φ : Phi) (a : Act) (w : World) : Prop where
  le : p0 ≤ ord.length
  low : ∀ q j, q < p0 → ord[q]? = some j → S j
  effs : ∀ q j o, p0 ≤ q → ord[q]? = some j → S j → all[j]? = some o → isEff (kd E o) = false
  t : TmRel P φ c tm (Q p0).s.df a
  agree : ∀ t p, p ≤ ord.length → (∀ (q j : Nat) (o : Oper), ord[q]? = some j → all[j]? = some o → o.dst = some t → (q < p ↔ S j)) → tm.get t = (Q p).s.tm.get t
  rel : Rel E N φ (Mof ord base Q S p0) w
  fresh : Fresh (Q p0).s.h.next φ (Q p0).s.h.get
  ghost : ∀ j, j < all.length → ¬ S j → φ (base + j) = none
  next : base + all.length ≤ (Q p0).s.h.next
  ext : PExt φ0 φ
  old : ∀ b, b < base → φ b = φ0 b
  frm : Frm φ0 g0 w0 φ (Mof ord base Q S p0) w
variable {φ0 : Phi} {g0 : Mem} {w0 : World} {tm : Tm} {a : Act} (T : Tr0 E P N c all bs ord base Q)
include T
theorem Tr0.find {j : Nat} (h : j < all.length) : ∃ q : Nat, ord[q]? = some j := List.getElem?_of_mem ((T.plan.all j).2 h)
theorem Mof_shift {p : Nat} (hp : p0 ≤ p) (hn : p ≤ ord.length) (hq : Quiet E all ord p0 p) (hS : ∀ q j, p0 ≤ q → q < p → ord[q]? = some j → S j) : Mof ord base Q S p0 = Mof ord base Q S p := by
  obtain ⟨_, _, r3, r4⟩ := T.range p hp hn hq
  funext b
  by_cases h : ∃ q j : Nat, ord[q]? = some j ∧ b = base + j
  · obtain ⟨q, j, h1, rfl⟩ := h
    have other : ∀ (p' q' j' : Nat), ord[q']? = some j' → base + j = base + j' → q' = q := fun p' q' j' e1 e2 => by
      have : j' = j := by omega
      subst this; exact T.plan.inj e1 h1
    by_cases hqp : p0 ≤ q
    · by_cases hqp' : q < p
      · rw [Mof_early T.plan hqp h1 (hS q j hqp hqp' h1), Mof_late (fun q' j' e1 e2 _ e4 => by have := other p q' j' e2 e4; omega), r3 q j hqp hqp' h1]
      · by_cases hs : S j
        · rw [Mof_early T.plan hqp h1 hs, Mof_early T.plan (by omega) h1 hs]
        · have no : ∀ (p' q' j' : Nat), p' ≤ q' → ord[q']? = some j' → S j' → base + j ≠ base + j' := by
            intro p' q' j' _ _ e3 e4
            have : j = j' := by omega
            exact hs (by rw [this]; exact e3)
          rw [Mof_late (no p0), Mof_late (no p)]
          symm
          exact r4 _ fun q' j' _ e1 e2 e3 => by have := other p q' j' e2 e3; omega
    · rw [Mof_late (fun q' j' e1 e2 _ e4 => by have := other p q' j' e2 e4; omega), Mof_late (fun q' j' e1 e2 _ e4 => by have := other p q' j' e2 e4; omega)]
      symm
      exact r4 _ fun q' j' e0 e1 e2 e3 => by have := other p q' j' e2 e3; omega
  · have no : ∀ (q j : Nat), ord[q]? = some j → b ≠ base + j := fun q j e1 e2 => h ⟨q, j, e1, e2⟩
    rw [Mof_late (fun q j _ e1 _ => no q j e1), Mof_late (fun q j _ e1 _ => no q j e1)]
    symm
    exact r4 b fun q j _ _ e => no q j e
theorem Inv.shift {p : Nat} (I : Inv E P N c all ord base Q φ0 g0 w0 S p0 tm φ a w) (hp : p0 ≤ p) (hn : p ≤ ord.length) (hq : Quiet E all ord p0 p) (hS : ∀ q j, p0 ≤ q → q < p → ord[q]? = some j → S j) :
    Inv E P N c all ord base Q φ0 g0 w0 S p tm φ a w := by
  have hM := Mof_shift (S := S) T hp hn hq hS
  obtain ⟨r1, r2, r3, r4⟩ := T.range p hp hn hq
  refine ⟨hn, fun q j h1 h2 => ?_, fun q j o h1 => I.effs q j o (by omega), by rw [r1]; exact I.t, I.agree, by rw [← hM]; exact I.rel, ?_, I.ghost, by rw [r2]; exact I.next, I.ext, I.old, by rw [← hM]; exact I.frm⟩
  · by_cases h : q < p0
    · exact I.low q j h h2
    · exact hS q j (by omega) h1 h2
  · rw [r2]
    intro b hb
    obtain ⟨f1, f2⟩ := I.fresh b hb
    refine ⟨f1, ?_⟩
    rw [r4 b fun q j _ _ e1 e2 => by have := T.mem e1; have := I.next; omega]
    exact f2
/-- the canonical memory of a place not far ahead lies in the world, too -/
theorem Inv.relQ {p : Nat} (I : Inv E P N c all ord base Q φ0 g0 w0 S p0 tm φ a w) (hp : p0 ≤ p) (hn : p ≤ ord.length) (hq : Quiet E all ord p0 p) :
    (∀ b o l, (Q p).s.h.get b = some o → φ b = some l → Mof ord base Q S p0 b = some o) ∧ Rel E N φ (Q p).s.h.get w ∧ Fresh (Q p).s.h.next φ (Q p).s.h.get := by
  obtain ⟨r1, r2, r3, r4⟩ := T.range p hp hn hq
  have key : ∀ b o l, (Q p).s.h.get b = some o → φ b = some l → Mof ord base Q S p0 b = some o := by
    intro b o l h1 h2
    by_cases h : ∃ q j : Nat, ord[q]? = some j ∧ b = base + j
    · obtain ⟨q, j, h3, rfl⟩ := h
      by_cases hs : S j
      · have hqp : q < p := by
          apply Decidable.byContradiction
          intro hc
          rw [T.clean p q j (by omega) h3] at h1; cases h1
        by_cases hq0 : p0 ≤ q
        · rw [Mof_early T.plan hq0 h3 hs, ← r3 q j hq0 hqp h3]; exact h1
        · rw [Mof_late fun q' j' e1 e2 _ e4 => ?_, ← r4 _ fun q' j' e0 e1 e2 e3 => ?_]
          · exact h1
          · have : j' = j := by omega
            subst this; have := T.plan.inj e2 h3; omega
          · have : j' = j := by omega
            subst this; have := T.plan.inj e2 h3; omega
      · rw [I.ghost j (T.mem h3) hs] at h2; cases h2
    · have no : ∀ (q j : Nat), ord[q]? = some j → b ≠ base + j := fun q j e1 e2 => h ⟨q, j, e1, e2⟩
      rw [Mof_late fun q j _ e1 _ => no q j e1, ← r4 b fun q j _ _ e => no q j e]; exact h1
  refine ⟨key, ⟨fun b o l h1 h2 => I.rel.objs b o l (key b o l h1 h2) h2, fun b b' o o' l l' h1 h2 h3 h4 h5 => I.rel.inj b b' o o' l l' (key b o l h1 h3) (key b' o' l' h2 h4) h3 h4 h5, I.rel.size, I.rel.glob⟩, ?_⟩
  rw [r2]
  intro b hb
  obtain ⟨f1, f2⟩ := I.fresh b hb
  refine ⟨f1, ?_⟩
  rw [r4 b fun q j _ _ e1 e2 => by have := T.mem e1; have := I.next; omega]
  exact f2
end
end Go.Abs

set_option autoImplicit false
set_option linter.unusedSimpArgs false
set_option linter.unusedSectionVars false
namespace Go.Abs
variable {E : Env} {P : Program} {N : Nat} {φ φ' : Phi} {w w' : World}
section
variable {r : Rec} {c : FC} {all : List Oper} {bs ord : List Nat} {base : Nat} {Q : Nat → Dr} {S : Nat → Prop} {p0 : Nat}
variable {φ0 : Phi} {g0 : Mem} {w0 : World} {tm : Tm} {a : Act}
theorem TmRel.putT {P : Program} {tm : Tm} {df : List ADef} {a : Act} {d : Option Nat} {v : AVal} {y : Value} (k : TmRel P φ c tm df a) (hd : ∀ t, d = some t → t < c.nt) (hv : den φ v = some y) : TmRel P φ c (putT d v tm) df (a.put d y) := by
  cases d with
  | none => exact k
  | some d => exact k.put (hd d rfl) hv
def SClosed (bs : List Nat) (S : Nat → Prop) : Prop := ∀ (j m k : Nat), S j → bs[j]? = some m → bit m k = true → S k
/-- what an operation finds -/
structure Turn (all : List Oper) (bs ord : List Nat) (S : Nat → Prop) (pI i : Nat) (o : Oper) (m : Nat) : Prop where
  pos : ord[pI]? = some i
  op : all[i]? = some o
  not : ¬ S i
  mask : bs[i]? = some m
  sub : ∀ k, bit m k = true → S k
  cl : SClosed bs S
variable {pI i m : Nat} {o : Oper} (T : Tr0 E P N c all bs ord base Q) (I : Inv E P N c all ord base Q φ0 g0 w0 S p0 tm φ a w) (U : Turn all bs ord S pI i o m)
include T U
theorem Turn.writers {q j : Nat} {oj : Oper} {t : Nat} (ht : t ∈ namesOf o) (hq : ord[q]? = some j) (hj : all[j]? = some oj) (hd : oj.dst = some t) : q < pI ↔ S j := by
  have ho := T.plan.tmps j i oj o t hj U.op hd ht
  constructor
  · intro h
    obtain ⟨m', h1, h2⟩ := T.plan.ord_lt hq U.pos h ho
    rw [U.mask] at h1; obtain rfl := Option.some.inj h1
    exact U.sub j h2
  · intro h
    apply Decidable.byContradiction
    intro hn
    by_cases he : q = pI
    · subst he
      rw [U.pos] at hq; obtain rfl := Option.some.inj hq
      exact U.not h
    · obtain ⟨m', h1, h2⟩ := T.plan.ord_lt U.pos hq (by omega) (ordered_symm ho)
      exact U.not (U.cl j m' i h h1 h2)
theorem Turn.wr_after {q j : Nat} {oj : Oper} {t : Nat} (ht : o.dst = some t) (hq : ord[q]? = some j) (hj : all[j]? = some oj) (hd : oj.dst = some t) : pI < q → ¬ S j := by
  intro h hs
  have := (U.writers T (dst_names ht) hq hj hd).2 hs
  omega
include I
theorem Inv.named : named o tm = named o (Q pI).s.tm := by
  have hle : pI ≤ ord.length := Nat.le_of_lt (List.getElem?_eq_some_iff.1 U.pos).1
  exact named_congr fun t ht => I.agree t pI hle fun q j oj h1 h2 h3 => U.writers T (opTmps_names t ht) h1 h2 h3
theorem Inv.wants : wants all tm o.guard = wants all (Q pI).s.tm o.guard := by
  have hle : pI ≤ ord.length := Nat.le_of_lt (List.getElem?_eq_some_iff.1 U.pos).1
  refine wants_congr fun j b og d hg hj hd => ?_
  obtain ⟨g1, ⟨m', g2, g3⟩, og', d', g4, g5, g6⟩ := T.plan.guard i o (j, b) U.op hg
  rw [hj] at g4; obtain rfl := Option.some.inj g4
  rw [hd] at g5; obtain rfl := Option.some.inj g5
  rw [U.mask] at g2; obtain rfl := Option.some.inj g2
  refine I.agree d pI hle fun q k ok h1 h2 h3 => ?_
  obtain rfl := g6 k ok h2 h3
  refine ⟨fun _ => U.sub _ g3, fun _ => ?_⟩
  obtain ⟨_, m2, _, k2, k3, _⟩ := (T.plan.at' pI i U.pos).mask
  rw [U.mask] at k2; obtain rfl := Option.some.inj k2
  have := k3 _ g3
  rw [List.mem_iff_getElem?] at this
  obtain ⟨x, hx⟩ := this
  rw [List.getElem?_take] at hx
  split at hx
  · next hlt => have := T.plan.inj hx h1; omega
  · cases hx
theorem Inv.pos : p0 ≤ pI := by
  apply Decidable.byContradiction
  intro h
  exact U.not (I.low pI i (by omega) U.pos)
theorem Inv.agree_step {v : AVal} (hv : (Q (pI + 1)).s.tm = putT o.dst v (Q pI).s.tm) : ∀ t p, p ≤ ord.length → (∀ (q j : Nat) (o' : Oper), ord[q]? = some j → all[j]? = some o' → o'.dst = some t → (q < p ↔ (S j ∨ j = i))) → (putT o.dst v tm).get t = (Q p).s.tm.get t := by
  intro t p hp hw
  rw [putT_get]
  by_cases hd : o.dst = some t
  · rw [if_pos hd]
    have hlt : pI < p := (hw pI i o U.pos U.op hd).2 (.inr rfl)
    rw [T.tm_same (t := t) p (pI + 1) (by omega) hp fun q j o' h1 h2 h3 h4 h5 => ?_, hv, putT_get, if_pos hd]
    rcases (hw q j o' h3 h4 h5).1 h2 with h | h
    · exact U.wr_after T hd h3 h4 h5 (by omega) h
    · subst h; have := T.plan.inj h3 U.pos; omega
  · rw [if_neg hd]
    refine I.agree t p hp fun q j o' h1 h2 h3 => ⟨fun h => ?_, fun h => (hw q j o' h1 h2 h3).2 (.inl h)⟩
    rcases (hw q j o' h1 h2 h3).1 h with h | h
    · exact h
    · subst h; rw [U.op] at h2; obtain rfl := Option.some.inj h2; exact absurd h3 hd
theorem Inv.low_step : ∀ q j, q < p0 → ord[q]? = some j → S j ∨ j = i := fun q j h1 h2 => .inl (I.low q j h1 h2)
theorem Inv.effs_step (he : isEff (kd E o) = false) : ∀ q j o', p0 ≤ q → ord[q]? = some j → (S j ∨ j = i) → all[j]? = some o' → isEff (kd E o') = false := by
  intro q j o' h1 h2 h3 h4
  rcases h3 with h3 | rfl
  · exact I.effs q j o' h1 h2 h3 h4
  · rw [U.op] at h4; obtain rfl := Option.some.inj h4; exact he
omit U in
theorem Mof_insert (hp : p0 ≤ pI) (hpos : ord[pI]? = some i) (b : Nat) : Mof ord base Q (fun j => S j ∨ j = i) p0 b = if b = base + i then (Q (pI + 1)).s.h.get b else Mof ord base Q S p0 b := by
  by_cases hb : b = base + i
  · subst hb
    rw [if_pos rfl, Mof_early T.plan hp hpos (.inr rfl)]
  · rw [if_neg hb]
    by_cases h : ∃ q j : Nat, p0 ≤ q ∧ ord[q]? = some j ∧ S j ∧ b = base + j
    · obtain ⟨q, j, h1, h2, h3, rfl⟩ := h
      rw [Mof_early T.plan h1 h2 (.inl h3), Mof_early T.plan h1 h2 h3]
    · rw [Mof_late fun q j h1 h2 h3 h4 => ?_, Mof_late fun q j h1 h2 h3 h4 => h ⟨q, j, h1, h2, h3, h4⟩]
      rcases h3 with h3 | rfl
      · exact h ⟨q, j, h1, h2, h3, h4⟩
      · exact hb h4
theorem Inv.none_at : Mof ord base Q S p0 (base + i) = none := by
  rw [Mof_late fun q j h1 h2 h3 h4 => ?_]
  · exact T.clean p0 pI i (I.pos T U) U.pos
  · have : j = i := by omega
    subst this; exact U.not h3
/-- nothing was made -/
theorem Inv.still {v : AVal} {y : Value} (he : isEff (kd E o) = false) (hh : (Q (pI + 1)).s.h = (Q pI).s.h) (hv : (Q (pI + 1)).s.tm = putT o.dst v (Q pI).s.tm) (hd : ∀ t, o.dst = some t → t < c.nt) (hy : den φ v = some y) :
    Inv E P N c all ord base Q φ0 g0 w0 (fun j => S j ∨ j = i) p0 (putT o.dst v tm) φ (a.put o.dst y) w := by
  have hM : Mof ord base Q (fun j => S j ∨ j = i) p0 = Mof ord base Q S p0 := by
    funext b
    rw [Mof_insert T I (I.pos T U) U.pos]
    split
    · next hb => subst hb; rw [hh, I.none_at T U]; exact T.clean pI pI i (Nat.le_refl _) U.pos
    · rfl
  exact ⟨I.le, I.low_step T U, I.effs_step T U he, TmRel.putT I.t hd hy, I.agree_step T U hv, by rw [hM]; exact I.rel, I.fresh, fun j h1 h2 => I.ghost j h1 fun h => h2 (.inl h), I.next, I.ext, I.old, by rw [hM]; exact I.frm⟩
/-- something was made -/
theorem Inv.made {ob : AObj} {v : AVal} {y : Value} {x : Obj} {ext : Nat} (he : isEff (kd E o) = false) (hh : (Q (pI + 1)).s.h = (Q pI).s.h.set (base + i) ob) (hv : (Q (pI + 1)).s.tm = putT o.dst v (Q pI).s.tm) (hd : ∀ t, o.dst = some t → t < c.nt)
    (hw : w'.heap = w.heap.push x) (h1 : w'.os = w.os) (h2 : w'.tape = w.tape) (h3 : w'.output = w.output) (hO : ORel E (φ.put (base + i) ⟨w.heap.size, ext⟩) ob ⟨w.heap.size, ext⟩ (some x)) (hy : den (φ.put (base + i) ⟨w.heap.size, ext⟩) v = some y) :
    Inv E P N c all ord base Q φ0 g0 w0 (fun j => S j ∨ j = i) p0 (putT o.dst v tm) (φ.put (base + i) ⟨w.heap.size, ext⟩) (a.put o.dst y) w' := by
  have hi := T.mem U.pos
  have hg := I.ghost i hi U.not
  have hN := I.none_at T U
  have hM : ∀ b, b ≠ base + i → Mof ord base Q (fun j => S j ∨ j = i) p0 b = Mof ord base Q S p0 b := fun b hb => by rw [Mof_insert T I (I.pos T U) U.pos, if_neg hb]
  have hM' : Mof ord base Q (fun j => S j ∨ j = i) p0 (base + i) = some ob := by rw [Mof_insert T I (I.pos T U) U.pos, if_pos rfl, hh, get_set, if_pos rfl]
  have hX := Phi.put_ext (φ := φ) (b := base + i) ⟨w.heap.size, ext⟩ hg
  refine ⟨I.le, I.low_step T U, I.effs_step T U he, TmRel.putT (I.t.mono hX) hd hy, I.agree_step T U hv, I.rel.new hg hN hw hM hM' hO, ?_, ?_, I.next, I.ext.trans hX, ?_, I.frm.trans (Frm.new hw h1 h2 h3 hM)⟩
  · intro b hb
    obtain ⟨f1, f2⟩ := I.fresh b hb
    exact ⟨by rw [put_other (by have := I.next; omega)]; exact f1, f2⟩
  · intro j h1 h2
    rw [put_other (fun e => h2 (.inr (by omega)))]
    exact I.ghost j h1 fun h => h2 (.inl h)
  · intro b hb
    rw [put_other (by omega)]; exact I.old b hb
end
end Go.Abs

set_option autoImplicit false
set_option linter.unusedSimpArgs false
set_option linter.unusedSectionVars false
namespace Go.Abs
variable {E : Env} {P : Program} {N : Nat} {φ φ' : Phi} {w w' : World}
section
variable {r : Rec} {c : FC} {all : List Oper} {bs ord : List Nat} {base : Nat} {Q : Nat → Dr} {S : Nat → Prop} {p0 : Nat}
variable {φ0 : Phi} {g0 : Mem} {w0 : World} {tm : Tm} {a a' : Act}
variable {pI i m : Nat} {o : Oper}
theorem quiet_upto (E : Env) (all : List Oper) (ord : List Nat) (p0 : Nat) : ∀ pI, p0 ≤ pI → pI ≤ ord.length → ∃ p1, p0 ≤ p1 ∧ p1 ≤ pI ∧ Quiet E all ord p0 p1 ∧ (p1 = pI ∨ ∃ j o, ord[p1]? = some j ∧ all[j]? = some o ∧ isEff (kd E o) = true)
  | 0, h, _ => ⟨0, by omega, by omega, fun q j o h1 h2 => by omega, .inl rfl⟩
  | pI + 1, h, hn => by
    by_cases he : p0 = pI + 1
    · exact ⟨p0, by omega, by omega, fun q j o h1 h2 => by omega, .inl he⟩
    · obtain ⟨p1, h1, h2, h3, h4⟩ := quiet_upto E all ord p0 pI (by omega) (by omega)
      rcases h4 with rfl | h4
      · by_cases hx : ∃ j o, ord[p1]? = some j ∧ all[j]? = some o ∧ isEff (kd E o) = true
        · exact ⟨p1, h1, by omega, h3, .inr hx⟩
        · refine ⟨p1 + 1, by omega, by omega, fun q j o' q1 q2 q3 q4 => ?_, .inl rfl⟩
          by_cases hq : q = p1
          · subst hq
            cases hk : isEff (kd E o') with
            | false => rfl
            | true => exact (hx ⟨j, o', q3, q4, hk⟩).elim
          · exact h3 q j o' q1 (by omega) q3 q4
      · exact ⟨p1, h1, by omega, h3, .inr h4⟩
variable (T : Tr0 E P N c all bs ord base Q) (U : Turn all bs ord S pI i o m)
include T U
/-- what did more -/
theorem Inv.more (I : Inv E P N c all ord base Q φ0 g0 w0 S pI tm φ a w) {v : AVal} {h' : Heap} {df' : List ADef} (hQ : (Q (pI + 1)).s = ⟨putT o.dst v (Q pI).s.tm, df', h'⟩)
    (G : Goes E N φ (Q pI).s.h w φ' h' w') (hT : TmRel P φ' c (putT o.dst v tm) df' a') : Inv E P N c all ord base Q φ0 g0 w0 (fun j => S j ∨ j = i) (pI + 1) (putT o.dst v tm) φ' a' w' := by
  have hlt := (List.getElem?_eq_some_iff.1 U.pos).1
  obtain ⟨key, _, _⟩ := I.relQ T (Nat.le_refl pI) (by omega) (fun q j o h1 h2 => by omega)
  have hh : (Q (pI + 1)).s.h = h' := by rw [hQ]
  have hM : ∀ b, ((∃ q j, pI + 1 ≤ q ∧ ord[q]? = some j ∧ S j ∧ b = base + j) ∧ Mof ord base Q (fun j => S j ∨ j = i) (pI + 1) b = Mof ord base Q S pI b ∧ (Q pI).s.h.get b = none ∧ φ' b = φ b) ∨
      Mof ord base Q (fun j => S j ∨ j = i) (pI + 1) b = h'.get b := by
    intro b
    by_cases h : ∃ q j : Nat, pI + 1 ≤ q ∧ ord[q]? = some j ∧ S j ∧ b = base + j
    · obtain ⟨q, j, h1, h2, h3, rfl⟩ := h
      refine .inl ⟨⟨q, j, h1, h2, h3, rfl⟩, ?_, T.clean pI q j (by omega) h2, G.old _ ?_⟩
      · rw [Mof_early T.plan h1 h2 (.inl h3), Mof_early T.plan (by omega) h2 h3]
      · have := T.mem h2; have := I.next; omega
    · refine .inr ?_
      rw [Mof_late fun q j h1 h2 h3 h4 => ?_, hh]
      rcases h3 with h3 | rfl
      · exact h ⟨q, j, h1, h2, h3, h4⟩
      · have := T.plan.inj h2 U.pos; omega
  have apart : ∀ b o l c' o₂ l₂, (Q pI).s.h.get b = none → Mof ord base Q S pI b = some o → φ b = some l → (Q pI).s.h.get c' = some o₂ → φ c' = some l₂ → l₂.blk ≠ l.blk := fun b o l c' o₂ l₂ h1 h2 h3 h4 h5 h6 => by
    have := I.rel.inj c' b o₂ o l₂ l (key c' o₂ l₂ h4 h5) h2 h5 h3 h6
    subst this; rw [h1] at h4; cases h4
  have inside : ∀ b o l, Mof ord base Q S pI b = some o → φ b = some l → l.blk < w.heap.size := fun b o l h1 h2 => by
    obtain ⟨y, hy⟩ := (I.rel.objs b o l h1 h2).2.isSome
    exact (Array.getElem?_eq_some_iff.1 hy).1
  refine ⟨by omega, ?_, ?_, by rw [hQ]; exact hT, I.agree_step T U (by rw [hQ]), ⟨?_, ?_, G.rel.size, G.rel.glob⟩, by rw [hh]; exact G.fresh, ?_, ?_, I.ext.trans G.ext, ?_, I.frm.trans ⟨G.frm.os, G.frm.tape, G.frm.output, G.frm.size, ?_, ?_⟩⟩
  · intro q j h1 h2
    by_cases hq : q = pI
    · subst hq; rw [U.pos] at h2; exact .inr (Option.some.inj h2).symm
    · exact .inl (I.low q j (by omega) h2)
  · intro q j o' h1 h2 h3 h4
    rcases h3 with h3 | rfl
    · exact I.effs q j o' (by omega) h2 h3 h4
    · have := T.plan.inj h2 U.pos; omega
  · intro b o' l h1 h2
    rcases hM b with ⟨_, e1, e2, e3⟩ | e
    · rw [e1] at h1; rw [e3] at h2
      obtain ⟨k1, k2⟩ := I.rel.objs b o' l h1 h2
      refine ⟨k1, ?_⟩
      rw [G.frm.block l.blk (inside b o' l h1 h2) fun c' o₂ l₂ q1 q2 => apart b o' l c' o₂ l₂ e2 h1 h2 q1 q2]
      exact k2.mono G.ext
    · rw [e] at h1; exact G.rel.objs b o' l h1 h2
  · have mixed : ∀ b b' o1 o2 l l', Mof ord base Q S pI b = some o1 → (Q pI).s.h.get b = none → φ b = some l → h'.get b' = some o2 → φ' b' = some l' → l.blk = l'.blk → False := fun b b' o1 o2 l l' h1 h2 h3 h4 h5 h6 => by
      rcases G.frm.from' b' o2 l' h4 h5 with h7 | ⟨c', o₂, l₂, h7, h8, h9⟩
      · have := inside b o1 l h1 h3; omega
      · exact apart b o1 l c' o₂ l₂ h2 h1 h3 h7 h8 (h9.trans h6.symm)
    intro b b' o1 o2 l l' h1 h2 h3 h4 h5
    rcases hM b with ⟨_, e1, e2, e3⟩ | e
    · rw [e1] at h1; rw [e3] at h3
      rcases hM b' with ⟨_, f1, f2, f3⟩ | f
      · rw [f1] at h2; rw [f3] at h4
        exact I.rel.inj b b' o1 o2 l l' h1 h2 h3 h4 h5
      · rw [f] at h2; exact (mixed b b' o1 o2 l l' h1 e2 h3 h2 h4 h5).elim
    · rw [e] at h1
      rcases hM b' with ⟨_, f1, f2, f3⟩ | f
      · rw [f1] at h2; rw [f3] at h4
        exact (mixed b' b o2 o1 l' l h2 f2 h4 h1 h3 h5.symm).elim
      · rw [f] at h2; exact G.rel.inj b b' o1 o2 l l' h1 h2 h3 h4 h5
  · intro j h1 h2
    rw [G.old _ (by have := I.next; omega)]
    exact I.ghost j h1 fun h => h2 (.inl h)
  · rw [hh]; exact Nat.le_trans I.next G.next
  · intro b hb
    rw [G.old _ (by have := I.next; omega)]; exact I.old b hb
  · intro B hB hn
    exact G.frm.block B hB fun b o' l h1 h2 => hn b o' l (key b o' l h1 h2) h2
  · intro b o' l h1 h2
    rcases hM b with ⟨_, e1, e2, e3⟩ | e
    · rw [e1] at h1; rw [e3] at h2; exact .inr ⟨b, o', l, h1, h2, rfl⟩
    · rw [e] at h1
      rcases G.frm.from' b o' l h1 h2 with h3 | ⟨c', o₂, l₂, h3, h4, h5⟩
      · exact .inl h3
      · exact .inr ⟨c', o₂, l₂, key c' o₂ l₂ h3 h4, h4, h5⟩
omit T U
theorem kd_defer {o : Oper} (h : kd E o ≠ .eff) : ∀ c, o.op ≠ .defer c := by
  intro c e
  apply h
  unfold kd
  rw [e]; rfl
variable {ops : Array Oper} {kind : CallKind} {ro : Option Nat} {rest : List Nat} {k : List Item} {cs : List Frame}
include T U
theorem Inv.step (hE : EnvOK E P) (hall : ops.toList = all) (hk : KindOK kind cs) (hro : ro.isSome = c.round) (I : Inv E P N c all ord base Q φ0 g0 w0 S p0 tm φ a w) :
    ∃ p1 tm' φ' a' w', Inv E P N c all ord base Q φ0 g0 w0 (fun j => S j ∨ j = i) p1 tm' φ' a' w' ∧ Steps P (lone (mkF c.f kind ro a (.inRegion ops (i :: rest) :: k)) cs w) (lone (mkF c.f kind ro a' (.inRegion ops rest :: k)) cs w') := by
  subst hall
  have hlt := (List.getElem?_eq_some_iff.1 U.pos).1
  have hp := I.pos T U
  have hnm := I.named T U
  have hwt := I.wants T U
  have ho : ops[i]? = some o := by rw [← Array.getElem?_toList]; exact U.op
  have hop : OpdsOK φ (Go.Abs.named o (Q pI).s.tm) a.eval := by rw [← hnm]; exact named_opds _ _ I.t.opds
  obtain ⟨o', m', r, hr, q1, q2, hst, _⟩ := T.at' pI i U.pos
  rw [U.op] at q1; obtain rfl := Option.some.inj q1
  rw [U.mask] at q2; obtain rfl := Option.some.inj q2
  obtain ⟨_, _, hdn⟩ := hst.same
  have qNil : Quiet E ops.toList ord p0 p0 := fun q j o h1 h2 => by omega
  have early : isEff (kd E o) = true → (∀ q j, q < pI → ord[q]? = some j → S j) := fun he q j h1 h2 => by
    obtain ⟨o2, m2, k1, k2, _, k4⟩ := (T.plan.at' pI i U.pos).mask
    rw [U.op] at k1; obtain rfl := Option.some.inj k1
    rw [U.mask] at k2; obtain rfl := Option.some.inj k2
    refine U.sub j (k4 he j ?_)
    rw [List.mem_iff_getElem?]
    exact ⟨q, by rw [List.getElem?_take, if_pos h1]; exact h2⟩
  have shift : isEff (kd E o) = true → Inv E P N c ops.toList ord base Q φ0 g0 w0 S pI tm φ a w := fun he =>
    I.shift T hp (by omega) (fun q j o2 h1 h2 h3 h4 => I.effs q j o2 h1 h3 (early he q j h2 h3) h4) fun q j _ h1 h2 => early he q j h1 h2
  cases hst with
  | off hw hpd he h1 =>
    rw [← hwt] at hw
    obtain ⟨e1, _⟩ := putD_spec hpd
    exact ⟨p0, _, φ, _, w, I.still T U he (by rw [e1]) (by rw [e1]) hdn (den_undef φ), .one (mk_op_not ho (wants_run I.t hw))⟩
  | offE hw hpd hkd h1 =>
    rw [← hwt] at hw
    obtain ⟨e1, _⟩ := putD_spec hpd
    have I' := shift (by rw [hkd]; rfl)
    obtain ⟨_, R, F⟩ := I'.relQ T (Nat.le_refl pI) (by omega) (fun q j o h1 h2 => by omega)
    exact ⟨pI + 1, _, φ, _, w, I'.more T U e1 (Goes.refl R F) (TmRel.putT I'.t hdn (den_undef φ)), .one (mk_op_not ho (wants_run I.t hw))⟩
  | pure v hw hkd hx hpd h1 =>
    rw [← hwt] at hw
    obtain ⟨e1, _⟩ := putD_spec hpd
    obtain ⟨_, R, F⟩ := I.relQ T (Nat.le_refl p0) I.le qNil
    rw [exec_pure hkd (Q pI).s.h (Q p0).s.h (Q pI).s.h.next (Q p0).s.h.next] at hx
    obtain ⟨y, k1, k2⟩ := exec_run hE R F (F _ (Nat.le_refl _)).1 hop hx
    exact ⟨p0, _, φ, _, w, I.still T U (by rw [hkd]; rfl) (by rw [e1]) (by rw [e1]) hdn k2, .one (mk_op_value ho (wants_run I.t hw) (.inr (kd_defer (E := E) (by rw [hkd]; exact Kd.noConfusion))) k1)⟩
  | read v hw hkd hx hrs hpd h1 =>
    rw [← hwt] at hw
    obtain ⟨e1, _⟩ := putD_spec hpd
    have fin : ∀ p, p0 ≤ p → p ≤ ord.length → Quiet E ops.toList ord p0 p → execT o.op E (Q p).s.h (Q p).s.h.next (Go.Abs.named o (Q pI).s.tm) = some (.val v) → ∃ y, (execOp a.eval o).run P w = .ok (.value y) w ∧ den φ v = some y := fun p h1 h2 h3 h4 => by
      obtain ⟨_, R, F⟩ := I.relQ T h1 h2 h3
      exact exec_run hE R F (F _ (Nat.le_refl _)).1 hop h4
    have : ∃ y, (execOp a.eval o).run P w = .ok (.value y) w ∧ den φ v = some y := by
      obtain ⟨p1, k1, k2, k3, k4⟩ := quiet_upto E ops.toList ord p0 pI hp (by omega)
      rcases k4 with rfl | ⟨j, oj, k4, k5, k6⟩
      · exact fin p1 k1 (by omega) k3 hx
      · by_cases he : p1 = pI
        · subst he; exact fin p1 k1 (by omega) k3 hx
        · refine fin p1 k1 (by omega) k3 (readsSame_get hrs j _ (T.past k4 k5 k6 pI (by omega) (by omega)) ?_)
          cases hb : bit m j with
          | false => rfl
          | true =>
            have := I.effs p1 j oj k1 k4 (U.sub j hb) k5
            exact absurd (this.symm.trans k6) (by simp)
    obtain ⟨y, k1, k2⟩ := this
    exact ⟨p0, _, φ, _, w, I.still T U (by rw [hkd]; rfl) (by rw [e1]) (by rw [e1]) hdn k2, .one (mk_op_value ho (wants_run I.t hw) (.inr (kd_defer (E := E) (by rw [hkd]; exact Kd.noConfusion))) k1)⟩
  | new ob v hw hkd hx hpd h1 =>
    rw [← hwt] at hw
    obtain ⟨e1, _⟩ := putD_spec hpd
    obtain ⟨_, R, F⟩ := I.relQ T (Nat.le_refl p0) I.le qNil
    rw [exec_new hkd (Q pI).s.h (Q p0).s.h (base + i)] at hx
    obtain ⟨x, ext, y, w', k1, k2, k3, k4, k5, k6, k7⟩ := exec_run hE R F (I.ghost i (T.mem U.pos) U.not) hop hx
    exact ⟨p0, _, _, _, w', I.made T U (by rw [hkd]; rfl) (by rw [e1]; rfl) (by rw [e1]; rfl) hdn k2 k3 k4 k5 k6 k7, .one (mk_op_value ho (wants_run I.t hw) (.inr (kd_defer (E := E) (by rw [hkd]; exact Kd.noConfusion))) k1)⟩
  | eff x hw hkd hx hpd h1 =>
    rw [← hwt] at hw
    rw [← hnm] at hx
    have I' := shift (by rw [hkd]; rfl)
    obtain ⟨_, R, F⟩ := I'.relQ T (Nat.le_refl pI) (by omega) (fun q j o h1 h2 => by omega)
    obtain ⟨v, df', h', e1, e2⟩ := doNx_spec hpd
    obtain ⟨φ', a', w', G, hT, hS⟩ := op_run_in (s := ⟨tm, (Q pI).s.df, (Q pI).s.h⟩) (rest := rest) (k := k) (fun φ ρ h => named_opds φ ρ h) hE hr ho (wants_run I.t hw) hx (e2 tm) hk hro ⟨I'.t, R, F⟩
    exact ⟨pI + 1, _, φ', a', w', I'.more T U e1 G hT, hS⟩
end
end Go.Abs

set_option autoImplicit false
set_option linter.unusedSimpArgs false
set_option linter.unusedSectionVars false
namespace Go.Abs
variable {E : Env} {P : Program} {N : Nat} {φ φ' : Phi} {w w' : World}
section
variable {r : Rec} {c : FC} {bs ord : List Nat} {base : Nat} {Q : Nat → Dr}
variable {φ0 : Phi} {g0 : Mem} {w0 : World}
variable {ops : Array Oper} {kind : CallKind} {ro : Option Nat} {k : List Item} {cs : List Frame}
theorem Sched.closed {all : List Oper} {L : List Nat} (H : Sched all L) (M : Masks all bs) (p : Nat) : SClosed bs (fun j => j ∈ L.take p) := by
  intro j m k hj hm hk
  refine M.closed (S := fun j => j ∈ L.take p) (fun i o hi ho e he hb => ?_) (j + 1) j (Nat.lt_succ_self j) hj m hm k hk
  rw [List.mem_iff_getElem?] at hi
  obtain ⟨q, hq⟩ := hi
  rw [List.getElem?_take] at hq
  split at hq
  · next hqp =>
    have := (H.at' q i hq).2 o ho e he hb
    rw [List.mem_iff_getElem?] at this ⊢
    obtain ⟨x, hx⟩ := this
    rw [List.getElem?_take] at hx
    split at hx
    · next hxq => exact ⟨x, by rw [List.getElem?_take, if_pos (by omega)]; exact hx⟩
    · cases hx
  · cases hq
theorem Sched.turn {L : List Nat} (H : Sched ops.toList L) (T : Tr0 E P N c ops.toList bs ord base Q) {p i : Nat} (h : L[p]? = some i) : ∃ pI o m, Turn ops.toList bs ord (fun j => j ∈ L.take p) pI i o m := by
  obtain ⟨h1, h2⟩ := H.at' p i h
  obtain ⟨pI, h3⟩ := T.find h1
  have ho : ops.toList[i]? = some ops.toList[i] := List.getElem?_eq_getElem h1
  have hl : i < bs.length := by rw [T.plan.masks.len]; exact h1
  have hm : bs[i]? = some bs[i] := List.getElem?_eq_getElem hl
  have hcl := H.closed T.plan.masks p
  refine ⟨pI, _, _, h3, ho, ?_, hm, ?_, hcl⟩
  · intro hmem
    rw [List.mem_iff_getElem?] at hmem
    obtain ⟨q, hq⟩ := hmem
    rw [List.getElem?_take] at hq
    split at hq
    · next hqp =>
      have hq' := (List.getElem?_eq_some_iff.1 hq).1
      have hp' := (List.getElem?_eq_some_iff.1 h).1
      have := (List.getElem?_inj hq' H.nodup).1 (hq.trans h.symm)
      omega
    · cases hq
  · intro k hk
    obtain ⟨f1, f2⟩ := T.plan.masks.spec i _ _ ho hm
    obtain ⟨e, he, hb, b, q1, q2⟩ := f1 k hk
    have hon := h2 _ ho e he hb
    rcases q2 with rfl | q2
    · exact hon
    · exact hcl e.on b k hon q1 q2
theorem draws (hE : EnvOK E P) (hk : KindOK kind cs) (hro : ro.isSome = c.round) {L : List Nat} (H : Sched ops.toList L) (T : Tr0 E P N c ops.toList bs ord base Q) :
    ∀ (rest : List Nat) (p p0 : Nat) (tm : Tm) (φ : Phi) (a : Act) (w : World), L.drop p = rest → Inv E P N c ops.toList ord base Q φ0 g0 w0 (fun j => j ∈ L.take p) p0 tm φ a w →
      ∃ p1 tm' φ' a' w', Inv E P N c ops.toList ord base Q φ0 g0 w0 (fun j => j ∈ L) p1 tm' φ' a' w' ∧ Steps P (lone (mkF c.f kind ro a (.inRegion ops rest :: k)) cs w) (lone (mkF c.f kind ro a' (.inRegion ops [] :: k)) cs w')
  | [], p, p0, tm, φ, a, w, hd, I => by
    have hle : L.length ≤ p := by
      apply Decidable.byContradiction
      intro hn
      have := congrArg List.length hd
      simp at this; omega
    rw [List.take_of_length_le hle] at I
    exact ⟨p0, tm, φ, a, w, I, Steps.refl _ _⟩
  | i :: rest, p, p0, tm, φ, a, w, hd, I => by
    have hi : L[p]? = some i := by
      have : (L.drop p)[0]? = some i := by rw [hd]; rfl
      rw [List.getElem?_drop, Nat.add_zero] at this; exact this
    obtain ⟨pI, o, m, U⟩ := H.turn T hi
    obtain ⟨p1, tm1, φ1, a1, w1, I1, S1⟩ := Inv.step (k := k) (rest := rest) (cs := cs) (kind := kind) (ro := ro) T U hE rfl hk hro I
    have e : (fun j => j ∈ L.take p ∨ j = i) = fun j => j ∈ L.take (p + 1) := by
      funext j
      rw [List.take_add_one, hi]
      simp
    rw [e] at I1
    obtain ⟨p2, tm2, φ2, a2, w2, I2, S2⟩ := draws hE hk hro H T rest (p + 1) p1 tm1 φ1 a1 w1 (by rw [← List.drop_drop, hd]; rfl) I1
    exact ⟨p2, tm2, φ2, a2, w2, I2, S1.trans S2⟩
end
theorem trace_code (hE : EnvOK E P) {c : FC} {id : Nat} {ops : Array Oper} {s : St} {bs ord : List Nat} {Q : Nat → Dr} (hplan : Plan E ops.toList bs ord) (e1 : Q 0 = ⟨⟨s.tm, s.df, ⟨s.h.bl, s.h.next + ops.toList.length⟩⟩, []⟩)
    (hst : ∀ (p i : Nat), ord[p]? = some i → ∃ o m r, RecOK E P N r ∧ ops.toList[i]? = some o ∧ bs[i]? = some m ∧ DrStep E r c ops.toList s.h.next i o m (Q p) (Q (p + 1)) ∧ (isEff (kd E o) = true → ∀ q j, p < q → ord[q]? = some j → (Q (p + 1)).s.h.get (s.h.next + j) = none)) :
    CodeOK E P N [.code (.region id ops true)] c s ⟨.normal, (Q ord.length).s⟩ := by
  intro φ a w kind ro k cs hk hro S
  have hf : ∀ j, φ (s.h.next + j) = none ∧ s.h.get (s.h.next + j) = none := fun j => S.fresh _ (by omega)
  have T : Tr0 E P N c ops.toList bs ord s.h.next Q := by
    refine ⟨hplan, hst, fun j => ?_, ?_⟩
    · rw [e1]; exact (hf j).2
    · rw [e1]; exact S.t.msk
  have M0 : Mof ord s.h.next Q (fun j => j ∈ ([] : List Nat)) 0 = s.h.get := by
    funext b
    rw [Mof_late fun q j _ _ h => absurd h (by simp), e1]; rfl
  have H := schedule_ok hplan (P.follows .mixedOrders) (w.tape w.drawn (.order c.f id))
  have I0 : Inv E P N c ops.toList ord s.h.next Q φ s.h.get w (fun j => j ∈ (Region.schedule (P.follows .mixedOrders) ops (w.tape w.drawn (.order c.f id))).take 0) 0 s.tm φ a { w with drawn := w.drawn + 1 } := by
    rw [List.take_zero]
    refine ⟨Nat.zero_le _, fun q j h => by omega, fun q j o _ _ h => absurd h (by simp), by rw [e1]; exact S.t, fun t p hp hw => ?_, by rw [M0]; exact ⟨S.rel.objs, S.rel.inj, S.rel.size, S.rel.glob⟩, ?_, fun j hj _ => (hf j).1, by rw [e1]; exact Nat.le_refl _, .refl _, fun _ _ => rfl, by rw [M0]; exact ⟨rfl, rfl, rfl, Nat.le_refl _, fun _ _ _ => rfl, fun b o l h1 h2 => .inr ⟨b, o, l, h1, h2, rfl⟩⟩⟩
    · rw [T.tm_same (t := t) p 0 (Nat.zero_le _) hp fun q j o _ h1 h2 h3 h4 => by have := (hw q j o h2 h3 h4).1 h1; cases this]
      rw [e1]
    · rw [e1]
      intro b hb
      have hb : s.h.next + ops.toList.length ≤ b := hb
      exact S.fresh b (by omega)
  obtain ⟨p1, tm1, φ1, a1, w1, I1, S1⟩ := draws (k := k) (cs := cs) (kind := kind) (ro := ro) hE hk hro H T (Region.schedule (P.follows .mixedOrders) ops (w.tape w.drawn (.order c.f id))) 0 0 s.tm φ a { w with drawn := w.drawn + 1 } (List.drop_zero ..) I0
  have hAll : ∀ q j, ord[q]? = some j → j ∈ Region.schedule (P.follows .mixedOrders) ops (w.tape w.drawn (.order c.f id)) := fun q j h => H.all j (T.mem h)
  have I2 := I1.shift T I1.le (Nat.le_refl ord.length) (fun q j o h1 _ h3 h4 => I1.effs q j o h1 h3 (hAll q j h3) h4) fun q j _ _ h => hAll q j h
  have Mn : Mof ord s.h.next Q (fun j => j ∈ Region.schedule (P.follows .mixedOrders) ops (w.tape w.drawn (.order c.f id))) ord.length = (Q ord.length).s.h.get := by
    funext b
    refine Mof_late fun q j h1 h2 => ?_
    have := (List.getElem?_eq_some_iff.1 h2).1; omega
  have hR := I2.rel
  have hF := I2.frm
  rw [Mn] at hR hF
  refine ⟨φ1, a1, w1, ⟨I2.ext, hR, I2.fresh, hF, Nat.le_trans (Nat.le_add_right _ _) I2.next, I2.old⟩, ?_, ?_⟩
  · refine ⟨I2.t.size, fun t v hv => I2.t.tmv t v ?_, T.msk_at ord.length (Nat.le_refl _), I2.t.df⟩
    rw [I2.agree t ord.length (Nat.le_refl _) fun q j o h1 h2 h3 => ⟨fun _ => hAll q j h1, fun _ => (List.getElem?_eq_some_iff.1 h1).1⟩]
    exact hv
  · exact .head mk_region_draw (S1.trans (.one mk_region_end))
theorem drOK (hE : EnvOK E P) (r : Rec) (hr : RecOK E P N r) : DrOK E P N r := by
  intro c id ops s s' hdr
  obtain ⟨p, h1, h2⟩ := ob_some (show ob (planL E ops.toList) (fun p => ob (drOps E r c ops.toList p.1 s.h.next p.2 ⟨⟨s.tm, s.df, ⟨s.h.bl, s.h.next + lenL ops.toList⟩⟩, []⟩) fun q => some q.s) = some s' from hdr)
  obtain ⟨q, h3, h4⟩ := ob_some h2
  obtain rfl := Option.some.inj h4
  have hplan := planL_spec h1
  obtain ⟨bs, ord⟩ := p
  simp only at h3 hplan
  obtain ⟨Q, e1, e2, e3⟩ := dr_trace h3
  rw [lenL_eq] at e1
  have := trace_code (P := P) (N := N) (c := c) (id := id) (s := s) hE hplan e1 (fun p i hp => by
    obtain ⟨g1, g2⟩ := e3 p i hp
    obtain ⟨o, m, g3, g4, g5⟩ := drOp_step g1
    exact ⟨o, m, r, hr, g3, g4, g5, fun he => g2 (by rw [isEffAt_some g3]; exact he)⟩)
  rwa [e2] at this
end Go.Abs

set_option autoImplicit false
set_option linter.unusedSimpArgs false
namespace Go.Abs
/-- the tables of a program; no interface's method is called -/
noncomputable def envP (P : Program) (gl : Nat → Nat → Option AVal) (ext : Nat → List AVal → Heap → Option CR) : Env where
  fn f := nth P.funcs.toList f
  ty t := ob (P.info? t) fun i => ob (P.underlying t) fun d => some ⟨d, i.size, i.bytes, ob i.zero (absV (nat_lit 9)), P.stoodInHeld t, P.eqGuardType P.depth t⟩
  gl := gl
  meth _ _ := none
  ext := ext
theorem envP_ok {P : Program} {gl : Nat → Nat → Option AVal} {ext : Nat → List AVal → Heap → Option CR} (h : ∀ (f : Nat) (fn : Func), P.funcs[f]? = some fn → fn.body.isSome = true → fn.name ≠ "runtime.NumGoroutine") : EnvOK (envP P gl ext) P where
  tys t i e := by
    obtain ⟨x, h1, h2⟩ := ob_some (show ob (P.info? t) (fun i => ob (P.underlying t) fun d => some (Ty.mk d i.size i.bytes (ob i.zero (absV 9)) (P.stoodInHeld t) (P.eqGuardType P.depth t))) = some i from e)
    obtain ⟨d, h3, h4⟩ := ob_some h2
    obtain rfl := Option.some.inj h4
    refine ⟨h3, ⟨x, h1, rfl, rfl, fun z hz => ?_⟩, rfl, rfl⟩
    obtain ⟨y, h5, h6⟩ := ob_some hz
    exact ⟨y, h5, fun φ => absV_den 9 y z h6 φ⟩
  fns f fn e := by
    have e : nth P.funcs.toList f = some fn := e
    rw [nth_eq, Array.getElem?_toList] at e; exact e
  body f fn e := by
    have e : nth P.funcs.toList f = some fn := e
    rw [nth_eq, Array.getElem?_toList] at e
    exact h f fn e
  meth t name f p v w e := by cases e
theorem runs {P : Program} {gl : Nat → Nat → Option AVal} {ext : Nat → List AVal → Heap → Option CR} (h : ∀ (f : Nat) (fn : Func), P.funcs[f]? = some fn → fn.body.isSome = true → fn.name ≠ "runtime.NumGoroutine") {N : Nat}
    (hX : ExtOK (envP P gl ext) P N) {n f : Nat} {args : List AVal} {m : Heap} {q : CR} (hv : run (envP P gl ext) n f args m = some q) : CallOK (envP P gl ext) P N f args m q :=
  run_ok (envP_ok h) hX (fun r hr => drOK (envP_ok h) r hr) hv
end Go.Abs
