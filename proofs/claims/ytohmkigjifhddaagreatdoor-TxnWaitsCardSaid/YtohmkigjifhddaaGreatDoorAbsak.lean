/- A part of a proof about Go functions of this program: an evaluator with a memory of its own, and the proof that what it finds the model finds (C35, C36, C37). No conditions beyond those that each theorem names. -/
import Derived.Test.YtohmkigjifhddaaGreatDoorAbsaj
import Derived.Orders
set_option linter.all false
set_option autoImplicit false
set_option linter.unusedSimpArgs false
namespace Go.Abs
variable {E : Env}
/-! real orders of a region -/
theorem bindsE_eq (e : Edge) : bindsE e = Region.binds .any e := by
  unfold bindsE Region.binds
  cases e.ground <;> rfl
theorem bindsM_eq (g : Bool) (e : Edge) : bindsM g e = Region.binds (if g then .text else .gc) e := by
  unfold bindsM Region.binds
  cases e.ground <;> cases g <;> rfl
theorem binds_any {md : Region.Mode} {e : Edge} (h : Region.binds .any e = true) : Region.binds md e = true := by
  unfold Region.binds at h ⊢
  revert h
  cases e.ground <;> simp
theorem ready_iff {md : Region.Mode} {ops : Array Oper} {listed : Array Bool} {i : Nat} : i ∈ Region.ready md ops listed ↔
    i < ops.size ∧ listed.getD i true = false ∧ ∃ o, ops[i]? = some o ∧ ∀ e ∈ o.after.toList, Region.binds md e = true → listed.getD e.on false = true := by
  unfold Region.ready
  rw [List.mem_filter, List.mem_range, Bool.and_eq_true, Bool.not_eq_true']
  constructor
  · rintro ⟨h1, h2, h3⟩
    refine ⟨h1, h2, ?_⟩
    cases ho : ops[i]? with
    | none => rw [ho] at h3; cases h3
    | some o =>
      rw [ho] at h3
      refine ⟨o, rfl, fun e he hb => ?_⟩
      have h3 : o.after.all (fun e => !Region.binds md e || listed.getD e.on false) = true := h3
      rw [← Array.all_toList, List.all_eq_true] at h3
      have := h3 e he
      rw [hb] at this
      simpa using this
  · rintro ⟨h1, h2, o, h3, h4⟩
    refine ⟨h1, h2, ?_⟩
    rw [h3]
    show o.after.all (fun e => !Region.binds md e || listed.getD e.on false) = true
    rw [← Array.all_toList, List.all_eq_true]
    intro e he
    cases hb : Region.binds md e with
    | false => rfl
    | true => rw [h4 e he hb]; rfl
/-- whatever holds of an operation once it holds of all that must come ahead of it holds of each -/
def Whole (md : Region.Mode) (ops : Array Oper) : Prop := ∀ S : Nat → Prop, (∀ i o, ops[i]? = some o → (∀ e ∈ o.after.toList, Region.binds md e = true → S e.on) → S i) → ∀ i, i < ops.size → S i
structure Lin (md : Region.Mode) (ops : Array Oper) (listed : Array Bool) (L : List Nat) : Prop where
  nodup : L.Nodup
  at' : ∀ (p i : Nat), L[p]? = some i → i < ops.size ∧ listed.getD i true = false ∧ ∀ o, ops[i]? = some o → ∀ e ∈ o.after.toList, Region.binds md e = true → listed.getD e.on false = true ∨ e.on ∈ L.take p
  all : ∀ i, i < ops.size → listed.getD i false = true ∨ i ∈ L
theorem Lin.nil {md : Region.Mode} {ops : Array Oper} (hw : Whole md ops) {listed : Array Bool} (hs : listed.size = ops.size) (h : Region.ready md ops listed = []) : Lin md ops listed [] := by
  refine ⟨List.nodup_nil, fun p i e => by simp at e, fun i hi => .inl ?_⟩
  refine hw (fun j => listed.getD j false = true) (fun i o ho hS => ?_) i hi
  have hlt := (Array.getElem?_eq_some_iff.1 ho).1
  cases hl : listed.getD i false with
  | true => rfl
  | false =>
    exfalso
    have : i ∈ Region.ready md ops listed := by
      refine ready_iff.2 ⟨hlt, ?_, o, ho, hS⟩
      simp only [Array.getD_eq_getD_getElem?] at hl ⊢
      rw [Array.getElem?_eq_getElem (by omega)] at hl ⊢
      exact hl
    rw [h] at this; cases this
theorem count_pos_of_ready {md : Region.Mode} {ops : Array Oper} {listed : Array Bool} (hs : listed.size = ops.size) {i : Nat} (h : i ∈ Region.ready md ops listed) : listed.toList[i]? = some false := by
  obtain ⟨h1, h2, _⟩ := ready_iff.1 h
  rw [Array.getElem?_toList]
  rw [Array.getD_eq_getD_getElem?, Array.getElem?_eq_getElem (by omega)] at h2
  rw [Array.getElem?_eq_getElem (by omega)]
  exact congrArg some h2
theorem lin_go {md : Region.Mode} {ops : Array Oper} (hw : Whole md ops) : ∀ (fuel t : Nat) (listed : Array Bool), listed.size = ops.size → listed.toList.count false ≤ fuel →
    Lin md ops listed (Region.linearise.go md ops fuel t listed [])
  | 0, t, listed, hs, hf => by
    show Lin md ops listed []
    refine Lin.nil hw hs ?_
    cases hr : Region.ready md ops listed with
    | nil => rfl
    | cons x xs =>
      exfalso
      have := count_pos_of_ready hs (show x ∈ Region.ready md ops listed by rw [hr]; exact List.mem_cons_self ..)
      have := List.count_pos_iff.2 (List.mem_of_getElem? this)
      omega
  | fuel + 1, t, listed, hs, hf => by
    simp only [Region.linearise.go]
    change Lin md ops listed (match (Region.ready md ops listed)[t % (Region.ready md ops listed).length]? with
      | some i => Region.linearise.go md ops fuel (t / (Region.ready md ops listed).length) (listed.setIfInBounds i true) [i]
      | none => [].reverse)
    cases hi : (Region.ready md ops listed)[t % (Region.ready md ops listed).length]? with
    | none =>
      refine Lin.nil hw hs ?_
      cases hr : Region.ready md ops listed with
      | nil => rfl
      | cons x xs =>
        rw [hr] at hi
        have hlt : t % (x :: xs).length < (x :: xs).length := Nat.mod_lt _ (by simp)
        simp at hi
        simp at hlt
        omega
    | some i =>
      have hm := List.mem_of_getElem? hi
      obtain ⟨r1, r2, o, r3, r4⟩ := ready_iff.1 hm
      have hc := count_pos_of_ready hs hm
      simp only []
      rw [linearise_go_acc, List.reverse_singleton, List.singleton_append]
      have ih := lin_go hw fuel (t / (Region.ready md ops listed).length) (listed.setIfInBounds i true) (by simp [hs]) (by
        rw [Array.toList_setIfInBounds]
        have hlt : i < listed.toList.length := (List.getElem?_eq_some_iff.1 hc).1
        rw [List.count_set hlt]
        rw [List.getElem?_eq_getElem hlt] at hc
        have := Option.some.inj hc
        rw [this]
        have hp := List.count_pos_iff.2 (show false ∈ listed.toList from this ▸ List.getElem_mem hlt)
        simp only [beq_self_eq_true, if_true, show (true == false) = false from rfl, Bool.false_eq_true, if_false]
        omega)
      have hget : ∀ (j : Nat) (d : Bool), j ≠ i → (listed.setIfInBounds i true).getD j d = listed.getD j d := fun j d hj => by
        simp only [Array.getD_eq_getD_getElem?]
        rw [Array.getElem?_setIfInBounds_ne (by omega)]
      have hself : ∀ d : Bool, (listed.setIfInBounds i true).getD i d = true := fun d => by
        simp only [Array.getD_eq_getD_getElem?]
        rw [Array.getElem?_setIfInBounds_self_of_lt (by omega)]
        rfl
      have hni : i ∉ Region.linearise.go md ops fuel (t / (Region.ready md ops listed).length) (listed.setIfInBounds i true) [] := fun h => by
        obtain ⟨p, hp⟩ := List.getElem?_of_mem h
        have := (ih.at' p i hp).2.1
        rw [hself] at this; cases this
      refine ⟨List.nodup_cons.2 ⟨hni, ih.nodup⟩, ?_, ?_⟩
      · intro p j e
        cases p with
        | zero =>
          rw [List.getElem?_cons_zero] at e; obtain rfl := Option.some.inj e
          refine ⟨r1, r2, fun o' ho' e he hb => .inl ?_⟩
          rw [r3] at ho'; obtain rfl := Option.some.inj ho'
          exact r4 e he hb
        | succ p =>
          rw [List.getElem?_cons_succ] at e
          obtain ⟨q1, q2, q3⟩ := ih.at' p j e
          have hji : j ≠ i := fun h => by subst h; rw [hself] at q2; cases q2
          refine ⟨q1, by rw [hget j true hji] at q2; exact q2, fun o' ho' e he hb => ?_⟩
          by_cases hei : e.on = i
          · exact .inr (by rw [List.take_succ_cons, hei]; exact List.mem_cons_self ..)
          · rcases q3 o' ho' e he hb with h | h
            · rw [hget _ false hei] at h; exact .inl h
            · exact .inr (by rw [List.take_succ_cons]; exact List.mem_cons_of_mem _ h)
      · intro j hj
        by_cases hji : j = i
        · exact .inr (by rw [hji]; exact List.mem_cons_self ..)
        · rcases ih.all j hj with h | h
          · rw [hget j false hji] at h; exact .inl h
          · exact .inr (List.mem_cons_of_mem _ h)
/-- an order that may be -/
structure Sched (all : List Oper) (L : List Nat) : Prop where
  nodup : L.Nodup
  at' : ∀ (p i : Nat), L[p]? = some i → i < all.length ∧ ∀ o, all[i]? = some o → ∀ e ∈ o.after.toList, bindsE e = true → e.on ∈ L.take p
  all : ∀ i, i < all.length → i ∈ L
theorem lin_sched {md : Region.Mode} {ops : Array Oper} (hw : Whole md ops) (t : Nat) : Sched ops.toList (Region.linearise md ops t) := by
  have h := lin_go hw ops.size t (Array.replicate ops.size false) (by simp) (by simp)
  have hf : ∀ (j : Nat), (Array.replicate ops.size false).getD j false = false := fun j => by
    simp only [Array.getD_eq_getD_getElem?, Array.getElem?_replicate]
    split <;> rfl
  refine ⟨h.nodup, fun p i e => ?_, fun i hi => ?_⟩
  · obtain ⟨h1, _, h3⟩ := h.at' p i e
    refine ⟨by simpa using h1, fun o ho e he hb => ?_⟩
    rw [Array.getElem?_toList] at ho
    rcases h3 o ho e he (binds_any (by rw [← bindsE_eq]; exact hb)) with q | q
    · rw [hf] at q; cases q
    · exact q
  · rcases h.all i (by simpa using hi) with q | q
    · rw [hf] at q; cases q
    · exact q
theorem whole_any {ops : Array Oper} {bs : List Nat} (M : Masks ops.toList bs) : Whole .any ops := by
  intro S hS i
  induction i using Nat.strongRecOn with
  | ind i ih =>
    intro hi
    have ho : ops[i]? = some ops[i] := Array.getElem?_eq_getElem hi
    refine hS i _ ho fun e he hb => ?_
    have hl : i < bs.length := by rw [M.len]; simpa using hi
    have := (M.spec i ops[i] bs[i] (by rw [Array.getElem?_toList]; exact ho) (List.getElem?_eq_getElem hl)).2 e he (by rw [bindsE_eq]; exact hb)
    exact ih e.on this.1 (by omega)
theorem firstR_spec {done : Nat} : ∀ {ms : List Nat} {k i : Nat}, firstR done ms k = some i → k ≤ i ∧ ∃ m, ms[i - k]? = some m ∧ ∀ j, bit m j = true → bit done j = true
  | [], k, i, h => by cases h
  | m :: ms, k, i, h => by
    have h : ife (ife (bit done k) false (Nat.beq (Nat.lor m done) done)) (some k) (firstR done ms (k + 1)) = some i := h
    rw [ife_eq] at h
    split at h
    · next hc =>
      obtain rfl := Option.some.inj h
      refine ⟨Nat.le_refl _, m, by rw [Nat.sub_self]; rfl, fun j hj => ?_⟩
      rw [ife_eq] at hc
      split at hc
      · cases hc
      · rw [← beq_true hc, bit_lor, hj]; rfl
    · obtain ⟨h1, m', h2, h3⟩ := firstR_spec h
      refine ⟨by omega, m', ?_, h3⟩
      rw [show i - k = (i - (k + 1)) + 1 from by omega, List.getElem?_cons_succ]; exact h2
theorem greedy_spec {ms : List Nat} {S : Nat → Prop} (hS : ∀ (i m : Nat), ms[i]? = some m → (∀ j, bit m j = true → S j) → S i) : ∀ (n done : Nat), greedy ms n done = true → (∀ j, bit done j = true → S j) → ∀ i, i < ms.length → S i
  | 0, done, h, hd, i, hi => by
    have h : Nat.beq done (2 ^ (lenL ms) - 1) = true := h
    refine hd i ?_
    rw [beq_true h, lenL_eq, bit_eq, Nat.testBit_two_pow_sub_one]
    exact decide_eq_true hi
  | n + 1, done, h, hd, i, hi => by
    have h : Option.rec (motive := fun _ => Bool) false (fun i => greedy ms n (setBit done i)) (firstR done ms 0) = true := h
    obtain ⟨k, h1, h2⟩ := opt_rec_true h
    obtain ⟨_, m, h3, h4⟩ := firstR_spec h1
    refine greedy_spec hS n _ h2 (fun j hj => ?_) i hi
    rw [bit_set] at hj
    rcases Bool.or_eq_true_iff.1 hj with h | h
    · exact hd j h
    · obtain rfl := of_decide_eq_true h
      exact hS k m h3 fun j hj => hd j (h4 j hj)
theorem mapN_eq {α : Type} (f : α → Nat) : ∀ l : List α, mapN f l = l.map f
  | [] => rfl
  | a :: l => congrArg (f a :: ·) (mapN_eq f l)
theorem direct_spec (g : Bool) : ∀ (l : List Edge) (j : Nat), bit (direct g l) j = true → ∃ e ∈ l, bindsM g e = true ∧ e.on = j
  | [], j, h => by
    have h : bit 0 j = true := h
    rw [bit_zero] at h; cases h
  | e :: l, j, h => by
    have h : bit (ife (bindsM g e) (setBit (direct g l) e.on) (direct g l)) j = true := h
    rw [ife_eq] at h
    split at h
    · next hb =>
      rw [bit_set] at h
      rcases Bool.or_eq_true_iff.1 h with h | h
      · obtain ⟨e', h1, h2⟩ := direct_spec g l j h
        exact ⟨e', List.mem_cons_of_mem _ h1, h2⟩
      · exact ⟨e, List.mem_cons_self .., hb, of_decide_eq_true h⟩
    · obtain ⟨e', h1, h2⟩ := direct_spec g l j h
      exact ⟨e', List.mem_cons_of_mem _ h1, h2⟩
theorem whole_topo {ops : Array Oper} (g : Bool) (h : topoM g ops.toList = true) : Whole (if g then .text else .gc) ops := by
  intro S hS i hi
  unfold topoM at h
  rw [mapN_eq] at h
  refine greedy_spec (S := S) (fun i m hm hj => ?_) _ _ h (fun j hj => by rw [bit_zero] at hj; cases hj) i (by simpa using hi)
  rw [List.getElem?_map] at hm
  cases ho : ops.toList[i]? with
  | none => rw [ho] at hm; cases hm
  | some o =>
    rw [ho] at hm
    obtain rfl := Option.some.inj hm
    rw [Array.getElem?_toList] at ho
    refine hS i o ho fun e he hb => hj e.on ?_
    rw [← bindsM_eq] at hb
    show bit (direct g o.after.toList) e.on = true
    revert he
    generalize o.after.toList = l
    intro he
    induction l with
    | nil => cases he
    | cons a l ih =>
      show bit (ife (bindsM g a) (setBit (direct g l) a.on) (direct g l)) e.on = true
      rw [ife_eq]
      rcases List.mem_cons.1 he with rfl | he
      · rw [if_pos hb, bit_set]; simp
      · split
        · rw [bit_set, ih he]; rfl
        · exact ih he
theorem departsL_of {ops : Array Oper} (h : Region.departs ops = true) : departsL ops.toList = true := by
  unfold Region.departs at h
  rw [← Array.any_toList] at h
  revert h
  generalize ops.toList = l
  intro h
  induction l with
  | nil => cases h
  | cons o l ih =>
    show ife (allL (fun _ e => bindsE e) o.after.toList 0) (departsL l) true = true
    rw [ife_eq]
    split
    · next ha =>
      rw [List.any_cons, Bool.or_eq_true_iff] at h
      rcases h with h | h
      · exfalso
        rw [← Array.any_toList, List.any_eq_true] at h
        obtain ⟨e, he, hb⟩ := h
        obtain ⟨k, hk⟩ := List.getElem?_of_mem he
        have := allL_get ha k e hk
        rw [bindsE_eq] at this
        rw [this] at hb; cases hb
      · exact ih h
    · rfl
theorem schedule_ok {ops : Array Oper} {bs ord : List Nat} (h : Plan E ops.toList bs ord) (mixed : Bool) (t : Nat) : Sched ops.toList (Region.schedule mixed ops t) := by
  unfold Region.schedule
  split
  · exact lin_sched (whole_any h.masks) t
  · next hd =>
    have hd : Region.departs ops = true := by
      cases hdd : Region.departs ops with
      | true => rfl
      | false => rw [hdd] at hd; simp at hd
    have ht := h.topo
    unfold topoOK at ht
    rw [ife_eq, if_pos (departsL_of hd)] at ht
    obtain ⟨h1, h2⟩ := ife_and ht
    split
    · exact lin_sched (whole_topo true h1) _
    · exact lin_sched (whole_topo false h2) _
end Go.Abs

set_option autoImplicit false
set_option linter.unusedSimpArgs false
namespace Go.Abs
variable {E : Env} {P : Program} {N : Nat} {φ φ' : Phi} {w w' : World}
/-! the same value -/
theorem iff2_true {a b : Bool} (h : iff2 a b = true) : a = b := by cases a <;> cases b <;> first | rfl | cases h
theorem capEq_true {c c' : Cap} (h : capEq c c' = true) : c = c' := by
  cases c with
  | ex n =>
    cases c' with
    | ex n' => rw [beq_true (show Nat.beq n n' = true from h)]
    | _ => cases h
  | op n =>
    cases c' with
    | op n' => rw [beq_true (show Nat.beq n n' = true from h)]
    | _ => cases h
  | cut n x =>
    cases c' with
    | cut n' x' =>
      obtain ⟨h1, h2⟩ := ife_and (show ife (Nat.beq n n') (Nat.beq x x') false = true from h)
      rw [beq_true h1, beq_true h2]
    | _ => cases h
theorem same0_true {x y : AVal} (h : same0 x y = true) : x = y := by
  cases x with
  | b p =>
    have h' : sameB p y = true := h
    unfold sameB at h'
    obtain ⟨c, h1, h2⟩ := opt_rec_true h'
    rw [asB_some h1, iff2_true h2]
  | i k n =>
    have h' : sameI k n y = true := h
    unfold sameI at h'
    rcases asI_cases y with ⟨k', n', rfl, e⟩ | e
    · rw [e] at h'
      obtain ⟨h1, h2⟩ := ife_and (show ife (kEq k k') (eqI n n') false = true from h')
      rw [eqI_eq] at h2
      have hk : k = k' := by
        have := beq_true (show Nat.beq (kNo k) (kNo k') = true from h1)
        cases k <;> cases k' <;> first | rfl | cases this
      rw [hk, show n = n' by simpa using h2]
    · rw [e] at h'; cases h'
  | s l n =>
    have h' : sameS l n y = true := h
    unfold sameS at h'
    rcases asS_cases y with ⟨k', n', rfl, e⟩ | e
    · rw [e] at h'
      obtain ⟨h1, h2⟩ := ife_and (show ife (Nat.beq l k') (Nat.beq n n') false = true from h')
      rw [beq_true h1, beq_true h2]
    · rw [e] at h'; cases h'
  | p0 =>
    have h' : s1P0 y = true := h
    unfold s1P0 at h'
    rcases asP_cases y with ⟨rfl, e⟩ | ⟨b, o, rfl, e⟩ | ⟨b, o, rfl, e⟩ | e
    · rfl
    · rw [e] at h'; cases h'
    · rw [e] at h'; cases h'
    · rw [e] at h'; cases h'
  | p a o =>
    have h' : s1P y a o = true := h
    unfold s1P at h'
    rcases asP_cases y with ⟨rfl, e⟩ | ⟨b, o', rfl, e⟩ | ⟨b, o', rfl, e⟩ | e
    · rw [e] at h'; cases h'
    · rw [e] at h'
      obtain ⟨h1, h2⟩ := ife_and (show ife (Nat.beq a b) (Nat.beq o o') false = true from h')
      rw [beq_true h1, beq_true h2]
    · rw [e] at h'; cases h'
    · rw [e] at h'; cases h'
  | g a o =>
    have h' : s1G y a o = true := h
    unfold s1G at h'
    rcases asP_cases y with ⟨rfl, e⟩ | ⟨b, o', rfl, e⟩ | ⟨b, o', rfl, e⟩ | e
    · rw [e] at h'; cases h'
    · rw [e] at h'; cases h'
    · rw [e] at h'
      obtain ⟨h1, h2⟩ := ife_and (show ife (Nat.beq a b) (Nat.beq o o') false = true from h')
      rw [beq_true h1, beq_true h2]
    · rw [e] at h'; cases h'
  | sl0 =>
    have h' : s1Sl0 y = true := h
    unfold s1Sl0 at h'
    rcases asSl_cases y with ⟨rfl, e⟩ | ⟨b, o', l', c', rfl, e⟩ | e
    · rfl
    · rw [e] at h'; cases h'
    · rw [e] at h'; cases h'
  | sl a o l c =>
    have h' : s1Sl y a o l c = true := h
    unfold s1Sl at h'
    rcases asSl_cases y with ⟨rfl, e⟩ | ⟨b, o', l', c', rfl, e⟩ | e
    · rw [e] at h'; cases h'
    · rw [e] at h'
      obtain ⟨h1, h2⟩ := ife_and (show ife (Nat.beq a b) (ife (Nat.beq o o') (ife (Nat.beq l l') (capEq c c') false) false) false = true from h')
      obtain ⟨h3, h4⟩ := ife_and h2
      obtain ⟨h5, h6⟩ := ife_and h4
      rw [beq_true h1, beq_true h3, beq_true h5, capEq_true h6]
    · rw [e] at h'; cases h'
  | m0 =>
    have h' : s1M0 y = true := h
    unfold s1M0 at h'
    rcases asM_cases y with ⟨rfl, e⟩ | ⟨b, rfl, e⟩ | e
    · rfl
    · rw [e] at h'; cases h'
    · rw [e] at h'; cases h'
  | m a =>
    have h' : s1M y a = true := h
    unfold s1M at h'
    rcases asM_cases y with ⟨rfl, e⟩ | ⟨b, rfl, e⟩ | e
    · rw [e] at h'; cases h'
    · rw [e] at h'; rw [beq_true (show Nat.beq a b = true from h')]
    · rw [e] at h'; cases h'
  | f0 =>
    have h' : s1F0 y = true := h
    unfold s1F0 at h'
    rcases asF_cases y with ⟨rfl, e⟩ | ⟨b, o', l', rfl, e⟩ | e
    · rfl
    · rw [e] at h'; cases h'
    · rw [e] at h'; cases h'
  | i0 =>
    have h' : isI0 y = true := h
    unfold isI0 at h'
    rcases asIc_cases y with ⟨rfl, e⟩ | ⟨t, x, rfl, e⟩ | e
    · rfl
    · rw [e] at h'; cases h'
    · rw [e] at h'; cases h'
  | f a c d => cases h
  | ic t v => cases h
  | agg l => cases h
  | tup l => cases h
theorem all2_eq {p : AVal → AVal → Bool} (hp : ∀ x y, p x y = true → x = y) : ∀ {l m : List AVal}, all2 p l m = true → l = m
  | [], [], _ => rfl
  | [], _ :: _, h => by cases h
  | _ :: _, [], h => by cases h
  | x :: l, y :: m, h => by
    obtain ⟨h1, h2⟩ := ife_and (show ife (p x y) (all2 p l m) false = true from h)
    rw [hp x y h1, all2_eq hp h2]
theorem fnEq_true {f g : Fn} (h : fnEq f g = true) : f = g := by
  cases f with
  | func a =>
    cases g with
    | func b => rw [beq_true (show Nat.beq a b = true from h)]
    | _ => cases h
  | _ => cases h
theorem same1_true {x y : AVal} (h : same1 x y = true) : x = y := by
  unfold same1 at h
  rcases asF_cases x with ⟨rfl, e⟩ | ⟨fn, a, c, rfl, e⟩ | e
  · rw [e] at h; exact same0_true h
  · rw [e] at h
    have h' : s1F y fn a c = true := h
    unfold s1F at h'
    rcases asF_cases y with ⟨rfl, e⟩ | ⟨fn', a', c', rfl, e⟩ | e
    · rw [e] at h'; cases h'
    · rw [e] at h'
      obtain ⟨h1, h2⟩ := ife_and (show ife (fnEq fn fn') (ife (all2 same0 a a') (all2 same0 c c') false) false = true from h')
      obtain ⟨h3, h4⟩ := ife_and h2
      rw [fnEq_true h1, all2_eq (fun _ _ q => same0_true q) h3, all2_eq (fun _ _ q => same0_true q) h4]
    · rw [e] at h'; cases h'
  · rw [e] at h; exact same0_true h
theorem sameV_true {x y : AVal} (h : sameV x y = true) : x = y := by
  unfold sameV at h
  cases ha : asAgg x with
  | some l =>
    rw [ha] at h
    obtain ⟨m, h1, h2⟩ := opt_rec_true (show Option.rec (motive := fun _ => Bool) false (fun m => all2 same1 l m) (asAgg y) = true from h)
    rw [asAgg_some ha, asAgg_some h1, all2_eq (fun _ _ q => same1_true q) h2]
  | none =>
    rw [ha] at h
    cases ht : asTup x with
    | some l =>
      rw [ht] at h
      obtain ⟨m, h1, h2⟩ := opt_rec_true (show Option.rec (motive := fun _ => Bool) false (fun m => all2 same1 l m) (asTup y) = true from h)
      rw [asTup_some ht, asTup_some h1, all2_eq (fun _ _ q => same1_true q) h2]
    | none =>
      rw [ht] at h
      exact same1_true h
/-- a reading in a memory ahead -/
theorem readsSame_get {tm : Tm} {op : Op} {v : AVal} {m : Nat} : ∀ {hs : List (Nat × Heap)}, readsSame E tm op v m hs = true → ∀ i h, (i, h) ∈ hs → bit m i = false → execT op E h h.next tm = some (.val v)
  | [], _, _, _, hm, _ => by cases hm
  | p :: hs, hr, i, h, hm, hb => by
    have hr : ife (bit m p.1) (readsSame E tm op v m hs) (ife (Option.rec (motive := fun _ => Bool) false (fun u => sameV v u) (ob (execT op E p.2 p.2.next tm) asVal)) (readsSame E tm op v m hs) false) = true := hr
    rw [ife_eq] at hr
    split at hr
    · next hc =>
      rcases List.mem_cons.1 hm with e | hm
      · rw [← e] at hc; rw [hb] at hc; cases hc
      · exact readsSame_get hr i h hm hb
    · obtain ⟨h1, h2⟩ := ife_and hr
      rcases List.mem_cons.1 hm with e | hm
      · obtain ⟨u, h3, h4⟩ := opt_rec_true h1
        obtain ⟨x, h5, h6⟩ := ob_some h3
        obtain rfl := asVal_some h6
        rw [← e] at h5
        rw [sameV_true h4]; exact h5
      · exact readsSame_get h2 i h hm hb
/-! temporaries that are named -/
theorem pickT_get (tm : Tm) (k : Nat) (v : AVal) : ∀ l : List Nat, assoc k (pickT tm l) = some v → tm.get k = some v
  | [], h => by cases h
  | t :: l, h => by
    have e : pickT tm (t :: l) = Option.rec (motive := fun _ => List (Nat × AVal)) (pickT tm l) (fun v => (t, v) :: pickT tm l) (tm.get t) := rfl
    rw [e] at h
    cases ht : tm.get t with
    | none => rw [ht] at h; exact pickT_get tm k v l h
    | some u =>
      rw [ht] at h
      have h : ife (Nat.beq t k) (some u) (assoc k (pickT tm l)) = some v := h
      rw [ife_eq] at h
      split at h
      · next hk => rw [← beq_true hk, ht]; exact h
      · exact pickT_get tm k v l h
theorem named_get {o : Oper} {tm : Tm} {k : Nat} {v : AVal} (h : (named o tm).get k = some v) : tm.get k = some v := by
  have h : tmGet k 0 .e (pickT tm (opTmps o)) = some v := h
  unfold tmGet at h
  rw [ife_eq, bit_zero, if_neg (by simp)] at h
  exact pickT_get tm k v _ h
theorem named_opds {o : Oper} {tm : Tm} (φ : Phi) (ρ : Operand → Value) (h : OpdsOK φ tm ρ) : OpdsOK φ (named o tm) ρ := by
  intro x v e
  cases x with
  | tmp t => exact h (.tmp t) v (named_get (show (named o tm).get t = some v from e))
  | const c => exact h (.const c) v e
  | global g => exact h (.global g) v e
  | func f => exact h (.func f) v e
theorem pickT_congr {tm tm' : Tm} : ∀ l : List Nat, (∀ t ∈ l, tm.get t = tm'.get t) → pickT tm l = pickT tm' l
  | [], _ => rfl
  | t :: l, h => by
    have e : ∀ tm : Tm, pickT tm (t :: l) = Option.rec (motive := fun _ => List (Nat × AVal)) (pickT tm l) (fun v => (t, v) :: pickT tm l) (tm.get t) := fun _ => rfl
    rw [e, e, h t (List.mem_cons_self ..), pickT_congr l fun t ht => h t (List.mem_cons_of_mem _ ht)]
theorem named_congr {o : Oper} {tm tm' : Tm} (h : ∀ t ∈ opTmps o, tm.get t = tm'.get t) : named o tm = named o tm' := by
  unfold named; rw [pickT_congr _ h]
theorem tmpsOf_mono {l l' : List Nat} (h : ∀ t ∈ l, t ∈ l') (x : Operand) : ∀ t ∈ tmpsOf l x, t ∈ tmpsOf l' x := by
  cases x with
  | tmp k =>
    intro t ht
    rcases List.mem_cons.1 (show t ∈ k :: l from ht) with rfl | ht
    · exact List.mem_cons_self ..
    · exact List.mem_cons_of_mem _ (h t ht)
  | _ => exact h
theorem tmpsL_mono {l l' : List Nat} (h : ∀ t ∈ l, t ∈ l') : ∀ xs : List Operand, ∀ t ∈ List.rec (motive := fun _ => List Nat) l (fun x _ ih => tmpsOf ih x) xs, t ∈ List.rec (motive := fun _ => List Nat) l' (fun x _ ih => tmpsOf ih x) xs
  | [] => h
  | x :: xs => tmpsOf_mono (tmpsL_mono h xs) x
theorem opTmps_names {o : Oper} : ∀ t ∈ opTmps o, t ∈ namesOf o := tmpsL_mono (fun _ h => by cases h) _
theorem tmpsL_base {l : List Nat} : ∀ xs : List Operand, ∀ t ∈ l, t ∈ List.rec (motive := fun _ => List Nat) l (fun x _ ih => tmpsOf ih x) xs
  | [], _, h => h
  | x :: xs, t, h => by
    have := tmpsL_base xs t h
    cases x with
    | tmp k => exact List.mem_cons_of_mem _ this
    | _ => exact this
theorem dst_names {o : Oper} {d : Nat} (h : o.dst = some d) : d ∈ namesOf o := by
  refine tmpsL_base _ d ?_
  rw [h]; exact List.mem_cons_self ..
/-! one temporary more -/
noncomputable def putT (d : Option Nat) (v : AVal) (tm : Tm) : Tm := match d with | none => tm | some d => tm.put d v
theorem putT_get {d : Option Nat} {v : AVal} {tm : Tm} {t : Nat} : (putT d v tm).get t = if d = some t then some v else tm.get t := by
  cases d with
  | none => rw [if_neg (by simp)]; rfl
  | some d =>
    show (tm.put d v).get t = _
    rw [Tm.get_put]
    by_cases h : t = d
    · subst h; rw [if_pos rfl, if_pos rfl]
    · rw [if_neg h, if_neg (fun e => h (Option.some.inj e).symm)]
theorem putD_spec {c : FC} {s s' : St} {d : Option Nat} {v : AVal} (h : putD c s d v = some s') : s' = ⟨putT d v s.tm, s.df, s.h⟩ ∧ ∀ tm df h', putD c ⟨tm, df, h'⟩ d v = some ⟨putT d v tm, df, h'⟩ := by
  obtain ⟨tm, df, hh⟩ := s
  cases d with
  | none => obtain rfl := Option.some.inj h; exact ⟨rfl, fun _ _ _ => rfl⟩
  | some d =>
    obtain ⟨h1, h2⟩ := chk_some (show chk (lt d c.nt) (some (stPut d v ⟨tm, df, hh⟩)) = some s' from h)
    obtain rfl := Option.some.inj h2
    exact ⟨rfl, fun tm df h' => by show chk (lt d c.nt) (some (stPut d v ⟨tm, df, h'⟩)) = _; rw [h1]; rfl⟩
theorem doNx_spec {x : Nx} {r : Rec} {c : FC} {s s' : St} {d : Option Nat} (h : doNx x r c s d = some s') : ∃ v df h', s' = ⟨putT d v s.tm, df, h'⟩ ∧ ∀ tm, doNx x r c ⟨tm, s.df, s.h⟩ d = some ⟨putT d v tm, df, h'⟩ := by
  cases x with
  | val v => obtain ⟨h1, h2⟩ := putD_spec (show putD c s d v = some s' from h); exact ⟨v, _, _, h1, fun tm => h2 _ _ _⟩
  | new o v => obtain ⟨h1, h2⟩ := putD_spec (show putD c (stHeap (s.h.new o) s) d v = some s' from h); exact ⟨v, _, _, h1, fun tm => h2 _ _ _⟩
  | eff v h' => obtain ⟨h1, h2⟩ := putD_spec (show putD c (stHeap h' s) d v = some s' from h); exact ⟨v, _, _, h1, fun tm => h2 _ _ _⟩
  | enter f args =>
    obtain ⟨q, h3, h4⟩ := ob_some (show ob (r.call f args s.h) (nCR c s d) = some s' from h)
    obtain ⟨v, h'⟩ := q
    obtain ⟨h1, h2⟩ := putD_spec (show putD c (stHeap h' s) d v = some s' from h4)
    refine ⟨v, _, _, h1, fun tm => ?_⟩
    show ob (r.call f args s.h) (nCR c ⟨tm, s.df, s.h⟩ d) = _
    rw [h3]; exact h2 _ _ _
  | round l args =>
    obtain ⟨q, h3, h4⟩ := ob_some (show ob (r.round l args s.h) (nCR c s d) = some s' from h)
    obtain ⟨v, h'⟩ := q
    obtain ⟨h1, h2⟩ := putD_spec (show putD c (stHeap h' s) d v = some s' from h4)
    refine ⟨v, _, _, h1, fun tm => ?_⟩
    show ob (r.round l args s.h) (nCR c ⟨tm, s.df, s.h⟩ d) = _
    rw [h3]; exact h2 _ _ _
  | defer v => obtain ⟨h1, h2⟩ := putD_spec (show putD c ⟨s.tm, .fn v :: s.df, s.h⟩ d undefA = some s' from h); exact ⟨_, _, _, h1, fun tm => h2 _ _ _⟩
theorem wants_congr {all : List Oper} {tm tm' : Tm} {g : Option (Nat × Bool)} (h : ∀ j b og d, g = some (j, b) → all[j]? = some og → og.dst = some d → tm.get d = tm'.get d) : wants all tm g = wants all tm' g := by
  cases g with
  | none => rfl
  | some g =>
    obtain ⟨j, b⟩ := g
    show wantG all tm (j, b) = wantG all tm' (j, b)
    unfold wantG
    simp only
    cases hj : nth all j with
    | none => rfl
    | some og =>
      rw [nth_eq] at hj
      show ob og.dst _ = ob og.dst _
      cases hd : og.dst with
      | none => rfl
      | some d =>
        show ob (tm.get d) _ = ob (tm'.get d) _
        rw [h j b og d rfl hj hd]
end Go.Abs

set_option autoImplicit false
set_option linter.unusedSimpArgs false
namespace Go.Abs
variable {E : Env} {P : Program} {N : Nat} {φ φ' : Phi} {w w' : World}
/-! the canonical run of a drawn region -/
structure Tr0 (E : Env) (P : Program) (N : Nat) (c : FC) (all : List Oper) (bs ord : List Nat) (base : Nat) (Q : Nat → Dr) : Prop where
  plan : Plan E all bs ord
  at' : ∀ (p i : Nat), ord[p]? = some i → ∃ o m r, RecOK E P N r ∧ all[i]? = some o ∧ bs[i]? = some m ∧ DrStep E r c all base i o m (Q p) (Q (p + 1)) ∧ (isEff (kd E o) = true → ∀ q j, p < q → ord[q]? = some j → (Q (p + 1)).s.h.get (base + j) = none)
  start : ∀ j, (Q 0).s.h.get (base + j) = none
  msk : ∀ k v, (Q 0).s.tm.base.get k = some v → bit (Q 0).s.tm.mask k = true ∧ k < c.nt
section
variable {r : Rec} {c : FC} {all : List Oper} {bs ord : List Nat} {base : Nat} {Q : Nat → Dr}
theorem Plan.inj (H : Plan E all bs ord) {p q i : Nat} (h : ord[p]? = some i) (k : ord[q]? = some i) : p = q := by
  have key : ∀ {p q : Nat}, p < q → ord[p]? = some i → ord[q]? = some i → False := fun {p q} hpq h k => by
    refine (H.at' q i k).new ?_
    rw [List.mem_iff_getElem?]
    exact ⟨p, by rw [List.getElem?_take, if_pos hpq]; exact h⟩
  rcases Nat.lt_trichotomy p q with e | e | e
  · exact (key e h k).elim
  · exact e
  · exact (key e k h).elim
theorem Plan.ord_lt (H : Plan E all bs ord) {p q i j : Nat} (hi : ord[p]? = some i) (hj : ord[q]? = some j) (hpq : p < q) (ho : ordered bs i j = true) : ∃ m, bs[j]? = some m ∧ bit m i = true := by
  have hne : i ≠ j := fun e => by subst e; have := H.inj hi hj; omega
  rcases Nat.lt_or_gt_of_ne hne with e | e
  · exact ordered_spec ho e
  · exfalso
    obtain ⟨m, h1, h2⟩ := ordered_spec' ho e
    obtain ⟨o, m', _, h4, h5, _⟩ := (H.at' p i hi).mask
    rw [h1] at h4; obtain rfl := Option.some.inj h4
    have := h5 j h2
    rw [List.mem_iff_getElem?] at this
    obtain ⟨k, hk⟩ := this
    rw [List.getElem?_take] at hk
    split at hk
    · next hkp => have := H.inj hk hj; omega
    · cases hk
theorem ordered_symm {bs : List Nat} {i j : Nat} (h : ordered bs i j = true) : ordered bs j i = true := by
  unfold ordered at h ⊢
  rw [ife_eq] at h ⊢
  by_cases h1 : lt i j = true
  · rw [if_pos h1] at h
    rw [if_neg (fun e => by have := lt_true h1; have := lt_true e; omega), ife_eq, if_pos h1]; exact h
  · rw [if_neg h1, ife_eq] at h
    by_cases h2 : lt j i = true
    · rw [if_pos h2] at h; rw [if_pos h2]; exact h
    · rw [if_neg h2, ife_eq, if_neg h1]
/-- what a step turns -/
theorem DrStep.same {i m : Nat} {o : Oper} {q q' : Dr} (h : DrStep E r c all base i o m q q') : ∃ v, q'.s.tm = putT o.dst v q.s.tm ∧ (∀ d, o.dst = some d → d < c.nt) := by
  have key : ∀ {s s' : St} {v : AVal}, putD c s o.dst v = some s' → s'.tm = putT o.dst v s.tm ∧ (∀ d, o.dst = some d → d < c.nt) := fun {s s' v} h => by
    refine ⟨by rw [(putD_spec h).1], fun d hd => ?_⟩
    rw [hd] at h
    exact lt_true (chk_some (show chk (lt d c.nt) (some (stPut d v s)) = some s' from h)).1
  cases h with
  | off hw hp => exact ⟨_, key hp⟩
  | offE hw hp => exact ⟨_, key hp⟩
  | pure v hw hk hx hp => exact ⟨_, key hp⟩
  | read v hw hk hx hr hp => exact ⟨_, key hp⟩
  | new ob v hw hk hx hp => exact ⟨_, key (s := stHeap (q.s.h.set (base + i) ob) q.s) hp⟩
  | eff x hw hk hx hp =>
    cases x with
    | val v => exact ⟨_, key hp⟩
    | new o' v => exact ⟨_, key (s := stHeap (q.s.h.new o') q.s) hp⟩
    | eff v h' => exact ⟨_, key (s := stHeap h' q.s) hp⟩
    | enter f args =>
      obtain ⟨q1, h3, h4⟩ := ob_some (show ob (r.call f args q.s.h) (nCR c q.s o.dst) = some q'.s from hp)
      obtain ⟨v, h'⟩ := q1
      exact ⟨_, key (s := stHeap h' q.s) h4⟩
    | round l args =>
      obtain ⟨q1, h3, h4⟩ := ob_some (show ob (r.round l args q.s.h) (nCR c q.s o.dst) = some q'.s from hp)
      obtain ⟨v, h'⟩ := q1
      exact ⟨_, key (s := stHeap h' q.s) h4⟩
    | defer v => exact ⟨_, key (s := ⟨q.s.tm, .fn v :: q.s.df, q.s.h⟩) hp⟩
theorem DrStep.quiet {i m : Nat} {o : Oper} {q q' : Dr} (h : DrStep E r c all base i o m q q') (he : isEff (kd E o) = false) :
    q'.s.df = q.s.df ∧ q'.s.h.next = q.s.h.next ∧ q'.past = q.past ∧ ∀ b, b ≠ base + i → q'.s.h.get b = q.s.h.get b := by
  cases h with
  | off hw hp _ h1 => rw [(putD_spec hp).1]; exact ⟨rfl, rfl, h1, fun _ _ => rfl⟩
  | offE hw hp hk => rw [hk] at he; cases he
  | pure v hw hk hx hp h1 => rw [(putD_spec hp).1]; exact ⟨rfl, rfl, h1, fun _ _ => rfl⟩
  | read v hw hk hx hr hp h1 => rw [(putD_spec hp).1]; exact ⟨rfl, rfl, h1, fun _ _ => rfl⟩
  | new ob v hw hk hx hp h1 =>
    rw [(putD_spec hp).1]
    refine ⟨rfl, rfl, h1, fun b hb => ?_⟩
    show (q.s.h.set (base + i) ob).get b = q.s.h.get b
    rw [get_set, if_neg hb]
  | eff x hw hk => rw [hk] at he; cases he
theorem DrStep.past {i m : Nat} {o : Oper} {q q' : Dr} (h : DrStep E r c all base i o m q q') (he : isEff (kd E o) = true) : q'.past = (i, q.s.h) :: q.past := by
  cases h with
  | off hw hp h0 => rw [h0] at he; cases he
  | offE hw hp hk h1 => exact h1
  | pure v hw hk => rw [hk] at he; cases he
  | read v hw hk => rw [hk] at he; cases he
  | new ob v hw hk => rw [hk] at he; cases he
  | eff x hw hk hx hp h1 => exact h1
variable (T : Tr0 E P N c all bs ord base Q)
include T
theorem Tr0.mem {q j : Nat} (h : ord[q]? = some j) : j < all.length := (T.plan.all j).1 (List.mem_of_getElem? h)
theorem Tr0.clean : ∀ (p q j : Nat), p ≤ q → ord[q]? = some j → (Q p).s.h.get (base + j) = none
  | 0, q, j, _, _ => T.start j
  | p + 1, q, j, hpq, hq => by
    have hlt := (List.getElem?_eq_some_iff.1 hq).1
    have hp : ord[p]? = some ord[p] := List.getElem?_eq_getElem (by omega)
    obtain ⟨o, m, _, _, h1, h2, h3, h4⟩ := T.at' p _ hp
    cases he : isEff (kd E o) with
    | true => exact h4 he q j (by omega) hq
    | false =>
      obtain ⟨_, _, _, h8⟩ := h3.quiet he
      rw [h8 _ (fun e => by
        have : j = ord[p] := by omega
        rw [← this] at hp
        have := T.plan.inj hp hq; omega)]
      exact Tr0.clean p q j (by omega) hq
/-- no step that does more, from one place to another -/
def Quiet (E : Env) (all : List Oper) (ord : List Nat) (p0 p : Nat) : Prop := ∀ q j o, p0 ≤ q → q < p → ord[q]? = some j → all[j]? = some o → isEff (kd E o) = false
theorem Tr0.range {p0 : Nat} : ∀ (p : Nat), p0 ≤ p → p ≤ ord.length → Quiet E all ord p0 p → (Q p).s.df = (Q p0).s.df ∧ (Q p).s.h.next = (Q p0).s.h.next ∧
    (∀ q j, p0 ≤ q → q < p → ord[q]? = some j → (Q p).s.h.get (base + j) = (Q (q + 1)).s.h.get (base + j)) ∧
    ∀ b, (∀ q j, p0 ≤ q → q < p → ord[q]? = some j → b ≠ base + j) → (Q p).s.h.get b = (Q p0).s.h.get b := by
  intro p
  induction p with
  | zero => intro h _ _; obtain rfl : p0 = 0 := by omega
            exact ⟨rfl, rfl, fun q j h1 h2 => by omega, fun _ _ => rfl⟩
  | succ p ih =>
    intro h hn hq
    by_cases hp0 : p0 = p + 1
    · subst hp0; exact ⟨rfl, rfl, fun q j h1 h2 => by omega, fun _ _ => rfl⟩
    · obtain ⟨i1, i2, i3, i4⟩ := ih (by omega) (by omega) (fun q j o h1 h2 => hq q j o h1 (by omega))
      have hp : ord[p]? = some ord[p] := List.getElem?_eq_getElem (by omega)
      obtain ⟨o, m, _, _, h1, h2, h3, _⟩ := T.at' p _ hp
      obtain ⟨h5, h6, _, h8⟩ := h3.quiet (hq p _ o (by omega) (by omega) hp h1)
      refine ⟨h5.trans i1, h6.trans i2, fun q j q1 q2 q3 => ?_, fun b hb => ?_⟩
      · by_cases hqp : q = p
        · subst hqp; rfl
        · rw [h8 _ (fun e => by
            have : j = ord[p] := by omega
            rw [← this] at hp
            have := T.plan.inj hp q3; omega)]
          exact i3 q j q1 (by omega) q3
      · rw [h8 b (hb p _ (by omega) (by omega) hp)]
        exact i4 b fun q j q1 q2 q3 => hb q j q1 (by omega) q3
theorem Tr0.past {p1 j : Nat} {o : Oper} (h1 : ord[p1]? = some j) (ho : all[j]? = some o) (he : isEff (kd E o) = true) : ∀ (p : Nat), p1 < p → p ≤ ord.length → (j, (Q p1).s.h) ∈ (Q p).past
  | 0, h, _ => by omega
  | p + 1, h, hn => by
    have hp : ord[p]? = some ord[p] := List.getElem?_eq_getElem (by omega)
    obtain ⟨o', m, _, _, q1, q2, q3, _⟩ := T.at' p _ hp
    by_cases hpe : p1 = p
    · subst hpe
      rw [h1] at hp; have hp := Option.some.inj hp
      rw [← hp] at q1 q3
      rw [ho] at q1; obtain rfl := Option.some.inj q1
      rw [q3.past he]; exact List.mem_cons_self ..
    · have ih := Tr0.past h1 ho he p (by omega) (by omega)
      cases he' : isEff (kd E o') with
      | true => rw [q3.past he']; exact List.mem_cons_of_mem _ ih
      | false => rw [(q3.quiet he').2.2.1]; exact ih
theorem Tr0.tm_same {t : Nat} : ∀ (p p0 : Nat), p0 ≤ p → p ≤ ord.length → (∀ q j o, p0 ≤ q → q < p → ord[q]? = some j → all[j]? = some o → o.dst ≠ some t) → (Q p).s.tm.get t = (Q p0).s.tm.get t
  | 0, p0, h, _, _ => by obtain rfl : p0 = 0 := by omega
                         rfl
  | p + 1, p0, h, hn, hq => by
    by_cases hp0 : p0 = p + 1
    · subst hp0; rfl
    · have hp : ord[p]? = some ord[p] := List.getElem?_eq_getElem (by omega)
      obtain ⟨o, m, _, _, q1, q2, q3, _⟩ := T.at' p _ hp
      obtain ⟨v, h1, _⟩ := q3.same
      rw [h1, putT_get, if_neg (hq p _ o (by omega) (by omega) hp q1)]
      exact Tr0.tm_same p p0 (by omega) (by omega) fun q j o a b => hq q j o a (by omega)
theorem Tr0.msk_at : ∀ p, p ≤ ord.length → ∀ k v, (Q p).s.tm.base.get k = some v → bit (Q p).s.tm.mask k = true ∧ k < c.nt
  | 0, _ => T.msk
  | p + 1, hn => by
    have hp : ord[p]? = some ord[p] := List.getElem?_eq_getElem (by omega)
    obtain ⟨o, m, _, _, q1, q2, q3, _⟩ := T.at' p _ hp
    obtain ⟨v, h1, h2⟩ := q3.same
    have ih := Tr0.msk_at p (by omega)
    rw [h1]
    cases hd : o.dst with
    | none => exact ih
    | some d =>
      intro k u e
      have hdn := h2 d hd
      have e : ((Q p).s.tm.put d v).base.get k = some u := e
      show bit ((Q p).s.tm.put d v).mask k = true ∧ _
      rw [bit_put]
      generalize (Q p).s.tm = tm at ih e ⊢
      obtain ⟨m, base, loc⟩ := tm
      have e : (tmPut d v m base loc).base.get k = some u := e
      unfold tmPut at e
      rw [ife_eq] at e
      split at e
      · next hb =>
        have e : (base.set d v).get k = some u := e
        rw [Tr.get_set] at e
        split at e
        · next hi => subst hi; exact ⟨hb, hdn⟩
        · exact ih k u e
      · exact ih k u e
end
end Go.Abs
