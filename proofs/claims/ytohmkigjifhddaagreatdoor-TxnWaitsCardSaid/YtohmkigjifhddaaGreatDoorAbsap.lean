/- A part of a proof about Go functions of this program: an evaluator with a memory of its own, and the proof that what it finds the model finds (Q3). No conditions beyond those that each theorem names. -/
import Derived.Test.YtohmkigjifhddaaGreatDoorAbsao
set_option linter.all false
set_option autoImplicit false
set_option linter.unusedSimpArgs false
namespace Go.Abs
/-! rows as lists -/
namespace Tr
variable {α : Type}
theorem single_fuel (x : Option α) : ∀ (f j : Nat), j ≤ f → single x f j = single x j j := by
  intro f
  induction f using Nat.strongRecOn with
  | ind f ih =>
    intro j hj
    cases f with
    | zero => obtain rfl : j = 0 := by omega
              rfl
    | succ f =>
      cases j with
      | zero => rw [single_succ, if_pos rfl]; rfl
      | succ j =>
        rw [single_succ, single_succ, if_neg (Nat.succ_ne_zero j), if_neg (Nat.succ_ne_zero j)]
        split
        · rw [ih f (by omega) ((j + 1) / 2) (by omega)]
          by_cases hjf : j = f
          · subst hjf; rw [ih j (by omega) ((j + 1) / 2) (by omega)]
          · rw [ih j (by omega) ((j + 1) / 2) (by omega)]
        · rw [ih f (by omega) ((j + 1 - 2) / 2) (by omega)]
          rw [ih j (by omega) ((j + 1 - 2) / 2) (by omega)]
theorem put_e (x : Option α) (k : Nat) : (e : Tr α).put x k = (n none e e).put x k := by
  rw [put_n]
  show single x k k = _
  cases k with
  | zero => rfl
  | succ k =>
    rw [single_succ, if_neg (Nat.succ_ne_zero k), if_neg (Nat.succ_ne_zero k)]
    split
    · rw [single_fuel x k ((k + 1) / 2) (by omega)]; rfl
    · rw [single_fuel x k ((k + 1 - 2) / 2) (by omega)]; rfl
theorem put_comm : ∀ (m : Nat) (t : Tr α) (x y : Option α) (a b : Nat), a + b ≤ m → a ≠ b → (t.put x a).put y b = (t.put y b).put x a := by
  intro m
  induction m with
  | zero => intro t x y a b h1 h2; omega
  | succ m ih =>
    intro t x y a b h1 h2
    have key : ∀ (v : Option α) (l r : Tr α), ((n v l r).put x a).put y b = ((n v l r).put y b).put x a := by
      intro v l r
      rw [put_n, put_n]
      by_cases ha : a = 0
      · subst ha
        rw [if_pos rfl, if_neg (by omega), put_n, if_neg (by omega)]
        split <;> rw [put_n, if_pos rfl]
      · rw [if_neg ha]
        by_cases hb : b = 0
        · subst hb
          rw [if_pos rfl, put_n, if_neg ha]
          split <;> rw [put_n, if_pos rfl]
        · rw [if_neg hb]
          by_cases ha1 : a % 2 = 1
          · rw [if_pos ha1]
            by_cases hb1 : b % 2 = 1
            · rw [if_pos hb1, put_n, put_n, if_neg ha, if_neg hb, if_pos ha1, if_pos hb1, ih l x y (a / 2) (b / 2) (by omega) (by omega)]
            · rw [if_neg hb1, put_n, put_n, if_neg ha, if_neg hb, if_pos ha1, if_neg hb1]
          · rw [if_neg ha1]
            by_cases hb1 : b % 2 = 1
            · rw [if_pos hb1, put_n, put_n, if_neg ha, if_neg hb, if_neg ha1, if_pos hb1]
            · rw [if_neg hb1, put_n, put_n, if_neg ha, if_neg hb, if_neg ha1, if_neg hb1, ih r x y ((a - 2) / 2) ((b - 2) / 2) (by omega) (by omega)]
    cases t with
    | n v l r => exact key v l r
    | e => rw [put_e x a, put_e y b]; exact key none e e
theorem put_put : ∀ (m : Nat) (t : Tr α) (x y : Option α) (a : Nat), a ≤ m → (t.put x a).put y a = t.put y a := by
  intro m
  induction m with
  | zero =>
    intro t x y a h
    obtain rfl : a = 0 := by omega
    cases t with
    | e => rw [put_e x, put_e y, put_n, if_pos rfl, put_n, if_pos rfl, put_n, if_pos rfl]
    | n v l r => rw [put_n, if_pos rfl, put_n, if_pos rfl, put_n, if_pos rfl]
  | succ m ih =>
    intro t x y a h
    have key : ∀ (v : Option α) (l r : Tr α), ((n v l r).put x a).put y a = (n v l r).put y a := by
      intro v l r
      rw [put_n]
      by_cases ha : a = 0
      · subst ha; rw [if_pos rfl, put_n, if_pos rfl, put_n, if_pos rfl]
      · rw [if_neg ha]
        by_cases ha1 : a % 2 = 1
        · rw [if_pos ha1, put_n, if_neg ha, if_pos ha1, put_n, if_neg ha, if_pos ha1, ih l x y (a / 2) (by omega)]
        · rw [if_neg ha1, put_n, if_neg ha, if_neg ha1, put_n, if_neg ha, if_neg ha1, ih r x y ((a - 2) / 2) (by omega)]
    cases t with
    | n v l r => exact key v l r
    | e => rw [put_e x a, put_e y a]; exact key none e e
theorem set_comm (t : Tr α) (x y : α) {a b : Nat} (h : a ≠ b) : (t.set a x).set b y = (t.set b y).set a x := put_comm (a + b) t _ _ a b (Nat.le_refl _) h
theorem set_set (t : Tr α) (x y : α) (a : Nat) : (t.set a x).set a y = t.set a y := put_put a t _ _ a (Nat.le_refl _)
end Tr
theorem ofL_after (v : AVal) : ∀ (l : List AVal) (k j : Nat) (t : Tr AVal), j < k → ofL l k (t.set j v) = (ofL l k t).set j v
  | [], _, _, _, _ => rfl
  | a :: l, k, j, t, h => by rw [ofL_cons, ofL_cons, Tr.set_comm t v a (by omega), ofL_after v l (k + 1) j _ (by omega)]
theorem ofL_set (v : AVal) : ∀ (l : List AVal) (k i : Nat) (t : Tr AVal), i < l.length → (ofL l k t).set (k + i) v = ofL (l.set i v) k t
  | [], _, _, _, h => by simp at h
  | a :: l, k, 0, t, _ => by
    rw [Nat.add_zero, ofL_cons, List.set_cons_zero, ofL_cons, ← ofL_after v l (k + 1) k _ (by omega), Tr.set_set]
  | a :: l, k, i + 1, t, h => by
    rw [ofL_cons, List.set_cons_succ, ofL_cons, ← ofL_set v l (k + 1) i _ (by simpa using h)]
    congr 1; omega
theorem ofL_app : ∀ (l m : List AVal) (k : Nat) (t : Tr AVal), ofL m (k + l.length) (ofL l k t) = ofL (l ++ m) k t
  | [], _, _, _ => rfl
  | a :: l, m, k, t => by
    rw [List.cons_append, ofL_cons, ofL_cons, ← ofL_app l m (k + 1) (t.set k a)]
    congr 1; simp; omega
/-- a row of cells; a row of bytes; a string -/
noncomputable def C (e : Nat) (l : List AVal) : AObj := .cells (ofL l 0 .e) l.length e
noncomputable def B (e : Nat) (l : List UInt8) : AObj := .bytes l.length (packL l) e
noncomputable def S (l : List UInt8) : AVal := .s l.length (packL l)
theorem ldO_C (e : Nat) (l : List AVal) (i : Nat) : ldO (C e l) i = l[i]? := by
  show chk (lt i l.length) ((ofL l 0 .e).get i) = _
  by_cases h : i < l.length
  · rw [(lt_eq i l.length).mpr h, ofL_get, if_pos (by omega)]; rfl
  · have : lt i l.length = false := by rw [Bool.eq_false_iff]; intro e; exact h (lt_true e)
    rw [this, List.getElem?_eq_none (by omega)]; rfl
theorem stO_C (e : Nat) (l : List AVal) (i : Nat) (v : AVal) (h : i < l.length) (hv : one v = true) : stO (C e l) i v = some (C e (l.set i v)) := by
  show chk (lt i l.length) (chk (one v) (some (AObj.cells ((ofL l 0 .e).set i v) l.length e))) = _
  have := ofL_set v l 0 i .e h
  rw [Nat.zero_add] at this
  rw [(lt_eq i l.length).mpr h, hv, this]
  show some (AObj.cells _ _ _) = some (AObj.cells _ _ _)
  rw [List.length_set]
theorem ldN_C (e : Nat) (l : List AVal) : ∀ (n i : Nat), i + n ≤ l.length → ldN (C e l) n i = some ((l.drop i).take n)
  | 0, i, _ => by show some [] = _; simp
  | n + 1, i, h => by
    show ob (ldO (C e l) i) (fun v => ob (ldN (C e l) n (i + 1)) fun r => some (v :: r)) = _
    have hlt : i < l.length := by omega
    rw [ldO_C, ldN_C e l n (i + 1) (by omega), List.getElem?_eq_getElem hlt, List.drop_eq_getElem_cons hlt]
    rfl
theorem lenL_len {α : Type} (l : List α) : lenL l = l.length := lenL_eq l
theorem ldB_B (e : Nat) (l : List UInt8) (i : Nat) : ldO (B e l) i = (l[i]?).map fun x => AVal.i .u8 (x.toNat : Int) := by
  show chk (lt i l.length) (some (AVal.i .u8 (Int.ofNat (dig (packL l) i)))) = _
  rw [dig_packL]
  by_cases h : i < l.length
  · rw [(lt_eq i l.length).mpr h, List.getElem?_eq_getElem h]; rfl
  · have : lt i l.length = false := by rw [Bool.eq_false_iff]; intro e; exact h (lt_true e)
    rw [this, List.getElem?_eq_none (by omega)]; rfl
section
variable {E : Env} {h : Heap}
@[go_sem] theorem lenL_go {α : Type} (l : List α) : lenL l = l.length := lenL_eq l
@[go_sem] theorem isByteD_st (fs : Array Field) : isByteD (.struct fs) = false := rfl
@[go_sem] theorem isByteD_ar (n e : Nat) : isByteD (.array n e) = false := rfl
@[go_sem] theorem isByteD_pt (e : Nat) : isByteD (.pointer e) = false := rfl
@[go_sem] theorem isByteD_sl (e : Nat) : isByteD (.slice e) = false := rfl
@[go_sem] theorem isByteD_mp (k e : Nat) : isByteD (.map k e) = false := rfl
@[go_sem] theorem isByteD_b : isByteD .bool = false := rfl
@[go_sem] theorem isByteD_s : isByteD .string = false := rfl
@[go_sem] theorem isByteD_u8 : isByteD (.int .u8) = true := rfl
@[go_sem] theorem isByteD_i64 : isByteD (.int .i64) = false := rfl
@[go_sem] theorem isByteD_u64 : isByteD (.int .u64) = false := rfl
@[go_sem] theorem isByteD_u32 : isByteD (.int .u32) = false := rfl
@[go_sem] theorem isByteD_u16 : isByteD (.int .u16) = false := rfl
@[go_sem] theorem isAggD_st (fs : Array Field) : isAggD (.struct fs) = true := rfl
@[go_sem] theorem isAggD_ar (n e : Nat) : isAggD (.array n e) = true := rfl
@[go_sem] theorem isAggD_pt (e : Nat) : isAggD (.pointer e) = false := rfl
@[go_sem] theorem isAggD_sl (e : Nat) : isAggD (.slice e) = false := rfl
@[go_sem] theorem isAggD_mp (k e : Nat) : isAggD (.map k e) = false := rfl
@[go_sem] theorem isAggD_b : isAggD .bool = false := rfl
@[go_sem] theorem isAggD_s : isAggD .string = false := rfl
@[go_sem] theorem isAggD_i (k : IntKind) : isAggD (.int k) = false := rfl
@[go_sem] theorem cellsV_agg (l : List AVal) : cellsV (.agg l) = l := rfl
@[go_sem] theorem cellsV_b (x : Bool) : cellsV (.b x) = [.b x] := rfl
@[go_sem] theorem cellsV_i (k : IntKind) (n : Int) : cellsV (.i k n) = [.i k n] := rfl
@[go_sem] theorem cellsV_s (l n : Nat) : cellsV (.s l n) = [.s l n] := rfl
@[go_sem] theorem cellsV_p0 : cellsV .p0 = [.p0] := rfl
@[go_sem] theorem cellsV_p (b o : Nat) : cellsV (.p b o) = [.p b o] := rfl
@[go_sem] theorem cellsV_sl0 : cellsV .sl0 = [.sl0] := rfl
@[go_sem] theorem cellsV_sl (b o l : Nat) (cp : Cap) : cellsV (.sl b o l cp) = [.sl b o l cp] := rfl
@[go_sem] theorem cellsV_m0 : cellsV .m0 = [.m0] := rfl
@[go_sem] theorem cellsV_m (b : Nat) : cellsV (.m b) = [.m b] := rfl
@[go_sem] theorem allOne_nil : allOne [] = true := rfl
@[go_sem] theorem allOne_cons (v : AVal) (l : List AVal) : allOne (v :: l) = ife (one v) (allOne l) false := rfl
@[go_sem] theorem one_b (x : Bool) : one (.b x) = true := rfl
@[go_sem] theorem one_i (k : IntKind) (n : Int) : one (.i k n) = true := rfl
@[go_sem] theorem one_s (l n : Nat) : one (.s l n) = true := rfl
@[go_sem] theorem one_p0 : one .p0 = true := rfl
@[go_sem] theorem one_p (b o : Nat) : one (.p b o) = true := rfl
@[go_sem] theorem one_sl0 : one .sl0 = true := rfl
@[go_sem] theorem one_sl (b o l : Nat) (cp : Cap) : one (.sl b o l cp) = true := rfl
@[go_sem] theorem one_m0 : one .m0 = true := rfl
@[go_sem] theorem one_m (b : Nat) : one (.m b) = true := rfl
@[go_sem] theorem one_f (fn : Fn) (a b : List AVal) : one (.f fn a b) = true := rfl
@[go_sem] theorem one_f0 : one .f0 = true := rfl
@[go_sem] theorem one_i0 : one .i0 = true := rfl
@[go_sem] theorem one_ic (t : Nat) (v : AVal) : one (.ic t v) = true := rfl
@[go_sem] theorem mkRow_go (e : Nat) (l : List AVal) : mkRow E e l = ob (E.ty e) fun t => ife (isByteD t.desc) (ob (packV l) fun d => some (.bytes l.length d e)) (chk (allOne l) (some (C e l))) := by
  unfold mkRow C; simp only [lenL_eq]
@[go_sem] theorem zeroOf_go (t : Nat) : zeroOf E t = ob (E.ty t) fun ti => ti.zero := rfl
@[go_sem] theorem ldVar_p (ti : Ty) (b o : Nat) : ldVar E h ti (.p b o) = ob (h.get b) fun x => ife (isAggD ti.desc) (ob (ldN x ti.size o) fun l => some (.agg l)) (ldO x o) := rfl
@[go_sem] theorem stVar_p (ti : Ty) (v : AVal) (b o : Nat) : stVar h ti (.p b o) v = ife (isAggD ti.desc) (chk (Nat.beq (cellsV v).length ti.size) (ob (h.get b) fun x => ob (stN (cellsV v) o x) fun x => some (h.set b x))) (chk (Nat.beq ti.size 1) (ob (h.get b) fun x => ob (stO x o v) fun x => some (h.set b x))) := by
  show ife _ (chk (Nat.beq (lenL (cellsV v)) ti.size) _) _ = _
  rw [lenL_eq]
@[go_sem] theorem stN_nil (o : Nat) (x : AObj) : stN [] o x = some x := rfl
@[go_sem] theorem stN_cons (v : AVal) (l : List AVal) (o : Nat) (x : AObj) : stN (v :: l) o x = ob (stO x o v) fun x => stN l (o + 1) x := rfl
attribute [go_sem] Nat.left_eq_add Nat.add_eq_left Nat.add_assoc Nat.add_left_cancel_iff
attribute [go_sem] ldN_C ldO_C ldB_B get_new get_set
@[go_sem] theorem next_new (o : AObj) : (h.new o).next = h.next + 1 := rfl
@[go_sem] theorem next_set (b : Nat) (o : AObj) : (h.set b o).next = h.next := rfl
@[go_sem] theorem set_set (b : Nat) (o o' : AObj) : (h.set b o).set b o' = h.set b o' := by
  show Heap.mk _ _ = Heap.mk _ _
  congr 1; exact Tr.set_set _ _ _ _
@[go_sem] theorem set_new (o o' : AObj) : (h.new o).set h.next o' = h.new o' := by
  show Heap.mk _ _ = Heap.mk _ _
  congr 1; exact Tr.set_set _ _ _ _
@[go_sem] theorem lt_go (a b : Nat) : lt a b = decide (a < b) := by
  rw [Bool.eq_iff_iff, decide_eq_true_iff, lt_eq]
@[go_sem] theorem stO_go (e : Nat) (l : List AVal) (i : Nat) (v : AVal) : stO (C e l) i v = chk (decide (i < l.length)) (chk (one v) (some (C e (l.set i v)))) := by
  by_cases hi : i < l.length
  · cases hv : one v with
    | true => rw [stO_C e l i v hi hv, decide_eq_true hi]; rfl
    | false => show chk (lt i l.length) (chk (one v) _) = _; rw [hv, lt_go, decide_eq_true hi]; rfl
  · show chk (lt i l.length) _ = _; rw [lt_go, decide_eq_false hi]; rfl
attribute [go_sem] List.drop_succ_cons List.drop_zero List.take_succ_cons List.take_zero List.take_nil List.drop_nil List.set_cons_zero List.set_cons_succ List.length_cons List.length_nil List.getElem?_cons_zero List.getElem?_cons_succ List.getElem?_nil decide_true decide_false
@[go_sem] theorem resV_cell (k t : Nat) (tm : Tm) : resV E tm h [.cell k t] = ob (ob (tm.get k) fun p => ob (E.ty t) fun ti => ldVar E h ti p) fun v => some v := by
  show ob (ob (ob (tm.get k) fun p => ob (E.ty t) fun ti => ldVar E h ti p) fun b => some [b]) (fun l => some (tup1 l)) = _
  cases ob (tm.get k) fun p => ob (E.ty t) fun ti => ldVar E h ti p <;> rfl
@[go_sem] theorem dk_st (fs : List Field) : dk (.struct ⟨fs⟩) = .structD fs := rfl
@[go_sem] theorem dk_ar (n e : Nat) : dk (.array n e) = .arrD n e := rfl
@[go_sem] theorem dk_pt (e : Nat) : dk (.pointer e) = .ptrD e := rfl
@[go_sem] theorem dk_sl (e : Nat) : dk (.slice e) = .sliceD e := rfl
@[go_sem] theorem dk_mp (k e : Nat) : dk (.map k e) = .mapD k e := rfl
@[go_sem] theorem dk_b : dk .bool = .boolD := rfl
@[go_sem] theorem dk_s : dk .string = .strD := rfl
@[go_sem] theorem dk_i (k : IntKind) : dk (.int k) = .intD k := rfl
@[go_sem] theorem fieldsOfD_s (fs : List Field) : fieldsOfD (.structD fs) = some fs := rfl
@[go_sem] theorem fieldAd_go (t : Nat) (x : AVal) (f : Nat) : fieldAd E t x f = ob (E.ty t) fun ti => ob (fieldsOfD (dk ti.desc)) fun fs => ob (nth fs f) fun fd => ob (E.ty fd.type) fun tf => chk (lt 0 tf.size) (addrAdd fd.offset x) := rfl
@[go_sem] theorem addrAdd_p (n b o : Nat) : addrAdd n (.p b o) = some (.p b (o + n)) := rfl
@[go_sem] theorem buildV_go (t : Nat) (ps : List (Nat × AVal)) : buildV E t ps = ob (E.ty t) fun ti => ob ti.zero fun z => ob (plOf E (dk ti.desc)) fun pl => ob (fillV pl ps (cellsV z)) fun l => some (.agg l) := rfl
@[go_sem] theorem plOf_ar (n e : Nat) : plOf E (.arrD n e) = ob (E.ty e) fun te => some (plAr te.size) := rfl
@[go_sem] theorem plOf_st (fs : List Field) : plOf E (.structD fs) = ob (mapO (plF E) fs) fun pl => some (nth pl) := rfl
@[go_sem] theorem mapO_nil {α β : Type} (f : α → Option β) : mapO f [] = some [] := rfl
@[go_sem] theorem mapO_go {α β : Type} (f : α → Option β) (a : α) (l : List α) : mapO f (a :: l) = ob (f a) fun b => ob (mapO f l) fun r => some (b :: r) := rfl
@[go_sem] theorem plF_go (f : Field) : plF E f = ob (E.ty f.type) fun tf => some (f.offset, tf.size) := rfl
@[go_sem] theorem plAr_go (n i : Nat) : plAr n i = some (i * n, n) := rfl
@[go_sem] theorem fillV_nil (pl : Nat → Option (Nat × Nat)) (l : List AVal) : fillV pl [] l = some l := rfl
@[go_sem] theorem fillV_cons (pl : Nat → Option (Nat × Nat)) (i : Nat) (v : AVal) (ps : List (Nat × AVal)) (l : List AVal) : fillV pl ((i, v) :: ps) l = ob (pl i) fun q => chk (Nat.beq (cellsV v).length q.2) (ob (place q.1 (cellsV v) l) (fillV pl ps)) := by
  show ob (pl i) (fun q => chk (Nat.beq (lenL (cellsV v)) q.2) (ob (place q.1 (cellsV v) l) (fillV pl ps))) = _
  simp only [lenL_eq]
@[go_sem] theorem place_z (v l : List AVal) : place 0 v l = over v l := rfl
@[go_sem] theorem place_s (n : Nat) (v : List AVal) (a : AVal) (l : List AVal) : place (n + 1) v (a :: l) = ob (place n v l) fun r => some (a :: r) := rfl
@[go_sem] theorem over_nil (l : List AVal) : over [] l = some l := rfl
@[go_sem] theorem over_cons (c : AVal) (v : List AVal) (a : AVal) (l : List AVal) : over (c :: v) (a :: l) = ob (over v l) fun r => some (c :: r) := rfl
@[go_sem] theorem indexV_go (t : Nat) (x : AVal) (k : IntKind) (n : Nat) : indexV E t x (.i k (n : Int)) = ob (E.ty t) fun ti => DK.rec (motive := fun _ => Option AVal) none none (fun _ => none) (iyStr n x) (fun _ => none) (fun _ => none) (fun len e => iyArr E n len e x) (fun _ _ => none) (fun _ => none) none none (dk ti.desc) := rfl
@[go_sem] theorem beq_go (a b : Nat) : Nat.beq a b = decide (a = b) := by
  rw [Bool.eq_iff_iff, decide_eq_true_iff]; exact ⟨fun h => beq_true h, fun h => by rw [h]; exact Nat.beq_refl b⟩
@[go_sem] theorem ble_go (a b : Nat) : Nat.ble a b = decide (a ≤ b) := by
  rw [Bool.eq_iff_iff, decide_eq_true_iff, Nat.ble_eq]
end
section
variable {E : Env} {h : Heap} {tm : Tm}
noncomputable def kConv (k : DK) (E : Env) (h : Heap) (n : Nat) (s : Ty) (a : AVal) : Option Nx := DK.rec (motive := fun _ => Option Nx) none none (fun k => cvInt k a) (cvStr E h s a) (fun _ => none) (fun e => cvSl E n e a) (fun _ _ => none) (fun _ _ => none) (fun _ => none) none none k
@[go_sem] theorem xConv_go (s d : Nat) (x : Operand) (n : Nat) : xConv s d x E h n tm = ob (opd x tm) fun a => ob (E.ty s) fun s => ob (E.ty d) fun d => kConv (dk d.desc) E h n s a := rfl
@[go_sem] theorem kConv_i (k k' : IntKind) (m : Int) (n : Nat) (s : Ty) : kConv (.intD k) E h n s (.i k' m) = some (.val (.i k (k.wrap m))) := by
  show some (Nx.val (.i k (convI k m))) = _
  rw [convI_eq]
@[go_sem] theorem kConv_s (n : Nat) (d : TypeDesc) (z : Option AVal) (sz by' : Nat) (p q : Bool) (a : AVal) : kConv .strD E h n ⟨d, sz, by', z, p, q⟩ a = Option.rec (motive := fun _ => Option Nx) (chk (isSm (lenS a)) (some (.val a))) (fun e => ob (E.ty e) fun te => chk (isByteD te.desc) (ob (bytesS h a) fun v => some (.val v))) (elemOfD (dk d)) := rfl
@[go_sem] theorem elemOfD_sl (e : Nat) : elemOfD (.sliceD e) = some e := rfl
@[go_sem] theorem elemOfD_s : elemOfD .strD = none := rfl
@[go_sem] theorem kConv_sl (e n : Nat) (s : Ty) (l m : Nat) : kConv (.sliceD e) E h n s (.s l m) = ob (E.ty e) fun te => chk (isByteD te.desc) (chk (Nat.beq te.size 1) (some (.new (.bytes l m e) (.sl n 0 l (.op 0))))) := rfl
@[go_sem] theorem bytesS_slx (b o l c : Nat) : bytesS h (.sl b o l (.ex c)) = ob (h.get b) fun x => subS l o x := rfl
@[go_sem] theorem bytesS_slo (b o l c : Nat) : bytesS h (.sl b o l (.op c)) = ob (h.get b) fun x => subS l o x := rfl
@[go_sem] theorem bytesS_n : bytesS h .sl0 = some (.s 0 0) := rfl
@[go_sem] theorem subS_b (l o n d e : Nat) : subS l o (.bytes n d e) = chk (decide (o + l ≤ n)) (some (.s l (sub d o l))) := by rw [← ble_go]; rfl
noncomputable def kLen (k : DK) (E : Env) (h : Heap) (x : AVal) : Option Nat := lenV E h k x
@[go_sem] theorem bLen_go (t : Nat) (x : AVal) : bLen E h [t] [x] = ob (E.ty t) fun ti => ob (kLen (dk ti.desc) E h x) fun n => chk (decide (n ≤ 9223372036854775807)) (some (.val (.i .i64 (n : Int)))) := by
  show ob (E.ty t) (fun ti => ob (lenV E h (dk ti.desc) x) fun n => chk (Nat.ble n big) (some (Nx.val (.i .i64 (Int.ofNat n))))) = _
  simp only [ble_go]; rfl
@[go_sem] theorem kLen_s (l n : Nat) : kLen .strD E h (.s l n) = some l := rfl
@[go_sem] theorem kLen_sl (e b o l : Nat) (c : Cap) : kLen (.sliceD e) E h (.sl b o l c) = some l := rfl
@[go_sem] theorem kLen_n (e : Nat) : kLen (.sliceD e) E h .sl0 = some 0 := rfl
@[go_sem] theorem kLen_ar (n e : Nat) (x : AVal) : kLen (.arrD n e) E h x = some n := rfl
@[go_sem] theorem kdConv_go (s d : Nat) (x : Operand) : kdConv E s d x = Option.rec (motive := fun _ => Kd) .eff (fun s => Option.rec (motive := fun _ => Kd) .eff (fun d => kdC s.desc d.desc) (E.ty d)) (E.ty s) := rfl
@[go_sem] theorem kdC_i (s : TypeDesc) (k : IntKind) : kdC s (.int k) = .pure := rfl
@[go_sem] theorem kdC_ss (e : Nat) : kdC (.slice e) .string = .read := rfl
@[go_sem] theorem kdC_st : kdC .string .string = .pure := rfl
@[go_sem] theorem kdC_sl (s : TypeDesc) (e : Nat) : kdC s (.slice e) = .new := rfl
@[go_sem] theorem sub_zero' (o l : Nat) : sub 0 o l = 0 := by rw [sub_eq, Nat.zero_div, Nat.zero_mod]
/-- new bytes -/
theorem makeSl_b {t e : Nat} {te ti : Ty} {n id : Nat} (ht : E.ty t = some ti) (hd : ti.desc = .slice e) (he : E.ty e = some te) (hb : te = ⟨.int .u8, 1, 1, some (.i .u8 0), false, false⟩) (k k' : IntKind) (hn : n ≤ 140737488355328) :
    makeSl E t (.i k (n : Int)) (.i k' (n : Int)) id = some (.new (.bytes n 0 e) (.sl id 0 n (.ex n))) := by
  subst hb
  unfold makeSl elemD
  rw [ht]
  show ob (elemOfD (dk ti.desc)) _ = _
  rw [hd]
  show ob (E.ty e) _ = _
  rw [he]
  show chk (Nat.beq (lenL (cellsV (.i .u8 0))) 1) (chk (Nat.ble n n) (chk (Nat.ble n big) (chk (Nat.ble (Nat.mul 1 n) room) (ob (ife (isByteD (.int .u8)) (chk (isZ (.i .u8 0)) (some (AObj.bytes n 0 e))) (mkRow E e (rep n (cellsV (.i .u8 0))))) fun o => some (Nx.new o (.sl id 0 n (.ex n))))))) = _
  rw [show Nat.ble n n = true from Nat.ble_self_eq_true n, show Nat.ble n big = true from Nat.ble_eq_true_of_le (Nat.le_trans hn (by decide)), show Nat.ble (Nat.mul 1 n) room = true from Nat.ble_eq_true_of_le (by show 1 * n ≤ room; rw [Nat.one_mul]; exact hn)]
  rfl
end
/-! equal -/
section
variable {E : Env} {h : Heap} {tm : Tm}
noncomputable def kBinE (E : Env) (op : BinOp) (t : Nat) (ok : Ty → Bool) (x y : AVal) : Option AVal := ob (E.ty t) fun ti => chk (ok ti) (binE op (eqT E eqD t x y))
noncomputable def kEqT (k : DK) (E : Env) (n : Nat) (held : Bool) (x y : AVal) : Option Bool :=
  DK.rec (motive := fun _ => Option Bool) none (eqBool x y) (fun _ => eqInt x y) (eqStr x y) (fun e => eqPtr E e x y) (fun _ => eqSl x y) (fun n' e => eqAy E (eqT E n) x y n' e) (fun _ _ => eqMp x y) (fun fs => eqSt E held (eqT E n) x y fs) (eqFn x y) (eqIf x y) k
@[go_sem] theorem kBinE_go (op : BinOp) (t : Nat) (ok : Ty → Bool) (x y : AVal) : kBinE E op t ok x y = ob (E.ty t) fun ti => chk (ok ti) (binE op (eqT E eqD t x y)) := rfl
@[go_sem] theorem eqT_D (t : Nat) (x y : AVal) : eqT E eqD t x y = ob (E.ty t) fun ti => kEqT (dk ti.desc) E 7 ti.held x y := rfl
@[go_sem] theorem eqT_7 (t : Nat) (x y : AVal) : eqT E 7 t x y = ob (E.ty t) fun ti => kEqT (dk ti.desc) E 6 ti.held x y := rfl
@[go_sem] theorem eqT_6 (t : Nat) (x y : AVal) : eqT E 6 t x y = ob (E.ty t) fun ti => kEqT (dk ti.desc) E 5 ti.held x y := rfl
@[go_sem] theorem eqT_5 (t : Nat) (x y : AVal) : eqT E 5 t x y = ob (E.ty t) fun ti => kEqT (dk ti.desc) E 4 ti.held x y := rfl
@[go_sem] theorem bin_b (op : BinOp) (t : Nat) (cx cy a : Bool) (y : AVal) : binV E op t cx cy (.b a) y = kBinE E op t (fun _ => true) (.b a) y := rfl
@[go_sem] theorem bin_p0 (op : BinOp) (t : Nat) (cx cy : Bool) (y : AVal) : binV E op t cx cy .p0 y = kBinE E op t (fun _ => true) .p0 y := rfl
@[go_sem] theorem bin_p (op : BinOp) (t : Nat) (cx cy : Bool) (b o : Nat) (y : AVal) : binV E op t cx cy (.p b o) y = kBinE E op t (fun _ => true) (.p b o) y := rfl
@[go_sem] theorem bin_sl0 (op : BinOp) (t : Nat) (cx cy : Bool) (y : AVal) : binV E op t cx cy .sl0 y = kBinE E op t (fun _ => true) .sl0 y := rfl
@[go_sem] theorem bin_sl (op : BinOp) (t : Nat) (cx cy : Bool) (b o l : Nat) (k : Cap) (y : AVal) : binV E op t cx cy (.sl b o l k) y = kBinE E op t (fun _ => true) (.sl b o l k) y := rfl
@[go_sem] theorem bin_m0 (op : BinOp) (t : Nat) (cx cy : Bool) (y : AVal) : binV E op t cx cy .m0 y = kBinE E op t (fun _ => true) .m0 y := rfl
@[go_sem] theorem bin_m (op : BinOp) (t : Nat) (cx cy : Bool) (b : Nat) (y : AVal) : binV E op t cx cy (.m b) y = kBinE E op t (fun _ => true) (.m b) y := rfl
@[go_sem] theorem bin_agg (op : BinOp) (t : Nat) (cx cy : Bool) (l : List AVal) (y : AVal) : binV E op t cx cy (.agg l) y = kBinE E op t (fun ti => Bool.not ti.guard) (.agg l) y := rfl
@[go_sem] theorem kEqT_b (n : Nat) (hd a b : Bool) : kEqT .boolD E n hd (.b a) (.b b) = some (iff2 a b) := rfl
@[go_sem] theorem kEqT_i (n : Nat) (hd : Bool) (k k' : IntKind) (a b : Int) : kEqT (.intD k) E n hd (.i k' a) (.i k' b) = some (decide (a = b)) := by
  show chk (kEq k' k') (some (eqI a b)) = _
  rw [kEq_self, eqI_eq]; rfl
@[go_sem] theorem kEqT_s (n : Nat) (hd : Bool) (l m a b : Nat) : kEqT .strD E n hd (.s l a) (.s m b) = some (decide (l = m) && decide (a = b)) := by
  show some (ife (Nat.beq l m) (Nat.beq a b) false) = _
  rw [beq_go, beq_go]; cases decide (l = m) <;> rfl
@[go_sem] theorem kEqT_p00 (n e : Nat) (hd : Bool) : kEqT (.ptrD e) E n hd .p0 .p0 = some true := rfl
@[go_sem] theorem kEqT_p0 (n e : Nat) (hd : Bool) (b o : Nat) : kEqT (.ptrD e) E n hd (.p b o) .p0 = some false := rfl
@[go_sem] theorem kEqT_0p (n e : Nat) (hd : Bool) (b o : Nat) : kEqT (.ptrD e) E n hd .p0 (.p b o) = some false := rfl
@[go_sem] theorem kEqT_st (n : Nat) (hd : Bool) (fs : List Field) (x y : List AVal) : kEqT (.structD fs) E n hd (.agg x) (.agg y) = chk (!hd) (eqFs E (eqT E n) x y fs) := rfl
@[go_sem] theorem binE_eq (r : Option Bool) : binE .eql r = ob r fun r => some (.b r) := rfl
@[go_sem] theorem binE_ne (r : Option Bool) : binE .neq r = ob r fun r => some (.b (!r)) := rfl
end
/-! the end of a function -/
def kOut (v : Option AVal) (K : AVal → Heap → Prop) (h : Heap) : Prop := ∃ v', v = some v' ∧ K v' h
@[go_sem] theorem kOut_s (v : AVal) (K : AVal → Heap → Prop) (h : Heap) : kOut (some v) K h = K v h := by simp [kOut]
def wOut (E : Env) (P : Program) (N : Nat) (rs : List ResultVar) (K : AVal → Heap → Prop) (tm : Tm) : List ADef → Heap → Prop
  | [], h => kOut (resV E tm h rs) K h
  | d :: df, h => ∃ r h', RecOK E P N r ∧ defsV E r (d :: df) h = some h' ∧ kOut (resV E tm h' rs) K h'
def wFin (E : Env) (P : Program) (N : Nat) (rs : List ResultVar) (K : AVal → Heap → Prop) : Ex → KS := fun e tm df h => match e with
  | .normal => wOut E P N rs K tm df h
  | .ret => wOut E P N rs K tm df h
  | _ => False
section
variable {E : Env} {P : Program} {N : Nat} {T : Nat → List AVal → Option AVal} {h : Heap} {tm : Tm} {df : List ADef}
@[go_sem] theorem wFin_n (rs : List ResultVar) (K : AVal → Heap → Prop) : wFin E P N rs K .normal tm df h = wOut E P N rs K tm df h := rfl
@[go_sem] theorem wFin_r (rs : List ResultVar) (K : AVal → Heap → Prop) : wFin E P N rs K .ret tm df h = wOut E P N rs K tm df h := rfl
@[go_sem] theorem wOut_nil (rs : List ResultVar) (K : AVal → Heap → Prop) : wOut E P N rs K tm [] h = kOut (resV E tm h rs) K h := rfl
theorem wBody' (hT : TabOK E P N T) (hE : EnvOK E P) {f : Nat} {args : List AVal} {h : Heap} {fn : Func} {x : Code} {rs : List ResultVar} {nt : Nat} {K : AVal → Heap → Prop} (hf : P.funcs[f]? = some fn) (hx : fn.body = some x) (hn : fn.ntmps = nt) (hr : fn.results = ⟨rs⟩) (hle : Nat.ble args.length nt = true)
    (hw : wCode E P N T ⟨f, nt, false⟩ x (wFin E P N rs K) (tm0 args) [] h) : ∃ q, CallOK E P N f args h q ∧ K q.v q.h := by
  subst hn
  obtain ⟨e, tm', df', h', k1, k2⟩ := wCode_run hT hE x hw
  have key : wOut E P N rs K tm' df' h' → (e = .normal ∨ e = .ret) → ∃ q, CallOK E P N f args h q ∧ K q.v q.h := fun hd he => by
    have hrs : fn.results.toList = rs := by rw [hr]
    cases df' with
    | nil =>
      obtain ⟨v, r3, r4⟩ := hd
      exact ⟨⟨v, h'⟩, body_code hE hf hx (Nat.le_of_ble_eq_true hle) k1 he recNone_ok rfl (by rw [hrs]; exact r3), r4⟩
    | cons d df =>
      obtain ⟨r, h2, r1, r2, v, r3, r4⟩ := hd
      exact ⟨⟨v, h2⟩, body_code hE hf hx (Nat.le_of_ble_eq_true hle) k1 he r1 r2 (by rw [hrs]; exact r3), r4⟩
  cases e with
  | normal => exact key k2 (.inl rfl)
  | ret => exact key k2 (.inr rfl)
  | exit id => exact k2.elim
  | goto l => exact k2.elim
theorem walk (hT : TabOK E P N T) (hE : EnvOK E P) {f : Nat} {args : List AVal} {h : Heap} {fn : Func} {x : Code} {rs : List ResultVar} {nt : Nat} {v : AVal} {h' : Heap} (hf : P.funcs[f]? = some fn) (hx : fn.body = some x) (hn : fn.ntmps = nt) (hr : fn.results = ⟨rs⟩) (hle : Nat.ble args.length nt = true)
    (hw : ∀ K : AVal → Heap → Prop, K v h' → wCode E P N T ⟨f, nt, false⟩ x (wFin E P N rs K) (tm0 args) [] h) : CallOK E P N f args h ⟨v, h'⟩ := by
  obtain ⟨⟨v', h''⟩, q1, q2, q3⟩ := wBody' hT hE hf hx hn hr hle (hw (fun v' h'' => v' = v ∧ h'' = h') ⟨rfl, rfl⟩)
  simp only at q2 q3
  subst q2; subst q3; exact q1
/-- nothing that was there is turned, all that was made is let go -/
theorem walkP (hT : TabOK E P N T) (hE : EnvOK E P) {f : Nat} {args : List AVal} {h : Heap} {fn : Func} {x : Code} {rs : List ResultVar} {nt : Nat} {v : AVal} (hf : P.funcs[f]? = some fn) (hx : fn.body = some x) (hn : fn.ntmps = nt) (hr : fn.results = ⟨rs⟩) (hle : Nat.ble args.length nt = true) (hv : Still v)
    (hw : ∀ K : AVal → Heap → Prop, (∀ h', (∀ b, b < h.next → h'.get b = h.get b) → K v h') → wCode E P N T ⟨f, nt, false⟩ x (wFin E P N rs K) (tm0 args) [] h) : CallOK E P N f args h ⟨v, h⟩ := by
  obtain ⟨⟨v', h''⟩, q1, q2, q3⟩ := wBody' hT hE hf hx hn hr hle (hw (fun v' h'' => v' = v ∧ ∀ b, b < h.next → h''.get b = h.get b) fun h' hb => ⟨rfl, hb⟩)
  simp only at q2 q3
  subst q2
  exact q1.pure q3 hv
end
end Go.Abs
