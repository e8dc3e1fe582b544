/- A part of a proof about Go functions of this program: an evaluator with a memory of its own, and the proof that what it finds the model finds (C14, C15, C16, C17). No conditions beyond those that each theorem names. -/
import Derived.Test.YtohmkigjifhddaaGreatDoorAbsae
import Derived.Laws.AppendOwn
set_option linter.all false
set_option autoImplicit false
namespace Go.Abs
variable {E : Env} {P : Program} {N : Nat} {φ : Phi} {w : World}
/-! lengths -/
theorem lenS_some {x : AVal} {n : Nat} (h : lenS x = some n) : ∃ d, x = .s n d := by
  unfold lenS at h
  rcases asS_cases x with ⟨l, d, rfl, e⟩ | e
  · rw [e] at h; obtain rfl := Option.some.inj h; exact ⟨d, rfl⟩
  · rw [e] at h; cases h
theorem lenV_run (hT : TysOK P E) {h : Heap} (r : Rel E N φ h.get w) {t ty : TypeId} {ts : Array TypeId} {ti : Ty} (hts : ts[0]? = some t) (ht : E.ty t = some ti) {x : AVal} {a : Value} {n : Nat} (hv : lenV E h (dk ti.desc) x = some n) (ha : den φ x = some a) :
    (Builtin.len_ ts ty #[a]).run P w = .ok (.int .i64 n) w := by
  have hti := hT _ _ ht
  have h0 : (#[a] : Array Value)[0]? = some a := rfl
  have hu := fun w => hti.run_under (w := w)
  cases hd : dk ti.desc with
  | strD =>
    rw [hd] at hv; rw [dk_str hd] at hu
    obtain ⟨d, rfl⟩ := lenS_some (show lenS x = some n from hv)
    obtain ⟨rfl, _⟩ := den_s ha
    simp only [Builtin.len_, hts, h0, Sem.run_bind, hu, Result.andThen, Sem.run_pure, bytesOf_size, goInt]
  | arrD m e =>
    rw [hd] at hv; rw [dk_arr hd] at hu
    obtain rfl := Option.some.inj (show some m = some n from hv)
    simp only [Builtin.len_, hts, h0, Sem.run_bind, hu, Result.andThen, Sem.run_pure, goInt]
  | ptrD e =>
    rw [hd] at hv; rw [dk_ptr hd] at hu
    obtain ⟨te, h1, h2⟩ := ob_some (show ob (E.ty e) (fun ta => lenArr (dk ta.desc)) = some n from hv)
    have hte := hT _ _ h1
    cases hd' : dk te.desc with
    | arrD m e' =>
      rw [hd'] at h2
      obtain rfl := Option.some.inj (show some m = some n from h2)
      have hu' : ∀ w, (underlying e).run P w = .ok (.array m e') w := fun w => by rw [hte.run_under, dk_arr hd']
      simp only [Builtin.len_, hts, h0, Sem.run_bind, hu, hu', Result.andThen, Sem.run_pure, goInt]
    | _ => rw [hd'] at h2; cases h2
  | sliceD e =>
    rw [hd] at hv; rw [dk_slice hd] at hu
    have h3 : lenSl x = some n := hv
    unfold lenSl at h3
    rcases lnSl_cases x with ⟨rfl, e'⟩ | ⟨_, _, _, _, rfl, e'⟩ | e'
    · rw [e'] at h3; obtain rfl := Option.some.inj h3; obtain rfl := den_sl0 ha
      simp only [Builtin.len_, hts, h0, Sem.run_bind, hu, Result.andThen, Sem.run_pure, goInt]
    · rw [e'] at h3; obtain rfl := Option.some.inj h3; obtain ⟨_, _, rfl⟩ := den_sl ha
      simp only [Builtin.len_, hts, h0, Sem.run_bind, hu, Result.andThen, Sem.run_pure, goInt]
    · rw [e'] at h3; cases h3
  | mapD k e =>
    rw [hd] at hv; rw [dk_map hd] at hu
    obtain ⟨q, h3, h4⟩ := ob_some (show ob (mapL h x) (fun l => some (lenL l.1)) = some n from hv)
    obtain rfl := Option.some.inj h4
    unfold mapL at h3
    rcases asM_cases x with ⟨rfl, e'⟩ | ⟨b, rfl, e'⟩ | e'
    · rw [e'] at h3; obtain rfl := Option.some.inj h3; obtain rfl := den_m0 ha
      simp only [Builtin.len_, hts, h0, Sem.run_bind, hu, Result.andThen, Sem.run_pure, goInt]; rfl
    · rw [e'] at h3
      obtain ⟨loc, hl, rfl⟩ := den_m ha
      obtain ⟨_, L, q2, q3⟩ := mapAt_rel r h3 hl
      have hlen : L.size = lenL q.1 := by rw [lenL_eq, ← ents_len q3]; simp
      simp only [Builtin.len_, hts, h0, Sem.run_bind, hu, Result.andThen, run_getObj_of q2 (nomap _ _), Sem.run_pure, goInt, hlen]
    · rw [e'] at h3; cases h3
  | _ => rw [hd] at hv; cases hv
/-! the greatest, the least -/
theorem max_fold : ∀ {l : List AVal} {x v : AVal} {a : Value} {as : List Value}, maxV leI l x = some v → (∃ k n, x = .i k n) → den φ x = some a → denL φ l = some as → ∃ y, (∀ w, (as.foldlM Builtin.max2 a).run P w = .ok y w) ∧ den φ v = some y
  | [], x, v, a, as, h, _, ha, hl => by
    rw [denL_nil] at hl; obtain rfl := Option.some.inj hl; obtain rfl := Option.some.inj h
    exact ⟨a, fun w => rfl, ha⟩
  | y :: l, x, v, a, as, h, ⟨k, n, hx⟩, ha, hl => by
    subst hx
    obtain ⟨b, bs, h1, h2, rfl⟩ := denL_cons' hl
    have h3 : OI.rec (motive := fun _ => Option AVal) none (fun _ c => maxV leI l (.i k (ife (leI c n) n c))) (asI y) = some v := h
    rcases asI_cases y with ⟨k', m, rfl, e⟩ | e
    · rw [e] at h3
      obtain rfl := den_i ha; obtain rfl := den_i h1
      obtain ⟨q, h4, h5⟩ := max_fold (show maxV leI l (.i k (ife (leI m n) n m)) = some v from h3) ⟨k, _, rfl⟩ (den_int (m := if m > n then m else n) (by
        rw [ife_eq, leI_eq]; by_cases hc : m ≤ n
        · rw [if_pos (by simpa using hc), if_neg (by omega)]
        · rw [if_neg (by simpa using hc), if_pos (by omega)])) h2
      exact ⟨q, fun w => by simp only [List.foldlM_cons, Builtin.max2, Sem.run_bind, Sem.run_pure, Result.andThen, h4], h5⟩
    · rw [e] at h3; cases h3
theorem min_fold : ∀ {l : List AVal} {x v : AVal} {a : Value} {as : List Value}, maxV geI l x = some v → (∃ k n, x = .i k n) → den φ x = some a → denL φ l = some as → ∃ y, (∀ w, (as.foldlM Builtin.min2 a).run P w = .ok y w) ∧ den φ v = some y
  | [], x, v, a, as, h, _, ha, hl => by
    rw [denL_nil] at hl; obtain rfl := Option.some.inj hl; obtain rfl := Option.some.inj h
    exact ⟨a, fun w => rfl, ha⟩
  | y :: l, x, v, a, as, h, ⟨k, n, hx⟩, ha, hl => by
    subst hx
    obtain ⟨b, bs, h1, h2, rfl⟩ := denL_cons' hl
    have h3 : OI.rec (motive := fun _ => Option AVal) none (fun _ c => maxV geI l (.i k (ife (geI c n) n c))) (asI y) = some v := h
    rcases asI_cases y with ⟨k', m, rfl, e⟩ | e
    · rw [e] at h3
      obtain rfl := den_i ha; obtain rfl := den_i h1
      obtain ⟨q, h4, h5⟩ := min_fold (show maxV geI l (.i k (ife (geI m n) n m)) = some v from h3) ⟨k, _, rfl⟩ (den_int (m := if m < n then m else n) (by
        unfold geI
        rw [ife_eq, leI_eq]; by_cases hc : n ≤ m
        · rw [if_pos (by simpa using hc), if_neg (by omega)]
        · rw [if_neg (by simpa using hc), if_pos (by omega)])) h2
      exact ⟨q, fun w => by simp only [List.foldlM_cons, Builtin.min2, Sem.run_bind, Sem.run_pure, Result.andThen, h4], h5⟩
    · rw [e] at h3; cases h3
/-! aggregates out of parts -/
theorem plF_run (hT : TysOK P E) : ∀ {fs : List Field} {pl : List (Nat × Nat)}, mapO (plF E) fs = some pl → ∀ w, (fs.mapM fun f => do pure (f.offset, ← sizeOf f.type) : Sem (List (Nat × Nat))).run P w = .ok pl w
  | [], pl, h, w => by obtain rfl := Option.some.inj h; rfl
  | f :: fs, pl, h, w => by
    rw [mapO_cons] at h
    obtain ⟨p, h1, h2⟩ := ob_some h
    obtain ⟨r, h3, h4⟩ := ob_some h2
    obtain rfl := Option.some.inj h4
    obtain ⟨tf, h5, h6⟩ := ob_some h1
    obtain rfl := Option.some.inj h6
    simp only [List.mapM_cons, Sem.run_bind, (hT _ _ h5).run_size, Result.andThen, Sem.run_pure, plF_run hT h3]
theorem buildV_run (hT : TysOK P E) {t : TypeId} {ps : List (Nat × AVal)} {ps' : List (Nat × Value)} {v : AVal} (h : buildV E t ps = some v) (hp : denP φ ps ps') : ∃ y, (∀ w, (Instr.build t ps'.toArray).run P w = .ok y w) ∧ den φ v = some y := by
  obtain ⟨ti, h1, h2⟩ := ob_some h
  obtain ⟨z, h3, h4⟩ := ob_some h2
  obtain ⟨pl, h5, h6⟩ := ob_some h4
  obtain ⟨l, h7, h8⟩ := ob_some h6
  obtain rfl := Option.some.inj h8
  obtain ⟨y, z1, z2⟩ := (hT _ _ h1).run_zero h3
  obtain ⟨zs, f1, f2⟩ := fillV_run h7 (cellsV_den (z2 φ)) hp.1 hp.2
  rw [Array.toArray_toList] at f1
  have hu := fun w => (hT _ _ h1).run_under (w := w)
  refine ⟨.agg zs.toArray, fun w => ?_, by simp only [den, f2]⟩
  cases hd : dk ti.desc with
  | arrD n e =>
    rw [hd] at h5; rw [dk_arr hd] at hu
    obtain ⟨te, g1, g2⟩ := ob_some (show ob (E.ty e) (fun te => some (plAr te.size)) = some pl from h5)
    obtain rfl := Option.some.inj g2
    have hpl : (fun i => some (i * te.size, te.size) : Nat → Option (Nat × Nat)) = plAr te.size := rfl
    simp only [Instr.build, Sem.run_bind, z1, hu, Result.andThen, (hT _ _ g1).run_size, hpl, f1, Sem.run_pure]
  | structD fs =>
    obtain ⟨f, hf, rfl⟩ := dk_struct hd
    rw [hd] at h5; rw [hf] at hu
    obtain ⟨p, g1, g2⟩ := ob_some (show ob (mapO (plF E) f.toList) (fun pl => some (nth pl)) = some pl from h5)
    obtain rfl := Option.some.inj g2
    have hm : (f.mapM fun f => do pure (f.offset, ← sizeOf f.type) : Sem (Array (Nat × Nat))).run P w = .ok p.toArray w := by
      rw [← Array.toArray_toList (xs := f), List.mapM_toArray, Sem.run_map, plF_run hT g1]; rfl
    have hpl : (fun i => p.toArray[i]? : Nat → Option (Nat × Nat)) = nth p := by funext i; rw [nth_eq, List.getElem?_toArray]
    simp only [Instr.build, Sem.run_bind, z1, hu, Result.andThen, hm, hpl, f1, Sem.run_pure]
  | _ => rw [hd] at h5; cases h5
end Go.Abs

set_option autoImplicit false
set_option linter.unusedSimpArgs false
namespace Go.Abs
variable {E : Env} {P : Program} {N : Nat} {φ : Phi} {w : World}
theorem GlOK.heap {w w' : World} (h : GlOK E N w) (e : w'.heap = w.heap) : GlOK E N w' := fun g off v q => by
  obtain ⟨h1, x, h2, h3⟩ := h g off v q
  exact ⟨h1, x, h2, by simpa only [World.cell?, e] using h3⟩
theorem Rel.heap {g : Mem} {w w' : World} (r : Rel E N φ g w) (e : w'.heap = w.heap) : Rel E N φ g w' :=
  ⟨fun b o l h h' => by rw [e]; exact r.objs b o l h h', r.inj, by rw [e]; exact r.size, r.glob.heap e⟩
/-! the cells of an argument -/
theorem digs_den (d : Nat) : ∀ n k, denL φ (digs d n k) = some ((List.range' k n).map fun i => Value.int .u8 (dig d i : Int)) := by
  intro n
  induction n with
  | zero => intro k; simp [digs, denL]
  | succ n ih =>
    intro k
    show denL φ (.i .u8 (Int.ofNat (dig d k)) :: digs d n (k + 1)) = _
    rw [List.range'_succ, List.map_cons]
    exact denL_cons (by simp only [den]; rfl) (ih (k + 1))
theorem lenX_run {x : AVal} {a : Value} {n : Nat} (h : lenX x = some n) (ha : den φ x = some a) : ∀ w, (Builtin.lenOf a).run P w = .ok n w := by
  intro w
  unfold lenX at h
  rcases asSl_cases x with ⟨rfl, e⟩ | ⟨b, o, l, c, rfl, e⟩ | e
  · rw [e] at h; obtain rfl := Option.some.inj h; rw [den_sl0 ha]; rfl
  · rw [e] at h; obtain rfl := Option.some.inj h; obtain ⟨loc, _, rfl⟩ := den_sl ha; rfl
  · rw [e] at h
    obtain ⟨d, rfl⟩ := lenS_some (show lenS x = some n from h)
    obtain ⟨rfl, _⟩ := den_s ha
    simp only [Builtin.lenOf, Sem.run_pure, bytesOf_size]
theorem cellsOf_run {h : Heap} (r : Rel E N φ h.get w) {sz n : Nat} {x : AVal} {a : Value} {l : List AVal} (hc : cellsOf h sz n x = some l) (ha : den φ x = some a) :
    ∃ ys, denL φ l = some ys ∧ ys.length = n * sz ∧ ∀ w', w'.heap = w.heap → (Builtin.firstCells sz n a).run P w' = .ok ys.toArray w' := by
  unfold cellsOf at hc
  rcases asSl_cases x with ⟨rfl, e⟩ | ⟨b, o, len, c, rfl, e⟩ | e
  · rw [e] at hc
    obtain ⟨h1, h2⟩ := chk_some (show chk (Nat.beq n 0) (some []) = some l from hc)
    obtain rfl := Option.some.inj h2
    obtain rfl := beq_true h1
    rw [den_sl0 ha]
    exact ⟨[], denL_nil φ, by simp, fun w' _ => by simp [Builtin.firstCells]⟩
  · rw [e] at hc
    obtain ⟨h1, h2⟩ := chk_some (show chk (Nat.ble n len) (ob (h.get b) fun o' => ldN o' (n * sz) o) = some l from hc)
    obtain ⟨o', h3, h4⟩ := ob_some h2
    obtain ⟨loc, h5, rfl⟩ := den_sl ha
    rw [asSl_off e]
    obtain ⟨ys, e1, e2, _, e4⟩ := ldN_cells (r.at h3 h5) h4
    refine ⟨ys, e1, e2, fun w' hw => ?_⟩
    simp only [Builtin.firstCells]
    exact run_loadCells_of e2 fun j y hj => by simpa only [World.cell?, hw] using e4 j y hj
  · rw [e] at hc
    rcases asS_cases x with ⟨len, d, rfl, e'⟩ | e'
    · simp only [e'] at hc
      obtain ⟨h1, h2⟩ := chk_some (show chk (Nat.ble n len) (chk (Nat.beq sz 1) (some (digs d n 0))) = some l from hc)
      obtain ⟨h3, h4⟩ := chk_some h2
      obtain rfl := Option.some.inj h4
      obtain rfl := beq_true h3
      obtain ⟨rfl, _⟩ := den_s ha
      refine ⟨_, digs_den d n 0, by simp, fun w' _ => ?_⟩
      have hn := ble_true h1
      simp only [Builtin.firstCells, Sem.run_pure]
      congr 1
      rw [bytesOf_extract (Nat.zero_le _) hn]
      apply Array.ext_getElem?
      intro i
      rw [Array.getElem?_map, bytesOf_data, List.getElem?_toArray, List.getElem?_map, Nat.sub_zero]
      by_cases hi : i < n
      · rw [if_pos hi, List.getElem?_range' hi]
        simp only [Option.map_some, toNat_dig]
        rw [dig_sub hi]; simp
      · rw [if_neg hi, List.getElem?_eq_none (by simp; omega)]; rfl
    · simp only [e'] at hc; cases hc
/-! rows -/
def RowIn (φ : Phi) (o : AObj) (a : Array Value) : Prop := match o with
  | .cells c n _ => CellsRel φ c.get n a
  | .bytes n d _ => d < 256 ^ n ∧ CellsRel φ (digV d) n a
  | _ => False
theorem ORel.rowIn {o : AObj} {l : Loc} {x : Option Obj} {e : TypeId} (k : ORel E φ o l x) (he : elemO o = some e) :
    ∃ a e' fz, x = some (.cells a e' fz) ∧ NF fz a.size ∧ (∀ te, E.ty e = some te → l.ext * te.size ≤ a.size) ∧ RowIn φ o a := by
  cases o with
  | cells c n e0 => obtain rfl := Option.some.inj he; exact k
  | bytes n d e0 => obtain rfl := Option.some.inj he; exact k
  | _ => cases he
theorem RowIn.rel {o : AObj} {l : Loc} {e e' : TypeId} {fz : Nat × Nat} {a : Array Value} (k : RowIn φ o a) (he : elemO o = some e) (hf : NF fz a.size) (hx : ∀ te, E.ty e = some te → l.ext * te.size ≤ a.size) :
    ORel E φ o l (some (.cells a e' fz)) := by
  cases o with
  | cells c n e0 => obtain rfl := Option.some.inj he; exact ⟨a, e', fz, rfl, hf, hx, k⟩
  | bytes n d e0 => obtain rfl := Option.some.inj he; exact ⟨a, e', fz, rfl, hf, hx, k⟩
  | _ => cases he
theorem RowIn.mono {φ φ' : Phi} (h : PExt φ φ') {o : AObj} {a : Array Value} (k : RowIn φ o a) : RowIn φ' o a := by
  cases o with
  | cells c n e0 => exact CellsRel.mono h k
  | bytes n d e0 => exact ⟨k.1, CellsRel.mono h k.2⟩
  | _ => cases k
theorem RowIn.get {o : AObj} {a : Array Value} {m : Nat} (k : RowIn φ o a) (hm : sizeO o = some m) : m ≤ a.size ∧ ∀ i, i < m → ∃ y, a[i]? = some y := by
  cases o with
  | cells c n e0 => obtain rfl := Option.some.inj hm; exact ⟨k.1, fun i hi => let ⟨_, y, _, _, _, h⟩ := k.2 i hi; ⟨y, h⟩⟩
  | bytes n d e0 => obtain rfl := Option.some.inj hm; exact ⟨k.2.1, fun i hi => let ⟨_, y, _, _, _, h⟩ := k.2.2 i hi; ⟨y, h⟩⟩
  | _ => cases k
theorem CellsRel.more {g g' : Nat → Option AVal} {m : Nat} {a a' : Array Value} {l : List AVal} {ys : List Value} (k : CellsRel φ g m a) (hd : denL φ l = some ys) (h1 : ∀ v ∈ l, one v = true)
    (ha : ∀ j, j < m → a'[j]? = a[j]?) (ha' : ∀ (j : Nat) y, ys[j]? = some y → a'[m + j]? = some y) (hs : m + ys.length ≤ a'.size)
    (hg : ∀ i, i < m → g' i = g i) (hg' : ∀ i, i < l.length → g' (m + i) = l[i]?) : CellsRel φ g' (m + l.length) a' := by
  have hlen := denL_length hd
  refine ⟨by omega, fun i hi => ?_⟩
  by_cases h : i < m
  · obtain ⟨v, y, e1, e2, e3, e4⟩ := k.2 i h
    exact ⟨v, y, (hg i h).trans e1, e2, e3, (ha i h).trans e4⟩
  · obtain ⟨j, rfl⟩ := Nat.le.dest (Nat.le_of_not_lt h)
    have hj : j < l.length := by omega
    have hv : l[j]? = some l[j] := List.getElem?_eq_getElem hj
    obtain ⟨y, e1, e2⟩ := denL_get hd hv
    exact ⟨l[j], y, (hg' j hj).trans hv, e1, one_den (h1 _ (List.getElem_mem hj)) e1, ha' j y e2⟩
theorem packV_one {l : List AVal} {d : Nat} (h : packV l = some d) : ∀ v ∈ l, one v = true := by
  intro v hv
  obtain ⟨i, hi, rfl⟩ := List.mem_iff_getElem.1 hv
  have := (packV_spec h).2 i hi
  rw [List.getElem?_eq_getElem hi] at this
  rw [Option.some.inj this]; rfl
theorem moreO_row {o o' : AObj} {l : List AVal} {ys : List Value} {m : Nat} {a a' : Array Value} (k : RowIn φ o a) (hm : moreO l o = some o') (hs : sizeO o = some m) (hd : denL φ l = some ys)
    (ha : ∀ j, j < m → a'[j]? = a[j]?) (ha' : ∀ (j : Nat) y, ys[j]? = some y → a'[m + j]? = some y) (hz : m + ys.length ≤ a'.size) : RowIn φ o' a' ∧ elemO o' = elemO o ∧ ∀ v ∈ l, one v = true := by
  cases o with
  | cells c n e0 =>
    obtain rfl := Option.some.inj hs
    obtain ⟨h1, h2⟩ := chk_some (show chk (allOne l) (some (.cells (ofL l n c) (Nat.add n (lenL l)) e0)) = some o' from hm)
    obtain rfl := Option.some.inj h2
    refine ⟨?_, rfl, allOne_mem h1⟩
    rw [lenL_eq]
    refine CellsRel.more k hd (allOne_mem h1) ha ha' hz (fun i hi => ?_) fun i hi => ?_
    · rw [ofL_get, if_neg (by omega)]
    · rw [ofL_get, if_pos (by omega), Nat.add_sub_cancel_left]
  | bytes n d e0 =>
    obtain rfl := Option.some.inj hs
    obtain ⟨x, h1, h2⟩ := ob_some (show ob (packV l) (fun x => some (.bytes (Nat.add n (lenL l)) (cat n d x) e0)) = some o' from hm)
    obtain rfl := Option.some.inj h2
    obtain ⟨p1, p2⟩ := packV_spec h1
    refine ⟨?_, rfl, packV_one h1⟩
    rw [lenL_eq]
    refine ⟨cat_lt k.1 p1, CellsRel.more k.2 hd (packV_one h1) ha ha' hz (fun i hi => ?_) fun i hi => ?_⟩
    · simp only [digV]; rw [dig_cat k.1, if_pos hi]
    · simp only [digV]; rw [dig_cat k.1, if_neg (by omega), Nat.add_sub_cancel_left, p2 i hi]; rfl
  | _ => cases k
/-- stores into a row -/
theorem run_storeCells_in {b off : Nat} : ∀ {ys : List Value} {i : Nat} {a : Array Value} {e : TypeId} {fz : Nat × Nat} {w : World}, w.heap[b]? = some (.cells a e fz) → NF fz a.size → off + i + ys.length ≤ a.size → (∀ y ∈ ys, oneC y = true) →
    ∃ a' w', (storeCells ⟨b, off, none⟩ ys i).run P w = .ok () w' ∧ w'.heap[b]? = some (.cells a' e fz) ∧ a'.size = a.size ∧ (∀ j, j < off + i → a'[j]? = a[j]?) ∧ (∀ (j : Nat) y, ys[j]? = some y → a'[off + i + j]? = some y) ∧
      (∀ B, B ≠ b → w'.heap[B]? = w.heap[B]?) ∧ w'.heap.size = w.heap.size ∧ w'.os = w.os ∧ w'.tape = w.tape ∧ w'.output = w.output := by
  intro ys
  induction ys with
  | nil => intro i a e fz w h1 _ _ _; exact ⟨a, w, rfl, h1, rfl, fun _ _ => rfl, by simp, fun _ _ => rfl, rfl, rfl, rfl, rfl⟩
  | cons y ys ih =>
    intro i a e fz w h1 h2 h3 h4
    rw [List.length_cons] at h3
    have hi : off + i < a.size := by omega
    have hc : w.cell? ⟨b, off + i, none⟩ = some a[off + i] := by simp only [World.cell?, h1]; simp
    have hf : w.frozen? ⟨b, off + i, none⟩ = false := by
      have := h2 (off + i) hi
      simp only [World.frozen?, h1]; simpa using this
    obtain ⟨a', w', e1, e2, e3, e4, e5, e6, e7, e8, e9, e10⟩ := ih (i := i + 1) (a := a.setIfInBounds (off + i) y) (e := e) (fz := fz) (w := w.setCell ⟨b, off + i, none⟩ y) (cell_setCell_row h1) (by simpa using h2) (by simp; omega)
      fun q hq => h4 q (List.mem_cons_of_mem _ hq)
    refine ⟨a', w', ?_, e2, by rw [e3]; simp, fun j hj => ?_, fun j z hj => ?_, fun B hB => (e6 B hB).trans (heap_setCell_ne hB), e7.trans size_setCell, e8, e9, e10⟩
    · simp only [storeCells, addr_add, Sem.run_bind, run_store_of (h4 y (List.mem_cons_self ..)) hc hf, Result.andThen, e1]
    · rw [e4 j (by omega), Array.getElem?_setIfInBounds_ne (by omega)]
    · cases j with
      | zero =>
        rw [List.getElem?_cons_zero] at hj; obtain rfl := Option.some.inj hj
        rw [e4 _ (by omega), Nat.add_zero, Array.getElem?_setIfInBounds_self_of_lt hi]
      | succ j => rw [show off + i + (j + 1) = off + (i + 1) + j from by omega]; exact e5 j z (by simpa using hj)
/-! append, as it runs -/
section
variable {ts : Array TypeId} {ty t u e : TypeId} {d : TypeDesc} {te : Ty} {args : Array Value} {base : Option Addr} {sLen sCap n : Nat} {x : Value} {olds news : List Value} {z : Value}
theorem run_append_more (h0 : ts[0]? = some t) (h1 : ts[1]? = some u) (hu0 : ∀ w, (underlying t).run P w = .ok (.slice e) w) (hu1 : ∀ w, (underlying u).run P w = .ok d w) (hd : ∀ k, d ≠ .int k)
    (hT : TyOK P e te) (hz : ∀ w, (zeroValue e).run P w = .ok z w) (a0 : args[0]? = some (.slice base sLen sCap)) (a1 : args[1]? = some x) (hl : ∀ w, (Builtin.lenOf x).run P w = .ok n w)
    (ho : ∀ w', w'.heap = w.heap → (Builtin.firstCells te.size sLen (.slice base sLen sCap)).run P w' = .ok olds.toArray w')
    (hn : ∀ w', w'.heap = w.heap → (Builtin.firstCells te.size n x).run P w' = .ok news.toArray w')
    (hg : sCap < sLen + n) (hb : 0 < te.bytes) (hf : (sLen + n) * te.bytes ≤ 140737488355328) :
    ∃ cap, sLen + n ≤ cap ∧ (Builtin.append_ ts ty args).run P w = .ok (.slice (some ⟨w.heap.size, 0, none⟩) (sLen + n) cap)
      { w with drawn := w.drawn + 1, heap := w.heap.push (.cells (olds.toArray ++ news.toArray ++ Builtin.zeroCells z.cells (cap - (sLen + n))) e) } := by
  obtain ⟨inf, hi1, hi2⟩ := hT.run_info
  have hint : (match d with | .int _ => true | _ => false) = false := by
    cases d with
    | int k => exact absurd rfl (hd k)
    | _ => rfl
  refine ⟨grownCap w (sLen + n) sCap e, grownCap_ge _ _ _ _, ?_⟩
  have g1 : ¬(sLen + n ≤ sCap) := by omega
  have g2 : ¬ te.bytes = 0 := by omega
  have g3 : ¬(Builtin.nextslicecap (sLen + n) sCap * te.bytes > 281474976710656) := by
    have := growslice_fits hg hf; omega
  have ho' := ho { w with drawn := w.drawn + 1 } rfl
  have hn' := hn { w with drawn := w.drawn + 1 } rfl
  simp only [Builtin.append_, h0, h1, a0, a1, Sem.run_bind, hu0, hu1, Result.andThen, hT.run_size, Sem.run_pure, hint, hl, if_false, Bool.false_eq_true, g1, hi1, hi2, g2, or_self, and_false, run_choose, Question.forced,
    run_askRoom, ho', Bool.not_false, if_true, hn', hz, newRow, run_newObj, false_or]
  rw [if_neg (by simpa using g3)]
  simp only [Sem.run_bind, Sem.run_pure, Result.andThen, run_choose, Question.forced, Bool.false_eq_true, if_false, run_askRoom, ho', hn', hz, newRow, run_newObj, hi1]
  rfl
theorem run_append_here (h0 : ts[0]? = some t) (h1 : ts[1]? = some u) (hu0 : ∀ w, (underlying t).run P w = .ok (.slice e) w) (hu1 : ∀ w, (underlying u).run P w = .ok d w) (hd : ∀ k, d ≠ .int k)
    (hT : TyOK P e te) (a0 : args[0]? = some (.slice base sLen sCap)) (a1 : args[1]? = some x) (hl : ∀ w, (Builtin.lenOf x).run P w = .ok n w)
    (hn : (Builtin.firstCells te.size n x).run P w = .ok news.toArray w) (hg : sLen + n ≤ sCap) {w' : World}
    (hs : match base with | some a => (storeCells (a.add (sLen * te.size)) news).run P w = .ok () w' | none => w' = w) :
    (Builtin.append_ ts ty args).run P w = .ok (.slice base (sLen + n) sCap) w' := by
  have hint : (match d with | .int _ => true | _ => false) = false := by
    cases d with
    | int k => exact absurd rfl (hd k)
    | _ => rfl
  simp only [Builtin.append_, h0, h1, a0, a1, Sem.run_bind, hu0, hu1, Result.andThen, hT.run_size, Sem.run_pure, hint, hl, if_false, Bool.false_eq_true, hg, Bool.not_false, if_true, hn]
  cases base with
  | none => subst hs; rfl
  | some a => simp only [Sem.run_bind, hs, Result.andThen, Sem.run_pure]
end
end Go.Abs

set_option autoImplicit false
set_option linter.unusedSimpArgs false
namespace Go.Abs
variable {E : Env} {P : Program} {N : Nat} {φ : Phi} {w : World}
theorem get_new (h : Heap) (o : AObj) (c : Nat) : (h.new o).get c = if c = h.next then some o else h.get c := by
  show (h.bl.set h.next o).get c = _
  rw [Tr.get_set]; rfl
theorem get_set (h : Heap) (b : Nat) (o : AObj) (c : Nat) : (h.set b o).get c = if c = b then some o else h.get c := by
  show (h.bl.set b o).get c = _
  rw [Tr.get_set]; rfl
theorem get_del (h : Heap) (b c : Nat) : (h.del b).get c = if c = b then none else h.get c := by
  show (h.bl.del b).get c = _
  rw [Tr.get_del]; rfl
theorem put_other {φ : Phi} {b c : Nat} {l : Loc} (h : c ≠ b) : φ.put b l c = φ c := by simp only [Phi.put, if_neg h]
theorem Goes.new {h : Heap} {w w' : World} {o : AObj} {x : Obj} {ext : Nat} (r : Rel E N φ h.get w) (f : Fresh h.next φ h.get) (hw : w'.heap = w.heap.push x) (h1 : w'.os = w.os) (h2 : w'.tape = w.tape) (h3 : w'.output = w.output)
    (hO : ORel E (φ.put h.next ⟨w.heap.size, ext⟩) o ⟨w.heap.size, ext⟩ (some x)) : Goes E N φ h w (φ.put h.next ⟨w.heap.size, ext⟩) (h.new o) w' := by
  have hg : ∀ c, c ≠ h.next → (h.new o).get c = h.get c := fun c hc => by rw [get_new, if_neg hc]
  have hn := f h.next (Nat.le_refl _)
  refine ⟨Phi.put_ext _ hn.1, r.new hn.1 hn.2 hw hg (by rw [get_new, if_pos rfl]) hO, ?_, Frm.new hw h1 h2 h3 hg, Nat.le_succ _, fun c hc => put_other (by omega)⟩
  intro c hc
  have hc' : h.next < c := hc
  have := f c (Nat.le_of_lt hc')
  exact ⟨by rw [put_other (by omega)]; exact this.1, by rw [hg c (by omega)]; exact this.2⟩
theorem Goes.del {h : Heap} (r : Rel E N φ h.get w) (f : Fresh h.next φ h.get) (b : Nat) : Goes E N φ h w φ (h.del b) w := by
  have sub : ∀ c o, (h.del b).get c = some o → h.get c = some o := fun c o e => by
    rw [get_del] at e
    split at e
    · cases e
    · exact e
  refine ⟨.refl _, ⟨fun c o l e e' => r.objs c o l (sub c o e) e', fun c c' o o' l l' e e' => r.inj c c' o o' l l' (sub c o e) (sub c' o' e'), r.size, r.glob⟩, fun c hc => ?_, ⟨rfl, rfl, rfl, Nat.le_refl _, fun _ _ _ => rfl, fun c o l e e' => .inr ⟨c, o, l, sub c o e, e', rfl⟩⟩, Nat.le_refl _, fun _ _ => rfl⟩
  have := f c hc
  exact ⟨this.1, by rw [get_del]; split; exact rfl; exact this.2⟩
/-- a row gets a new name -/
theorem Goes.re {h : Heap} {w w' : World} {b : Nat} {o o' : AObj} {l : Loc} (r : Rel E N φ h.get w) (f : Fresh h.next φ h.get) (hb : h.get b = some o) (hl : φ b = some l)
    (hw : ∀ B, B ≠ l.blk → w'.heap[B]? = w.heap[B]?) (hs : w'.heap.size = w.heap.size) (h1 : w'.os = w.os) (h2 : w'.tape = w.tape) (h3 : w'.output = w.output)
    (hO : ORel E (φ.put h.next l) o' l w'.heap[l.blk]?) : Goes E N φ h w (φ.put h.next l) ((h.del b).new o') w' := by
  have hn := f h.next (Nat.le_refl _)
  have hE := Phi.put_ext (φ := φ) (b := h.next) l hn.1
  obtain ⟨hN, _⟩ := r.objs b o l hb hl
  have hbn : b ≠ h.next := fun e => by rw [e, hn.2] at hb; cases hb
  have hg : ∀ c, c ≠ h.next → ((h.del b).new o').get c = if c = b then none else h.get c := fun c hc => by
    rw [get_new, if_neg (show c ≠ (h.del b).next from hc), get_del]
  have hg' : ((h.del b).new o').get h.next = some o' := by rw [get_new, if_pos (show h.next = (h.del b).next from rfl)]
  have old : ∀ c oc, c ≠ h.next → ((h.del b).new o').get c = some oc → c ≠ b ∧ h.get c = some oc := fun c oc hc e => by
    rw [hg c hc] at e
    split at e
    · cases e
    · next hcb => exact ⟨hcb, e⟩
  have apart : ∀ c oc lc, c ≠ b → h.get c = some oc → φ c = some lc → lc.blk ≠ l.blk := fun c oc lc hcb e e' q => hcb (r.inj c b oc o lc l e hb e' hl q)
  refine ⟨hE, ⟨?_, ?_, by rw [hs]; exact r.size, r.glob.keep fun B hB => hw B (by omega)⟩, ?_, ⟨h1, h2, h3, by omega, fun B _ hn' => hw B fun e => hn' b o l hb hl e.symm, ?_⟩, Nat.le_succ _, fun c hc => put_other (by omega)⟩
  · intro c oc lc e e2
    by_cases hc : c = h.next
    · subst hc
      rw [hg'] at e; obtain rfl := Option.some.inj e
      rw [Phi.put_same] at e2; obtain rfl := Option.some.inj e2
      exact ⟨hN, hO⟩
    · obtain ⟨hcb, e1⟩ := old c oc hc e
      rw [put_other hc] at e2
      obtain ⟨e3, e4⟩ := r.objs c oc lc e1 e2
      refine ⟨e3, ?_⟩
      rw [hw _ (apart c oc lc hcb e1 e2)]
      exact e4.mono hE
  · intro c c' oc oc' lc lc' e e' q q' hq
    by_cases hc : c = h.next
    · by_cases hc' : c' = h.next
      · rw [hc, hc']
      · exfalso
        subst hc
        rw [Phi.put_same] at q; obtain rfl := Option.some.inj q
        obtain ⟨hcb, e1⟩ := old c' oc' hc' e'
        rw [put_other hc'] at q'
        exact apart c' oc' lc' hcb e1 q' hq.symm
    · by_cases hc' : c' = h.next
      · exfalso
        subst hc'
        rw [Phi.put_same] at q'; obtain rfl := Option.some.inj q'
        obtain ⟨hcb, e1⟩ := old c oc hc e
        rw [put_other hc] at q
        exact apart c oc lc hcb e1 q hq
      · obtain ⟨_, e1⟩ := old c oc hc e
        obtain ⟨_, e2⟩ := old c' oc' hc' e'
        rw [put_other hc] at q; rw [put_other hc'] at q'
        exact r.inj c c' oc oc' lc lc' e1 e2 q q' hq
  · intro c hc
    have hc' : h.next < c := hc
    have := f c (Nat.le_of_lt hc')
    exact ⟨by rw [put_other (by omega)]; exact this.1, by rw [hg c (by omega)]; split; exact rfl; exact this.2⟩
  · intro c oc lc e q
    by_cases hc : c = h.next
    · subst hc
      rw [Phi.put_same] at q; obtain rfl := Option.some.inj q
      exact .inr ⟨b, o, l, hb, hl, rfl⟩
    · obtain ⟨_, e1⟩ := old c oc hc e
      rw [put_other hc] at q
      exact .inr ⟨c, oc, lc, e1, q, rfl⟩
theorem isIntD_false {d : TypeDesc} (h : isIntD (dk d) = false) : ∀ k, d ≠ .int k := by
  intro k e; subst e; cases h
end Go.Abs

set_option autoImplicit false
set_option linter.unusedSimpArgs false
namespace Go.Abs
variable {E : Env} {P : Program} {N : Nat} {φ : Phi} {w : World}
def ValOK (φ : Phi) (w : World) (v : AVal) (r : Result Value) : Prop := ∃ a, r = .ok a w ∧ den φ v = some a
/-- what an operation leads to that asks for no more -/
def NxOK (E : Env) (N : Nat) (φ : Phi) (h : Heap) (w : World) (nx : Nx) (r : Result Value) : Prop := match nx with
  | .val v => ValOK φ w v r
  | .eff v h' => EffOK E N φ h w v h' r
  | _ => False
theorem size_zeroCells' (z : Array Value) (n : Nat) : (Builtin.zeroCells z n).size = n * z.size := by simp [Builtin.zeroCells]
theorem fair_le {b n : Nat} (h : fair b n = true) : n * b ≤ 140737488355328 := by
  have h1 : 4 * (b * (n + 1000)) ≤ 140737488355328 := ble_true h
  have h2 : b * n ≤ b * (n + 1000) := Nat.mul_le_mul_left _ (by omega)
  rw [Nat.mul_comm]; omega
theorem mkRow_elem {e : TypeId} {l : List AVal} {o : AObj} (h : mkRow E e l = some o) : elemO o = some e ∧ sizeO o = some l.length := by
  obtain ⟨t, h1, h2⟩ := ob_some h
  rw [ife_eq] at h2
  split at h2
  · obtain ⟨d, h3, h4⟩ := ob_some h2
    obtain rfl := Option.some.inj h4
    exact ⟨rfl, by rw [← lenL_eq]; rfl⟩
  · obtain ⟨h3, h4⟩ := chk_some h2
    obtain rfl := Option.some.inj h4
    exact ⟨rfl, by rw [← lenL_eq]; rfl⟩
section
variable {ts : Array TypeId} {ty t u e : TypeId} {d : TypeDesc} {te : Ty} {args : Array Value} {n : Nat} {s : AVal} {a x z : Value} {l : List AVal} {news : List Value} {h : Heap}
/-- what an append knows -/
structure AppIn (E : Env) (P : Program) (φ : Phi) (w : World) (ts : Array TypeId) (t u e : TypeId) (d : TypeDesc) (te : Ty) (args : Array Value) (n : Nat) (a x z : Value) (l : List AVal) (news : List Value) : Prop where
  h0 : ts[0]? = some t
  h1 : ts[1]? = some u
  hu0 : ∀ w, (underlying t).run P w = .ok (.slice e) w
  hu1 : ∀ w, (underlying u).run P w = .ok d w
  hd : ∀ k, d ≠ .int k
  hE : E.ty e = some te
  hT : TyOK P e te
  hz : ∀ w, (zeroValue e).run P w = .ok z w
  hzs : z.cells.size = te.size
  a0 : args[0]? = some a
  a1 : args[1]? = some x
  hl : ∀ w, (Builtin.lenOf x).run P w = .ok n w
  hn : ∀ w', w'.heap = w.heap → (Builtin.firstCells te.size n x).run P w' = .ok news.toArray w'
  hden : denL φ l = some news
  hlen : news.length = n * te.size
theorem fresh_run (I : AppIn E P φ w ts t u e d te args n a x z l news) (r : Rel E N φ h.get w) (f : Fresh h.next φ h.get) {base : Option Addr} {sLen sCap : Nat} {old : List AVal} {olds : List Value} {nx : Nx} {m : Nat} (hm : sLen + n = m)
    (hv : freshV E h e m (app old l) = some nx) (ha : a = .slice base sLen sCap) (hod : denL φ old = some olds) (holen : olds.length = sLen * te.size)
    (ho : ∀ w', w'.heap = w.heap → (Builtin.firstCells te.size sLen (.slice base sLen sCap)).run P w' = .ok olds.toArray w') (hg : sCap < sLen + n) (hb : 0 < te.bytes) (hf : fair te.bytes (sLen + n) = true) :
    NxOK E N φ h w nx ((Builtin.append_ ts ty args).run P w) := by
  subst ha
  subst hm
  obtain ⟨o, h1, h2⟩ := ob_some hv
  obtain rfl := Option.some.inj h2
  rw [app_eq] at h1
  obtain ⟨cap, q1, q2⟩ := run_append_more (ty := ty) I.h0 I.h1 I.hu0 I.hu1 I.hd I.hT I.hz I.a0 I.a1 I.hl ho I.hn hg hb (fair_le hf)
  have hid := (f h.next (Nat.le_refl _)).1
  have hE := Phi.put_ext (φ := φ) (b := h.next) ⟨w.heap.size, cap⟩ hid
  have harr : olds.toArray ++ news.toArray ++ Builtin.zeroCells z.cells (cap - (sLen + n)) = ((olds ++ news) ++ (Builtin.zeroCells z.cells (cap - (sLen + n))).toList).toArray := by simp
  refine ⟨_, φ.put h.next ⟨w.heap.size, cap⟩, _, q2, den_sl_mk (Phi.put_same _ _ _) q1, Goes.new r f rfl rfl rfl rfl ?_⟩
  rw [harr]
  refine mkRow_rel h1 (denL_mono hE _ _ (denL_app hod I.hden)) _ _ (0, 0) e (NF_zero _) fun te' ht => ?_
  rw [I.hE] at ht; obtain rfl := Option.some.inj ht
  simp only [List.size_toArray, List.length_append, holen, I.hlen, Array.length_toList, size_zeroCells', I.hzs]
  rw [← Nat.add_mul, ← Nat.add_mul]
  exact Nat.mul_le_mul_right _ (by omega)
theorem into_run (I : AppIn E P φ w ts t u e d te args n a x z l news) (r : Rel E N φ h.get w) (f : Fresh h.next φ h.get) {b off len : Nat} {cap : Cap} {loc : Loc} {o : AObj} {nx : Nx}
    (hv : intoV h b off len n te.size cap l o = some nx) (ho : h.get b = some o) (hl : φ b = some loc) (ha : a = .slice (some ⟨loc.blk, off, none⟩) len (capOf loc cap)) (hc : len + n ≤ capOf loc cap) (hoff : ∀ l, offOf l off cap = off) :
    NxOK E N φ h w nx ((Builtin.append_ ts ty args).run P w) := by
  subst ha
  obtain ⟨o', h1, h2⟩ := ob_some hv
  obtain rfl := Option.some.inj h2
  obtain ⟨w', e1, e2, e3, e4, e5, e6, e7, _⟩ := stN_cells (P := P) (i := 0) (off := off + len * te.size) (r.at ho hl) h1 I.hden
  refine ⟨w', φ, _, run_append_here (ty := ty) I.h0 I.h1 I.hu0 I.hu1 I.hd I.hT I.a0 I.a1 I.hl (I.hn w rfl) hc (w' := w') ?_, (by have := den_sl_mk (o := off) hl hc; rw [hoff] at this; exact this), Goes.upd r f ho hl e3 e4 e5 e6 e7 e2⟩
  show (storeCells ((⟨loc.blk, off, none⟩ : Addr).add (len * te.size)) news).run P w = _
  rw [addr_add]; exact e1
theorem appOp_run (I : AppIn E P φ w ts t u e d te args n a x z l news) (r : Rel E N φ h.get w) (f : Fresh h.next φ h.get) {b off len k m : Nat} {loc : Loc} {o : AObj} {nx : Nx}
    (hv : appOp h e b off len n te.size k l o m = some nx) (ho : h.get b = some o) (hm : sizeO o = some m) (hl : φ b = some loc) (ha : a = .slice (some ⟨loc.blk, off, none⟩) len (capOf loc (.op k))) (hc : len ≤ capOf loc (.op k)) (hb : 0 < te.bytes)
    (hf : fair te.bytes (len + n) = true) :
    NxOK E N φ h w nx ((Builtin.append_ ts ty args).run P w) := by
  unfold appOp at hv
  rw [ife_eq] at hv
  split at hv
  · cases hv
  · obtain ⟨e', h1, h2⟩ := ob_some hv
    obtain ⟨h3, h4⟩ := chk_some h2
    obtain ⟨h5, h6⟩ := chk_some h4
    obtain ⟨h7, h8⟩ := chk_some h6
    obtain ⟨o', h9, h10⟩ := ob_some h8
    obtain rfl := Option.some.inj h10
    obtain rfl : e = e' := beq_true h3
    have hok : off + k = 0 := beq_true h5
    obtain rfl : off = 0 := by omega
    obtain rfl : k = 0 := by omega
    have hm' : m = len * te.size := beq_true h7
    subst hm'
    subst ha
    have hid := (f h.next (Nat.le_refl _)).1
    obtain ⟨cs, e', fz, r1, r2, r3, r4⟩ := (r.at ho hl).rowIn h1
    have r3' := r3 te I.hE
    obtain ⟨g1, g2⟩ := r4.get hm
    have hcap : capOf loc (.op 0) = loc.ext := Nat.sub_zero _
    rw [hcap] at hc
    by_cases hfit : len + n ≤ loc.ext
    · -- in place
      have hone : ∀ v ∈ l, one v = true := by
        cases o with
        | cells c n e0 => exact allOne_mem (chk_some h9).1
        | bytes n d e0 => obtain ⟨x, h1, _⟩ := ob_some h9; exact packV_one h1
        | _ => cases h9
      have hone' : ∀ y ∈ news, oneC y = true := by
        intro y hy
        obtain ⟨i, hi, rfl⟩ := List.mem_iff_getElem.1 hy
        have hil : i < l.length := by rw [← denL_length I.hden]; exact hi
        obtain ⟨q, q1, q2⟩ := denL_get I.hden (List.getElem?_eq_getElem hil)
        rw [List.getElem?_eq_getElem hi] at q2
        rw [Option.some.inj q2]
        exact one_den (hone _ (List.getElem_mem hil)) q1
      have hroom : len * te.size + news.length ≤ cs.size := by
        rw [I.hlen, ← Nat.add_mul]
        exact Nat.le_trans (Nat.mul_le_mul_right _ hfit) r3'
      obtain ⟨cs', w', s1, s2, s3, s4, s5, s6, s7, s8, s9, s10⟩ := run_storeCells_in (P := P) (off := 0 + len * te.size) (i := 0) r1 r2 (by omega) hone'
      have r4' := r4.mono (Phi.put_ext (φ := φ) (b := h.next) loc hid)
      obtain ⟨m1, m2, _⟩ := moreO_row (a' := cs') r4' h9 hm (denL_mono (Phi.put_ext (φ := φ) (b := h.next) loc hid) _ _ I.hden) (fun j hj => s4 j (by omega)) (fun j y hj => by have := s5 j y hj; simpa using this) (by rw [s3]; exact hroom)
      refine ⟨w', φ.put h.next loc, .slice (some ⟨loc.blk, 0, none⟩) (len + n) (capOf loc (.op 0)), run_append_here (ty := ty) I.h0 I.h1 I.hu0 I.hu1 I.hd I.hT I.a0 I.a1 I.hl (I.hn w rfl) (by rw [hcap]; exact hfit) (w' := w') ?_, den_sl_mk (Phi.put_same _ _ _) (by rw [hcap]; exact hfit), Goes.re r f ho hl s6 s7 s8 s9 s10 ?_⟩
      · show (storeCells ((⟨loc.blk, 0, none⟩ : Addr).add (len * te.size)) news).run P w = _
        rw [addr_add]; exact s1
      · rw [s2]
        exact m1.rel (e := e) (by rw [m2]; exact h1) (by rw [s3]; exact r2) fun te' ht => by rw [s3]; exact r3 te' ht
    · -- anew
      have hold : ∀ w', w'.heap = w.heap → (Builtin.firstCells te.size len (.slice (some ⟨loc.blk, 0, none⟩) len (capOf loc (.op 0)))).run P w' = .ok (cs.toList.take (len * te.size)).toArray w' := by
        intro w' hw
        simp only [Builtin.firstCells]
        refine run_loadCells_of (by simp; omega) fun j y hj => ?_
        rw [List.getElem?_take] at hj
        split at hj
        · simp only [World.cell?, hw, r1]; simpa using hj
        · cases hj
      obtain ⟨cap, q1, q2⟩ := run_append_more (ty := ty) I.h0 I.h1 I.hu0 I.hu1 I.hd I.hT I.hz I.a0 I.a1 I.hl hold I.hn (by rw [hcap]; omega) hb (fair_le hf)
      have hE := Phi.put_ext (φ := φ) (b := h.next) ⟨w.heap.size, cap⟩ hid
      refine ⟨_, φ.put h.next ⟨w.heap.size, cap⟩, _, q2, den_sl_mk (Phi.put_same _ _ _) q1, (Goes.del r f b).trans (Goes.new (h := h.del b) (Goes.del r f b).rel (Goes.del r f b).fresh rfl rfl rfl rfl ?_)⟩
      have hol : (cs.toList.take (len * te.size)).length = len * te.size := by simp; omega
      have hsz : ((cs.toList.take (len * te.size)).toArray ++ news.toArray ++ Builtin.zeroCells z.cells (cap - (len + n))).size = cap * te.size := by
        simp only [Array.size_append, List.size_toArray, hol, I.hlen, size_zeroCells', I.hzs]
        rw [← Nat.add_mul, ← Nat.add_mul]; congr 1; omega
      obtain ⟨m1, m2, _⟩ := moreO_row (a' := (cs.toList.take (len * te.size)).toArray ++ news.toArray ++ Builtin.zeroCells z.cells (cap - (len + n))) (r4.mono hE) h9 hm (denL_mono hE _ _ I.hden)
        (fun j hj => by
          rw [Array.getElem?_append_left (by simp; omega), Array.getElem?_append_left (by simp; omega), List.getElem?_toArray, List.getElem?_take, if_pos hj, Array.getElem?_toList])
        (fun j y hj => by
          have hjl : j < news.length := (List.getElem?_eq_some_iff.1 hj).1
          rw [Array.getElem?_append_left (by simp; omega), Array.getElem?_append_right (by simp; omega)]
          simp only [List.size_toArray, hol]
          rw [Nat.add_sub_cancel_left, List.getElem?_toArray]; exact hj)
        (by rw [hsz, I.hlen, ← Nat.add_mul]; exact Nat.mul_le_mul_right _ q1)
      refine m1.rel (e := e) (by rw [m2]; exact h1) (NF_zero _) fun te' ht => ?_
      rw [I.hE] at ht; obtain rfl := Option.some.inj ht
      exact Nat.le_of_eq hsz.symm
end
theorem appendV_run (hT : TysOK P E) {ts : Array TypeId} {ty t u : TypeId} {tu : Ty} {args : Array Value} {s x : AVal} {a j : Value} {h : Heap} {nx : Nx} (r : Rel E N φ h.get w) (f : Fresh h.next φ h.get) (h0 : ts[0]? = some t) (h1 : ts[1]? = some u) (hu : E.ty u = some tu)
    (hi : isIntD (dk tu.desc) = false) (a0 : args[0]? = some a) (a1 : args[1]? = some j) (ha : den φ s = some a) (hj : den φ x = some j) (hv : appendV E h t s x = some nx) :
    NxOK E N φ h w nx ((Builtin.append_ ts ty args).run P w) := by
  obtain ⟨e, v1, v2⟩ := ob_some hv
  obtain ⟨te, v3, v4⟩ := ob_some v2
  obtain ⟨n, v5, v6⟩ := ob_some v4
  obtain ⟨l, v7, v8⟩ := ob_some v6
  obtain ⟨v9, v10⟩ := chk_some v8
  obtain ⟨v11, v12⟩ := chk_some v10
  obtain ⟨z', v13, v14⟩ := ob_some v12
  obtain ⟨v15, v16⟩ := chk_some v14
  have hTe := hT _ _ v3
  obtain ⟨z, hz1, hz2⟩ := hTe.run_zero v13
  obtain ⟨news, n1, n2, n3⟩ := cellsOf_run (P := P) r v7 hj
  have I : AppIn E P φ w ts t u e tu.desc te args n a j z l news := ⟨h0, h1, elemD_some hT v1, fun w => (hT _ _ hu).run_under, isIntD_false hi, v3, hTe, hz1, by
      have := denL_length (cellsV_den (hz2 φ))
      rw [← beq_true v15, lenL_eq, ← this]; simp, a0, a1, lenX_run v5 hj, n3, n1, n2⟩
  have hb : 0 < te.bytes := lt_true v9
  unfold appV at v16
  rcases asSl_cases s with ⟨rfl, q⟩ | ⟨b, off, len, cap, rfl, q⟩ | q
  · simp only [q] at v16
    obtain rfl := den_sl0 ha
    by_cases hn : n = 0
    · subst hn
      obtain rfl : nx = .val .sl0 := (Option.some.inj (show some (Nx.val .sl0) = some nx from v16)).symm
      refine ⟨.slice none 0 0, ?_, ha⟩
      have := run_append_here (ty := ty) I.h0 I.h1 I.hu0 I.hu1 I.hd I.hT I.a0 I.a1 I.hl (I.hn w rfl) (Nat.le_refl _) (w' := w) rfl
      simpa using this
    · have hv' : freshV E h e n l = some nx := by
        have : ife (Nat.beq n 0) (some (Nx.val .sl0)) (freshV E h e n l) = some nx := v16
        rw [ife_eq, if_neg (fun q => hn (beq_true q))] at this; exact this
      refine fresh_run (ty := ty) I r f (base := none) (sLen := 0) (sCap := 0) (old := []) (olds := []) (Nat.zero_add n) (by rw [app_eq, List.nil_append]; exact hv') rfl (denL_nil _) (by simp) (fun w' _ => by simp [Builtin.firstCells]) (by omega) hb (by rw [Nat.zero_add]; exact v11)
  · simp only [q] at v16
    obtain ⟨loc, k1, rfl, k2⟩ := den_sl' ha
    rw [asSl_off q] at *
    obtain ⟨v17, v18⟩ := chk_some (show chk (fair te.bytes (len + n)) (ife (Nat.beq n 0) (some (.val (.sl b off len cap))) (ob (h.get b) fun o =>
      Cap.rec (motive := fun _ => Option Nx) (fun c => appEx E h e b off len n te.size c l o) (fun k => ob (sizeO o) fun m => appOp h e b off len n te.size k l o m) (fun _ _ => none) cap)) = some nx from v16)
    rw [ife_eq] at v18
    split at v18
    · next hn =>
      obtain rfl := beq_true hn
      obtain rfl := Option.some.inj v18
      have hnil : news = [] := List.eq_nil_of_length_eq_zero (by rw [n2]; simp)
      refine ⟨_, ?_, ha⟩
      refine run_append_here (ty := ty) I.h0 I.h1 I.hu0 I.hu1 I.hd I.hT I.a0 I.a1 I.hl (I.hn w rfl) k2 (w' := w) ?_
      rw [hnil]; rfl
    · next hn =>
      obtain ⟨o, v19, v20⟩ := ob_some v18
      cases cap with
      | op k =>
        obtain ⟨m, v21, v22⟩ := ob_some v20
        exact appOp_run I r f v22 v19 v21 k1 rfl k2 hb v17
      | cut k x => cases q
      | ex c =>
        have v21 : ife (Nat.ble (Nat.add len n) c) (intoV h b off len n te.size (.ex c) l o) (ob (ldN o (Nat.mul len te.size) off) fun old => freshV E h e (Nat.add len n) (app old l)) = some nx := v20
        rw [ife_eq] at v21
        split at v21
        · next hc => exact into_run I r f v21 v19 k1 rfl (ble_true hc) (fun _ => rfl)
        · next hc =>
          obtain ⟨old, v22, v23⟩ := ob_some v21
          obtain ⟨olds, e1, e2, _, e4⟩ := ldN_cells (r.at v19 k1) v22
          refine fresh_run (ty := ty) I r f rfl v23 rfl e1 e2 (fun w' hw => ?_) (by simp only [capOf]; exact Nat.lt_of_not_le fun q => hc (Nat.ble_eq_true_of_le q)) hb v17
          simp only [Builtin.firstCells]
          exact run_loadCells_of e2 fun j y hj => by simpa only [World.cell?, hw] using e4 j y hj
  · simp only [q] at v16; cases v16
theorem copyV_run (hT : TysOK P E) {ts : Array TypeId} {ty t : TypeId} {args : Array Value} {s x : AVal} {a j : Value} {h : Heap} {nx : Nx} (r : Rel E N φ h.get w) (f : Fresh h.next φ h.get) (h0 : ts[0]? = some t)
    (a0 : args[0]? = some a) (a1 : args[1]? = some j) (ha : den φ s = some a) (hj : den φ x = some j) (hv : copyV E h t s x = some nx) :
    NxOK E N φ h w nx ((Builtin.copy_ ts ty args).run P w) := by
  obtain ⟨e, v1, v2⟩ := ob_some hv
  obtain ⟨te, v3, v4⟩ := ob_some v2
  obtain ⟨n, v5, v6⟩ := ob_some v4
  have hTe := hT _ _ v3
  have hu := elemD_some hT v1
  have hl := lenX_run (P := P) v5 hj
  rcases asSl_cases s with ⟨rfl, q⟩ | ⟨b, off, len, cap, rfl, q⟩ | q
  · simp only [q] at v6
    obtain rfl := Option.some.inj v6
    obtain rfl := den_sl0 ha
    have hf : ∃ c, (Builtin.firstCells te.size 0 j).run P w = .ok c w := by
      unfold lenX at v5
      rcases asSl_cases x with ⟨rfl, q⟩ | ⟨b, off, len, cap, rfl, q⟩ | q
      · rw [den_sl0 hj]; exact ⟨_, rfl⟩
      · obtain ⟨loc, _, rfl⟩ := den_sl hj
        exact ⟨_, by simp only [Builtin.firstCells, Nat.zero_mul]; exact run_loadCells_of (n := 0) (ys := []) rfl (by simp)⟩
      · rw [q] at v5
        obtain ⟨d, rfl⟩ := lenS_some (show lenS x = some n from v5)
        rw [(den_s hj).1]; exact ⟨_, rfl⟩
    obtain ⟨c, hf⟩ := hf
    refine ⟨.int .i64 0, ?_, by simp only [den]; rfl⟩
    simp only [Builtin.copy_, h0, a0, a1, Sem.run_bind, hu, Result.andThen, hl, hTe.run_size, Nat.min_def, Nat.le_zero, Sem.run_pure]
    rw [show (if n = 0 then n else 0) = 0 from by split <;> simp_all, hf]
    simp only [Sem.run_pure, Sem.run_bind, Result.andThen, goInt]; rfl
  · simp only [q] at v6
    obtain ⟨loc, k1, rfl, k2⟩ := den_sl' ha
    rw [asSl_off q] at *
    obtain ⟨l, v7, v8⟩ := ob_some (show ob (cellsOf h te.size (minN n len) x) (fun l => ob (h.get b) fun o => ob (stN l off o) fun o => some (.eff (.i .i64 (Int.ofNat (minN n len))) (h.set b o))) = some nx from v6)
    obtain ⟨o, v9, v10⟩ := ob_some v8
    obtain ⟨o', v11, v12⟩ := ob_some v10
    obtain rfl := Option.some.inj v12
    have hmin : minN n len = Nat.min n len := by
      unfold minN; rw [ife_eq]
      simp only [Nat.min_def]
      by_cases hc : n ≤ len
      · rw [if_pos (Nat.ble_eq_true_of_le hc), if_pos hc]
      · rw [if_neg (fun q => hc (ble_true q)), if_neg hc]
    obtain ⟨ys, y1, y2, y3⟩ := cellsOf_run (P := P) r v7 hj
    obtain ⟨w', e1, e2, e3, e4, e5, e6, e7, _⟩ := stN_cells (P := P) (i := 0) (off := off) (r.at v9 k1) v11 y1
    refine ⟨w', φ, .int .i64 (minN n len : Int), ?_, by simp only [den]; rfl, Goes.upd r f v9 k1 e3 e4 e5 e6 e7 e2⟩
    rw [hmin] at y3 ⊢
    simp only [Builtin.copy_, h0, a0, a1, Sem.run_bind, hu, Result.andThen, hl, hTe.run_size, y3 w rfl, e1, Sem.run_pure, goInt]
  · simp only [q] at v6; cases v6
end Go.Abs
