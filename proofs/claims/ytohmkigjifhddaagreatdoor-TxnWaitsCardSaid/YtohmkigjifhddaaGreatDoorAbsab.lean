/- A part of a proof about Go functions of this program: an evaluator with a memory of its own, and the proof that what it finds the model finds (B3). No conditions beyond those that each theorem names. -/
import Derived.Test.YtohmkigjifhddaaGreatDoorAbsaa
set_option linter.all false
set_option autoImplicit false
namespace Go.Abs
inductive ADef where
  | coll (b : Nat) | fn (v : AVal)
structure St where
  tm : Tm
  df : List ADef
  h : Heap
inductive Ex where
  | normal | exit (id : Nat) | goto (l : Nat) | ret
structure Res where
  e : Ex
  s : St
structure FC where
  f : Nat
  nt : Nat
  round : Bool
structure Rec where
  call : Nat → List AVal → Heap → Option CR
  round : Nat → List AVal → Heap → Option CR
  code : FC → Code → St → Option Res
  scope : FC → Code → Code → St → Option Res
  dcall : Nat → List AVal → Heap → Option CR
noncomputable def undefA : AVal := .tup []
noncomputable def stPut (d : Nat) (v : AVal) (s : St) : St := St.rec (motive := fun _ => St) (fun tm df h => ⟨tm.put d v, df, h⟩) s
noncomputable def stHeap (h : Heap) (s : St) : St := St.rec (motive := fun _ => St) (fun tm df _ => ⟨tm, df, h⟩) s
noncomputable def stDrop (s : St) : St := St.rec (motive := fun _ => St) (fun tm df h => ⟨tm.drop, df, h⟩) s
noncomputable def putD (c : FC) (s : St) (d : Option Nat) (v : AVal) : Option St :=
  Option.rec (motive := fun _ => Option St) (some s) (fun d => chk (lt d c.nt) (some (stPut d v s))) d
noncomputable def wantV (b : Bool) (v : AVal) : Option Bool := Option.rec (motive := fun _ => Option Bool) (ob (asTup v) fun _ => some false) (fun x => some (iff2 b x)) (asB v)
noncomputable def wantG (all : List Oper) (t : Tm) (g : Nat × Bool) : Option Bool := ob (nth all g.1) fun p => ob p.dst fun d => ob (t.get d) fun v => wantV g.2 v
noncomputable def wants (all : List Oper) (t : Tm) (g : Option (Nat × Bool)) : Option Bool := Option.rec (motive := fun _ => Option Bool) (some true) (wantG all t) g
/-! operations that need to know the frame -/
abbrev ST := FC → Tm → Option Nx
noncomputable def sRecover : ST := fun c _ => chk (Bool.not c.round) (some (.val .i0))
noncomputable def bSpecial : Builtin → Option ST := Builtin.rec (motive := fun _ => Option ST) none none none none none none none none none none none none none none none none none (some sRecover) none none none none none none none none
noncomputable def cSpecial (callee : Callee) : Option ST := Callee.rec (motive := fun _ => Option ST) (fun _ => none) (fun _ _ => none) bSpecial callee
noncomputable def kSpecial : Call → Option ST := Call.rec (motive := fun _ => Option ST) (fun callee _ _ => cSpecial callee)
noncomputable def isFn (v : AVal) : Bool := OF.rec (motive := fun _ => Bool) false false (fun _ _ _ => true) (asF v)
noncomputable def sDefer (n : Nat) (f : Operand) : ST := fun c t => chk (Bool.not c.round) (chk (Nat.beq n (nat_lit 0)) (ob (opd f t) fun v => chk (isFn v) (some (.defer v))))
noncomputable def sNo : ST := fun _ _ => none
noncomputable def dSpecial (n : Nat) (callee : Callee) : ST := Callee.rec (motive := fun _ => ST) (fun f => sDefer n f) (fun _ _ => sNo) (fun _ => sNo) callee
noncomputable def kDefer : Call → Option ST := Call.rec (motive := fun _ => Option ST) (fun callee args _ => some (dSpecial (lenL args.toList) callee))
noncomputable def specialT : Op → Option ST := Op.rec (motive := fun _ => Option ST) (fun _ => none) (fun _ => none) (fun _ _ _ => none) (fun _ => none) (fun _ _ => none) (fun _ _ => none) (fun _ _ _ => none) (fun _ _ _ _ => none) (fun _ _ => none) (fun _ _ _ => none) (fun _ => none) (fun _ => none) (fun _ => none) (fun _ _ _ _ _ => none) (fun _ _ _ => none) (fun _ _ _ => none) (fun _ _ => none) (fun _ _ => none) (fun _ _ _ => none) (fun _ _ => none) (fun _ _ => none) (fun _ _ _ => none) (fun _ _ _ _ _ => none) (fun _ _ _ => none) (fun _ _ _ => none) (fun _ _ _ => none) (fun _ _ _ => none) (fun _ _ _ _ => none) (fun _ _ _ _ => none) (fun _ _ _ => none) (fun _ _ _ _ => none) (fun _ _ => none) (fun _ _ => none) (fun _ => none) (fun _ _ _ _ => none) (fun _ _ => none) kSpecial (fun _ => none) kDefer (fun _ => none) (fun _ _ => none) (fun _ _ _ => none) (fun _ _ => none)
noncomputable def execS (c : FC) (op : Op) (E : Env) (tm : Tm) (h : Heap) : Option Nx := Option.rec (motive := fun _ => Option Nx) (execT op E h h.next tm) (fun f => f c tm) (specialT op)
abbrev DT := Rec → FC → St → Option Nat → Option St
noncomputable def nVal (v : AVal) : DT := fun _ c s d => putD c s d v
noncomputable def nNew (o : AObj) (v : AVal) : DT := fun _ c s d => putD c (stHeap (s.h.new o) s) d v
noncomputable def nEff (v : AVal) (h : Heap) : DT := fun _ c s d => putD c (stHeap h s) d v
noncomputable def nCR (c : FC) (s : St) (d : Option Nat) (q : CR) : Option St := CR.rec (motive := fun _ => Option St) (fun v h => putD c (stHeap h s) d v) q
noncomputable def nEnter (f : FuncId) (args : List AVal) : DT := fun r c s d => ob (r.call f args s.h) (nCR c s d)
noncomputable def nRound (l : Nat) (args : List AVal) : DT := fun r c s d => ob (r.round l args s.h) (nCR c s d)
noncomputable def nDefer (v : AVal) : DT := fun _ c s d => putD c ⟨s.tm, .fn v :: s.df, s.h⟩ d undefA
noncomputable def doNx : Nx → DT := Nx.rec (motive := fun _ => DT) nVal nNew nEff nEnter nRound nDefer
variable (E : Env)
noncomputable def oneX (r : Rec) (c : FC) (all : List Oper) (s : St) (dst : Option Nat) (op : Op) (_ : TypeId) (_ : String) (_ : Array Edge) (g : Option (Nat × Bool)) : Option St :=
  ob (wants all s.tm g) fun w => ife w (ob (execS c op E s.tm s.h) fun x => doNx x r c s dst) (putD c s dst undefA)
noncomputable def oneOp (r : Rec) (c : FC) (all : List Oper) (s : St) (o : Oper) : Option St := Oper.rec (motive := fun _ => Option St) (oneX E r c all s) o
noncomputable def plainOps (r : Rec) (c : FC) (all : List Oper) (l : List Oper) : St → Option St :=
  List.rec (motive := fun _ => St → Option St) (fun s => some s) (fun o _ ih s => ob (oneOp E r c all s o) ih) l
/-! a region that draws its order -/
/-- of which kind an operation is: it hangs on its operands alone; reads memory; makes memory; or does more -/
inductive Kd where
  | pure | read | new | eff
noncomputable def kdC (s d : TypeDesc) : Kd := DK.rec (motive := fun _ => Kd) .pure .pure (fun _ => .pure) (Option.rec (motive := fun _ => Kd) .pure (fun _ => .read) (elemOfD (dk s))) (fun _ => .pure) (fun _ => .new) (fun _ _ => .pure) (fun _ _ => .pure) (fun _ => .pure) .pure .pure (dk d)
noncomputable def kdB : Builtin → Kd := Builtin.rec (motive := fun _ => Kd) .eff .eff .eff .eff .eff .eff .eff .eff .read .eff .pure .pure .eff .eff .eff .eff .eff .eff .eff .eff .eff .eff .eff .eff .eff .eff
noncomputable def kdCall : Call → Kd := Call.rec (motive := fun _ => Kd) (fun callee _ _ => Callee.rec (motive := fun _ => Kd) (fun _ => .eff) (fun _ _ => .eff) kdB callee)
noncomputable def kdConv (s d : TypeId) (_ : Operand) : Kd := Option.rec (motive := fun _ => Kd) .eff (fun s => Option.rec (motive := fun _ => Kd) .eff (fun d => kdC s.desc d.desc) (E.ty d)) (E.ty s)
noncomputable def kdT (op : Op) : Kd := Op.rec (motive := fun _ => Kd) (fun _ => .pure) (fun _ => .pure) (fun _ _ _ => .pure) (fun _ => .new) (fun _ _ => .new) (fun _ _ => .pure) (fun _ _ _ => .new) (fun _ _ _ _ => .eff) (fun _ _ => .read) (fun _ _ _ => .eff) (fun _ => .eff) (fun _ => .eff) (fun _ => .pure) (fun _ _ _ _ _ => .pure) (fun _ _ _ => .pure) (kdConv E) (fun _ _ => .eff) (fun _ _ => .pure) (fun _ _ _ => .pure) (fun _ _ => .new) (fun _ _ => .eff) (fun _ _ _ => .new) (fun _ _ _ _ _ => .pure) (fun _ _ _ => .pure) (fun _ _ _ => .pure) (fun _ _ _ => .pure) (fun _ _ _ => .pure) (fun _ _ _ _ => .read) (fun _ _ _ _ => .eff) (fun _ _ _ => .eff) (fun _ _ _ _ => .eff) (fun _ _ => .eff) (fun _ _ => .eff) (fun _ => .read) (fun _ _ _ _ => .eff) (fun _ _ => .pure) kdCall (fun _ => .eff) (fun _ => .eff) (fun _ => .eff) (fun _ _ => .eff) (fun _ _ _ => .eff) (fun _ _ => .eff) op
noncomputable def kd (o : Oper) : Kd := kdT E o.op
noncomputable def isEff (k : Kd) : Bool := Kd.rec (motive := fun _ => Bool) false false false true k
noncomputable def setBit (m k : Nat) : Nat := Nat.lor m (Nat.pow (nat_lit 2) k)
noncomputable def bindsE (e : Edge) : Bool := match e.ground with | .textOnly _ | .gcOnly _ => false | _ => true
/-- of each operation: all that must come ahead of it -/
noncomputable def edgesL (acc : List Nat) (i : Nat) (l : List Edge) : Option Nat :=
  List.rec (motive := fun _ => Option Nat) (some (nat_lit 0)) (fun e _ ih => ob ih fun m => ife (bindsE e) (chk (lt e.on i) (ob (nth acc e.on) fun b => some (Nat.lor (setBit m e.on) b))) (some m)) l
noncomputable def beforeL (l : List Oper) : List Nat → Nat → Option (List Nat) :=
  List.rec (motive := fun _ => List Nat → Nat → Option (List Nat)) (fun acc _ => some acc)
    (fun o _ ih acc i => ob (edgesL acc i o.after.toList) fun m => ih (acc ++ [m]) (Nat.succ i)) l
noncomputable def tmpsOf (l : List Nat) (o : Operand) : List Nat := Operand.rec (motive := fun _ => List Nat) (fun t => t :: l) (fun _ => l) (fun _ => l) (fun _ => l) o
noncomputable def namesOf (o : Oper) : List Nat := List.rec (motive := fun _ => List Nat) (Option.rec (motive := fun _ => List Nat) [] (fun d => [d]) o.dst) (fun x _ ih => tmpsOf ih x) o.op.operands.toList
/-- two operations are in order -/
noncomputable def ordered (bs : List Nat) (i j : Nat) : Bool := ife (lt i j) (Option.rec (motive := fun _ => Bool) false (fun m => bit m i) (nth bs j)) (ife (lt j i) (Option.rec (motive := fun _ => Bool) false (fun m => bit m j) (nth bs i)) true)
noncomputable def allL {α : Type} (p : Nat → α → Bool) (l : List α) : Nat → Bool :=
  List.rec (motive := fun _ => Nat → Bool) (fun _ => true) (fun a _ ih i => ife (p i a) (ih (Nat.succ i)) false) l
noncomputable def lists (t : Nat) (l : List Nat) : Bool := List.rec (motive := fun _ => Bool) false (fun a _ ih => ife (Nat.beq a t) true ih) l
/-- what one writes another one names: they are in order -/
noncomputable def tmpsOK (bs : List Nat) (l : List Oper) : Bool :=
  allL (fun i o => Option.rec (motive := fun _ => Bool) true (fun d => allL (fun j o' => ife (lists d (namesOf o')) (ordered bs i j) true) l (nat_lit 0)) o.dst) l (nat_lit 0)
/-- what does more is in order -/
noncomputable def effsOK (bs : List Nat) (l : List Oper) : Bool :=
  allL (fun i o => ife (isEff (kd E o)) (allL (fun j o' => ife (isEff (kd E o')) (ordered bs i j) true) l (nat_lit 0)) true) l (nat_lit 0)
noncomputable def writes (d : Nat) (o : Oper) : Bool := Option.rec (motive := fun _ => Bool) false (fun d' => Nat.beq d d') o.dst
/-- a guard stands ahead, and nobody else writes what it tells -/
noncomputable def guardOK (bs : List Nat) (l : List Oper) (i : Nat) (g : Nat × Bool) : Bool :=
  ife (ife (lt g.1 i) (Option.rec (motive := fun _ => Bool) false (fun m => bit m g.1) (nth bs i)) false)
    (Option.rec (motive := fun _ => Bool) false (fun og => Option.rec (motive := fun _ => Bool) false (fun d => allL (fun j o' => ife (writes d o') (Nat.beq j g.1) true) l (nat_lit 0)) og.dst) (nth l g.1)) false
noncomputable def guardsOK (bs : List Nat) (l : List Oper) : Bool :=
  allL (fun i o => Option.rec (motive := fun _ => Bool) true (guardOK bs l i) o.guard) l (nat_lit 0)
noncomputable def rangeL (n : Nat) : Nat → List Nat := Nat.rec (motive := fun _ => Nat → List Nat) (fun _ => []) (fun _ ih k => k :: ih (Nat.succ k)) n
noncomputable def pickL (m done : Nat) (l : List Nat) : List Nat := List.rec (motive := fun _ => List Nat) [] (fun i _ ih => ife (ife (bit m i) (Bool.not (bit done i)) false) (i :: ih) ih) l
/-- the order in which it is done here: what does more one behind the other, all else as late as may be -/
noncomputable def orderL (n : Nat) (bs : List Nat) (idx : List Nat) (rest : List Oper) : Nat → Nat → List Nat :=
  List.rec (motive := fun _ => Nat → Nat → List Nat) (fun _ done => pickL (Nat.sub (Nat.pow (nat_lit 2) n) (nat_lit 1)) done idx)
    (fun o _ ih i done => ife (isEff (kd E o)) (Option.rec (motive := fun _ => List Nat) [] (fun m => pickL m done idx ++ i :: ih (Nat.succ i) (setBit (Nat.lor done m) i)) (nth bs i)) (ih (Nat.succ i) done)) rest
/-- does a reading come to the same in the memories ahead, too? (the newest first; so many of them do not count) -/
noncomputable def capEq (c c' : Cap) : Bool := Cap.rec (motive := fun _ => Bool) (fun n => Cap.rec (motive := fun _ => Bool) (fun n' => Nat.beq n n') (fun _ => false) (fun _ _ => false) c') (fun n => Cap.rec (motive := fun _ => Bool) (fun _ => false) (fun n' => Nat.beq n n') (fun _ _ => false) c') (fun n x => Cap.rec (motive := fun _ => Bool) (fun _ => false) (fun _ => false) (fun n' x' => ife (Nat.beq n n') (Nat.beq x x') false) c') c
noncomputable def s1P (y : AVal) (a o : Nat) : Bool := OP.rec (motive := fun _ => Bool) false false (fun a' o' => ife (Nat.beq a a') (Nat.beq o o') false) (fun _ _ => false) (asP y)
noncomputable def s1G (y : AVal) (a o : Nat) : Bool := OP.rec (motive := fun _ => Bool) false false (fun _ _ => false) (fun a' o' => ife (Nat.beq a a') (Nat.beq o o') false) (asP y)
noncomputable def s1P0 (y : AVal) : Bool := OP.rec (motive := fun _ => Bool) false true (fun _ _ => false) (fun _ _ => false) (asP y)
noncomputable def s1Sl0 (y : AVal) : Bool := OSl.rec (motive := fun _ => Bool) false true (fun _ _ _ _ => false) (asSl y)
noncomputable def s1Sl (y : AVal) (a o l : Nat) (c : Cap) : Bool := OSl.rec (motive := fun _ => Bool) false false (fun a' o' l' c' => ife (Nat.beq a a') (ife (Nat.beq o o') (ife (Nat.beq l l') (capEq c c') false) false) false) (asSl y)
noncomputable def s1M0 (y : AVal) : Bool := OM.rec (motive := fun _ => Bool) false true (fun _ => false) (asM y)
noncomputable def s1M (y : AVal) (a : Nat) : Bool := OM.rec (motive := fun _ => Bool) false false (fun a' => Nat.beq a a') (asM y)
noncomputable def s1F0 (y : AVal) : Bool := OF.rec (motive := fun _ => Bool) false true (fun _ _ _ => false) (asF y)
noncomputable def fnEq (f g : Fn) : Bool := Fn.rec (motive := fun _ => Bool) (fun a => Fn.rec (motive := fun _ => Bool) (fun c => Nat.beq a c) (fun _ => false) (fun _ _ => false) (fun _ _ _ _ => false) (fun _ => false) g) (fun _ => false) (fun _ _ => false) (fun _ _ _ _ => false) (fun _ => false) f
noncomputable def same0 : AVal → AVal → Bool := AVal.rec (motive_1 := fun _ => AVal → Bool) (motive_2 := fun _ => Unit) sameB sameI sameS s1P0 (fun a o y => s1P y a o) (fun a o y => s1G y a o) s1Sl0 (fun a o l c y => s1Sl y a o l c) s1M0 (fun a y => s1M y a) (fun _ _ _ _ _ _ => false) s1F0 (fun _ _ _ _ => false) isI0 (fun _ _ _ => false) (fun _ _ _ => false) () (fun _ _ _ _ => ())
noncomputable def s1F (y : AVal) (fn : Fn) (a c : List AVal) : Bool := OF.rec (motive := fun _ => Bool) false false (fun fn' a' c' => ife (fnEq fn fn') (ife (all2 same0 a a') (all2 same0 c c') false) false) (asF y)
noncomputable def same1 (x y : AVal) : Bool := OF.rec (motive := fun _ => Bool) (same0 x y) (same0 x y) (fun fn a c => s1F y fn a c) (asF x)
noncomputable def sameV (x y : AVal) : Bool := Option.rec (motive := fun _ => Bool) (Option.rec (motive := fun _ => Bool) (same1 x y) (fun l => Option.rec (motive := fun _ => Bool) false (fun m => all2 same1 l m) (asTup y)) (asTup x)) (fun l => Option.rec (motive := fun _ => Bool) false (fun m => all2 same1 l m) (asAgg y)) (asAgg x)
noncomputable def asVal : Nx → Option AVal := Nx.rec (motive := fun _ => Option AVal) some (fun _ _ => none) (fun _ _ => none) (fun _ _ => none) (fun _ _ => none) (fun _ => none)
noncomputable def asNew : Nx → Option (AObj × AVal) := Nx.rec (motive := fun _ => Option (AObj × AVal)) (fun _ => none) (fun o v => some (o, v)) (fun _ _ => none) (fun _ _ => none) (fun _ _ => none) (fun _ => none)
/-- an entry ahead of what must come ahead of a reading does not count -/
noncomputable def readsSame (tm : Tm) (op : Op) (v : AVal) (m : Nat) (hs : List (Nat × Heap)) : Bool :=
  List.rec (motive := fun _ => Bool) true (fun p _ ih => ife (bit m p.1) ih (ife (Option.rec (motive := fun _ => Bool) false (fun u => sameV v u) (ob (execT op E p.2 p.2.next tm) asVal)) ih false)) hs
/-- the temporaries that an operation names, alone -/
noncomputable def opTmps (o : Oper) : List Nat := List.rec (motive := fun _ => List Nat) [] (fun x _ ih => tmpsOf ih x) o.op.operands.toList
noncomputable def pickT (tm : Tm) (l : List Nat) : List (Nat × AVal) := List.rec (motive := fun _ => List (Nat × AVal)) [] (fun t _ ih => Option.rec (motive := fun _ => List (Nat × AVal)) ih (fun v => (t, v) :: ih) (tm.get t)) l
noncomputable def named (o : Oper) (tm : Tm) : Tm := ⟨nat_lit 0, .e, pickT tm (opTmps o)⟩
structure Dr where
  s : St
  past : List (Nat × Heap)   -- the memories ahead of what did more, the newest first
noncomputable def dEff (r : Rec) (c : FC) (o : Oper) (i : Nat) (q : Dr) : Option Dr := ob (execS c o.op E (named o q.s.tm) q.s.h) fun x => ob (doNx x r c q.s o.dst) fun s => some ⟨s, (i, q.s.h) :: q.past⟩
noncomputable def dNew (c : FC) (o : Oper) (id : Nat) (q : Dr) : Option Dr := ob (execT o.op E q.s.h id (named o q.s.tm)) fun x => ob (asNew x) fun p => ob (putD c (stHeap (q.s.h.set id p.1) q.s) o.dst p.2) fun s => some ⟨s, q.past⟩
noncomputable def dVal (c : FC) (o : Oper) (q : Dr) (v : AVal) : Option Dr := ob (putD c q.s o.dst v) fun s => some ⟨s, q.past⟩
noncomputable def dRead (c : FC) (m : Nat) (o : Oper) (q : Dr) : Option Dr := ob (ob (execT o.op E q.s.h q.s.h.next (named o q.s.tm)) asVal) fun v => chk (readsSame E (named o q.s.tm) o.op v m q.past) (dVal c o q v)
noncomputable def dPure (c : FC) (o : Oper) (q : Dr) : Option Dr := ob (ob (execT o.op E q.s.h q.s.h.next (named o q.s.tm)) asVal) fun v => dVal c o q v
/-- not wanted -/
noncomputable def dOff (c : FC) (o : Oper) (i : Nat) (q : Dr) : Option Dr := ob (dVal c o q undefA) fun p => some (ife (isEff (kd E o)) ⟨p.s, (i, q.s.h) :: q.past⟩ p)
noncomputable def drOp (r : Rec) (c : FC) (all : List Oper) (bs : List Nat) (base i : Nat) (q : Dr) : Option Dr :=
  ob (nth all i) fun o => ob (nth bs i) fun m => ob (wants all q.s.tm o.guard) fun w => ife w
    (Kd.rec (motive := fun _ => Option Dr) (dPure E c o q) (dRead E c m o q) (dNew E c o (Nat.add base i) q) (dEff E r c o i q) (kd E o)) (dOff E c o i q)
/-- nothing lies at the numbers that are kept for what is not made yet -/
noncomputable def cleanAt (base : Nat) (g : Tr AObj) (l : List Nat) : Bool := List.rec (motive := fun _ => Bool) true (fun j _ ih => Option.rec (motive := fun _ => Bool) ih (fun _ => false) (g.get (Nat.add base j))) l
noncomputable def isEffAt (all : List Oper) (i : Nat) : Bool := Option.rec (motive := fun _ => Bool) false (fun o => isEff (kd E o)) (nth all i)
noncomputable def drOps (r : Rec) (c : FC) (all : List Oper) (bs : List Nat) (base : Nat) (l : List Nat) : Dr → Option Dr :=
  List.rec (motive := fun _ => Dr → Option Dr) (fun q => some q) (fun i rest ih q => ob (drOp E r c all bs base i q) fun q' => chk (ife (isEffAt E all i) (cleanAt base q'.s.h.bl rest) true) (ih q')) l
/-- an order of all of them, each behind what must come ahead of it; ahead of what does more, nothing else -/
noncomputable def ordOK (all : List Oper) (bs : List Nat) (l : List Nat) : Nat → Bool :=
  List.rec (motive := fun _ => Nat → Bool) (fun done => Nat.beq done (Nat.sub (Nat.pow (nat_lit 2) (lenL all)) (nat_lit 1)))
    (fun i _ ih done => Option.rec (motive := fun _ => Bool) false (fun o => Option.rec (motive := fun _ => Bool) false (fun m =>
      ife (bit done i) false (ife (ife (isEff (kd E o)) (Nat.beq m done) (Nat.beq (Nat.lor m done) done)) (ih (setBit done i)) false)) (nth bs i)) (nth all i)) l
noncomputable def mapN {α : Type} (f : α → Nat) (l : List α) : List Nat := List.rec (motive := fun _ => List Nat) [] (fun a _ ih => f a :: ih) l
/-- an order for a compiler of its own (of text: true): the first that can be done, again and again -/
noncomputable def bindsM (g : Bool) (e : Edge) : Bool := match e.ground with | .textOnly _ => g | .gcOnly _ => Bool.not g | _ => true
noncomputable def direct (g : Bool) (l : List Edge) : Nat := List.rec (motive := fun _ => Nat) (nat_lit 0) (fun e _ ih => ife (bindsM g e) (setBit ih e.on) ih) l
noncomputable def firstR (done : Nat) (ms : List Nat) : Nat → Option Nat :=
  List.rec (motive := fun _ => Nat → Option Nat) (fun _ => none) (fun m _ ih i => ife (ife (bit done i) false (Nat.beq (Nat.lor m done) done)) (some i) (ih (Nat.succ i))) ms
noncomputable def greedy (ms : List Nat) (n : Nat) : Nat → Bool :=
  Nat.rec (motive := fun _ => Nat → Bool) (fun done => Nat.beq done (Nat.sub (Nat.pow (nat_lit 2) (lenL ms)) (nat_lit 1))) (fun _ ih done => Option.rec (motive := fun _ => Bool) false (fun i => ih (setBit done i)) (firstR done ms (nat_lit 0))) n
noncomputable def topoM (g : Bool) (l : List Oper) : Bool := greedy (mapN (fun o => direct g o.after.toList) l) (lenL l) (nat_lit 0)
noncomputable def departsL (l : List Oper) : Bool := List.rec (motive := fun _ => Bool) false (fun o _ ih => ife (allL (fun _ e => bindsE e) o.after.toList (nat_lit 0)) ih true) l
noncomputable def topoOK (l : List Oper) : Bool := ife (departsL l) (ife (topoM true l) (topoM false l) false) true
/-- all that hangs on the text alone: what must come ahead, and the order -/
noncomputable def planL (l : List Oper) : Option (List Nat × List Nat) :=
  ob (beforeL l [] (nat_lit 0)) fun bs => chk (tmpsOK bs l) (chk (effsOK E bs l) (chk (guardsOK bs l) (chk (topoOK l) (ob (some (orderL E (lenL l) bs (rangeL (lenL l) (nat_lit 0)) l (nat_lit 0) (nat_lit 0))) fun ord => chk (ordOK E l bs ord (nat_lit 0)) (some (bs, ord))))))
noncomputable def drawn (r : Rec) (c : FC) (l : List Oper) (s : St) : Option St :=
  ob (planL E l) fun p => ob (drOps E r c l p.1 s.h.next p.2 ⟨⟨s.tm, s.df, ⟨s.h.bl, Nat.add s.h.next (lenL l)⟩⟩, []⟩) fun q => some q.s
/-! a code -/
abbrev CT := Env → Rec → FC → St → Option Res
noncomputable def cSkip : CT := fun _ _ _ s => some ⟨.normal, s⟩
noncomputable def cRegion (_ : Nat) (ops : Array Oper) (draw : Bool) : CT := fun E r c s => ob (ife draw (drawn E r c ops.toList (stDrop s)) (plainOps E r c ops.toList ops.toList (stDrop s))) fun s => some ⟨.normal, s⟩
noncomputable def thenX (k : St → Option Res) (e : Ex) (s : St) : Option Res := Ex.rec (motive := fun _ => Option Res) (k s) (fun i => some ⟨.exit i, s⟩) (fun l => some ⟨.goto l, s⟩) (some ⟨.ret, s⟩) e
noncomputable def thenR (k : St → Option Res) (q : Res) : Option Res := Res.rec (motive := fun _ => Option Res) (thenX k) q
noncomputable def cSeq (_ _ : Code) (ia ib : CT) : CT := fun E r c s => ob (ia E r c s) (thenR (ib E r c))
noncomputable def cCond (o : Operand) (_ _ : Code) (ia ib : CT) : CT := fun E r c s => ob (opd o s.tm) fun v => ob (asB v) fun t => ife t (ia E r c s) (ib E r c s)
noncomputable def blockX (id : Nat) (e : Ex) (s : St) : Option Res := Ex.rec (motive := fun _ => Option Res) (some ⟨.normal, s⟩) (fun i => ife (Nat.beq i id) (some ⟨.normal, s⟩) (some ⟨.exit i, s⟩)) (fun l => some ⟨.goto l, s⟩) (some ⟨.ret, s⟩) e
noncomputable def cBlock (id : Nat) (_ : Code) (ib : CT) : CT := fun E r c s => ob (ib E r c s) fun q => Res.rec (motive := fun _ => Option Res) (blockX id) q
noncomputable def cLoop (b : Code) (ib : CT) : CT := fun E r c s => ob (ib E r c s) (thenR (r.code c (.loop b)))
noncomputable def jumpK (s : St) (j : Code) : Option Res := match j with | .ret => some ⟨.ret, s⟩ | .exit id => some ⟨.exit id, s⟩ | .goto l => some ⟨.goto l, s⟩ | _ => none
noncomputable def afterLoop (l d : Nat) (s : St) (h : Heap) (o : AObj) : Option Res := match o with
  | .loop st pend fn tm nt ps as bd d' => (match st with
    | .busy => none
    | _ => Option.rec (motive := fun _ => Option Res) (some ⟨.normal, ⟨s.tm.drop, .coll d :: s.df, h.set l (.loop .exhausted pend fn tm nt ps as bd d')⟩⟩) (fun j => jumpK ⟨s.tm.drop, .coll d :: s.df, h.set l (.loop .exhausted pend fn tm nt ps as bd d')⟩ j) pend)
  | _ => none
noncomputable def cRange (f : Operand) (ps : Array Tmp) (asg b : Code) (_ _ : CT) : CT := fun E r c s => chk (Bool.not c.round) (ob (opd f s.tm) fun fv =>
  ob (applyV E fv [.f (.yield (Nat.succ s.h.next)) [] []]) fun x => match x with
    | .enter g args => ob (r.call g args ((s.h.new .dfr).new (.loop .ready none c.f s.tm.base c.nt ps.toList asg b s.h.next))) fun q => ob (q.h.get (Nat.succ s.h.next)) (afterLoop (Nat.succ s.h.next) s.h.next s q.h)
    | _ => none)
noncomputable def cExit (id : Nat) : CT := fun _ _ _ s => some ⟨.exit id, s⟩
noncomputable def scopeX (c : FC) (r : Rec) (b : Code) (e : Ex) (s : St) : Option Res := Ex.rec (motive := fun _ => Option Res) (some ⟨.normal, s⟩) (fun i => some ⟨.exit i, s⟩)
  (fun l => Option.rec (motive := fun _ => Option Res) (some ⟨.goto l, s⟩) (fun rest => r.scope c b rest s) (findLabel b l)) (some ⟨.ret, s⟩) e
noncomputable def cScope (b : Code) (ib : CT) : CT := fun E r c s => ob (ib E r c s) fun q => Res.rec (motive := fun _ => Option Res) (scopeX c r b) q
noncomputable def cGoto (l : Nat) : CT := fun _ _ _ s => some ⟨.goto l, s⟩
noncomputable def cRet : CT := fun _ _ _ s => some ⟨.ret, s⟩
noncomputable def cRefuse (_ : String) : CT := fun _ _ _ _ => none
-- skip region seq cond block loop rangeFunc exit scope label goto ret refuse
noncomputable def codeV (x : Code) : CT := Code.rec (motive := fun _ => CT) cSkip cRegion cSeq cCond cBlock cLoop cRange cExit cScope (fun _ => cSkip) cGoto cRet cRefuse x
noncomputable def scopeV (r : Rec) (c : FC) (b rest : Code) (s : St) : Option Res := ob (r.code c rest s) fun q => Res.rec (motive := fun _ => Option Res) (scopeX c r b) q
noncomputable def defsV (r : Rec) (l : List ADef) : Heap → Option Heap :=
  List.rec (motive := fun _ => Heap → Option Heap) (fun h => some h) (fun d _ ih h => match d with
    | .coll b => ob (h.get b) fun o => (match o with | .dfr => ih (h.del b) | _ => none)
    | .fn v => ob (applyV E v []) fun x => (match x with | .enter f args => ob (r.dcall f args h) fun q => ih q.h | _ => none)) l
noncomputable def resOne (t : Tm) (h : Heap) (x : ResultVar) : Option AVal := ResultVar.rec (motive := fun _ => Option AVal) (fun k => t.get k) (fun a ty => ob (t.get a) fun p => ob (E.ty ty) fun ti => ldVar E h ti p) x
noncomputable def tup1 (l : List AVal) : AVal := match l with | [v] => v | l => .tup l
noncomputable def resV (t : Tm) (h : Heap) (rs : List ResultVar) : Option AVal := ob (mapO (resOne E t h) rs) fun l => some (tup1 l)
/-! which temporaries are kept: any number may stand here -/
noncomputable def maskOps (l : List Oper) : Nat := List.rec (motive := fun _ => Nat) (nat_lit 0) (fun o _ ih => List.rec (motive := fun _ => Nat) ih (fun t _ jh => setBit jh t) (namesOf o)) l
structure Mk where
  seen : Nat
  multi : Nat
  last : Nat
noncomputable def Mk.add (m : Mk) (s : Nat) : Mk := ⟨Nat.lor m.seen s, Nat.lor m.multi (Nat.land m.seen s), s⟩
noncomputable def Mk.cond (m : Mk) (o : Operand) : Mk := Operand.rec (motive := fun _ => Mk) (fun t => ife (bit m.last t) m ⟨m.seen, setBit m.multi t, m.last⟩) (fun _ => m) (fun _ => m) (fun _ => m) o
noncomputable def bitsL (l : List Nat) (m : Nat) : Nat := List.rec (motive := fun _ => Nat) m (fun t _ jh => setBit jh t) l
noncomputable def maskC (x : Code) : Mk → Mk :=
  Code.rec (motive := fun _ => Mk → Mk) (fun m => m) (fun _ ops _ m => m.add (maskOps ops.toList)) (fun _ _ ia ib m => ib (ia m))
    (fun o _ _ ia ib m => ib ⟨(ia (m.cond o)).seen, (ia (m.cond o)).multi, m.last⟩) (fun _ _ ib m => ib m) (fun _ ib m => ib m)
    (fun o ps _ _ ia ib m => ib (ia ⟨(m.cond o).seen, bitsL ps.toList (m.cond o).multi, nat_lit 0⟩)) (fun _ m => m) (fun _ ib m => ib m) (fun _ m => m) (fun _ m => m) (fun m => m) (fun _ m => m) x
noncomputable def slotOf (r : ResultVar) : Nat := ResultVar.rec (motive := fun _ => Nat) (fun t => t) (fun t _ => t) r
noncomputable def maskF (fn : Func) (n : Nat) (c : Code) : Nat :=
  List.rec (motive := fun _ => Nat) (maskC c ⟨Nat.sub (Nat.pow (nat_lit 2) n) (nat_lit 1), nat_lit 0, nat_lit 0⟩).multi (fun r _ jh => setBit jh (slotOf r)) fn.results.toList
noncomputable def argsT (l : List AVal) : Nat → Tr AVal → Tr AVal := List.rec (motive := fun _ => Nat → Tr AVal → Tr AVal) (fun _ t => t) (fun v _ ih k t => ih (Nat.succ k) (t.set k v)) l
noncomputable def endV (r : Rec) (fn : Func) (q : Res) : Option CR := Ex.rec (motive := fun _ => Option CR)
  (ob (defsV E r q.s.df q.s.h) fun h => ob (resV E q.s.tm h fn.results.toList) fun v => some ⟨v, h⟩) (fun _ => none) (fun _ => none)
  (ob (defsV E r q.s.df q.s.h) fun h => ob (resV E q.s.tm h fn.results.toList) fun v => some ⟨v, h⟩) q.e
noncomputable def bodyV (r : Rec) (f : Nat) (args : List AVal) (h : Heap) (fn : Func) (x : Code) : Option CR :=
  chk (Nat.ble (lenL args) fn.ntmps) (ob (codeV x E r ⟨f, fn.ntmps, false⟩ ⟨⟨Nat.lor (maskF fn (lenL args) x) (Nat.sub (Nat.pow (nat_lit 2) (lenL args)) (nat_lit 1)), argsT args (nat_lit 0) .e, []⟩, [], h⟩) (endV E r fn))
/-- a call that is deferred, or asked for at the top: nothing is known of it beforehand -/
noncomputable def dcallV (r : Rec) (f : Nat) (args : List AVal) (h : Heap) : Option CR := ob (E.fn f) fun fn => ob fn.body fun x => bodyV E r f args h fn x
noncomputable def callV (r : Rec) (f : Nat) (args : List AVal) (h : Heap) : Option CR :=
  Option.rec (motive := fun _ => Option CR) (ob (E.fn f) fun fn => ob fn.body fun x => bodyV E r f args h fn x) some (E.ext f args h)
noncomputable def bindP (ps : List Tmp) : List AVal → Tr AVal → Option (Tr AVal) :=
  List.rec (motive := fun _ => List AVal → Tr AVal → Option (Tr AVal)) (fun a t => List.rec (motive := fun _ => Option (Tr AVal)) (some t) (fun _ _ _ => none) a) (fun p _ ih a t => List.rec (motive := fun _ => Option (Tr AVal)) none (fun v r _ => ih r (t.set p v)) a) ps
noncomputable def roundEnd (l : Nat) (q : Res) : Option CR := ob (q.s.h.get l) fun o => match o with
  | .loop _ _ fn tm nt ps asg bd d => Ex.rec (motive := fun _ => Option CR)
      (some ⟨.b true, q.s.h.set l (.loop .ready none fn tm nt ps asg bd d)⟩)
      (fun id => some ⟨.b false, q.s.h.set l (.loop .done (some (.exit id)) fn tm nt ps asg bd d)⟩)
      (fun g => some ⟨.b false, q.s.h.set l (.loop .done (some (.goto g)) fn tm nt ps asg bd d)⟩)
      (some ⟨.b false, q.s.h.set l (.loop .done (some .ret) fn tm nt ps asg bd d)⟩) q.e
  | _ => none
noncomputable def roundMid (r : Rec) (l : Nat) (fn : FuncId) (nt : Nat) (bd : Code) (q : Res) : Option CR := Ex.rec (motive := fun _ => Option CR)
  (ob (q.s.h.get l) fun o => (match o with
    | .loop st' pend fn' tm' nt' ps' asg' bd' d' => (match st' with
      | .ready => ob (r.code ⟨fn, nt, true⟩ bd ⟨q.s.tm, [], q.s.h.set l (.loop .busy pend fn' tm' nt' ps' asg' bd' d')⟩) (roundEnd l)
      | _ => none)
    | _ => none)) (fun _ => none) (fun _ => none) none q.e
noncomputable def roundO (r : Rec) (l : Nat) (args : List AVal) (h : Heap) (o : AObj) : Option CR := match o with
  | .loop st _ fn tm nt ps asg bd _ => (match st with
    | .ready => ob (bindP ps args tm) fun t => chk (allL (fun _ p => lt p nt) ps (nat_lit 0)) (ob (r.code ⟨fn, nt, true⟩ asg ⟨⟨Nat.sub (Nat.pow (nat_lit 2) nt) (nat_lit 1), t, []⟩, [], h⟩) (roundMid r l fn nt bd))
    | _ => none)
  | _ => none
noncomputable def roundV (r : Rec) (l : Nat) (args : List AVal) (h : Heap) : Option CR := ob (h.get l) (roundO r l args h)
noncomputable def recN (n : Nat) : Rec :=
  Nat.rec (motive := fun _ => Rec) ⟨fun _ _ _ => none, fun _ _ _ => none, fun _ _ _ => none, fun _ _ _ _ => none, fun _ _ _ => none⟩
    (fun _ r => ⟨callV E r, roundV r, fun c x s => codeV x E r c s, scopeV r, dcallV E r⟩) n
noncomputable def run (n f : Nat) (args : List AVal) (h : Heap) : Option CR := (recN E n).dcall f args h
/-- the tables of a program -/
noncomputable def envOf (P : Program) (gl : Nat → Nat → Option AVal) (ext : Nat → List AVal → Heap → Option CR) : Env where
  fn f := nth P.funcs.toList f
  ty t := ob (P.info? t) fun i => ob (P.underlying t) fun d => some ⟨d, i.size, i.bytes, ob i.zero (absV (nat_lit 9)), P.stoodInHeld t, P.eqGuardType P.depth t⟩
  gl := gl
  meth t name := ob (P.info? t) fun i => ob (i.methods.find? (·.name == name)) fun m => chk m.path.isEmpty (ob m.func fun q => ob (P.underlying t) fun d => match d with
    | .pointer _ => chk q.2 (some q)
    | _ => chk (Bool.not q.2) (some q))
  ext := ext
end Go.Abs
