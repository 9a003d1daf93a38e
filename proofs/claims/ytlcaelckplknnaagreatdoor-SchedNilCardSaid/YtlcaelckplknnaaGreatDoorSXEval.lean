/- SX: an evaluator from the model's code to plain predicate transformers: definitions. Its soundness is proved in the texts behind this one. -/
import Derived.Orders
import Derived.Laws.World
import Derived.KernelRfl
set_option linter.unusedVariables false
set_option linter.unusedSimpArgs false
namespace Go.SX
open Go

abbrev M := World → Prop
/-- nothing can be said: no way on -/
def F : M := fun _ => False

/-- sorts of single cells -/
inductive Srt where
  | ki (k : IntKind) | kb | kp | ks | km | kf (k : FloatKind) | kstr | kv

structure Sl where
  a : Option Addr
  len : Nat
  cap : Nat

abbrev Srt.D : Srt → Type
  | .ki _ => Int
  | .kb => Bool
  | .kp => Option Addr
  | .ks => Sl
  | .km => Option Nat
  | .kf _ => Nat
  | .kstr => ByteArray
  | .kv => Value

def Srt.val : (s : Srt) → s.D → Value
  | .ki k, n => .int k n
  | .kb, x => .bool x
  | .kp, x => .pointer x
  | .ks, x => .slice x.a x.len x.cap
  | .km, x => .map x
  | .kf k, x => .float k x
  | .kstr, x => .string x
  | .kv, x => x

def beqK : IntKind → IntKind → Bool
  | .i8, .i8 | .i16, .i16 | .i32, .i32 | .i64, .i64 | .u8, .u8 | .u16, .u16 | .u32, .u32 | .u64, .u64 => true
  | _, _ => false
def beqFK : FloatKind → FloatKind → Bool
  | .f32, .f32 | .f64, .f64 => true
  | _, _ => false

/-- a value as a datum of a sort -/
def unv : (s : Srt) → Value → Option s.D
  | .ki k, .int k' n => match beqK k k' with | true => some n | false => none
  | .kb, .bool x => some x
  | .kp, .pointer x => some x
  | .ks, .slice a l c => some ⟨a, l, c⟩
  | .km, .map x => some x
  | .kf k, .float k' x => match beqFK k k' with | true => some x | false => none
  | .kstr, .string x => some x
  | .kv, x => some x
  | _, _ => none

/-- a row of data -/
abbrev DD : List (Nat × Srt) → Type
  | [] => Unit
  | x :: l => x.2.D × DD l

abbrev Env := List (Nat × Value)
def lk : Env → Nat → Option Value
  | [], _ => none
  | (d, v) :: e, t => match Nat.beq d t with | true => some v | false => lk e t
def evo (e : Env) : Operand → Option Value
  | .tmp t => lk e t
  | .const v => some v
  | .global g => some (.pointer (some ⟨g, 0, none⟩))
  | .func f => some (.func (.func f) #[] #[])
def memN : List Nat → Nat → Bool
  | [], _ => false
  | x :: l, t => match Nat.beq x t with | true => true | false => memN l t
/-- an environment without some slots -/
def rm (l : List Nat) : Env → Env
  | [] => []
  | (d, v) :: e => match memN l d with | true => rm l e | false => (d, v) :: rm l e
def put (d : Option Nat) (v : Value) (e : Env) : Env :=
  match d with
  | some d => (d, v) :: e
  | none => e
/-- an operation that was not done leaves nothing -/
def drop1 (d : Option Nat) (e : Env) : Env :=
  match d with
  | some d => (d, .tuple #[]) :: e
  | none => e
def putD : (js : List (Nat × Srt)) → DD js → Env → Env
  | [], _, e => e
  | (t, s) :: js, d, e => (t, s.val d.1) :: putD js d.2 e
def collect : (js : List (Nat × Srt)) → Env → (DD js → M) → M
  | [], _, k => k ()
  | (t, s) :: js, e, k =>
    match lk e t with
    | none => F
    | some v => match unv s v with
      | none => F
      | some d => collect js e fun ds => k (d, ds)

/-! the words -/
def eqI (x y : Int) : Bool := x == y
def neI (x y : Int) : Bool := x != y
def ltI (x y : Int) : Bool := decide (x < y)
def leI (x y : Int) : Bool := decide (x ≤ y)
def eqBl (x y : Bool) : Bool := x == y
def notB (x : Bool) : Bool := !x
def andB (x y : Bool) : Bool := x && y
def isN {α : Type} (x : Option α) : Bool := x.isNone
def isNV : Value → Bool
  | .nilFunc => true
  | _ => false
def rq (p : Prop) (k : M) : M := fun w => p ∧ k w
def w1 (o : Option Value) (k : Value → M) : M := match o with | some v => k v | none => F
def br (b : Bool) (x y : M) : M := match b with | true => x | false => y
def ld (s : Srt) (a : Addr) (k : s.D → M) : M := fun w => ∃ d : s.D, w.cell? a = some (s.val d) ∧ k d w
def xd (s : Srt) (k : s.D → M) : M := fun w => ∃ d : s.D, k d w
def nn (p : Option Addr) (k : Addr → M) : M := match p with | some a => k a | none => F
def dr (k : M) : M := fun w => k w.drew
def jn {σ : Type} (J : σ → M) (B : (σ → M) → M) : M := B J
def lpN {σ : Type} (B : σ → (σ → M) → M) : Nat → σ → M
  | 0, _ => F
  | n + 1, s => B s (lpN B n)
def lp {σ : Type} (B : σ → (σ → M) → M) (s : σ) : M := fun w => ∃ n, lpN B n s w
/-- the slot of a slice -/
def ix (a : Option Addr) (len : Nat) (i : Int) (sz : Nat) (k : Addr → M) : M := fun w => ∃ p, a = some p ∧ 0 ≤ i ∧ i < len ∧ k (p.add (i.toNat * sz)) w
def slA (a : Option Addr) (cap l sz : Nat) : Option Addr := if cap = l then a else a.map (·.add (l * sz))
def st (a : Addr) (v : Value) (k : M) : M := fun w => (∃ u, w.cell? a = some u) ∧ w.frozen? a = false ∧ k (w.setCell a v)
/-- cells are others, from a place on -/
def setN (a : Addr) : Nat → List Value → World → World
  | _, [], w => w
  | i, v :: vs, w => setN a (i + 1) vs (w.setCell (a.add i) v)
def al (T : TypeId) (cs : List Value) (k : Addr → M) : M := fun w => k ⟨w.heap.size, 0, none⟩ (w.alloc (.cells cs.toArray T))
def alm (k : Nat → M) : M := fun w => k w.heap.size (w.alloc (.map #[] 0))

/-- what every call leaves: the outside, and the shape of what was there -/
structure Rest (w w' : World) : Prop where
  os : w'.os = w.os
  output : w'.output = w.output
  tape : w'.tape = w.tape
  size : w.heap.size ≤ w'.heap.size
  cells : ∀ (b : Nat) (c : Array Value) (T : TypeId) (fz : Nat × Nat), w.heap[b]? = some (Obj.cells c T fz) → ∃ c' : Array Value, w'.heap[b]? = some (Obj.cells c' T fz) ∧ c'.size = c.size
  others : ∀ b : Nat, (∀ (c : Array Value) (T : TypeId) (fz : Nat × Nat), w.heap[b]? ≠ some (Obj.cells c T fz)) → b < w.heap.size → ∀ (c : Array Value) (T : TypeId) (fz : Nat × Nat), w'.heap[b]? ≠ some (Obj.cells c T fz)

def cl (P : Program) (f : FuncId) (args : List Value) (k : Value → M) : M := fun w =>
  Calls P f args.toArray w fun e w' => ∃ v, e = .returned v ∧ Rest w w' ∧ k v w'

/-- what is read -/
inductive Rd where
  | cells (a : Addr) (n : Nat)
  | obj (r : Nat)
def Rd.same (w w' : World) : Rd → Prop
  | .cells a n => ∀ i, i < n → w'.cell? (a.add i) = w.cell? (a.add i)
  | .obj r => w'.heap[r]? = w.heap[r]?
def kp (ks : List Rd) (w0 : World) (k : M) : M := fun w => (∀ r ∈ ks, r.same w0 w) ∧ k w

/-! types -/
def srtOf : TypeDesc → Srt
  | .bool => .kb
  | .int k => .ki k
  | .float k => .kf k
  | .string => .kstr
  | .pointer _ => .kp
  | .slice _ => .ks
  | .map _ _ => .km
  | _ => .kv
def repL (n : Nat) (l : List Srt) : List Srt := match n with | 0 => [] | n + 1 => l ++ repL n l
def appAll (g : TypeId → Option (List Srt)) : List Field → Option (List Srt)
  | [] => some []
  | f :: fs => match g f.type, appAll g fs with
    | some x, some y => some (x ++ y)
    | _, _ => none
def cellSrts (P : Program) : Nat → TypeId → Option (List Srt)
  | 0, _ => none
  | n + 1, t => match P.underlying t with
    | some (.struct fs) => appAll (cellSrts P n) fs.toList
    | some (.array len e) => match cellSrts P n e with
      | some l => some (repL len l)
      | none => none
    | some d => some [srtOf d]
    | none => none
def isAggB (P : Program) (t : TypeId) : Option Bool :=
  match P.underlying t with
  | some (.struct _) | some (.array _ _) => some true
  | some _ => some false
  | none => none
def sizeB (P : Program) (t : TypeId) : Option Nat := (P.info? t).map (·.size)

def ldA : List Srt → Addr → Nat → (List Value → M) → M
  | [], _, _, k => k []
  | s :: ss, a, i, k => ld s (a.add i) fun d => ldA ss a (i + 1) fun vs => k (s.val d :: vs)
def exD : List Srt → (List Value → M) → M
  | [], k => k []
  | s :: ss, k => xd s fun d => exD ss fun vs => k (s.val d :: vs)

/-- a value of a type: its data -/
def asT (P : Program) (T : TypeId) (k : Value → M) : M :=
  match P.underlying T with
  | some (.struct _) | some (.array _ _) => match cellSrts P 40 T with
    | some ss => exD ss fun vs => k (.agg vs.toArray)
    | none => F
  | some d => xd (srtOf d) fun x => k ((srtOf d).val x)
  | none => F
def asTs (P : Program) : List TypeId → (List Value → M) → M
  | [], k => k []
  | T :: Ts, k => asT P T fun v => asTs P Ts fun vs => k (v :: vs)
/-- the result of a call, by its function's result types -/
def asRes (P : Program) (Ts : List TypeId) (v : Value) (k : Value → M) : M :=
  match Ts with
  | [T] => asT P T fun u => rq (v = u) (k u)
  | Ts => asTs P Ts fun us => rq (v = .tuple us.toArray) (k (.tuple us.toArray))

def loadM (P : Program) (T : TypeId) (a : Addr) (k : Value → M) : M :=
  match isAggB P T with
  | some true => match cellSrts P 40 T, sizeB P T with
    | some ss, some n => match Nat.beq ss.length n with
      | true => ldA ss a 0 fun vs => k (.agg vs.toArray)
      | false => F
    | _, _ => F
  | some false => match P.underlying T with
    | some d => ld (srtOf d) a fun x => k ((srtOf d).val x)
    | none => F
  | none => F

/-! quiet operations -/
def bAnd (k : IntKind) (x y : Int) : Int := k.wrap (BitVec.ofInt k.bits x &&& BitVec.ofInt k.bits y).toNat
def bOr (k : IntKind) (x y : Int) : Int := k.wrap (BitVec.ofInt k.bits x ||| BitVec.ofInt k.bits y).toNat
def bXor (k : IntKind) (x y : Int) : Int := k.wrap (BitVec.ofInt k.bits x ^^^ BitVec.ofInt k.bits y).toNat
def bAndNot (k : IntKind) (x y : Int) : Int := k.wrap (BitVec.ofInt k.bits x &&& ~~~ BitVec.ofInt k.bits y).toNat
def bShl (k : IntKind) (x y : Int) : Int := k.wrap (x * 2 ^ (min y.toNat k.bits))
def bShr (k : IntKind) (x y : Int) : Int := x.fdiv (2 ^ (min y.toNat k.bits))

def intM (op : BinOp) (k : IntKind) (x y : Int) (kk : Value → M) : M :=
  match op with
  | .add => kk (.int k (k.wrap (x + y)))
  | .sub => kk (.int k (k.wrap (x - y)))
  | .mul => kk (.int k (k.wrap (x * y)))
  | .quo => rq (y ≠ 0) (kk (.int k (k.wrap (x.tdiv y))))
  | .rem => rq (y ≠ 0) (kk (.int k (x.tmod y)))
  | .and => kk (.int k (bAnd k x y))
  | .or => kk (.int k (bOr k x y))
  | .xor => kk (.int k (bXor k x y))
  | .andNot => kk (.int k (bAndNot k x y))
  | .eql => kk (.bool (eqI x y))
  | .neq => kk (.bool (neI x y))
  | .lss => kk (.bool (ltI x y))
  | .leq => kk (.bool (leI x y))
  | .gtr => kk (.bool (ltI y x))
  | .geq => kk (.bool (leI y x))
  | .shl => rq (0 ≤ y) (kk (.int k (bShl k x y)))
  | .shr => rq (0 ≤ y) (kk (.int k (bShr k x y)))

def isFn : Value → Bool
  | .nilFunc => true
  | .func _ _ _ => true
  | _ => false

/-- equality of structs whose fields are numbers and truths, one cell each, none of them blank -/
def eqFs (P : Program) : List Field → Nat → List Value → List Value → Option Bool
  | [], _, [], [] => some true
  | f :: fs, i, x :: xs, y :: ys =>
    match Nat.beq f.offset i, f.name != "_", P.underlying f.type with
    | true, true, some (.int _) => match x, y with
      | .int k a, .int k' b => match beqK k k', eqFs P fs (i + 1) xs ys with
        | true, some r => some (andB (eqI a b) r)
        | _, _ => none
      | _, _ => none
    | true, true, some .bool => match x, y with
      | .bool a, .bool b => match eqFs P fs (i + 1) xs ys with
        | some r => some (andB (eqBl a b) r)
        | none => none
      | _, _ => none
    | _, _, _ => none
  | _, _, _, _ => none
def eqSt (P : Program) (T : TypeId) (xs ys : List Value) : Option Bool :=
  match P.underlying T with
  | some (.struct fs) => match P.stoodInHeld T, P.eqGuardType P.depth T with
    | false, false => eqFs P fs.toList 0 xs ys
    | _, _ => none
  | _ => none

def eqOut (neg : Bool) (kk : Value → M) (b : Bool) : M := match neg with | true => kk (.bool (notB b)) | false => kk (.bool b)
def eqM (P : Program) (T : TypeId) (neg : Bool) (x y : Value) (kk : Value → M) : M :=
  match y with
  | .nilFunc => match P.underlying T with
    | some (.func _ _ _) => rq (isFn x = true) (eqOut neg kk (isNV x))
    | _ => F
  | .bool b => match x with
    | .bool a => match P.underlying T with
      | some .bool => eqOut neg kk (eqBl a b)
      | _ => F
    | _ => F
  | .pointer none => match x with
    | .pointer a => match P.underlying T with
      | some (.pointer _) => eqOut neg kk (isN a)
      | _ => F
    | _ => F
  | .slice none _ _ => match x with
    | .slice a _ _ => match P.underlying T with
      | some (.slice _) => eqOut neg kk (isN a)
      | _ => F
    | _ => F
  | .map none => match x with
    | .map a => match P.underlying T with
      | some (.map _ _) => eqOut neg kk (isN a)
      | _ => F
    | _ => F
  | .agg ys => match x with
    | .agg xs => match eqSt P T xs.toList ys.toList with
      | some b => eqOut neg kk b
      | none => F
    | _ => F
  | _ => F

def kindB : Value → Bool
  | .int _ _ => true
  | _ => false

def binM (P : Program) (op : BinOp) (T : TypeId) (x y : Value) (kk : Value → M) : M :=
  match y with
  | .nilFunc => match op with
    | .eql => eqM P T false x .nilFunc kk
    | .neq => eqM P T true x .nilFunc kk
    | _ => F
  | y => match x, y with
    | .int k a, .int k' b =>
      match op with
      | .shl => intM .shl k a b kk
      | .shr => intM .shr k a b kk
      | op => match beqK k k' with
        | true => intM op k a b kk
        | false => F
    | x, y => match op with
      | .eql => eqM P T false x y kk
      | .neq => eqM P T true x y kk
      | _ => F

def min2V : Value → Value → Option Value
  | .int k x, .int _ y => some (.int k (if y < x then y else x))
  | _, _ => none
def max2V : Value → Value → Option Value
  | .int k x, .int _ y => some (.int k (if y > x then y else x))
  | _, _ => none
def foldV (g : Value → Value → Option Value) : Value → List Value → Option Value
  | x, [] => some x
  | x, y :: l => match g x y with | some z => foldV g z l | none => none

def evs (ev : Operand → Option Value) : List Operand → Option (List Value)
  | [] => some []
  | x :: l => match ev x, evs ev l with
    | some v, some vs => some (v :: vs)
    | _, _ => none
def evps (ev : Operand → Option Value) : List (Nat × Operand) → Option (List (Nat × Value))
  | [] => some []
  | (i, x) :: l => match ev x, evps ev l with
    | some v, some vs => some ((i, v) :: vs)
    | _, _ => none
def ws (o : Option (List Value)) (k : List Value → M) : M := match o with | some vs => k vs | none => F

/-- cells with others from a place on -/
def layAt : Nat → List Value → List Value → List Value
  | _, [], cs => cs
  | 0, v :: vs, _ :: cs => v :: layAt 0 vs cs
  | n + 1, vs, c :: cs => c :: layAt n vs cs
  | _, _ :: _, [] => []
def fillL (place : Nat → Option (Nat × Nat)) : List Value → List (Nat × Value) → Option (List Value)
  | cells, [] => some cells
  | cells, (i, v) :: rest =>
    match place i with
    | none => none
    | some (off, size) =>
      match Nat.beq v.cells.toList.length size, Nat.ble (off + v.cells.toList.length) cells.length with
      | true, true => fillL place (layAt off v.cells.toList cells) rest
      | _, _ => none
def zeroL (P : Program) (T : TypeId) : Option (List Value) := match P.info? T with
  | some i => match i.zero with
    | some v => some v.cells.toList
    | none => none
  | none => none
def structPlace (P : Program) (fs : Array Field) (i : Nat) : Option (Nat × Nat) :=
  match fs.toList[i]? with
  | some f => match P.info? f.type with
    | some inf => some (f.offset, inf.size)
    | none => none
  | none => none
def allInfo (P : Program) : List Field → Bool
  | [] => true
  | f :: fs => match P.info? f.type with
    | some _ => allInfo P fs
    | none => false
def buildM (P : Program) (T : TypeId) (parts : List (Nat × Value)) (k : Value → M) : M :=
  match P.underlying T, zeroL P T with
  | some (.struct fs), some z => match allInfo P fs.toList, fillL (structPlace P fs) z parts with
    | true, some cs => k (.agg cs.toArray)
    | _, _ => F
  | some (.array _ e), some z => match sizeB P e with
    | some size => match fillL (fun i => some (i * size, size)) z parts with
      | some cs => k (.agg cs.toArray)
      | none => F
    | none => F
  | _, _ => F

def partL (P : Program) (T : TypeId) (cs : List Value) (off : Nat) : Option Value :=
  match isAggB P T, sizeB P T with
  | some true, some n => some (.agg ((cs.drop off).take n).toArray)
  | some false, _ => cs[off]?
  | _, _ => none

def intOfV : Value → Option Int
  | .int _ n => some n
  | _ => none
def wi (o : Option Value) (k : Int → M) : M := match o with | some (.int _ n) => k n | _ => F

def bltnQ (P : Program) (b : Builtin) (tys : List TypeId) (args : List Value) (k : Value → M) : M :=
  match b, tys, args with
  | .len, [t], [.slice _ n _] => match P.underlying t with
    | some (.slice _) => k (.int .i64 n)
    | _ => F
  | .len, [t], [.string s] => match P.underlying t with
    | some .string => k (.int .i64 s.size)
    | _ => F
  | .cap, [t], [.slice _ _ c] => match P.underlying t with
    | some (.slice _) => k (.int .i64 c)
    | _ => F
  | .min, _, x :: l => match foldV min2V x l with | some v => k v | none => F
  | .max, _, x :: l => match foldV max2V x l with | some v => k v | none => F
  | _, _, _ => F

def bltnTy (P : Program) (b : Builtin) (tys : List TypeId) : Bool :=
  match b with
  | .len | .cap => match tys with
    | t :: _ => match P.underlying t with
      | some (.slice _) | some .string => true
      | _ => false
    | _ => false
  | .min | .max => true
  | _ => false

/-- quiet operations: they change nothing, and read cells and objects at most -/
def quietB (P : Program) (op : Op) : Bool :=
  match op with
  | .move _ | .assign _ | .pick .. | .load .. | .nilCheck _ | .binOp .. | .unOp .. | .fieldAddr .. | .field .. | .indexAddr .. | .index .. | .slice .. | .extract .. | .build .. | .makeFunc .. | .makeInterface .. | .lookup .. => true
  | .convert src dst _ => match P.underlying src, P.underlying dst with
    | some (.int _), some (.int _) => true
    | _, _ => false
  | .call c => match c.callee with
    | .builtin b => bltnTy P b c.argTypes.toList
    | _ => false
  | _ => false

/-- what a lookup finds -/
def Finds (P : Program) (kT : TypeId) (key : Value) (es : Array MapEntry) (r : Option (Nat × Value)) : Prop :=
  ∀ w : World, (Instr.checkKey es.isEmpty 10000 kT key).run P w = .ok () w ∧ (Instr.findKey kT key es.toList).run P w = .ok r w
def mpAt (w : World) (r : Option Nat) (es : Array MapEntry) : Prop :=
  match r with
  | none => es = #[]
  | some b => ∃ c, w.heap[b]? = some (.map es c)
/-- a key that is looked up: what is found -/
def lkp (P : Program) (kT : TypeId) (m : Option Nat) (key : Value) (k : Option (Nat × Value) → M) : M :=
  fun w => ∃ es r, mpAt w m es ∧ Finds P kT key es r ∧ k r w

def lookM (P : Program) (T : TypeId) (m : Option Nat) (key : Value) (ok : Bool) (k : Value → M) : M :=
  match P.underlying T with
  | some (.map kT eT) => match P.info? eT with
    | some i => match i.zero with
      | some z => lkp P kT m key fun r => match ok with
        | true => asT P eT fun v => xd .kb fun b => rq ((v, b) = (match r with | some x => (x.2, true) | none => (z, false))) (k (.tuple #[v, .bool b]))
        | false => asT P eT fun v => rq (v = (match r with | some x => x.2 | none => z)) (k v)
      | none => F
    | none => F
  | _ => F

def opQ (P : Program) (op : Op) (ev : Operand → Option Value) (k : Value → M) : M :=
  match op with
  | .move x | .assign x => w1 (ev x) k
  | .pick c x y => w1 (ev c) fun vc => match vc with
    | .bool b => br b (w1 (ev x) k) (w1 (ev y) k)
    | _ => F
  | .load T x => w1 (ev x) fun v => match v with
    | .pointer (some a) => loadM P T a k
    | _ => F
  | .nilCheck x => w1 (ev x) fun v => match v with
    | .pointer p => nn p fun a => k (.pointer (some a))
    | .func (.func f) x y => k (.func (.func f) x y)
    | _ => F
  | .binOp bop T x y _ => w1 (ev x) fun a => w1 (ev y) fun b => binM P bop T a b k
  | .unOp uop _ x => w1 (ev x) fun v => match uop, v with
    | .not, .bool b => k (.bool (notB b))
    | .neg, .int kd n => k (.int kd (kd.wrap (0 - n)))
    | .xor, .int kd n => k (.int kd (bXor kd (match kd.signed with | true => -1 | false => kd.max) n))
    | _, _ => F
  | .convert _ dst x => w1 (ev x) fun v => match P.underlying dst, v with
    | some (.int kd), .int _ n => k (.int kd (kd.wrap n))
    | _, _ => F
  | .fieldAddr s x f => w1 (ev x) fun v => match P.underlying s, v with
    | some (.struct fs), .pointer (some a) => match fs.toList[f]? with
      | some fl => match sizeB P fl.type with
        | some (_ + 1) => k (.pointer (some (a.add fl.offset)))
        | _ => F
      | none => F
    | _, _ => F
  | .field T x f => w1 (ev x) fun v => match P.underlying T, v with
    | some (.struct fs), .agg cs => match fs.toList[f]? with
      | some fl => w1 (partL P fl.type cs.toList fl.offset) k
      | none => F
    | _, _ => F
  | .indexAddr T x i => w1 (ev x) fun v => wi (ev i) fun n => match P.underlying T, v with
    | some (.slice e), .slice a len _ => match sizeB P e with
      | some sz => ix a len n sz fun p => k (.pointer (some p))
      | none => F
    | some (.array len e), .pointer (some a) => match sizeB P e with
      | some sz => rq (0 ≤ n ∧ n < len) (k (.pointer (some (a.add (n.toNat * sz)))))
      | none => F
    | _, _ => F
  | .slice T x lo hi none => w1 (ev x) fun v => match P.underlying T, v with
    | some (.slice e), .slice a len cap => match sizeB P e with
      | some sz =>
        wi (match lo with | some l => ev l | none => some (.int .i64 0)) fun l =>
        wi (match hi with | some h => ev h | none => some (.int .i64 len)) fun h =>
        rq (0 ≤ l ∧ l ≤ h ∧ h ≤ cap) (k (.slice (slA a cap l.toNat sz) (h.toNat - l.toNat) (cap - l.toNat)))
      | none => F
    | _, _ => F
  | .extract t i => w1 (ev t) fun v => match v with
    | .tuple vs => w1 (vs.toList[i]?) k
    | _ => F
  | .build T parts => match evps ev parts.toList with
    | some ps => buildM P T ps k
    | none => F
  | .makeFunc fn first captured => ws (evs ev first.toList) fun a => ws (evs ev captured.toList) fun b => k (.func fn a.toArray b.toArray)
  | .makeInterface T x => w1 (ev x) fun v => match P.underlying T with
    | some (.interface _) => F
    | some _ => k (.iface T v)
    | none => F
  | .lookup T m i ok => w1 (ev m) fun v => w1 (ev i) fun key => match v with
    | .map r => lookM P T r key ok k
    | _ => F
  | .call c => match c.callee with
    | .builtin b => ws (evs ev c.args.toList) fun args => bltnQ P b c.argTypes.toList args k
    | _ => F
  | _ => F

/-- what a quiet operation reads -/
def readsQ (P : Program) (op : Op) (ev : Operand → Option Value) : List Rd :=
  match op with
  | .load T x => match ev x with
    | some (.pointer (some a)) => match isAggB P T with
      | some true => match sizeB P T with
        | some n => [.cells a n]
        | none => []
      | _ => [.cells a 1]
    | _ => []
  | .lookup _ m _ _ => match ev m with
    | some (.map (some r)) => [.obj r]
    | _ => []
  | _ => []

/-! operations that do something -/
/-- a value that one cell can hold -/
def ok1 : Value → Bool
  | .agg _ | .tuple _ => false
  | _ => true
def undefV : Value := .tuple #[]

def repC (n : Nat) (z : List Value) : List Value := match n with | 0 => [] | n + 1 => z ++ repC n z
def repV (n : Nat) (z : List Value) : List Value := match n with | 0 => [] | n + 1 => z ++ repV n z

/-- the data of n cells from a place on -/
def rdN (a : Addr) (n : Nat) (k : List Value → M) : M := fun w => ∃ cs : List Value, cs.length = n ∧ (∀ i, i < n → w.cell? (a.add i) = cs[i]?) ∧ k cs w
/-- the first cells of a slice -/
def rdS (a : Option Addr) (n sz : Nat) (k : List Value → M) : M := match a with
  | some a => rdN a (n * sz) k
  | none => k []
/-- cells become others, from a place on; all of them are there -/
def stN (a : Addr) (vs : List Value) (k : M) : M := fun w => (∀ i, i < vs.length → (∃ u, w.cell? (a.add i) = some u) ∧ w.frozen? (a.add i) = false) ∧ vs.all ok1 = true ∧ k (setN a 0 vs w)

/-- the cells of a slice become others -/
def stS (a : Option Addr) (vs : List Value) (k : M) : M := match a with
  | some a => stN a vs k
  | none => k

def apd (e sz bytes : Nat) (z : List Value) (s x : Sl) (k : Sl → M) : M := fun w =>
  if s.len + x.len ≤ s.cap then
    rdS x.a x.len sz (fun news => match s.a with
      | some a => stN (a.add (s.len * sz)) news (k ⟨s.a, s.len + x.len, s.cap⟩)
      | none => rq (news = []) (k ⟨s.a, s.len + x.len, s.cap⟩)) w
  else
    rdS s.a s.len sz (fun olds => rdS x.a x.len sz fun news =>
      rq ((s.len + x.len) * bytes * 2 ≤ 2 ^ 47 ∧ s.len + x.len < 2 ^ 46 ∧ 0 < bytes) fun w =>
        ∀ c, s.len + x.len ≤ c → c < 2 ^ 63 → k ⟨some ⟨w.heap.size, 0, none⟩, s.len + x.len, c⟩ (w.drew.alloc (.cells ((olds ++ news) ++ repV (c - (s.len + x.len)) z).toArray e))) w

def cpy (sz : Nat) (d s : Sl) (k : Nat → M) : M :=
  rdS s.a (Nat.min s.len d.len) sz fun cs => stS d.a cs (k (Nat.min s.len d.len))

def World.setO (w : World) (b : Nat) (o : Obj) : World := { w with heap := w.heap.setIfInBounds b o }
def sameKey (old new : Value) : Bool := Instr.sameBits 10000 old new
/-- m[key] = v -/
def mup (P : Program) (kT : TypeId) (m : Option Nat) (key v : Value) (k : M) : M := fun w =>
  ∃ b es c r, m = some b ∧ w.heap[b]? = some (.map es c) ∧ (∀ w : World, (Instr.checkKey false 10000 kT key).run P w = .ok () w ∧ (Instr.findKey kT key es.toList).run P w = .ok r w) ∧
    match r with
    | none => k (World.setO w b (.map (es.push { key, val := v, born := c }) (c + 1)))
    | some (i, _) => (∃ e, es[i]? = some e ∧ sameKey e.key key = true) ∧ k (World.setO w b (.map (es.modify i fun e => { e with key, val := v }) c))
def mdel (P : Program) (kT : TypeId) (m : Option Nat) (key : Value) (k : M) : M := fun w =>
  ∃ b es c r, m = some b ∧ w.heap[b]? = some (.map es c) ∧ Finds P kT key es r ∧
    k (World.setO w b (.map (match r with | some x => es.eraseIdxIfInBounds x.1 | none => es) c))
def mlen (m : Option Nat) (k : Int → M) : M := fun w => ∃ es, mpAt w m es ∧ k es.size w
/-- a range over a map begins -/
def rng (m : Option Nat) (k : Nat → M) : M := fun w =>
  match m with
  | none => k w.heap.size (w.alloc (.mapIter none 0 #[] 0))
  | some b => ∃ es c, w.heap[b]? = some (.map es c) ∧ k w.heap.size (w.alloc (.mapIter (some b) c #[] c))
/-- what may come next of a map's range -/
def nxtL (es : Array MapEntry) (since : Nat) (seen : Array Nat) : Array (Option MapEntry) :=
  let left := es.filter fun e => !seen.contains e.born
  let old := left.filter (·.born < since)
  let new := left.filter (·.born ≥ since)
  (if old.isEmpty then #[none] else #[]) ++ (old ++ new).map some
def nxt (r : Nat) (k0 : M) (k1 : Value → Value → M) : M := fun w =>
  (w.heap[r]? = some (.mapIter none 0 #[] 0) ∧ k0 w) ∨
  ∃ b since seen last es c, w.heap[r]? = some (.mapIter (some b) since seen last) ∧ w.heap[b]? = some (.map es c) ∧
    (!seen.isEmpty && !es.isEmpty && es.all (·.born ≥ last)) = false ∧
    ∀ x ∈ (nxtL es since seen).toList, ∀ d, match x with
      | some e => k1 e.key e.val (World.setO { w with drawn := d } r (.mapIter (some b) since (seen.push e.born) c))
      | none => k0 { w with drawn := d }

/-- the entry that a map's range has come to -/
def entM (r : Nat) (k : Value → Value → M) : M := fun w =>
  ∃ m since seen stepped es clock stamp e, w.heap[r]? = some (.mapIter (some m) since seen stepped) ∧ seen.back? = some stamp ∧ w.heap[m]? = some (.map es clock) ∧ clock = stepped ∧
    es.find? (fun e => e.born == stamp) = some e ∧ k e.key e.val w

def asTy (P : Program) (ty : TypeId) (v : Value) (k : Value → M) : M :=
  match P.underlying ty with
  | some (.tuple ts) => asTs P ts.toList fun us => rq (v = .tuple us.toArray) (k (.tuple us.toArray))
  | _ => asT P ty fun u => rq (v = u) (k u)

def bodyB (P : Program) (g : FuncId) : Bool := match P.funcs[g]? with
  | some fn => fn.body.isSome
  | none => false
/-- a function value is called -/
def clv (P : Program) (fv : Value) (args : List Value) (k : Value → M) : M := fun w =>
  ∃ g x y, fv = .func (.func g) x y ∧ bodyB P g = true ∧ cl P g (x.toList ++ args ++ y.toList) k w

def kpw (ks : List Rd) (k : Value → M) (w : World) : Value → M := match ks with
  | [] => k
  | ks => fun v => kp ks w (k v)

def slOf : Value → Option Sl
  | .slice a l c => some ⟨a, l, c⟩
  | _ => none
def wsl (o : Option Sl) (k : Sl → M) : M := match o with | some s => k s | none => F
def infoM (P : Program) (T : TypeId) (k : Nat → Nat → List Value → M) : M := match P.info? T, zeroL P T with
  | some i, some z => match Nat.beq z.length i.size with | true => k i.size i.bytes z | false => F
  | _, _ => F

def bltnE (P : Program) (b : Builtin) (tys : List TypeId) (args : List Value) (ks : List Rd) (k : Value → M) : M := fun w =>
  (match b, tys, args with
  | .append, [t, t'], [s, x] => match P.underlying t, P.underlying t' with
    | some (.slice e), some (.slice _) => infoM P e fun sz bytes z => wsl (slOf s) fun s => wsl (slOf x) fun x => apd e sz bytes z s x fun r => kpw ks k w (.slice r.a r.len r.cap)
    | _, _ => F
  | .copy, [t, t'], [s, x] => match P.underlying t, P.underlying t' with
    | some (.slice e), some (.slice _) => infoM P e fun sz _ _ => wsl (slOf s) fun s => wsl (slOf x) fun x => cpy sz s x fun n => kpw ks k w (.int .i64 n)
    | _, _ => F
  | .clear, [t], [x] => match P.underlying t, x with
    | some (.slice e), .slice a n _ => infoM P e fun _ _ z => stS a (repV n z) (kpw ks k w undefV)
    | some (.slice e), _ => F
    | _, _ => F
  | .delete, [t, _], [m, key] => match P.underlying t, m with
    | some (.map kT _), .map r => mdel P kT r key (kpw ks k w undefV)
    | _, _ => F
  | .len, [t], [m] => match P.underlying t, m with
    | some (.map _ _), .map r => mlen r fun n => kpw ks k w (.int .i64 n)
    | _, _ => F
  | _, _, _ => F) w

def opE (P : Program) (op : Op) (ty : TypeId) (ev : Operand → Option Value) (ks : List Rd) (k : Value → M) : M :=
  match op with
  | .alloc T => match zeroL P T with
    | some z => al T z fun a => k (.pointer (some a))
    | none => F
  | .box T x => w1 (ev x) fun v => al T v.cells.toList fun a => k (.pointer (some a))
  | .buildSlice T len parts => match evps ev parts.toList with
    | some ps => match P.underlying T with
      | some (.slice e) => infoM P e fun sz _ z => match Nat.ble (len * sz) 16777216, fillL (fun i => some (i * sz, sz)) (repC len z) ps with
        | true, some cs => al e cs fun a => k (.slice (some a) len len)
        | _, _ => F
      | _ => F
    | none => F
  | .makeSlice T l c => wi (ev l) fun l => wi (ev c) fun c => match P.underlying T with
    | some (.slice e) => infoM P e fun _ bytes z => rq (0 ≤ l ∧ l ≤ c ∧ c ≤ 2 ^ 46 ∧ bytes * c ≤ 2 ^ 47) (al e (repV c.toNat z) fun a => k (.slice (some a) l.toNat c.toNat))
    | _ => F
  | .makeMap T r => match P.underlying T with
    | some (.map _ _) => match r with
      | none => alm fun b => k (.map (some b))
      | some r => wi (ev r) fun _ => alm fun b => k (.map (some b))
    | _ => F
  | .store T x y => w1 (ev x) fun p => w1 (ev y) fun v => match p with
    | .pointer (some a) => match isAggB P T, sizeB P T with
      | some false, some 1 => br (ok1 v) (fun w => st a v (kpw ks k w undefV) w) F
      | some true, some n => match v with
        | .agg cs => match Nat.beq cs.toList.length n with
          | true => fun w => stN a cs.toList (kpw ks k w undefV) w
          | false => F
        | _ => F
      | _, _ => F
    | _ => F
  | .mapUpdate T m i v | .insert T m i v => w1 (ev m) fun m => w1 (ev i) fun key => w1 (ev v) fun v => match P.underlying T, m with
    | some (.map kT _), .map r => fun w => mup P kT r key v (kpw ks k w undefV) w
    | _, _ => F
  | .range T x => w1 (ev x) fun v => match P.underlying T, v with
    | some (.map _ _), .map r => fun w => rng r (fun b => kpw ks k w (.pointer (some ⟨b, 0, none⟩))) w
    | _, _ => F
  | .next it false => w1 (ev it) fun p => match p with
    | .pointer (some ⟨r, 0, _⟩) => match P.underlying ty with
      | some (.tuple ts) => match ts.toList with
        | [_, tk, tv] => fun w => nxt r (kpw ks k w (.tuple #[.bool false])) (fun key val => asT P tk fun key' => asT P tv fun val' => rq (key = key') <| rq (val = val') <| kpw ks k w (.tuple #[.bool true, key', val'])) w
        | [] => fun w => nxt r (kpw ks k w (.tuple #[.bool false])) (fun key val => kpw ks k w (.tuple #[.bool true, key, val])) w
        | _ => F
      | _ => F
    | _ => F
  | .entry it => w1 (ev it) fun p => match p with
    | .pointer (some ⟨r, 0, _⟩) => fun w => entM r (fun key val => kpw ks k w (.tuple #[key, val])) w
    | _ => F
  | .call c => match c.callee with
    | .value (.func g) => match bodyB P g with
      | true => ws (evs ev c.args.toList) fun args w => cl P g args (fun v => asTy P ty v (kpw ks k w)) w
      | false => F
    | .value f => w1 (ev f) fun fv => ws (evs ev c.args.toList) fun args w => clv P fv args (fun v => asTy P ty v (kpw ks k w)) w
    | .builtin b => ws (evs ev c.args.toList) fun args => bltnE P b c.argTypes.toList args ks k
    | _ => F
  | _ => F

/-! regions -/
def gd (ops : List Oper) (o : Oper) (e : Env) (run skip : Env → M) : M :=
  match o.guard with
  | none => run e
  | some (j, want) => match ops[j]? with
    | some oj => match oj.dst with
      | some t => match lk e t with
        | some (.bool b) => br b ((match want with | true => run | false => skip) ((t, .bool true) :: e)) ((match want with | true => skip | false => run) ((t, .bool false) :: e))
        | some (.tuple _) => skip e
        | _ => F
      | none => F
    | none => F

def opM (P : Program) (o : Oper) (e : Env) (ks : List Rd) (k : Value → M) : M :=
  match quietB P o.op with
  | true => opQ P o.op (evo e) k
  | false => opE P o.op o.type (evo e) ks k

def regS (P : Program) (ops : List Oper) : List Oper → Env → (Env → M) → M
  | [], e, k => k e
  | o :: rest, e, k => gd ops o e (fun e => opM P o e [] fun v => regS P ops rest (put o.dst v e) k) (fun e => regS P ops rest (drop1 o.dst e) k)

def keeps (b : Nat) : List (Nat × List Rd) → List Rd
  | [] => []
  | (l, rs) :: t => match b.testBit l with
    | true => keeps b t
    | false => rs ++ keeps b t
def allM : List Nat → (Nat → M) → M
  | [], _ => fun _ => True
  | [i], g => g i
  | i :: l, g => fun w => g i w ∧ allM l g w
def quietAt (P : Program) (ops : Array Oper) (i : Nat) : Bool := match ops[i]? with
  | some o => quietB P o.op
  | none => false
def firstQ (q : Nat → Bool) : List Nat → Option Nat
  | [] => none
  | i :: l => match q i with | true => some i | false => firstQ q l

def regH (P : Program) (ops : Array Oper) (B : Array Nat) : Nat → Array Bool → List (Nat × List Rd) → Env → (Env → M) → M
  | 0, _, _, _, _ => F
  | fuel + 1, listed, lds, e, k =>
    match Region.ready .any ops listed with
    | [] => k e
    | r :: rs => match firstQ (quietAt P ops) (r :: rs) with
      | some i => match ops[i]? with
        | some o => gd ops.toList o e
            (fun e => opQ P o.op (evo e) fun v => regH P ops B fuel (listed.setIfInBounds i true) ((i, readsQ P o.op (evo e)) :: lds) (put o.dst v e) k)
            (fun e => regH P ops B fuel (listed.setIfInBounds i true) lds (drop1 o.dst e) k)
        | none => F
      | none => allM (r :: rs) fun i => match ops[i]? with
        | some o => gd ops.toList o e
            (fun e => opE P o.op o.type (evo e) (keeps (B.getD i 0) lds) fun v => regH P ops B fuel (listed.setIfInBounds i true) lds (put o.dst v e) k)
            (fun e => regH P ops B fuel (listed.setIfInBounds i true) lds (drop1 o.dst e) k)
        | none => F

/-! code -/
inductive Ann where
  | nd
  | sq (a b : Ann)
  | jn (js : List (Nat × Srt)) (a b : Ann)
  | cd (a b : Ann)
  | bl (a : Ann)
  | lp (js : List (Nat × Srt)) (a : Ann)

def dsts (ops : List Oper) : List Nat := match ops with
  | [] => []
  | o :: r => match o.dst with | some d => d :: dsts r | none => dsts r
def mods : Code → List Nat
  | .region _ ops _ => dsts ops.toList
  | .seq a b => mods a ++ mods b
  | .cond _ a b => mods a ++ mods b
  | .block _ b => mods b
  | .loop b => mods b
  | _ => []

def wpc (P : Program) : Code → Ann → Env → (Env → M) → (Nat → Env → M) → (Env → M) → M
  | .skip, _, e, kn, _, _ => kn e
  | .region _ ops false, _, e, kn, _, _ => regS P ops.toList ops.toList e kn
  | .region _ ops true, _, e, kn, _, _ => dr (regH P ops (Region.before ops) (ops.size + 1) (Array.replicate ops.size false) [] e kn)
  | .seq a b, an, e, kn, kx, kr => match an with
    | .jn js x y => jn (fun d => wpc P b y (putD js d (rm (mods a) e)) kn kx kr) (fun j => wpc P a x e (fun e' => collect js e' j) kx kr)
    | .sq x y => wpc P a x e (fun e' => wpc P b y e' kn kx kr) kx kr
    | _ => wpc P a .nd e (fun e' => wpc P b .nd e' kn kx kr) kx kr
  | .cond c a b, an, e, kn, kx, kr => match evo e c with
    | some (.bool t) => match an with
      | .cd x y => br t (wpc P a x e kn kx kr) (wpc P b y e kn kx kr)
      | _ => br t (wpc P a .nd e kn kx kr) (wpc P b .nd e kn kx kr)
    | _ => F
  | .block id c, an, e, kn, kx, kr => wpc P c (match an with | .bl x => x | _ => .nd) e kn (fun i e' => match Nat.beq i id with | true => kn e' | false => kx i e') kr
  | .loop c, an, e, _, kx, kr => match an with
    | .lp js x => collect js e fun d0 => lp (fun d j => wpc P c x (putD js d (rm (mods c) e)) (fun e' => collect js e' j) kx kr) d0
    | _ => F
  | .exit id, _, e, _, kx, _ => kx id e
  | .ret, _, e, _, _, kr => kr e
  | _, _, _, _, _, _ => F

def resM (P : Program) : List ResultVar → Env → (List Value → M) → M
  | [], _, k => k []
  | .tmp t :: l, e, k => w1 (lk e t) fun v => resM P l e fun vs => k (v :: vs)
  | .cell t T :: l, e, k => w1 (lk e t) fun p => match p with
    | .pointer (some a) => loadM P T a fun v => resM P l e fun vs => k (v :: vs)
    | _ => F
def retM (P : Program) (fn : Func) (e : Env) (R : Value → M) : M :=
  resM P fn.results.toList e fun vs => match vs with
    | [v] => R v
    | vs => R (.tuple vs.toArray)

def argsE : Nat → List Value → Env
  | _, [] => []
  | i, v :: vs => (i, v) :: argsE (i + 1) vs

/-- what a function does -/
def wpF (P : Program) (fn : Func) (an : Ann) (args : List Value) (R : Value → M) : M :=
  match fn.body with
  | some c => wpc P c an (argsE 0 args) (fun e => retM P fn e R) (fun _ _ => F) (fun e => retM P fn e R)
  | none => F

/-! what is looked at once -/
def dstB (n : Nat) : List Oper → Bool
  | [] => true
  | o :: l => (match o.dst with | some d => Nat.blt d n | none => true) && dstB n l
/-- each two operations of a region are apart, or one stands right ahead of the other one -/
def edge (x : Oper) (i : Nat) : Bool := x.after.toList.any fun e => Region.binds .any e && Nat.beq e.on i
def apB (ops : List Oper) : Bool :=
  ops.zipIdx.all fun (x, i) => ops.zipIdx.all fun (y, j) => Nat.beq i j || edge x j || edge y i || x.apart ops.toArray y
/-- the bits of what stands ahead are right -/
def justB (ops : List Oper) (B : Array Nat) : Bool :=
  ops.zipIdx.all fun (x, i) => x.after.toList.all (fun e => !Region.binds .any e || Nat.blt e.on i) && Nat.blt (B.getD i 0) (2 ^ i) && (List.range i).all fun j => !(B.getD i 0).testBit j ||
    x.after.toList.any fun e => Region.binds .any e && (Nat.beq e.on j || (Nat.blt j e.on && (B.getD e.on 0).testBit j))
def chkC (n : Nat) : Code → Bool
  | .region _ ops d => dstB n ops.toList && Region.noSelect ops && (!d || (apB ops.toList && justB ops.toList (Region.before ops)))
  | .seq a b => chkC n a && chkC n b
  | .cond _ a b => chkC n a && chkC n b
  | .block _ b => chkC n b
  | .loop b => chkC n b
  | _ => true
def chkF (fn : Func) (nargs : Nat) : Bool := match fn.body with
  | some c => chkC fn.ntmps c && Nat.ble nargs fn.ntmps
  | none => false

end Go.SX
