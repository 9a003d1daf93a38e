/- XC: an executor of runs over an abstract state: definitions. Its soundness is proved in the texts behind this one. -/
import Derived.Test.YtlcaelckplknnaaGreatDoorSXLib
set_option linter.unusedVariables false
set_option linter.unusedSimpArgs false
namespace Go.XC
noncomputable section
open Go Go.SX

/-! finite maps from numbers -/
inductive Tr (α : Type) where
  | nil
  | lf (x : Option α)
  | nd (a b c d : Tr α)

/-- one of four -/
def sel4 {γ : Type} (a b c d : γ) (n : Nat) : γ := Nat.rec a (fun n _ => Nat.rec b (fun n _ => Nat.rec c (fun _ _ => d) n) n) n
def isZ {γ : Type} (n : Nat) (a b : γ) : γ := Nat.rec a (fun _ _ => b) n
def Tr.get {α : Type} (t : Tr α) : Nat → Option α :=
  Tr.rec (fun _ => none) (fun x i => isZ i x none) (fun _ _ _ _ a b c d i => sel4 (a (Nat.div i 4)) (b (Nat.div i 4)) (c (Nat.div i 4)) (d (Nat.div i 4)) (Nat.mod i 4)) t

variable {β : Type}
abbrev Rs (β : Type) := Option β

def Tr.parts {α : Type} (t : Tr α) (k : Tr α → Tr α → Tr α → Tr α → Option β) : Option β :=
  Tr.rec (k .nil .nil .nil .nil) (fun _ => none) (fun a b c d _ _ _ _ => k a b c d) t
def Tr.flat {α : Type} (t : Tr α) (k : Option β) : Option β := Tr.rec k (fun _ => k) (fun _ _ _ _ _ _ _ _ => none) t
/-- another entry, so many levels deep; the result is handed over in full -/
def setD {α : Type} (n : Nat) : Tr α → Nat → Option α → (Tr α → Option β) → Option β :=
  Nat.rec (fun t i v k => t.flat (isZ i (k (.lf v)) none))
    (fun _ ih t i v k => t.parts fun a b c d => sel4 (ih a (Nat.div i 4) v fun a => k (.nd a b c d)) (ih b (Nat.div i 4) v fun b => k (.nd a b c d)) (ih c (Nat.div i 4) v fun c => k (.nd a b c d)) (ih d (Nat.div i 4) v fun d => k (.nd a b c d)) (Nat.mod i 4)) n
def setK {α : Type} (n : Nat) (t : Tr α) (i : Nat) (v : Option α) (k : Tr α → Option β) : Option β := setD n t i v k

/-! abstract values -/
/-- a capacity: known, or the one of a number -/
inductive Cap where
  | n (c : Nat)
  | v (j : Nat)

inductive A where
  | lit (v : Value)
  | sym (k : IntKind) (i : Nat)
  | ptr (b o : Nat)
  | sl (b o len : Nat) (cap : Cap)
  | mp (b : Nat)
  | fn (f : Nat) (xs ys : List A)
  | ifc (t : Nat) (x : A)
  | agg (l : List A)
  | tup (l : List A)

structure Ent where
  key : A
  val : A
  born : Nat

inductive Blk where
  /-- n cells: those of a row over and over, but for some; behind them there may be room for a capacity's -/
  | cells (T : Nat) (n : Nat) (z : List A) (o : Tr A) (tail : Option (Nat × Nat))
  | map (es : List Ent) (clock : Nat)
  | iter (m : Option Nat) (since : Nat) (seen : List Nat) (stepped : Nat)

structure St where
  h : Tr Blk
  nb : Nat
  nc : Nat
  iv : List (Int × Int)

def at? {α : Type} : List α → Nat → Option α
  | [], _ => none
  | x :: l, n => match n with
    | 0 => some x
    | n + 1 => at? l n

def fN (n : Nat) (k : Nat → Option β) : Option β := Nat.rec (k 0) (fun m _ => k (Nat.succ m)) n
def fI (x : Int) (k : Int → Option β) : Option β := Int.rec (fun n => fN n fun n => k (.ofNat n)) (fun n => fN n fun n => k (.negSucc n)) x
def retI (kd : IntKind) (x : Int) (k : A → Option β) : Option β := fI x fun x => k (.lit (.int kd x))
def retB (b : Bool) (k : A → Option β) : Option β := match b with
  | true => k (.lit (.bool true))
  | false => k (.lit (.bool false))
/-- go on where it is so -/
def ck (b : Bool) (k : Option β) : Option β := Bool.rec none k b
def oK {α : Type} (o : Option α) (k : α → Option β) : Option β := Option.rec none k o

def ofV1 : Value → Option A
  | .bool b => some (.lit (.bool b))
  | .int k n => some (.lit (.int k n))
  | .float k n => some (.lit (.float k n))
  | .string s => some (.lit (.string s))
  | .pointer none => some (.lit (.pointer none))
  | .slice none l c => some (.lit (.slice none l c))
  | .map none => some (.lit (.map none))
  | .nilFunc => some (.lit .nilFunc)
  | .nilIface => some (.lit .nilIface)
  | _ => none
def ofVsK : List Value → (List A → Option β) → Option β
  | [], k => k []
  | v :: l, k => oK (ofV1 v) fun a => ofVsK l fun as => k (a :: as)
def ofVK (v : Value) (k : A → Option β) : Option β := match v with
  | .agg cs => ofVsK cs.toList fun l => k (.agg l)
  | v => oK (ofV1 v) k

def evK (E : Tr A) (x : Operand) (k : A → Option β) : Option β := match x with
  | .tmp t => oK (E.get t) k
  | .const v => ofVK v k
  | .func f => k (.fn f [] [])
  | .global _ => none
def evsK (E : Tr A) (l : List Operand) : (List A → Option β) → Option β :=
  List.rec (fun k => k []) (fun x _ ih k => evK E x fun a => ih fun as => k (a :: as)) l
def evpsK (E : Tr A) : List (Nat × Operand) → (List (Nat × A) → Option β) → Option β
  | [], k => k []
  | (i, x) :: l, k => evK E x fun a => evpsK E l fun as => k ((i, a) :: as)

/-! cells -/
def Blk.rd : Blk → Nat → Option A
  | .cells _ n z o _, i => match Nat.blt i n with
    | true => match o.get i with
      | some a => some a
      | none => at? z (Nat.mod i z.length)
    | false => none
  | _, _ => none
def rdK (s : St) (b i : Nat) (k : A → Option β) : Option β := oK (s.h.get b) fun B => oK (B.rd i) k
def rdNK (s : St) (b : Nat) : Nat → Nat → (List A → Option β) → Option β
  | _, 0, k => k []
  | i, n + 1, k => rdK s b i fun a => rdNK s b (Nat.succ i) n fun as => k (a :: as)

/-- can a cell's value be of a sort? -/
def okS : Srt → A → Bool
  | .ki k, .lit (.int k' _) => beqK k k'
  | .ki k, .sym k' _ => beqK k k'
  | .kb, .lit (.bool _) => true
  | .kp, .lit (.pointer _) => true
  | .kp, .ptr _ _ => true
  | .ks, .lit (.slice _ _ _) => true
  | .ks, .sl _ _ _ _ => true
  | .km, .lit (.map _) => true
  | .km, .mp _ => true
  | .kf k, .lit (.float k' _) => beqFK k k'
  | .kstr, .lit (.string _) => true
  | .kv, _ => true
  | _, _ => false
def okSs : List Srt → List A → Bool
  | [], [] => true
  | s :: ss, a :: as => match okS s a with
    | true => okSs ss as
    | false => false
  | _, _ => false

def loadX (P : Program) (s : St) (T : TypeId) (b o : Nat) (k : A → Option β) : Option β :=
  match isAggB P T with
  | some true => match cellSrts P 40 T, sizeB P T with
    | some ss, some n => ck (Nat.beq ss.length n) <| rdNK s b o n fun as => ck (okSs ss as) (k (.agg as))
    | _, _ => none
  | some false => match P.underlying T with
    | some d => rdK s b o fun a => ck (okS (srtOf d) a) (k a)
    | none => none
  | none => none

/-! numbers -/
def intX (op : BinOp) (kd : IntKind) (x y : Int) (k : A → Option β) : Option β :=
  match op with
  | .add => retI kd (kd.wrap (x + y)) k
  | .sub => retI kd (kd.wrap (x - y)) k
  | .mul => retI kd (kd.wrap (x * y)) k
  | .quo => ck (neI y 0) (retI kd (kd.wrap (x.tdiv y)) k)
  | .rem => ck (neI y 0) (retI kd (x.tmod y) k)
  | .and => retI kd (bAnd kd x y) k
  | .or => retI kd (bOr kd x y) k
  | .xor => retI kd (bXor kd x y) k
  | .andNot => retI kd (bAndNot kd x y) k
  | .eql => retB (eqI x y) k
  | .neq => retB (neI x y) k
  | .lss => retB (ltI x y) k
  | .leq => retB (leI x y) k
  | .gtr => retB (ltI y x) k
  | .geq => retB (leI y x) k
  | .shl => ck (leI 0 y) (retI kd (bShl kd x y) k)
  | .shr => ck (leI 0 y) (retI kd (bShr kd x y) k)
/-- a number between two others, and one: what is sure -/
def symX (op : BinOp) (kd : IntKind) (lo hi y : Int) (k : A → Option β) : Option β :=
  match op with
  | .lss => match ltI hi y, leI y lo with
    | true, _ => k (.lit (.bool true))
    | _, true => k (.lit (.bool false))
    | _, _ => none
  | .leq => match leI hi y, ltI y lo with
    | true, _ => k (.lit (.bool true))
    | _, true => k (.lit (.bool false))
    | _, _ => none
  | .gtr => match ltI y lo, leI hi y with
    | true, _ => k (.lit (.bool true))
    | _, true => k (.lit (.bool false))
    | _, _ => none
  | .geq => match leI y lo, ltI hi y with
    | true, _ => k (.lit (.bool true))
    | _, true => k (.lit (.bool false))
    | _, _ => none
  | .eql => match ltI hi y, ltI y lo with
    | true, _ => k (.lit (.bool false))
    | _, true => k (.lit (.bool false))
    | _, _ => none
  | .neq => match ltI hi y, ltI y lo with
    | true, _ => k (.lit (.bool true))
    | _, true => k (.lit (.bool true))
    | _, _ => none
  | .quo => ck (ltI 0 y) <| ck (leI 0 lo) <| ck (eqI (lo / y) (hi / y)) <| retI kd (kd.wrap (lo / y)) k
  | _ => none

def litsK : List A → (List Value → Option β) → Option β
  | [], k => k []
  | .lit v :: l, k => litsK l fun vs => k (v :: vs)
  | _ :: _, _ => none

def nilA : A → Option Bool
  | .lit (.pointer none) => some true
  | .lit (.slice none _ _) => some true
  | .lit (.map none) => some true
  | .lit .nilFunc => some true
  | .ptr _ _ => some false
  | .sl _ _ _ _ => some false
  | .mp _ => some false
  | .fn _ _ _ => some false
  | _ => none

def negX (neg : Bool) (b : Bool) (k : A → Option β) : Option β := match neg with
  | true => retB (notB b) k
  | false => retB b k

/-- x == y -/
def eqX (P : Program) (T : TypeId) (neg : Bool) (x y : A) (k : A → Option β) : Option β :=
  match y with
  | .lit .nilFunc => match P.underlying T, x with
    | some (.func _ _ _), .lit .nilFunc => negX neg true k
    | some (.func _ _ _), .fn _ _ _ => negX neg false k
    | _, _ => none
  | .lit (.bool b) => match x, P.underlying T with
    | .lit (.bool a), some .bool => negX neg (eqBl a b) k
    | _, _ => none
  | .lit (.pointer none) => match P.underlying T, x with
    | some (.pointer _), .lit (.pointer none) => negX neg true k
    | some (.pointer _), .ptr _ _ => negX neg false k
    | _, _ => none
  | .lit (.slice none _ _) => match P.underlying T, x with
    | some (.slice _), .lit (.slice none _ _) => negX neg true k
    | some (.slice _), .sl _ _ _ _ => negX neg false k
    | _, _ => none
  | .lit (.map none) => match P.underlying T, x with
    | some (.map _ _), .lit (.map none) => negX neg true k
    | some (.map _ _), .mp _ => negX neg false k
    | _, _ => none
  | .agg ys => match x with
    | .agg xs => litsK xs fun vs => litsK ys fun us => oK (eqSt P T vs us) fun b => negX neg b k
    | _ => none
  | _ => none

def binX (P : Program) (s : St) (op : BinOp) (T : TypeId) (x y : A) (k : A → Option β) : Option β :=
  match x, y with
  | .lit (.int kd a), .lit (.int kd' b) => match op with
    | .shl => intX .shl kd a b k
    | .shr => intX .shr kd a b k
    | op => ck (beqK kd kd') (intX op kd a b k)
  | .sym kd i, .lit (.int kd' b) => ck (beqK kd kd') <| oK (at? s.iv i) fun r => symX op kd r.1 r.2 b k
  | x, y => match op with
    | .eql => eqX P T false x y k
    | .neq => eqX P T true x y k
    | _ => none

/-! parts -/
def takeK {α : Type} : Nat → List α → (List α → Option β) → Option β
  | 0, _, k => k []
  | _ + 1, [], k => k []
  | n + 1, x :: l, k => takeK n l fun r => k (x :: r)
def dropX {α : Type} : Nat → List α → List α
  | 0, l => l
  | _ + 1, [] => []
  | n + 1, _ :: l => dropX n l
def dropK {α : Type} (n : Nat) (l : List α) (k : List α → Option β) : Option β := match n, l with
  | 0, l => k l
  | _ + 1, [] => k []
  | n + 1, _ :: l => dropK n l k
def partX (P : Program) (T : TypeId) (cs : List A) (off : Nat) (k : A → Option β) : Option β :=
  match isAggB P T, sizeB P T with
  | some true, some n => dropK off cs fun r => takeK n r fun l => k (.agg l)
  | some false, _ => oK (at? cs off) k
  | _, _ => none

def A.cells : A → Option (List A)
  | .agg l => some l
  | .tup _ => none
  | .lit v => match ok1 v with
    | true => some [.lit v]
    | false => none
  | a => some [a]
/-- cells with others from a place on -/
def layK : Nat → List A → List A → (List A → Option β) → Option β
  | _, [], cs, k => k cs
  | 0, v :: vs, _ :: cs, k => layK 0 vs cs fun r => k (v :: r)
  | n + 1, vs, c :: cs, k => layK n vs cs fun r => k (c :: r)
  | _, _ :: _, [], k => k []
def fillK (place : Nat → Option (Nat × Nat)) : List A → List (Nat × A) → (List A → Option β) → Option β
  | cells, [], k => k cells
  | cells, (i, v) :: rest, k =>
    match place i with
    | none => none
    | some (off, size) => oK v.cells fun vs =>
      ck (Nat.beq vs.length size) <| ck (Nat.ble (off + vs.length) cells.length) <| layK off vs cells fun cells => fillK place cells rest k
def buildX (P : Program) (T : TypeId) (parts : List (Nat × A)) (k : A → Option β) : Option β :=
  match P.underlying T, zeroL P T with
  | some (.struct fs), some z => ck (allInfo P fs.toList) <| ofVsK z fun z => fillK (structPlace P fs) z parts fun cs => k (.agg cs)
  | some (.array _ e), some z => match sizeB P e with
    | some size => ofVsK z fun z => fillK (fun i => some (i * size, size)) z parts fun cs => k (.agg cs)
    | none => none
  | _, _ => none

/-! maps of whole numbers -/
def findE (kd : IntKind) (n : Int) : Nat → List Ent → Option (Option (Nat × A))
  | _, [] => some none
  | i, e :: es => match e.key with
    | .lit (.int kd' m) => match beqK kd kd', eqI n m with
      | true, true => some (some (i, e.val))
      | true, false => findE kd n (Nat.succ i) es
      | _, _ => none
    | _ => none
def isIntT (P : Program) (T : TypeId) : Bool := match P.underlying T with
  | some (.int _) => true
  | _ => false
def keyI : A → Option (IntKind × Int)
  | .lit (.int kd n) => some (kd, n)
  | _ => none
def isIntA : A → Bool
  | .lit (.int _ _) => true
  | .sym _ _ => true
  | _ => false
/-- what a map has at a key -/
def findX (P : Program) (kT : TypeId) (es : List Ent) (key : A) (k : Option (Nat × A) → Option β) : Option β :=
  ck (isIntT P kT) <| match es with
  | [] => ck (isIntA key) (k none)
  | es => oK (keyI key) fun n => oK (findE n.1 n.2 0 es) k
def entsX (s : St) (m : A) : Option (List Ent) := match m with
  | .lit (.map none) => some []
  | .mp b => match s.h.get b with
    | some (.map es _) => some es
    | _ => none
  | _ => none

/-- is a value of a type's form? -/
def okT1 (P : Program) (T : TypeId) (a : A) : Bool :=
  match P.underlying T with
  | some (.struct _) | some (.array _ _) => match cellSrts P 40 T, a with
    | some ss, .agg l => okSs ss l
    | _, _ => false
  | some d => match a with
    | .agg _ => false
    | .tup _ => false
    | a => okS (srtOf d) a
  | none => false
def okTs (P : Program) : List TypeId → List A → Bool
  | [], [] => true
  | T :: Ts, a :: as => match okT1 P T a with
    | true => okTs P Ts as
    | false => false
  | _, _ => false
def okTy (P : Program) (T : TypeId) (a : A) : Bool :=
  match P.underlying T with
  | some (.tuple ts) => match a with
    | .tup as => okTs P ts.toList as
    | _ => false
  | _ => okT1 P T a

def lookX (P : Program) (s : St) (T : TypeId) (m key : A) (ok : Bool) (k : A → Option β) : Option β :=
  match P.underlying T with
  | some (.map kT eT) => oK (P.info? eT) fun i => oK i.zero fun z => oK (entsX s m) fun es => findX P kT es key fun r => match r with
    | some x => ck (okT1 P eT x.2) <| match ok with
      | true => k (.tup [x.2, .lit (.bool true)])
      | false => k x.2
    | none => ofVK z fun z => ck (okT1 P eT z) <| match ok with
      | true => k (.tup [z, .lit (.bool false)])
      | false => k z
  | _ => none

def sliceX (s : St) (sz : Nat) (x : A) (l h : Int) (k : A → Option β) : Option β :=
  match x with
  | .lit (.slice none len cap) => ck (leI 0 l && leI l h && leI h cap) <| fN (cap - l.toNat) fun c => fN (h.toNat - l.toNat) fun n => k (.lit (.slice none n c))
  | .sl b o len (.n cap) => ck (leI 0 l && leI l h && leI h cap) <| fN (cap - l.toNat) fun c => fN (h.toNat - l.toNat) fun n =>
    match Nat.beq cap l.toNat with
    | true => k (.sl b o n (.n c))
    | false => fN (o + l.toNat * sz) fun o => k (.sl b o n (.n c))
  | .sl b o _ (.v j) => match s.h.get b with
    | some (.cells _ n' _ _ (some (j', sz'))) => ck (eqI l 0 && leI 0 h && Nat.beq j j' && Nat.beq sz sz' && Nat.blt 0 sz && Nat.ble (h.toNat * sz) n') <| fN h.toNat fun n => k (.sl b o n (.v j))
    | _ => none
  | _ => none

def bltnQX (P : Program) (b : Builtin) (tys : List TypeId) (args : List A) (k : A → Option β) : Option β :=
  match b, tys, args with
  | .len, [t], [.lit (.slice _ n _)] => match P.underlying t with
    | some (.slice _) => fN n fun n => k (.lit (.int .i64 (.ofNat n)))
    | _ => none
  | .len, [t], [.sl _ _ n _] => match P.underlying t with
    | some (.slice _) => fN n fun n => k (.lit (.int .i64 (.ofNat n)))
    | _ => none
  | .len, [t], [.lit (.string s)] => match P.underlying t with
    | some .string => fN s.size fun n => k (.lit (.int .i64 (.ofNat n)))
    | _ => none
  | .min, _, [.lit (.int kd x), .lit (.int _ y)] => retI kd (if y < x then y else x) k
  | .max, _, [.lit (.int kd x), .lit (.int _ y)] => retI kd (if y > x then y else x) k
  | _, _, _ => none

def intA : A → Option Int
  | .lit (.int _ n) => some n
  | _ => none
def oEvK (E : Tr A) (x : Option Operand) (d : Int) (k : Int → Option β) : Option β := match x with
  | some x => evK E x fun a => oK (intA a) k
  | none => k d
def lenA : A → Option Nat
  | .lit (.slice _ n _) => some n
  | .sl _ _ n _ => some n
  | _ => none

abbrev KQ (β : Type) := Tr A → St → (A → Option β) → Option β
def qMove (x : Operand) : KQ β := fun E _ k => evK E x k
def qPick (c x y : Operand) : KQ β := fun E _ k => evK E c fun c => match c with
  | .lit (.bool true) => evK E x k
  | .lit (.bool false) => evK E y k
  | _ => none
def qLoad (P : Program) (T : TypeId) (x : Operand) : KQ β := fun E s k => evK E x fun a => match a with
  | .ptr b o => loadX P s T b o k
  | _ => none
def qNil (x : Operand) : KQ β := fun E _ k => evK E x fun a => match a with
  | .ptr b o => k (.ptr b o)
  | .fn f xs ys => k (.fn f xs ys)
  | _ => none
def qBin (P : Program) (bop : BinOp) (T : TypeId) (x y : Operand) : KQ β := fun E s k => evK E x fun a => evK E y fun b => binX P s bop T a b k
def unX (uop : UnOp) (a : A) (k : A → Option β) : Option β := match uop, a with
  | .not, .lit (.bool b) => retB (notB b) k
  | .neg, .lit (.int kd n) => retI kd (kd.wrap (0 - n)) k
  | .xor, .lit (.int kd n) => retI kd (bXor kd (match kd.signed with | true => -1 | false => kd.max) n) k
  | _, _ => none
def qUn (uop : UnOp) (x : Operand) : KQ β := fun E _ k => evK E x fun a => unX uop a k
def qConv (P : Program) (dst : TypeId) (x : Operand) : KQ β := fun E _ k => evK E x fun a => match P.underlying dst, a with
  | some (.int kd), .lit (.int _ n) => retI kd (kd.wrap n) k
  | _, _ => none
def faddrX (P : Program) (st : TypeId) (f : Nat) (a : A) (k : A → Option β) : Option β := match P.underlying st, a with
  | some (.struct fs), .ptr b o => oK (at? fs.toList f) fun fl => match sizeB P fl.type with
    | some (_ + 1) => fN (o + fl.offset) fun o => k (.ptr b o)
    | _ => none
  | _, _ => none
def qFaddr (P : Program) (st : TypeId) (x : Operand) (f : Nat) : KQ β := fun E _ k => evK E x fun a => faddrX P st f a k
def fieldX (P : Program) (T : TypeId) (f : Nat) (a : A) (k : A → Option β) : Option β := match P.underlying T, a with
  | some (.struct fs), .agg cs => oK (at? fs.toList f) fun fl => partX P fl.type cs fl.offset k
  | _, _ => none
def qField (P : Program) (T : TypeId) (x : Operand) (f : Nat) : KQ β := fun E _ k => evK E x fun a => fieldX P T f a k
def iaddrX (P : Program) (T : TypeId) (a : A) (n : Int) (k : A → Option β) : Option β := match P.underlying T, a with
  | some (.slice e), .sl b o len _ => match sizeB P e with
    | some sz => ck (leI 0 n && ltI n len) <| fN (o + n.toNat * sz) fun o => k (.ptr b o)
    | none => none
  | some (.array len e), .ptr b o => match sizeB P e with
    | some sz => ck (leI 0 n && ltI n len) <| fN (o + n.toNat * sz) fun o => k (.ptr b o)
    | none => none
  | _, _ => none
def qIaddr (P : Program) (T : TypeId) (x i : Operand) : KQ β := fun E _ k => evK E x fun a => evK E i fun i => oK (intA i) fun n => iaddrX P T a n k
def qSlice (P : Program) (T : TypeId) (x : Operand) (lo hi : Option Operand) : KQ β := fun E s k => evK E x fun a => match P.underlying T with
  | some (.slice e) => match sizeB P e with
    | some sz => oK (lenA a) fun len => oEvK E lo 0 fun l => oEvK E hi len fun h => sliceX s sz a l h k
    | none => none
  | _ => none
def qExtract (t : Operand) (i : Nat) : KQ β := fun E _ k => evK E t fun a => match a with
  | .tup vs => oK (at? vs i) k
  | _ => none
def qBuild (P : Program) (T : TypeId) (parts : Array (Nat × Operand)) : KQ β := fun E _ k => evpsK E parts.toList fun ps => buildX P T ps k
def qMakeFunc (f : Nat) (first captured : Array Operand) : KQ β := fun E _ k => evsK E first.toList fun xs => evsK E captured.toList fun ys => k (.fn f xs ys)
def qMakeI (P : Program) (T : TypeId) (x : Operand) : KQ β := fun E _ k => evK E x fun a => match P.underlying T with
  | some (.interface _) => none
  | some _ => k (.ifc T a)
  | none => none
def qLookup (P : Program) (T : TypeId) (m i : Operand) (ok : Bool) : KQ β := fun E s k => evK E m fun m => evK E i fun key => lookX P s T m key ok k
def qCall (P : Program) (b : Builtin) (tys : Array TypeId) (args : Array Operand) : KQ β := fun E _ k => evsK E args.toList fun args => bltnQX P b tys.toList args k
def failQ : KQ β := fun _ _ _ => none

/-- quiet operations -/
def xQ (P : Program) (op : Op) : KQ β :=
  match op with
  | .move x => qMove x
  | .assign x => qMove x
  | .pick c x y => qPick c x y
  | .load T x => qLoad P T x
  | .nilCheck x => qNil x
  | .binOp bop T x y _ => qBin P bop T x y
  | .unOp uop _ x => qUn uop x
  | .convert _ dst x => qConv P dst x
  | .fieldAddr st x f => qFaddr P st x f
  | .field T x f => qField P T x f
  | .indexAddr T x i => qIaddr P T x i
  | .slice T x lo hi none => qSlice P T x lo hi
  | .extract t i => qExtract t i
  | .build T parts => qBuild P T parts
  | .makeFunc (.func f) first captured => qMakeFunc f first captured
  | .makeInterface T x => qMakeI P T x
  | .lookup T m i ok => qLookup P T m i ok
  | .call ⟨.builtin b, args, tys⟩ => qCall P b tys args
  | _ => failQ

/-! what does something -/
/-- a new block -/
def newK (s : St) (B : Blk) (k : Nat → St → Option β) : Option β :=
  setK 6 s.h s.nb (some B) fun h => k s.nb { s with h := h, nb := Nat.succ s.nb }
def setBK (s : St) (b : Nat) (B : Option Blk) (k : St → Option β) : Option β :=
  setK 6 s.h b B fun h => k { s with h := h }
def ok1A : A → Bool
  | .agg _ => false
  | .tup _ => false
  | .lit v => ok1 v
  | _ => true
def allOk1 : List A → Bool
  | [] => true
  | a :: l => match ok1A a with
    | true => allOk1 l
    | false => false
/-- cells become others, from a place on -/
def putCs (n : Nat) : Tr A → Nat → List A → (Tr A → Option β) → Option β
  | o, _, [], k => k o
  | o, i, v :: vs, k => ck (Nat.blt i n) <| setK 6 o i (some v) fun o => putCs n o (Nat.succ i) vs k
def stX (s : St) (b i : Nat) (vs : List A) (k : St → Option β) : Option β :=
  ck (allOk1 vs) <| match s.h.get b with
  | some (.cells T n z o tail) => putCs n o i vs fun o => setBK s b (some (.cells T n z o tail)) k
  | _ => none
/-- a new block of some cells -/
def laidK (s : St) (T : TypeId) (vs : List A) (tail : Option (Nat × Nat)) (k : Nat → St → Option β) : Option β :=
  ck (allOk1 vs) <| fN vs.length fun n => putCs n .nil 0 vs fun o => newK s (.cells T n [] o tail) k

def infoX (P : Program) (T : TypeId) (k : Nat → Nat → List Value → Option β) : Option β := match P.info? T, zeroL P T with
  | some i, some z => ck (Nat.beq z.length i.size) (k i.size i.bytes z)
  | _, _ => none

/-- the first cells of a slice -/
def rdSlK (s : St) (x : A) (sz : Nat) (k : List A → Option β) : Option β := match x with
  | .lit (.slice none 0 _) => k []
  | .sl b o n _ => rdNK s b o (n * sz) k
  | _ => none

def appK : List A → List A → (List A → Option β) → Option β
  | [], l, k => k l
  | x :: r, l, k => appK r l fun t => k (x :: t)

/-- a new row for an append -/
def freshX (s : St) (e sz bytes l : Nat) (olds news : List A) (k : A → St → Option β) : Option β :=
  ck (Nat.ble (l * bytes * 2) 140737488355328 && Nat.blt l 70368744177664 && Nat.blt 0 bytes) <|
    appK olds news fun all => ck (Nat.beq all.length (l * sz)) <| laidK { s with nc := Nat.succ s.nc } e all (some (s.nc, sz)) fun b s' => fN l fun l => k (.sl b 0 l (.v s.nc)) s'
def apdX (s : St) (e sz bytes : Nat) (x y : A) (k : A → St → Option β) : Option β :=
  oK (lenA x) fun n => oK (lenA y) fun m => rdSlK s y sz fun news =>
    match x with
    | .lit (.slice none _ c) => match Nat.ble (n + m) c with
      | true => match news with
        | [] => fN (n + m) fun l => k (.lit (.slice none l c)) s
        | _ :: _ => none
      | false => ck (Nat.beq n 0) (freshX s e sz bytes (n + m) [] news k)
    | .sl b o _ (.n c) => match Nat.ble (n + m) c with
      | true => stX s b (o + n * sz) news fun s => fN (n + m) fun l => k (.sl b o l (.n c)) s
      | false => rdNK s b o (n * sz) fun olds => freshX s e sz bytes (n + m) olds news k
    | .sl b 0 _ (.v j) => match s.h.get b with
      | some (.cells T n' _ _ (some (j', sz'))) => ck (Nat.beq j j' && Nat.beq sz sz' && Nat.beq T e && Nat.beq n' (n * sz)) <| rdNK s b 0 (n * sz) fun olds => setBK s b none fun s => freshX s e sz bytes (n + m) olds news k
      | _ => none
    | _ => none

def cpyX (s : St) (sz : Nat) (d x : A) (k : A → St → Option β) : Option β :=
  oK (lenA d) fun n => oK (lenA x) fun m => fN (Nat.min m n) fun c => match c with
    | 0 => k (.lit (.int .i64 0)) s
    | c + 1 => match x, d with
      | .sl b o _ _, .sl b' o' _ _ => rdNK s b o (Nat.succ c * sz) fun cs => stX s b' o' cs fun s => k (.lit (.int .i64 (.ofNat (Nat.succ c)))) s
      | _, _ => none

def repA (l : List A) : Nat → (List A → Option β) → Option β
  | 0, k => k []
  | n + 1, k => repA l n fun r => appK l r k
def undefA : A := .tup []

/-- a list's entry becomes another one -/
def updE : List Ent → Nat → A → A → (List Ent → Option β) → Option β
  | [], _, _, _, _ => none
  | e :: l, 0, key, v, k => k ({ key := key, val := v, born := e.born } :: l)
  | e :: l, n + 1, key, v, k => updE l n key v fun r => k (e :: r)
def delE : List Ent → Nat → (List Ent → Option β) → Option β
  | [], _, _ => none
  | _ :: l, 0, k => k l
  | e :: l, n + 1, k => delE l n fun r => k (e :: r)
def pushE : List Ent → Ent → (List Ent → Option β) → Option β
  | [], e, k => k [e]
  | x :: l, e, k => pushE l e fun r => k (x :: r)
def mupX (P : Program) (s : St) (kT : TypeId) (m key v : A) (k : St → Option β) : Option β := match m with
  | .mp b => match s.h.get b with
    | some (.map es c) => oK (keyI key) fun _ => findX P kT es key fun r => match r with
      | none => pushE es { key := key, val := v, born := c } fun es => setBK s b (some (.map es (Nat.succ c))) k
      | some (i, _) => updE es i key v fun es => setBK s b (some (.map es c)) k
    | _ => none
  | _ => none
def mdelX (P : Program) (s : St) (kT : TypeId) (m key : A) (k : St → Option β) : Option β := match m with
  | .mp b => match s.h.get b with
    | some (.map es c) => findX P kT es key fun r => match r with
      | none => k s
      | some (i, _) => delE es i fun es => setBK s b (some (.map es c)) k
    | _ => none
  | _ => none

/-- reads -/
inductive RA where
  | cells (b o n : Nat)
  | obj (b : Nat)
def sameA : A → A → Bool
  | .lit (.int k x), .lit (.int k' y) => beqK k k' && eqI x y
  | .lit (.bool x), .lit (.bool y) => eqBl x y
  | .lit (.pointer none), .lit (.pointer none) => true
  | .lit (.slice none n c), .lit (.slice none n' c') => Nat.beq n n' && Nat.beq c c'
  | .lit (.map none), .lit (.map none) => true
  | .lit .nilFunc, .lit .nilFunc => true
  | .sym k i, .sym k' j => beqK k k' && Nat.beq i j
  | .ptr b o, .ptr b' o' => Nat.beq b b' && Nat.beq o o'
  | .sl b o n (.n c), .sl b' o' n' (.n c') => Nat.beq b b' && Nat.beq o o' && Nat.beq n n' && Nat.beq c c'
  | .sl b o n (.v c), .sl b' o' n' (.v c') => Nat.beq b b' && Nat.beq o o' && Nat.beq n n' && Nat.beq c c'
  | .mp b, .mp b' => Nat.beq b b'
  | _, _ => false
def sameCs (s s' : St) (b : Nat) : Nat → Nat → Bool
  | _, 0 => true
  | i, n + 1 => match s.h.get b, s'.h.get b with
    | some B, some B' => match B.rd i, B'.rd i with
      | some x, some y => match sameA x y with
        | true => sameCs s s' b (Nat.succ i) n
        | false => false
      | _, _ => false
    | _, _ => false
def sameEs : List Ent → List Ent → Bool
  | [], [] => true
  | e :: l, e' :: l' => match sameA e.key e'.key && sameA e.val e'.val && Nat.beq e.born e'.born with
    | true => sameEs l l'
    | false => false
  | _, _ => false
def sameR (s s' : St) : List RA → Bool
  | [] => true
  | .cells b o n :: l => match sameCs s s' b o n with
    | true => sameR s s' l
    | false => false
  | .obj b :: l => match s.h.get b, s'.h.get b with
    | some (.map es c), some (.map es' c') => match Nat.beq c c' && sameEs es es' with
      | true => sameR s s' l
      | false => false
    | _, _ => false

def readsX (P : Program) (op : Op) (E : Tr A) : List RA :=
  match op with
  | .load T (.tmp t) => match E.get t with
    | some (.ptr b o) => match isAggB P T with
      | some true => match sizeB P T with
        | some n => [.cells b o n]
        | none => []
      | _ => [.cells b o 1]
    | _ => []
  | .lookup _ (.tmp t) _ _ => match E.get t with
    | some (.mp b) => [.obj b]
    | _ => []
  | _ => []

/-! a map's range -/
def snocK : List Nat → Nat → (List Nat → Option β) → Option β
  | [], x, k => k [x]
  | y :: l, x, k => snocK l x fun r => k (y :: r)
def lastN : List Nat → Option Nat
  | [] => none
  | [x] => some x
  | _ :: l => lastN l
/-- the entries not seen yet: the elder ones; is there a younger one? -/
def leftE (since : Nat) (seen : List Nat) : List Ent → List Ent × Bool
  | [] => ([], false)
  | e :: l => match memN seen e.born with
    | true => leftE since seen l
    | false => match leftE since seen l with
      | (r, y) => match Nat.blt e.born since with
        | true => (e :: r, y)
        | false => (r, true)
def allGe (last : Nat) : List Ent → Bool
  | [] => true
  | e :: l => match Nat.ble last e.born with
    | true => allGe last l
    | false => false
def gonE (seen : List Nat) (last : Nat) (es : List Ent) : Bool := match seen, es with
  | [], _ => false
  | _, [] => false
  | _, es => allGe last es
def nextX (s : St) (r : Nat) (k : A → St → Option β) : Option β :=
  match s.h.get r with
  | some (.iter none 0 [] 0) => k (.tup [.lit (.bool false)]) s
  | some (.iter (some m) since seen last) => match s.h.get m with
    | some (.map es c) => match gonE seen last es, leftE since seen es with
      | false, ([], false) => k (.tup [.lit (.bool false)]) s
      | false, ([e], false) => snocK seen e.born fun seen => setBK s r (some (.iter (some m) since seen c)) fun s => k (.tup [.lit (.bool true), e.key, e.val]) s
      | _, _ => none
    | _ => none
  | _ => none
def findB (b : Nat) : List Ent → Option Ent
  | [] => none
  | e :: l => match Nat.beq e.born b with
    | true => some e
    | false => findB b l
def entryX (s : St) (r : Nat) (k : A → Option β) : Option β :=
  match s.h.get r with
  | some (.iter (some m) _ seen stepped) => match s.h.get m with
    | some (.map es c) => ck (Nat.beq c stepped) <| oK (lastN seen) fun b => oK (findB b es) fun e => k (.tup [e.key, e.val])
    | _ => none
  | _ => none

abbrev CallX (β : Type) := Nat → List A → St → (A → St → Option β) → Option β

def bltnX (P : Program) (b : Builtin) (tys : List TypeId) (args : List A) (s : St) (k : A → St → Option β) : Option β :=
  match b, tys, args with
  | .append, [t, t'], [x, y] => match P.underlying t, P.underlying t' with
    | some (.slice e), some (.slice _) => infoX P e fun sz bytes _ => apdX s e sz bytes x y k
    | _, _ => none
  | .copy, [t, t'], [x, y] => match P.underlying t, P.underlying t' with
    | some (.slice e), some (.slice _) => infoX P e fun sz _ _ => cpyX s sz x y k
    | _, _ => none
  | .delete, [t, _], [m, key] => match P.underlying t with
    | some (.map kT _) => mdelX P s kT m key fun s => k undefA s
    | _ => none
  | .len, [t], [m] => match P.underlying t with
    | some (.map _ _) => oK (entsX s m) fun es => fN es.length fun n => k (.lit (.int .i64 (.ofNat n))) s
    | _ => none
  | _, _, _ => none

abbrev KE (β : Type) := Tr A → St → (A → St → Option β) → Option β
def eAlloc (P : Program) (T : TypeId) : KE β := fun _ s k => oK (zeroL P T) fun z => ofVsK z fun z => laidK s T z none fun b s => k (.ptr b 0) s
def eBox (T : TypeId) (x : Operand) : KE β := fun E s k => evK E x fun a => oK a.cells fun cs => laidK s T cs none fun b s => k (.ptr b 0) s
def bsliceX (e len sz : Nat) (z : List Value) (ps : List (Nat × A)) (s : St) (k : A → St → Option β) : Option β :=
  ck (Nat.ble (len * sz) 16777216) <| ofVsK z fun z => repA z len fun cs => fillK (fun i => some (i * sz, sz)) cs ps fun cs =>
      laidK s e cs none fun b s => k (.sl b 0 len (.n len)) s
def eBslice (P : Program) (T : TypeId) (len : Nat) (parts : Array (Nat × Operand)) : KE β := fun E s k => evpsK E parts.toList fun ps => match P.underlying T with
  | some (.slice e) => infoX P e fun sz _ z => bsliceX e len sz z ps s k
  | _ => none
def msliceX (e sz bytes : Nat) (z : List Value) (l c : Int) (s : St) (k : A → St → Option β) : Option β :=
  ck (leI 0 l && leI l c && leI c 70368744177664 && leI (bytes * c) 140737488355328) <| ofVsK z fun z => ck (allOk1 z) <|
      fN (c.toNat * sz) fun n => fN l.toNat fun l => fN c.toNat fun c => newK s (.cells e n z .nil none) fun b s => k (.sl b 0 l (.n c)) s
def eMslice (P : Program) (T : TypeId) (l c : Operand) : KE β := fun E s k => evK E l fun l => oK (intA l) fun l => evK E c fun c => oK (intA c) fun c => match P.underlying T with
  | some (.slice e) => infoX P e fun sz bytes z => msliceX e sz bytes z l c s k
  | _ => none
def eMap0 (P : Program) (T : TypeId) : KE β := fun _ s k => match P.underlying T with
  | some (.map _ _) => newK s (.map [] 0) fun b s => k (.mp b) s
  | _ => none
def eMap1 (P : Program) (T : TypeId) (r : Operand) : KE β := fun E s k => match P.underlying T with
  | some (.map _ _) => evK E r fun r => oK (intA r) fun _ => newK s (.map [] 0) fun b s => k (.mp b) s
  | _ => none
def storeX (P : Program) (T : TypeId) (p v : A) (s : St) (k : A → St → Option β) : Option β := match p with
  | .ptr b o => match isAggB P T, sizeB P T with
    | some false, some 1 => stX s b o [v] fun s => k undefA s
    | some true, some n => match v with
      | .agg cs => ck (Nat.beq cs.length n) <| stX s b o cs fun s => k undefA s
      | _ => none
    | _, _ => none
  | _ => none
def eStore (P : Program) (T : TypeId) (x y : Operand) : KE β := fun E s k => evK E x fun p => evK E y fun v => storeX P T p v s k
def eMup (P : Program) (T : TypeId) (m i v : Operand) : KE β := fun E s k => evK E m fun m => evK E i fun key => evK E v fun v => match P.underlying T with
  | some (.map kT _) => mupX P s kT m key v fun s => k undefA s
  | _ => none
def rangeX (P : Program) (T : TypeId) (a : A) (s : St) (k : A → St → Option β) : Option β := match P.underlying T, a with
  | some (.map _ _), .lit (.map none) => newK s (.iter none 0 [] 0) fun b s => k (.ptr b 0) s
  | some (.map _ _), .mp m => match s.h.get m with
    | some (.map _ c) => newK s (.iter (some m) c [] c) fun b s => k (.ptr b 0) s
    | _ => none
  | _, _ => none
def eRange (P : Program) (T : TypeId) (x : Operand) : KE β := fun E s k => evK E x fun a => rangeX P T a s k
def eNext (P : Program) (ty : TypeId) (it : Operand) : KE β := fun E s k => evK E it fun a => match a, P.underlying ty with
  | .ptr r 0, some (.tuple ts) => match ts.toList with
    | [] => nextX s r k
    | _ => none
  | _, _ => none
def eEntry (it : Operand) : KE β := fun E s k => evK E it fun a => match a with
  | .ptr r 0 => entryX s r fun a => k a s
  | _ => none
def eCall (P : Program) (call : CallX β) (ty : TypeId) (g : Nat) (args : Array Operand) : KE β := fun E s k =>
  ck (bodyB P g) <| evsK E args.toList fun args => call g args s fun a s => ck (okTy P ty a) (k a s)
def callvX (P : Program) (call : CallX β) (ty : TypeId) (fv : A) (args : List A) (s : St) (k : A → St → Option β) : Option β := match fv with
  | .fn g xs ys => ck (bodyB P g) <| appK args ys fun r => appK xs r fun args => call g args s fun a s => ck (okTy P ty a) (k a s)
  | _ => none
def eCallv (P : Program) (call : CallX β) (ty : TypeId) (f : Operand) (args : Array Operand) : KE β := fun E s k =>
  evK E f fun fv => evsK E args.toList fun args => callvX P call ty fv args s k
def eBltn (P : Program) (b : Builtin) (tys : Array TypeId) (args : Array Operand) : KE β := fun E s k => evsK E args.toList fun args => bltnX P b tys.toList args s k
def failE : KE β := fun _ _ _ => none

/-- operations that do something -/
def xE (P : Program) (call : CallX β) (op : Op) (ty : TypeId) : KE β :=
  match op with
  | .alloc T => eAlloc P T
  | .box T x => eBox T x
  | .buildSlice T len parts => eBslice P T len parts
  | .makeSlice T l c => eMslice P T l c
  | .makeMap T none => eMap0 P T
  | .makeMap T (some r) => eMap1 P T r
  | .store T x y => eStore P T x y
  | .mapUpdate T m i v => eMup P T m i v
  | .insert T m i v => eMup P T m i v
  | .range T x => eRange P T x
  | .next it false => eNext P ty it
  | .entry it => eEntry it
  | .call ⟨.value (.func g), args, _⟩ => eCall P call ty g args
  | .call ⟨.value f, args, _⟩ => eCallv P call ty f args
  | .call ⟨.builtin b, args, tys⟩ => eBltn P b tys args
  | _ => failE

/-! regions -/
def putX (d : Option Nat) (a : A) (E : Tr A) (k : Tr A → Option β) : Option β := match d with
  | some d => setK 4 E d (some a) k
  | none => k E
def dropE (d : Option Nat) (E : Tr A) (k : Tr A → Option β) : Option β := match d with
  | some d => setK 4 E d (some (.tup [])) k
  | none => k E
def gdX (ops : List Oper) (o : Oper) (E : Tr A) (run skip : Option β) : Option β :=
  match o.guard with
  | none => run
  | some (j, want) => match at? ops j with
    | some oj => match oj.dst with
      | some t => match E.get t with
        | some (.lit (.bool true)) => match want with | true => run | false => skip
        | some (.lit (.bool false)) => match want with | true => skip | false => run
        | some (.tup []) => skip
        | _ => none
      | none => none
    | none => none

def opX (P : Program) (call : CallX β) (o : Oper) (E : Tr A) (s : St) (k : A → St → Option β) : Option β :=
  match quietB P o.op with
  | true => xQ P o.op E s fun a => k a s
  | false => xE P call o.op o.type E s k

def regX (P : Program) (call : CallX β) (ops : List Oper) (l : List Oper) : Tr A → St → (Tr A → St → Option β) → Option β :=
  List.rec (fun E s k => k E s) (fun o _ ih E s k => gdX ops o E (opX P call o E s fun a s => putX o.dst a E fun E => ih E s k) (dropE o.dst E fun E => ih E s k)) l

/-- operations that make something new, of what is there already -/
def isF (ops : Array Oper) (i : Nat) : Bool := match ops[i]? with
  | some o => match o.guard, o.op with
    | none, .makeMap _ none => o.dst.isSome
    | none, .makeSlice _ _ _ => o.dst.isSome
    | none, .alloc _ => o.dst.isSome
    | _, _ => false
  | none => false
def filt (p : Nat → Bool) : List Nat → List Nat
  | [] => []
  | i :: l => match p i with
    | true => i :: filt p l
    | false => filt p l
def subsets : List Nat → List (List Nat)
  | [] => [[]]
  | i :: l => subsets l ++ (subsets l).map (i :: ·)
def listAll (listed : Array Bool) : List Nat → Array Bool
  | [] => listed
  | i :: l => listAll (listed.setIfInBounds i true) l
def beqL : List Nat → List Nat → Bool
  | [], [] => true
  | a :: l, b :: m => match Nat.beq a b with
    | true => beqL l m
    | false => false
  | _, _ => false
/-- whatever of some operations is done ahead: nothing else may begin -/
def aheadOk (ops : Array Oper) (listed : Array Bool) (rs F : List Nat) (whole : Bool) : Bool :=
  (subsets F).all fun D => (!whole && Nat.beq D.length F.length) || beqL (Region.ready .any ops (listAll listed D)) (filt (fun i => !memN D i) rs)
/-- an operation's place is none of some operations', and none that they look at -/
def placeOk (ops : Array Oper) (F : List Nat) (d : Option Nat) : Bool := match d with
  | none => true
  | some d => F.all fun i => match ops[i]? with
    | some o => (match o.dst with | some t => !Nat.beq t d | none => false) && o.op.operands.all fun x => match x with | .tmp t => !Nat.beq t d | _ => true
    | none => false
/-- a known number -/
def evI (E : Tr A) (x : Operand) : Option Int := match x with
  | .tmp t => match E.get t with
    | some a => intA a
    | none => none
  | .const (.int _ n) => some n
  | _ => none
/-- what such an operation makes -/
def FV (P : Program) (E : Tr A) (op : Op) : Option (Obj × (Nat → Value)) :=
  match op with
  | .makeMap T none => match P.underlying T with
    | some (.map _ _) => some (.map #[] 0, fun b => .map (some b))
    | _ => none
  | .alloc T => match zeroL P T with
    | some z => some (.cells z.toArray T, fun b => .pointer (some ⟨b, 0, none⟩))
    | none => none
  | .makeSlice T l c => match evI E l, evI E c, P.underlying T with
    | some l, some c, some (.slice e) => match P.info? e, zeroL P e with
      | some i, some z => match Nat.beq z.length i.size && (leI 0 l && leI l c && leI c 70368744177664 && leI (i.bytes * c) 140737488355328) with
        | true => some (.cells (repV c.toNat z).toArray e, fun b => .slice (some ⟨b, 0, none⟩) l.toNat c.toNat)
        | false => none
      | _, _ => none
    | _, _, _ => none
  | _ => none
/-- such operations may be done now, and have not been -/
def freeOk (P : Program) (ops : Array Oper) (E : Tr A) (F : List Nat) : Bool := F.all fun i => match ops[i]? with
  | some o => (match o.dst with | some t => (match E.get t with | none => true | some _ => false) | none => false) && (match FV P E o.op with | some _ => true | none => false)
  | none => false
/-- no two of such operations have one place -/
def distF (ops : Array Oper) : List Nat → Bool
  | [] => true
  | i :: l => (match ops[i]? with | some o => placeOk ops l o.dst | none => false) && distF ops l
/-- the places of such operations are empty -/
def emptyF (ops : Array Oper) : List Nat → Tr A → (Tr A → Option β) → Option β
  | [], E, k => k E
  | i :: l, E, k => match ops[i]? with
    | some o => match o.dst with
      | some t => match isF ops i with
        | true => setK 4 E t none fun E => emptyF ops l E k
        | false => emptyF ops l E k
      | none => emptyF ops l E k
    | none => emptyF ops l E k
def keepsX (b : Nat) : List (Nat × List RA) → List RA
  | [] => []
  | (l, rs) :: t => match b.testBit l with
    | true => keepsX b t
    | false => rs ++ keepsX b t

/-- operations that make something new, one after another -/
def flushX (P : Program) (call : CallX β) (ops : Array Oper) : List Nat → Tr A → St → (Tr A → St → Option β) → Option β
  | [], E, s, k => k E s
  | i :: l, E, s, k => match ops[i]? with
    | some o => ck (placeOk ops l o.dst) <| xE P call o.op o.type E s fun a s => putX o.dst a E fun E => flushX P call ops l E s k
    | none => none

def regHX (P : Program) (call : CallX β) (ops : Array Oper) (B : Array Nat) : Nat → Array Bool → List (Nat × List RA) → Tr A → St → (Tr A → St → Option β) → Option β
  | 0, _, _, _, _, _ => none
  | fuel + 1, listed, lds, E, s, k =>
    match Region.ready .any ops listed with
    | [] => k E s
    | r :: rs =>
      let F := filt (isF ops) (r :: rs)
      match firstQ (quietAt P ops) (r :: rs) with
      | some i => match ops[i]? with
        | some o => ck (aheadOk ops listed (r :: rs) F true && placeOk ops F o.dst && freeOk P ops E F && distF ops F) <| gdX ops.toList o E
            (xQ P o.op E s fun a => putX o.dst a E fun E' => regHX P call ops B fuel (listed.setIfInBounds i true) ((i, readsX P o.op E) :: lds) E' s k)
            (dropE o.dst E fun E' => regHX P call ops B fuel (listed.setIfInBounds i true) lds E' s k)
        | none => none
      | none => match filt (fun i => !isF ops i) (r :: rs) with
        | [] => ck (aheadOk ops listed (r :: rs) F false && freeOk P ops E F && distF ops F) <| flushX P call ops F E s fun E s => regHX P call ops B fuel (listAll listed F) lds E s k
        | [i] => match ops[i]? with
          | some o => ck (aheadOk ops listed (r :: rs) F true && placeOk ops F o.dst && freeOk P ops E F && distF ops F) <| gdX ops.toList o E
              (xE P call o.op o.type E s fun a s' => ck (sameR s s' (keepsX (B.getD i 0) lds)) <| putX o.dst a E fun E => regHX P call ops B fuel (listed.setIfInBounds i true) lds E s' k)
              (dropE o.dst E fun E => regHX P call ops B fuel (listed.setIfInBounds i true) lds E s k)
          | none => none
        | _ => none

/-! code -/
def argsX : Nat → List A → Tr A → (Tr A → Option β) → Option β
  | _, [], E, k => k E
  | i, a :: as, E, k => setK 4 E i (some a) fun E => argsX (Nat.succ i) as E k
def resX (P : Program) : List ResultVar → Tr A → St → (List A → Option β) → Option β
  | [], _, _, k => k []
  | .tmp t :: l, E, s, k => oK (E.get t) fun a => resX P l E s fun as => k (a :: as)
  | .cell t T :: l, E, s, k => oK (E.get t) fun p => match p with
    | .ptr b o => loadX P s T b o fun a => resX P l E s fun as => k (a :: as)
    | _ => none
def retX (P : Program) (fn : Func) (E : Tr A) (s : St) (k : A → St → Option β) : Option β :=
  resX P fn.results.toList E s fun as => match as with
    | [a] => k a s
    | as => k (.tup as) s

abbrev XcT (β : Type) := Code → Tr A → St → (Tr A → St → Option β) → (Nat → Tr A → St → Option β) → (Tr A → St → Option β) → Option β

/-- what is known of some calls -/
abbrev Sm := Nat → List A → St → Option (A × St)

def callX (P : Program) (sm : Sm) (ih : XcT β) : CallX β := fun f args s k =>
  match sm f args s with
  | some (a, s) => k a s
  | none => match P.funcs[f]? with
    | some fn => ck (chkF fn args.length) <| match fn.body with
      | some c => argsX 0 args .nil fun E => ih c E s (fun E s => retX P fn E s k) (fun _ _ _ => none) (fun E s => retX P fn E s k)
      | none => none
    | none => none

abbrev KC (β : Type) := Tr A → St → (Tr A → St → Option β) → (Nat → Tr A → St → Option β) → (Tr A → St → Option β) → Option β
def cSkip : KC β := fun E s kn _ _ => kn E s
def cReg (P : Program) (call : CallX β) (ops : Array Oper) : KC β := fun E s kn _ _ => regX P call ops.toList ops.toList E s kn
def cRegH (P : Program) (call : CallX β) (ops : Array Oper) : KC β := fun E s kn _ _ => emptyF ops (List.range ops.size) E fun E => regHX P call ops (Region.before ops) (ops.size + 1) (Array.replicate ops.size false) [] E s kn
def cSeq (ih : XcT β) (a b : Code) : KC β := fun E s kn kx kr => ih a E s (fun E s => ih b E s kn kx kr) kx kr
def cCond (ih : XcT β) (c : Operand) (a b : Code) : KC β := fun E s kn kx kr => evK E c fun v => match v with
  | .lit (.bool true) => ih a E s kn kx kr
  | .lit (.bool false) => ih b E s kn kx kr
  | _ => none
def cBlock (ih : XcT β) (id : Nat) (c : Code) : KC β := fun E s kn kx kr => ih c E s kn (fun i E s => match Nat.beq i id with | true => kn E s | false => kx i E s) kr
def cLoop (ih : XcT β) (c : Code) : KC β := fun E s kn kx kr => ih c E s (fun E s => ih (.loop c) E s kn kx kr) kx kr
def cExit (id : Nat) : KC β := fun E s _ kx _ => kx id E s
def cRet : KC β := fun E s _ _ kr => kr E s
def cFail : KC β := fun _ _ _ _ _ => none
def stepX (P : Program) (sm : Sm) (ih : XcT β) : XcT β := fun c =>
  match c with
  | .skip => cSkip
  | .region _ ops false => cReg P (callX P sm ih) ops
  | .region _ ops true => cRegH P (callX P sm ih) ops
  | .seq a b => cSeq ih a b
  | .cond c a b => cCond ih c a b
  | .block id c => cBlock ih id c
  | .loop c => cLoop ih c
  | .exit id => cExit id
  | .ret => cRet
  | _ => cFail

def xc (P : Program) (sm : Sm) (n : Nat) : XcT β := Nat.rec (fun _ _ _ _ _ _ => none) (fun _ ih => stepX P sm ih) n

/-- a function is run -/
def xF (P : Program) (sm : Sm) (n : Nat) : CallX β := callX P sm (xc P sm n)

end
end Go.XC
