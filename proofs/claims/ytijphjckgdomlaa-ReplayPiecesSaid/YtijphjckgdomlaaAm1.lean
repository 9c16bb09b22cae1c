/-
  AN EVALUATOR OVER ABSTRACT VALUES: data and evaluator, no proof. A slot of a frame holds an abstract value: plain data, a slice that is only read (given by its length and what its elements hold),
  an own object (a box, an own row, a map) by a number. 'run' reckons what is left to be shown of a piece of code: a proposition, laid open step by step by 'cbv'.
-/
import Derived.Test.YtijphjckgdomlaaProg
import Derived.Lib.Hide
set_option linter.all false
namespace Am
open Go

/-- What one cell holds. -/
inductive CV where
  | v (x : Value)
  | lit (b : Bool)
  | sl (sz n m : Nat) (f : Nat → List CV)
  | z
  | if1 (t : TypeId) (x : CV)
  | ifa (t : TypeId) (xs : List CV)
  | ptr (id off : Nat)
  | elp (xs : List CV) (off : Nat)
  | ref (id sz off len : Nat)
  | erp (id sz i off : Nat)
  | mp (id : Nat)
  | clo (f : FuncId) (caps : List CV)

/-- What a slot holds: a cell's value, several cells, several results, nothing. -/
inductive AV where
  | c (x : CV)
  | agg (xs : List CV)
  | tup (vs : List AV)
  | un

inductive Obj where
  | box (cs : List CV)
  | arr (e sz n : Nat) (f : Nat → List CV)
  | map (k e : Nat) (ag : Bool) (dom : Int → Bool) (val : Int → List CV)
  | sit (s : ByteArray) (pos : Nat)

abbrev Env := List (Nat × AV)
abbrev Sto := List (Nat × Obj)

structure St where
  env : Env
  sto : Sto
  nx : Nat

/-- What stays closed while the evaluator reckons. -/
structure Ar where
  ari : BinOp → IntKind → Int → Int → Int
  shf : BinOp → IntKind → Int → Int → Int
  cmp : BinOp → Int → Int → Bool
  scmp : BinOp → ByteArray → ByteArray → Bool
  band : Bool → Bool → Bool
  beq : Bool → Bool → Bool
  bnot : Bool → Bool
  neg : IntKind → Int → Int
  unx : IntKind → Int → Int
  wrap : IntKind → Int → Int
  slen : ByteArray → Int
  sat : ByteArray → Int → Int
  ssub : ByteArray → Int → Int → ByteArray
  cat : ByteArray → ByteArray → ByteArray
  bstr : Nat → (Nat → List CV) → ByteArray
  toN : Int → Nat
  sub : Nat → Nat → Nat
  add : Nat → Nat → Nat
  shift : (Nat → List CV) → Nat → Nat → List CV
  join : Nat → (Nat → List CV) → (Nat → List CV) → Nat → List CV
  setf : (Nat → List CV) → Nat → List CV → Nat → List CV
  bytes : ByteArray → Nat → List CV
  updb : (Int → Bool) → Int → Bool → Int → Bool
  updv : (Int → List CV) → Int → List CV → Int → List CV
  rng : Nat → Int → Prop
  idx : Int → Int → Prop
  isb : Nat → (Nat → List CV) → Prop
  le3 : Int → Int → Int → Prop
  nz : Int → Prop
  room : Nat → Nat → Prop
  nil0 : Nat → Bool → Prop
  catok : ByteArray → ByteArray → Prop
  rune : ByteArray → Nat → Int
  rnext : ByteArray → Nat → Nat
  more : ByteArray → Nat → Bool
  rstr : Int → ByteArray
  nid : Nat → (Nat → List CV) → Prop
  safe : Bool → AV → Sto → Prop
  tri : FuncId → List AV → Sto → Nat → (AV → Sto → Nat → Prop) → Prop
  weak : St → St → Prop

inductive TD where
  | bool | int (k : IntKind) | string
  | struct (fs : List (Nat × Nat)) (cmp : Bool)       -- offset, type; may it be compared?
  | array (len e : Nat)
  | slice (e : Nat)
  | map (k e : Nat)
  | ptr (e : Nat)
  | iface (empty : Bool)
  | func
  | other

structure TI where
  td : TD
  size : Nat
  bytes : Nat
  zero : Value

abbrev Tab := List (Nat × TI)

def look {α : Type} (k : Nat) : List (Nat × α) → Option α
  | [] => none
  | (j, x) :: r => match Nat.beq j k with | true => some x | false => look k r
def ins {α : Type} (k : Nat) (y : α) : List (Nat × α) → List (Nat × α)
  | [] => [(k, y)]
  | (j, x) :: r => match Nat.blt k j with
    | true => (k, y) :: (j, x) :: r
    | false => match Nat.beq j k with
      | true => (k, y) :: r
      | false => (j, x) :: ins k y r
def del {α : Type} (k : Nat) : List (Nat × α) → List (Nat × α)
  | [] => []
  | (j, x) :: r => match Nat.beq j k with | true => del k r | false => (j, x) :: del k r

def nth {α : Type} : List α → Nat → Option α
  | [], _ => none
  | x :: _, 0 => some x
  | _ :: r, n + 1 => nth r n
def cut {α : Type} : List α → Nat → Nat → List α
  | _, _, 0 => []
  | [], _, _ + 1 => []
  | x :: r, 0, k + 1 => x :: cut r 0 k
  | _ :: r, n + 1, k + 1 => cut r n (k + 1)
def setNth {α : Type} : List α → Nat → α → List α
  | [], _, _ => []
  | _ :: r, 0, y => y :: r
  | x :: r, n + 1, y => x :: setNth r n y
def setAll (cs : List CV) : Nat → List CV → List CV
  | _, [] => cs
  | i, v :: r => setAll (setNth cs i v) (i + 1) r

def one (x : Value) : Bool := match x with
  | .agg _ | .tuple _ => false
  | _ => true
def ofC (x : Value) : CV := match x with
  | .bool b => .lit b
  | x => .v x
def ofCs : List Value → Option (List CV)
  | [] => some []
  | x :: r => if one x then (match ofCs r with | some l => some (ofC x :: l) | none => none) else none
def ofV (x : Value) : Option AV := match x with
  | .agg cs => (match ofCs cs.toList with | some l => some (.agg l) | none => none)
  | .tuple _ => none
  | x => some (.c (ofC x))

def ev (e : Env) : Operand → Option AV
  | .tmp t => look t e
  | .const v => ofV v
  | .func f => some (.c (.clo f []))
  | .global g => some (.c (.v (.pointer (some ⟨g, 0, none⟩))))

def evs (e : Env) : List Operand → Option (List AV)
  | [] => some []
  | x :: r => match ev e x with
    | some v => (match evs e r with | some l => some (v :: l) | none => none)
    | none => none

def cellsOf : AV → Option (List CV)
  | .agg cs => some cs
  | .c v => some [v]
  | _ => none

def Tab.isAgg (T : Tab) (t : Nat) : Option Bool := match look t T with
  | some ti => (match ti.td with | .struct _ _ | .array _ _ => some true | _ => some false)
  | none => none

def part (T : Tab) (t : Nat) (cs : List CV) (off : Nat) : Option AV := match T.isAgg t, look t T with
  | some true, some ti => (match Nat.ble (off + ti.size) cs.length with | true => some (.agg (cut cs off ti.size)) | false => none)
  | some false, _ => (match nth cs off with | some c => some (.c c) | none => none)
  | _, _ => none

def kindOf (T : Tab) (t : Nat) : TD := match look t T with | some ti => ti.td | none => .other

/-- The outcome of an operation that leaves the store alone. -/
inductive PO where
  | ok (v : AV)
  | need (p : Prop) (o : PO)
  | any (p : Bool → Prop) (o : Bool → PO)
  | br (b : Bool) (t e : PO)
  | stuck

inductive Out where
  | ok (v : AV) (s : Sto) (nx : Nat)
  | need (p : Prop) (o : Out)
  | any (p : Bool → Prop) (o : Bool → Out)
  | br (b : Bool) (t e : Out)
  | stuck

def PO.sat (K : AV → Prop) : PO → Prop
  | .ok v => K v
  | .need p o => p ∧ o.sat K
  | .any p o => ∀ b, p b → (o b).sat K
  | .br b t e => (b = true → t.sat K) ∧ (b = false → e.sat K)
  | .stuck => False
def Out.sat (K : AV → Sto → Nat → Prop) : Out → Prop
  | .ok v s n => K v s n
  | .need p o => p ∧ o.sat K
  | .any p o => ∀ b, p b → (o b).sat K
  | .br b t e => (b = true → t.sat K) ∧ (b = false → e.sat K)
  | .stuck => False

def bool (b : Bool) : PO := .ok (.c (.v (.bool b)))
def lit (b : Bool) : PO := .ok (.c (.lit b))
def int (k : IntKind) (n : Int) : PO := .ok (.c (.v (.int k n)))

/-- '==' of two cells of a plain type: their Bool. -/
def eqc (A : Ar) (td : TD) (x y : CV) : Option Bool := match td with
  | .int _ => (match x, y with
    | .v (.int k a), .v (.int j b) => if k = j then some (A.cmp .eql a b) else none
    | _, _ => none)
  | .string => (match x, y with
    | .v (.string a), .v (.string b) => some (A.scmp .eql a b)
    | _, _ => none)
  | .bool => (match x, y with
    | .lit a, .lit b => some (a == b)
    | .v (.bool a), .v (.bool b) => some (A.beq a b)
    | .lit a, .v (.bool b) => some (A.beq a b)
    | .v (.bool a), .lit b => some (A.beq a b)
    | _, _ => none)
  | _ => none
/-- '==' of two values of a struct type, field by field. -/
def eqF (A : Ar) (T : Tab) (f : Nat → List CV → List CV → Option Bool) : List (Nat × Nat) → List CV → List CV → Option Bool
  | [], _, _ => some true
  | [(off, t)], xs, ys => (match look t T with
    | some ti => f t (cut xs off ti.size) (cut ys off ti.size)
    | none => none)
  | (off, t) :: r, xs, ys => (match look t T with
    | some ti => (match f t (cut xs off ti.size) (cut ys off ti.size), eqF A T f r xs ys with
      | some p, some q => some (A.band p q)
      | _, _ => none)
    | none => none)
/-- '==' of two values of a type. -/
def eqT (A : Ar) (T : Tab) : Nat → Nat → List CV → List CV → Option Bool
  | 0, _, _, _ => none
  | d + 1, t, xs, ys => match look t T with
    | some ti => (match ti.td with
      | .struct fs cm => (match cm with | true => eqF A T (eqT A T d) fs xs ys | false => none)
      | td => (match xs, ys with | [x], [y] => eqc A td x y | _, _ => none))
    | none => none

/-- Is it nil? For sure. -/
def nilOf (td : TD) (c : CV) : Option Bool := match td with
  | .iface _ => (match c with
    | .v .nilIface => some true
    | .if1 _ _ => some false
    | .ifa _ _ => some false
    | _ => none)
  | .ptr _ => (match c with
    | .v (.pointer none) => some true
    | .ptr _ _ => some false
    | .elp _ _ => some false
    | .erp _ _ _ _ => some false
    | _ => none)
  | .map _ _ => (match c with
    | .v (.map none) => some true
    | .mp _ => some false
    | _ => none)
  | .func => (match c with
    | .v .nilFunc => some true
    | .clo _ _ => some false
    | _ => none)
  | .slice _ => (match c with
    | .v (.slice none 0 0) => some true
    | _ => none)
  | _ => none
/-- The length of a slice of which it isn't known whether it is nil. -/
def slLen : CV → Option Nat
  | .sl _ n _ _ => some n
  | .z => some 0
  | .ref _ _ _ n => some n
  | _ => none
def isSl : TD → Bool
  | .slice _ => true
  | _ => false
def isIf : TD → Bool
  | .iface _ => true
  | _ => false

def notP (A : Ar) (neg : Bool) (b : Bool) : Bool := match neg with | true => A.bnot b | false => b
/-- '==' (neg = false), '!=' (neg = true); cst: one of the two is written as a constant. -/
def eqP (A : Ar) (T : Tab) (cst neg : Bool) (t : Nat) (x y : AV) : PO := match x, y with
  | .agg xs, .agg ys => (match kindOf T t with
    | .struct _ true => (match eqT A T 9 t xs ys with | some b => bool (notP A neg b) | none => .stuck)
    | _ => .stuck)
  | .c (.v (.int k a)), .c (.v (.int j b)) => if k = j then bool (notP A neg (A.cmp .eql a b)) else .stuck
  | .c (.v (.string a)), .c (.v (.string b)) => bool (notP A neg (A.scmp .eql a b))
  | .c p, .c q => (match eqc A (kindOf T t) p q with
    | some b => bool (notP A neg b)
    | none => (match nilOf (kindOf T t) p, nilOf (kindOf T t) q with
      | some true, some true => (match isIf (kindOf T t), cst with | true, false => .stuck | _, _ => lit (!neg))
      | some true, some false => lit neg
      | some false, some true => lit neg
      | some true, none => (match isSl (kindOf T t), slLen q with | true, some n => .any (A.nil0 n) (fun b => lit (b != neg)) | _, _ => .stuck)
      | none, some true => (match isSl (kindOf T t), slLen p with | true, some n => .any (A.nil0 n) (fun b => lit (b != neg)) | _, _ => .stuck)
      | _, _ => .stuck))
  | _, _ => .stuck

def notNil : CV → Bool
  | .ptr _ _ => true
  | .elp _ _ => true
  | .erp _ _ _ _ => true
  | .if1 _ _ => true
  | .ifa _ _ => true
  | .clo _ _ => true
  | _ => false

def isCmp : BinOp → Bool
  | .lss | .leq | .gtr | .geq => true
  | _ => false
def isAri : BinOp → Bool
  | .add | .sub | .mul | .and | .or | .xor | .andNot => true
  | _ => false
def isDiv : BinOp → Bool
  | .quo | .rem => true
  | _ => false

def isCst : Operand → Bool
  | .const _ => true
  | _ => false

def binP (A : Ar) (T : Tab) (cst : Bool) (op : BinOp) (t : Nat) (x y : AV) : PO := match op with
  | .eql => eqP A T cst false t x y
  | .neq => eqP A T cst true t x y
  | .shl => (match x, y with | .c (.v (.int k a)), .c (.v (.int _ b)) => .need (A.rng 4294967296 b) (int k (A.shf .shl k a b)) | _, _ => .stuck)
  | .shr => (match x, y with | .c (.v (.int k a)), .c (.v (.int _ b)) => .need (A.rng 4294967296 b) (int k (A.shf .shr k a b)) | _, _ => .stuck)
  | op => (match x, y with
    | .c (.v (.int k a)), .c (.v (.int j b)) => if k = j then (match isCmp op with
      | true => bool (A.cmp op a b)
      | false => (match isAri op with
        | true => int k (A.ari op k a b)
        | false => (match isDiv op with | true => .need (A.nz b) (int k (A.ari op k a b)) | false => .stuck))) else .stuck
    | .c (.v (.string a)), .c (.v (.string b)) => (match isCmp op with
      | true => bool (A.scmp op a b)
      | false => (match op with | .add => .need (A.catok a b) (.ok (.c (.v (.string (A.cat a b))))) | _ => .stuck))
    | _, _ => .stuck)

def unP (A : Ar) (op : UnOp) (x : AV) : PO := match op, x with
  | .not, .c (.lit b) => lit (!b)
  | .not, .c (.v (.bool b)) => bool (A.bnot b)
  | .neg, .c (.v (.int k n)) => int k (A.neg k n)
  | .xor, .c (.v (.int k n)) => int k (A.unx k n)
  | _, _ => .stuck


def isBytes (T : Tab) (t : Nat) : Bool := match kindOf T t with
  | .slice u => (match kindOf T u with | .int .u8 => true | _ => false)
  | _ => false

def convP (A : Ar) (T : Tab) (src dst : Nat) (x : AV) (s : Sto) : PO := match kindOf T dst, x with
  | .int k, .c (.v (.int _ n)) => (match look src T with | some _ => int k (A.wrap k n) | none => .stuck)
  | .string, .c (.v (.string b)) => (match look src T with | some _ => .ok (.c (.v (.string b))) | none => .stuck)
  | .string, .c (.v (.int _ n)) => (match look src T with | some _ => .ok (.c (.v (.string (A.rstr n)))) | none => .stuck)
  | .string, .c (.sl 1 n _ f) => (match isBytes T src with
    | true => .need (A.isb n f) (.ok (.c (.v (.string (A.bstr n f)))))
    | false => .stuck)
  | .string, .c (.ref id 1 off n) => (match isBytes T src, look id s with
    | true, some (.arr _ 1 m f) => .need (A.le3 0 (Int.ofNat (A.add off n)) (Int.ofNat m)) (.need (A.isb n (A.shift f off)) (.ok (.c (.v (.string (A.bstr n (A.shift f off)))))))
    | _, _ => .stuck)
  | _, _ => .stuck

def low (x : Option (Option AV)) : Option Int := match x with
  | none => some 0
  | some (some (.c (.v (.int _ n)))) => some n
  | _ => none

/-- The cells of an element of a slice type. -/
def elemSz (T : Tab) (t : Nat) : Option Nat := match kindOf T t with
  | .slice u => (match look u T with | some ti => some ti.size | none => none)
  | _ => none

def sliceP (A : Ar) (T : Tab) (t : Nat) (x : AV) (lo hi mx : Option (Option AV)) : PO := match x, low lo, hi, mx with
  | .c (.v (.string s)), some l, some (some (.c (.v (.int _ h)))), none => (match kindOf T t with
    | .string => .need (A.le3 l h (A.slen s)) (.ok (.c (.v (.string (A.ssub s l h)))))
    | _ => .stuck)
  | .c (.v (.string s)), some l, none, none => (match kindOf T t with
    | .string => .need (A.le3 l (A.slen s) (A.slen s)) (.ok (.c (.v (.string (A.ssub s l (A.slen s))))))
    | _ => .stuck)
  | .c (.sl sz n m f), some l, some (some (.c (.v (.int _ h)))), none => (match elemSz T t with
    | some z => (match Nat.beq z sz with
      | true => .need (A.le3 l h (Int.ofNat (A.add n m))) (.ok (.c (.sl sz (A.sub (A.toN h) (A.toN l)) (A.sub (A.add n m) (A.toN h)) (A.shift f (A.toN l)))))
      | false => .stuck)
    | none => .stuck)
  | .c (.sl sz n m f), some l, none, none => (match elemSz T t with
    | some z => (match Nat.beq z sz with
      | true => .need (A.le3 l (Int.ofNat n) (Int.ofNat n)) (.ok (.c (.sl sz (A.sub n (A.toN l)) m (A.shift f (A.toN l)))))
      | false => .stuck)
    | none => .stuck)
  | .c (.ref id sz off n), some (.ofNat 0), some (some (.c (.v (.int _ h)))), none => (match elemSz T t with
    | some _ => .need (A.le3 0 h (Int.ofNat n)) (.ok (.c (.ref id sz off (A.toN h))))
    | none => .stuck)
  | .c (.sl _ _ _ _), some (.ofNat 0), some (some (.c (.v (.int _ (.ofNat 0))))), some (some (.c (.v (.int _ (.ofNat 0))))) => (match elemSz T t with
    | some _ => .ok (.c .z)
    | none => .stuck)
  | .c (.ref _ _ _ _), some (.ofNat 0), some (some (.c (.v (.int _ (.ofNat 0))))), some (some (.c (.v (.int _ (.ofNat 0))))) => (match elemSz T t with
    | some _ => .ok (.c .z)
    | none => .stuck)
  | _, _, _, _ => .stuck

def lenP (A : Ar) (T : Tab) (t : Nat) (x : AV) : PO := match kindOf T t, x with
  | .slice _, .c (.sl _ n _ _) => int .i64 (Int.ofNat n)
  | .slice _, .c (.v (.slice none 0 0)) => int .i64 0
  | .slice _, .c .z => int .i64 0
  | .slice _, .c (.ref _ _ _ n) => int .i64 (Int.ofNat n)
  | .string, .c (.v (.string s)) => int .i64 (A.slen s)
  | .array n _, .agg _ => int .i64 (Int.ofNat n)
  | _, _ => .stuck

def minP (A : Ar) (mn : Bool) (x y : AV) : PO := match x, y with
  | .c (.v (.int k a)), .c (.v (.int _ b)) => .br (A.cmp (match mn with | true => .lss | false => .gtr) b a) (int k b) (int k a)
  | _, _ => .stuck

def fldA (T : Tab) (t f : Nat) : Option Nat := match kindOf T t with
  | .struct fs _ => (match nth fs f with | some (off, u) => (match look u T with | some ti => (match ti.size with | 0 => none | _ + 1 => some off) | none => none) | none => none)
  | _ => none
def fldT (T : Tab) (t f : Nat) : Option (Nat × Nat) := match kindOf T t with
  | .struct fs _ => nth fs f
  | _ => none

def partP (T : Tab) (t : Nat) (cs : List CV) (off : Nat) : PO := match part T t cs off with | some v => .ok v | none => .stuck

def mval (ag : Bool) (cs : List CV) : Option AV := match ag, cs with
  | true, cs => some (.agg cs)
  | false, [c] => some (.c c)
  | _, _ => none

/-- No own object in it. -/
def noId : CV → Bool
  | .ptr _ _ | .ref _ _ _ _ | .erp _ _ _ _ | .mp _ | .clo _ _ => false
  | .if1 _ x => noId x
  | _ => true
def noIds : List CV → Bool
  | [] => true
  | c :: r => match noId c with | true => noIds r | false => false

def asV (ok : Bool) (v : AV) : AV := match ok with
  | true => .tup [v, .c (.lit true)]
  | false => v
def asNo (ok : Bool) (z : Option AV) : PO := match ok, z with
  | true, some z => .ok (.tup [z, .c (.lit false)])
  | _, _ => .stuck
def okV (ok : Bool) (v : AV) (d : Bool) : AV := match ok with
  | true => .tup [v, .c (.v (.bool d))]
  | false => v

/-- OPERATIONS THAT LEAVE THE STORE ALONE. -/
def pop (A : Ar) (T : Tab) (op : Op) (e : Env) (s : Sto) : PO := match op with
  | .move x => (match ev e x with | some v => .ok v | none => .stuck)
  | .assign x => (match ev e x with | some v => .ok v | none => .stuck)
  | .pick c a b => (match ev e c with
    | some (.c (.lit true)) => (match ev e a with | some v => .ok v | none => .stuck)
    | some (.c (.lit false)) => (match ev e b with | some v => .ok v | none => .stuck)
    | some (.c (.v (.bool q))) => .br q (match ev e a with | some v => .ok v | none => .stuck) (match ev e b with | some v => .ok v | none => .stuck)
    | _ => .stuck)
  | .fieldAddr t x f => (match ev e x, fldA T t f with
    | some (.c (.ptr id off)), some o => .ok (.c (.ptr id (off + o)))
    | some (.c (.elp xs off)), some o => .ok (.c (.elp xs (off + o)))
    | some (.c (.erp id sz i off)), some o => .ok (.c (.erp id sz i (off + o)))
    | _, _ => .stuck)
  | .field t x f => (match ev e x, fldT T t f with
    | some (.agg cs), some (o, u) => partP T u cs o
    | _, _ => .stuck)
  | .indexAddr t x i => (match ev e x, ev e i with
    | some (.c (.sl sz n _ f)), some (.c (.v (.int _ k))) => (match elemSz T t with
      | some z => (match Nat.beq z sz with | true => .need (A.rng n k) (.ok (.c (.elp (f (A.toN k)) 0))) | false => .stuck)
      | none => .stuck)
    | some (.c (.ref id sz off n)), some (.c (.v (.int _ k))) => (match elemSz T t with
      | some z => (match Nat.beq z sz with | true => .need (A.rng n k) (.ok (.c (.erp id sz (A.add off (A.toN k)) 0))) | false => .stuck)
      | none => .stuck)
    | some (.c (.ptr id off)), some (.c (.v (.int _ (.ofNat k)))) => (match kindOf T t with
      | .array n u => (match look u T with
        | some ti => .need (A.rng n (.ofNat k)) (.ok (.c (.ptr id (off + k * ti.size))))
        | none => .stuck)
      | _ => .stuck)
    | _, _ => .stuck)
  | .index t x i => (match ev e x, ev e i with
    | some (.c (.v (.string b))), some (.c (.v (.int _ k))) => (match kindOf T t with | .string => .need (A.idx k (A.slen b)) (int .u8 (A.sat b k)) | _ => .stuck)
    | some (.agg cs), some (.c (.v (.int _ (.ofNat k)))) => (match kindOf T t with
      | .array n u => (match look u T with
        | some ti => .need (A.rng n (.ofNat k)) (partP T u cs (k * ti.size))
        | none => .stuck)
      | _ => .stuck)
    | _, _ => .stuck)
  | .load t x => (match ev e x with
    | some (.c (.ptr id off)) => (match look id s with
      | some (.box cs) => partP T t cs off
      | _ => .stuck)
    | some (.c (.elp xs off)) => partP T t xs off
    | some (.c (.erp id sz i off)) => (match look id s with
      | some (.arr _ z n f) => (match Nat.beq z sz with | true => .need (A.rng n (Int.ofNat i)) (partP T t (f i) off) | false => .stuck)
      | _ => .stuck)
    | _ => .stuck)
  | .nilCheck x => (match ev e x with
    | some (.c p) => (match notNil p with | true => .ok (.c p) | false => .stuck)
    | _ => .stuck)
  | .binOp op t x y _ => (match ev e x, ev e y with
    | some a, some b => binP A T (isCst x || isCst y) op t a b
    | _, _ => .stuck)
  | .unOp op _ x => (match ev e x with | some a => unP A op a | none => .stuck)
  | .convert a b x => (match ev e x with | some v => convP A T a b v s | none => .stuck)
  | .makeInterface t x => (match look t T with
    | some ti => (match isIf ti.td, ev e x with
      | false, some (.c p) => .ok (.c (.if1 t p))
      | false, some (.agg cs) => (match noIds cs with | true => .ok (.c (.ifa t cs)) | false => .stuck)
      | _, _ => .stuck)
    | none => .stuck)
  | .makeFunc (.func f) first cap => (match first.toList, evs e cap.toList with
    | [], some l => (match cellsAll l with | some cs => .ok (.c (.clo f cs)) | none => .stuck)
    | _, _ => .stuck)
  | .extract x i => (match ev e x with
    | some (.tup vs) => (match nth vs i with | some v => .ok v | none => .stuck)
    | _ => .stuck)
  | .build t ps => (match look t T with
    | some ti => (match ti.td, ofV ti.zero with
      | .struct fs _, some (.agg z) => (match allIn T fs, bld T e fs z ps.toList with | true, some cs => .ok (.agg cs) | _, _ => .stuck)
      | _, _ => .stuck)
    | none => .stuck)
  | .slice t x lo hi mx => (match ev e x with
    | some v => sliceP A T t v (lo.map (ev e)) (hi.map (ev e)) (mx.map (ev e))
    | none => .stuck)
  | .lookup t x i ok => (match ev e x, ev e i, kindOf T t with
    | some (.c (.mp id)), some (.c (.v (.int q k))), .map kt u => (match look id s with
      | some (.map kt2 u2 ag dom val) => (match kindOf T kt with
        | .int q2 => if q = q2 ∧ kt = kt2 ∧ u = u2 then (match mval ag (val k) with
          | some v => .ok (okV ok v (dom k))
          | none => .stuck) else .stuck
        | _ => .stuck)
      | _ => .stuck)
    | _, _, _ => .stuck)
  | .typeAssert x _ ty ok => (match look ty T, ev e x with
    | some ti, some (.c (.if1 t c)) => (match isIf ti.td, Nat.beq t ty with
      | false, true => .ok (asV ok (.c c))
      | false, false => asNo ok (ofV ti.zero)
      | _, _ => .stuck)
    | some ti, some (.c (.ifa t xs)) => (match isIf ti.td, Nat.beq t ty with
      | false, true => .ok (asV ok (.agg xs))
      | false, false => asNo ok (ofV ti.zero)
      | _, _ => .stuck)
    | some ti, some (.c (.v .nilIface)) => (match isIf ti.td with | false => asNo ok (ofV ti.zero) | true => .stuck)
    | _, _ => .stuck)
  | .call c => (match c.callee, c.args.toList, c.argTypes.toList with
    | .builtin .len, [x], [t] => (match ev e x with | some v => lenP A T t v | none => .stuck)
    | .builtin .min, [x, y], _ => (match ev e x, ev e y with | some a, some b => minP A true a b | _, _ => .stuck)
    | .builtin .max, [x, y], _ => (match ev e x, ev e y with | some a, some b => minP A false a b | _, _ => .stuck)
    | _, _, _ => .stuck)
  | _ => .stuck
where
  allIn (T : Tab) : List (Nat × Nat) → Bool
    | [] => true
    | (_, u) :: r => (match look u T with | some _ => allIn T r | none => false)
  cellsAll : List AV → Option (List CV)
    | [] => some []
    | .c x :: r => (match cellsAll r with | some l => some (x :: l) | none => none)
    | _ :: _ => none
  bld (T : Tab) (e : Env) (fs : List (Nat × Nat)) (z : List CV) : List (Nat × Operand) → Option (List CV)
    | [] => some z
    | (i, x) :: r => (match nth fs i, ev e x with
      | some (off, u), some v => (match cellsOf v, look u T with
        | some cs, some ti => if cs.length = ti.size ∧ off + cs.length ≤ z.length then bld T e fs (setAll z off cs) r else none
        | _, _ => none)
      | _, _ => none)

def PO.out (s : Sto) (nx : Nat) : PO → Out
  | .ok v => .ok v s nx
  | .need p o => .need p (o.out s nx)
  | .any p o => .any p (fun b => (o b).out s nx)
  | .br b t e => .br b (t.out s nx) (e.out s nx)
  | .stuck => .stuck

/-- The elements of a literal row, each as its cells. -/
def rows (T : Tab) (e : Env) (u : Nat) : Nat → List (Nat × Operand) → Option (List (List CV))
  | _, [] => some []
  | i, (j, x) :: r => if i = j then (match ev e x with
    | some v => (match cellsOf v, look u T, rows T e u (i + 1) r with
      | some cs, some ti, some l => if cs.length = ti.size then some (cs :: l) else none
      | _, _, _ => none)
    | none => none) else none

def pickR : List (List CV) → Nat → List CV
  | [], _ => []
  | x :: _, 0 => x
  | _ :: r, n + 1 => pickR r n

/-- 'append(x, y...)': the elements that come to it; 'zs': the cells of each of them, if there is one. -/
def appA (A : Ar) (T : Tab) (t : Nat) (x : AV) (zs : Option Nat) (m : Nat) (g : Nat → List CV) (s : Sto) (nx : Nat) : Out := match kindOf T t with
  | .slice u => (match look u T with
    | some ti => (match (match zs with | some z => Nat.beq z ti.size | none => true), Nat.blt 0 ti.size, x with
      | true, true, .c (.v (.slice none 0 0)) => .need (A.room ti.bytes m) (.ok (.c (.ref nx ti.size 0 m)) ((nx, .arr u ti.size m g) :: s) (nx + 1))
      | true, true, .c (.ref id _ 0 n) => (match look id s with
        | some (.arr v sz k f) => (match Nat.beq v u, Nat.beq sz ti.size with
          | true, true => .need (A.le3 0 (Int.ofNat n) (Int.ofNat k)) (.need (A.room ti.bytes (A.add n m)) (.ok (.c (.ref nx sz 0 (A.add n m))) ((nx, .arr u sz (A.add n m) (A.join n f g)) :: del id s) (nx + 1)))
          | _, _ => .stuck)
        | _ => .stuck)
      | _, _, _ => .stuck)
    | none => .stuck)
  | _ => .stuck

def isAggV : AV → Bool
  | .agg _ => true
  | _ => false
/-- ALL OPERATIONS BUT CALLS OF FUNCTIONS. -/
def aop (A : Ar) (T : Tab) (op : Op) (e : Env) (s : Sto) (nx : Nat) : Out := match op with
  | .alloc t => (match look t T with
    | some ti => (match ofV ti.zero with
      | some z => (match cellsOf z with | some cs => .ok (.c (.ptr nx 0)) ((nx, .box cs) :: s) (nx + 1) | none => .stuck)
      | none => .stuck)
    | none => .stuck)
  | .box _ x => (match ev e x with
    | some z => (match cellsOf z with | some cs => .ok (.c (.ptr nx 0)) ((nx, .box cs) :: s) (nx + 1) | none => .stuck)
    | none => .stuck)
  | .store t x y => (match ev e x, ev e y, look t T with
    | some (.c (.ptr id off)), some v, some ti => (match look id s, cellsOf v with
      | some (.box cs), some xs => if xs.length = ti.size then (if off + xs.length ≤ cs.length then .ok .un (ins id (.box (setAll cs off xs)) s) nx else .stuck) else .stuck
      | _, _ => .stuck)
    | some (.c (.erp id z i off)), some v, some ti => (match look id s, cellsOf v with
      | some (.arr u sz n f), some xs => (match Nat.beq z sz with
        | true => if xs.length = ti.size then (if off + xs.length ≤ sz then .need (A.rng n (Int.ofNat i)) (.ok .un (ins id (.arr u sz n (A.setf f i (setAll (f i) off xs))) s) nx) else .stuck) else .stuck
        | false => .stuck)
      | _, _ => .stuck)
    | _, _, _ => .stuck)
  | .buildSlice t n ps => (match kindOf T t with
    | .slice u => (match rows T e u 0 ps.toList, look u T with
      | some l, some ti => if l.length = n ∧ n * ti.size ≤ 16777216 ∧ n ≤ 16777216 then .ok (.c (.ref nx ti.size 0 n)) ((nx, .arr u ti.size n (pickR l)) :: s) (nx + 1) else .stuck
      | _, _ => .stuck)
    | _ => .stuck)
  | .makeMap t none => (match kindOf T t with
    | .map k u => (match kindOf T k, look u T, T.isAgg u with
      | .int _, some ti, some ag => (match ofV ti.zero with
        | some z => (match cellsOf z with
          | some cs => (match isAggV z == ag with | true => .ok (.c (.mp nx)) ((nx, .map k u ag (fun _ => false) (fun _ => cs)) :: s) (nx + 1) | false => .stuck)
          | none => .stuck)
        | none => .stuck)
      | _, _, _ => .stuck)
    | _ => .stuck)
  | .mapUpdate t m k v => (match ev e m, ev e k, ev e v, kindOf T t with
    | some (.c (.mp id)), some (.c (.v (.int q n))), some x, .map kt u => (match look id s, cellsOf x, kindOf T kt, look u T with
      | some (.map kt2 u2 ag dom val), some cs, .int q2, some ti => if q = q2 ∧ kt = kt2 ∧ u = u2 ∧ isAggV x = ag ∧ cs.length = ti.size then
          (match noIds cs with | true => .ok .un (ins id (.map kt2 u2 ag (A.updb dom n true) (A.updv val n cs)) s) nx | false => .stuck) else .stuck
      | _, _, _, _ => .stuck)
    | _, _, _, _ => .stuck)
  | .range t x => (match kindOf T t, ev e x with
    | .string, some (.c (.v (.string b))) => .ok (.c (.ptr nx 0)) ((nx, .sit b 0) :: s) (nx + 1)
    | _, _ => .stuck)
  | .next x true => (match ev e x with
    | some (.c (.ptr id 0)) => (match look id s with
      | some (.sit b pos) => .br (A.more b pos) (.ok (.tup [.c (.lit true), .c (.v (.int .i64 (Int.ofNat pos))), .c (.v (.int .i32 (A.rune b pos)))]) (ins id (.sit b (A.rnext b pos)) s) nx)
          (.ok (.tup [.c (.lit false)]) s nx)
      | _ => .stuck)
    | _ => .stuck)
  | .call c => (match c.callee, c.args.toList, c.argTypes.toList with
    | .builtin .append, [x, y], [t, t2] => (match ev e x, ev e y, kindOf T t2 with
      | some a, some (.c (.v (.string b))), .string => appA A T t a (some 1) (A.toN (A.slen b)) (A.bytes b) s nx
      | some a, some (.c (.sl z m _ g)), .slice _ => appA A T t a (some z) m g s nx
      | some a, some (.c (.v (.slice none 0 0))), .slice _ => appA A T t a none 0 (fun _ => []) s nx
      | some a, some (.c .z), .slice _ => appA A T t a none 0 (fun _ => []) s nx
      | some a, some (.c (.ref id z off m)), .slice _ => (match look id s with
        | some (.arr _ z2 n g) => (match Nat.beq z z2 with
          | true => .need (A.le3 0 (Int.ofNat (A.add off m)) (Int.ofNat n)) (appA A T t a (some z) m (A.shift g off) s nx)
          | false => .stuck)
        | _ => .stuck)
      | _, _, _ => .stuck)
    | _, _, _ => (pop A T op e s).out s nx)
  | op => (pop A T op e s).out s nx

def put (e : Env) (d : Option Nat) (v : AV) : Env := match d with | some k => ins k v e | none => e

mutual
/-- Own objects' numbers, moved. -/
def shC (n : Nat) : CV → CV
  | .ptr id off => .ptr (id + n) off
  | .ref id sz off len => .ref (id + n) sz off len
  | .erp id sz i off => .erp (id + n) sz i off
  | .mp id => .mp (id + n)
  | .clo f caps => .clo f (shCs n caps)
  | .if1 t x => .if1 t (shC n x)
  | c => c
def shCs (n : Nat) : List CV → List CV
  | [] => []
  | c :: r => shC n c :: shCs n r
end
mutual
def shV (n : Nat) : AV → AV
  | .c x => .c (shC n x)
  | .agg xs => .agg (shCs n xs)
  | .tup vs => .tup (shVs n vs)
  | .un => .un
def shVs (n : Nat) : List AV → List AV
  | [] => []
  | v :: r => shV n v :: shVs n r
end
def shO (n : Nat) : Obj → Obj
  | .box cs => .box (shCs n cs)
  | o => o
def shS (n : Nat) : Sto → Sto → Sto
  | [], s => s
  | (id, o) :: r, s => (id + n, shO n o) :: shS n r s

/-- What own memory holds, lent: data that stay as they are while the call lasts. none: it can't be; some none: nothing is lent; some (some p): p is to be shown. -/
structure Lt (α : Type) where
  x : α
  p : Option Prop
def andP : Option Prop → Option Prop → Option Prop
  | none, q => q
  | p, none => p
  | some p, some q => some (p ∧ q)
mutual
def lendC (A : Ar) (s : Sto) : CV → Option (Lt CV)
  | .ptr id off => (match look id s with
    | some (.box cs) => (match noIds cs with | true => some ⟨.elp cs off, some True⟩ | false => none)
    | _ => none)
  | .ref id sz off n => (match look id s with
    | some (.arr _ z k f) => (match Nat.beq sz z with
      | true => some ⟨.sl sz n 0 (A.shift f off), some (A.le3 0 (Int.ofNat (A.add off n)) (Int.ofNat k) ∧ A.nid k f)⟩
      | false => none)
    | _ => none)
  | .erp _ _ _ _ => none
  | .mp _ => none
  | .clo f caps => (match lendCs A s caps with | some ⟨l, p⟩ => some ⟨.clo f l, p⟩ | none => none)
  | .if1 t x => (match lendC A s x with | some ⟨y, p⟩ => some ⟨.if1 t y, p⟩ | none => none)
  | c => some ⟨c, none⟩
def lendCs (A : Ar) (s : Sto) : List CV → Option (Lt (List CV))
  | [] => some ⟨[], none⟩
  | c :: r => (match lendC A s c, lendCs A s r with | some ⟨d, p⟩, some ⟨l, q⟩ => some ⟨d :: l, andP p q⟩ | _, _ => none)
end
def lendV (A : Ar) (s : Sto) : AV → Option (Lt AV)
  | .c x => (match lendC A s x with | some ⟨y, p⟩ => some ⟨.c y, p⟩ | none => none)
  | .agg xs => (match lendCs A s xs with | some ⟨ys, p⟩ => some ⟨.agg ys, p⟩ | none => none)
  | .tup _ => none
  | .un => none
def lendVs (A : Ar) (s : Sto) : List AV → Option (Lt (List AV))
  | [] => some ⟨[], none⟩
  | v :: r => (match lendV A s v, lendVs A s r with | some ⟨d, p⟩, some ⟨l, q⟩ => some ⟨d :: l, andP p q⟩ | _, _ => none)

/-- How a region is gone through that draws its order. -/
inductive Plan where
  | done
  | no
  | take (i : Nat) (p : Plan)
  | one (i : Nat) (p : Plan)
  | eff (i : Nat) (p r : Plan)

def tk : List Nat → Plan → Plan
  | [], p => p
  | i :: r, p => .take i (tk r p)

/-- The functions that turn what they are handed; the plans of the regions. -/
structure Cfg where
  muts : List Nat
  plans : List (Nat × Plan)
  mname : String := ""
  meths : List (Nat × Nat) := []

def mem (k : Nat) : List Nat → Bool
  | [] => false
  | j :: r => match Nat.beq j k with | true => true | false => mem k r

/-- A call of a function. -/
def callX (A : Ar) (C : Cfg) (f : Nat) (vs : List AV) (s : Sto) (nx : Nat) (K : AV → Sto → Nat → Prop) : Prop := match mem f C.muts with
  | true => A.tri f vs s nx K
  | false => match lendVs A s vs with
    | some ⟨vs', none⟩ => A.tri f vs' [] 0 (fun v s2 n2 => A.safe false v s2 ∧ K (shV nx v) (shS nx s2 s) (n2 + nx))
    | some ⟨vs', some p⟩ => p ∧ A.tri f vs' [] 0 (fun v s2 n2 => A.safe true v s2 ∧ K (shV nx v) (shS nx s2 s) (n2 + nx))
    | none => False

/-- One operation that is carried out. -/
def exec (A : Ar) (T : Tab) (C : Cfg) (o : Oper) (e : Env) (s : Sto) (nx : Nat) (K : AV → Sto → Nat → Prop) : Prop := match o.op with
  | .call c => (match c.callee with
    | .value f => (match ev e f, evs e c.args.toList with
      | some (.c (.clo fn caps)), some vs => callX A C fn (vs ++ caps.map .c) s nx K
      | _, _ => False)
    | .invoke r name => name = C.mname ∧ (match ev e r, evs e c.args.toList with
      | some (.c (.if1 t x)), some vs => (match look t C.meths with | some f => callX A C f (.c x :: vs) s nx K | none => False)
      | some (.c (.ifa t xs)), some vs => (match look t C.meths with | some f => callX A C f (.agg xs :: vs) s nx K | none => False)
      | _, _ => False)
    | .builtin _ => (aop A T o.op e s nx).sat K)
  | op => (aop A T op e s nx).sat K

/-- The same, where its guard wants it. -/
def gexec (A : Ar) (T : Tab) (C : Cfg) (all : List Oper) (o : Oper) (e : Env) (s : Sto) (nx : Nat) (K : Env → Sto → Nat → Prop) : Prop := match o.guard with
  | none => exec A T C o e s nx (fun v s nx => K (put e o.dst v) s nx)
  | some (j, want) => match nth all j with
    | some oj => match oj.dst with
      | some d => match look d e with
        | some (.c (.lit b)) => match b == want with
          | true => exec A T C o e s nx (fun v s nx => K (put e o.dst v) s nx)
          | false => K (put e o.dst .un) s nx
        | some (.c (.v (.bool b))) =>
          (b = want → exec A T C o (ins d (.c (.lit want)) e) s nx (fun v s nx => K (put (ins d (.c (.lit want)) e) o.dst v) s nx)) ∧
          (b = !want → K (put (ins d (.c (.lit !want)) e) o.dst .un) s nx)
        | some .un => K (put e o.dst .un) s nx
        | _ => False
      | none => False
    | none => False

def ops (A : Ar) (T : Tab) (C : Cfg) (all : List Oper) : List Oper → Env → Sto → Nat → (Env → Sto → Nat → Prop) → Prop
  | [], e, s, nx, K => K e s nx
  | o :: r, e, s, nx, K => gexec A T C all o e s nx (fun e s nx => ops A T C all r e s nx K)

def pex (A : Ar) (T : Tab) (C : Cfg) (all : List Oper) : Plan → Env → Sto → Nat → (Env → Sto → Nat → Prop) → Prop
  | .done, e, s, nx, K => K e s nx
  | .no, _, _, _, _ => True
  | .take i p, e, s, nx, K => (match nth all i with | some o => gexec A T C all o e s nx (fun e s nx => pex A T C all p e s nx K) | none => False)
  | .one i p, e, s, nx, K => (match nth all i with | some o => gexec A T C all o e s nx (fun e s nx => pex A T C all p e s nx K) | none => False)
  | .eff i p r, e, s, nx, K => (match nth all i with | some o => gexec A T C all o e s nx (fun e s nx => pex A T C all p e s nx K) ∧ pex A T C all r e s nx K | none => False)

inductive KI where
  | code (c : Code)
  | blk (id : Nat)
  | lp (I : Nat → St → Prop) (n : Nat)

def popTo (id : Nat) : List KI → Option (List KI)
  | [] => none
  | .blk j :: r => match Nat.beq j id with | true => some r | false => popTo id r
  | _ :: r => popTo id r

/-- THE EVALUATOR: what is left to be shown of a stack of code. 'R': of the frame where the function ends. -/
def run (A : Ar) (T : Tab) (C : Cfg) (R : St → Prop) : Nat → List KI → St → Prop
  | 0, _, _ => False
  | _ + 1, [], st => R st
  | n + 1, .blk _ :: k, st => run A T C R n k st
  | _ + 1, .lp I m :: _, st => ∃ m' s', m' < m ∧ I m' s' ∧ A.weak st s'
  | n + 1, .code c :: k, st => match c with
    | .skip => run A T C R n k st
    | .seq a b => run A T C R n (.code a :: .code b :: k) st
    | .block id b => run A T C R n (.code b :: .blk id :: k) st
    | .exit id => (match popTo id k with | some k' => run A T C R n k' st | none => False)
    | .cond c a b => (match ev st.env c with
      | some (.c (.lit true)) => run A T C R n (.code a :: k) st
      | some (.c (.lit false)) => run A T C R n (.code b :: k) st
      | some (.c (.v (.bool x))) => (match c with
        | .tmp d => (x = true → run A T C R n (.code a :: k) ⟨ins d (.c (.lit true)) st.env, st.sto, st.nx⟩) ∧ (x = false → run A T C R n (.code b :: k) ⟨ins d (.c (.lit false)) st.env, st.sto, st.nx⟩)
        | _ => False)
      | _ => False)
    | .region _ os false => ops A T C os.toList os.toList st.env st.sto st.nx (fun e s nx => run A T C R n k ⟨e, s, nx⟩)
    | .region id os true => (match look id C.plans with
      | some p => pex A T C os.toList p st.env st.sto st.nx (fun e s nx => run A T C R n k ⟨e, s, nx⟩)
      | none => False)
    | .loop b => ∃ I : Nat → St → Prop, (∃ m s, I m s ∧ A.weak st s) ∧ ∀ m s, I m s → run A T C R n (.code b :: .lp I m :: k) s
    | .ret => R st
    | .scope b => run A T C R n (.code b :: k) st
    | .label _ => run A T C R n k st
    | _ => False

/-- What the function hands back. -/
def resVal (T : Tab) (st : St) : List ResultVar → Option (List AV)
  | [] => some []
  | .tmp t :: r => (match look t st.env, resVal T st r with | some v, some l => some (v :: l) | _, _ => none)
  | .cell a t :: r => (match look a st.env with
    | some (.c (.ptr id off)) => (match look id st.sto with
      | some (.box cs) => (match part T t cs off, resVal T st r with | some v, some l => some (v :: l) | _, _ => none)
      | _ => none)
    | _ => none)
def resOne : List AV → AV
  | [v] => v
  | l => .tup l
def fin (T : Tab) (rs : List ResultVar) (Q : AV → Sto → Nat → Prop) (st : St) : Prop := match resVal T st rs with
  | some l => Q (resOne l) st.sto st.nx
  | none => False
end Am
