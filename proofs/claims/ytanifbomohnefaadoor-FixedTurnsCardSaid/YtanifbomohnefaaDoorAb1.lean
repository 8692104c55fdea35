/- The abstract machine: definitions. Abstract values and memory, and an evaluator of the model's code on them. Conditions: none (definitions only). -/
import Derived.Calls
namespace Go.Ab
open Go

/-- The shape of a variable's memory. -/
inductive Sh where
  | leaf
  | node (ss : List Sh)
  | arr (n : Nat) (s : Sh)
  deriving Inhabited

mutual
def Sh.size : Sh → Nat
  | .leaf => 1
  | .node ss => Sh.sizes ss
  | .arr n s => n * s.size
def Sh.sizes : List Sh → Nat
  | [] => 0
  | s :: r => s.size + Sh.sizes r
end

mutual
def Sh.beq : Sh → Sh → Bool
  | .leaf, .leaf => true
  | .node a, .node b => Sh.beqs a b
  | .arr n a, .arr m b => Nat.beq n m && Sh.beq a b
  | _, _ => false
def Sh.beqs : List Sh → List Sh → Bool
  | [], [] => true
  | a :: as, b :: bs => Sh.beq a b && Sh.beqs as bs
  | _, _ => false
end

def nth {α : Type} : List α → Nat → Option α
  | [], _ => none
  | x :: _, 0 => some x
  | _ :: r, i + 1 => nth r i

def setNth {α : Type} : List α → Nat → α → List α
  | [], _, _ => []
  | _ :: r, 0, v => v :: r
  | x :: r, i + 1, v => x :: setNth r i v

def Sh.at : Sh → List Nat → Option Sh
  | s, [] => some s
  | .node ss, i :: p => match nth ss i with | some s => Sh.at s p | none => none
  | .arr _ s, _ :: p => Sh.at s p
  | .leaf, _ :: _ => none

def Sh.off : Sh → List Nat → Nat
  | _, [] => 0
  | .node ss, i :: p => Sh.sizes (ss.take i) + match nth ss i with | some s => Sh.off s p | none => 0
  | .arr _ s, i :: p => i * s.size + Sh.off s p
  | .leaf, _ :: _ => 0

/-- Abstract values. A pointer is a block and a path in it; a slice, the path of an array, a start, a length, a capacity. -/
inductive AV where
  | int (k : IntKind) (n : Int)
  | bool (b : Bool)
  | str (s : List UInt8)
  | ptr (b : Nat) (p : List Nat)
  | nilptr
  | slice (b : Nat) (p : List Nat) (s len cap : Nat)
  | nilslice
  | map (r : Nat)
  | nilmap
  | fn (f : FuncId) (first cap : List AV)
  | nilfn
  | iface (t : TypeId) (v : AV)
  | niliface
  | strct (vs : List AV)
  | arr (n : Nat) (f : Nat → AV)
  | tuple (vs : List AV)
  deriving Inhabited

def AV.undef : AV := .tuple []

def AV.at : AV → List Nat → Option AV
  | v, [] => some v
  | .strct vs, i :: p => match nth vs i with | some v => AV.at v p | none => none
  | .arr _ f, i :: p => AV.at (f i) p
  | _, _ :: _ => none

def AV.set : AV → List Nat → AV → AV
  | _, [], x => x
  | .strct vs, i :: p, x => match nth vs i with | some v => .strct (setNth vs i (AV.set v p x)) | none => .strct vs
  | .arr n f, i :: p, x => .arr n (fun j => if j = i then AV.set (f i) p x else f j)
  | v, _ :: _, _ => v

def listFn (d : AV) : List AV → Nat → AV
  | [], _ => d
  | x :: _, 0 => x
  | _ :: r, i + 1 => listFn d r i

mutual
/-- Does the value have the shape? (false: not known) -/
def AV.fits : AV → Sh → Bool
  | .strct vs, .node ss => AV.fitss vs ss
  | .strct _, _ => false
  | .arr _ _, _ => false
  | .tuple _, _ => false
  | _, .leaf => true
  | _, _ => false
def AV.fitss : List AV → List Sh → Bool
  | [], [] => true
  | v :: vs, s :: ss => AV.fits v s && AV.fitss vs ss
  | _, _ => false
end

def AV.scalar : AV → Prop
  | .strct _ | .arr _ _ | .tuple _ => False
  | _ => True

mutual
/-- The value is of the shape. -/
def HasSh : Sh → AV → Prop
  | .leaf, v => v.scalar
  | .node ss, .strct vs => HasShL ss vs
  | .arr n s, .arr m f => n = m ∧ ∀ i, i < n → HasSh s (f i)
  | _, _ => False
def HasShL : List Sh → List AV → Prop
  | [], [] => True
  | s :: ss, v :: vs => HasSh s v ∧ HasShL ss vs
  | _, _ => False
end

/-- What kind of type. -/
inductive AK where
  | bool | int (k : IntKind) | str | ptr | slice (e : TypeId) | array (n : Nat) (e : TypeId) | map (k e : TypeId) | func | iface | struct (fs : List (Nat × TypeId))

structure ATy where
  kind : AK
  size : Nat
  bytes : Nat
  zero : AV
  sh : Sh

/-- A table by number: a search tree. -/
inductive Tab (α : Type) where
  | nil
  | node (k : Nat) (v : α) (l r : Tab α)

def Tab.get {α : Type} : Tab α → Nat → Option α
  | .nil, _ => none
  | .node k v l r, i => match Nat.beq i k with
    | true => some v
    | false => match Nat.ble i k with
      | true => l.get i
      | false => r.get i

/-- Of a block: no spare places behind it; spare places that it owns; not to be written. -/
inductive Ext where
  | tight | open | ro

/-- The kind of a map's keys. -/
inductive KK where
  | int (k : IntKind)
  | str

inductive AObj where
  | mem (sh : Sh) (v : AV) (x : Ext)
  | map (kk : KK) (es : List (AV × AV))

structure AState where
  next : Nat
  hp : List (Nat × Option AObj)

def hget : List (Nat × Option AObj) → Nat → Option AObj
  | [], _ => none
  | (k, o) :: r, b => match Nat.beq k b with
    | true => o
    | false => hget r b

def AState.get (σ : AState) (b : Nat) : Option AObj := match σ with | ⟨_, h⟩ => hget h b

abbrev AFr := List (Nat × AV)

def fget : AFr → Nat → Option AV
  | [], _ => none
  | (k, v) :: r, t => match Nat.beq k t with
    | true => some v
    | false => fget r t

/-- What is known of a Go function: from arguments and memory: what must hold, what it returns, the memory. -/
abbrev SpecFn := List AV → AState → Option (Option Prop × AV × AState)

structure Env where
  ty : Tab ATy
  fn : Tab Func
  spec : Tab SpecFn
  meth : List (TypeId × String × FuncId)
  eqt : List TypeId

/-- A literal of the code as an abstract value. -/
def ofConst : Value → Option AV
  | .int k n => some (.int k n)
  | .bool b => some (.bool b)
  | .string s => some (.str s.data.toList)
  | .pointer none => some .nilptr
  | .slice none 0 0 => some .nilslice
  | .map none => some .nilmap
  | .nilFunc => some .nilfn
  | .nilIface => some .niliface
  | _ => none

def ev (fr : AFr) : Operand → Option AV
  | .tmp t => fget fr t
  | .const v => ofConst v
  | .func f => some (.fn f [] [])
  | .global g => match Nat.ble g 3 with | true => some (.ptr g []) | false => none

def evs (fr : AFr) : List Operand → Option (List AV)
  | [] => some []
  | x :: r => match ev fr x with
    | none => none
    | some v => match evs fr r with
      | none => none
      | some vs => some (v :: vs)

inductive AR where
  | fail
  | ok (v : AV) (σ : AState)
  | val (need : Prop) (v : AV) (σ : AState)

def intBin (op : BinOp) (k : IntKind) (a b : Int) : Option (Option Prop × AV) :=
  match op with
  | .add => some (none, .int k (k.wrap (a + b)))
  | .sub => some (none, .int k (k.wrap (a - b)))
  | .mul => some (none, .int k (k.wrap (a * b)))
  | .quo => some (some (b ≠ 0), .int k (k.wrap (a.tdiv b)))
  | .rem => some (some (b ≠ 0), .int k (a.tmod b))
  | .and => some (none, .int k (k.wrap (BitVec.ofInt k.bits a &&& BitVec.ofInt k.bits b).toNat))
  | .or => some (none, .int k (k.wrap (BitVec.ofInt k.bits a ||| BitVec.ofInt k.bits b).toNat))
  | .xor => some (none, .int k (k.wrap (BitVec.ofInt k.bits a ^^^ BitVec.ofInt k.bits b).toNat))
  | .andNot => some (none, .int k (k.wrap (BitVec.ofInt k.bits a &&& ~~~ BitVec.ofInt k.bits b).toNat))
  | .eql => some (none, .bool (a == b))
  | .neq => some (none, .bool (a != b))
  | .lss => some (none, .bool (decide (a < b)))
  | .leq => some (none, .bool (decide (a ≤ b)))
  | .gtr => some (none, .bool (decide (a > b)))
  | .geq => some (none, .bool (decide (a ≥ b)))
  | .shl | .shr => none

def intShift (op : BinOp) (k : IntKind) (a b : Int) : Option (Option Prop × AV) :=
  match op with
  | .shl => some (some (0 ≤ b), .int k (k.wrap (a * 2 ^ (min b.toNat k.bits))))
  | .shr => some (some (0 ≤ b), .int k (a.fdiv (2 ^ (min b.toNat k.bits))))
  | _ => none

def kindEq : IntKind → IntKind → Bool
  | .i8, .i8 | .i16, .i16 | .i32, .i32 | .i64, .i64 | .u8, .u8 | .u16, .u16 | .u32, .u32 | .u64, .u64 => true
  | _, _ => false

def strBin (op : BinOp) (a b : List UInt8) : Option (Option Prop × AV) :=
  match op with
  | .add => some (some (a.length + b.length ≤ 9223372036854775807), .str (a ++ b))
  | .eql => some (none, .bool (a == b))
  | .neq => some (none, .bool (!(a == b)))
  | .lss => some (none, .bool (Op.bytesLess a b))
  | .leq => some (none, .bool (Op.bytesLess a b || a == b))
  | .gtr => some (none, .bool (!(Op.bytesLess a b || a == b)))
  | .geq => some (none, .bool (!Op.bytesLess a b))
  | _ => none

def eqRes (op : BinOp) (r : Bool) : Option (Option Prop × AV) :=
  match op with
  | .eql => some (none, .bool r)
  | .neq => some (none, .bool (!r))
  | _ => none

/-- Comparison with nil, and of bools. -/
def nilBin (k : AK) (c : Bool) (op : BinOp) (a b : AV) : Option (Option Prop × AV) :=
  match k with
  | .bool => match a, b with
    | .bool x, .bool y => eqRes op (x == y)
    | _, _ => none
  | .ptr => match a, b with
    | .nilptr, .nilptr => eqRes op true
    | .ptr _ _, .nilptr => eqRes op false
    | .nilptr, .ptr _ _ => eqRes op false
    | _, _ => none
  | .slice _ => match a, b with
    | .nilslice, .nilslice => eqRes op true
    | .slice _ _ _ _ _, .nilslice => eqRes op false
    | _, _ => none
  | .map _ _ => match a, b with
    | .nilmap, .nilmap => eqRes op true
    | .map _, .nilmap => eqRes op false
    | _, _ => none
  | .func => match a, b with
    | .nilfn, .nilfn => eqRes op true
    | .fn _ _ _, .nilfn => eqRes op false
    | _, _ => none
  | .iface => match a, b with
    | .niliface, .niliface => match c with | true => eqRes op true | false => none
    | .iface _ _, .niliface => eqRes op false
    | _, _ => none
  | _ => none

def isConstC : Operand → Bool
  | .const _ => true
  | _ => false

def memB (t : Nat) : List Nat → Bool
  | [] => false
  | x :: r => Nat.beq t x || memB t r

mutual
/-- Structs of ints, bools and strings: are they equal? -/
def AV.eqB : AV → AV → Option Bool
  | .int k a, .int k' b => match kindEq k k' with | true => some (a == b) | false => none
  | .bool a, .bool b => some (a == b)
  | .str a, .str b => some (a == b)
  | .strct a, .strct b => AV.eqBs a b
  | _, _ => none
def AV.eqBs : List AV → List AV → Option Bool
  | [], [] => some true
  | a :: as, b :: bs => match AV.eqB a b, AV.eqBs as bs with
    | some x, some y => some (x && y)
    | _, _ => none
  | _, _ => none
end

mutual
/-- Of one kind: ints, bools, strings, structs of them. -/
def AV.alike : AV → AV → Bool
  | .int k _, .int k' _ => kindEq k k'
  | .bool _, .bool _ => true
  | .str _, .str _ => true
  | .strct a, .strct b => AV.alikes a b
  | _, _ => false
def AV.alikes : List AV → List AV → Bool
  | [], [] => true
  | a :: as, b :: bs => AV.alike a b && AV.alikes as bs
  | _, _ => false
end

def aInts (op : BinOp) (k k' : IntKind) (a b : Int) : Option (Option Prop × AV) :=
  match op with
  | .shl => intShift .shl k a b
  | .shr => intShift .shr k a b
  | op => match kindEq k k' with | true => intBin op k a b | false => none

def aBin (Γ : Env) (op : BinOp) (t : TypeId) (c : Bool) (x y : AV) : Option (Option Prop × AV) :=
  match x with
  | .int k a => match y with
    | .int k' b => aInts op k k' a b
    | _ => none
  | .str a => match y with
    | .str b => strBin op a b
    | _ => none
  | .strct as => match y with
    | .strct bs => match memB t Γ.eqt with
      | true => match Γ.ty.get t with
        | some T => match AV.alike T.zero (.strct as) && AV.alike T.zero (.strct bs) with
          | true => match AV.eqBs as bs with
            | some r => eqRes op r
            | none => none
          | false => none
        | none => none
      | false => none
    | _ => none
  | x => match Γ.ty.get t with
    | some T => nilBin T.kind c op x y
    | none => none

def AR.ofPair (σ : AState) : Option (Option Prop × AV) → AR
  | some (some p, v) => .val p v σ
  | some (none, v) => .ok v σ
  | none => .fail

def setParts (vs : List AV) : List (Nat × AV) → List AV
  | [] => vs
  | (i, v) :: r => setParts (setNth vs i v) r

def evParts (fr : AFr) : List (Nat × Operand) → Option (List (Nat × AV))
  | [] => some []
  | (i, x) :: r => match ev fr x with
    | none => none
    | some v => match evParts fr r with
      | none => none
      | some vs => some ((i, v) :: vs)

/-- If the value fits the shape. -/
def ifFits (v : AV) (s : Sh) (r : AV) (σ : AState) : AR := match v.fits s with | true => .ok r σ | false => .val (HasSh s v) r σ

/-- Do all these parts fit? -/
def partsFit : List (Nat × AV) → List Sh → Bool
  | [], _ => true
  | (i, v) :: r, ss => match nth ss i with
    | some s => v.fits s && partsFit r ss
    | none => false

def partsFitE (n : Nat) (s : Sh) : List (Nat × AV) → Bool
  | [] => true
  | (i, v) :: r => Nat.ble (i + 1) n && (v.fits s && partsFitE n s r)

def repl : Nat → AV → List AV
  | 0, _ => []
  | n + 1, v => v :: repl n v

structure ArrAt where
  n : Nat
  f : Nat → AV
  x : Ext
  sh : Sh
  v : AV

/-- The array, with elements of the shape, that lies at a path. -/
def AState.arr? (σ : AState) (b : Nat) (p : List Nat) (es : Sh) : Option ArrAt :=
  match σ.get b with
  | some (.mem sh v x) => match sh.at p with
    | some (.arr _ es') => match es'.beq es with
      | true => match v.at p with
        | some (.arr n f) => some ⟨n, f, x, sh, v⟩
        | _ => none
      | false => none
    | _ => none
  | _ => none

/-- Where the elements of a list come from that is appended or copied. -/
def srcOf (σ : AState) (es : Sh) : AV → Option (Nat × (Nat → AV))
  | .nilslice => some (0, fun _ => .undef)
  | .slice b p s n _ => match σ.arr? b p es with
    | some a => some (n, fun j => a.f (s + j))
    | none => none
  | _ => none

def splice (f : Nat → AV) (at_ n : Nat) (g : Nat → AV) : Nat → AV :=
  match n with
  | 1 => fun j => if j = at_ then g 0 else f j
  | n => fun j => if at_ ≤ j ∧ j < at_ + n then g (j - at_) else f j

def joined (len : Nat) (f g : Nat → AV) : Nat → AV := fun j => if j < len then f j else g (j - len)

def room : Nat := 2 ^ 45

/-- A new array behind an old one. -/
def grown (σ : AState) (dead : Option Nat) (e : Sh) (bytes n : Nat) (f : Nat → AV) : AR :=
  match σ with
  | ⟨nx, h⟩ => match dead with
    | none => .val (n * (bytes + 1) ≤ room) (.slice nx [] 0 n n) ⟨nx + 1, (nx, some (.mem (.arr n e) (.arr n f) .open)) :: h⟩
    | some b => .val (n * (bytes + 1) ≤ room) (.slice nx [] 0 n n) ⟨nx + 1, (nx, some (.mem (.arr n e) (.arr n f) .open)) :: (b, none) :: h⟩

def aappendTo (σ : AState) (e : Sh) (bytes : Nat) (n : Nat) (g : Nat → AV) : AV → AR
  | .nilslice => match n with
    | 0 => .ok .nilslice σ
    | n + 1 => grown σ none e bytes (n + 1) g
  | .slice b p st len cap => match σ.arr? b p e with
    | some a => match Nat.ble (len + n) cap with
      | true => match a.x with
        | .ro => .fail
        | x => match σ with | ⟨nx, h⟩ => .ok (.slice b p st (len + n) cap) ⟨nx, (b, some (.mem a.sh (a.v.set p (.arr a.n (splice a.f (st + len) n g))) x)) :: h⟩
      | false => match a.x with
        | .tight => grown σ none e bytes (len + n) (joined len (fun j => a.f (st + j)) g)
        | .open => match p with
          | [] => grown σ (some b) e bytes (len + n) (joined len (fun j => a.f (st + j)) g)
          | _ :: _ => .fail
        | .ro => .fail
    | none => .fail
  | _ => .fail

/-- append. -/
def aappend (Γ : Env) (σ : AState) (sT : TypeId) (s x : AV) : AR :=
  match Γ.ty.get sT with
  | some T => match T.kind with
    | .slice e => match Γ.ty.get e with
      | some E => match srcOf σ E.sh x with
        | some (n, g) => aappendTo σ E.sh E.bytes n g s
        | none => .fail
      | none => .fail
    | _ => .fail
  | none => .fail

def keyKind : AK → Option KK
  | .int k => some (.int k)
  | .str => some .str
  | _ => none

/-- Is it a key of the kind? -/
def AV.isKey : KK → AV → Bool
  | .int k, .int k' _ => kindEq k k'
  | .str, .str _ => true
  | _, _ => false

def AV.keyEq : AV → AV → Bool
  | .int _ a, .int _ b => a == b
  | .str a, .str b => a == b
  | _, _ => false

def afind (k : AV) : List (AV × AV) → Option AV
  | [] => none
  | (k', v) :: r => match AV.keyEq k k' with
    | true => some v
    | false => afind k r

def aput (k v : AV) : List (AV × AV) → List (AV × AV)
  | [] => [(k, v)]
  | (k', v') :: r => match AV.keyEq k k' with
    | true => (k, v) :: r
    | false => (k', v') :: aput k v r

def alookup (zero : AV) (ok : Bool) (r : Option AV) (σ : AState) : AR :=
  match r with
  | some v => match ok with | true => .ok (.tuple [v, .bool true]) σ | false => .ok v σ
  | none => match ok with | true => .ok (.tuple [zero, .bool false]) σ | false => .ok zero σ

def asliceStr (σ : AState) (s : List UInt8) (lo hi : Option Int) : AR :=
  match lo with
  | none => match hi with
    | none => .ok (.str s) σ
    | some h => .val (0 ≤ h ∧ h ≤ s.length) (.str (s.take h.toNat)) σ
  | some l => match hi with
    | none => .val (0 ≤ l ∧ l ≤ s.length) (.str (s.drop l.toNat)) σ
    | some h => .val (0 ≤ l ∧ l ≤ h ∧ h ≤ s.length) (.str ((s.drop l.toNat).take (h.toNat - l.toNat))) σ

def asliceSl (σ : AState) (x : Ext) (b : Nat) (p : List Nat) (st len cap : Nat) (lo hi mx : Option Int) : AR :=
  match mx with
  | none => match lo with
    | none => match hi with
      | none => .ok (.slice b p st len cap) σ
      | some h => .val (0 ≤ h ∧ h ≤ cap) (.slice b p st h.toNat cap) σ
    | some l => match hi with
      | none => .val (0 ≤ l ∧ l ≤ len ∧ (l = 0 ∨ l < cap)) (.slice b p (st + l.toNat) (len - l.toNat) (cap - l.toNat)) σ
      | some h => .val (0 ≤ l ∧ l ≤ h ∧ h ≤ cap ∧ (l = 0 ∨ l < cap)) (.slice b p (st + l.toNat) (h.toNat - l.toNat) (cap - l.toNat)) σ
  | some m => match x with
    | .tight => match lo with
      | some l => match hi with
        | some h => .val (0 ≤ l ∧ l ≤ h ∧ h ≤ m ∧ m ≤ cap ∧ (l = 0 ∨ l < m)) (.slice b p (st + l.toNat) (h.toNat - l.toNat) (m.toNat - l.toNat)) σ
        | none => .fail
      | none => .fail
    | _ => .fail

def evInt (fr : AFr) : Option Operand → Option (Option Int)
  | none => some none
  | some x => match ev fr x with
    | some (.int _ n) => some (some n)
    | _ => none

def findMeth (t : TypeId) (name : String) : List (TypeId × String × FuncId) → Option FuncId
  | [] => none
  | (t', n', f) :: r => match Nat.beq t t' && (n' == name) with
    | true => some f
    | false => findMeth t name r

/-- Operations other than calls of Go functions. -/
def aop (Γ : Env) (fr : AFr) (σ : AState) (op : Op) : AR :=
  match op with
  | .move x => match ev fr x with | some v => .ok v σ | none => .fail
  | .assign x => match ev fr x with | some v => .ok v σ | none => .fail
  | .pick c a b => match ev fr c with
    | some (.bool true) => match ev fr a with | some v => .ok v σ | none => .fail
    | some (.bool false) => match ev fr b with | some v => .ok v σ | none => .fail
    | _ => .fail
  | .alloc t => match Γ.ty.get t with
    | some T => match σ with | ⟨nx, h⟩ => .ok (.ptr nx []) ⟨nx + 1, (nx, some (.mem T.sh T.zero .tight)) :: h⟩
    | none => .fail
  | .box t x => match Γ.ty.get t with
    | some T => match ev fr x with
      | some v => match σ with | ⟨nx, h⟩ => ifFits v T.sh (.ptr nx []) ⟨nx + 1, (nx, some (.mem T.sh v .tight)) :: h⟩
      | none => .fail
    | none => .fail
  | .build t parts => match Γ.ty.get t with
    | some T => match evParts fr parts.toList with
      | some ps => match T.zero with
        | .strct vs => match T.sh with
          | .node ss => match partsFit ps ss with
            | true => .ok (.strct (setParts vs ps)) σ
            | false => .fail
          | _ => .fail
        | _ => .fail
      | none => .fail
    | none => .fail
  | .buildSlice t n parts => match Γ.ty.get t with
    | some T => match T.kind with
      | .slice e => match Γ.ty.get e with
        | some E => match evParts fr parts.toList with
          | some ps => match partsFitE n E.sh ps with
            | true => match Nat.ble (n * E.size) 16777216 with
              | true => match σ with | ⟨nx, h⟩ => .ok (.slice nx [] 0 n n) ⟨nx + 1, (nx, some (.mem (.arr n E.sh) (.arr n (listFn .undef (setParts (repl n E.zero) ps))) .tight)) :: h⟩
              | false => .fail
            | false => .fail
          | none => .fail
        | none => .fail
      | _ => .fail
    | none => .fail
  | .load t a => match Γ.ty.get t with
    | some T => match ev fr a with
      | some (.ptr b p) => match σ.get b with
        | some (.mem sh v _) => match sh.at p with
          | some s => match s.beq T.sh with
            | true => match v.at p with
              | some r => .ok r σ
              | none => .fail
            | false => .fail
          | none => .fail
        | _ => .fail
      | _ => .fail
    | none => .fail
  | .store t a x => match Γ.ty.get t with
    | some T => match ev fr a with
      | some (.ptr b p) => match ev fr x with
        | some y => match σ.get b with
          | some (.mem sh v e) => match sh.at p with
            | some s => match s.beq T.sh with
              | true => match e with
                | .ro => .fail
                | e => match σ with | ⟨nx, h⟩ => ifFits y s .undef ⟨nx, (b, some (.mem sh (v.set p y) e)) :: h⟩
              | false => .fail
            | none => .fail
          | _ => .fail
        | none => .fail
      | _ => .fail
    | none => .fail
  | .nilCheck x => match ev fr x with
    | some (.ptr b p) => .ok (.ptr b p) σ
    | some (.fn f a c) => .ok (.fn f a c) σ
    | _ => .fail
  | .binOp op t x y _ => match ev fr x with
    | some a => match ev fr y with
      | some b => .ofPair σ (aBin Γ op t (isConstC y) a b)
      | none => .fail
    | none => .fail
  | .unOp op _ x => match ev fr x with
    | some (.bool b) => match op with
      | .not => .ok (.bool !b) σ
      | _ => .fail
    | some (.int k n) => match op with
      | .neg => .ok (.int k (k.wrap (0 - n))) σ
      | .xor => .ok (.int k (k.wrap (BitVec.ofInt k.bits (if k.signed then -1 else k.max) ^^^ BitVec.ofInt k.bits n).toNat)) σ
      | _ => .fail
    | _ => .fail
  | .convert src dst x => match Γ.ty.get src with
    | some _ => match Γ.ty.get dst with
      | some T => match ev fr x with
        | some (.int _ n) => match T.kind with | .int k => .ok (.int k (k.wrap n)) σ | _ => .fail
        | some (.str s) => match T.kind with | .str => .ok (.str s) σ | _ => .fail
        | _ => .fail
      | none => .fail
    | none => .fail
  | .makeInterface t x => match Γ.ty.get t with
    | some T => match ev fr x with
      | some v => match T.kind with | .iface => .fail | _ => .ok (.iface t v) σ
      | none => .fail
    | none => .fail
  | .makeFunc (.func f) first cap => match evs fr first.toList with
    | some a => match evs fr cap.toList with
      | some c => .ok (.fn f a c) σ
      | none => .fail
    | none => .fail
  | .makeMap t none => match Γ.ty.get t with
    | some T => match T.kind with
      | .map k _ => match Γ.ty.get k with
        | some K => match keyKind K.kind with
          | some kk => match σ with | ⟨nx, h⟩ => .ok (.map nx) ⟨nx + 1, (nx, some (.map kk [])) :: h⟩
          | none => .fail
        | none => .fail
      | _ => .fail
    | none => .fail
  | .makeSlice t l c => match Γ.ty.get t with
    | some T => match T.kind with
      | .slice e => match Γ.ty.get e with
        | some E => match ev fr l with
          | some (.int _ n) => match ev fr c with
            | some (.int _ m) => match σ with
              | ⟨nx, h⟩ => .val (0 ≤ n ∧ n ≤ m ∧ m * (E.bytes + 1) ≤ room) (.slice nx [] 0 n.toNat m.toNat) ⟨nx + 1, (nx, some (.mem (.arr m.toNat E.sh) (.arr m.toNat (fun _ => E.zero)) .tight)) :: h⟩
            | _ => .fail
          | _ => .fail
        | none => .fail
      | _ => .fail
    | none => .fail
  | .slice t x lo hi mx => match Γ.ty.get t with
    | some T => match evInt fr lo with
      | some lo' => match evInt fr hi with
        | some hi' => match evInt fr mx with
          | some mx' => match T.kind with
            | .array n e => match ev fr x with
              | some (.ptr b p) => match lo, hi, mx with
                | none, none, none => match Γ.ty.get e with
                  | some E => match σ.get b with
                    | some (.mem sh _ _) => match sh.at p with
                      | some (.arr m es) => match Nat.beq n m && es.beq E.sh with
                        | true => match p.isEmpty with
                          | false => .ok (.slice b p 0 m m) σ
                          | true => .fail
                        | false => .fail
                      | _ => .fail
                    | _ => .fail
                  | none => .fail
                | _, _, _ => .fail
              | _ => .fail
            | .str => match ev fr x with
              | some (.str s) => match mx with
                | none => asliceStr σ s lo' hi'
                | some _ => .fail
              | _ => .fail
            | .slice e => match Γ.ty.get e with
              | some E => match ev fr x with
                | some (.slice b p st len cap) => match σ.get b with
                  | some (.mem sh _ y) => match sh.at p with
                    | some (.arr _ es) => match es.beq E.sh with
                      | true => asliceSl σ y b p st len cap lo' hi' mx'
                      | false => .fail
                    | _ => .fail
                  | _ => .fail
                | _ => .fail
              | none => .fail
            | _ => .fail
          | none => .fail
        | none => .fail
      | none => .fail
    | none => .fail
  | .fieldAddr t x f => match Γ.ty.get t with
    | some T => match ev fr x with
      | some (.ptr b p) => match σ.get b with
        | some (.mem sh _ _) => match sh.at p with
          | some s => match s.beq T.sh with
            | true => match T.kind with
              | .struct _ => match T.sh with
                | .node ss => match nth ss f with
                  | some s' => match Nat.beq s'.size 0 with
                    | false => .ok (.ptr b (p ++ [f])) σ
                    | true => .fail
                  | none => .fail
                | _ => .fail
              | _ => .fail
            | false => .fail
          | none => .fail
        | _ => .fail
      | _ => .fail
    | none => .fail
  | .field t x f => match Γ.ty.get t with
    | some T => match T.kind with
      | .struct fs => match nth fs f with
        | some (_, ft) => match Γ.ty.get ft with
          | some F => match T.sh with
            | .node ss => match nth ss f with
              | some s => match s.beq F.sh with
                | true => match ev fr x with
                  | some (.strct vs) => match AV.fitss vs ss with
                    | true => match nth vs f with
                      | some v => .ok v σ
                      | none => .fail
                    | false => .fail
                  | _ => .fail
                | false => .fail
              | none => .fail
            | _ => .fail
          | none => .fail
        | none => .fail
      | _ => .fail
    | none => .fail
  | .indexAddr t x i => match ev fr i with
    | some (.int _ n) => match Γ.ty.get t with
      | some T => match T.kind with
        | .slice e => match Γ.ty.get e with
          | some E => match ev fr x with
            | some (.slice b p s len _) => match σ.get b with
              | some (.mem sh _ _) => match sh.at p with
                | some (.arr _ es) => match es.beq E.sh with
                  | true => .val (0 ≤ n ∧ n < len) (.ptr b (p ++ [s + n.toNat])) σ
                  | false => .fail
                | _ => .fail
              | _ => .fail
            | _ => .fail
          | none => .fail
        | .array m e => match Γ.ty.get e with
          | some _ => match ev fr x with
            | some (.ptr b p) => match σ.get b with
              | some (.mem sh _ _) => match sh.at p with
                | some s => match s.beq T.sh with
                  | true => .val (0 ≤ n ∧ n < m) (.ptr b (p ++ [n.toNat])) σ
                  | false => .fail
                | none => .fail
              | _ => .fail
            | _ => .fail
          | none => .fail
        | _ => .fail
      | none => .fail
    | _ => .fail
  | .index t x i => match ev fr i with
    | some (.int _ n) => match Γ.ty.get t with
      | some T => match T.kind with
        | .str => match ev fr x with
          | some (.str s) => .val (0 ≤ n ∧ n < s.length) (.int .u8 ((s.getD n.toNat 0).toNat)) σ
          | _ => .fail
        | .array _ e => match Γ.ty.get e with
          | some E => match ev fr x with
            | some (.strct vs) => match T.sh with
              | .node ss => match AV.fitss vs ss with
                | true => match nth vs n.toNat with
                  | some v => match nth ss n.toNat with
                    | some s => match s.beq E.sh with
                      | true => .val (0 ≤ n) v σ
                      | false => .fail
                    | none => .fail
                  | none => .fail
                | false => .fail
              | _ => .fail
            | _ => .fail
          | none => .fail
        | _ => .fail
      | none => .fail
    | _ => .fail
  | .lookup t m k ok => match Γ.ty.get t with
    | some T => match T.kind with
      | .map kt e => match Γ.ty.get e with
        | some E => match Γ.ty.get kt with
          | some K => match ev fr k with
            | some key => match keyKind K.kind with
              | some kk => match key.isKey kk with
                | true => match ev fr m with
                  | some .nilmap => alookup E.zero ok none σ
                  | some (.map r) => match σ.get r with
                    | some (.map kk' es) => match key.isKey kk' with
                      | true => alookup E.zero ok (afind key es) σ
                      | false => .fail
                    | _ => .fail
                  | _ => .fail
                | false => .fail
              | none => .fail
            | none => .fail
          | none => .fail
        | none => .fail
      | _ => .fail
    | none => .fail
  | .mapUpdate t m k x => amapset Γ fr σ t m k x
  | .insert t m k x => amapset Γ fr σ t m k x
  | .extract t i => match ev fr t with
    | some (.tuple vs) => match nth vs i with | some v => .ok v σ | none => .fail
    | _ => .fail
  | .call ⟨.builtin .len, args, tys⟩ => match tys.toList with
    | [t] => match args.toList with
      | [x] => match Γ.ty.get t with
        | some T => match T.kind with
          | .slice _ => match ev fr x with
            | some (.slice _ _ _ n _) => .ok (.int .i64 n) σ
            | some .nilslice => .ok (.int .i64 0) σ
            | _ => .fail
          | .str => match ev fr x with
            | some (.str s) => .ok (.int .i64 s.length) σ
            | _ => .fail
          | _ => .fail
        | none => .fail
      | _ => .fail
    | _ => .fail
  | .call ⟨.builtin .append, args, tys⟩ => match tys.toList with
    | [t, t'] => match args.toList with
      | [s, x] => match Γ.ty.get t' with
        | some T' => match T'.kind with
          | .slice _ => match ev fr s with
            | some s => match ev fr x with
              | some x => aappend Γ σ t s x
              | none => .fail
            | none => .fail
          | _ => .fail
        | none => .fail
      | _ => .fail
    | _ => .fail
  | .call ⟨.builtin .copy, args, tys⟩ => match tys.toList with
    | [t, _] => match args.toList with
      | [d, x] => match Γ.ty.get t with
        | some T => match T.kind with
          | .slice e => match Γ.ty.get e with
            | some E => match ev fr d with
              | some (.slice b p st len _) => match ev fr x with
                | some x => match srcOf σ E.sh x with
                  | some (n, g) => match σ.arr? b p E.sh with
                    | some a => match a.x with
                      | .ro => .fail
                      | y => match σ with | ⟨nx, h⟩ => .ok (.int .i64 (min n len : Nat)) ⟨nx, (b, some (.mem a.sh (a.v.set p (.arr a.n (splice a.f st (min n len) g))) y)) :: h⟩
                    | none => .fail
                  | none => .fail
                | none => .fail
              | _ => .fail
            | none => .fail
          | _ => .fail
        | none => .fail
      | _ => .fail
    | _ => .fail
  | .call ⟨.builtin .min, args, _⟩ => match args.toList with
    | [x, y] => match ev fr x with
      | some (.int k a) => match ev fr y with
        | some (.int _ b) => .ok (.int k (if b < a then b else a)) σ
        | _ => .fail
      | _ => .fail
    | _ => .fail
  | .call ⟨.builtin .max, args, _⟩ => match args.toList with
    | [x, y] => match ev fr x with
      | some (.int k a) => match ev fr y with
        | some (.int _ b) => .ok (.int k (if b > a then b else a)) σ
        | _ => .fail
      | _ => .fail
    | _ => .fail
  | _ => .fail
where
  amapset (Γ : Env) (fr : AFr) (σ : AState) (t : TypeId) (m k x : Operand) : AR :=
    match Γ.ty.get t with
    | some T => match T.kind with
      | .map kt e => match Γ.ty.get kt with
        | some K => match Γ.ty.get e with
          | some E => match ev fr k with
            | some key => match keyKind K.kind with
              | some kk => match key.isKey kk with
                | true => match ev fr x with
                  | some y => match ev fr m with
                    | some (.map r) => match σ.get r with
                      | some (.map kk' es) => match key.isKey kk' with
                        | true => match σ with | ⟨nx, h⟩ => ifFits y E.sh .undef ⟨nx, (r, some (.map kk' (aput key y es))) :: h⟩
                        | false => .fail
                      | _ => .fail
                    | _ => .fail
                  | none => .fail
                | false => .fail
              | none => .fail
            | none => .fail
          | none => .fail
        | none => .fail
      | _ => .fail
    | none => .fail

/-- A call of a Go function: which one, with what? -/
def acallOf (Γ : Env) (fr : AFr) : Op → Option (Option (FuncId × List AV))
  | .call ⟨.value f, args, _⟩ => match ev fr f with
    | some (.fn f first cap) => match evs fr args.toList with
      | some vs => some (some (f, first ++ vs ++ cap))
      | none => some none
    | _ => some none
  | .call ⟨.invoke recv name, args, _⟩ => match ev fr recv with
    | some (.iface t v) => match evs fr args.toList with
      | some vs => match findMeth t name Γ.meth with
        | some f => some (some (f, v :: vs))
        | none => some none
      | none => some none
    | _ => some none
  | _ => none

structure Conf where
  fn : FuncId
  todo : List Item
  fr : AFr
  σ : AState

inductive Step1 where
  | fail
  | next (c : Conf)
  | loop (c : Conf)
  | draw (c : Conf)
  | ret (v : AV) (σ : AState)
  | branch (b : Bool) (c1 c2 : Conf)
  | guard (b : Bool) (s1 s2 : Step1)
  | call (f : FuncId) (args : List AV) (c : Conf)
  | need (p : Prop) (c : Conf)

def dstOf (ops : Array Oper) (i : Nat) : Option Nat := match nth ops.toList i with | some o => o.dst | none => none

def Conf.finish : Conf → AV → AState → Conf
  | ⟨fn, .inRegion ops (i :: rest) :: k, fr, _⟩, v, σ => match dstOf ops i with
    | some d => ⟨fn, .inRegion ops rest :: k, (d, v) :: fr, σ⟩
    | none => ⟨fn, .inRegion ops rest :: k, fr, σ⟩
  | ⟨fn, todo, fr, _⟩, _, σ => ⟨fn, todo, fr, σ⟩

def finNext (fn : FuncId) (ops : Array Oper) (i : Nat) (rest : List Nat) (k : List Item) (fr : AFr) (v : AV) (σ : AState) : Step1 :=
  match dstOf ops i with
  | some d => .next ⟨fn, .inRegion ops rest :: k, (d, v) :: fr, σ⟩
  | none => .next ⟨fn, .inRegion ops rest :: k, fr, σ⟩

def finNeed (p : Prop) (fn : FuncId) (ops : Array Oper) (i : Nat) (rest : List Nat) (k : List Item) (fr : AFr) (v : AV) (σ : AState) : Step1 :=
  match dstOf ops i with
  | some d => .need p ⟨fn, .inRegion ops rest :: k, (d, v) :: fr, σ⟩
  | none => .need p ⟨fn, .inRegion ops rest :: k, fr, σ⟩

def aresult (Γ : Env) (fr : AFr) (σ : AState) : ResultVar → Option AV
  | .tmp t => fget fr t
  | .cell a t => match Γ.ty.get t with
    | some T => match fget fr a with
      | some (.ptr b p) => match σ.get b with
        | some (.mem sh v _) => match sh.at p with
          | some s => match s.beq T.sh with
            | true => v.at p
            | false => none
          | none => none
        | _ => none
      | _ => none
    | none => none

def aresults (Γ : Env) (fr : AFr) (σ : AState) : List ResultVar → Option (List AV)
  | [] => some []
  | x :: r => match aresult Γ fr σ x with
    | none => none
    | some v => match aresults Γ fr σ r with
      | none => none
      | some vs => some (v :: vs)

def packResults : List AV → AV
  | [v] => v
  | vs => .tuple vs

def doRet (Γ : Env) (fn : FuncId) (fr : AFr) (σ : AState) : Step1 :=
  match Γ.fn.get fn with
  | none => .fail
  | some F => match aresults Γ fr σ F.results.toList with
    | some vs => .ret (packResults vs) σ
    | none => .fail

inductive Wanted where
  | lost
  | yes
  | no
  | ask (d : Nat) (b want : Bool)

/-- Is the operation wanted? -/
def awanted (ops : Array Oper) (fr : AFr) (g : Option (Nat × Bool)) : Wanted :=
  match g with
  | none => .yes
  | some (j, want) => match dstOf ops j with
    | none => .lost
    | some d => match fget fr d with
      | some (.bool b) => .ask d b want
      | some _ => .no
      | none => .lost

def aexitTo (id : Nat) : List Item → Option (List Item)
  | .inBlock id' :: k => match Nat.beq id' id with | true => some k | false => aexitTo id k
  | _ :: k => aexitTo id k
  | [] => none

def doOp (Γ : Env) (fn : FuncId) (ops : Array Oper) (i : Nat) (rest : List Nat) (k : List Item) (fr : AFr) (σ : AState) (op : Op) : Step1 :=
  match acallOf Γ fr op with
  | none => match aop Γ fr σ op with
    | .fail => .fail
    | .ok v σ => finNext fn ops i rest k fr v σ
    | .val p v σ => finNeed p fn ops i rest k fr v σ
  | some none => .fail
  | some (some (f, args)) => match Γ.fn.get f with
    | none => .fail
    | some _ => match Γ.spec.get f with
      | some s => match s args σ with
        | some (some p, v, σ) => finNeed p fn ops i rest k fr v σ
        | some (none, v, σ) => finNext fn ops i rest k fr v σ
        | none => .fail
      | none => .call f args ⟨fn, .inRegion ops (i :: rest) :: k, fr, σ⟩

def afterGuard (Γ : Env) (fn : FuncId) (ops : Array Oper) (i : Nat) (rest : List Nat) (k : List Item) (fr : AFr) (σ : AState) (op : Op) : Bool → Step1
  | true => doOp Γ fn ops i rest k fr σ op
  | false => finNext fn ops i rest k fr .undef σ

def astep (Γ : Env) : Conf → Step1
  | ⟨fn, [], fr, σ⟩ => doRet Γ fn fr σ
  | ⟨fn, .code .ret :: _, fr, σ⟩ => doRet Γ fn fr σ
  | ⟨fn, .code .skip :: k, fr, σ⟩ => .next ⟨fn, k, fr, σ⟩
  | ⟨fn, .inBlock _ :: k, fr, σ⟩ => .next ⟨fn, k, fr, σ⟩
  | ⟨fn, .code (.seq a b) :: k, fr, σ⟩ => .next ⟨fn, .code a :: .code b :: k, fr, σ⟩
  | ⟨fn, .code (.cond x t f) :: k, fr, σ⟩ => match ev fr x with
    | some (.bool b) => .branch b ⟨fn, .code t :: k, fr, σ⟩ ⟨fn, .code f :: k, fr, σ⟩
    | _ => .fail
  | ⟨fn, .code (.block id b) :: k, fr, σ⟩ => .next ⟨fn, .code b :: .inBlock id :: k, fr, σ⟩
  | ⟨fn, .code (.loop b) :: k, fr, σ⟩ => .loop ⟨fn, .inLoop b :: k, fr, σ⟩
  | ⟨fn, .inLoop b :: k, fr, σ⟩ => .next ⟨fn, .code b :: .inLoop b :: k, fr, σ⟩
  | ⟨fn, .code (.exit id) :: k, fr, σ⟩ => match aexitTo id k with | some k' => .next ⟨fn, k', fr, σ⟩ | none => .fail
  | ⟨fn, .code (.region _ ops false) :: k, fr, σ⟩ => .next ⟨fn, .inRegion ops (List.range ops.size) :: k, fr, σ⟩
  | ⟨fn, .code (.region id ops true) :: k, fr, σ⟩ => .draw ⟨fn, .code (.region id ops true) :: k, fr, σ⟩
  | ⟨fn, .inRegion _ [] :: k, fr, σ⟩ => .next ⟨fn, k, fr, σ⟩
  | ⟨fn, .inRegion ops (i :: rest) :: k, fr, σ⟩ => match nth ops.toList i with
    | none => .fail
    | some o => match awanted ops fr o.guard with
      | .yes => doOp Γ fn ops i rest k fr σ o.op
      | .no => finNext fn ops i rest k fr .undef σ
      | .ask d b want => .guard b (afterGuard Γ fn ops i rest k ((d, .bool true) :: fr) σ o.op want) (afterGuard Γ fn ops i rest k ((d, .bool false) :: fr) σ o.op (!want))
      | .lost => .fail
  | _ => .fail

inductive Out where
  | fail
  | more (c : Conf)
  | loop (c : Conf)
  | draw (c : Conf)
  | ret (v : AV) (σ : AState)
  | branch (b : Bool) (o1 o2 : Out)
  | call (f : FuncId) (args : List AV) (c : Conf)
  | need (p : Prop) (o : Out)

def outOf (run : Conf → Out) : Step1 → Out
  | .fail => .fail
  | .next c => run c
  | .loop c => .loop c
  | .draw c => .draw c
  | .ret v σ => .ret v σ
  | .branch b c1 c2 => .branch b (run c1) (run c2)
  | .guard b s1 s2 => .branch b (outOf run s1) (outOf run s2)
  | .call f args c => .call f args c
  | .need p c => .need p (run c)

def arun (Γ : Env) : Nat → Conf → Out
  | 0, c => .more c
  | n + 1, c => outOf (arun Γ n) (astep Γ c)

def enterFr : Nat → List AV → AFr
  | _, [] => []
  | i, v :: r => (i, v) :: enterFr (i + 1) r

/-- The configuration in which a function begins. -/
def start (F : Func) (f : FuncId) (args : List AV) (σ : AState) : Conf :=
  match F.body with
  | some b => ⟨f, [.code b], enterFr 0 args, σ⟩
  | none => ⟨f, [], [], σ⟩

end Go.Ab
