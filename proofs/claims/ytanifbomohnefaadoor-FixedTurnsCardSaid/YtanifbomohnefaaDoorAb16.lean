/- The abstract machine: the start of a function; regions whose order is drawn: definitions. Conditions: none. -/
import Derived.Test.YtanifbomohnefaaDoorAb15
import Derived.Orders
namespace Go.Ab
open Go

variable {P : Program} {Γ : Env} {φ φ' : Phi} {A A' : Nat → Prop} {σ σ' : AState} {w w' : World} {R : AV → AState → Prop}

def bodyIn (F : Func) : Bool := match F.body with | some b => codeIn F.ntmps b | none => false

structure EOk (P : Program) (Γ : Env) : Prop where
  g : GOk P Γ
  s : SpecOk P Γ
  b : ∀ f F, Γ.fn.get f = some F → bodyIn F = true

theorem enterFr_get : (i : Nat) → (vs : List AV) → (t : Nat) → (v : AV) → fget (enterFr i vs) t = some v → i ≤ t ∧ vs[t - i]? = some v
  | i, [], t, v, h => by simp [enterFr, fget] at h
  | i, x :: r, t, v, h => by
    simp only [enterFr, fget] at h
    split at h
    · rename_i hb
      have := Nat.eq_of_beq_eq_true hb
      subst this
      simp at h
      subst h
      simp
    · obtain ⟨h1, h2⟩ := enterFr_get (i + 1) r t v h
      refine ⟨by omega, ?_⟩
      rw [show t - i = (t - (i + 1)) + 1 by omega]
      simpa using h2

theorem FrOk.enter {args : List AV} (hg : GlobOk φ A) (h : AV.oks φ A args) (more : Array Value) : FrOk φ A (enterFr 0 args) ((args.map (·.conc φ)).toArray ++ more) := by
  refine ⟨fun t v ht => ?_, hg⟩
  obtain ⟨_, h2⟩ := enterFr_get 0 args t v ht
  simp only [Nat.sub_zero] at h2
  have hlt := (List.getElem?_eq_some_iff.1 h2).1
  refine ⟨(oks_mem _).1 h v (List.mem_of_getElem? h2), ?_⟩
  rw [Array.getElem?_append_left (by simpa using hlt)]
  simp [h2]

/-- A call, from the run of the function. -/
theorem ACalls.of_aw (hE : EOk P Γ) {f : FuncId} {F : Func} (hF : Γ.fn.get f = some F) {args : List AV} (hl : args.length ≤ F.ntmps) (h : AW P (start F f args σ) R) : ACalls P f args σ R := by
  intro φ A w hs ho cs
  have hb := hE.b f F hF
  unfold bodyIn at hb
  split at hb
  · rename_i body hbody
    have hPf := (hE.g.fn f F hF).1
    simp only [start, hbody] at h
    have henter : Frame.enter P f (args.map (·.conc φ)).toArray .normal =
        ({ fn := f, tmps := #[], todo := [], defers := [], mode := .run, kind := .normal } : Frame).at ⟨(args.map (·.conc φ)).toArray ++ Array.replicate (F.ntmps - args.length) Go.undef, []⟩ [.code body] := by
      simp [Frame.enter, Frame.at, hPf, hbody]
    obtain ⟨v, σ', φ', A', w', fr, h1, h2, h3, h4, h5, h6, h7⟩ := h φ A w ((args.map (·.conc φ)).toArray ++ Array.replicate (F.ntmps - args.length) Go.undef)
      { fn := f, tmps := #[], todo := [], defers := [], mode := .run, kind := .normal } cs rfl rfl
      (by simp only [itemsIn, itemIn, Bool.and_true]; simp; rw [show args.length + (F.ntmps - args.length) = F.ntmps by omega]; exact hb) hs (FrOk.enter hs.glob ho _)
    exact ⟨.returned (v.conc φ'), w', fr, ⟨v, σ', φ', A', h1, rfl, h2, h3, h4⟩, by rw [henter]; exact h5, h6, h7⟩
  · cases hb

theorem ACalls.of_run (hE : EOk P Γ) (n : Nat) {f : FuncId} {F : Func} (hF : Γ.fn.get f = some F) {args : List AV} (hl : Nat.ble args.length F.ntmps = true)
    (h : Left P R (arun Γ n (start F f args σ))) : ACalls P f args σ R :=
  .of_aw hE hF (Nat.le_of_ble_eq_true hl) (arun_sound hE.g hE.s n _ h)

/-- How an operation of such a region is met: no part of memory is read; memory is read; memory is made; else. -/
inductive Cls where
  | free | read | new | act

structure Plan where
  ord : List (Nat × Cls)
  bef : List (List Nat)

inductive PK where
  | skip | free | read
  | new (n : Nat) (o : AObj)

/-- An operation that may be done or not. -/
structure PE where
  i : Nat
  fr : AFr
  v : AV
  k : PK

def befOf (pl : List (List Nat)) (i : Nat) : List Nat := match nth pl i with | some l => l | none => []

def restrictFr (fr : AFr) : List Nat → AFr
  | [] => []
  | t :: r => match fget fr t with
    | some v => (t, v) :: restrictFr fr r
    | none => restrictFr fr r

def putFr (d : Option Nat) (v : AV) (fr : AFr) : AFr := match d with | some d => (d, v) :: fr | none => fr

def tmpsOf : List Operand → List Nat
  | [] => []
  | .tmp t :: r => t :: tmpsOf r
  | _ :: r => tmpsOf r

def looks (ops : Array Oper) (o : Oper) : List Nat :=
  match o.guard with
  | some (j, _) => match dstOf ops j with
    | some d => d :: tmpsOf o.op.operands.toList
    | none => tmpsOf o.op.operands.toList
  | none => tmpsOf o.op.operands.toList

/-- Blocks of the operations of the list that are before. -/
def visOf (l : List Nat) : List PE → List (Nat × Option AObj)
  | [] => []
  | e :: r => match e.k with
    | .new n o => match memB e.i l with
      | true => (n, some o) :: visOf l r
      | false => visOf l r
    | _ => visOf l r

def allBlks : List PE → List (Nat × Option AObj)
  | [] => []
  | e :: r => match e.k with
    | .new n o => (n, some o) :: allBlks r
    | _ => allBlks r

def dropBef (l : List Nat) : List PE → List PE
  | [] => []
  | e :: r => match memB e.i l with
    | true => dropBef l r
    | false => e :: dropBef l r

mutual
/-- Does the value mention blocks below n alone? -/
def AV.under (n : Nat) : AV → Bool
  | .ptr b _ => Nat.ble (b + 1) n
  | .slice b _ _ _ _ => Nat.ble (b + 1) n
  | .map r => Nat.ble (r + 1) n
  | .fn _ a c => AV.unders n a && AV.unders n c
  | .iface _ v => v.under n
  | .strct vs => AV.unders n vs
  | .arr _ _ => false
  | .tuple vs => AV.unders n vs
  | _ => true
def AV.unders (n : Nat) : List AV → Bool
  | [] => true
  | v :: r => v.under n && AV.unders n r
end

def belowFr (n : Nat) : AFr → Bool
  | [] => true
  | (_, v) :: r => v.under n && belowFr n r

def withBlks (l : List (Nat × Option AObj)) : AState → AState
  | ⟨nx, h⟩ => ⟨nx, l ++ h⟩

def rdSt (l : List (Nat × Option AObj)) : AState → AState
  | ⟨_, h⟩ => ⟨0, l ++ h⟩

def readOk (v : AV) : AR → Prop
  | .ok v' _ => v' = v
  | .val p v' _ => p ∧ v' = v
  | .fail => False

def recheck (Γ : Env) (ops : Array Oper) (bef : List (List Nat)) (all : List PE) (σ : AState) : List PE → Prop
  | [] => True
  | e :: r => match e.k with
    | .read => match nth ops.toList e.i with
      | some o => readOk e.v (aop Γ e.fr (rdSt (visOf (befOf bef e.i) all) σ) o.op) ∧ recheck Γ ops bef all σ r
      | none => False
    | .new n _ => σ.get n = none ∧ recheck Γ ops bef all σ r
    | _ => recheck Γ ops bef all σ r

/-- What an operation that acts leads to. -/
def actDo (P : Program) (Γ : Env) (fr : AFr) (σ : AState) (op : Op) (X : AV → AState → Prop) : Prop :=
  match acallOf Γ fr op with
  | none => match aop Γ fr σ op with
    | .fail => False
    | .ok v σ => X v σ
    | .val p v σ => p ∧ X v σ
  | some none => False
  | some (some (f, args)) => match Γ.fn.get f with
    | none => False
    | some _ => match Γ.spec.get f with
      | some s => match s args σ with
        | some (some p, v, σ) => p ∧ X v σ
        | some (none, v, σ) => X v σ
        | none => False
      | none => ACalls P f args σ X

def freeOp : Op → Bool
  | .move _ | .assign _ | .pick .. | .binOp .. | .unOp .. | .convert .. | .extract .. | .makeFunc (.func _) _ _ | .makeInterface .. | .build .. | .field .. | .nilCheck .. => true
  | .call ⟨.builtin .len, _, _⟩ | .call ⟨.builtin .min, _, _⟩ | .call ⟨.builtin .max, _, _⟩ => true
  | .index .. => true
  | _ => false

def readOp : Op → Bool
  | .load .. | .indexAddr .. | .fieldAddr .. | .lookup .. | .slice .. => true
  | _ => false

section
variable (P : Program) (Γ : Env) (ops : Array Oper) (bef : List (List Nat)) (K : AFr → AState → Prop)

def drOp (X : AFr → AState → List PE → Prop) (i : Nat) (c : Cls) (o : Oper) (fr : AFr) (σ : AState) (pend : List PE) : Prop :=
  match c with
  | .free => match aop Γ (restrictFr fr (looks ops o)) ⟨0, []⟩ o.op with
    | .fail => False
    | .ok v _ => X (putFr o.dst v fr) σ (⟨i, restrictFr fr (looks ops o), v, .free⟩ :: pend)
    | .val p v _ => p ∧ X (putFr o.dst v fr) σ (⟨i, restrictFr fr (looks ops o), v, .free⟩ :: pend)
  | .read => match aop Γ (restrictFr fr (looks ops o)) (rdSt (visOf (befOf bef i) pend) σ) o.op with
    | .fail => False
    | .ok v _ => X (putFr o.dst v fr) σ (⟨i, restrictFr fr (looks ops o), v, .read⟩ :: pend)
    | .val p v _ => p ∧ X (putFr o.dst v fr) σ (⟨i, restrictFr fr (looks ops o), v, .read⟩ :: pend)
  | .new => match σ with
    | ⟨n, h⟩ => match aop Γ (restrictFr fr (looks ops o)) ⟨n, []⟩ o.op with
      | .ok v ⟨m, [(n', some ob)]⟩ => (belowFr n (restrictFr fr (looks ops o)) = true ∧ m = n + 1 ∧ n' = n ∧ hget h n = none) ∧
          X (putFr o.dst v fr) ⟨n + 1, h⟩ (⟨i, restrictFr fr (looks ops o), v, .new n ob⟩ :: pend)
      | .val p v ⟨m, [(n', some ob)]⟩ => (p ∧ belowFr n (restrictFr fr (looks ops o)) = true ∧ m = n + 1 ∧ n' = n ∧ hget h n = none) ∧
          X (putFr o.dst v fr) ⟨n + 1, h⟩ (⟨i, restrictFr fr (looks ops o), v, .new n ob⟩ :: pend)
      | _ => False
  | .act => actDo P Γ (restrictFr fr (looks ops o)) (withBlks (visOf (befOf bef i) pend) σ) o.op fun v σ' =>
      recheck Γ ops bef (dropBef (befOf bef i) pend) σ' (dropBef (befOf bef i) pend) ∧ X (putFr o.dst v fr) σ' (dropBef (befOf bef i) pend)

def drSkip (X : AFr → AState → List PE → Prop) (i : Nat) (c : Cls) (o : Oper) (fr : AFr) (σ : AState) (pend : List PE) : Prop :=
  match c with
  | .act => recheck Γ ops bef (dropBef (befOf bef i) pend) (withBlks (visOf (befOf bef i) pend) σ) (dropBef (befOf bef i) pend) ∧
      X (putFr o.dst .undef fr) (withBlks (visOf (befOf bef i) pend) σ) (dropBef (befOf bef i) pend)
  | _ => X (putFr o.dst .undef fr) σ (⟨i, restrictFr fr (looks ops o), .undef, .skip⟩ :: pend)

def drWant (X : AFr → AState → List PE → Prop) (i : Nat) (c : Cls) (o : Oper) (fr : AFr) (σ : AState) (pend : List PE) : Bool → Prop
  | true => drOp P Γ ops bef X i c o fr σ pend
  | false => drSkip Γ ops bef X i c o fr σ pend

/-- The region, in the plan's order. -/
def DR : List (Nat × Cls) → AFr → AState → List PE → Prop
  | [], fr, σ, pend => K fr (withBlks (allBlks pend) σ)
  | (i, c) :: rest, fr, σ, pend => match nth ops.toList i with
    | none => False
    | some o => match awanted ops fr o.guard with
      | .lost => False
      | .no => drSkip Γ ops bef (DR rest) i c o fr σ pend
      | .yes => drOp P Γ ops bef (DR rest) i c o fr σ pend
      | .ask d b want => @Bool.rec (fun _ => Prop)
          (drWant P Γ ops bef (DR rest) i c o ((d, .bool false) :: fr) σ pend (!want))
          (drWant P Γ ops bef (DR rest) i c o ((d, .bool true) :: fr) σ pend want) b
end

def Cls.isAct : Cls → Bool
  | .act => true
  | _ => false

def dstIn (o : Oper) (l : List Nat) : Bool := match o.dst with | some d => memB d l | none => false
def sameDst (a b : Oper) : Bool := match a.dst with | some d => (match b.dst with | some e => Nat.beq d e | none => false) | none => false

/-- x before y in the plan. -/
def pairOk (ops : Array Oper) (bef : List (List Nat)) (x y : Nat × Cls) : Bool :=
  match nth ops.toList x.1 with
  | some a => match nth ops.toList y.1 with
    | some b => !Nat.beq x.1 y.1 && !memB y.1 (befOf bef x.1) && !sameDst a b &&
        (!dstIn b (looks ops a) || (y.2.isAct && memB x.1 (befOf bef y.1))) && (!dstIn a (looks ops b) || memB x.1 (befOf bef y.1))
    | none => false
  | none => false

def clsOk (ops : Array Oper) (x : Nat × Cls) : Bool :=
  match nth ops.toList x.1 with
  | some o => (match o.op with | .select .. => false | _ => true) && match x.2 with
    | .free => freeOp o.op && !dstIn o (looks ops o)
    | .read => readOp o.op && !dstIn o (looks ops o)
    | .new => !dstIn o (looks ops o)
    | .act => true
  | none => false

def indices : List (Nat × Cls) → List Nat
  | [] => []
  | x :: r => x.1 :: indices r

/-- Behind an operation that acts: nothing that could be done before it. -/
def headOk (ops : Array Oper) (i : Nat) (rest : List (Nat × Cls)) : Bool :=
  rest.all fun y => match nth ops.toList y.1 with
    | some o => o.after.toList.any fun e => Region.binds .any e && memB e.on (i :: indices rest)
    | none => false

def ordOk (ops : Array Oper) (bef : List (List Nat)) : List (Nat × Cls) → Bool
  | [] => true
  | x :: rest => clsOk ops x && rest.all (pairOk ops bef x) && (!x.2.isAct || headOk ops x.1 rest) && ordOk ops bef rest

def befOk (ops : Array Oper) (bef : List (List Nat)) : Nat → Bool
  | 0 => true
  | n + 1 => befOk ops bef n && match nth ops.toList n with
    | some o => o.after.toList.all (fun e => !Region.binds .any e || Nat.ble (e.on + 1) n) &&
        (befOf bef n).all fun j => o.after.toList.any fun e => Region.binds .any e && (Nat.beq e.on j || memB j (befOf bef e.on))
    | none => false

/-- The plan fits the region. -/
def Plan.ok (pl : Plan) (ops : Array Oper) : Bool :=
  ordOk ops pl.bef pl.ord && befOk ops pl.bef ops.size && (List.range ops.size).all (fun i => memB i (indices pl.ord)) && Nat.beq pl.ord.length ops.size

end Go.Ab
