/- The abstract machine: regions whose order is drawn: what holds on the way, and how the plan goes on without a step of the model. Conditions: none. -/
import Derived.Test.YtanifbomohnefaaDoorAb16
namespace Go.Ab
open Go

variable {P : Program} {Γ : Env} {φ φ' : Phi} {A A' : Nat → Prop} {σ σ' : AState} {w w' : World} {R : AV → AState → Prop}

theorem memB_iff {t : Nat} : {l : List Nat} → (memB t l = true ↔ t ∈ l)
  | [] => by simp [memB]
  | x :: r => by
    simp only [memB, Bool.or_eq_true, List.mem_cons, memB_iff (l := r)]
    constructor
    · rintro (h | h)
      · exact .inl (Nat.eq_of_beq_eq_true h)
      · exact .inr h
    · rintro (h | h)
      · subst h; exact .inl (Nat.beq_refl t)
      · exact .inr h

def blksBy (sel : PE → Bool) : List PE → List (Nat × Option AObj)
  | [] => []
  | e :: r => match e.k with
    | .new n o => match sel e with
      | true => (n, some o) :: blksBy sel r
      | false => blksBy sel r
    | _ => blksBy sel r

theorem visOf_by (l : List Nat) : (pend : List PE) → visOf l pend = blksBy (fun e => memB e.i l) pend
  | [] => rfl
  | e :: r => by
    simp only [visOf, blksBy, visOf_by l r]
    cases e.k <;> rfl

theorem allBlks_by : (pend : List PE) → allBlks pend = blksBy (fun _ => true) pend
  | [] => rfl
  | e :: r => by
    simp only [allBlks, blksBy, allBlks_by r]
    cases e.k <;> rfl

def NewDist (pend : List PE) : Prop := ∀ e ∈ pend, ∀ e2 ∈ pend, ∀ n o o2, e.k = .new n o → e2.k = .new n o2 → e = e2

theorem blks_get {sel : PE → Bool} {h : List (Nat × Option AObj)} : (pend : List PE) → (∀ e ∈ pend, ∀ n o, e.k = .new n o → hget h n = none) → NewDist pend →
    ∀ b o, hget (blksBy sel pend ++ h) b = some o ↔ (∃ e ∈ pend, sel e = true ∧ e.k = .new b o) ∨ hget h b = some o
  | [], _, _, b, o => by simp [blksBy]
  | e :: r, hn, hd, b, o => by
    have ih := blks_get (sel := sel) (h := h) r (fun e he => hn e (List.mem_cons_of_mem _ he)) (fun e he e2 he2 => hd e (List.mem_cons_of_mem _ he) e2 (List.mem_cons_of_mem _ he2)) b o
    have hme := List.mem_cons_self (a := e) (l := r)
    simp only [blksBy]
    cases hk : e.k with
    | new n o' =>
      simp only [hk]
      cases hs : sel e with
      | true =>
        simp only [List.cons_append]
        by_cases hb : n = b
        · subst hb
          rw [hget_cons_same]
          constructor
          · intro h; injection h with h; subst h; exact .inl ⟨e, hme, hs, hk⟩
          · rintro (⟨e2, h1, h2, h3⟩ | h1)
            · have := hd e hme e2 h1 n o' o hk h3
              subst this
              rw [hk] at h3; injection h3 with _ h3; rw [h3]
            · rw [hn e hme n o' hk] at h1; cases h1
        · rw [hget_cons_ne hb, ih]
          constructor
          · rintro (⟨e2, h1, h2⟩ | h1)
            · exact .inl ⟨e2, List.mem_cons_of_mem _ h1, h2⟩
            · exact .inr h1
          · rintro (⟨e2, h1, h2, h3⟩ | h1)
            · rcases List.mem_cons.1 h1 with rfl | h1
              · rw [hk] at h3; injection h3 with h3; exact absurd h3 hb
              · exact .inl ⟨e2, h1, h2, h3⟩
            · exact .inr h1
      | false =>
        simp only []
        rw [ih]
        constructor
        · rintro (⟨e2, h1, h2⟩ | h1)
          · exact .inl ⟨e2, List.mem_cons_of_mem _ h1, h2⟩
          · exact .inr h1
        · rintro (⟨e2, h1, h2, h3⟩ | h1)
          · rcases List.mem_cons.1 h1 with rfl | h1
            · rw [hs] at h2; cases h2
            · exact .inl ⟨e2, h1, h2, h3⟩
          · exact .inr h1
    | _ =>
      simp only [hk]
      rw [ih]
      constructor
      · rintro (⟨e2, h1, h2⟩ | h1)
        · exact .inl ⟨e2, List.mem_cons_of_mem _ h1, h2⟩
        · exact .inr h1
      · rintro (⟨e2, h1, h2, h3⟩ | h1)
        · rcases List.mem_cons.1 h1 with rfl | h1
          · rw [hk] at h3; cases h3
          · exact .inl ⟨e2, h1, h2, h3⟩
        · exact .inr h1

theorem withBlks_get (l : List (Nat × Option AObj)) (σ : AState) (b : Nat) : (withBlks l σ).get b = hget (l ++ σ.hp) b := rfl
theorem withBlks_next (l : List (Nat × Option AObj)) (σ : AState) : (withBlks l σ).next = σ.next := rfl

/-- The memory that the model has. -/
def actual (U : List Nat) (pend : List PE) (σ : AState) : AState := withBlks (blksBy (fun e => !memB e.i U) pend) σ

def wantFact (ops : Array Oper) (o : Oper) (fr : AFr) (b : Bool) : Prop := ∀ φ A tmps, FrOk φ A fr tmps → Region.wanted o (yielded ops tmps) = b

def kindOk (Γ : Env) (ops : Array Oper) (bef : List (List Nat)) (σ : AState) (pend : List PE) (e : PE) (o : Oper) : Prop :=
  match e.k with
  | .skip => e.v = .undef ∧ wantFact ops o e.fr false
  | .free => wantFact ops o e.fr true ∧ ∀ τ, (aop Γ e.fr τ o.op).gives e.v τ
  | .read => wantFact ops o e.fr true ∧ readOp o.op = true ∧ readOk e.v (aop Γ e.fr (rdSt (visOf (befOf bef e.i) pend) σ) o.op)
  | .new n ob => wantFact ops o e.fr true ∧ belowFr n e.fr = true ∧ (aop Γ e.fr ⟨n, []⟩ o.op).gives e.v ⟨n + 1, [(n, some ob)]⟩

/-- What holds on the way through such a region. -/
structure Inv (Γ : Env) (ops : Array Oper) (bef : List (List Nat)) (φ0 : Phi) (A0 : Nat → Prop) (σ0 : AState) (w0 : World) (N : Nat)
    (l : List (Nat × Cls)) (fr : AFr) (σ : AState) (pend : List PE) (U : List Nat) (φ : Phi) (A : Nat → Prop) (w : World) (tmps : Array Value) (listed : Array Bool) : Prop where
  ord : ordOk ops bef l = true
  sl : listed.size = ops.size
  st : tmps.size = N
  set : ∀ i, i < ops.size → (listed.getD i false = true ↔ ¬ i ∈ indices l ∧ ¬ i ∈ U)
  ul : ∀ i ∈ U, ¬ i ∈ indices l
  und : U.Nodup
  up : ∀ i ∈ U, ∃ e ∈ pend, e.i = i
  uniq : ∀ e ∈ pend, ∀ e2 ∈ pend, e.i = e2.i → e = e2
  nd : NewDist pend
  pl : ∀ e ∈ pend, ∃ c : Cls, c.isAct = false ∧ ∀ y ∈ l, pairOk ops bef (e.i, c) y = true
  sim : Sim φ A (actual U pend σ) w
  evo : Evo φ0 A0 σ0 w0 φ A (actual U pend σ) w
  fro : ∀ t v, fget fr t = some v → (∃ i ∈ U, dstOf ops i = some t) ∨ (v.ok φ A ∧ tmps[t]? = some (v.conc φ))
  dst : ∀ e ∈ pend, ∀ d, dstOf ops e.i = some d → fget fr d = some e.v
  op : ∀ e ∈ pend, ∃ o, ops[e.i]? = some o ∧ (∀ t v, fget e.fr t = some v → t ∈ looks ops o) ∧ (e.i ∈ U → kindOk Γ ops bef σ pend e o) ∧ dstIn o (looks ops o) = false
  cons : ∀ e ∈ pend, ∀ e2 ∈ pend, ∀ d v, dstOf ops e2.i = some d → fget e.fr d = some v → v = e2.v
  new : ∀ e ∈ pend, ∀ n ob, e.k = .new n ob → n < σ.next ∧ σ0.next ≤ n ∧ σ.get n = none ∧ (e.i ∈ U → ¬ A n)
  efr : ∀ e ∈ pend, e.i ∈ U → ∀ t v, fget e.fr t = some v → (∃ j ∈ U, dstOf ops j = some t ∧ j ∈ befOf bef e.i) ∨ (v.ok φ A ∧ tmps[t]? = some (v.conc φ))

theorem fget_cons {d t : Nat} {v : AV} {fr : AFr} : fget ((d, v) :: fr) t = if d = t then some v else fget fr t := by
  simp only [fget]
  by_cases h : d = t
  · subst h; simp
  · have : Nat.beq d t = false := by
      cases hb : Nat.beq d t
      · rfl
      · exact absurd (Nat.eq_of_beq_eq_true hb) h
    simp [this, h]

theorem restrict_get {fr : AFr} : (l : List Nat) → (t : Nat) → (v : AV) → fget (restrictFr fr l) t = some v → t ∈ l ∧ fget fr t = some v
  | [], t, v, h => by simp [restrictFr, fget] at h
  | x :: r, t, v, h => by
    simp only [restrictFr] at h
    cases hx : fget fr x with
    | none =>
      simp only [hx] at h
      obtain ⟨h1, h2⟩ := restrict_get r t v h
      exact ⟨List.mem_cons_of_mem _ h1, h2⟩
    | some y =>
      simp only [hx, fget_cons] at h
      split at h
      · rename_i hxt
        subst hxt
        injection h with h
        subst h
        exact ⟨List.mem_cons_self, hx⟩
      · obtain ⟨h1, h2⟩ := restrict_get r t v h
        exact ⟨List.mem_cons_of_mem _ h1, h2⟩

theorem restrict_has {fr : AFr} {t : Nat} {v : AV} (h : fget fr t = some v) : (l : List Nat) → t ∈ l → fget (restrictFr fr l) t = some v
  | [], hm => by simp at hm
  | x :: r, hm => by
    simp only [restrictFr]
    by_cases hxt : x = t
    · subst hxt
      simp [h, fget_cons]
    · have hm' : t ∈ r := by
        rcases List.mem_cons.1 hm with h' | h'
        · exact absurd h'.symm hxt
        · exact h'
      cases hx : fget fr x with
      | none => exact restrict_has h r hm'
      | some y => simp only [fget_cons, hxt, if_false]; exact restrict_has h r hm'

theorem putFr_get {d : Option Nat} {v : AV} {fr : AFr} {t : Nat} : fget (putFr d v fr) t = if d = some t then some v else fget fr t := by
  cases d with
  | none => simp [putFr]
  | some d => simp only [putFr, fget_cons, Option.some.injEq]

section push
variable {ops : Array Oper} {bef : List (List Nat)} {φ0 : Phi} {A0 : Nat → Prop} {σ0 : AState} {w0 : World} {N : Nat} {l : List (Nat × Cls)} {fr : AFr} {pend : List PE} {U : List Nat} {tmps : Array Value} {listed : Array Bool}

theorem Inv.congr {fr' : AFr} (h : ∀ t, fget fr' t = fget fr t) (hI : Inv Γ ops bef φ0 A0 σ0 w0 N l fr σ pend U φ A w tmps listed) : Inv Γ ops bef φ0 A0 σ0 w0 N l fr' σ pend U φ A w tmps listed :=
  { hI with fro := fun t v ht => hI.fro t v (by rw [← h]; exact ht), dst := fun e he d hd => by rw [h]; exact hI.dst e he d hd }

theorem indices_cons {x : Nat × Cls} {l : List (Nat × Cls)} : indices (x :: l) = x.1 :: indices l := rfl

theorem mem_indices {i : Nat} : {l : List (Nat × Cls)} → (i ∈ indices l ↔ ∃ y ∈ l, y.1 = i)
  | [] => by simp [indices]
  | x :: r => by
    rw [indices_cons, List.mem_cons, mem_indices (l := r)]
    constructor
    · rintro (h | ⟨y, h1, h2⟩)
      · exact ⟨x, List.mem_cons_self, h.symm⟩
      · exact ⟨y, List.mem_cons_of_mem _ h1, h2⟩
    · rintro ⟨y, h1, h2⟩
      rcases List.mem_cons.1 h1 with rfl | h1
      · exact .inl h2.symm
      · exact .inr ⟨y, h1, h2⟩

structure Pair (ops : Array Oper) (bef : List (List Nat)) (x y : Nat × Cls) : Prop where
  ne : x.1 ≠ y.1
  nb : ¬ y.1 ∈ befOf bef x.1
  dd : ∀ d, dstOf ops x.1 = some d → dstOf ops y.1 ≠ some d
  war : ∀ d o, ops[x.1]? = some o → dstOf ops y.1 = some d → d ∈ looks ops o → y.2.isAct = true ∧ x.1 ∈ befOf bef y.1
  raw : ∀ d o, ops[y.1]? = some o → dstOf ops x.1 = some d → d ∈ looks ops o → x.1 ∈ befOf bef y.1

theorem pair_of {x y : Nat × Cls} (h : pairOk ops bef x y = true) : Pair ops bef x y := by
  unfold pairOk at h
  simp only [nth_arr] at h
  cases ha : ops[x.1]? with
  | none => simp [ha] at h
  | some a =>
    cases hb : ops[y.1]? with
    | none => simp [ha, hb] at h
    | some b =>
      simp only [ha, hb, Bool.and_eq_true, Bool.or_eq_true, Bool.not_eq_true'] at h
      obtain ⟨⟨⟨⟨h1, h2⟩, h3⟩, h4⟩, h5⟩ := h
      have hx : dstOf ops x.1 = a.dst := by rw [dstOf_eq, ha]; rfl
      have hy : dstOf ops y.1 = b.dst := by rw [dstOf_eq, hb]; rfl
      refine ⟨fun e => ?_, fun hm => ?_, fun d h6 h7 => ?_, fun d o h6 h7 h8 => ?_, fun d o h6 h7 h8 => ?_⟩
      · rw [e, Nat.beq_refl] at h1; cases h1
      · rw [memB_iff.2 hm] at h2; cases h2
      · rw [hx] at h6; rw [hy] at h7
        simp [sameDst, h6, h7] at h3
      · rw [ha] at h6; injection h6 with h6; subst h6
        rw [hy] at h7
        have hdi : dstIn b (looks ops a) = true := by simp [dstIn, h7, memB_iff.2 h8]
        rcases h4 with h4 | h4
        · rw [hdi] at h4; cases h4
        · exact ⟨h4.1, memB_iff.1 h4.2⟩
      · rw [hb] at h6; injection h6 with h6; subst h6
        rw [hx] at h7
        have hdi : dstIn a (looks ops b) = true := by simp [dstIn, h7, memB_iff.2 h8]
        rcases h5 with h5 | h5
        · rw [hdi] at h5; cases h5
        · exact memB_iff.1 h5

theorem ordOk_cons {x : Nat × Cls} {l : List (Nat × Cls)} (h : ordOk ops bef (x :: l) = true) :
    clsOk ops x = true ∧ (∀ y ∈ l, pairOk ops bef x y = true) ∧ (x.2.isAct = true → headOk ops x.1 l = true) ∧ ordOk ops bef l = true := by
  simp only [ordOk, Bool.and_eq_true, Bool.or_eq_true, Bool.not_eq_true', List.all_eq_true] at h
  exact ⟨h.1.1.1, h.1.1.2, fun ha => h.1.2.resolve_left (by simp [ha]), h.2⟩

/-- An operation of the plan that does not act is set aside. -/
theorem Inv.push {i : Nat} {c : Cls} {o : Oper} {v : AV} {k : PK} {σ2 : AState} (hI : Inv Γ ops bef φ0 A0 σ0 w0 N ((i, c) :: l) fr σ pend U φ A w tmps listed) (ho : ops[i]? = some o) (hc : c.isAct = false)
    (hdl : dstIn o (looks ops o) = false)
    (hσ : (σ2 = σ ∧ ∀ n ob, k ≠ .new n ob) ∨ (∃ ob, k = .new σ.next ob ∧ σ2 = ⟨σ.next + 1, σ.hp⟩ ∧ σ.get σ.next = none))
    (hk : kindOk Γ ops bef σ2 (⟨i, restrictFr fr (looks ops o), v, k⟩ :: pend) ⟨i, restrictFr fr (looks ops o), v, k⟩ o) :
    Inv Γ ops bef φ0 A0 σ0 w0 N l (putFr o.dst v fr) σ2 (⟨i, restrictFr fr (looks ops o), v, k⟩ :: pend) (i :: U) φ A w tmps listed := by
  obtain ⟨_, hpair, _, hord⟩ := ordOk_cons hI.ord
  have hdo : dstOf ops i = o.dst := by rw [dstOf_eq, ho]; rfl
  have hpi : ∀ e ∈ pend, Pair ops bef (e.i, .free) (i, c) ∨ True := fun _ _ => .inr trivial
  have hpe : ∀ e ∈ pend, ∃ ce : Cls, ce.isAct = false ∧ Pair ops bef (e.i, ce) (i, c) := fun e he => by
    obtain ⟨ce, h1, h2⟩ := hI.pl e he
    exact ⟨ce, h1, pair_of (h2 _ List.mem_cons_self)⟩
  have hei : ∀ e ∈ pend, e.i ≠ i := fun e he => by obtain ⟨ce, _, h⟩ := hpe e he; exact h.ne
  have hiU : ¬ i ∈ U := fun h => hI.ul i h (by rw [indices_cons]; exact List.mem_cons_self)
  have hhp : σ2.hp = σ.hp := by rcases hσ with ⟨rfl, _⟩ | ⟨ob, _, rfl, _⟩ <;> rfl
  have hget : ∀ b, σ2.get b = σ.get b := fun b => by show hget σ2.hp b = hget σ.hp b; rw [hhp]
  have hnx : σ.next ≤ σ2.next := by rcases hσ with ⟨rfl, _⟩ | ⟨ob, _, rfl, _⟩ <;> simp
  have hact : blksBy (fun e => !memB e.i (i :: U)) (⟨i, restrictFr fr (looks ops o), v, k⟩ :: pend) ++ σ2.hp = blksBy (fun e => !memB e.i U) pend ++ σ.hp := by
    have h1 : ∀ l : List PE, (∀ e ∈ l, e.i ≠ i) → blksBy (fun e => !memB e.i (i :: U)) l = blksBy (fun e => !memB e.i U) l := by
      intro l
      induction l with
      | nil => intro _; rfl
      | cons e r ih =>
        intro h
        have he : memB e.i (i :: U) = memB e.i U := by
          have hne := h e List.mem_cons_self
          have : Nat.beq e.i i = false := by
            cases hb : Nat.beq e.i i
            · rfl
            · exact absurd (Nat.eq_of_beq_eq_true hb) hne
          simp [memB, this]
        simp only [blksBy, he, ih (fun e he => h e (List.mem_cons_of_mem _ he))]
    rw [hhp, ← h1 pend hei]
    congr 1
    simp only [blksBy]
    cases k <;> simp [memB]
  have hsub : Sub (actual (i :: U) (⟨i, restrictFr fr (looks ops o), v, k⟩ :: pend) σ2) (actual U pend σ) := by
    intro b ob hb
    have : (actual (i :: U) (⟨i, restrictFr fr (looks ops o), v, k⟩ :: pend) σ2).get b = (actual U pend σ).get b := by
      simp only [actual, withBlks_get, hact]
    rw [← this]; exact hb
  have hsim : Sim φ A (actual (i :: U) (⟨i, restrictFr fr (looks ops o), v, k⟩ :: pend) σ2) w := hI.sim.sub hsub hnx
  have hσ0 : σ0.next ≤ σ.next := hI.evo.le
  have hknew : ∀ n ob, k = .new n ob → n = σ.next ∧ σ.get n = none ∧ n < σ2.next := by
    intro n ob hkn
    rcases hσ with ⟨_, h⟩ | ⟨ob', h1, h2, h3⟩
    · exact absurd hkn (h n ob)
    · rw [h1] at hkn
      injection hkn with e1 e2
      subst e1 h2
      exact ⟨rfl, h3, Nat.lt_succ_self _⟩
  have hnewlt : ∀ e ∈ pend, ∀ n ob, e.k = .new n ob → n ≠ σ.next := fun e he n ob hk => Nat.ne_of_lt (hI.new e he n ob hk).1
  refine ⟨hord, hI.sl, hI.st, fun j hj => ?_, fun j hj => ?_, List.nodup_cons.2 ⟨hiU, hI.und⟩, fun j hj => ?_, fun e he e2 he2 heq => ?_, fun e he e2 he2 n o1 o2 h1 h2 => ?_, fun e he => ?_,
    hsim, ?_, fun t x ht => ?_, fun e he d hd => ?_, fun e he => ?_, fun e he e2 he2 d x hd hx => ?_, fun e he n ob hkn => ?_, fun e he heU t x ht => ?_⟩
  · rw [hI.set j hj, indices_cons]
    simp only [List.mem_cons, not_or]
    exact ⟨fun ⟨⟨h1, h2⟩, h3⟩ => ⟨h2, h1, h3⟩, fun ⟨h2, h1, h3⟩ => ⟨⟨h1, h2⟩, h3⟩⟩
  · rcases List.mem_cons.1 hj with rfl | hj
    · intro hm
      obtain ⟨y, h1, h2⟩ := mem_indices.1 hm
      exact (pair_of (hpair y h1)).ne h2.symm
    · intro hm
      exact hI.ul j hj (by rw [indices_cons]; exact List.mem_cons_of_mem _ hm)
  · rcases List.mem_cons.1 hj with rfl | hj
    · exact ⟨_, List.mem_cons_self, rfl⟩
    · obtain ⟨e, h1, h2⟩ := hI.up j hj
      exact ⟨e, List.mem_cons_of_mem _ h1, h2⟩
  · rcases List.mem_cons.1 he with rfl | he <;> rcases List.mem_cons.1 he2 with rfl | he2
    · rfl
    · exact absurd heq.symm (hei _ he2)
    · exact absurd heq (hei _ he)
    · exact hI.uniq e he e2 he2 heq
  · rcases List.mem_cons.1 he with rfl | he <;> rcases List.mem_cons.1 he2 with rfl | he2
    · rfl
    · exact absurd (hknew n o1 h1).1 (hnewlt _ he2 n o2 h2)
    · exact absurd (hknew n o2 h2).1 (hnewlt _ he n o1 h1)
    · exact hI.nd e he e2 he2 n o1 o2 h1 h2
  · rcases List.mem_cons.1 he with rfl | he
    · exact ⟨c, hc, hpair⟩
    · obtain ⟨ce, h1, h2⟩ := hI.pl e he
      exact ⟨ce, h1, fun y hy => h2 y (List.mem_cons_of_mem _ hy)⟩
  · refine ⟨hI.evo.agree, hI.evo.sub, hI.evo.new, Nat.le_trans hI.evo.le hnx, hI.evo.size, hI.evo.keep, fun b ob hb => hI.evo.img b ob (hsub b ob hb), hI.evo.rest⟩
  · rw [putFr_get] at ht
    split at ht
    · rename_i hd
      exact .inl ⟨i, List.mem_cons_self, by rw [hdo]; exact hd⟩
    · rcases hI.fro t x ht with ⟨j, h1, h2⟩ | h
      · exact .inl ⟨j, List.mem_cons_of_mem _ h1, h2⟩
      · exact .inr h
  · rw [putFr_get]
    rcases List.mem_cons.1 he with rfl | he
    · rw [← hdo, hd]; simp
    · obtain ⟨ce, _, hp⟩ := hpe e he
      have hne := hp.dd d hd
      simp only [hdo] at hne
      rw [if_neg hne]
      exact hI.dst e he d hd
  · rcases List.mem_cons.1 he with rfl | he
    · exact ⟨o, ho, fun t x ht => (restrict_get _ t x ht).1, fun _ => hk, hdl⟩
    · obtain ⟨o1, h1, h2, h3, h4⟩ := hI.op e he
      refine ⟨o1, h1, h2, fun heU => ?_, h4⟩
      rcases List.mem_cons.1 heU with heq | heU
      · exact absurd heq (hei e he)
      · have h5 := h3 heU
        obtain ⟨ce, _, hp⟩ := hpe e he
        have hvis : visOf (befOf bef e.i) (⟨i, restrictFr fr (looks ops o), v, k⟩ :: pend) = visOf (befOf bef e.i) pend := by
          have : memB i (befOf bef e.i) = false := by
            cases hb : memB i (befOf bef e.i)
            · rfl
            · exact absurd (memB_iff.1 hb) hp.nb
          simp only [visOf, this]
          cases k <;> rfl
        unfold kindOk at h5 ⊢
        cases hek : e.k <;> simp only [hek] at h5 ⊢ <;> first | exact h5 | skip
        rw [hvis]
        have : ∀ l, rdSt l σ2 = rdSt l σ := fun l => by
          show (⟨0, l ++ σ2.hp⟩ : AState) = ⟨0, l ++ σ.hp⟩
          rw [hhp]
        rw [this]
        exact h5
  · rcases List.mem_cons.1 he with rfl | he <;> rcases List.mem_cons.1 he2 with rfl | he2
    · have hx := (restrict_get _ d x hx).1
      rw [hdo] at hd
      simp [dstIn, hd, memB_iff.2 hx] at hdl
    · have hx := (restrict_get _ d x hx).2
      rw [hI.dst e2 he2 d hd] at hx
      injection hx with hx
      exact hx.symm
    · obtain ⟨o1, h1, h2, _⟩ := hI.op e he
      obtain ⟨ce, _, hp⟩ := hpe e he
      have := (hp.war d o1 h1 hd (h2 d x hx)).1
      simp [hc] at this
    · exact hI.cons e he e2 he2 d x hd hx
  · rcases List.mem_cons.1 he with rfl | he
    · obtain ⟨h1, h2, h3⟩ := hknew n ob hkn
      refine ⟨h3, by omega, by rw [hget]; exact h2, fun _ hA => ?_⟩
      have := hI.sim.lt n hA
      simp only [actual, withBlks_next] at this
      omega
    · obtain ⟨h1, h2, h3, h4⟩ := hI.new e he n ob hkn
      refine ⟨by omega, h2, by rw [hget]; exact h3, fun heU => ?_⟩
      rcases List.mem_cons.1 heU with heq | heU
      · exact absurd heq (hei e he)
      · exact h4 heU
  · rcases List.mem_cons.1 he with rfl | he
    · obtain ⟨h1, h2⟩ := restrict_get _ t x ht
      rcases hI.fro t x h2 with ⟨j, h3, h4⟩ | h
      · obtain ⟨e2, h5, h6⟩ := hI.up j h3
        obtain ⟨ce, _, hp⟩ := hpe e2 h5
        have := hp.raw t o ho (by rw [h6]; exact h4) h1
        exact .inl ⟨j, List.mem_cons_of_mem _ h3, h4, by rw [← h6]; exact this⟩
      · exact .inr h
    · rcases List.mem_cons.1 heU with heq | heU
      · exact absurd heq (hei e he)
      · rcases hI.efr e he heU t x ht with ⟨j, h1, h2⟩ | h
        · exact .inl ⟨j, List.mem_cons_of_mem _ h1, h2⟩
        · exact .inr h

end push
end Go.Ab
