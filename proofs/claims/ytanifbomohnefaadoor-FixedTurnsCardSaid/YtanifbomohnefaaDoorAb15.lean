/- The abstract machine: its steps are sound. Conditions: none. -/
import Derived.Test.YtanifbomohnefaaDoorAb14
namespace Go.Ab
open Go

variable {P : Program} {Γ : Env} {φ φ' : Phi} {A A' : Nat → Prop} {σ σ' : AState} {w w' : World} {R : AV → AState → Prop}

/-- What is known of the functions with a given effect is true. -/
def SpecOk (P : Program) (Γ : Env) : Prop := ∀ f s, Γ.spec.get f = some s → ∀ args σ p v σ', s args σ = some (p, v, σ') → (∀ q, p = some q → q) →
  ACalls P f args σ fun v' σ'' => v' = v ∧ σ'' = σ'

def Goes (P : Program) (R : AV → AState → Prop) (fn : FuncId) (b : Frame) (cs : List Frame) (φ : Phi) (A : Nat → Prop) (σ : AState) (w : World) (tmps : Array Value) (todo : List Item) : Prop :=
  ∃ v σ' φ' A' w' fr, R v σ' ∧ v.ok φ' A' ∧ Sim φ' A' σ' w' ∧ Evo φ A σ w φ' A' σ' w' ∧
    Steps P (lone (b.at ⟨tmps, []⟩ todo) cs w) (lone fr cs w') ∧ fr.fn = fn ∧ fr.leaving P w' (.returned (v.conc φ'))

theorem Goes.step {fn : FuncId} {b : Frame} {cs : List Frame} {φ1 : Phi} {A1 : Nat → Prop} {σ1 : AState} {w1 : World} {tmps tmps1 : Array Value} {todo todo1 : List Item}
    (h : Steps P (lone (b.at ⟨tmps, []⟩ todo) cs w) (lone (b.at ⟨tmps1, []⟩ todo1) cs w1)) (he : Evo φ A σ w φ1 A1 σ1 w1)
    (hg : Goes P R fn b cs φ1 A1 σ1 w1 tmps1 todo1) : Goes P R fn b cs φ A σ w tmps todo := by
  obtain ⟨v, σ', φ', A', w', fr, h1, h2, h3, h4, h5, h6⟩ := hg
  exact ⟨v, σ', φ', A', w', fr, h1, h2, h3, he.trans h4, h.trans h5, h6⟩

theorem AW.goes {c : Conf} (h : AW P c R) {tmps : Array Value} {b : Frame} {cs : List Frame} (hb : b.fn = c.fn) (hk : b.kind = .normal) (hi : itemsIn tmps.size c.todo = true)
    (hs : Sim φ A c.σ w) (hf : FrOk φ A c.fr tmps) : Goes P R c.fn b cs φ A c.σ w tmps c.todo := h φ A w tmps b cs hb hk hi hs hf

theorem AW.move {fn : FuncId} {todo todo1 : List Item} {fr : AFr}
    (h : ∀ (b : Frame) (a : Act) cs w, step P (lone (b.at a todo) cs w) = .next (lone (b.at a todo1) cs w)) (hi : ∀ n, itemsIn n todo = true → itemsIn n todo1 = true)
    (ha : AW P ⟨fn, todo1, fr, σ⟩ R) : AW P ⟨fn, todo, fr, σ⟩ R :=
  fun _ _ w tmps b cs h1 h2 h3 h4 h5 => Goes.step (.one (h b ⟨tmps, []⟩ cs w)) (.refl _ _ _ _) (ha.goes h1 h2 (hi _ h3) h4 h5)

/-- Back over such a step. -/
theorem AW.back {fn : FuncId} {todo todo1 : List Item} {fr : AFr}
    (h : ∀ (b : Frame) (a : Act) cs w, step P (lone (b.at a todo) cs w) = .next (lone (b.at a todo1) cs w)) (hi : ∀ n, itemsIn n todo1 = true → itemsIn n todo = true)
    (ha : AW P ⟨fn, todo, fr, σ⟩ R) : AW P ⟨fn, todo1, fr, σ⟩ R := by
  intro φ A w tmps b cs h1 h2 h3 h4 h5
  obtain ⟨v, σ', φ', A', w', fr', k1, k2, k3, k4, ⟨n, k5⟩, k6, k7⟩ := ha φ A w tmps b cs h1 h2 (hi _ h3) h4 h5
  refine ⟨v, σ', φ', A', w', fr', k1, k2, k3, k4, ?_, k6, k7⟩
  cases n with
  | zero =>
    simp only [runN, Stepped.next.injEq] at k5
    have hfr : b.at ⟨tmps, []⟩ todo = fr' := by
      have := congrArg (fun m => (m.gs[0]?).map (·.frame)) k5
      simpa [lone] using this
    obtain ⟨hm, _⟩ := k7
    rw [← hfr] at hm
    simp [Frame.at] at hm
  | succ n =>
    simp only [runN, h] at k5
    exact ⟨n, k5⟩

theorem AW.loop {fn : FuncId} {c : Code} {k : List Item} {fr : AFr} (ha : AW P ⟨fn, .inLoop c :: k, fr, σ⟩ R) : AW P ⟨fn, .code (.loop c) :: k, fr, σ⟩ R :=
  AW.move (fun _ _ _ _ => step_loop) (fun n h => by simpa [itemsIn, itemIn, codeIn] using h)
    (AW.back (fun _ _ _ _ => step_inLoop) (fun n h => by simp [itemsIn, itemIn] at h ⊢; exact h) ha)

theorem aexitTo_eq (id : Nat) : (k : List Item) → aexitTo id k = exitTo id k
  | [] => rfl
  | .inBlock id' :: k => by
    simp only [aexitTo, exitTo, aexitTo_eq id k]
    by_cases h : id' = id
    · subst h; simp
    · have : Nat.beq id' id = false := by
        cases hb : Nat.beq id' id
        · rfl
        · exact absurd (Nat.eq_of_beq_eq_true hb) h
      simp [this, h]
  | .code _ :: k => by simp [aexitTo, exitTo, aexitTo_eq id k]
  | .inLoop _ :: k => by simp [aexitTo, exitTo, aexitTo_eq id k]
  | .inScope _ :: k => by simp [aexitTo, exitTo, aexitTo_eq id k]
  | .inRegion _ _ :: k => by simp [aexitTo, exitTo, aexitTo_eq id k]
  | .inRangeFunc _ :: k => by simp [aexitTo, exitTo, aexitTo_eq id k]
  | .endRangeFunc _ :: k => by simp [aexitTo, exitTo, aexitTo_eq id k]
  | .beginRound :: k => by simp [aexitTo, exitTo, aexitTo_eq id k]
  | .call .. :: k => by simp [aexitTo, exitTo, aexitTo_eq id k]
  | .extern .. :: k => by simp [aexitTo, exitTo, aexitTo_eq id k]

theorem exitTo_items {n id : Nat} : {k k' : List Item} → aexitTo id k = some k' → itemsIn n k = true → itemsIn n k' = true
  | [], _, h, _ => by simp [aexitTo] at h
  | x :: k, k', h, hi => by
    simp only [itemsIn, Bool.and_eq_true] at hi
    cases x <;> simp only [aexitTo] at h <;> first | exact exitTo_items h hi.2 | skip
    split at h
    · simp only [Option.some.injEq] at h; subst h; exact hi.2
    · exact exitTo_items h hi.2

def S1 (P : Program) (X : Conf → Prop) (R : AV → AState → Prop) : Step1 → Prop
  | .fail => False
  | .next c => X c
  | .loop c => X c
  | .draw c => X c
  | .ret v σ => R v σ
  | .branch b c1 c2 => (b = true → X c1) ∧ (b = false → X c2)
  | .guard b s1 s2 => (b = true → S1 P X R s1) ∧ (b = false → S1 P X R s2)
  | .call f args c => ACalls P f args c.σ fun v σ' => X (c.finish v σ')
  | .need p c => p ∧ X c

theorem Act.put_dst (tmps : Array Value) (dst : Option Nat) (v : Value) : (⟨tmps, []⟩ : Act).put dst v = ⟨(match dst with | some d => tmps.setIfInBounds d v | none => tmps), []⟩ := by
  cases dst <;> rfl

/-- The rest of a region, after an operation. -/
theorem finish_goes {fn : FuncId} {ops : Array Oper} {i : Nat} {rest : List Nat} {k : List Item} {fr : AFr} {v : AV} {tmps : Array Value} {b : Frame} {cs : List Frame}
    (h : S1 P (AW P · R) R (finNext fn ops i rest k fr v σ)) (hb : b.fn = fn) (hk : b.kind = .normal) (hi : itemsIn tmps.size (.inRegion ops (i :: rest) :: k) = true)
    (hs : Sim φ A σ w) (hf : FrOk φ A fr tmps) (hv : v.ok φ A) :
    Goes P R fn b cs φ A σ w ((⟨tmps, []⟩ : Act).put ((ops[i]?).bind (·.dst)) (v.conc φ)).tmps (.inRegion ops rest :: k) := by
  have hi' : itemsIn tmps.size (.inRegion ops rest :: k) = true := by simpa [itemsIn, itemIn] using hi
  unfold finNext at h
  rw [← dstOf_eq]
  cases hd : dstOf ops i with
  | none => simp only [hd, S1] at h; exact h.goes hb hk hi' hs hf
  | some d =>
    simp only [hd, S1] at h
    have hlt : d < tmps.size := dst_lt (ops := ops) (by simp only [itemsIn, itemIn, Bool.and_eq_true] at hi; exact hi.1) hd
    exact h.goes hb hk (by simpa [Act.put] using hi') hs (hf.put hlt hv)

theorem need_next {fn : FuncId} {ops : Array Oper} {i : Nat} {rest : List Nat} {k : List Item} {fr : AFr} {v : AV} {p : Prop} {X : Conf → Prop} (h : S1 P X R (finNeed p fn ops i rest k fr v σ)) :
    p ∧ S1 P X R (finNext fn ops i rest k fr v σ) := by
  unfold finNeed at h
  unfold finNext
  split <;> simp_all [S1]

theorem finish_conf {fn : FuncId} {ops : Array Oper} {i : Nat} {rest : List Nat} {k : List Item} {fr : AFr} {v : AV} {σ0 : AState} {X : Conf → Prop}
    (h : X (Conf.finish ⟨fn, .inRegion ops (i :: rest) :: k, fr, σ0⟩ v σ)) : S1 P X R (finNext fn ops i rest k fr v σ) := by
  unfold finNext
  simp only [Conf.finish] at h
  split at h <;> rename_i hd <;> simp only [hd, S1] <;> exact h

theorem doOp_goes (hG : GOk P Γ) (hS : SpecOk P Γ) {fn : FuncId} {ops : Array Oper} {i : Nat} {rest : List Nat} {k : List Item} {fr : AFr} {o : Oper} {tmps : Array Value} {b : Frame} {cs : List Frame}
    (ho : ops[i]? = some o) (hw : Region.wanted o (yielded ops tmps) = true)
    (h : S1 P (AW P · R) R (doOp Γ fn ops i rest k fr σ o.op)) (hb : b.fn = fn) (hk : b.kind = .normal) (hi : itemsIn tmps.size (.inRegion ops (i :: rest) :: k) = true)
    (hs : Sim φ A σ w) (hf : FrOk φ A fr tmps) : Goes P R fn b cs φ A σ w tmps (.inRegion ops (i :: rest) :: k) := by
  have hfin : ∀ v, (b.at ⟨tmps, []⟩ (.inRegion ops (i :: rest) :: k)).finish v = b.at ((⟨tmps, []⟩ : Act).put o.dst v) (.inRegion ops rest :: k) := by
    intro v; rw [Frame.finish_at, ho]; rfl
  have hput : ∀ v, ((⟨tmps, []⟩ : Act).put o.dst v) = ⟨((⟨tmps, []⟩ : Act).put o.dst v).tmps, []⟩ := by
    intro v; rw [Act.put_dst]
  have hg := stepG_op (P := P) (b := b) (a := ⟨tmps, []⟩) (k := k) (cs := cs) (w := w) (rest := rest) ho hw
  have calls : ∀ f args F, acallOf Γ fr o.op = some (some (f, args)) → Γ.fn.get f = some F → ACalls P f args σ (fun v σ' => S1 P (AW P · R) R (finNext fn ops i rest k fr v σ')) →
      Goes P R fn b cs φ A σ w tmps (.inRegion ops (i :: rest) :: k) := by
    intro f args F h1 h2 h3
    obtain ⟨hrun, hok⟩ := acall_ok (d := []) hG hf o h1 h2 w
    obtain ⟨e, w'', fr', ⟨v, σ', φ', A', k1, k2, k3, k4, k5⟩, hcomes, hfn, hleave⟩ := h3 φ A w hs hok (b.at ⟨tmps, []⟩ (.inRegion ops (i :: rest) :: k) :: cs)
    subst k2
    have henter : step P (lone (b.at ⟨tmps, []⟩ (.inRegion ops (i :: rest) :: k)) cs w) =
        .next (lone (Frame.enter P f (args.map (·.conc φ)).toArray .normal) (b.at ⟨tmps, []⟩ (.inRegion ops (i :: rest) :: k) :: cs) w) :=
      step_lone_go (by rw [hg]; simp [stepG.apply, hrun, Frame.at])
    have hst : Steps P (lone (b.at ⟨tmps, []⟩ (.inRegion ops (i :: rest) :: k)) cs w) (lone (b.at ⟨((⟨tmps, []⟩ : Act).put o.dst (v.conc φ')).tmps, []⟩ (.inRegion ops rest :: k)) cs w'') := by
      refine .head henter (Steps.trans hcomes (.one ?_))
      rw [← hput, ← hfin]; exact step_leave_returned hleave
    have := finish_goes (φ := φ') (A := A') (w := w'') (cs := cs) k1 hb hk hi k4 (hf.evo k5.agree k5.sub) k3
    rw [ho] at this
    exact Goes.step hst k5 this
  have opres : ∀ v σ', (aop Γ fr σ o.op).gives v σ' → S1 P (AW P · R) R (finNext fn ops i rest k fr v σ') → Goes P R fn b cs φ A σ w tmps (.inRegion ops (i :: rest) :: k) := by
    intro v σ' h1 h2
    obtain ⟨φ', A', w', nx, k1, k2, k3, k4, k5⟩ := aop_ok (d := []) hG hs hf o h1
    have hst : Steps P (lone (b.at ⟨tmps, []⟩ (.inRegion ops (i :: rest) :: k)) cs w) (lone (b.at ⟨((⟨tmps, []⟩ : Act).put o.dst (v.conc φ')).tmps, []⟩ (.inRegion ops rest :: k)) cs w') := by
      rw [← hput]
      rcases k2 with rfl | ⟨rfl, rfl⟩
      · refine .one (step_lone_go ?_)
        rw [hg, ← hfin]; simp [stepG.apply, k1]
      · refine .one (step_lone_go ?_)
        rw [hg, ← hfin]; simp [stepG.apply, k1]
    have := finish_goes (φ := φ') (A := A') (w := w') (cs := cs) h2 hb hk hi k4 (hf.evo k5.agree k5.sub) k3
    rw [ho] at this
    exact Goes.step hst k5 this
  unfold doOp at h
  split at h
  · split at h
    · exact h.elim
    · rename_i v σ' hop
      exact opres v σ' (by rw [hop]; exact ⟨rfl, rfl⟩) h
    · rename_i p v σ' hop
      obtain ⟨hp, h⟩ := need_next h
      exact opres v σ' (by rw [hop]; exact ⟨hp, rfl, rfl⟩) h
  · exact h.elim
  · rename_i f args hc
    split at h
    · exact h.elim
    · rename_i F hF
      split at h
      · rename_i s hsp
        split at h
        · rename_i p v σ' hsv
          obtain ⟨hp, h⟩ := need_next h
          refine calls f args F hc hF ((hS f s hsp args σ _ v σ' hsv (fun q hq => by injection hq with e; exact e ▸ hp)).mono ?_)
          rintro v' σ'' ⟨rfl, rfl⟩; exact h
        · rename_i v σ' hsv
          refine calls f args F hc hF ((hS f s hsp args σ _ v σ' hsv (fun q hq => by cases hq)).mono ?_)
          rintro v' σ'' ⟨rfl, rfl⟩; exact h
        · exact h.elim
      · simp only [S1] at h
        exact calls f args F hc hF (h.mono fun v σ' hx => finish_conf hx)

theorem yielded_eq {fr : AFr} {tmps : Array Value} (hf : FrOk φ A fr tmps) {ops : Array Oper} {j d : Nat} (hd : dstOf ops j = some d) {v : AV} (hv : fget fr d = some v) :
    yielded ops tmps j = match v with | .bool b => some b | _ => none := by
  unfold yielded
  rw [← dstOf_eq, hd]
  simp only [Option.bind_some, (hf.get d v hv).2]
  cases v <;> rfl

theorem skip_goes {fn : FuncId} {ops : Array Oper} {i : Nat} {rest : List Nat} {k : List Item} {fr : AFr} {o : Oper} {tmps : Array Value} {b : Frame} {cs : List Frame}
    (ho : ops[i]? = some o) (hw : Region.wanted o (yielded ops tmps) = false) (h : S1 P (AW P · R) R (finNext fn ops i rest k fr .undef σ))
    (hb : b.fn = fn) (hk : b.kind = .normal) (hi : itemsIn tmps.size (.inRegion ops (i :: rest) :: k) = true)
    (hs : Sim φ A σ w) (hf : FrOk φ A fr tmps) : Goes P R fn b cs φ A σ w tmps (.inRegion ops (i :: rest) :: k) := by
  have := finish_goes (w := w) (cs := cs) h hb hk hi hs hf (by simp [AV.undef, AV.ok, AV.oks])
  refine Goes.step (.one ?_) (.refl _ _ _ _) this
  rw [step_op_skip (by simp [ho, hw])]
  rw [conc_undef, Act.put_dst]

/-- The abstract step is sound. -/
theorem astep_sound (hG : GOk P Γ) (hS : SpecOk P Γ) (c : Conf) (h : S1 P (AW P · R) R (astep Γ c)) : AW P c R := by
  obtain ⟨fn, todo, fr, σ⟩ := c
  have ret : ∀ todo, S1 P (AW P · R) R (doRet Γ fn fr σ) → (∀ (b : Frame) (a : Act) cs w, step P (lone (b.at a todo) cs w) = .next (lone { b.at a todo with mode := .returning } cs w)) → AW P ⟨fn, todo, fr, σ⟩ R := by
    intro todo h hst φ A w tmps b cs h1 h2 h3 h4 h5
    unfold doRet at h
    split at h
    · exact h.elim
    · rename_i F hF
      split at h
      · rename_i vs hvs
        obtain ⟨k1, k2⟩ := results_ok hG h4 h5 hvs
        refine ⟨_, σ, φ, A, w, _, h, k2, h4, .refl _ _ _ _, .one (hst b ⟨tmps, []⟩ cs w), h1, rfl, rfl, h2, F, ?_, k1⟩
        have : b.fn = fn := h1
        show P.funcs[b.fn]? = _
        rw [this]; exact (hG.fn fn F hF).1
      · exact h.elim
  match todo, h with
  | [], h => exact ret _ h (fun b a cs w => step_end)
  | .inBlock _ :: k, h => exact AW.move (fun _ _ _ _ => step_inBlock) (fun n h => by simpa [itemsIn, itemIn] using h) h
  | .inLoop b :: k, h => exact AW.move (fun _ _ _ _ => step_inLoop) (fun n h => by simp [itemsIn, itemIn] at h ⊢; exact h) h
  | .inRegion _ [] :: k, h => exact AW.move (fun _ _ _ _ => step_region_end) (fun n h => by simp [itemsIn, itemIn] at h ⊢; exact h.2) h
  | .inRegion ops (i :: rest) :: k, h =>
    simp only [astep] at h
    rw [nth_arr] at h
    cases ho : ops[i]? with
    | none => simp [ho, S1] at h
    | some o =>
      simp only [ho] at h
      intro φ A w tmps b cs h1 h2 h3 h4 h5
      unfold awanted at h
      cases hgd : o.guard with
      | none =>
        simp only [hgd] at h
        exact doOp_goes hG hS ho (by simp [Region.wanted, hgd]) h h1 h2 h3 h4 h5
      | some jw =>
        obtain ⟨j, want⟩ := jw
        simp only [hgd] at h
        cases hd : dstOf ops j with
        | none => simp [hd, S1] at h
        | some d =>
          simp only [hd] at h
          cases hv : fget fr d with
          | none => simp [hv, S1] at h
          | some v =>
            have hy := yielded_eq (ops := ops) h5 hd hv
            cases v
            case bool bb =>
              simp only [hv, S1] at h
              have hwt : Region.wanted o (yielded ops tmps) = (bb == want) := by
                simp only [Region.wanted, hgd, hy]
                cases bb <;> cases want <;> rfl
              have hf' : FrOk φ A ((d, .bool bb) :: fr) tmps := by
                refine ⟨fun t x ht => ?_, h5.glob⟩
                simp only [fget] at ht
                split at ht
                · rename_i hbq
                  have := Nat.eq_of_beq_eq_true hbq
                  subst this
                  exact h5.get d x (by rw [hv]; exact ht)
                · exact h5.get t x ht
              cases bb
              · have h := h.2 rfl
                cases want <;> simp only [Bool.not_true, Bool.not_false, afterGuard] at h
                · exact doOp_goes hG hS ho (by rw [hwt]; rfl) h h1 h2 h3 h4 hf'
                · exact skip_goes ho (by rw [hwt]; rfl) h h1 h2 h3 h4 hf'
              · have h := h.1 rfl
                cases want <;> simp only [afterGuard] at h
                · exact skip_goes ho (by rw [hwt]; rfl) h h1 h2 h3 h4 hf'
                · exact doOp_goes hG hS ho (by rw [hwt]; rfl) h h1 h2 h3 h4 hf'
            all_goals
              simp only [hv] at h
              refine skip_goes ho ?_ h h1 h2 h3 h4 h5
              simp only [Region.wanted, hgd, hy]
              cases want <;> rfl
  | .code .ret :: k, h => exact ret _ h (fun b a cs w => step_ret)
  | .code .skip :: k, h => exact AW.move (fun _ _ _ _ => step_skip) (fun n h => by simp [itemsIn, itemIn, codeIn] at h ⊢; exact h) h
  | .code (.seq a b) :: k, h => exact AW.move (fun _ _ _ _ => step_seq) (fun n h => by simp [itemsIn, itemIn, codeIn] at h ⊢; exact ⟨h.1.1, h.1.2, h.2⟩) h
  | .code (.block id b) :: k, h => exact AW.move (fun _ _ _ _ => step_block) (fun n h => by simp [itemsIn, itemIn, codeIn] at h ⊢; exact h) h
  | .code (.loop b) :: k, h => exact AW.loop h
  | .code (.region _ ops false) :: k, h => exact AW.move (fun _ _ _ _ => step_region) (fun n h => by simp [itemsIn, itemIn, codeIn] at h ⊢; exact h) h
  | .code (.region _ ops true) :: k, h => exact h
  | .code (.exit id) :: k, h =>
    simp only [astep] at h
    split at h
    · rename_i k' hk
      intro φ A w tmps b cs h1 h2 h3 h4 h5
      refine Goes.step (.one (step_exit (by rw [← aexitTo_eq]; exact hk))) (.refl _ _ _ _) (h.goes h1 h2 (exitTo_items hk (by simp only [itemsIn, Bool.and_eq_true] at h3; exact h3.2)) h4 h5)
    · exact h.elim
  | .code (.cond x t f) :: k, h =>
    simp only [astep] at h
    split at h
    · rename_i bb hx
      intro φ A w tmps b cs h1 h2 h3 h4 h5
      obtain ⟨k1, _⟩ := ev_ok (d := []) h5 hx
      have h3' : codeIn tmps.size t = true ∧ codeIn tmps.size f = true ∧ itemsIn tmps.size k = true := by
        simp [itemsIn, itemIn, codeIn] at h3; exact ⟨h3.1.1, h3.1.2, h3.2⟩
      simp only [S1] at h
      cases bb
      · refine Goes.step (.one (step_cond k1)) (.refl _ _ _ _) ((h.2 rfl).goes h1 h2 ?_ h4 h5)
        simp [itemsIn, itemIn, h3']
      · refine Goes.step (.one (step_cond k1)) (.refl _ _ _ _) ((h.1 rfl).goes h1 h2 ?_ h4 h5)
        simp [itemsIn, itemIn, h3']
    · exact h.elim
  | .code (.rangeFunc ..) :: k, h => exact h.elim
  | .code (.scope _) :: k, h => exact h.elim
  | .code (.label _) :: k, h => exact h.elim
  | .code (.goto _) :: k, h => exact h.elim
  | .code (.refuse _) :: k, h => exact h.elim
  | .inScope _ :: k, h => exact h.elim
  | .inRangeFunc _ :: k, h => exact h.elim
  | .endRangeFunc _ :: k, h => exact h.elim
  | .beginRound :: k, h => exact h.elim
  | .call .. :: k, h => exact h.elim
  | .extern .. :: k, h => exact h.elim

/-- What a run of the abstract machine leaves to be shown. -/
def Left (P : Program) (R : AV → AState → Prop) : Out → Prop
  | .fail => False
  | .more c => AW P c R
  | .loop c => AW P c R
  | .draw c => AW P c R
  | .ret v σ => R v σ
  | .branch b o1 o2 => @Bool.rec (fun _ => Prop) (Left P R o2) (Left P R o1) b
  | .call f args c => ACalls P f args c.σ fun v σ' => AW P (c.finish v σ') R
  | .need p o => p ∧ Left P R o

theorem S1_of_out {X : Conf → Prop} {run : Conf → Out} (hX : ∀ c, Left P R (run c) → X c) (hX' : ∀ c, AW P c R → X c) : (s : Step1) → Left P R (outOf run s) → S1 P X R s
  | .fail, h => h
  | .next c, h => hX c h
  | .loop c, h => hX' c h
  | .draw c, h => hX' c h
  | .ret v σ, h => h
  | .branch b c1 c2, h => by
    cases b
    · exact ⟨by simp, fun _ => hX c2 h⟩
    · exact ⟨fun _ => hX c1 h, by simp⟩
  | .guard b s1 s2, h => by
    cases b
    · exact ⟨by simp, fun _ => S1_of_out hX hX' s2 h⟩
    · exact ⟨fun _ => S1_of_out hX hX' s1 h, by simp⟩
  | .call f args c, h => ACalls.mono h fun _ _ h => hX' _ h
  | .need p c, h => ⟨h.1, hX c h.2⟩

theorem arun_sound (hG : GOk P Γ) (hS : SpecOk P Γ) : (n : Nat) → (c : Conf) → Left P R (arun Γ n c) → AW P c R
  | 0, c, h => h
  | n + 1, c, h => astep_sound hG hS c (S1_of_out (fun c h => arun_sound hG hS n c h) (fun _ h => h) _ h)

end Go.Ab
