/- The abstract machine: regions whose order is drawn: the plan goes on. Conditions: none. -/
import Derived.Test.YtanifbomohnefaaDoorAb17
namespace Go.Ab
open Go

variable {P : Program} {Γ : Env} {φ φ' : Phi} {A A' : Nat → Prop} {σ σ' : AState} {w w' : World} {R : AV → AState → Prop}

theorem ofPair_gives_iff {τ τ' : AState} {o : Option (Option Prop × AV)} {v : AV} (h : (AR.ofPair τ o).gives v τ') (τ2 : AState) : (AR.ofPair τ2 o).gives v τ2 := by
  cases o with
  | none => exact h.elim
  | some x =>
    obtain ⟨p, y⟩ := x
    cases p with
    | none => exact ⟨h.1, rfl⟩
    | some q => exact ⟨h.1, h.2.1, rfl⟩

theorem ifFits_gives_iff {y : AV} {s : Sh} {r v : AV} {τ τ' : AState} (h : (ifFits y s r τ).gives v τ') (τ2 : AState) : (ifFits y s r τ2).gives v τ2 := by
  unfold ifFits at h ⊢
  split <;> rename_i hf <;> rw [hf] at h
  · exact ⟨h.1, rfl⟩
  · exact ⟨h.1, h.2.1, rfl⟩

theorem aop_free {op : Op} (hop : freeOp op = true) {fr : AFr} {τ τ' : AState} {v : AV} (h : (aop Γ fr τ op).gives v τ') (τ2 : AState) : (aop Γ fr τ2 op).gives v τ2 := by
  unfold freeOp at hop
  split at hop
  all_goals first | (cases hop; done) | skip
  all_goals
    simp only [aop] at h ⊢
    repeat' split at h
  all_goals first
    | exact False.elim h
    | exact ⟨h.1, rfl⟩
    | exact ⟨h.1, h.2.1, rfl⟩
    | exact ofPair_gives_iff h τ2
    | exact ifFits_gives_iff h τ2
    | (simp only [*]; exact ⟨h.1, rfl⟩)
    | (simp only [*]; exact ⟨h.1, h.2.1, rfl⟩)
    | (simp only [*]; exact ofPair_gives_iff h τ2)
    | (simp only [*]; exact ifFits_gives_iff h τ2)
    | skip

theorem readOk_gives {r r' : AR} {v : AV} {τ : AState} (h : readOk v r) (h1 : ∀ v' s, r = .ok v' s → r' = .ok v' τ) (h2 : ∀ p v' s, r = .val p v' s → r' = .val p v' τ) : r'.gives v τ := by
  cases r with
  | fail => exact h.elim
  | ok v' s => rw [h1 v' s rfl]; exact ⟨h, rfl⟩
  | val p v' s => rw [h2 p v' s rfl]; exact ⟨h.1, h.2, rfl⟩

theorem aop_read {op : Op} (hop : readOp op = true) {fr : AFr} {m m' : Nat} {hp : List (Nat × Option AObj)} {v : AV} (h : readOk v (aop Γ fr ⟨m, hp⟩ op)) : (aop Γ fr ⟨m', hp⟩ op).gives v ⟨m', hp⟩ := by
  have hg : ∀ b, (⟨m, hp⟩ : AState).get b = (⟨m', hp⟩ : AState).get b := fun _ => rfl
  unfold readOp at hop
  split at hop
  all_goals first | (cases hop; done) | skip
  all_goals
    simp only [aop, hg] at h ⊢
    repeat' split at h
  all_goals first
    | exact False.elim h
    | exact ⟨h, rfl⟩
    | exact ⟨h.1, h.2, rfl⟩
    | (simp only [*]; exact ⟨h, rfl⟩)
    | (simp only [*]; exact ⟨h.1, h.2, rfl⟩)
    | skip
  all_goals
    (try unfold alookup at h ⊢)
    (try unfold asliceStr at h ⊢)
    (try unfold asliceSl at h ⊢)
    repeat' split at h
  all_goals first
    | exact False.elim h
    | exact ⟨h, rfl⟩
    | exact ⟨h.1, h.2, rfl⟩
    | (simp only [*]; exact ⟨h, rfl⟩)
    | (simp only [*]; exact ⟨h.1, h.2, rfl⟩)
    | skip

section adv
variable {ops : Array Oper} {bef : List (List Nat)} {φ0 : Phi} {A0 : Nat → Prop} {σ0 : AState} {w0 : World} {N : Nat} {l : List (Nat × Cls)} {fr : AFr} {pend : List PE} {U : List Nat} {tmps : Array Value} {listed : Array Bool} {K : AFr → AState → Prop}

def guardSlot (ops : Array Oper) (o : Oper) : Option Nat := match o.guard with | some (j, _) => dstOf ops j | none => none

theorem guard_looks {o : Oper} {d : Nat} (h : guardSlot ops o = some d) : d ∈ looks ops o := by
  unfold guardSlot at h
  unfold looks
  split at h
  · rename_i j _ hg
    simp only [hg, h]
    exact List.mem_cons_self
  · cases h

theorem tmpsOf_mem {t : Nat} : {l : List Operand} → Operand.tmp t ∈ l → t ∈ tmpsOf l
  | [], h => by simp at h
  | x :: r, h => by
    rcases List.mem_cons.1 h with rfl | h
    · exact List.mem_cons_self
    · have := tmpsOf_mem h
      cases x <;> simp [tmpsOf, this]

/-- What the guard says, from the frame. -/
theorem want_cases {o : Oper} {X : Prop} (hl : awanted ops fr o.guard ≠ .lost)
    (h1 : awanted ops fr o.guard = .yes → wantFact ops o (restrictFr fr (looks ops o)) true → X)
    (h2 : awanted ops fr o.guard = .no → wantFact ops o (restrictFr fr (looks ops o)) false → X)
    (h3 : ∀ d b want, awanted ops fr o.guard = .ask d b want → (∀ t, fget ((d, .bool b) :: fr) t = fget fr t) → wantFact ops o (restrictFr ((d, .bool b) :: fr) (looks ops o)) (b == want) → X) : X := by
  unfold awanted at *
  cases hg : o.guard with
  | none =>
    simp only [hg] at h1
    exact h1 trivial (fun φ A tmps _ => by simp [Region.wanted, hg])
  | some jw =>
    obtain ⟨j, want⟩ := jw
    simp only [hg] at hl h1 h2 h3
    cases hd : dstOf ops j with
    | none => simp [hd] at hl
    | some d =>
      simp only [hd] at hl h1 h2 h3
      have hm : d ∈ looks ops o := guard_looks (by simp [guardSlot, hg, hd])
      cases hv : fget fr d with
      | none => simp [hv] at hl
      | some v =>
        simp only [hv] at hl h1 h2 h3
        cases v
        case bool b =>
          have he : ∀ t, fget ((d, .bool b) :: fr) t = fget fr t := fun t => by
            rw [fget_cons]; split
            · rename_i h; subst h; exact hv.symm
            · rfl
          refine h3 d b want rfl he (fun φ A tmps hf => ?_)
          have hy := yielded_eq (ops := ops) hf hd (restrict_has (by rw [he]; exact hv) _ hm)
          simp only [Region.wanted, hg, hy]
          cases b <;> cases want <;> rfl
        all_goals
          refine h2 rfl (fun φ A tmps hf => ?_)
          have hy := yielded_eq (ops := ops) hf hd (restrict_has hv _ hm)
          simp only [Region.wanted, hg, hy]
          cases want <;> rfl

theorem readOk_self {r : AR} {v : AV} {s : AState} (h : r = .ok v s) : readOk v r := by rw [h]; rfl

/-- One operation that does not act. -/
theorem adv1 {i : Nat} {c : Cls} {o : Oper} {X : AFr → AState → List PE → Prop} {want : Bool} (hI : Inv Γ ops bef φ0 A0 σ0 w0 N ((i, c) :: l) fr σ pend U φ A w tmps listed) (ho : ops[i]? = some o) (hc : c.isAct = false)
    (hw : wantFact ops o (restrictFr fr (looks ops o)) want) (h : drWant P Γ ops bef X i c o fr σ pend want) :
    ∃ fr' σ' pend', X fr' σ' pend' ∧ Inv Γ ops bef φ0 A0 σ0 w0 N l fr' σ' pend' (i :: U) φ A w tmps listed := by
  obtain ⟨hcls, _, _, _⟩ := ordOk_cons hI.ord
  have hdl : dstIn o (looks ops o) = false := by
    unfold clsOk at hcls
    simp only [nth_arr, ho] at hcls
    cases c <;> simp_all [Cls.isAct]
  cases want
  · have h' : X (putFr o.dst .undef fr) σ (⟨i, restrictFr fr (looks ops o), .undef, .skip⟩ :: pend) := by
      cases c <;> first | exact h | (simp [Cls.isAct] at hc)
    exact ⟨_, _, _, h', hI.push ho hc hdl (.inl ⟨rfl, fun _ _ => by simp⟩) (by unfold kindOk; exact ⟨rfl, hw⟩)⟩
  · simp only [drWant, drOp] at h
    cases c with
    | act => simp [Cls.isAct] at hc
    | free =>
      have hfree : freeOp o.op = true := by
        unfold clsOk at hcls
        simp only [nth_arr, ho, Bool.and_eq_true] at hcls
        exact hcls.2.1
      simp only [] at h
      split at h
      · exact h.elim
      · rename_i v s hop
        refine ⟨_, _, _, h, hI.push ho hc hdl (.inl ⟨rfl, fun _ _ => by simp⟩) ?_⟩
        unfold kindOk
        exact ⟨hw, fun τ => aop_free (τ' := s) hfree (by rw [hop]; exact ⟨rfl, rfl⟩) τ⟩
      · rename_i p v s hop
        refine ⟨_, _, _, h.2, hI.push ho hc hdl (.inl ⟨rfl, fun _ _ => by simp⟩) ?_⟩
        unfold kindOk
        exact ⟨hw, fun τ => aop_free (τ' := s) hfree (by rw [hop]; exact ⟨h.1, rfl, rfl⟩) τ⟩
    | read =>
      have hread : readOp o.op = true := by
        unfold clsOk at hcls
        simp only [nth_arr, ho, Bool.and_eq_true] at hcls
        exact hcls.2.1
      have hvis : ∀ e : PE, e.i = i → visOf (befOf bef i) (e :: pend) = visOf (befOf bef i) pend ∨ ∃ n ob, e.k = .new n ob := by
        intro e he
        simp only [visOf]
        cases hk : e.k <;> simp
      simp only [] at h
      split at h
      · exact h.elim
      · rename_i v s hop
        refine ⟨_, _, _, h, hI.push ho hc hdl (.inl ⟨rfl, fun _ _ => by simp⟩) ?_⟩
        unfold kindOk
        exact ⟨hw, hread, by show readOk v (aop Γ _ (rdSt (visOf (befOf bef i) pend) σ) o.op); rw [hop]; rfl⟩
      · rename_i p v s hop
        refine ⟨_, _, _, h.2, hI.push ho hc hdl (.inl ⟨rfl, fun _ _ => by simp⟩) ?_⟩
        unfold kindOk
        exact ⟨hw, hread, by show readOk v (aop Γ _ (rdSt (visOf (befOf bef i) pend) σ) o.op); rw [hop]; exact ⟨h.1, rfl⟩⟩
    | new =>
      obtain ⟨n, hp⟩ := σ
      simp only [] at h
      split at h
      · rename_i v m n' ob hop
        obtain ⟨⟨h1, rfl, rfl, h4⟩, h5⟩ := h
        refine ⟨_, _, _, h5, hI.push ho hc hdl (.inr ⟨ob, rfl, rfl, h4⟩) ?_⟩
        unfold kindOk
        exact ⟨hw, h1, by rw [hop]; exact ⟨rfl, rfl⟩⟩
      · rename_i p v m n' ob hop
        obtain ⟨⟨h0, h1, rfl, rfl, h4⟩, h5⟩ := h
        refine ⟨_, _, _, h5, hI.push ho hc hdl (.inr ⟨ob, rfl, rfl, h4⟩) ?_⟩
        unfold kindOk
        exact ⟨hw, h1, by rw [hop]; exact ⟨h0, rfl, rfl⟩⟩
      · exact h.elim

/-- The plan goes on to the next operation that acts. -/
theorem advance : (l : List (Nat × Cls)) → ∀ {fr : AFr} {σ : AState} {pend : List PE} {U : List Nat}, Inv Γ ops bef φ0 A0 σ0 w0 N l fr σ pend U φ A w tmps listed → DR P Γ ops bef K l fr σ pend →
    ∃ l' fr' σ' pend' U', Inv Γ ops bef φ0 A0 σ0 w0 N l' fr' σ' pend' U' φ A w tmps listed ∧ DR P Γ ops bef K l' fr' σ' pend' ∧ (∀ x r, l' = x :: r → x.2.isAct = true) ∧ U'.length + l'.length = U.length + l.length
  | [], fr, σ, pend, U, hI, h => ⟨[], fr, σ, pend, U, hI, h, (fun _ _ e => nomatch e), rfl⟩
  | (i, c) :: rest, fr, σ, pend, U, hI, h => by
    cases hc : c.isAct with
    | true => exact ⟨_, fr, σ, pend, U, hI, h, (fun x r e => by injection e with e1 e2; subst e1; exact hc), rfl⟩
    | false =>
      have hsome : ∃ o, ops[i]? = some o := by
        obtain ⟨hcls, _⟩ := ordOk_cons hI.ord
        unfold clsOk at hcls
        simp only [nth_arr] at hcls
        cases ho : ops[i]? with
        | none => simp [ho] at hcls
        | some o => exact ⟨o, rfl⟩
      obtain ⟨o, ho⟩ := hsome
      simp only [DR, nth_arr, ho] at h
      have go : ∀ fr1 want, Inv Γ ops bef φ0 A0 σ0 w0 N ((i, c) :: rest) fr1 σ pend U φ A w tmps listed → wantFact ops o (restrictFr fr1 (looks ops o)) want →
          drWant P Γ ops bef (DR P Γ ops bef K rest) i c o fr1 σ pend want →
          ∃ l' fr' σ' pend' U', Inv Γ ops bef φ0 A0 σ0 w0 N l' fr' σ' pend' U' φ A w tmps listed ∧ DR P Γ ops bef K l' fr' σ' pend' ∧ (∀ x r, l' = x :: r → x.2.isAct = true) ∧ U'.length + l'.length = U.length + (rest.length + 1) := by
        intro fr1 want hI1 hw hd
        obtain ⟨fr', σ', pend', h1, h2⟩ := adv1 hI1 ho hc hw hd
        obtain ⟨l', fr2, σ2, pend2, U2, g1, g2, g3, g4⟩ := advance rest h2 h1
        refine ⟨l', fr2, σ2, pend2, U2, g1, g2, g3, ?_⟩
        simp only [List.length_cons] at g4 ⊢
        omega
      refine want_cases (ops := ops) (fr := fr) (o := o) (fun hl => ?_) (fun hy hw => ?_) (fun hn hw => ?_) (fun d b want ha he hw => ?_)
      · rw [hl] at h; exact h
      · rw [hy] at h; exact go fr true hI hw h
      · rw [hn] at h; exact go fr false hI hw h
      · rw [ha] at h
        refine go ((d, .bool b) :: fr) (b == want) (hI.congr he) hw ?_
        cases b
        · cases want <;> exact h
        · cases want <;> exact h

end adv
end Go.Ab
