/- The abstract machine: what a configuration leads to, and what a call leads to; the frame rule; the results of a function. Conditions: none. -/
import Derived.Test.YtanifbomohnefaaDoorAb13
namespace Go.Ab
open Go

variable {P : Program} {Γ : Env} {φ φ' : Phi} {A A' : Nat → Prop} {σ σ' σm σm' τ : AState} {w w' : World}

def Sub (σm σ : AState) : Prop := ∀ b o, σm.get b = some o → σ.get b = some o

theorem Sub.refl (σ : AState) : Sub σ σ := fun _ _ h => h

theorem Sim.sub (hs : Sim φ A σ w) (h : Sub τ σ) (hn : σ.next ≤ τ.next) : Sim φ A τ w where
  inA := fun b o hb => hs.inA b o (h b o hb)
  lt := fun b hb => Nat.lt_of_lt_of_le (hs.lt b hb) hn
  obj := fun b o hb => hs.obj b o (h b o hb)
  inj := fun b b' o o' hne h1 h2 => hs.inj b b' o o' hne (h b o h1) (h b' o' h2)
  glob := hs.glob

/-- What a run on part of the memory makes of the whole. -/
theorem frame_rule (hs : Sim φ A σ w) (hsub : Sub σm σ) (hnx : σm.next = σ.next) (hs' : Sim φ' A' σm' w') (he : Evo φ A σm w φ' A' σm' w')
    (hτn : τ.next = σm'.next) (hτ : ∀ b o, τ.get b = some o → σm'.get b = some o ∨ (σm.get b = none ∧ σ.get b = some o)) :
    Sim φ' A' τ w' ∧ Evo φ A σ w φ' A' τ w' := by
  have hold : ∀ b o, σm.get b = none → σ.get b = some o → φ' b = φ b ∧ w'.heap[(φ b).blk]? = w.heap[(φ b).blk]? ∧ ObjOk φ A w (φ b) o := by
    intro b o h1 h2
    have ho := hs.obj b o h2
    refine ⟨he.agree b (hs.inA b o h2), he.keep _ ho.blk_lt (fun b0 o0 h3 _ => ?_), ho⟩
    have hne : b0 ≠ b := fun e => by subst e; rw [h1] at h3; cases h3
    exact hs.inj b0 b o0 o hne (hsub _ _ h3) h2
  refine ⟨⟨fun b o hb => ?_, fun b hb => ?_, fun b o hb => ?_, fun b b' o o' hne h1 h2 => ?_, hs'.glob⟩,
    ⟨he.agree, he.sub, fun b hb => by rw [← hnx]; exact he.new b hb, by rw [← hnx, hτn]; exact he.le, he.size, fun c hc hn => he.keep c hc (fun b o hb => hn b o (hsub b o hb)), fun b o hb => ?_, he.rest⟩⟩
  · rcases hτ b o hb with h | ⟨_, h⟩
    · exact hs'.inA b o h
    · exact he.sub b (hs.inA b o h)
  · rw [hτn]; exact hs'.lt b hb
  · rcases hτ b o hb with h | ⟨h0, h⟩
    · exact hs'.obj b o h
    · obtain ⟨k1, k2, k3⟩ := hold b o h0 h
      rw [k1]
      exact ObjOk.congr he.agree he.sub k2 k3
  · have mixed : ∀ b b' o o', σm'.get b = some o → σm.get b' = none → σ.get b' = some o' → (φ' b).blk ≠ (φ' b').blk := by
      intro b b' o o' h1 h2 h3
      obtain ⟨k1, _, k3⟩ := hold b' o' h2 h3
      rw [k1]
      rcases he.img b o h1 with ⟨b0, o0, g1, _, g3⟩ | g
      · rw [← g3]
        have hne : b0 ≠ b' := fun e => by subst e; rw [h2] at g1; cases g1
        exact hs.inj b0 b' o0 o' hne (hsub _ _ g1) h3
      · have := k3.blk_lt; omega
    rcases hτ b o h1 with g1 | ⟨g0, g1⟩ <;> rcases hτ b' o' h2 with g2 | ⟨g3, g2⟩
    · exact hs'.inj b b' o o' hne g1 g2
    · exact mixed b b' o o' g1 g3 g2
    · exact (mixed b' b o' o g2 g0 g1).symm
    · rw [(hold b o g0 g1).1, (hold b' o' g3 g2).1]
      exact hs.inj b b' o o' hne g1 g2
  · rcases hτ b o hb with h | ⟨h0, h⟩
    · rcases he.img b o h with ⟨b0, o0, g1, g2, g3⟩ | g
      · exact .inl ⟨b0, o0, hsub _ _ g1, g2, g3⟩
      · exact .inr g
    · exact .inl ⟨b, o, h, id, by rw [(hold b o h0 h).1]⟩

/-- A call of a Go function with these arguments and this memory comes back, with what R says. -/
def ACalls (P : Program) (f : FuncId) (args : List AV) (σ : AState) (R : AV → AState → Prop) : Prop :=
  ∀ φ A w, Sim φ A σ w → AV.oks φ A args → Calls P f (args.map (·.conc φ)).toArray w fun e w' =>
    ∃ v σ' φ' A', R v σ' ∧ e = .returned (v.conc φ') ∧ v.ok φ' A' ∧ Sim φ' A' σ' w' ∧ Evo φ A σ w φ' A' σ' w'

theorem ACalls.mono {f : FuncId} {args : List AV} {R R' : AV → AState → Prop} (h : ACalls P f args σ R) (hr : ∀ v σ', R v σ' → R' v σ') : ACalls P f args σ R' :=
  fun φ A w hs ho => (h φ A w hs ho).mono fun _ _ ⟨v, σ', φ', A', h1, h2⟩ => ⟨v, σ', φ', A', hr _ _ h1, h2⟩

def opsIn (n : Nat) : List Oper → Bool
  | [] => true
  | o :: r => (match o.dst with | some d => Nat.ble (d + 1) n | none => true) && opsIn n r

def codeIn (n : Nat) : Code → Bool
  | .region _ ops _ => opsIn n ops.toList
  | .seq a b => codeIn n a && codeIn n b
  | .cond _ a b => codeIn n a && codeIn n b
  | .block _ b => codeIn n b
  | .loop b => codeIn n b
  | _ => true

def itemIn (n : Nat) : Item → Bool
  | .code c => codeIn n c
  | .inLoop b => codeIn n b
  | .inRegion ops _ => opsIn n ops.toList
  | _ => true

def itemsIn (n : Nat) : List Item → Bool
  | [] => true
  | i :: r => itemIn n i && itemsIn n r

/-- What a configuration leads to: the function returns, with what R says. -/
def AW (P : Program) (c : Conf) (R : AV → AState → Prop) : Prop :=
  ∀ φ A w tmps (b : Frame) cs, b.fn = c.fn → b.kind = .normal → itemsIn tmps.size c.todo = true → Sim φ A c.σ w → FrOk φ A c.fr tmps →
    ∃ v σ' φ' A' w' fr, R v σ' ∧ v.ok φ' A' ∧ Sim φ' A' σ' w' ∧ Evo φ A c.σ w φ' A' σ' w' ∧
      Steps P (lone (b.at ⟨tmps, []⟩ c.todo) cs w) (lone fr cs w') ∧ fr.fn = c.fn ∧ fr.leaving P w' (.returned (v.conc φ'))

theorem AW.mono {c : Conf} {R R' : AV → AState → Prop} (h : AW P c R) (hr : ∀ v σ', R v σ' → R' v σ') : AW P c R' :=
  fun φ A w tmps b cs h1 h2 h3 h4 h5 => let ⟨v, σ', φ', A', w', fr, k1, k2⟩ := h φ A w tmps b cs h1 h2 h3 h4 h5; ⟨v, σ', φ', A', w', fr, hr _ _ k1, k2⟩

/-- Less may be known of the frame. -/
theorem AW.weaken {fn : FuncId} {todo : List Item} {fr fr' : AFr} {R : AV → AState → Prop} (h : AW P ⟨fn, todo, fr, σ⟩ R) (hf : ∀ t v, fget fr t = some v → fget fr' t = some v) : AW P ⟨fn, todo, fr', σ⟩ R :=
  fun φ A w tmps b cs h1 h2 h3 h4 h5 => h φ A w tmps b cs h1 h2 h3 h4 ⟨fun t v ht => h5.get t v (hf t v ht), h5.glob⟩

theorem nth_get {α : Type} : (l : List α) → (i : Nat) → nth l i = l[i]?
  | [], _ => by simp [nth]
  | x :: r, 0 => by simp [nth]
  | x :: r, i + 1 => by simp [nth, nth_get r i]

theorem nth_arr {α : Type} (a : Array α) (i : Nat) : nth a.toList i = a[i]? := by rw [nth_get]; simp

theorem dstOf_eq (ops : Array Oper) (i : Nat) : dstOf ops i = (ops[i]?).bind (·.dst) := by
  unfold dstOf
  rw [nth_arr]
  cases ops[i]? <;> rfl

theorem opsIn_get {n : Nat} : {l : List Oper} → opsIn n l = true → ∀ (i : Nat) (o : Oper) (d : Nat), l[i]? = some o → o.dst = some d → d < n
  | [], _, i, o, d, hi, _ => by simp at hi
  | x :: r, h, 0, o, d, hi, hd => by
    simp only [List.getElem?_cons_zero, Option.some.injEq] at hi
    subst hi
    simp only [opsIn, hd, Bool.and_eq_true] at h
    have := Nat.le_of_ble_eq_true h.1
    omega
  | x :: r, h, i + 1, o, d, hi, hd => by
    simp only [opsIn, Bool.and_eq_true] at h
    exact opsIn_get h.2 i o d (by simpa using hi) hd

theorem dst_lt {n : Nat} {ops : Array Oper} (h : opsIn n ops.toList = true) {i d : Nat} (hd : dstOf ops i = some d) : d < n := by
  rw [dstOf_eq] at hd
  cases ho : ops[i]? with
  | none => simp [ho] at hd
  | some o =>
    simp [ho] at hd
    exact opsIn_get h i o d (by simpa using ho) hd

theorem FrOk.put {fr : AFr} {tmps : Array Value} (h : FrOk φ A fr tmps) {d : Nat} (hd : d < tmps.size) {v : AV} (hv : v.ok φ A) :
    FrOk φ A ((d, v) :: fr) (tmps.setIfInBounds d (v.conc φ)) := by
  refine ⟨fun t x ht => ?_, h.glob⟩
  simp only [fget] at ht
  by_cases htd : d = t
  · subst htd
    simp at ht
    subst ht
    exact ⟨hv, by simp [hd]⟩
  · have : Nat.beq d t = false := by
      cases hb : Nat.beq d t
      · rfl
      · exact absurd (Nat.eq_of_beq_eq_true hb) htd
    rw [this] at ht
    obtain ⟨h1, h2⟩ := h.get t x ht
    exact ⟨h1, by rw [Array.getElem?_setIfInBounds_ne htd]; exact h2⟩

def resOf (tmps : Array Value) : ResultVar → Sem Value
  | .tmp t => pure (tmps.getD t Go.undef)
  | .cell a t => do loadVar t (← asAddr (tmps.getD a Go.undef))

theorem aresult_run {fr : AFr} {tmps : Array Value} (hG : GOk P Γ) (hs : Sim φ A σ w) (hf : FrOk φ A fr tmps) {x : ResultVar} {v : AV} (h : aresult Γ fr σ x = some v) :
    (resOf tmps x).run P w = .ok (v.conc φ) w ∧ v.ok φ A := by
  unfold resOf
  cases x with
  | tmp t =>
    simp only [aresult] at h
    obtain ⟨h1, h2⟩ := hf.get t v h
    exact ⟨by simp [h2], h1⟩
  | cell a t =>
    simp only [aresult] at h
    repeat' split at h
    all_goals first | (cases h; done) | skip
    rename_i T hT _ b p ha _ sh y e hb _ s hsp _ hbq
    have hT := hG.ty _ _ hT
    obtain ⟨h1, h2⟩ := hf.get a _ ha
    have hse := beq_sound _ _ hbq
    subst hse
    have hobj := hs.obj b _ hb
    simp only [AV.ok] at h1
    have hsh : (φ b).sh = sh := hobj.1
    obtain ⟨k1, k2, k3⟩ := loadVar_run hT hobj (hsh ▸ h1.2) hsp h
    refine ⟨?_, k2⟩
    simp only [Array.getD_eq_getD_getElem?, h2, Option.getD_some, conc_ptr, asAddr, Sem.run_bind, Sem.run_pure, Result.andThen_ok, hsh, k1]

theorem aresults_run {fr : AFr} {tmps : Array Value} (hG : GOk P Γ) (hs : Sim φ A σ w) (hf : FrOk φ A fr tmps) : {xs : List ResultVar} → {vs : List AV} → aresults Γ fr σ xs = some vs →
    (xs.mapM (resOf tmps)).run P w = .ok (vs.map (·.conc φ)) w ∧ AV.oks φ A vs
  | [], vs, h => by simp only [aresults, Option.some.injEq] at h; subst h; simp [AV.oks]
  | x :: xs, vs, h => by
    simp only [aresults] at h
    repeat' split at h
    all_goals first | (cases h; done) | skip
    rename_i v hv _ vs hvs
    simp only [Option.some.injEq] at h
    subst h
    obtain ⟨h1, h2⟩ := aresult_run hG hs hf hv
    obtain ⟨h3, h4⟩ := aresults_run hG hs hf hvs
    refine ⟨?_, by simp only [AV.oks]; exact ⟨h2, h4⟩⟩
    rw [List.mapM_cons]
    simp only [Sem.run_bind, h1, h3, Result.andThen_ok, Sem.run_pure, List.map_cons]

theorem results_ok {fr : AFr} {tmps : Array Value} (hG : GOk P Γ) (hs : Sim φ A σ w) (hf : FrOk φ A fr tmps) {F : Func} {vs : List AV} (h : aresults Γ fr σ F.results.toList = some vs) :
    (results F tmps).run P w = .ok ((packResults vs).conc φ) w ∧ (packResults vs).ok φ A := by
  obtain ⟨h1, h2⟩ := aresults_run hG hs hf h
  have hok : (packResults vs).ok φ A := by
    unfold packResults
    split
    · simp only [AV.oks] at h2; exact h2.1
    · simp only [AV.ok]; exact h2
  refine ⟨?_, hok⟩
  have he : results F tmps = (F.results.mapM (resOf tmps) >>= fun vs => pure (if h : vs.size = 1 then vs[0] else .tuple vs)) := by
    unfold results
    congr 1
  rw [he, Array.mapM_eq_mapM_toList]
  simp only [Sem.run_bind, map_eq_pure_bind, h1, Result.andThen_ok, Sem.run_pure]
  match vs with
  | [x] => simp [packResults]
  | [] => simp [packResults]
  | x :: y :: r => simp [packResults]

end Go.Ab
