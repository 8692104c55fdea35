/- The abstract machine: a call that leaves the memory alone, at any memory; tables of effects. Conditions: none. -/
import Derived.Test.YtanifbomohnefaaDoorAb20
namespace Go.Ab
open Go

variable {P : Program} {Γ : Env} {φ φ' : Phi} {A A' : Nat → Prop} {σ σ' τ : AState} {w w' : World} {R : AV → AState → Prop}

def AObj.under (n : Nat) : AObj → Bool
  | .mem _ v _ => v.under n
  | .map _ _ => false

def AObj.isRo : AObj → Bool
  | .mem _ _ .ro => true
  | _ => false

/-- Memory of program variables alone, that are not written. -/
def onlyRo : List (Nat × Option AObj) → Bool
  | [] => true
  | (b, some o) :: r => Nat.ble b 3 && o.isRo && o.under 4 && onlyRo r
  | (_, none) :: _ => false

theorem onlyRo_get : {h : List (Nat × Option AObj)} → onlyRo h = true → ∀ b o, hget h b = some o → b ≤ 3 ∧ o.isRo = true ∧ o.under 4 = true
  | [], _, b, o, h => by simp [hget] at h
  | (c, some o') :: r, hr, b, o, h => by
    simp only [onlyRo, Bool.and_eq_true] at hr
    by_cases hcb : c = b
    · subst hcb
      rw [hget_cons_same] at h
      injection h with h
      subst h
      exact ⟨Nat.le_of_ble_eq_true hr.1.1.1, hr.1.1.2, hr.1.2⟩
    · rw [hget_cons_ne hcb] at h
      exact onlyRo_get hr.2 b o h
  | (c, none) :: r, hr, _, _, _ => by simp [onlyRo] at hr

theorem free_ok {v : AV} (h : v.under 0 = true) (hv : v.ok φ A) : v.ok φ' A' ∧ v.conc φ' = v.conc φ := by
  have h1 := under_ok v h hv
  have hag : Agree (fun b => A b ∧ b < 0) φ φ' := fun b hb => absurd hb.2 (Nat.not_lt_zero b)
  exact ⟨ok_congr hag (fun b hb => absurd hb.2 (Nat.not_lt_zero b)) v h1, conc_congr hag h1⟩

theorem frees_ok : {vs : List AV} → AV.unders 0 vs = true → AV.oks φ A vs → AV.oks φ' A' vs ∧ vs.map (·.conc φ') = vs.map (·.conc φ)
  | [], _, _ => by simp [AV.oks]
  | v :: r, h, ho => by
    simp only [AV.unders, Bool.and_eq_true] at h
    simp only [AV.oks] at ho ⊢
    obtain ⟨h1, h2⟩ := free_ok (φ' := φ') (A' := A') h.1 ho.1
    obtain ⟨h3, h4⟩ := frees_ok h.2 ho.2
    exact ⟨⟨h1, h3⟩, by simp only [List.map_cons, h2, h4]⟩

/-- A call whose arguments and value mention no memory, and that writes none that was there. -/
theorem ACalls.pure {f : FuncId} {args : List AV} {Q : AV → Prop} {h0 : List (Nat × Option AObj)} (hro : onlyRo h0 = true) (hargs : AV.unders 0 args = true)
    (h : ACalls P f args ⟨4, h0⟩ fun v _ => Q v) (hq : ∀ v, Q v → v.under 0 = true) (hsub : ∀ b o, hget h0 b = some o → σ.get b = some o) : ACalls P f args σ fun v σ' => Q v ∧ σ' = σ := by
  intro φ A w hs ho
  have hs4 : Sim φ (fun b => A b ∧ b < 4) ⟨4, h0⟩ w := by
    refine ⟨fun b o hb => ?_, fun b hb => hb.2, fun b o hb => ?_, fun b b' o o' hne h1 h2 => hs.inj b b' o o' hne (hsub b o h1) (hsub b' o' h2), fun g hg => let ⟨h1, h2⟩ := hs.glob g hg; ⟨⟨h1, by omega⟩, h2⟩⟩
    · obtain ⟨h1, _⟩ := onlyRo_get hro b o hb
      exact ⟨hs.inA b o (hsub b o hb), by omega⟩
    · have h1 := hs.obj b o (hsub b o hb)
      obtain ⟨_, h2, h3⟩ := onlyRo_get hro b o hb
      cases o with
      | map kk es => simp [AObj.isRo] at h2
      | mem sh v x =>
        obtain ⟨k1, k2, k3, k4⟩ := h1
        exact ⟨k1, k2, under_ok v h3 k3, k4⟩
  obtain ⟨g1, _⟩ := frees_ok (φ' := φ) (A' := fun b => A b ∧ b < 4) hargs ho
  refine (h φ _ w hs4 g1).mono ?_
  rintro e w' ⟨v, σ', φ', A', k1, rfl, k2, k3, k4⟩
  obtain ⟨h1, h2⟩ := free_ok (φ' := φ) (A' := A) (hq v k1) k2
  have hkeep : ∀ c, c < w.heap.size → w'.heap[c]? = w.heap[c]? := fun c hc => k4.keep c hc (fun b o hb hw => by
    obtain ⟨_, h3, _⟩ := onlyRo_get hro b o hb
    cases o with
    | map kk es => simp [AObj.isRo] at h3
    | mem sh v x => cases x <;> simp [AObj.isRo, AObj.written] at h3 hw)
  exact ⟨v, σ, φ, A, ⟨k1, rfl⟩, by rw [h2], h1, ⟨hs.inA, hs.lt, fun b o hb => ObjOk.congr (.refl _ _) (fun _ h => h) (hkeep _ (hs.obj b o hb).blk_lt) (hs.obj b o hb), hs.inj, hs.glob⟩,
    ⟨.refl _ _, fun _ h => h, fun _ h => .inl h, Nat.le_refl _, k4.size, fun c hc _ => hkeep c hc, fun b o hb => .inl ⟨b, o, hb, id, rfl⟩, k4.rest⟩⟩

/-- An effect that is a fact. -/
def SpecAt (P : Program) (f : FuncId) (s : SpecFn) : Prop := ∀ args σ p v σ', s args σ = some (p, v, σ') → (∀ q, p = some q → q) → ACalls P f args σ fun v' σ'' => v' = v ∧ σ'' = σ'

def Specs (P : Program) : Tab SpecFn → Prop
  | .nil => True
  | .node k s l r => SpecAt P k s ∧ Specs P l ∧ Specs P r

theorem specs_get : {t : Tab SpecFn} → Specs P t → ∀ f s, t.get f = some s → SpecAt P f s
  | .nil, _, f, s, h => by simp [Tab.get] at h
  | .node k s0 l r, hs, f, s, h => by
    simp only [Tab.get] at h
    obtain ⟨h1, h2, h3⟩ := hs
    split at h
    · rename_i hb
      have := Nat.eq_of_beq_eq_true hb
      subst this
      injection h with h
      subst h
      exact h1
    · split at h
      · exact specs_get h2 f s h
      · exact specs_get h3 f s h

def Env.withSpec (Γ : Env) (t : Tab SpecFn) : Env := ⟨Γ.ty, Γ.fn, t, Γ.meth, Γ.eqt⟩

def FnsOk (P : Program) : Tab Func → Prop
  | .nil => True
  | .node k F l r => (P.funcs[k]? = some F ∧ F.body.isSome = true ∧ (F.name == "runtime.NumGoroutine") = false ∧ bodyIn F = true) ∧ FnsOk P l ∧ FnsOk P r

theorem fns_get : {t : Tab Func} → FnsOk P t → ∀ f F, t.get f = some F → P.funcs[f]? = some F ∧ F.body.isSome = true ∧ (F.name == "runtime.NumGoroutine") = false ∧ bodyIn F = true
  | .nil, _, f, s, h => by simp [Tab.get] at h
  | .node k s0 l r, hs, f, s, h => by
    simp only [Tab.get] at h
    obtain ⟨h1, h2, h3⟩ := hs
    split at h
    · rename_i hb
      have := Nat.eq_of_beq_eq_true hb
      subst this
      injection h with h
      subst h
      exact h1
    · split at h
      · exact fns_get h2 f s h
      · exact fns_get h3 f s h

def TysOk (P : Program) : Tab ATy → Prop
  | .nil => True
  | .node k T l r => TyOk P k T ∧ TysOk P l ∧ TysOk P r

theorem tys_get : {t : Tab ATy} → TysOk P t → ∀ f F, t.get f = some F → TyOk P f F
  | .nil, _, f, s, h => by simp [Tab.get] at h
  | .node k s0 l r, hs, f, s, h => by
    simp only [Tab.get] at h
    obtain ⟨h1, h2, h3⟩ := hs
    split at h
    · rename_i hb
      have := Nat.eq_of_beq_eq_true hb
      subst this
      injection h with h
      subst h
      exact h1
    · split at h
      · exact tys_get h2 f s h
      · exact tys_get h3 f s h

theorem br {A B : Prop} {b : Bool} (h1 : b = true → A) (h2 : b = false → B) : @Bool.rec (fun _ => Prop) B A b := by
  cases b
  · exact h2 rfl
  · exact h1 rfl

end Go.Ab
