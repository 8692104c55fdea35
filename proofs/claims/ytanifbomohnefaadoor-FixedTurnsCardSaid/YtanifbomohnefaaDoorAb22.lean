/- The abstract machine: what is left to do at the head of a loop; forgetting what is known of a frame. Conditions: none. -/
import Derived.Test.YtanifbomohnefaaDoorAb21
namespace Go.Ab
open Go

variable {P : Program} {Γ : Env} {σ σ' : AState} {R : AV → AState → Prop}

def codeLoops : Code → List Item → List (List Item)
  | .seq a b, k => codeLoops a (.code b :: k) ++ codeLoops b k
  | .cond _ a b, k => codeLoops a k ++ codeLoops b k
  | .block id b, k => codeLoops b (.inBlock id :: k)
  | .loop b, k => (.inLoop b :: k) :: codeLoops b (.inLoop b :: k)
  | _, _ => []
/-- What is left to be done at the head of the loop with that number. -/
def loopT (F : Func) (n : Nat) : List Item := match F.body with
  | some b => match nth (codeLoops b []) n with | some l => l | none => []
  | none => []

def subFr : AFr → AFr → Prop
  | [], _ => True
  | (t, v) :: r, fr => fget fr t = some v ∧ subFr r fr

theorem subFr_get : {fr fr' : AFr} → subFr fr fr' → ∀ t v, fget fr t = some v → fget fr' t = some v
  | [], _, _, t, v, h => by simp [fget] at h
  | (k, x) :: r, fr', hs, t, v, h => by
    simp only [fget] at h
    split at h
    · rename_i hb
      have := Nat.eq_of_beq_eq_true hb
      subst this
      injection h with h
      subst h
      exact hs.1
    · exact subFr_get hs.2 t v h

/-- The same memory in other words, and less known of the frame. -/
theorem AW.same {fn : FuncId} {todo : List Item} {fr fr' : AFr} (h : AW P ⟨fn, todo, fr, σ⟩ R) (hf : subFr fr fr') (hs : σ' = σ) : AW P ⟨fn, todo, fr', σ'⟩ R := by
  subst hs
  exact AW.weaken h (subFr_get hf)
def subHp : List (Nat × Option AObj) → List (Nat × Option AObj) → Prop
  | [], _ => True
  | (_, none) :: r, h => subHp r h
  | (b, some o) :: r, h => hget h b = some o ∧ subHp r h

theorem subHp_get : {h h' : List (Nat × Option AObj)} → subHp h h' → ∀ b o, hget h b = some o → hget h' b = some o
  | [], _, _, b, o, h => by simp [hget] at h
  | (k, none) :: r, h', hs, b, o, h => by
    by_cases hk : k = b
    · subst hk; rw [hget_cons_same] at h; cases h
    · rw [hget_cons_ne hk] at h; exact subHp_get (h := r) hs b o h
  | (k, some x) :: r, h', hs, b, o, h => by
    by_cases hk : k = b
    · subst hk; rw [hget_cons_same] at h; injection h with h; subst h; exact hs.1
    · rw [hget_cons_ne hk] at h; exact subHp_get hs.2 b o h

/-- Less known of the memory, and of the frame. -/
theorem AW.forget {fn : FuncId} {todo : List Item} {fr fr' : AFr} {n n' : Nat} {h h' : List (Nat × Option AObj)} (ha : AW P ⟨fn, todo, fr, ⟨n, h⟩⟩ R) (hf : subFr fr fr') (hn : n' = n) (hs : subHp h h') :
    AW P ⟨fn, todo, fr', ⟨n', h'⟩⟩ R := by
  subst hn
  intro φ A w tmps b cs h1 h2 h3 h4 h5
  have hsub : Sub ⟨n', h⟩ ⟨n', h'⟩ := fun b o hb => subHp_get hs b o hb
  obtain ⟨v, σ', φ', A', w', fr1, k1, k2, k3, k4, k5⟩ := ha φ A w tmps b cs h1 h2 h3 (h4.sub hsub (Nat.le_refl _)) ⟨fun t v ht => h5.get t v (subFr_get hf t v ht), h5.glob⟩
  refine ⟨v, σ', φ', A', w', fr1, k1, k2, k3, ⟨k4.agree, k4.sub, k4.new, k4.le, k4.size, fun c hc hk => k4.keep c hc (fun b o hb => hk b o (hsub b o hb)), fun b o hb => ?_, k4.rest⟩, k5⟩
  rcases k4.img b o hb with ⟨b0, o0, g1, g2⟩ | g
  · exact .inl ⟨b0, o0, hsub _ _ g1, g2⟩
  · exact .inr g
end Go.Ab
