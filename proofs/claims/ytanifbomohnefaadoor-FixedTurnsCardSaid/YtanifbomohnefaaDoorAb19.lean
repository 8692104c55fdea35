/- The abstract machine: regions whose order is drawn: one operation of the model. Conditions: none. -/
import Derived.Test.YtanifbomohnefaaDoorAb18
namespace Go.Ab
open Go

variable {P : Program} {Γ : Env} {φ φ' : Phi} {A A' : Nat → Prop} {σ σ' τ : AState} {w w' : World} {R : AV → AState → Prop}
variable {ops : Array Oper} {bef : List (List Nat)} {φ0 : Phi} {A0 : Nat → Prop} {σ0 : AState} {w0 : World} {N : Nat} {l : List (Nat × Cls)} {fr : AFr} {pend : List PE} {U : List Nat} {tmps : Array Value} {listed : Array Bool} {K : AFr → AState → Prop}

theorem Inv.actual_get (hI : Inv Γ ops bef φ0 A0 σ0 w0 N l fr σ pend U φ A w tmps listed) (V : List Nat) (b : Nat) (o : AObj) :
    (actual V pend σ).get b = some o ↔ (∃ e ∈ pend, ¬ e.i ∈ V ∧ e.k = .new b o) ∨ σ.get b = some o := by
  unfold actual
  rw [withBlks_get, blks_get pend (fun e he n ob hk => (hI.new e he n ob hk).2.2.1) hI.nd]
  have : ∀ e : PE, ((!memB e.i V) = true ↔ ¬ e.i ∈ V) := fun e => by
    rw [← memB_iff (t := e.i) (l := V)]; cases memB e.i V <;> simp
  constructor
  · rintro (⟨e, h1, h2, h3⟩ | h)
    · exact .inl ⟨e, h1, (this e).1 h2, h3⟩
    · exact .inr h
  · rintro (⟨e, h1, h2, h3⟩ | h)
    · exact .inl ⟨e, h1, (this e).2 h2, h3⟩
    · exact .inr h

theorem Inv.vis_get (hI : Inv Γ ops bef φ0 A0 σ0 w0 N l fr σ pend U φ A w tmps listed) (V : List Nat) (b : Nat) (o : AObj) :
    (withBlks (visOf V pend) σ).get b = some o ↔ (∃ e ∈ pend, e.i ∈ V ∧ e.k = .new b o) ∨ σ.get b = some o := by
  rw [withBlks_get, visOf_by, blks_get pend (fun e he n ob hk => (hI.new e he n ob hk).2.2.1) hI.nd]
  constructor
  · rintro (⟨e, h1, h2, h3⟩ | h)
    · exact .inl ⟨e, h1, memB_iff.1 h2, h3⟩
    · exact .inr h
  · rintro (⟨e, h1, h2, h3⟩ | h)
    · exact .inl ⟨e, h1, memB_iff.2 h2, h3⟩
    · exact .inr h

theorem put_get {tmps : Array Value} {dst : Option Nat} {x : Value} (hlt : ∀ d, dst = some d → d < tmps.size) (t : Nat) :
    ((⟨tmps, []⟩ : Act).put dst x).tmps[t]? = if dst = some t then some x else tmps[t]? := by
  cases dst with
  | none => simp [Act.put]
  | some d =>
    simp only [Act.put, Option.some.injEq]
    by_cases h : d = t
    · subst h; simp [hlt d rfl]
    · rw [if_neg h, Array.getElem?_setIfInBounds_ne h]

theorem put_size {tmps : Array Value} {dst : Option Nat} {x : Value} : ((⟨tmps, []⟩ : Act).put dst x).tmps.size = tmps.size := by
  cases dst <;> simp [Act.put]

theorem Evo.sub_right (h : Evo φ A σ w φ' A' σ' w') (hs : Sub τ σ') (hn : σ'.next ≤ τ.next) : Evo φ A σ w φ' A' τ w' :=
  { h with le := Nat.le_trans h.le hn, img := fun b o hb => h.img b o (hs b o hb) }

/-- An operation that was set aside has been done. -/
theorem Inv.done (hI : Inv Γ ops bef φ0 A0 σ0 w0 N l fr σ pend U φ A w tmps listed) {e : PE} (he : e ∈ pend) (heU : e.i ∈ U) {o : Oper} (ho : ops[e.i]? = some o)
    (hag : Agree A φ φ') (hA : ∀ b, A b → A' b) (hs : Sim φ' A' (actual (U.erase e.i) pend σ) w') (hev : Evo φ0 A0 σ0 w0 φ' A' (actual (U.erase e.i) pend σ) w')
    (hv : e.v.ok φ' A') (hnew : ∀ e2 ∈ pend, e2.i ∈ U.erase e.i → ∀ n ob, e2.k = .new n ob → ¬ A' n) (hlt : ∀ d, o.dst = some d → d < tmps.size) :
    Inv Γ ops bef φ0 A0 σ0 w0 N l fr σ pend (U.erase e.i) φ' A' w' ((⟨tmps, []⟩ : Act).put o.dst (e.v.conc φ')).tmps (listed.setIfInBounds e.i true) := by
  have hdo : dstOf ops e.i = o.dst := by rw [dstOf_eq, ho]; rfl
  have hsz : e.i < ops.size := (Array.getElem?_eq_some_iff.1 ho).1
  have hne : ∀ j, j ∈ U.erase e.i ↔ j ≠ e.i ∧ j ∈ U := fun j => hI.und.mem_erase_iff
  refine ⟨hI.ord, by simp [hI.sl], by rw [put_size]; exact hI.st, fun j hj => ?_, fun j hj => hI.ul j ((hne j).1 hj).2, hI.und.erase _, fun j hj => hI.up j ((hne j).1 hj).2, hI.uniq, hI.nd, hI.pl,
    hs, hev, fun t v ht => ?_, hI.dst, fun e2 he2 => ?_, hI.cons, fun e2 he2 n ob hk => ?_, fun e2 he2 h2U t v ht => ?_⟩
  · by_cases hje : e.i = j
    · subst hje
      have : (listed.setIfInBounds e.i true).getD e.i false = true := by simp [hI.sl, hsz]
      simp only [this, true_iff]
      exact ⟨hI.ul _ heU, fun h => ((hne _).1 h).1 rfl⟩
    · rw [getD_set_ne false hje, hI.set j hj, hne]
      constructor
      · rintro ⟨h1, h2⟩; exact ⟨h1, fun h => h2 h.2⟩
      · rintro ⟨h1, h2⟩; exact ⟨h1, fun h => h2 ⟨fun e => hje e.symm, h⟩⟩
  · rw [put_get hlt]
    by_cases hd : o.dst = some t
    · have := hI.dst e he t (by rw [hdo]; exact hd)
      rw [this] at ht
      injection ht with ht
      subst ht
      exact .inr ⟨hv, by rw [if_pos hd]⟩
    · rw [if_neg hd]
      rcases hI.fro t v ht with ⟨j, h1, h2⟩ | ⟨h1, h2⟩
      · refine .inl ⟨j, (hne j).2 ⟨fun h => ?_, h1⟩, h2⟩
        subst h; rw [hdo] at h2; exact hd h2
      · exact .inr ⟨ok_congr hag hA v h1, by rw [conc_congr hag h1]; exact h2⟩
  · obtain ⟨o2, h1, h2, h3, h4⟩ := hI.op e2 he2
    exact ⟨o2, h1, h2, fun h => h3 ((hne _).1 h).2, h4⟩
  · obtain ⟨h1, h2, h3, _⟩ := hI.new e2 he2 n ob hk
    exact ⟨h1, h2, h3, fun h => hnew e2 he2 h n ob hk⟩
  · rw [put_get hlt]
    have h2U' := ((hne _).1 h2U).2
    by_cases hd : o.dst = some t
    · have := hI.cons e2 he2 e he t v (by rw [hdo]; exact hd) ht
      subst this
      exact .inr ⟨hv, by rw [if_pos hd]⟩
    · rw [if_neg hd]
      rcases hI.efr e2 he2 h2U' t v ht with ⟨j, h1, h2, h3⟩ | ⟨h1, h2⟩
      · refine .inl ⟨j, (hne j).2 ⟨fun h => ?_, h1⟩, h2, h3⟩
        subst h; rw [hdo] at h2; exact hd h2
      · exact .inr ⟨ok_congr hag hA v h1, by rw [conc_congr hag h1]; exact h2⟩

mutual
theorem under_ok {n : Nat} : (v : AV) → v.under n = true → v.ok φ A → v.ok φ (fun b => A b ∧ b < n)
  | .int .., _, _ => by simp [AV.ok]
  | .bool _, _, _ => by simp [AV.ok]
  | .str _, _, _ => by simp [AV.ok]
  | .ptr b p, h, ho => by simp only [AV.ok, AV.under] at *; exact ⟨⟨ho.1, Nat.le_of_ble_eq_true h⟩, ho.2⟩
  | .nilptr, _, _ => by simp [AV.ok]
  | .slice b p s len cap, h, ho => by simp only [AV.ok, AV.under] at *; exact ⟨⟨ho.1, Nat.le_of_ble_eq_true h⟩, ho.2⟩
  | .nilslice, _, _ => by simp [AV.ok]
  | .map r, h, ho => by simp only [AV.ok, AV.under] at *; exact ⟨ho, Nat.le_of_ble_eq_true h⟩
  | .nilmap, _, _ => by simp [AV.ok]
  | .fn f a c, h, ho => by simp only [AV.ok, AV.under, Bool.and_eq_true] at *; exact ⟨unders_ok a h.1 ho.1, unders_ok c h.2 ho.2⟩
  | .nilfn, _, _ => by simp [AV.ok]
  | .iface t v, h, ho => by simp only [AV.ok, AV.under] at *; exact under_ok v h ho
  | .niliface, _, _ => by simp [AV.ok]
  | .strct vs, h, ho => by simp only [AV.ok, AV.under] at *; exact unders_ok vs h ho
  | .arr n f, h, _ => by simp [AV.under] at h
  | .tuple vs, h, ho => by simp only [AV.ok, AV.under] at *; exact unders_ok vs h ho
theorem unders_ok {n : Nat} : (vs : List AV) → AV.unders n vs = true → AV.oks φ A vs → AV.oks φ (fun b => A b ∧ b < n) vs
  | [], _, _ => by simp [AV.oks]
  | v :: r, h, ho => by simp only [AV.oks, AV.unders, Bool.and_eq_true] at *; exact ⟨under_ok v h.1 ho.1, unders_ok r h.2 ho.2⟩
end

theorem belowFr_get {n : Nat} : {fr : AFr} → belowFr n fr = true → ∀ t v, fget fr t = some v → v.under n = true
  | [], _, t, v, h => by simp [fget] at h
  | (d, x) :: r, hb, t, v, h => by
    simp only [belowFr, Bool.and_eq_true] at hb
    rw [fget_cons] at h
    split at h
    · injection h with h; subst h; exact hb.1
    · exact belowFr_get hb.2 t v h

/-- A new block under a number that was kept for it. -/
theorem reserved (hG : GOk P Γ) {n : Nat} {ob : AObj} {v : AV} {o : Oper} {d : List Deferred} {act : AState} (hs : Sim φ A act w) (hn : n < act.next) (hA : ¬ A n) (hf : FrOk φ A fr tmps) (hb : belowFr n fr = true)
    (hop : (aop Γ fr ⟨n, []⟩ o.op).gives v ⟨n + 1, [(n, some ob)]⟩) (hτn : τ.next = act.next) (hτ : ∀ b o, τ.get b = some o → (b = n ∧ o = ob) ∨ (b ≠ n ∧ act.get b = some o))
    (hev : Evo φ0 A0 σ0 w0 φ A act w) (hσ0 : σ0.next ≤ n) :
    ∃ φ' A' w' nx, (execOp (Act.eval ⟨tmps, d⟩) o).run P w = .ok nx w' ∧ (nx = .value (v.conc φ') ∨ (nx = .skip ∧ v = .undef)) ∧ v.ok φ' A' ∧ Agree A φ φ' ∧ (∀ b, A b → A' b) ∧ (∀ b, A' b → A b ∨ b = n) ∧
      Sim φ' A' τ w' ∧ Evo φ0 A0 σ0 w0 φ' A' τ w' := by
  have hA3 : ∀ g, g ≤ 3 → g < n := fun g hg => by
    have h1 := hs.glob n
    rcases Nat.lt_or_ge g n with h2 | h2
    · exact h2
    · exact absurd (h1 (by omega)).1 hA
  have hs2 : Sim φ (fun b => A b ∧ b < n) ⟨n, []⟩ w := ⟨fun b o h => by simp [AState.get, hget] at h, fun b h => h.2, fun b o h => by simp [AState.get, hget] at h, fun b b' o o' _ h => by simp [AState.get, hget] at h, fun g hg => let ⟨h1, h2⟩ := hs.glob g hg; ⟨⟨h1, hA3 g hg⟩, h2⟩⟩
  have hf2 : FrOk φ (fun b => A b ∧ b < n) fr tmps := ⟨fun t v ht => ⟨under_ok v (belowFr_get hb t v ht) (hf.get t v ht).1, (hf.get t v ht).2⟩, hs2.glob⟩
  obtain ⟨φ1, A1, w', nx, k1, k2, k3, k4, k5⟩ := aop_ok (d := d) hG hs2 hf2 o hop
  have hA1 : ∀ b, A1 b → (A b ∧ b < n) ∨ b = n := fun b h => by
    have h1 := k4.lt b h
    simp only at h1
    rcases k5.new b h with h2 | h2
    · exact .inl h2
    · simp only at h2; exact .inr (by omega)
  have hag : Agree A φ (upd φ n (φ1 n)) := fun b h => by
    have : b ≠ n := fun e => hA (e ▸ h)
    simp [upd, this]
  have hag1 : Agree A1 φ1 (upd φ n (φ1 n)) := fun b h => by
    rcases hA1 b h with h1 | rfl
    · have : b ≠ n := fun e => hA (e ▸ h1.1)
      simp only [upd, if_neg this]
      exact (k5.agree b h1).symm
    · simp [upd]
  have hA1' : ∀ b, A1 b → A b ∨ b = n := fun b h => (hA1 b h).imp (·.1) id
  have hgn : (⟨n + 1, [(n, some ob)]⟩ : AState).get n = some ob := by simp [AState.get, hget]
  have hblk : w.heap.size ≤ (φ1 n).blk := by
    rcases k5.img n ob hgn with ⟨b0, o0, h, _⟩ | h
    · simp [AState.get, hget] at h
    · exact h
  have hkeep : ∀ c, c < w.heap.size → w'.heap[c]? = w.heap[c]? := fun c hc => k5.keep c hc (fun b o h => by simp [AState.get, hget] at h)
  refine ⟨upd φ n (φ1 n), fun b => A b ∨ b = n, w', nx, k1, ?_, ok_congr hag1 hA1' v k3, hag, fun _ h => .inl h, fun _ h => h, ⟨fun b o h => ?_, fun b h => ?_, fun b o h => ?_, fun b b' o o' hne h h' => ?_, hs.glob.evo hag (fun _ h => .inl h)⟩,
    ⟨fun b h => ?_, fun b h => .inl (hev.sub b h), fun b h => ?_, by rw [hτn]; exact hev.le, Nat.le_trans hev.size k5.size, fun c hc hnb => ?_, fun b o h => ?_, hev.rest.trans k5.rest⟩⟩
  · rw [conc_congr hag1 k3]; exact k2
  · rcases hτ b o h with ⟨h1, _⟩ | ⟨_, h1⟩
    · exact .inr h1
    · exact .inl (hs.inA b o h1)
  · rw [hτn]
    rcases h with h | rfl
    · exact hs.lt b h
    · exact hn
  · rcases hτ b o h with ⟨rfl, rfl⟩ | ⟨h1, h2⟩
    · have := k4.obj b o hgn
      simp only [upd, if_true]
      exact ObjOk.congr hag1 hA1' rfl this
    · have h3 := hs.obj b o h2
      simp only [upd, if_neg h1]
      exact ObjOk.congr hag (fun _ h => .inl h) (hkeep _ h3.blk_lt) h3
  · rcases hτ b o h with ⟨rfl, _⟩ | ⟨h1, h2⟩ <;> rcases hτ b' o' h' with ⟨rfl, _⟩ | ⟨h3, h4⟩
    · exact absurd rfl hne
    · have := (hs.obj b' o' h4).blk_lt
      simp [upd, h3]; omega
    · have := (hs.obj b o h2).blk_lt
      simp [upd, h1]; omega
    · simp [upd, h1, h3]; exact hs.inj b b' o o' hne h2 h4
  · exact (hag b (hev.sub b h)).trans (hev.agree b h)
  · rcases h with h | rfl
    · exact hev.new b h
    · exact .inr hσ0
  · rw [hkeep c (Nat.lt_of_lt_of_le hc hev.size)]; exact hev.keep c hc hnb
  · rcases hτ b o h with ⟨rfl, _⟩ | ⟨h1, h2⟩
    · right; simp [upd]; exact Nat.le_trans hev.size hblk
    · rcases hev.img b o h2 with ⟨b0, o0, g1, g2, g3⟩ | g
      · left; exact ⟨b0, o0, g1, g2, by simp [upd, h1]; exact g3⟩
      · right; simp [upd, h1]; exact g

theorem wp_of_run {o : Oper} {a : Act} {v : Value} {nx : Next} {Kn : Act → World → Prop} {Q : Exit → Act → World → Prop} (h : (execOp a.eval o).run P w = .ok nx w')
    (hn : nx = .value v ∨ (nx = .skip ∧ v = Go.undef)) (hk : Kn (a.put o.dst v) w') : o.wp P a w Kn Q := by
  unfold Oper.wp
  rw [h]
  rcases hn with rfl | ⟨rfl, rfl⟩
  · exact hk
  · exact hk

/-- An operation that was set aside is done by the model. -/
theorem exec_pend (hG : GOk P Γ) {Q : Exit → Act → World → Prop} {Kn : Act → World → Prop} (hI : Inv Γ ops bef φ0 A0 σ0 w0 N l fr σ pend U φ A w tmps listed) {i : Nat} (hi : i ∈ U) (hbl : ∀ j ∈ befOf bef i, ¬ j ∈ U)
    (hin : opsIn tmps.size ops.toList = true)
    (hK : ∀ φ' A' w' tmps', Inv Γ ops bef φ0 A0 σ0 w0 N l fr σ pend (U.erase i) φ' A' w' tmps' (listed.setIfInBounds i true) → Kn ⟨tmps', []⟩ w') : wpOp P ops Q i Kn ⟨tmps, []⟩ w := by
  obtain ⟨e, he, rfl⟩ := hI.up i hi
  obtain ⟨o, ho, hkeys, hkind, _⟩ := hI.op e he
  have hkind := hkind hi
  have hf : FrOk φ A e.fr tmps := by
    refine ⟨fun t v ht => ?_, hI.sim.glob⟩
    rcases hI.efr e he hi t v ht with ⟨j, h1, _, h3⟩ | h
    · exact absurd h1 (hbl j h3)
    · exact h
  have hdo : dstOf ops e.i = o.dst := by rw [dstOf_eq, ho]; rfl
  have hlt : ∀ d, o.dst = some d → d < tmps.size := fun d hd => dst_lt hin (by rw [hdo]; exact hd)
  have hput : ∀ x, (⟨tmps, []⟩ : Act).put o.dst x = ⟨((⟨tmps, []⟩ : Act).put o.dst x).tmps, []⟩ := fun x => by rw [Act.put_dst]
  have hsubE : (∀ n ob, e.k ≠ .new n ob) → Sub (actual (U.erase e.i) pend σ) (actual U pend σ) := by
    intro hnn b ob hb
    rw [hI.actual_get] at hb ⊢
    rcases hb with ⟨e2, h1, h2, h3⟩ | hb
    · refine .inl ⟨e2, h1, fun h => h2 (hI.und.mem_erase_iff.2 ⟨fun heq => ?_, h⟩), h3⟩
      have := hI.uniq e2 h1 e he heq
      subst this
      exact hnn _ _ h3
    · exact .inr hb
  have hnewA : ∀ A' : Nat → Prop, (∀ b, A' b → A b ∨ σ.next ≤ b) → ∀ e2 ∈ pend, e2.i ∈ U.erase e.i → ∀ n ob, e2.k = .new n ob → ¬ A' n := by
    intro A' h e2 h1 h2 n ob h3 h4
    obtain ⟨g1, _, _, g2⟩ := hI.new e2 h1 n ob h3
    rcases h n h4 with h5 | h5
    · exact g2 (hI.und.mem_erase_iff.1 h2).2 h5
    · omega
  have run : (∀ n ob, e.k ≠ .new n ob) → wantFact ops o e.fr true → ∀ σm : AState, σm.next = σ.next → Sub σm (actual U pend σ) → (aop Γ e.fr σm o.op).gives e.v σm → wpOp P ops Q e.i Kn ⟨tmps, []⟩ w := by
    intro hnn hw σm hm1 hm2 hop
    have hsm : Sim φ A σm w := hI.sim.sub hm2 (by rw [hm1]; exact Nat.le_refl _)
    obtain ⟨φ', A', w', nx, k1, k2, k3, k4, k5⟩ := aop_ok (d := []) hG hsm hf o hop
    obtain ⟨f1, f2⟩ := frame_rule (τ := actual (U.erase e.i) pend σ) hI.sim hm2 hm1 k4 k5 hm1.symm (fun b ob hb => by
      have hb := hsubE hnn b ob hb
      cases hmb : σm.get b with
      | none => exact .inr ⟨rfl, hb⟩
      | some o' =>
        have := hm2 b o' hmb
        rw [hb] at this
        exact .inl this.symm)
    have hnew' : ∀ b, A' b → A b ∨ σ.next ≤ b := fun b h => by have := k5.new b h; rw [hm1] at this; exact this
    unfold wpOp
    simp only [ho, hw φ A tmps hf, if_true]
    refine .inl (wp_of_run (v := e.v.conc φ') k1 ?_ ?_)
    · rcases k2 with h | ⟨h, h'⟩
      · exact .inl h
      · exact .inr ⟨h, by rw [h']; rfl⟩
    · rw [hput]
      exact hK φ' A' w' _ (hI.done he hi ho k5.agree k5.sub f1 (hI.evo.trans f2) k3 (hnewA A' hnew') hlt)
  unfold kindOk at hkind
  cases hk : e.k with
  | skip =>
    simp only [hk] at hkind
    have hnn : ∀ n ob, e.k ≠ .new n ob := fun n ob h => by rw [hk] at h; cases h
    unfold wpOp
    simp only [ho, hkind.2 φ A tmps hf, Bool.false_eq_true, if_false]
    have hs' := hI.sim.sub (hsubE hnn) (Nat.le_refl _)
    have := hI.done he hi ho (φ' := φ) (A' := A) (w' := w) (.refl _ _) (fun _ h => h) hs' (hI.evo.sub_right (hsubE hnn) (Nat.le_refl _)) (by rw [hkind.1]; simp [AV.undef, AV.ok, AV.oks]) (hnewA A (fun _ h => .inl h)) hlt
    rw [hput]
    have h2 := hK φ A w _ this
    rw [hkind.1] at h2
    exact h2
  | free =>
    simp only [hk] at hkind
    have hnn : ∀ n ob, e.k ≠ .new n ob := fun n ob h => by rw [hk] at h; cases h
    exact run hnn hkind.1 (actual U pend σ) rfl (.refl _) (hkind.2 _)
  | read =>
    simp only [hk] at hkind
    have hnn : ∀ n ob, e.k ≠ .new n ob := fun n ob h => by rw [hk] at h; cases h
    refine run hnn hkind.1 (withBlks (visOf (befOf bef e.i) pend) σ) rfl (fun b ob hb => ?_) ?_
    · rw [hI.vis_get] at hb
      rw [hI.actual_get]
      rcases hb with ⟨e2, h1, h2, h3⟩ | h
      · exact .inl ⟨e2, h1, hbl _ h2, h3⟩
      · exact .inr h
    · obtain ⟨nx, hp⟩ := σ
      exact aop_read hkind.2.1 hkind.2.2
  | new n ob =>
    simp only [hk] at hkind
    obtain ⟨g1, g2, g3, g4⟩ := hI.new e he n ob hk
    obtain ⟨φ', A', w', nx, k1, k2, k3, k4, k5, k6, k7, k8⟩ := reserved (τ := actual (U.erase e.i) pend σ) (d := []) hG hI.sim g1 (g4 hi) hf hkind.2.1 hkind.2.2 rfl (fun b o2 hb => by
      rw [hI.actual_get] at hb
      rcases hb with ⟨e2, h1, h2, h3⟩ | hb
      · by_cases hbn : b = n
        · subst hbn
          have := hI.nd e2 h1 e he b o2 ob h3 hk
          subst this
          rw [hk] at h3
          injection h3 with _ h3
          exact .inl ⟨rfl, h3.symm⟩
        · refine .inr ⟨hbn, (hI.actual_get U b o2).2 (.inl ⟨e2, h1, fun h => h2 (hI.und.mem_erase_iff.2 ⟨fun heq => ?_, h⟩), h3⟩)⟩
          have := hI.uniq e2 h1 e he heq
          subst this
          rw [hk] at h3
          injection h3 with h3 _
          exact hbn h3.symm
      · refine .inr ⟨fun e => ?_, (hI.actual_get U b o2).2 (.inr hb)⟩
        subst e
        rw [g3] at hb
        cases hb) hI.evo g2
    unfold wpOp
    simp only [ho, hkind.1 φ A tmps hf, if_true]
    refine .inl (wp_of_run (v := e.v.conc φ') k1 ?_ ?_)
    · rcases k2 with h | ⟨h, h'⟩
      · exact .inl h
      · exact .inr ⟨h, by rw [h']; rfl⟩
    · rw [hput]
      refine hK φ' A' w' _ (hI.done he hi ho k4 k5 k7 k8 k3 (fun e2 h1 h2 n2 ob2 h3 h4 => ?_) hlt)
      rcases k6 n2 h4 with h5 | h5
      · exact (hI.new e2 h1 n2 ob2 h3).2.2.2 (hI.und.mem_erase_iff.1 h2).2 h5
      · subst h5
        have := hI.nd e2 h1 e he n2 ob2 ob h3 hk
        subst this
        exact (hI.und.mem_erase_iff.1 h2).1 rfl

end Go.Ab
