/- The abstract machine: regions whose order is drawn: sound. Conditions: none. -/
import Derived.Test.YtanifbomohnefaaDoorAb19
namespace Go.Ab
open Go

variable {P : Program} {Γ : Env} {φ φ' : Phi} {A A' : Nat → Prop} {σ σ' τ : AState} {w w' : World} {R : AV → AState → Prop}
variable {ops : Array Oper} {bef : List (List Nat)} {φ0 : Phi} {A0 : Nat → Prop} {σ0 : AState} {w0 : World} {N : Nat} {l : List (Nat × Cls)} {fr : AFr} {pend : List PE} {U : List Nat} {tmps : Array Value} {listed : Array Bool} {K : AFr → AState → Prop}

theorem actDo_wp (hE : EOk P Γ) {o : Oper} {X : AV → AState → Prop} (h : actDo P Γ fr σ o.op X) (hs : Sim φ A σ w) (hf : FrOk φ A fr tmps) {Kn : Act → World → Prop} {Q : Exit → Act → World → Prop}
    (hK : ∀ v σ' φ' A' w', X v σ' → v.ok φ' A' → Sim φ' A' σ' w' → Evo φ A σ w φ' A' σ' w' → Kn ((⟨tmps, []⟩ : Act).put o.dst (v.conc φ')) w') : o.wp P ⟨tmps, []⟩ w Kn Q := by
  have calls : ∀ f args F, acallOf Γ fr o.op = some (some (f, args)) → Γ.fn.get f = some F → ACalls P f args σ X → o.wp P ⟨tmps, []⟩ w Kn Q := by
    intro f args F h1 h2 h3
    obtain ⟨hrun, hok⟩ := acall_ok (d := []) hE.g hf o h1 h2 w
    unfold Oper.wp
    rw [hrun, Oper.upon_enter]
    refine (h3 φ A w hs hok).mono ?_
    rintro e w' ⟨v, σ', φ', A', g1, rfl, g2, g3, g4⟩
    exact hK v σ' φ' A' w' g1 g2 g3 g4
  have opres : ∀ v σ', (aop Γ fr σ o.op).gives v σ' → X v σ' → o.wp P ⟨tmps, []⟩ w Kn Q := by
    intro v σ' h1 h2
    obtain ⟨φ', A', w', nx, k1, k2, k3, k4, k5⟩ := aop_ok (d := []) hE.g hs hf o h1
    refine wp_of_run (v := v.conc φ') k1 ?_ (hK v σ' φ' A' w' h2 k3 k4 k5)
    rcases k2 with h | ⟨h, h'⟩
    · exact .inl h
    · exact .inr ⟨h, by rw [h']; rfl⟩
  unfold actDo at h
  split at h
  · split at h
    · exact h.elim
    · rename_i v σ' hop
      exact opres v σ' (by rw [hop]; exact ⟨rfl, rfl⟩) h
    · rename_i p v σ' hop
      exact opres v σ' (by rw [hop]; exact ⟨h.1, rfl, rfl⟩) h.2
  · exact h.elim
  · rename_i f args hc
    split at h
    · exact h.elim
    · rename_i F hF
      split at h
      · rename_i s hsp
        split at h
        · rename_i p v σ' hsv
          refine calls f args F hc hF ((hE.s f s hsp args σ _ v σ' hsv (fun q hq => by injection hq with e; exact e ▸ h.1)).mono ?_)
          rintro v' σ'' ⟨rfl, rfl⟩; exact h.2
        · rename_i v σ' hsv
          refine calls f args F hc hF ((hE.s f s hsp args σ _ v σ' hsv (fun q hq => by cases hq)).mono ?_)
          rintro v' σ'' ⟨rfl, rfl⟩; exact h
        · exact h.elim
      · exact calls f args F hc hF h

theorem mem_dropBef {m : List Nat} {e : PE} : {pend : List PE} → (e ∈ dropBef m pend ↔ e ∈ pend ∧ ¬ e.i ∈ m)
  | [] => by simp [dropBef]
  | x :: r => by
    simp only [dropBef]
    cases hm : memB x.i m with
    | true =>
      simp only [mem_dropBef (pend := r), List.mem_cons]
      constructor
      · rintro ⟨h1, h2⟩; exact ⟨.inr h1, h2⟩
      · rintro ⟨rfl | h1, h2⟩
        · exact absurd (memB_iff.1 hm) h2
        · exact ⟨h1, h2⟩
    | false =>
      simp only [List.mem_cons, mem_dropBef (pend := r)]
      constructor
      · rintro (rfl | ⟨h1, h2⟩)
        · exact ⟨.inl rfl, fun h => by rw [memB_iff.2 h] at hm; cases hm⟩
        · exact ⟨.inr h1, h2⟩
      · rintro ⟨rfl | h1, h2⟩
        · exact .inl rfl
        · exact .inr ⟨h1, h2⟩

theorem recheck_mem {all : List PE} : {l : List PE} → recheck Γ ops bef all σ l → ∀ e ∈ l,
    (e.k = .read → ∃ o, ops[e.i]? = some o ∧ readOk e.v (aop Γ e.fr (rdSt (visOf (befOf bef e.i) all) σ) o.op)) ∧ (∀ n ob, e.k = .new n ob → σ.get n = none)
  | [], _, e, he => by simp at he
  | x :: r, h, e, he => by
    simp only [recheck, nth_arr] at h
    have hrest : recheck Γ ops bef all σ r := by
      cases hk : x.k <;> simp only [hk] at h
      case read =>
        cases ho : ops[x.i]? with
        | none => simp [ho] at h
        | some o => simp only [ho] at h; exact h.2
      case new => exact h.2
      all_goals exact h
    rcases List.mem_cons.1 he with rfl | he
    · refine ⟨fun hk => ?_, fun n ob hk => ?_⟩
      · simp only [hk] at h
        cases ho : ops[e.i]? with
        | none => simp [ho] at h
        | some o => simp only [ho] at h; exact ⟨o, rfl, h.1⟩
      · simp only [hk] at h
        exact h.1
    · exact recheck_mem hrest e he

/-- An operation that acts has been done. -/
theorem Inv.acted {i : Nat} {c : Cls} {o : Oper} {v : AV} (hI : Inv Γ ops bef φ0 A0 σ0 w0 N ((i, c) :: l) fr σ pend U φ A w tmps listed) (ho : ops[i]? = some o) (hbl : ∀ j ∈ befOf bef i, ¬ j ∈ U)
    (hs : Sim φ' A' σ' w') (he' : Evo φ A (withBlks (visOf (befOf bef i) pend) σ) w φ' A' σ' w') (hv : v.ok φ' A') (hr : recheck Γ ops bef (dropBef (befOf bef i) pend) σ' (dropBef (befOf bef i) pend))
    (hlt : ∀ d, o.dst = some d → d < tmps.size) :
    Inv Γ ops bef φ0 A0 σ0 w0 N l (putFr o.dst v fr) σ' (dropBef (befOf bef i) pend) U φ' A' w' ((⟨tmps, []⟩ : Act).put o.dst (v.conc φ')).tmps (listed.setIfInBounds i true) := by
  obtain ⟨_, hpair, _, hord⟩ := ordOk_cons hI.ord
  have hdo : dstOf ops i = o.dst := by rw [dstOf_eq, ho]; rfl
  have hsz : i < ops.size := (Array.getElem?_eq_some_iff.1 ho).1
  have hpe : ∀ e ∈ pend, ∃ ce : Cls, ce.isAct = false ∧ Pair ops bef (e.i, ce) (i, c) := fun e he => by
    obtain ⟨ce, h1, h2⟩ := hI.pl e he
    exact ⟨ce, h1, pair_of (h2 _ List.mem_cons_self)⟩
  have hin : ∀ e, e ∈ dropBef (befOf bef i) pend → e ∈ pend ∧ ¬ e.i ∈ befOf bef i := fun e he => mem_dropBef.1 he
  have hrm := recheck_mem hr
  have hiU : ¬ i ∈ U := fun h => hI.ul i h (by rw [indices_cons]; exact List.mem_cons_self)
  have hle : σ.next ≤ σ'.next := he'.le
  have hnx' : ∀ b, A' b → A b ∨ σ.next ≤ b := he'.new
  have hvis := hI.vis_get (befOf bef i)
  have hsub : Sub (withBlks (visOf (befOf bef i) pend) σ) (actual U pend σ) := fun b ob hb => by
    rw [hvis] at hb
    rw [hI.actual_get]
    rcases hb with ⟨e, h1, h2, h3⟩ | h
    · exact .inl ⟨e, h1, hbl _ h2, h3⟩
    · exact .inr h
  have hag' : ∀ b o2, (actual U (dropBef (befOf bef i) pend) σ').get b = some o2 → (∃ e ∈ pend, ¬ e.i ∈ befOf bef i ∧ ¬ e.i ∈ U ∧ e.k = .new b o2) ∨ σ'.get b = some o2 := by
    intro b o2 hb
    unfold actual at hb
    rw [withBlks_get, blks_get _ (fun e he n ob hk => (hrm e he).2 n ob hk) (fun e he e2 he2 => hI.nd e (hin e he).1 e2 (hin e2 he2).1)] at hb
    rcases hb with ⟨e, h1, h2, h3⟩ | h
    · refine .inl ⟨e, (hin e h1).1, (hin e h1).2, fun h => ?_, h3⟩
      rw [memB_iff.2 h] at h2; cases h2
    · exact .inr h
  obtain ⟨f1, f2⟩ := frame_rule (τ := actual U (dropBef (befOf bef i) pend) σ') hI.sim hsub rfl hs he' rfl (fun b o2 hb => by
    rcases hag' b o2 hb with ⟨e, h1, h2, h3, h4⟩ | h
    · refine .inr ⟨?_, (hI.actual_get U b o2).2 (.inl ⟨e, h1, h3, h4⟩)⟩
      cases hg : (withBlks (visOf (befOf bef i) pend) σ).get b with
      | none => rfl
      | some o3 =>
        rw [hvis] at hg
        rcases hg with ⟨e2, g1, g2, g3⟩ | g
        · have := hI.nd e h1 e2 g1 b o2 o3 h4 g3
          subst this
          exact absurd g2 h2
        · rw [(hI.new e h1 b o2 h4).2.2.1] at g; cases g
    · exact .inl h)
  refine ⟨hord, by simp [hI.sl], by rw [put_size]; exact hI.st, fun j hj => ?_, fun j hj => ?_, hI.und, fun j hj => ?_, fun e he e2 he2 => hI.uniq e (hin e he).1 e2 (hin e2 he2).1,
    fun e he e2 he2 => hI.nd e (hin e he).1 e2 (hin e2 he2).1, fun e he => ?_, f1, hI.evo.trans f2, fun t x ht => ?_, fun e he d hd => ?_, fun e he => ?_, fun e he e2 he2 => hI.cons e (hin e he).1 e2 (hin e2 he2).1,
    fun e he n ob hk => ?_, fun e he heU t x ht => ?_⟩
  · by_cases hji : i = j
    · subst hji
      have : (listed.setIfInBounds i true).getD i false = true := by simp [hI.sl, hsz]
      simp only [this, true_iff]
      refine ⟨fun hm => ?_, hiU⟩
      obtain ⟨y, h1, h2⟩ := mem_indices.1 hm
      exact (pair_of (hpair y h1)).ne h2.symm
    · rw [getD_set_ne false hji, hI.set j hj, indices_cons]
      simp only [List.mem_cons, not_or]
      exact ⟨fun ⟨⟨_, h2⟩, h3⟩ => ⟨h2, h3⟩, fun ⟨h2, h3⟩ => ⟨⟨fun e => hji e.symm, h2⟩, h3⟩⟩
  · intro hm
    exact hI.ul j hj (by rw [indices_cons]; exact List.mem_cons_of_mem _ hm)
  · obtain ⟨e, h1, rfl⟩ := hI.up j hj
    exact ⟨e, mem_dropBef.2 ⟨h1, fun h => hbl _ h hj⟩, rfl⟩
  · obtain ⟨ce, h1, h2⟩ := hI.pl e (hin e he).1
    exact ⟨ce, h1, fun y hy => h2 y (List.mem_cons_of_mem _ hy)⟩
  · rw [putFr_get] at ht
    rw [put_get hlt]
    by_cases hd : o.dst = some t
    · rw [if_pos hd] at ht ⊢
      injection ht with ht
      subst ht
      exact .inr ⟨hv, rfl⟩
    · rw [if_neg hd] at ht ⊢
      rcases hI.fro t x ht with h | ⟨h1, h2⟩
      · exact .inl h
      · exact .inr ⟨ok_congr he'.agree he'.sub x h1, by rw [conc_congr he'.agree h1]; exact h2⟩
  · obtain ⟨ce, _, hp⟩ := hpe e (hin e he).1
    have hne := hp.dd d hd
    simp only [hdo] at hne
    rw [putFr_get, if_neg hne]
    exact hI.dst e (hin e he).1 d hd
  · obtain ⟨o2, h1, h2, h3, h4⟩ := hI.op e (hin e he).1
    refine ⟨o2, h1, h2, fun hU => ?_, h4⟩
    have h5 := h3 hU
    unfold kindOk at h5 ⊢
    cases hek : e.k <;> simp only [hek] at h5 ⊢ <;> first | exact h5 | skip
    obtain ⟨o3, g1, g2⟩ := (hrm e he).1 hek
    rw [h1] at g1
    injection g1 with g1
    subst g1
    exact ⟨h5.1, h5.2.1, g2⟩
  · obtain ⟨h1, h2, h3, h4⟩ := hI.new e (hin e he).1 n ob hk
    refine ⟨by omega, h2, (hrm e he).2 n ob hk, fun hU hA => ?_⟩
    rcases hnx' n hA with h5 | h5
    · exact h4 hU h5
    · omega
  · rw [put_get hlt]
    have hne : o.dst ≠ some t := fun hd => by
      obtain ⟨o2, h1, h2, _⟩ := hI.op e (hin e he).1
      obtain ⟨ce, _, hp⟩ := hpe e (hin e he).1
      exact hbl _ (hp.war t o2 h1 (by rw [hdo]; exact hd) (h2 t x ht)).2 heU
    rw [if_neg hne]
    rcases hI.efr e (hin e he).1 heU t x ht with h | ⟨h1, h2⟩
    · exact .inl h
    · exact .inr ⟨ok_congr he'.agree he'.sub x h1, by rw [conc_congr he'.agree h1]; exact h2⟩

/-- The next operation that acts is done by the model. -/
theorem exec_act (hE : EOk P Γ) {Q : Exit → Act → World → Prop} {Kn : Act → World → Prop} {i : Nat} {c : Cls} (hc : c.isAct = true) (hI : Inv Γ ops bef φ0 A0 σ0 w0 N ((i, c) :: l) fr σ pend U φ A w tmps listed)
    (hbl : ∀ j ∈ befOf bef i, ¬ j ∈ U) (hin : opsIn tmps.size ops.toList = true) (h : DR P Γ ops bef K ((i, c) :: l) fr σ pend)
    (hK : ∀ fr' σ' pend' φ' A' w' tmps', Inv Γ ops bef φ0 A0 σ0 w0 N l fr' σ' pend' U φ' A' w' tmps' (listed.setIfInBounds i true) → DR P Γ ops bef K l fr' σ' pend' → Kn ⟨tmps', []⟩ w') : wpOp P ops Q i Kn ⟨tmps, []⟩ w := by
  have hsome : ∃ o, ops[i]? = some o := by
    obtain ⟨hcls, _⟩ := ordOk_cons hI.ord
    unfold clsOk at hcls
    simp only [nth_arr] at hcls
    cases ho : ops[i]? with
    | none => simp [ho] at hcls
    | some o => exact ⟨o, rfl⟩
  obtain ⟨o, ho⟩ := hsome
  have hca : c = .act := by cases c <;> simp [Cls.isAct] at hc; rfl
  subst hca
  have hdo : dstOf ops i = o.dst := by rw [dstOf_eq, ho]; rfl
  have hlt : ∀ d, o.dst = some d → d < tmps.size := fun d hd => dst_lt hin (by rw [hdo]; exact hd)
  have hput : ∀ x, (⟨tmps, []⟩ : Act).put o.dst x = ⟨((⟨tmps, []⟩ : Act).put o.dst x).tmps, []⟩ := fun x => by rw [Act.put_dst]
  simp only [DR, nth_arr, ho] at h
  have go : ∀ fr1 want, Inv Γ ops bef φ0 A0 σ0 w0 N ((i, .act) :: l) fr1 σ pend U φ A w tmps listed → wantFact ops o (restrictFr fr1 (looks ops o)) want →
      drWant P Γ ops bef (DR P Γ ops bef K l) i .act o fr1 σ pend want → wpOp P ops Q i Kn ⟨tmps, []⟩ w := by
    intro fr1 want hI1 hw hd
    have hf : FrOk φ A (restrictFr fr1 (looks ops o)) tmps := by
      refine ⟨fun t v ht => ?_, hI1.sim.glob⟩
      obtain ⟨h1, h2⟩ := restrict_get _ t v ht
      rcases hI1.fro t v h2 with ⟨j, h3, h4⟩ | h3
      · obtain ⟨e, h5, rfl⟩ := hI1.up j h3
        obtain ⟨ce, h6, h7⟩ := hI1.pl e h5
        have hp := pair_of (h7 _ List.mem_cons_self)
        exact absurd h3 (hbl _ (hp.raw t o ho h4 h1))
      · exact h3
    have hsub : Sub (withBlks (visOf (befOf bef i) pend) σ) (actual U pend σ) := fun b ob hb => by
      rw [hI1.vis_get] at hb
      rw [hI1.actual_get]
      rcases hb with ⟨e, h1, h2, h3⟩ | h
      · exact .inl ⟨e, h1, hbl _ h2, h3⟩
      · exact .inr h
    have hs1 := hI1.sim.sub hsub (Nat.le_refl _)
    unfold wpOp
    simp only [ho, hw φ A tmps hf]
    cases want
    · simp only [drWant, drSkip] at hd
      simp only [Bool.false_eq_true, if_false]
      have := hI1.acted (v := .undef) ho hbl hs1 (.refl _ _ _ _) (by simp [AV.undef, AV.ok, AV.oks]) hd.1 hlt
      rw [conc_undef] at this
      rw [hput]
      exact hK _ _ _ _ _ _ _ this hd.2
    · simp only [drWant, drOp] at hd
      simp only [if_true]
      refine .inl (actDo_wp hE hd hs1 hf fun v σ' φ' A' w' hx k1 k2 k3 => ?_)
      rw [hput]
      exact hK _ _ _ _ _ _ _ (hI1.acted ho hbl k2 k3 k1 hx.1 hlt) hx.2
  refine want_cases (ops := ops) (fr := fr) (o := o) (fun hl => ?_) (fun hy hw => ?_) (fun hn hw => ?_) (fun d b want ha he hw => ?_)
  · rw [hl] at h; exact h
  · rw [hy] at h; exact go fr true hI hw h
  · rw [hn] at h; exact go fr false hI hw h
  · rw [ha] at h
    refine go ((d, .bool b) :: fr) (b == want) (hI.congr he) hw ?_
    cases b
    · cases want <;> exact h
    · cases want <;> exact h

def Closed (ops : Array Oper) (listed : Array Bool) : Prop := ∀ (i : Nat) (o : Oper) (e : Edge), listed.getD i false = true → ops[i]? = some o → e ∈ o.after → Region.binds .any e = true → listed.getD e.on false = true

theorem befOk_at : (n : Nat) → befOk ops bef n = true → ∀ i, i < n → ∀ o, ops[i]? = some o →
    (∀ e ∈ o.after, Region.binds .any e = true → e.on < i) ∧ ∀ j ∈ befOf bef i, ∃ e ∈ o.after, Region.binds .any e = true ∧ (e.on = j ∨ j ∈ befOf bef e.on)
  | 0, _, i, hi, _, _ => by omega
  | n + 1, h, i, hi, o, ho => by
    simp only [befOk, nth_arr, Bool.and_eq_true] at h
    rcases Nat.lt_or_ge i n with h1 | h1
    · exact befOk_at n h.1 i h1 o ho
    · have : i = n := by omega
      subst this
      simp only [ho, Bool.and_eq_true, List.all_eq_true, List.any_eq_true, Bool.or_eq_true, Bool.not_eq_true'] at h
      refine ⟨fun e he hb => ?_, fun j hj => ?_⟩
      · rcases h.2.1 e (by simpa using he) with h2 | h2
        · rw [hb] at h2; cases h2
        · exact Nat.le_of_ble_eq_true h2
      · obtain ⟨e, h2, h3, h4⟩ := h.2.2 j hj
        refine ⟨e, by simpa using h2, h3, ?_⟩
        rcases h4 with h4 | h4
        · exact .inl (Nat.eq_of_beq_eq_true h4)
        · exact .inr (memB_iff.1 h4)

theorem bef_listed (hb : befOk ops bef ops.size = true) (hc : Closed ops listed) : (n : Nat) → ∀ i, i < n → ∀ o, ops[i]? = some o → (∀ e ∈ o.after, Region.binds .any e = true → listed.getD e.on false = true) →
    ∀ j ∈ befOf bef i, listed.getD j false = true ∧ j < ops.size
  | 0, i, hi, _, _, _, _, _ => by omega
  | n + 1, i, hi, o, ho, hl, j, hj => by
    have hsz := (Array.getElem?_eq_some_iff.1 ho).1
    obtain ⟨h1, h2⟩ := befOk_at ops.size hb i hsz o ho
    obtain ⟨e, h3, h4, h5⟩ := h2 j hj
    have hlt := h1 e h3 h4
    have hle := hl e h3 h4
    rcases h5 with rfl | h5
    · exact ⟨hle, by omega⟩
    · have ho2 : ops[e.on]? = some (ops[e.on]'(by omega)) := by simp
      exact bef_listed hb hc n e.on (by omega) _ ho2 (fun e2 h6 h7 => hc e.on _ e2 hle ho2 h6 h7) j h5

theorem Closed.set (hc : Closed ops listed) {i : Nat} {o : Oper} (ho : ops[i]? = some o) (hr : ∀ e ∈ o.after, Region.binds .any e = true → listed.getD e.on false = true) : Closed ops (listed.setIfInBounds i true) := by
  intro j o2 e hj ho2 he hb
  refine getD_set_true ?_
  by_cases hji : j = i
  · subst hji
    rw [ho] at ho2
    injection ho2 with ho2
    subst ho2
    exact hr e he hb
  · rw [getD_set_ne false (fun h => hji h.symm)] at hj
    exact hc j o2 e hj ho2 he hb

theorem all_listed (hb : befOk ops bef ops.size = true) (hsz : listed.size = ops.size) (hr : Region.ready .any ops listed = []) : (n : Nat) → ∀ i, i < n → i < ops.size → listed.getD i false = true
  | 0, i, hi, _ => by omega
  | n + 1, i, hi, hs => by
    have ih := all_listed hb hsz hr n
    have ho : ops[i]? = some ops[i] := by simp [hs]
    obtain ⟨h1, _⟩ := befOk_at ops.size hb i hs _ ho
    cases hl : listed.getD i false with
    | true => rfl
    | false =>
      have : i ∈ Region.ready .any ops listed := by
        rw [mem_ready]
        refine ⟨?_, _, ho, fun e he hb => ih e.on (by have := h1 e he hb; omega) (by have := h1 e he hb; omega)⟩
        simp [hsz, hs] at hl ⊢
        exact hl
      rw [hr] at this
      cases this

def endQ (P : Program) (K : AFr → AState → Prop) (φ0 : Phi) (A0 : Nat → Prop) (σ0 : AState) (w0 : World) (N : Nat) : Exit → Act → World → Prop
  | .normal, a, w => a.defers = [] ∧ a.tmps.size = N ∧ ∃ fr σ φ A, K fr σ ∧ Sim φ A σ w ∧ FrOk φ A fr a.tmps ∧ Evo φ0 A0 σ0 w0 φ A σ w
  | _, _, _ => False

theorem any_ok (hE : EOk P Γ) (hb : befOk ops bef ops.size = true) (hin : opsIn N ops.toList = true) : (fuel : Nat) → ∀ {l : List (Nat × Cls)} {fr : AFr} {σ : AState} {pend : List PE} {U : List Nat} {φ : Phi} {A : Nat → Prop} {w : World} {tmps : Array Value} {listed : Array Bool},
    Inv Γ ops bef φ0 A0 σ0 w0 N l fr σ pend U φ A w tmps listed → DR P Γ ops bef K l fr σ pend → (∀ x r, l = x :: r → x.2.isAct = true) → U.length + l.length = fuel → Closed ops listed →
    wpAny P .any ops (endQ P K φ0 A0 σ0 w0 N) fuel listed ⟨tmps, []⟩ w := by
  have fin : ∀ {l : List (Nat × Cls)} {fr : AFr} {σ : AState} {pend : List PE} {U : List Nat} {φ : Phi} {A : Nat → Prop} {w : World} {tmps : Array Value} {listed : Array Bool},
      Inv Γ ops bef φ0 A0 σ0 w0 N l fr σ pend U φ A w tmps listed → DR P Γ ops bef K l fr σ pend → Region.ready .any ops listed = [] → endQ P K φ0 A0 σ0 w0 N .normal ⟨tmps, []⟩ w := by
    intro l fr σ pend U φ A w tmps listed hI h hr
    have hall := fun i hi => all_listed hb hI.sl hr (i + 1) i (Nat.lt_succ_self _) hi
    have hU : U = [] := by
      cases hU : U with
      | nil => rfl
      | cons j r =>
        have hj : j ∈ U := by rw [hU]; exact List.mem_cons_self
        obtain ⟨e, h1, rfl⟩ := hI.up j hj
        obtain ⟨o, ho, _⟩ := hI.op e h1
        have hs := (Array.getElem?_eq_some_iff.1 ho).1
        exact absurd hj ((hI.set _ hs).1 (hall _ hs)).2
    have hl : l = [] := by
      cases hl : l with
      | nil => rfl
      | cons x r =>
        obtain ⟨hcls, _⟩ := ordOk_cons (hl ▸ hI.ord)
        unfold clsOk at hcls
        simp only [nth_arr] at hcls
        cases ho : ops[x.1]? with
        | none => simp [ho] at hcls
        | some o =>
          have hs := (Array.getElem?_eq_some_iff.1 ho).1
          exact absurd (by rw [hl, indices_cons]; exact List.mem_cons_self) ((hI.set _ hs).1 (hall _ hs)).1
    subst hU hl
    simp only [DR] at h
    refine ⟨rfl, hI.st, fr, _, φ, A, h, ?_, ⟨fun t v ht => ?_, hI.sim.glob⟩, ?_⟩
    · have := hI.sim
      unfold actual at this
      rw [allBlks_by]
      have e : (fun e : PE => !memB e.i []) = fun _ => true := by funext e; rfl
      rw [e] at this
      exact this
    · rcases hI.fro t v ht with ⟨j, h1, _⟩ | h1
      · cases h1
      · exact h1
    · have := hI.evo
      unfold actual at this
      rw [allBlks_by]
      have e : (fun e : PE => !memB e.i []) = fun _ => true := by funext e; rfl
      rw [e] at this
      exact this
  intro fuel
  induction fuel with
  | zero =>
    intro l fr σ pend U φ A w tmps listed hI h hh hlen hc
    have hr : Region.ready .any ops listed = [] := by
      cases hr : Region.ready .any ops listed with
      | nil => rfl
      | cons i r =>
        have hm : i ∈ Region.ready .any ops listed := by rw [hr]; exact List.mem_cons_self
        rw [mem_ready] at hm
        obtain ⟨h1, o, ho, _⟩ := hm
        have hs := (Array.getElem?_eq_some_iff.1 ho).1
        have hU : U = [] := List.eq_nil_of_length_eq_zero (by omega)
        have hl : l = [] := List.eq_nil_of_length_eq_zero (by omega)
        subst hU hl
        have := (hI.set i hs).2 ⟨by simp [indices], by simp⟩
        simp [hI.sl, hs] at h1 this
        rw [h1] at this; cases this
    exact ⟨hr, fin hI h hr⟩
  | succ fuel ih =>
    intro l fr σ pend U φ A w tmps listed hI h hh hlen hc
    refine ⟨fun hr => fin hI h hr, fun i hi => ?_⟩
    rw [mem_ready] at hi
    obtain ⟨h1, o, ho, hall⟩ := hi
    have hs := (Array.getElem?_eq_some_iff.1 ho).1
    have hin' : opsIn tmps.size ops.toList = true := by rw [hI.st]; exact hin
    have hbl : ∀ j ∈ befOf bef i, ¬ j ∈ U := fun j hj hU => by
      obtain ⟨g1, g2⟩ := bef_listed hb hc (i + 1) i (Nat.lt_succ_self _) o ho hall j hj
      exact ((hI.set j g2).1 g1).2 hU
    have hc' := hc.set ho hall
    have hnl : ¬ (¬ i ∈ indices l ∧ ¬ i ∈ U) := fun hn => by
      have := (hI.set i hs).2 hn
      simp [hI.sl, hs] at h1 this
      rw [h1] at this; cases this
    by_cases hU : i ∈ U
    · refine exec_pend hE.g hI hU hbl hin' fun φ' A' w' tmps' hI' => ih hI' h hh ?_ hc'
      have := List.length_erase_of_mem hU
      have hpos := List.length_pos_of_mem hU
      omega
    · have hil : i ∈ indices l := Classical.byContradiction fun h => hnl ⟨h, hU⟩
      match hl : l with
      | [] => simp [indices] at hil
      | (i0, c) :: rest =>
        have hact := hh _ _ rfl
        have hi0 : i = i0 := by
          rw [indices_cons] at hil
          rcases List.mem_cons.1 hil with h2 | h2
          · exact h2
          · exfalso
            obtain ⟨y, h3, rfl⟩ := mem_indices.1 h2
            obtain ⟨_, _, hhead, _⟩ := ordOk_cons hI.ord
            have := hhead hact
            unfold headOk at this
            rw [List.all_eq_true] at this
            have := this y h3
            simp only [nth_arr, ho, List.any_eq_true, Bool.and_eq_true] at this
            obtain ⟨e, h4, h5, h6⟩ := this
            have hle := hall e (by simpa using h4) h5
            obtain ⟨g1, _⟩ := befOk_at ops.size hb _ hs o ho
            have hlt := g1 e (by simpa using h4) h5
            exact ((hI.set e.on (by omega)).1 hle).1 (memB_iff.1 h6)
        subst hi0
        refine exec_act hE hact hI hbl hin' h fun fr' σ' pend' φ' A' w' tmps' hI' h' => ?_
        obtain ⟨l2, fr2, σ2, pend2, U2, g1, g2, g3, g4⟩ := advance rest hI' h'
        refine ih g1 g2 g3 ?_ hc'
        simp only [List.length_cons] at hlen
        omega

theorem Sim.drawn (h : Sim φ A σ w) (n : Nat) : Sim φ A σ { w with drawn := n } :=
  ⟨h.inA, h.lt, fun b o hb => ObjOk.congr (.refl _ _) (fun _ h => h) rfl (h.obj b o hb), h.inj, h.glob⟩

/-- A region whose order is drawn, by its plan. -/
theorem AW.draw (hE : EOk P Γ) {pl : Plan} (hpl : pl.ok ops = true) {fn : FuncId} {id : Nat} {k : List Item} (h : DR P Γ ops pl.bef (fun fr σ => AW P ⟨fn, k, fr, σ⟩ R) pl.ord fr σ []) :
    AW P ⟨fn, .code (.region id ops true) :: k, fr, σ⟩ R := by
  unfold Plan.ok at hpl
  simp only [Bool.and_eq_true, List.all_eq_true] at hpl
  obtain ⟨⟨⟨hord, hbef⟩, hall⟩, hlen⟩ := hpl
  have hlen := Nat.eq_of_beq_eq_true hlen
  intro φ A w tmps b cs h1 h2 h3 h4 h5
  simp only [itemsIn, itemIn, codeIn, Bool.and_eq_true] at h3
  have hs0 := h4.drawn (w.drawn + 1)
  have he0 : Evo φ A σ w φ A σ { w with drawn := w.drawn + 1 } :=
    ⟨.refl _ _, fun _ h => h, fun _ h => .inl h, Nat.le_refl _, Nat.le_refl _, fun _ _ _ => rfl, fun b o h => .inl ⟨b, o, h, fun x => x, rfl⟩, ⟨rfl, rfl, rfl, Nat.le_succ _⟩⟩
  have hI : Inv Γ ops pl.bef φ A σ w tmps.size pl.ord fr σ [] [] φ A { w with drawn := w.drawn + 1 } tmps (Array.replicate ops.size false) :=
    { ord := hord, sl := by simp, st := rfl
      set := fun i hi => by
        have hm := memB_iff.1 (hall i (by simpa using hi))
        simp [hi, hm]
      ul := fun _ h => by cases h
      und := List.nodup_nil
      up := fun _ h => by cases h
      uniq := fun _ h => by cases h
      nd := fun _ h => by cases h
      pl := fun _ h => by cases h
      sim := hs0, evo := he0
      fro := fun t v ht => .inr (h5.get t v ht)
      dst := fun _ h => by cases h
      op := fun _ h => by cases h
      cons := fun _ h => by cases h
      new := fun _ h => by cases h
      efr := fun _ h => by cases h }
  obtain ⟨l2, fr2, σ2, pend2, U2, g1, g2, g3, g4⟩ := advance pl.ord hI h
  have hany := any_ok hE hbef h3.1 ops.size g1 g2 g3 (by rw [g4, hlen]; simp) (fun i o e hl => by
    by_cases hi : i < ops.size
    · simp [hi] at hl
    · simp [hi] at hl)
  obtain ⟨e, a', w', hq, harr⟩ := wp_region_any hE.g.mixed hany b k cs
  cases e with
  | normal =>
    obtain ⟨hd, hsz, fr', σ', φ', A', hk, q1, q2, q3⟩ := hq
    have ha' : a' = ⟨a'.tmps, []⟩ := by obtain ⟨t, d⟩ := a'; simp only at hd; subst hd; rfl
    rw [ha'] at harr
    exact Goes.step harr q3 (hk.goes h1 h2 (by rw [hsz]; exact h3.2) q1 q2)
  | _ => exact hq.elim

end Go.Ab
