/- The abstract machine: how abstract memory stands to the model's memory, and what allocations and stores make of it. Conditions: none. -/
import Derived.Test.YtanifbomohnefaaDoorAb2
import Derived.Laws.Sem
import Derived.Laws.World
import Derived.Laws.Cells
namespace Go.Ab
open Go

theorem add_at (b o i : Nat) : (⟨b, o, none⟩ : Addr).add i = ⟨b, o + i, none⟩ := by
  unfold Addr.add; split
  · subst_vars; rfl
  · rfl

/-- All but the heap as it was; draws may have been made. -/
structure Rest (w w' : World) : Prop where
  tape : w'.tape = w.tape
  os : w'.os = w.os
  output : w'.output = w.output
  drawn : w.drawn ≤ w'.drawn

theorem Rest.refl (w : World) : Rest w w := ⟨rfl, rfl, rfl, Nat.le_refl _⟩
theorem Rest.trans {a b c : World} (h : Rest a b) (h' : Rest b c) : Rest a c :=
  ⟨h'.tape.trans h.tape, h'.os.trans h.os, h'.output.trans h.output, Nat.le_trans h.drawn h'.drawn⟩

theorem cell_of {w : World} {blk : Nat} {cs : Array Value} {e : TypeId} {fz : Nat × Nat} (h : w.heap[blk]? = some (.cells cs e fz)) (o : Nat) :
    w.cell? ⟨blk, o, none⟩ = cs[o]? := by simp [World.cell?, h]

theorem storeCells_run (P : Program) (blk off : Nat) : ∀ (vs : List Value) (i : Nat) (w : World) (cs : Array Value) (e : TypeId) (lo hi : Nat),
    w.heap[blk]? = some (.cells cs e (lo, hi)) → hi ≤ lo → (vs ≠ [] → off + i + vs.length ≤ cs.size) → (∀ v ∈ vs, v.oneCell' = true) →
    ∃ w' cs', (storeCells ⟨blk, off, none⟩ vs i).run P w = .ok () w' ∧ w'.heap[blk]? = some (.cells cs' e (lo, hi)) ∧ cs'.size = cs.size ∧
      (∀ j, cs'[j]? = if off + i ≤ j ∧ j < off + i + vs.length then vs[j - (off + i)]? else cs[j]?) ∧
      (∀ c, c ≠ blk → w'.heap[c]? = w.heap[c]?) ∧ w'.heap.size = w.heap.size ∧ Rest w w'
  | [], i, w, cs, e, lo, hi, h, _, _, _ => by
    refine ⟨w, cs, rfl, h, rfl, fun j => ?_, fun _ _ => rfl, rfl, .refl w⟩
    rw [if_neg (by simp only [List.length_nil]; omega)]
  | v :: vs, i, w, cs, e, lo, hi, h, hf, hs, hv => by
    have hs := hs (by simp)
    simp only [List.length_cons] at hs
    have hc : w.cell? ⟨blk, off + i, none⟩ = some (cs[off + i]'(by omega)) := by rw [cell_of h]; simp
    have hfz : w.frozen? ⟨blk, off + i, none⟩ = false := by
      simp only [World.frozen?, h]; simp; omega
    have h1 : (w.setCell ⟨blk, off + i, none⟩ v).heap[blk]? = some (.cells (cs.setIfInBounds (off + i) v) e (lo, hi)) := by
      simp [World.setCell, Array.getElem?_modify, h]
    obtain ⟨w', cs', g1, g2, g3, g4, g5, g6, g7⟩ := storeCells_run P blk off vs (i + 1) (w.setCell ⟨blk, off + i, none⟩ v) (cs.setIfInBounds (off + i) v) e lo hi h1 hf
      (fun _ => by simp; omega) (fun x hx => hv x (List.mem_cons_of_mem _ hx))
    refine ⟨w', cs', ?_, g2, by simpa using g3, fun j => ?_, fun c hcb => ?_, by simpa using g6, ⟨g7.tape, g7.os, g7.output, g7.drawn⟩⟩
    · simp only [storeCells, Sem.run_bind, add_at]
      rw [run_store _ _ _ _ _ (hv v (List.mem_cons_self ..)), hc]
      simp only [hfz, Bool.false_eq_true, if_false, Result.andThen_ok]
      exact g1
    · rw [g4]
      by_cases hj : j = off + i
      · subst hj
        rw [if_neg (by omega), if_pos (by simp only [List.length_cons]; omega), Nat.sub_self, Array.getElem?_setIfInBounds_self_of_lt (by omega)]
        rfl
      · by_cases hin : off + (i + 1) ≤ j ∧ j < off + (i + 1) + vs.length
        · have a2 : (off + i ≤ j ∧ j < off + i + (vs.length + 1)) := by omega
          simp only [hin, if_true, List.length_cons, a2, and_self]
          obtain ⟨k, rfl⟩ : ∃ k, j = off + (i + 1) + k := ⟨j - (off + (i + 1)), by omega⟩
          rw [show off + (i + 1) + k - (off + (i + 1)) = k by omega, show off + (i + 1) + k - (off + i) = k + 1 by omega]
          simp
        · have a2 : ¬ (off + i ≤ j ∧ j < off + i + (vs.length + 1)) := by omega
          simp only [hin, if_false, List.length_cons, a2]
          rw [Array.getElem?_setIfInBounds_ne (Ne.symm hj)]
    · rw [g5 c hcb]
      simp [World.setCell, Array.getElem?_modify, Ne.symm hcb]

theorem loadCells_run (P : Program) (w : World) (blk off : Nat) (cs : Array Value) (e : TypeId) (fz : Nat × Nat) (l : List Value)
    (h : w.heap[blk]? = some (.cells cs e fz)) (hl : ∀ j, j < l.length → cs[off + j]? = l[j]?) :
    (loadCells ⟨blk, off, none⟩ l.length).run P w = .ok l.toArray w := by
  rw [run_loadCells_list (cs := l)]
  intro j v hj
  rw [add_at, cell_of h, hl j (by have := (List.getElem?_eq_some_iff.1 hj).1; exact this)]
  exact hj

/-- Values that lie in one cell each. -/
theorem conc_one {φ : Phi} {v : AV} (h : v.scalar) : (v.conc φ).oneCell' = true := by
  cases v <;> first | (simp [AV.scalar] at h; done) | simp [AV.conc, AV.flat, pack, Value.oneCell']

mutual
theorem flat_one {φ : Phi} : (s : Sh) → (v : AV) → HasSh s v → ∀ x ∈ v.flat φ, x.oneCell' = true
  | .leaf, v, h => by
    simp only [HasSh] at h
    rw [flat_scalar h]
    intro x hx
    simp at hx
    subst hx
    exact conc_one h
  | .node ss, v, h => by
    cases v <;> simp only [HasSh] at h
    case strct vs => simp only [AV.flat]; exact flats_one ss vs h
  | .arr n s, v, h => by
    cases v <;> simp only [HasSh] at h
    case arr m f =>
      obtain ⟨rfl, h⟩ := h
      simp only [AV.flat]
      intro x hx
      obtain ⟨i, hi, hx⟩ := List.mem_flatMap.1 hx
      exact flat_one s (f i) (h i (List.mem_range.1 hi)) x hx
theorem flats_one {φ : Phi} : (ss : List Sh) → (vs : List AV) → HasShL ss vs → ∀ x ∈ AV.flats φ vs, x.oneCell' = true
  | [], [], _ => by simp [AV.flats]
  | [], _ :: _, h => by simp [HasShL] at h
  | _ :: _, [], h => by simp [HasShL] at h
  | s :: ss, v :: vs, h => by
    simp only [HasShL] at h
    simp only [AV.flats]
    intro x hx
    rcases List.mem_append.1 hx with hx | hx
    · exact flat_one s v h.1 x hx
    · exact flats_one ss vs h.2 x hx
end

/-- May the object be written? -/
def AObj.written : AObj → Prop
  | .mem _ _ .ro => False
  | _ => True

/-- The object lies in the model's memory at the place. -/
def ObjOk (φ : Phi) (A : Nat → Prop) (w : World) (l : CLoc) : AObj → Prop
  | .mem sh v x => l.sh = sh ∧ HasSh sh v ∧ v.ok φ A ∧ ∃ cs e lo hi, w.heap[l.blk]? = some (.cells cs e (lo, hi)) ∧
      (∀ j, j < sh.size → cs[l.off + j]? = (v.flat φ)[j]?) ∧ (x ≠ .ro → hi ≤ lo) ∧ (x = .tight → l.spare = 0) ∧
      (x = .open → ∃ n es, sh = .arr n es ∧ l.off + (n + l.spare) * es.size ≤ cs.size)
  | .map kk es => ∃ ents clock, w.heap[l.blk]? = some (.map ents clock) ∧
      ents.toList.map (fun e => (e.key, e.val)) = es.map (fun p => (p.1.conc φ, p.2.conc φ)) ∧
      (∀ p ∈ es, p.1.isKey kk = true) ∧ (∀ p ∈ es, p.2.ok φ A) ∧ (∀ e ∈ ents.toList, e.born < clock) ∧ (ents.toList.map (·.born)).Nodup

/-- The program's variables (numbers below 4) lie where the model has them. -/
def GlobOk (φ : Phi) (A : Nat → Prop) : Prop := ∀ g, g ≤ 3 → A g ∧ (φ g).blk = g ∧ (φ g).off = 0

theorem GlobOk.evo {φ φ' : Phi} {A A' : Nat → Prop} (h : GlobOk φ A) (ha : Agree A φ φ') (hs : ∀ b, A b → A' b) : GlobOk φ' A' :=
  fun g hg => let ⟨h1, h2, h3⟩ := h g hg; ⟨hs g h1, by rw [ha g h1]; exact h2, by rw [ha g h1]; exact h3⟩

structure Sim (φ : Phi) (A : Nat → Prop) (σ : AState) (w : World) : Prop where
  inA : ∀ b o, σ.get b = some o → A b
  lt : ∀ b, A b → b < σ.next
  obj : ∀ b o, σ.get b = some o → ObjOk φ A w (φ b) o
  inj : ∀ b b' o o', b ≠ b' → σ.get b = some o → σ.get b' = some o' → (φ b).blk ≠ (φ b').blk
  glob : GlobOk φ A

structure Evo (φ : Phi) (A : Nat → Prop) (σ : AState) (w : World) (φ' : Phi) (A' : Nat → Prop) (σ' : AState) (w' : World) : Prop where
  agree : Agree A φ φ'
  sub : ∀ b, A b → A' b
  new : ∀ b, A' b → A b ∨ σ.next ≤ b
  le : σ.next ≤ σ'.next
  size : w.heap.size ≤ w'.heap.size
  keep : ∀ c, c < w.heap.size → (∀ b o, σ.get b = some o → o.written → (φ b).blk ≠ c) → w'.heap[c]? = w.heap[c]?
  img : ∀ b o, σ'.get b = some o → (∃ b0 o0, σ.get b0 = some o0 ∧ (o.written → o0.written) ∧ (φ b0).blk = (φ' b).blk) ∨ w.heap.size ≤ (φ' b).blk
  rest : Rest w w'

theorem Evo.refl (φ : Phi) (A : Nat → Prop) (σ : AState) (w : World) : Evo φ A σ w φ A σ w :=
  ⟨.refl _ _, fun _ h => h, fun _ h => .inl h, Nat.le_refl _, Nat.le_refl _, fun _ _ _ => rfl, fun b o h => .inl ⟨b, o, h, id, rfl⟩, .refl w⟩

theorem Evo.trans {φ φ1 φ2 : Phi} {A A1 A2 : Nat → Prop} {σ σ1 σ2 : AState} {w w1 w2 : World}
    (h : Evo φ A σ w φ1 A1 σ1 w1) (h' : Evo φ1 A1 σ1 w1 φ2 A2 σ2 w2) : Evo φ A σ w φ2 A2 σ2 w2 where
  agree := fun b hb => (h'.agree b (h.sub b hb)).trans (h.agree b hb)
  sub := fun b hb => h'.sub b (h.sub b hb)
  new := fun b hb => by
    rcases h'.new b hb with h1 | h1
    · exact h.new b h1
    · exact .inr (Nat.le_trans h.le h1)
  le := Nat.le_trans h.le h'.le
  size := Nat.le_trans h.size h'.size
  keep := fun c hc hn => by
    rw [h'.keep c (Nat.lt_of_lt_of_le hc h.size) ?_, h.keep c hc hn]
    intro b o hb ho he
    rcases h.img b o hb with ⟨b0, o0, g1, g2, g3⟩ | g
    · exact hn b0 o0 g1 (g2 ho) (g3.trans he)
    · omega
  img := fun b o hb => by
    rcases h'.img b o hb with ⟨b1, o1, g1, g2, g3⟩ | g
    · rcases h.img b1 o1 g1 with ⟨b0, o0, k1, k2, k3⟩ | k
      · exact .inl ⟨b0, o0, k1, fun x => k2 (g2 x), k3.trans g3⟩
      · exact .inr (by omega)
    · exact .inr (Nat.le_trans h.size g)
  rest := h.rest.trans h'.rest

theorem ObjOk.blk_lt {φ : Phi} {A : Nat → Prop} {w : World} {l : CLoc} {o : AObj} (h : ObjOk φ A w l o) : l.blk < w.heap.size := by
  cases o with
  | mem sh v x => obtain ⟨_, _, _, cs, e, lo, hi, h, _⟩ := h; exact (Array.getElem?_eq_some_iff.1 h).1
  | map kk es => obtain ⟨ents, clock, h, _⟩ := h; exact (Array.getElem?_eq_some_iff.1 h).1

theorem ObjOk.congr {φ φ' : Phi} {A A' : Nat → Prop} {w w' : World} {l : CLoc} {o : AObj} (hφ : Agree A φ φ') (ha : ∀ b, A b → A' b)
    (hw : w'.heap[l.blk]? = w.heap[l.blk]?) (h : ObjOk φ A w l o) : ObjOk φ' A' w' l o := by
  cases o with
  | mem sh v x =>
    obtain ⟨h1, h2, h3, cs, e, lo, hi, h4, h5⟩ := h
    refine ⟨h1, h2, ok_congr hφ ha v h3, cs, e, lo, hi, by rw [hw]; exact h4, ?_⟩
    rw [flat_congr hφ v h3]
    exact h5
  | map kk es =>
    obtain ⟨ents, clock, h1, h2, h3, h4, h5, h6⟩ := h
    refine ⟨ents, clock, by rw [hw]; exact h1, ?_, h3, fun p hp => ok_congr hφ ha _ (h4 p hp), h5, h6⟩
    rw [h2]
    refine List.map_congr_left fun p hp => ?_
    have hk := h3 p hp
    have : p.1.ok φ A := by
      cases hp1 : p.1 <;> rw [hp1] at hk <;> simp [AV.isKey] at hk <;> simp [AV.ok]
    rw [conc_congr hφ this, conc_congr hφ (h4 p hp)]

def upd (φ : Phi) (b : Nat) (l : CLoc) : Phi := fun c => if c = b then l else φ c

theorem hget_cons_same (h : List (Nat × Option AObj)) (b : Nat) (o : Option AObj) : hget ((b, o) :: h) b = o := by
  simp [hget]

theorem hget_cons_ne {h : List (Nat × Option AObj)} {b c : Nat} {o : Option AObj} (hn : b ≠ c) : hget ((b, o) :: h) c = hget h c := by
  have : Nat.beq b c = false := by
    cases hb : Nat.beq b c
    · rfl
    · exact absurd (Nat.eq_of_beq_eq_true hb) hn
  simp [hget, this]

/-- A new block. -/
theorem Sim.alloc {φ : Phi} {A : Nat → Prop} {nx : Nat} {h : List (Nat × Option AObj)} {w : World} (hs : Sim φ A ⟨nx, h⟩ w) (l : CLoc) (o : AObj) (w' : World)
    (hb : l.blk = w.heap.size) (hsz : w.heap.size ≤ w'.heap.size) (hold : ∀ c, c < w.heap.size → w'.heap[c]? = w.heap[c]?) (hr : Rest w w')
    (ho : ObjOk (upd φ nx l) (fun b => A b ∨ b = nx) w' l o) :
    Sim (upd φ nx l) (fun b => A b ∨ b = nx) ⟨nx + 1, (nx, some o) :: h⟩ w' ∧ Evo φ A ⟨nx, h⟩ w (upd φ nx l) (fun b => A b ∨ b = nx) ⟨nx + 1, (nx, some o) :: h⟩ w' ∧
      Agree A φ (upd φ nx l) := by
  have hag : Agree A φ (upd φ nx l) := fun b hA => by
    have := hs.lt b hA
    simp only at this
    simp [upd, Nat.ne_of_lt this]
  have hg : ∀ b o', hget ((nx, some o) :: h) b = some o' → (b = nx ∧ o' = o) ∨ (b ≠ nx ∧ hget h b = some o') := by
    intro b o' hb'
    by_cases hbn : b = nx
    · subst hbn; rw [hget_cons_same] at hb'; exact .inl ⟨rfl, by injection hb' with e; exact e.symm⟩
    · rw [hget_cons_ne (Ne.symm hbn)] at hb'; exact .inr ⟨hbn, hb'⟩
  refine ⟨⟨fun b o' hb' => ?_, fun b hA => ?_, fun b o' hb' => ?_, fun b b' o1 o2 hne h1 h2 => ?_, hs.glob.evo hag (fun _ h => .inl h)⟩, ⟨hag, fun b hA => .inl hA, fun b hA => hA.imp id (fun e => by subst e; exact Nat.le_refl _), by simp, hsz, fun c hc _ => hold c hc, fun b o' hb' => ?_, hr⟩, hag⟩
  · rcases hg b o' hb' with ⟨rfl, _⟩ | ⟨_, h1⟩
    · exact .inr rfl
    · exact .inl (hs.inA b o' h1)
  · rcases hA with hA | rfl
    · have := hs.lt b hA; simp only at this ⊢; omega
    · simp
  · rcases hg b o' hb' with ⟨rfl, rfl⟩ | ⟨hbn, h1⟩
    · simp only [upd, if_true]; exact ho
    · have h2 := hs.obj b o' h1
      rw [show upd φ nx l b = φ b by simp [upd, hbn]]
      exact ObjOk.congr hag (fun _ h => .inl h) (hold _ h2.blk_lt) h2
  · rcases hg b o1 h1 with ⟨rfl, _⟩ | ⟨hb1, g1⟩ <;> rcases hg b' o2 h2 with ⟨rfl, _⟩ | ⟨hb2, g2⟩
    · exact absurd rfl hne
    · have := (hs.obj b' o2 g2).blk_lt
      simp [upd, hb2, hb]; omega
    · have := (hs.obj b o1 g1).blk_lt
      simp [upd, hb1, hb]; omega
    · simp [upd, hb1, hb2]; exact hs.inj b b' o1 o2 hne g1 g2
  · rcases hg b o' hb' with ⟨rfl, _⟩ | ⟨hbn, h1⟩
    · right; simp [upd, hb]
    · left; exact ⟨b, o', h1, id, by simp [upd, hbn]⟩

/-- A block that is written. -/
theorem Sim.put {φ : Phi} {A : Nat → Prop} {nx : Nat} {h : List (Nat × Option AObj)} {w w' : World} (hs : Sim φ A ⟨nx, h⟩ w) (b : Nat) (o o' : AObj)
    (hb : hget h b = some o) (hw : o.written) (hsz : w'.heap.size = w.heap.size) (hold : ∀ c, c ≠ (φ b).blk → w'.heap[c]? = w.heap[c]?) (hr : Rest w w')
    (ho : ObjOk φ A w' (φ b) o') :
    Sim φ A ⟨nx, (b, some o') :: h⟩ w' ∧ Evo φ A ⟨nx, h⟩ w φ A ⟨nx, (b, some o') :: h⟩ w' := by
  have hg : ∀ c o1, hget ((b, some o') :: h) c = some o1 → (c = b ∧ o1 = o') ∨ (c ≠ b ∧ hget h c = some o1) := by
    intro c o1 hc
    by_cases hcb : c = b
    · subst hcb; rw [hget_cons_same] at hc; exact .inl ⟨rfl, by injection hc with e; exact e.symm⟩
    · rw [hget_cons_ne (Ne.symm hcb)] at hc; exact .inr ⟨hcb, hc⟩
  refine ⟨⟨fun c o1 hc => ?_, hs.lt, fun c o1 hc => ?_, fun c c' o1 o2 hne h1 h2 => ?_, hs.glob⟩, ⟨.refl _ _, fun _ h => h, fun _ h => .inl h, Nat.le_refl _, by omega, fun c hc hn => hold c (fun e => hn b o hb hw e.symm), fun c o1 hc => ?_, hr⟩⟩
  · rcases hg c o1 hc with ⟨rfl, _⟩ | ⟨_, h1⟩
    · exact hs.inA c o hb
    · exact hs.inA c o1 h1
  · rcases hg c o1 hc with ⟨rfl, rfl⟩ | ⟨hcb, h1⟩
    · exact ho
    · exact ObjOk.congr (.refl _ _) (fun _ h => h) (hold _ (hs.inj c b o1 o hcb h1 hb)) (hs.obj c o1 h1)
  · rcases hg c o1 h1 with ⟨rfl, _⟩ | ⟨hb1, g1⟩ <;> rcases hg c' o2 h2 with ⟨rfl, _⟩ | ⟨hb2, g2⟩
    · exact absurd rfl hne
    · exact hs.inj c c' o o2 hne hb g2
    · exact hs.inj c c' o1 o hne g1 hb
    · exact hs.inj c c' o1 o2 hne g1 g2
  · rcases hg c o1 hc with ⟨rfl, _⟩ | ⟨_, h1⟩
    · left; exact ⟨c, o, hb, fun _ => hw, rfl⟩
    · left; exact ⟨c, o1, h1, id, rfl⟩

/-- A block that is given up. -/
theorem Sim.kill {φ : Phi} {A : Nat → Prop} {nx : Nat} {h : List (Nat × Option AObj)} {w : World} (hs : Sim φ A ⟨nx, h⟩ w) (b : Nat) :
    Sim φ A ⟨nx, (b, none) :: h⟩ w ∧ Evo φ A ⟨nx, h⟩ w φ A ⟨nx, (b, none) :: h⟩ w := by
  have hg : ∀ c o1, hget ((b, none) :: h) c = some o1 → c ≠ b ∧ hget h c = some o1 := by
    intro c o1 hc
    by_cases hcb : c = b
    · subst hcb; rw [hget_cons_same] at hc; cases hc
    · rw [hget_cons_ne (Ne.symm hcb)] at hc; exact ⟨hcb, hc⟩
  refine ⟨⟨fun c o1 hc => hs.inA c o1 (hg c o1 hc).2, hs.lt, fun c o1 hc => hs.obj c o1 (hg c o1 hc).2, fun c c' o1 o2 hne h1 h2 => hs.inj c c' o1 o2 hne (hg c o1 h1).2 (hg c' o2 h2).2, hs.glob⟩, ⟨.refl _ _, fun _ h => h, fun _ h => .inl h, Nat.le_refl _, Nat.le_refl _, fun _ _ _ => rfl, fun c o1 hc => .inl ⟨c, o1, (hg c o1 hc).2, id, rfl⟩, .refl w⟩⟩

/-- The slots of a frame. -/
structure FrOk (φ : Phi) (A : Nat → Prop) (fr : AFr) (tmps : Array Value) : Prop where
  get : ∀ t v, fget fr t = some v → v.ok φ A ∧ tmps[t]? = some (v.conc φ)
  glob : GlobOk φ A

theorem FrOk.evo {φ φ' : Phi} {A A' : Nat → Prop} {fr : AFr} {tmps : Array Value} (h : FrOk φ A fr tmps) (ha : Agree A φ φ') (hs : ∀ b, A b → A' b) : FrOk φ' A' fr tmps :=
  ⟨fun t v ht => ⟨ok_congr ha hs v (h.get t v ht).1, by rw [conc_congr ha (h.get t v ht).1]; exact (h.get t v ht).2⟩, h.glob.evo ha hs⟩

end Go.Ab
