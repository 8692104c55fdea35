/- From what a call leads to in the abstract machine to what a law's row asks: the arguments read as they did; the world has at most new blocks. Conditions: none. -/
import Derived.Test.YtanifbomohnefaaDoorAb22
import Derived.ChangeReads
import Derived.ChangeSame
import Derived.ProofKit
import Derived.RowKit
namespace Go.Ab
open Go Go.ChangeShapes Go.WideShapes Go.RowKit

variable {H : Type} {enc : TypeId × Value → H} {P : Program} {w w' : World} {base : Nat} {sp : Nat → Bool} {held : Bool}

/-- A type whose data is integers, bools, strings, and arrays, structs and slices of them. -/
def plainT (P : Program) : Nat → TypeId → Bool
  | 0, _ => false
  | n + 1, t => match P.underlying t with
    | some (.int _) => true
    | some .bool => true
    | some .string => true
    | some (.slice e) => Nat.ble 1 (P.cellsOf e) && plainT P n e
    | some (.array _ e) => plainT P n e
    | some (.struct fs) => fs.toList.all fun f => plainT P n f.type
    | _ => false

/-- Spare places are asked for no more than they must. -/
theorem trod_spare : ∀ (m n : Nat) (t : TypeId) (cs : List Value) (x : DataW H × List MemPlace), plainT P m t = true →
    DataW.trod enc P w base (fun _ => true) held n t cs = some x → (∀ p ∈ x.2, sp p.block = true) → DataW.trod enc P w base sp held n t cs = some x
  | 0, _, _, _, _, h, _, _ => by simp [plainT] at h
  | m + 1, 0, _, _, _, _, h, _ => by simp [DataW.trod] at h
  | m + 1, n + 1, t, cs, x, hp, h, hs => by
    simp only [plainT] at hp
    rw [DataW.trod_step] at h ⊢
    unfold DataW.trodStep at h ⊢
    split at h
    case h_1 => exact h
    case h_2 => exact h
    case h_3 => exact h
    case h_4 => exact h
    case h_5 => exact h
    case h_6 hu => rw [hu] at hp; cases hp
    case h_7 => exact h
    case h_8 e a len cap hu =>
      rw [hu] at hp
      simp only [Bool.and_eq_true] at hp
      have hce := Nat.le_of_ble_eq_true hp.1
      simp only at h ⊢
      split at h
      · rename_i hc
        rw [if_pos hc]
        simp only [Option.map_eq_some_iff, Option.bind_eq_some_iff] at h ⊢
        obtain ⟨elems, he, rest, hrest, rfl⟩ := h
        have hlen : elems.length = len := by simpa using mapM_some_length he
        have one : ∀ (i : Nat) (y : DataW H × List MemPlace), y ∈ elems ++ rest →
            (w.cells? base (a.add (i * P.cellsOf e)) (P.cellsOf e)).bind (DataW.trod enc P w base (fun _ => true) held n e) = some y → (w.cells? base (a.add (i * P.cellsOf e)) (P.cellsOf e)).bind (DataW.trod enc P w base sp held n e) = some y := by
          intro i y hy hv
          simp only [Option.bind_eq_some_iff] at hv ⊢
          obtain ⟨cs', hc', hy'⟩ := hv
          refine ⟨cs', hc', trod_spare m n e cs' y hp.2 hy' (fun p hpp => hs p ?_)⟩
          simp only [List.mem_append, List.mem_flatMap]
          right
          exact ⟨y, by simpa using hy, hpp⟩
        refine ⟨elems, mapM_carry he (fun i y _ hy => one i y (by simp [hy])), rest, ?_, rfl⟩
        simp only [if_true] at hrest
        have hrl : rest.length = cap - len := by simpa using mapM_some_length hrest
        by_cases h0 : cap - len = 0
        · rw [h0] at hrest ⊢
          simp at hrest
          subst hrest
          simp
        · have hsa : sp a.block = true := by
            refine hs (.cell a.block (a.off + 0)) ?_
            simp only [List.mem_append]
            left
            refine MemPlace.mem_row.2 ⟨0, ?_, rfl⟩
            have : 0 < elems.length + rest.length := by omega
            exact Nat.mul_pos this (by omega)
          rw [if_pos hsa]
          exact mapM_carry hrest (fun j y _ hy => one (len + j) y (by simp [hy]))
      · cases h
    case h_9 fs hu =>
      rw [hu] at hp
      simp only [List.all_eq_true] at hp
      split at h
      · rename_i hc
        rw [if_pos hc]
        simp only [Option.map_eq_some_iff] at h ⊢
        obtain ⟨xs, hx, rfl⟩ := h
        exact ⟨xs, mapM_carry hx (fun f y hf hy hv => trod_spare m n _ _ y (hp f hf) hv (fun p hpp => hs p (List.mem_flatMap.2 ⟨y, hy, hpp⟩))), rfl⟩
      · cases h
    case h_10 k e hu =>
      rw [hu] at hp
      split at h
      · rename_i hc
        rw [if_pos hc]
        simp only [Option.map_eq_some_iff] at h ⊢
        obtain ⟨xs, hx, rfl⟩ := h
        exact ⟨xs, mapM_carry hx (fun f y _ hy hv => trod_spare m n _ _ y hp hv (fun p hpp => hs p (List.mem_flatMap.2 ⟨y, hy, hpp⟩))), rfl⟩
      · cases h
    case h_11 => exact h
    case h_12 hu => rw [hu] at hp; cases hp
    case h_13 => exact h
    case h_14 hu => rw [hu] at hp; cases hp
    case h_15 => exact h
    case h_16 => exact h
    case h_17 => exact h
    case h_18 hu => rw [hu] at hp; cases hp
    case h_19 hu => rw [hu] at hp; cases hp
    case h_20 hu => rw [hu] at hp; cases hp
    case h_21 => cases h

/-- All that lay in memory lies there as it did. -/
def Kept (w w' : World) : Prop := w'.os = w.os ∧ w'.output = w.output ∧ w.heap.size ≤ w'.heap.size ∧ ∀ c, c < w.heap.size → w'.heap[c]? = w.heap[c]?

theorem Kept.at (h : Kept w w') {p : MemPlace} (hp : p.block < w.heap.size) : w.sameAt w' p := by
  cases p with
  | cell b off => simp only [World.sameAt, World.cell?]; rw [h.2.2.2 b hp]
  | map b => exact h.2.2.2 b hp

theorem Kept.but (h : Kept w w') (may : MemPlace → Prop) : w.keptBut w' may := by
  refine ⟨h.1, h.2.1, fun i hi => ?_⟩
  rw [h.2.2.2 i hi]
  cases ho : w.heap[i]? with
  | none => rfl
  | some o => cases o <;> simp

theorem Kept.frozen (h : Kept w w') {a : Addr} (ha : a.block < w.heap.size) : w'.frozen? a = w.frozen? a := by
  simp only [World.frozen?]; rw [h.2.2.2 a.block ha]

theorem trodAll_kept (h : Kept w w') : ∀ {ts : List TypeId} {vs : List Value} {ds : List (DataW H)} {ps : List MemPlace}, (∀ t ∈ ts, plainT P 8 t = true) →
    DataW.TrodAll enc P w base (fun _ => true) held ts vs ds ps → (∀ p ∈ ps, sp p.block = true) → DataW.TrodAll enc P w' base sp held ts vs ds ps
  | [], [], [], _, _, hh, _ => hh
  | t :: ts, v :: vs, d :: ds, ps, ht, ⟨p, q, ⟨n, h1⟩, h2, e⟩, hs => by
    subst e
    refine ⟨p, q, ⟨n, ?_⟩, trodAll_kept h (fun t ht' => ht t (by simp [ht'])) h2 (fun x hx => hs x (by simp [hx])), rfl⟩
    have h3 := DataW.trod_carry (w' := w') n _ _ _ h1 (fun x hx => h.at (DataW.trod_lt n _ _ _ h1 x hx))
    exact trod_spare 8 n _ _ _ (ht t (by simp)) h3 (fun x hx => hs x (by simp [hx]))

/-- A law's end: it returned true, and all lies as it lay. -/
theorem post_law {f : Func} {s : ChangeSpec} {apart fresh handsOn again : Bool} {W W' : World} {args : Array Value} {ds gs : List (DataW H)} {before : List MemPlace} {tb : TypeId} (hv : s.vars = []) (hb : P.underlying tb = some .bool) (hrt : f.resultTypes = #[tb])
    (hW : DataW.Whole enc P f.params.toList s.vars apart W args.toList ds gs before) (hpl : ∀ t ∈ f.params.toList, plainT P 8 t = true) (hk : Kept W W')
    (hs : s.fn H (ds ++ gs) = { results := [.lit (.bool true)], args := ds }) : s.post enc P f apart fresh handsOn again W args (.bool true) W' := by
  have hlt : ∀ p ∈ before, p.block < W.heap.size := fun p hp => hW.lt p hp
  have hW' := hW
  obtain ⟨p, q, hA, hV, rfl, hz, hn⟩ := hW
  rw [hv] at hV
  obtain ⟨rfl, rfl⟩ := trodVars_none hV
  simp only [List.append_nil] at hW' hz hn hlt hs
  have hres : ∀ (b : Nat) (sp : Nat → Bool) (hd : Bool), DataW.TrodAll enc P W' b sp hd f.resultTypes.toList ((Value.bool true).resultList f.resultTypes.size) (s.fn H (ds ++ [])).results [] := by
    intro b sp hd
    rw [List.append_nil, hs, hrt]
    exact trodAll_mk1 (shut_bool hb _)
  have hargs : ∀ sp : Nat → Bool, (∀ x ∈ p, sp x.block = true) → DataW.TrodAll enc P W' 0 sp true f.params.toList args.toList (s.fn H (ds ++ [])).args p := by
    intro sp hsp
    rw [List.append_nil, hs]
    exact trodAll_kept hk hpl hA hsp
  have hvars : ∀ sp : Nat → Bool, DataW.TrodVars enc P W' sp s.vars (s.fn H (ds ++ [])).vars [] := by
    intro sp
    rw [List.append_nil, hs, hv]
    rfl
  refine ⟨ds, [], p, [], p, [], hW', hres _ _ _, hargs _ (fun x hx => by simpa using hlt x hx), hvars _, (hk.but _), fun _ => ⟨?_, ?_⟩⟩
  · intro j t r h1 h2
    rw [hrt] at h1 h2
    match j, h1, h2 with
    | 0, h1, h2 =>
      simp at h1
      subst h1
      have : r = .bool true := by simpa [Value.resultList] using h2.symm
      subst this
      exact okWide_bool_mk hb true
    | j + 1, h1, _ => simp at h1
  · refine ⟨_, _, ([] ++ p) ++ [], ⟨[] ++ p, [], trodAll_append (hargs _ (fun _ _ => rfl)) (hres _ _ _), hvars _, rfl, ?_, ?_⟩, ?_⟩
    · intro b off hp
      have hp : MemPlace.cell b off ∈ p := by simpa using hp
      rw [hk.frozen (hlt _ hp)]
      exact hz b off hp
    · intro ha
      simpa using hn ha
    · intro x hx _
      simpa using hx

/-- What is left behind a call that found only read-only memory: all lies as it lay. -/
theorem evo_kept {φ φ' : Phi} {A A' : Nat → Prop} {n : Nat} {h0 : List (Nat × Option AObj)} {σ' : AState} (hro : onlyRo h0 = true) (he : Evo φ A ⟨n, h0⟩ w φ' A' σ' w') : Kept w w' :=
  ⟨he.rest.os, he.rest.output, he.size, fun c hc => he.keep c hc (fun b o hb hw => by
    obtain ⟨_, h3, _⟩ := onlyRo_get hro b o hb
    cases o with
    | map kk es => simp [AObj.isRo] at h3
    | mem sh v x => cases x <;> simp [AObj.isRo, AObj.written] at h3 hw)⟩
end Go.Ab
