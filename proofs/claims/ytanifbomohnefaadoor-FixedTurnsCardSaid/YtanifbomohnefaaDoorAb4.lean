/- The abstract machine: the model's operations do what the abstract ones say (first part: types, operands, loads and stores). Conditions: none. -/
import Derived.Test.YtanifbomohnefaaDoorAb3
import Derived.Laws.Entries
import Derived.ChangeKeysEq
namespace Go.Ab
open Go

def kindOf : TypeDesc → Option AK
  | .bool => some .bool
  | .int k => some (.int k)
  | .string => some .str
  | .pointer _ => some .ptr
  | .slice e => some (.slice e)
  | .array n e => some (.array n e)
  | .map k e => some (.map k e)
  | .func _ _ _ => some .func
  | .interface _ => some .iface
  | .struct fs => some (.struct (fs.toList.map fun f => (f.offset, f.type)))
  | _ => none

def AK.agg : AK → Bool
  | .array _ _ => true
  | .struct _ => true
  | _ => false

def Sh.isLeaf : Sh → Bool
  | .leaf => true
  | _ => false

def fieldsFit (P : Program) : Nat → List (Nat × TypeId) → List Sh → Bool
  | _, [], [] => true
  | o, (o', t) :: fs, s :: ss => Nat.beq o o' && (match P.info? t with | some i => Nat.beq i.size s.size | none => false) && fieldsFit P (o + s.size) fs ss
  | _, _, _ => false

def allSh (s : Sh) : List Sh → Bool
  | [] => true
  | x :: r => x.beq s && allSh s r

/-- The shape against the kind. -/
def shapeFits (P : Program) (k : AK) (s : Sh) : Bool :=
  match k, s with
  | .struct fs, .node ss => fieldsFit P 0 fs ss
  | .array n e, .node ss => Nat.beq ss.length n && (match P.info? e with | some i => ss.all fun s => Nat.beq i.size s.size | none => false)
  | .array n e, .arr m s => Nat.beq n m && (match P.info? e with | some i => Nat.beq i.size s.size | none => false)
  | .array _ _, .leaf => false
  | .struct _, _ => false
  | _, .leaf => true
  | _, _ => false

structure TyOk (P : Program) (t : TypeId) (T : ATy) : Prop where
  info : ∀ φ, (P.info? t).map (fun i => (i.size, i.bytes, i.zero)) = some (T.size, T.bytes, some (T.zero.conc φ))
  under : (P.underlying t).bind kindOf = some T.kind
  shape : shapeFits P T.kind T.sh = true
  size : Nat.beq T.sh.size T.size = true
  zero : HasSh T.sh T.zero
  ok : ∀ φ A, T.zero.ok φ A

variable {P : Program} {φ : Phi} {A : Nat → Prop} {w : World}

theorem TyOk.size_eq {t : TypeId} {T : ATy} (h : TyOk P t T) : T.sh.size = T.size := Nat.eq_of_beq_eq_true h.size

theorem TyOk.info_ex {t : TypeId} {T : ATy} (h : TyOk P t T) (φ : Phi) : ∃ i, P.info? t = some i ∧ i.size = T.size ∧ i.bytes = T.bytes ∧ i.zero = some (T.zero.conc φ) := by
  have := h.info φ
  cases hi : P.info? t with
  | none => simp [hi] at this
  | some i => simp [hi] at this; exact ⟨i, rfl, this.1, this.2.1, this.2.2⟩

theorem TyOk.under_ex {t : TypeId} {T : ATy} (h : TyOk P t T) : ∃ d, P.underlying t = some d ∧ kindOf d = some T.kind := by
  have := h.under
  cases hi : P.underlying t with
  | none => simp [hi] at this
  | some d => simp [hi] at this; exact ⟨d, rfl, this⟩

theorem TyOk.run_size {t : TypeId} {T : ATy} (h : TyOk P t T) (w : World) : (sizeOf t).run P w = .ok T.size w := by
  obtain ⟨i, hi, h1, _⟩ := h.info_ex (fun _ => ⟨0, 0, 0, .leaf⟩)
  simp [sizeOf, typeInfo, hi, h1]

theorem TyOk.run_info {t : TypeId} {T : ATy} (h : TyOk P t T) (φ : Phi) (w : World) : ∃ i, (typeInfo t).run P w = .ok i w ∧ i.size = T.size ∧ i.bytes = T.bytes ∧ i.zero = some (T.zero.conc φ) := by
  obtain ⟨i, hi, h1⟩ := h.info_ex φ
  exact ⟨i, by simp [typeInfo, hi], h1⟩

theorem TyOk.run_zero {t : TypeId} {T : ATy} (h : TyOk P t T) (φ : Phi) (w : World) : (zeroValue t).run P w = .ok (T.zero.conc φ) w := by
  obtain ⟨i, hi, _, _, h1⟩ := h.info_ex φ
  simp [zeroValue, typeInfo, hi, h1]

theorem TyOk.run_under {t : TypeId} {T : ATy} (h : TyOk P t T) (w : World) : ∃ d, (underlying t).run P w = .ok d w ∧ kindOf d = some T.kind := by
  obtain ⟨d, hd, hk⟩ := h.under_ex
  exact ⟨d, run_underlying hd w, hk⟩

theorem TyOk.run_agg {t : TypeId} {T : ATy} (h : TyOk P t T) (w : World) : (isAgg t).run P w = .ok (!T.sh.isLeaf) w := by
  obtain ⟨d, hd, hk⟩ := h.run_under w
  have hs := h.shape
  simp only [isAgg, Sem.run_bind, hd, Result.andThen_ok]
  cases d <;> simp [kindOf] at hk <;> rw [← hk] at hs <;> cases hsh : T.sh <;> rw [hsh] at hs <;> simp [shapeFits] at hs <;> simp [Sh.isLeaf]

theorem ev_ok {fr : AFr} {tmps : Array Value} {d : List Deferred} (hf : FrOk φ A fr tmps) {x : Operand} {v : AV} (h : ev fr x = some v) :
    (Act.eval ⟨tmps, d⟩ x) = v.conc φ ∧ v.ok φ A := by
  cases x with
  | tmp t =>
    simp only [ev] at h
    obtain ⟨h1, h2⟩ := hf.get t v h
    refine ⟨?_, h1⟩
    simp [Act.eval, h2]
  | const c =>
    simp only [ev] at h
    cases c <;> simp [ofConst] at h
    case bool b => subst h; exact ⟨rfl, by simp [AV.ok]⟩
    case int k n => subst h; exact ⟨rfl, by simp [AV.ok]⟩
    case string s => subst h; exact ⟨by simp [AV.conc, AV.flat, pack, Act.eval], by simp [AV.ok]⟩
    case pointer a => cases a <;> simp at h; subst h; exact ⟨rfl, by simp [AV.ok]⟩
    case slice a l c =>
      cases a with
      | some a => simp at h
      | none =>
        cases l <;> cases c <;> simp at h
        subst h; exact ⟨rfl, by simp [AV.ok]⟩
    case map a => cases a <;> simp at h; subst h; exact ⟨rfl, by simp [AV.ok]⟩
    case nilFunc => subst h; exact ⟨rfl, by simp [AV.ok]⟩
    case nilIface => subst h; exact ⟨rfl, by simp [AV.ok]⟩
  | global g =>
    simp only [ev] at h
    split at h
    · rename_i hg
      simp only [Option.some.injEq] at h
      subst h
      obtain ⟨h1, h2, h3⟩ := hf.glob g (Nat.le_of_ble_eq_true hg)
      have h4 : (φ g).sh.off [] = 0 := by cases (φ g).sh <;> rfl
      refine ⟨by simp [AV.conc, AV.flat, pack, Act.eval, h2, h3, h4], ?_⟩
      simp only [AV.ok]
      exact ⟨h1, by cases (φ g).sh <;> trivial⟩
    · cases h
  | func f =>
    simp only [ev, Option.some.injEq] at h
    subst h
    exact ⟨rfl, by simp [AV.ok, AV.oks]⟩

theorem concs_map (φ : Phi) : (vs : List AV) → AV.concs φ vs = vs.map (·.conc φ)
  | [] => rfl
  | v :: r => by simp [AV.concs, AV.conc, concs_map φ r]

theorem oks_mem {φ : Phi} {A : Nat → Prop} : (vs : List AV) → (AV.oks φ A vs ↔ ∀ v ∈ vs, v.ok φ A)
  | [] => by simp [AV.oks]
  | v :: r => by simp [AV.oks, oks_mem r]

theorem evs_ok {fr : AFr} {tmps : Array Value} {d : List Deferred} (hf : FrOk φ A fr tmps) : {xs : List Operand} → {vs : List AV} → evs fr xs = some vs →
    (xs.map (Act.eval ⟨tmps, d⟩)) = vs.map (·.conc φ) ∧ AV.oks φ A vs
  | [], vs, h => by simp only [evs, Option.some.injEq] at h; subst h; simp [AV.oks]
  | x :: xs, vs, h => by
    simp only [evs] at h
    cases h1 : ev fr x with
    | none => simp [h1] at h
    | some v =>
      cases h2 : evs fr xs with
      | none => simp [h1, h2] at h
      | some r =>
        simp only [h1, h2, Option.some.injEq] at h
        subst h
        obtain ⟨a, b⟩ := ev_ok (d := d) hf h1
        obtain ⟨c, e⟩ := evs_ok (d := d) hf h2
        exact ⟨by simp [a, c], by simp [AV.oks, b, e]⟩

/-- A part of a block, loaded. -/
theorem loadVar_run {t : TypeId} {T : ATy} (hT : TyOk P t T) {l : CLoc} {sh : Sh} {v : AV} {x : Ext} (ho : ObjOk φ A w l (.mem sh v x)) {p : List Nat} (hp : sh.valid p)
    (hs : sh.at p = some T.sh) {r : AV} (hr : v.at p = some r) :
    (loadVar t ⟨l.blk, l.off + sh.off p, none⟩).run P w = .ok (r.conc φ) w ∧ r.ok φ A ∧ HasSh T.sh r := by
  obtain ⟨_, h2, h3, cs, e, lo, hi, h4, h5, _⟩ := ho
  obtain ⟨r', sp, X, Y, g1, g2, g3, g4, g5, _, _, g8⟩ := split_at (φ := φ) p sh v h2 hp
  rw [hr] at g1; injection g1 with g1; subst g1
  rw [hs] at g2; injection g2 with g2; subst g2
  have hlen := flat_length (φ := φ) sh v h2
  have hrl := flat_length (φ := φ) T.sh r g3
  have hsum : X.length + (r.flat φ).length + Y.length = sh.size := by rw [← hlen, g5]; simp; omega
  have hcell : ∀ j, j < (r.flat φ).length → cs[l.off + sh.off p + j]? = (r.flat φ)[j]? := by
    intro j hj
    rw [Nat.add_assoc, h5 _ (by omega), g5, ← g4]
    rw [List.append_assoc, List.getElem?_append_right (by omega), show X.length + j - X.length = j by omega, List.getElem?_append_left hj]
  refine ⟨?_, (g8 φ A h3).1, g3⟩
  simp only [loadVar, Sem.run_bind, hT.run_agg, Result.andThen_ok]
  cases hl : T.sh with
  | leaf =>
    rw [hl] at g3 hrl
    simp only [HasSh] at g3
    simp only [Sh.isLeaf, Bool.not_true, Bool.false_eq_true, if_false]
    rw [run_load, cell_of h4]
    have := hcell 0 (by rw [hrl]; simp [Sh.size])
    rw [Nat.add_zero] at this
    rw [this, flat_scalar g3]
    rfl
  | node ss =>
    simp only [Sh.isLeaf, Bool.not_false, if_true, Sem.run_bind, hT.run_size, Result.andThen_ok]
    rw [show T.size = (r.flat φ).length by rw [hrl, hT.size_eq], loadCells_run P w _ _ cs e (lo, hi) _ h4 hcell]
    rw [hl] at g3
    cases r <;> simp [HasSh] at g3
    rfl
  | arr n s =>
    simp only [Sh.isLeaf, Bool.not_false, if_true, Sem.run_bind, hT.run_size, Result.andThen_ok]
    rw [show T.size = (r.flat φ).length by rw [hrl, hT.size_eq], loadCells_run P w _ _ cs e (lo, hi) _ h4 hcell]
    rw [hl] at g3
    cases r <;> simp [HasSh] at g3
    rfl

/-- A part of a block, stored. -/
theorem storeVar_run {nx : Nat} {h : List (Nat × Option AObj)} (hsim : Sim φ A ⟨nx, h⟩ w) {t : TypeId} {T : ATy} (hT : TyOk P t T) {b : Nat} {sh : Sh} {v : AV} {x : Ext}
    (hb : hget h b = some (.mem sh v x)) (hx : x ≠ .ro) {p : List Nat} (hp : sh.valid p) (hs : sh.at p = some T.sh) {y : AV} (hy : HasSh T.sh y) (hok : y.ok φ A) :
    ∃ w', (storeVar t ⟨(φ b).blk, (φ b).off + (φ b).sh.off p, none⟩ (y.conc φ)).run P w = .ok () w' ∧
      Sim φ A ⟨nx, (b, some (.mem sh (v.set p y) x)) :: h⟩ w' ∧ Evo φ A ⟨nx, h⟩ w φ A ⟨nx, (b, some (.mem sh (v.set p y) x)) :: h⟩ w' := by
  have ho := hsim.obj b _ hb
  obtain ⟨h1, h2, h3, cs, e, lo, hi, h4, h5, h6, h7, h8⟩ := ho
  obtain ⟨r', sp, X, Y, g1, g2, g3, g4, g5, g6, g7, g8⟩ := split_at (φ := φ) p sh v h2 hp
  rw [hs] at g2; injection g2 with g2; subst g2
  have hlen := flat_length (φ := φ) sh v h2
  have hrl := flat_length (φ := φ) T.sh r' g3
  have hyl := flat_length (φ := φ) T.sh y hy
  have hsum : X.length + (r'.flat φ).length + Y.length = sh.size := by rw [← hlen, g5]; simp; omega
  have hcs : y.flat φ ≠ [] → (φ b).off + sh.off p + 0 + (y.flat φ).length ≤ cs.size := by
    intro hne
    have hpos := List.length_pos_iff.2 hne
    have := h5 (sh.size - 1) (by omega)
    have h9 : (v.flat φ)[sh.size - 1]? ≠ none := by simp; omega
    rw [← this] at h9
    have : (φ b).off + (sh.size - 1) < cs.size := by
      rcases Nat.lt_or_ge ((φ b).off + (sh.size - 1)) cs.size with h | h
      · exact h
      · exact absurd (Array.getElem?_eq_none h) h9
    omega
  obtain ⟨w', cs', k1, k2, k3, k4, k5, k6, k7⟩ := storeCells_run P (φ b).blk ((φ b).off + sh.off p) (y.flat φ) 0 w cs e lo hi h4 (h6 hx) hcs (flat_one T.sh y hy)
  have hobj : ObjOk φ A w' (φ b) (.mem sh (v.set p y) x) := by
    refine ⟨h1, g7 y hy, (g8 φ A h3).2 y hok, cs', e, lo, hi, k2, fun j hj => ?_, h6, h7, fun hxo => ?_⟩
    · rw [k4, g6, ← g4]
      by_cases hin : (φ b).off + X.length + 0 ≤ (φ b).off + j ∧ (φ b).off + j < (φ b).off + X.length + 0 + (y.flat φ).length
      · rw [if_pos hin, List.append_assoc, List.getElem?_append_right (by omega), List.getElem?_append_left (by omega)]
        congr 1; omega
      · rw [if_neg hin, h5 j hj, g5]
        by_cases hlt : j < X.length
        · rw [List.append_assoc, List.getElem?_append_left hlt, List.append_assoc, List.getElem?_append_left hlt]
        · rw [List.append_assoc, List.getElem?_append_right (by omega), List.getElem?_append_right (by omega), List.append_assoc, List.getElem?_append_right (by omega), List.getElem?_append_right (by omega)]
          congr 1; omega
    · obtain ⟨n, es, q1, q2⟩ := h8 hxo
      exact ⟨n, es, q1, by rw [k3]; exact q2⟩
  have hwr : (AObj.mem sh v x).written := by cases x <;> simp [AObj.written] at *
  obtain ⟨s1, s2⟩ := hsim.put b _ (.mem sh (v.set p y) x) hb hwr k6 k5 k7 hobj
  refine ⟨w', ?_, s1, s2⟩
  have hcl := conc_cells (φ := φ) y hy.form
  have hsz : (y.conc φ).cells.size = T.size := by rw [← Array.length_toList, hcl, hyl, hT.size_eq]
  simp only [storeVar, Sem.run_bind, hT.run_size, Result.andThen_ok, hsz, ne_eq, not_true_eq_false, if_false, hcl]
  rw [h1]
  exact k1

end Go.Ab
