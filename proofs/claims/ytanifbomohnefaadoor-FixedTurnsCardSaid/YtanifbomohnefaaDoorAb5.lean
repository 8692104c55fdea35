/- The abstract machine: the model's operations do what the abstract ones say (second part: single operations). Conditions: none. -/
import Derived.Test.YtanifbomohnefaaDoorAb4
namespace Go.Ab
open Go

@[simp] theorem conc_int (φ : Phi) (k : IntKind) (n : Int) : (AV.int k n).conc φ = .int k n := rfl
@[simp] theorem conc_bool (φ : Phi) (b : Bool) : (AV.bool b).conc φ = .bool b := rfl
@[simp] theorem conc_str (φ : Phi) (s : List UInt8) : (AV.str s).conc φ = .string ⟨s.toArray⟩ := rfl
@[simp] theorem conc_ptr (φ : Phi) (b : Nat) (p : List Nat) : (AV.ptr b p).conc φ = .pointer (some ⟨(φ b).blk, (φ b).off + (φ b).sh.off p, none⟩) := rfl
@[simp] theorem conc_nilptr (φ : Phi) : AV.nilptr.conc φ = .pointer none := rfl
@[simp] theorem conc_slice (φ : Phi) (b : Nat) (p : List Nat) (s len cap : Nat) : (AV.slice b p s len cap).conc φ =
  .slice (some ⟨(φ b).blk, (φ b).off + (φ b).sh.off p + s * elemSize (φ b).sh p, none⟩) len (cap + spareOf (φ b) p s cap) := rfl
@[simp] theorem conc_nilslice (φ : Phi) : AV.nilslice.conc φ = .slice none 0 0 := rfl
@[simp] theorem conc_map (φ : Phi) (r : Nat) : (AV.map r).conc φ = .map (some (φ r).blk) := rfl
@[simp] theorem conc_nilmap (φ : Phi) : AV.nilmap.conc φ = .map none := rfl
@[simp] theorem conc_fn (φ : Phi) (f : FuncId) (a c : List AV) : (AV.fn f a c).conc φ = .func (.func f) (a.map (·.conc φ)).toArray (c.map (·.conc φ)).toArray := by
  simp [AV.conc, AV.flat, pack, concs_map]
@[simp] theorem conc_nilfn (φ : Phi) : AV.nilfn.conc φ = .nilFunc := rfl
@[simp] theorem conc_iface (φ : Phi) (t : TypeId) (v : AV) : (AV.iface t v).conc φ = .iface t (v.conc φ) := rfl
@[simp] theorem conc_niliface (φ : Phi) : AV.niliface.conc φ = .nilIface := rfl
@[simp] theorem conc_strct (φ : Phi) (vs : List AV) : (AV.strct vs).conc φ = .agg (AV.flats φ vs).toArray := rfl
@[simp] theorem conc_arr (φ : Phi) (n : Nat) (f : Nat → AV) : (AV.arr n f).conc φ = .agg ((List.range n).flatMap fun i => (f i).flat φ).toArray := rfl
@[simp] theorem conc_tuple (φ : Phi) (vs : List AV) : (AV.tuple vs).conc φ = .tuple (vs.map (·.conc φ)).toArray := by
  simp [AV.conc, AV.flat, pack, concs_map]
@[simp] theorem conc_undef (φ : Phi) : AV.undef.conc φ = Go.undef := rfl

structure GOk (P : Program) (Γ : Env) : Prop where
  ty : ∀ t T, Γ.ty.get t = some T → TyOk P t T
  fn : ∀ f F, Γ.fn.get f = some F → P.funcs[f]? = some F ∧ F.body.isSome = true ∧ (F.name == "runtime.NumGoroutine") = false
  meth : ∀ t name f, findMeth t name Γ.meth = some f → ∀ v w, (method (P.types.size + Made.depth) t v name).run P w = .ok (f, v) w
  mixed : P.follows .mixedOrders = true
  eqt : ∀ t, memB t Γ.eqt = true → ∀ T, Γ.ty.get t = some T → P.eqGuardType P.depth t = false ∧ ∀ as bs r, AV.alike T.zero (.strct as) = true → AV.alike T.zero (.strct bs) = true → AV.eqBs as bs = some r →
    ∀ φ w, (Op.equal t ((AV.strct as).conc φ) ((AV.strct bs).conc φ)).run P w = .ok r w

/-- The operation runs to its end: the value and the memory. -/
def OpRes (P : Program) (φ : Phi) (A : Nat → Prop) (σ : AState) (w : World) (s : Sem Next) (v : AV) (σ' : AState) : Prop :=
  ∃ φ' A' w' nx, s.run P w = .ok nx w' ∧ (nx = .value (v.conc φ') ∨ (nx = .skip ∧ v = .undef)) ∧ v.ok φ' A' ∧ Sim φ' A' σ' w' ∧ Evo φ A σ w φ' A' σ' w'

def AR.gives (r : AR) (v : AV) (σ' : AState) : Prop := match r with
  | .ok v' σ1 => v' = v ∧ σ1 = σ'
  | .val p v' σ1 => p ∧ v' = v ∧ σ1 = σ'
  | _ => False

variable {P : Program} {Γ : Env} {φ : Phi} {A : Nat → Prop} {σ σ' : AState} {w : World} {fr : AFr} {tmps : Array Value} {d : List Deferred} {v : AV}

/-- An operation that leaves the memory alone. -/
theorem OpRes.same (hs : Sim φ A σ w) {s : Sem Next} (hr : s.run P w = .ok (.value (v.conc φ)) w) (hv : v.ok φ A) : OpRes P φ A σ w s v σ :=
  ⟨φ, A, w, _, hr, .inl rfl, hv, hs, .refl _ _ _ _⟩

theorem ifFits_gives {y : AV} {s : Sh} {r : AV} {σ1 : AState} (h : (ifFits y s r σ1).gives v σ') : HasSh s y ∧ r = v ∧ σ1 = σ' := by
  unfold ifFits at h
  split at h
  · rename_i hf; exact ⟨fits_sound y s hf, h.1, h.2⟩
  · exact ⟨h.1, h.2.1, h.2.2⟩

theorem ofPair_gives {o : Option (Option Prop × AV)} (h : (AR.ofPair σ o).gives v σ') : σ' = σ ∧ ∃ p, o = some (p, v) ∧ (∀ q, p = some q → q) := by
  cases o with
  | none => exact h.elim
  | some x =>
    obtain ⟨p, y⟩ := x
    cases p with
    | none => obtain ⟨h1, h2⟩ := h; subst h1; exact ⟨h2.symm, none, rfl, by simp⟩
    | some q => obtain ⟨h0, h1, h2⟩ := h; subst h1; exact ⟨h2.symm, some q, rfl, fun q' e => by injection e with e; exact e ▸ h0⟩

theorem op_move {o : Oper} (hs : Sim φ A σ w) (hf : FrOk φ A fr tmps) {x : Operand} (ho : o.op = .move x)
    (h : (aop Γ fr σ (.move x)).gives v σ') : OpRes P φ A σ w (execOp (Act.eval ⟨tmps, d⟩) o) v σ' := by
  simp only [aop] at h
  split at h
  · rename_i y hx
    obtain ⟨rfl, rfl⟩ := h
    obtain ⟨h1, h2⟩ := ev_ok (d := d) hf hx
    exact .same hs (by simp only [execOp, ho, h1]; rfl) h2
  · exact h.elim

theorem op_assign {o : Oper} (hs : Sim φ A σ w) (hf : FrOk φ A fr tmps) {x : Operand} (ho : o.op = .assign x)
    (h : (aop Γ fr σ (.assign x)).gives v σ') : OpRes P φ A σ w (execOp (Act.eval ⟨tmps, d⟩) o) v σ' := by
  simp only [aop] at h
  split at h
  · rename_i y hx
    obtain ⟨rfl, rfl⟩ := h
    obtain ⟨h1, h2⟩ := ev_ok (d := d) hf hx
    exact .same hs (by simp only [execOp, ho, h1]; rfl) h2
  · exact h.elim

theorem op_pick {o : Oper} (hs : Sim φ A σ w) (hf : FrOk φ A fr tmps) {c a b : Operand} (ho : o.op = .pick c a b)
    (h : (aop Γ fr σ (.pick c a b)).gives v σ') : OpRes P φ A σ w (execOp (Act.eval ⟨tmps, d⟩) o) v σ' := by
  simp only [aop] at h
  split at h
  · rename_i hc
    split at h
    · rename_i y hy
      obtain ⟨rfl, rfl⟩ := h
      obtain ⟨h1, _⟩ := ev_ok (d := d) hf hc
      obtain ⟨h3, h4⟩ := ev_ok (d := d) hf hy
      refine .same hs ?_ h4
      simp [execOp, ho, h1, h3, asBool]
    · exact h.elim
  · rename_i hc
    split at h
    · rename_i y hy
      obtain ⟨rfl, rfl⟩ := h
      obtain ⟨h1, _⟩ := ev_ok (d := d) hf hc
      obtain ⟨h3, h4⟩ := ev_ok (d := d) hf hy
      refine .same hs ?_ h4
      simp [execOp, ho, h1, h3, asBool]
    · exact h.elim
  · exact h.elim

/-- A new block of cells. -/
theorem alloc_mem {nx : Nat} {hp : List (Nat × Option AObj)} (hs : Sim φ A ⟨nx, hp⟩ w) {sh : Sh} {y : AV} (hy : HasSh sh y) (hok : y.ok φ A) (cs : Array Value) (more : List Value)
    (hcs : cs.toList = y.flat φ ++ more) (t : TypeId) (x : Ext) (spare : Nat) (ht : x = .tight → spare = 0) (ho : x = .open → ∃ n es, sh = .arr n es ∧ (n + spare) * es.size ≤ cs.size) :
    Sim (upd φ nx ⟨w.heap.size, 0, spare, sh⟩) (fun b => A b ∨ b = nx) ⟨nx + 1, (nx, some (.mem sh y x)) :: hp⟩ (w.alloc (.cells cs t)) ∧
      Evo φ A ⟨nx, hp⟩ w (upd φ nx ⟨w.heap.size, 0, spare, sh⟩) (fun b => A b ∨ b = nx) ⟨nx + 1, (nx, some (.mem sh y x)) :: hp⟩ (w.alloc (.cells cs t)) ∧
      Agree A φ (upd φ nx ⟨w.heap.size, 0, spare, sh⟩) := by
  have hag : Agree A φ (upd φ nx ⟨w.heap.size, 0, spare, sh⟩) := fun b hA => by
    have := hs.lt b hA
    simp only at this
    simp [upd, Nat.ne_of_lt this]
  refine hs.alloc ⟨w.heap.size, 0, spare, sh⟩ (.mem sh y x) (w.alloc (.cells cs t)) rfl (by simp) (fun c hc => ?_) ⟨rfl, rfl, rfl, Nat.le_refl _⟩ ?_
  · show (w.heap.push _)[c]? = _; rw [Array.getElem?_push, if_neg (by omega)]
  · refine ⟨rfl, hy, ok_congr hag (fun _ h => .inl h) y hok, cs, t, 0, 0, by show (w.heap.push _)[w.heap.size]? = _; simp, fun j hj => ?_, fun _ => Nat.le_refl _, ht, fun e => ?_⟩
    · rw [flat_congr hag y hok, Nat.zero_add, ← Array.getElem?_toList, hcs, List.getElem?_append_left]
      rw [flat_length sh y hy]; exact hj
    · obtain ⟨n, es, q1, q2⟩ := ho e
      exact ⟨n, es, q1, by simpa using q2⟩

theorem ptr_new {nx : Nat} {l : CLoc} : (AV.ptr nx []).conc (upd φ nx l) = .pointer (some ⟨l.blk, l.off, none⟩) := by
  have : l.sh.off [] = 0 := by cases l.sh <;> rfl
  simp [upd, this]

theorem ptr_new_ok {nx : Nat} {l : CLoc} : (AV.ptr nx []).ok (upd φ nx l) (fun b => A b ∨ b = nx) := by
  simp only [AV.ok]
  exact ⟨by simp, by cases (upd φ nx l nx).sh <;> trivial⟩

theorem op_alloc {o : Oper} (hG : GOk P Γ) (hs : Sim φ A σ w) {t : TypeId} (ho : o.op = .alloc t)
    (h : (aop Γ fr σ (.alloc t)).gives v σ') : OpRes P φ A σ w (execOp (Act.eval ⟨tmps, d⟩) o) v σ' := by
  simp only [aop] at h
  split at h
  · rename_i T hT
    obtain ⟨nx, hp⟩ := σ
    obtain ⟨rfl, rfl⟩ := h
    have hT := hG.ty _ _ hT
    have hc := conc_cells (φ := φ) T.zero hT.zero.form
    obtain ⟨s1, s2, s3⟩ := alloc_mem hs hT.zero (hT.ok φ A) (T.zero.conc φ).cells [] (by rw [hc]; simp) t .tight 0 (fun _ => rfl) (by simp)
    refine ⟨_, _, _, .value ((AV.ptr nx []).conc (upd φ nx ⟨w.heap.size, 0, 0, T.sh⟩)), ?_, .inl rfl, ptr_new_ok, s1, s2⟩
    · rw [ptr_new]
      simp only [execOp, ho, Instr.alloc, Sem.run_bind, hT.run_zero φ, Result.andThen_ok, newVar, newRow, run_newObj, Sem.run_pure, World.alloc_eq]
  · exact h.elim

theorem op_box {o : Oper} (hG : GOk P Γ) (hs : Sim φ A σ w) (hf : FrOk φ A fr tmps) {t : TypeId} {x : Operand} (ho : o.op = .box t x)
    (h : (aop Γ fr σ (.box t x)).gives v σ') : OpRes P φ A σ w (execOp (Act.eval ⟨tmps, d⟩) o) v σ' := by
  simp only [aop] at h
  split at h
  · rename_i T hT
    split at h
    · rename_i y hy
      obtain ⟨nx, hp⟩ := σ
      obtain ⟨h0, rfl, rfl⟩ := ifFits_gives h
      have hT := hG.ty _ _ hT
      obtain ⟨h1, h2⟩ := ev_ok (d := d) hf hy
      have hc := conc_cells (φ := φ) y h0.form
      obtain ⟨s1, s2, s3⟩ := alloc_mem hs h0 h2 (y.conc φ).cells [] (by rw [hc]; simp) t .tight 0 (fun _ => rfl) (by simp)
      refine ⟨_, _, _, .value ((AV.ptr nx []).conc (upd φ nx ⟨w.heap.size, 0, 0, T.sh⟩)), ?_, .inl rfl, ptr_new_ok, s1, s2⟩
      · rw [ptr_new]
        simp only [execOp, ho, Instr.box, Sem.run_bind, h1, Result.andThen_ok, newVar, newRow, run_newObj, Sem.run_pure, World.alloc_eq]
    · exact h.elim
  · exact h.elim

theorem get_eq {σ : AState} {b : Nat} {o : AObj} (h : σ.get b = some o) : hget σ.hp b = some o := h

theorem op_load {o : Oper} (hG : GOk P Γ) (hs : Sim φ A σ w) (hf : FrOk φ A fr tmps) {t : TypeId} {x : Operand} (ho : o.op = .load t x)
    (h : (aop Γ fr σ (.load t x)).gives v σ') : OpRes P φ A σ w (execOp (Act.eval ⟨tmps, d⟩) o) v σ' := by
  simp only [aop] at h
  repeat' split at h
  all_goals first | exact False.elim h | skip
  rename_i T hT _ b p hx _ sh y e hb _ s hsp _ hbq _ r hr
  obtain ⟨rfl, rfl⟩ := h
  have hT := hG.ty _ _ hT
  obtain ⟨h1, h2⟩ := ev_ok (d := d) hf hx
  have hse := beq_sound _ _ hbq
  subst hse
  have hobj := hs.obj b _ hb
  simp only [AV.ok] at h2
  have hsh : (φ b).sh = sh := hobj.1
  obtain ⟨k1, k2, k3⟩ := loadVar_run hT hobj (hsh ▸ h2.2) hsp hr
  refine .same hs ?_ k2
  simp only [execOp, ho, h1, conc_ptr, Instr.loadAt, Instr.sureAddr, Sem.run_bind, Sem.run_pure, Result.andThen_ok, hsh, k1]

theorem op_store {o : Oper} (hG : GOk P Γ) (hs : Sim φ A σ w) (hf : FrOk φ A fr tmps) {t : TypeId} {x y : Operand} (ho : o.op = .store t x y)
    (h : (aop Γ fr σ (.store t x y)).gives v σ') : OpRes P φ A σ w (execOp (Act.eval ⟨tmps, d⟩) o) v σ' := by
  obtain ⟨nx, hp⟩ := σ
  simp only [aop] at h
  repeat' split at h
  all_goals first | exact False.elim h | skip
  rename_i T hT _ b p hx _ z hz _ sh y0 e hb _ s hsp _ hbq _ hne
  obtain ⟨h0, rfl, rfl⟩ := ifFits_gives h
  have hT := hG.ty _ _ hT
  obtain ⟨h1, h2⟩ := ev_ok (d := d) hf hx
  obtain ⟨h3, h4⟩ := ev_ok (d := d) hf hz
  have hse := beq_sound _ _ hbq
  subst hse
  simp only [AV.ok] at h2
  have hobj := hs.obj b _ hb
  have hsh : (φ b).sh = sh := hobj.1
  obtain ⟨w', k1, k2, k3⟩ := storeVar_run hs hT hb (fun e => hne e) (hsh ▸ h2.2) hsp h0 h4
  refine ⟨φ, A, w', .skip, ?_, .inr ⟨rfl, rfl⟩, by simp [AV.undef, AV.ok, AV.oks], k2, k3⟩
  simp only [execOp, ho, h1, h3, conc_ptr, Instr.storeAt, Instr.sureAddr, Sem.run_bind, Sem.run_pure, Result.andThen_ok, k1]

end Go.Ab
