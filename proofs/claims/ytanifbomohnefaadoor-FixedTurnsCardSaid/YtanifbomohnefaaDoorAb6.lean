/- The abstract machine: the model's operations do what the abstract ones say (third part: arithmetic, parts of values, addresses). Conditions: none. -/
import Derived.Test.YtanifbomohnefaaDoorAb5
namespace Go.Ab
open Go

variable {P : Program} {Γ : Env} {φ : Phi} {A : Nat → Prop} {σ σ' : AState} {w : World} {fr : AFr} {tmps : Array Value} {d : List Deferred} {v : AV}

theorem kindEq_eq {k k' : IntKind} (h : kindEq k k' = true) : k = k' := by cases k <;> cases k' <;> first | rfl | (simp [kindEq] at h)

theorem eqRes_inv {op : BinOp} {r : Bool} {p : Option Prop} (h : eqRes op r = some (p, v)) : (op = .eql ∧ v = .bool r) ∨ (op = .neq ∧ v = .bool (!r)) := by
  cases op <;> simp [eqRes] at h
  · exact .inl ⟨rfl, h.2.symm⟩
  · exact .inr ⟨rfl, h.2.symm⟩

theorem bytes_toList (l : List UInt8) : (ByteArray.mk l.toArray).toList = l := by
  have go : ∀ (n i : Nat) (r : List UInt8), n = l.length - i → i ≤ l.length → ByteArray.toList.loop ⟨l.toArray⟩ i r = r.reverse ++ l.drop i := by
    intro n
    induction n with
    | zero =>
      intro i r hn hi
      have : i = l.length := by omega
      unfold ByteArray.toList.loop
      simp [ByteArray.size, this]
    | succ n ih =>
      intro i r hn hi
      have hlt : i < l.length := by omega
      unfold ByteArray.toList.loop
      rw [if_pos (by simpa [ByteArray.size] using hlt), ih (i + 1) _ (by omega) (by omega)]
      rw [List.drop_eq_getElem_cons hlt]
      simp [ByteArray.get!, hlt]
  rw [ByteArray.toList, go (l.length - 0) 0 [] rfl (by omega)]
  simp

theorem bytes_append (a b : List UInt8) : (ByteArray.mk a.toArray ++ ByteArray.mk b.toArray) = ByteArray.mk (a ++ b).toArray := by
  apply ByteArray.ext
  simp [ByteArray.data_append]

theorem bin_ints {op : BinOp} {t : TypeId} {x y : Operand} {k k' : IntKind} {a b : Int} {p : Option Prop} (h : aInts op k k' a b = some (p, v)) (hp : ∀ q, p = some q → q) (w : World) :
    (do eqGuard op t x y (.int k a) (.int k' b); binOp op t (.int k a) (.int k' b) : Sem Value).run P w = .ok (v.conc φ) w ∧ v.ok φ A := by
  have hg : (eqGuard op t x y (.int k a) (.int k' b)).run P w = .ok () w := by
    unfold eqGuard
    split <;> rfl
  rw [Sem.run_bind, hg, Result.andThen_ok]
  cases op
  case shl =>
    simp only [aInts, intShift, Option.some.injEq, Prod.mk.injEq] at h
    obtain ⟨rfl, rfl⟩ := h
    have := hp _ rfl
    refine ⟨?_, by simp [AV.ok]⟩
    simp only [binOp, Op.shift]
    rw [if_neg (by omega)]
    rfl
  case shr =>
    simp only [aInts, intShift, Option.some.injEq, Prod.mk.injEq] at h
    obtain ⟨rfl, rfl⟩ := h
    have := hp _ rfl
    refine ⟨?_, by simp [AV.ok]⟩
    simp only [binOp, Op.shift]
    rw [if_neg (by omega)]
    rfl
  all_goals
    simp only [aInts] at h
    split at h
    · rename_i hk
      have hk := kindEq_eq hk
      subst hk
      simp only [intBin, Option.some.injEq, Prod.mk.injEq] at h
      obtain ⟨rfl, rfl⟩ := h
      refine ⟨?_, by simp [AV.ok]⟩
      simp only [binOp, ne_eq, not_true_eq_false, if_false]
      first
        | rfl
        | (have := hp _ rfl; simp only [Op.intDiv]; rw [if_neg this]; rfl)
    · exact absurd h (by simp)

theorem bin_strs {op : BinOp} {t : TypeId} {x y : Operand} {a b : List UInt8} {p : Option Prop} (h : strBin op a b = some (p, v)) (hp : ∀ q, p = some q → q) (w : World) :
    (do eqGuard op t x y (.string ⟨a.toArray⟩) (.string ⟨b.toArray⟩); binOp op t (.string ⟨a.toArray⟩) (.string ⟨b.toArray⟩) : Sem Value).run P w = .ok (v.conc φ) w ∧ v.ok φ A := by
  have hg : (eqGuard op t x y (.string ⟨a.toArray⟩) (.string ⟨b.toArray⟩)).run P w = .ok () w := by
    unfold eqGuard
    split <;> rfl
  rw [Sem.run_bind, hg, Result.andThen_ok]
  have hb : (binOp op t (.string ⟨a.toArray⟩) (.string ⟨b.toArray⟩)) = Op.stringOp op ⟨a.toArray⟩ ⟨b.toArray⟩ := by cases op <;> rfl
  rw [hb]
  cases op <;> simp only [strBin, Option.some.injEq, Prod.mk.injEq] at h <;> first | (cases h; done) | skip
  all_goals obtain ⟨rfl, rfl⟩ := h
  all_goals refine ⟨?_, by simp [AV.ok]⟩
  case add =>
    have := hp _ rfl
    simp only [Op.stringOp]
    have hsz : (((ByteArray.mk a.toArray).size + (ByteArray.mk b.toArray).size : Nat) : Int) = (a.length + b.length : Nat) := by simp [ByteArray.size]
    rw [hsz, if_neg]
    · rw [bytes_append]; rfl
    · simp [IntKind.max, IntKind.signed, IntKind.bits]; omega
  all_goals
    simp only [Op.stringOp, bytes_toList]
    rfl

theorem bin_nil {op : BinOp} {t : TypeId} {T : ATy} (hT : TyOk P t T) {x y : Operand} {a b : AV} {p : Option Prop}
    (h : nilBin T.kind (isConstC y) op a b = some (p, v)) (w : World) :
    (do eqGuard op t x y (a.conc φ) (b.conc φ); binOp op t (a.conc φ) (b.conc φ) : Sem Value).run P w = .ok (v.conc φ) w ∧ v.ok φ A := by
  obtain ⟨dd, hd, hk⟩ := hT.under_ex
  have hu : ∀ w, (underlying t).run P w = .ok dd w := fun w => run_underlying hd w
  have key : ∀ (va vb : Value) (r : Bool), (∀ n w, (Op.equalIn (n + 1) t va vb).run P w = .ok r w) → (eqGuard .eql t x y va vb).run P w = .ok () w → (eqGuard .neq t x y va vb).run P w = .ok () w →
      (binOp .eql t va vb = do pure (.bool (← Op.equal t va vb))) → (binOp .neq t va vb = do pure (.bool (!(← Op.equal t va vb)))) → eqRes op r = some (p, v) →
      (do eqGuard op t x y va vb; binOp op t va vb : Sem Value).run P w = .ok (v.conc φ) w ∧ v.ok φ A := by
    intro va vb r he hg hg' hb hb' hr
    have he' : ∀ w, (Op.equal t va vb).run P w = .ok r w := he 9999
    rcases eqRes_inv hr with ⟨rfl, rfl⟩ | ⟨rfl, rfl⟩
    · rw [Sem.run_bind, hg, Result.andThen_ok, hb]; simp [he', AV.ok]
    · rw [Sem.run_bind, hg', Result.andThen_ok, hb']; simp [he', AV.ok]
  cases hkk : T.kind <;> simp only [hkk, nilBin] at h <;> first | (cases h; done) | skip
  all_goals
    rw [hkk] at hk
    cases dd <;> simp [kindOf] at hk
    repeat' split at h
  all_goals first | (cases h; done) | skip
  all_goals
    refine key _ _ _ (fun n w => ?_) ?_ ?_ rfl rfl h
    · rw [Op.equalIn, Sem.run_bind, hu, Result.andThen_ok]; rfl
    · first
        | rfl
        | (have hc : isConstC y = true := by assumption
           cases y <;> simp [isConstC] at hc
           simp [eqGuard])
    · first
        | rfl
        | (have hc : isConstC y = true := by assumption
           cases y <;> simp [isConstC] at hc
           simp [eqGuard])

theorem aBin_run (hG : GOk P Γ) {op : BinOp} {t : TypeId} {x y : Operand} {a b : AV} {p : Option Prop} (h : aBin Γ op t (isConstC y) a b = some (p, v)) (hp : ∀ q, p = some q → q) (w : World) :
    (do eqGuard op t x y (a.conc φ) (b.conc φ); binOp op t (a.conc φ) (b.conc φ) : Sem Value).run P w = .ok (v.conc φ) w ∧ v.ok φ A := by
  have hnil : ∀ T, Γ.ty.get t = some T → nilBin T.kind (isConstC y) op a b = some (p, v) →
      (do eqGuard op t x y (a.conc φ) (b.conc φ); binOp op t (a.conc φ) (b.conc φ) : Sem Value).run P w = .ok (v.conc φ) w ∧ v.ok φ A :=
    fun T hT h => bin_nil (hG.ty _ _ hT) h w
  have hgen : (match Γ.ty.get t with | some T => nilBin T.kind (isConstC y) op a b | none => none) = some (p, v) →
      (do eqGuard op t x y (a.conc φ) (b.conc φ); binOp op t (a.conc φ) (b.conc φ) : Sem Value).run P w = .ok (v.conc φ) w ∧ v.ok φ A := by
    intro h
    split at h
    · rename_i T hT; exact hnil T hT h
    · cases h
  cases a
  case int k n =>
    cases b <;> simp only [aBin] at h <;> first | (cases h; done) | skip
    exact bin_ints h hp w
  case str s =>
    cases b <;> simp only [aBin] at h <;> first | (cases h; done) | skip
    exact bin_strs h hp w
  case strct as =>
    cases b <;> simp only [aBin] at h <;> first | (cases h; done) | skip
    rename_i bs
    repeat' split at h
    all_goals first | (cases h; done) | skip
    rename_i _ hm _ T hT _ hfit _ r hr
    simp only [Bool.and_eq_true] at hfit
    obtain ⟨h1, h2⟩ := hG.eqt t hm T hT
    have he := h2 as bs r hfit.1 hfit.2 hr φ
    rcases eqRes_inv h with ⟨rfl, rfl⟩ | ⟨rfl, rfl⟩
    · refine ⟨?_, by simp [AV.ok]⟩
      have hg : (eqGuard .eql t x y ((AV.strct as).conc φ) ((AV.strct bs).conc φ)).run P w = .ok () w := by
        simp [eqGuard, h1]
      rw [Sem.run_bind, hg, Result.andThen_ok]
      simp only [binOp, conc_strct, Sem.run_bind] at he ⊢
      rw [he]
      rfl
    · refine ⟨?_, by simp [AV.ok]⟩
      have hg : (eqGuard .neq t x y ((AV.strct as).conc φ) ((AV.strct bs).conc φ)).run P w = .ok () w := by
        simp [eqGuard, h1]
      rw [Sem.run_bind, hg, Result.andThen_ok]
      simp only [binOp, conc_strct, Sem.run_bind] at he ⊢
      rw [he]
      rfl
  all_goals exact hgen h

theorem op_binOp {o : Oper} (hG : GOk P Γ) (hs : Sim φ A σ w) (hf : FrOk φ A fr tmps) {op : BinOp} {t t' : TypeId} {x y : Operand} (ho : o.op = .binOp op t x y t')
    (h : (aop Γ fr σ (.binOp op t x y t')).gives v σ') : OpRes P φ A σ w (execOp (Act.eval ⟨tmps, d⟩) o) v σ' := by
  simp only [aop] at h
  repeat' split at h
  all_goals first | exact False.elim h | skip
  rename_i a ha _ b hb
  obtain ⟨rfl, p, h1, h2⟩ := ofPair_gives h
  obtain ⟨k1, k2⟩ := ev_ok (d := d) hf ha
  obtain ⟨k3, k4⟩ := ev_ok (d := d) hf hb
  obtain ⟨r1, r2⟩ := aBin_run (φ := φ) (A := A) hG (x := x) h1 h2 w
  refine .same hs ?_ r2
  simp only [execOp, ho, k1, k3]
  rw [Sem.run_bind, r1]
  rfl

theorem op_unOp {o : Oper} (hs : Sim φ A σ w) (hf : FrOk φ A fr tmps) {op : UnOp} {t : TypeId} {x : Operand} (ho : o.op = .unOp op t x)
    (h : (aop Γ fr σ (.unOp op t x)).gives v σ') : OpRes P φ A σ w (execOp (Act.eval ⟨tmps, d⟩) o) v σ' := by
  cases hx : ev fr x with
  | none => simp only [aop, hx] at h; exact h.elim
  | some a =>
    obtain ⟨k1, k2⟩ := ev_ok (d := d) hf hx
    cases a
    case bool b =>
      cases op <;> simp only [aop, hx] at h <;> first | exact False.elim h | skip
      obtain ⟨rfl, rfl⟩ := h
      exact .same hs (by simp only [execOp, ho, k1]; rfl) (by simp [AV.ok])
    case int k n =>
      cases op <;> simp only [aop, hx] at h <;> first | exact False.elim h | skip
      all_goals
        obtain ⟨rfl, rfl⟩ := h
        exact .same hs (by simp only [execOp, ho, k1]; rfl) (by simp [AV.ok])
    all_goals (simp only [aop, hx] at h; exact h.elim)

theorem op_convert {o : Oper} (hG : GOk P Γ) (hs : Sim φ A σ w) (hf : FrOk φ A fr tmps) {t t' : TypeId} {x : Operand} (ho : o.op = .convert t t' x)
    (h : (aop Γ fr σ (.convert t t' x)).gives v σ') : OpRes P φ A σ w (execOp (Act.eval ⟨tmps, d⟩) o) v σ' := by
  simp only [aop] at h
  repeat' split at h
  all_goals first | exact False.elim h | skip
  · rename_i S hS _ T hT _ k n hx _ k' hk
    obtain ⟨rfl, rfl⟩ := h
    obtain ⟨k1, k2⟩ := ev_ok (d := d) hf hx
    obtain ⟨ds, hds, _⟩ := (hG.ty _ _ hS).run_under w
    obtain ⟨dt, hdt, hkt⟩ := (hG.ty _ _ hT).run_under w
    rw [hk] at hkt
    cases dt <;> simp [kindOf] at hkt
    subst hkt
    refine .same hs ?_ (by simp [AV.ok])
    simp only [execOp, ho, k1, convert, Sem.run_bind, hds, hdt, Result.andThen_ok, conc_int]
    rfl
  · rename_i S hS _ T hT _ s hx _ hk
    obtain ⟨rfl, rfl⟩ := h
    obtain ⟨k1, k2⟩ := ev_ok (d := d) hf hx
    obtain ⟨ds, hds, _⟩ := (hG.ty _ _ hS).run_under w
    obtain ⟨dt, hdt, hkt⟩ := (hG.ty _ _ hT).run_under w
    rw [hk] at hkt
    cases dt <;> simp [kindOf] at hkt
    refine .same hs ?_ (by simp [AV.ok])
    simp only [execOp, ho, k1, convert, Sem.run_bind, hds, hdt, Result.andThen_ok, conc_str]
    rfl

theorem op_makeInterface {o : Oper} (hG : GOk P Γ) (hs : Sim φ A σ w) (hf : FrOk φ A fr tmps) {t : TypeId} {x : Operand} (ho : o.op = .makeInterface t x)
    (h : (aop Γ fr σ (.makeInterface t x)).gives v σ') : OpRes P φ A σ w (execOp (Act.eval ⟨tmps, d⟩) o) v σ' := by
  simp only [aop] at h
  repeat' split at h
  all_goals first | exact False.elim h | skip
  rename_i T hT _ y hx _ hk
  obtain ⟨rfl, rfl⟩ := h
  obtain ⟨k1, k2⟩ := ev_ok (d := d) hf hx
  obtain ⟨dt, hdt, hkt⟩ := (hG.ty _ _ hT).run_under w
  refine .same hs ?_ (by simpa [AV.ok] using k2)
  simp only [execOp, ho, k1, Instr.makeInterface, Sem.run_bind, hdt, Result.andThen_ok, conc_iface]
  cases dt <;> simp [kindOf] at hkt <;> first | rfl | (exact absurd hkt.symm hk)

theorem op_makeFunc {o : Oper} (hs : Sim φ A σ w) (hf : FrOk φ A fr tmps) {f : FuncId} {a c : Array Operand} (ho : o.op = .makeFunc (.func f) a c)
    (h : (aop Γ fr σ (.makeFunc (.func f) a c)).gives v σ') : OpRes P φ A σ w (execOp (Act.eval ⟨tmps, d⟩) o) v σ' := by
  simp only [aop] at h
  repeat' split at h
  all_goals first | exact False.elim h | skip
  rename_i as ha _ cs hc
  obtain ⟨rfl, rfl⟩ := h
  obtain ⟨k1, k2⟩ := evs_ok (d := d) hf ha
  obtain ⟨k3, k4⟩ := evs_ok (d := d) hf hc
  refine .same hs ?_ (by simp [AV.ok, k2, k4])
  have e1 : a.map (Act.eval ⟨tmps, d⟩) = (as.map (·.conc φ)).toArray := Array.toList_inj.1 (by rw [Array.toList_map, k1])
  have e2 : c.map (Act.eval ⟨tmps, d⟩) = (cs.map (·.conc φ)).toArray := Array.toList_inj.1 (by rw [Array.toList_map, k3])
  simp only [execOp, ho, Instr.makeFunc, conc_fn, Sem.run_bind, Sem.run_pure, Result.andThen_ok, e1, e2]

theorem op_nilCheck {o : Oper} (hs : Sim φ A σ w) (hf : FrOk φ A fr tmps) {x : Operand} (ho : o.op = .nilCheck x)
    (h : (aop Γ fr σ (.nilCheck x)).gives v σ') : OpRes P φ A σ w (execOp (Act.eval ⟨tmps, d⟩) o) v σ' := by
  simp only [aop] at h
  repeat' split at h
  all_goals first | exact False.elim h | skip
  all_goals
    rename_i hx
    obtain ⟨rfl, rfl⟩ := h
    obtain ⟨k1, k2⟩ := ev_ok (d := d) hf hx
    refine .same hs ?_ k2
    simp only [execOp, ho, k1]
    rfl

theorem nth_map {α β : Type} (f : α → β) : (l : List α) → (i : Nat) → nth (l.map f) i = (nth l i).map f
  | [], _ => rfl
  | _ :: _, 0 => rfl
  | _ :: r, i + 1 => nth_map f r i

theorem nth_eq {α : Type} : (l : List α) → (i : Nat) → nth l i = l[i]?
  | [], _ => rfl
  | _ :: _, 0 => rfl
  | _ :: r, i + 1 => by simp [nth, nth_eq r i]

theorem oks_nth {vs : List AV} (h : AV.oks φ A vs) {i : Nat} {x : AV} (hn : nth vs i = some x) : x.ok φ A :=
  (oks_mem vs).1 h x (by rw [nth_eq] at hn; exact List.mem_of_getElem? hn)

theorem op_extract {o : Oper} (hs : Sim φ A σ w) (hf : FrOk φ A fr tmps) {x : Operand} {i : Nat} (ho : o.op = .extract x i)
    (h : (aop Γ fr σ (.extract x i)).gives v σ') : OpRes P φ A σ w (execOp (Act.eval ⟨tmps, d⟩) o) v σ' := by
  simp only [aop] at h
  repeat' split at h
  all_goals first | exact False.elim h | skip
  rename_i vs hx _ y hy
  obtain ⟨rfl, rfl⟩ := h
  obtain ⟨k1, k2⟩ := ev_ok (d := d) hf hx
  simp only [AV.ok] at k2
  refine .same hs ?_ (oks_nth k2 hy)
  rw [nth_eq] at hy
  simp only [execOp, ho, k1, Instr.extract, conc_tuple]
  simp [hy]

theorem op_makeMap {o : Oper} (hs : Sim φ A σ w) {t : TypeId} (ho : o.op = .makeMap t none)
    (h : (aop Γ fr σ (.makeMap t none)).gives v σ') : OpRes P φ A σ w (execOp (Act.eval ⟨tmps, d⟩) o) v σ' := by
  obtain ⟨nx, hp⟩ := σ
  simp only [aop] at h
  repeat' split at h
  all_goals first | exact False.elim h | skip
  rename_i kk _
  obtain ⟨rfl, rfl⟩ := h
  obtain ⟨s1, s2, s3⟩ := hs.alloc ⟨w.heap.size, 0, 0, .leaf⟩ (.map kk []) (w.alloc (.map #[] 0)) rfl (by simp) (fun c hc => by show (w.heap.push _)[c]? = _; rw [Array.getElem?_push, if_neg (by omega)]) ⟨rfl, rfl, rfl, Nat.le_refl _⟩
    ⟨#[], 0, by show (w.heap.push _)[w.heap.size]? = _; simp, by simp, by simp, by simp, by simp, by simp⟩
  refine ⟨_, _, _, _, ?_, .inl rfl, by simp [AV.ok], s1, s2⟩
  simp [execOp, ho, Instr.makeMap, upd]

end Go.Ab
