/- The abstract machine: the model's operations do what the abstract ones say (tenth part: the built-in functions, and all operations together). Conditions: none. -/
import Derived.Test.YtanifbomohnefaaDoorAb12
namespace Go.Ab
open Go

variable {P : Program} {Γ : Env} {φ : Phi} {A : Nat → Prop} {σ σ' : AState} {w : World} {fr : AFr} {tmps : Array Value} {d : List Deferred} {v : AV}

theorem arr_of_toList {α : Type} {a : Array α} {l : List α} (h : a.toList = l) : a = l.toArray := Array.toList_inj.1 (by rw [h])

theorem exec_builtin {o : Oper} {b : Builtin} {args : Array Operand} {tys : Array TypeId} (ho : o.op = .call ⟨.builtin b, args, tys⟩) (ρ : Operand → Value) :
    execOp ρ o = builtin b tys o.type (args.map fun | .const _ => true | _ => false) (args.map ρ) := by
  simp only [execOp, ho, resolve]
  rfl

theorem op_append {o : Oper} (hG : GOk P Γ) (hs : Sim φ A σ w) (hf : FrOk φ A fr tmps) {args : Array Operand} {tys : Array TypeId} (ho : o.op = .call ⟨.builtin .append, args, tys⟩)
    (h : (aop Γ fr σ (.call ⟨.builtin .append, args, tys⟩)).gives v σ') : OpRes P φ A σ w (execOp (Act.eval ⟨tmps, d⟩) o) v σ' := by
  obtain ⟨nx, hp⟩ := σ
  simp only [aop] at h
  repeat' split at h
  all_goals first | exact False.elim h | skip
  rename_i _ t t' htys _ s x hargs _ T' hT' _ e' hk' _ sv hsv _ xv hxv
  unfold aappend at h
  repeat' split at h
  all_goals first | exact False.elim h | skip
  rename_i T hT _ e hk _ E hE _ n g hsrc
  have hT := hG.ty _ _ hT
  have hT' := hG.ty _ _ hT'
  have hE := hG.ty _ _ hE
  obtain ⟨k1, k2⟩ := ev_ok (d := d) hf hsv
  obtain ⟨k3, k4⟩ := ev_ok (d := d) hf hxv
  obtain ⟨dd, hd, hkd⟩ := hT.under_ex
  rw [hk] at hkd
  cases dd <;> simp [kindOf] at hkd
  rename_i el
  subst hkd
  obtain ⟨dd', hd', hkd'⟩ := hT'.under_ex
  rw [hk'] at hkd'
  cases dd' <;> simp [kindOf] at hkd'
  subst hkd'
  obtain ⟨i, hi, hi1, hi2, hi3⟩ := hE.info_ex φ
  obtain ⟨x1, x2, x3, x4⟩ := src_ok hE hs k4 hsrc
  obtain ⟨_, _, _, x4'⟩ := src_ok hE hs.drew k4 hsrc
  have hex : execOp (Act.eval ⟨tmps, d⟩) o = (do pure (Next.value (← Builtin.append_ #[t, t'] o.type #[sv.conc φ, xv.conc φ]))) := by
    rw [exec_builtin ho, arr_of_toList hargs, arr_of_toList htys]
    simp only [builtin, List.map_toArray, List.map_cons, List.map_nil, k1, k3]
  have hroom : ∀ need : Nat, need * (E.bytes + 1) ≤ room → need ≤ 35184372088832 ∧ need * i.bytes ≤ 140737488355328 := by
    intro need hn
    have h1 : need * (E.bytes + 1) = need * E.bytes + need := by rw [Nat.mul_add, Nat.mul_one]
    simp only [room] at hn
    rw [hi2]
    omega
  -- a new array in a new block
  have new : ∀ (base : Option Addr) (sLen sCap : Nat) (f : Nat → AV) (olds : List Value) (hp' : List (Nat × Option AObj)), sv.conc φ = .slice base sLen sCap → sCap < sLen + n → (sLen + n) * (E.bytes + 1) ≤ room →
      (Builtin.firstCells i.size sLen (.slice base sLen sCap)).run P w.drew = .ok olds.toArray w.drew → (∀ j, j < sLen + n → HasSh E.sh (f j)) → (∀ j, j < sLen + n → (f j).ok φ A) →
      ((List.range (sLen + n)).flatMap fun j => (f j).flat φ) = olds ++ (List.range n).flatMap (fun j => (g j).flat φ) → Sim φ A ⟨nx, hp'⟩ w →  Evo φ A ⟨nx, hp⟩ w φ A ⟨nx, hp'⟩ w →
      OpRes P φ A ⟨nx, hp⟩ w (execOp (Act.eval ⟨tmps, d⟩) o) (.slice nx [] 0 (sLen + n) (sLen + n)) ⟨nx + 1, (nx, some (.mem (.arr (sLen + n) E.sh) (.arr (sLen + n) f) .open)) :: hp'⟩ := by
    intro base sLen sCap f olds hp' e1 e2 e3 e4 e5 e6 e7 e8 e9
    obtain ⟨r1, r2⟩ := hroom _ e3
    obtain ⟨φ', A', s1, s2, s3, s4⟩ := grow_new (cells := olds.toArray ++ ((List.range n).flatMap fun j => (g j).flat φ).toArray) e8.drew hE e5 e6 (by rw [e7]; simp) (grownCap_le w (sLen + n) sCap el) _ rfl
    refine ⟨φ', A', _, _, ?_, .inl rfl, s4, s1, (e9.trans (evo_drew _ _ _ _)).trans s2⟩
    rw [hex, e1, Sem.run_bind, append_grow t t' o.type el _ i _ hd hd' hi hi3 base sLen sCap (xv.conc φ) n x1 olds.toArray _ e4 (by rw [hi1]; exact x4' n (Nat.le_refl _)) e2 (by omega) (growslice_fits e2 r2)]
    rw [s3]
    rfl
  unfold aappendTo at h
  cases sv <;> simp only at h <;> first | exact False.elim h | skip
  case nilslice =>
    cases n with
    | zero =>
      obtain ⟨rfl, rfl⟩ := h
      refine .same hs ?_ (by simp [AV.ok])
      have hl := x1 w
      have hf0 := x4 0 (Nat.le_refl _)
      rw [hex]
      simp only [conc_nilslice]
      rw [← hi1] at hf0
      have hnone : (Builtin.append_ #[t, t'] o.type #[.slice none 0 0, xv.conc φ]).run P w = .ok (.slice none 0 0) w := by
        simp [Builtin.append_, run_underlying hd, run_underlying hd', sizeOf, typeInfo, hi, hl, hf0]
      rw [Sem.run_bind, hnone]
      rfl
    | succ n =>
      simp only [grown] at h
      obtain ⟨h0, rfl, rfl⟩ := h
      have := new none 0 0 g [] hp rfl (by omega) (by simpa using h0) rfl (by simpa using x2) (by simpa using x3) (by simp) hs (.refl _ _ _ _)
      simpa using this
  case slice b p st len cap =>
    split at h <;> first | exact False.elim h | skip
    rename_i a ha
    simp only [AV.ok] at k2
    obtain ⟨q1, q2, q3, n', es', q4, q5⟩ := k2
    obtain ⟨c1, c2, c3, cs, ec, lo, hi', c4, c5⟩ := arr_cells hs ha q2
    have hsh := (arr_at hs ha).2.1
    have hget := (arr_at hs ha).1
    rw [hsh, c1] at q4
    simp only [Option.some.injEq, Sh.arr.injEq] at q4
    obtain ⟨rfl, rfl⟩ := q4
    have hes : elemSize (φ b).sh p = E.sh.size := by simp only [elemSize, hsh, c1]
    -- the elements that are there
    have hold : ∀ w', w' = w ∨ w' = w.drew → (Builtin.firstCells i.size len (.slice (some ⟨(φ b).blk, (φ b).off + (φ b).sh.off p + st * elemSize (φ b).sh p, none⟩) len (cap + spareOf (φ b) p st cap))).run P w' = .ok ((List.range len).flatMap fun j => (a.f (st + j)).flat φ).toArray w' := by
      intro w' hw'
      have hsrc' : srcOf ⟨nx, hp⟩ E.sh (.slice b p st len cap) = some (len, fun j => a.f (st + j)) := by simp only [srcOf, ha]
      have hok' : (AV.slice b p st len cap).ok φ A := by simp only [AV.ok]; exact ⟨q1, q2, q3, _, _, by rw [hsh, c1], q5⟩
      rw [hi1]
      rcases hw' with rfl | rfl
      · exact (src_ok hE hs hok' hsrc').2.2.2 len (Nat.le_refl _)
      · exact (src_ok hE hs.drew hok' hsrc').2.2.2 len (Nat.le_refl _)
    have hjs : ∀ j, j < len + n → HasSh E.sh (joined len (fun j => a.f (st + j)) g j) := fun j hj => by
      simp only [joined]; split
      · exact c2 _ (by omega)
      · exact x2 _ (by omega)
    have hjo : ∀ j, j < len + n → (joined len (fun j => a.f (st + j)) g j).ok φ A := fun j hj => by
      simp only [joined]; split
      · exact c3 _ (by omega)
      · exact x3 _ (by omega)
    have hjf := joined_flat φ (fun j => a.f (st + j)) g len n
    split at h
    · -- there is room
      rename_i hble
      have hble := Nat.le_of_ble_eq_true hble
      split at h <;> first | exact False.elim h | skip
      rename_i hro
      obtain ⟨rfl, rfl⟩ := h
      obtain ⟨w', s1, s2, s3⟩ := storeElems_run (P := P) hs ha (fun e => hro e) q2 (i := st + len) (n := n) (by omega) x2 x3
      refine ⟨φ, A, w', _, ?_, .inl rfl, ?_, s2, s3⟩
      · rw [hex, conc_slice, Sem.run_bind, append_room t t' o.type el _ i hd hd' hi _ len (cap + spareOf (φ b) p st cap) (xv.conc φ) n x1 _ w' (by rw [hi1]; exact x4 n (Nat.le_refl _)) ?_ (by omega)]
        · simp only [Result.andThen_ok, Sem.run_pure, conc_slice]
        · rw [addr_add, hes, hi1, ← hE.size_eq, Nat.add_assoc _ (st * _), ← Nat.add_mul]
          exact s1
      · simp only [AV.ok]
        exact ⟨q1, q2, hble, _, _, by rw [hsh, c1], q5⟩
    · -- there is none that is known
      rename_i hble
      have hble : ¬ (len + n ≤ cap) := fun e => by rw [Nat.ble_eq_true_of_le e] at hble; cases hble
      split at h
      · -- surely none
        rename_i htight
        simp only [grown] at h
        obtain ⟨h0, rfl, rfl⟩ := h
        obtain ⟨_, _, _, _, _, _, _, _, _, _, hsp0, _⟩ := hs.obj b _ hget
        have hz := hsp0 htight
        have hs0 : spareOf (φ b) p st cap = 0 := by
          unfold spareOf; split
          · rw [hz]; simp
          · rfl
        exact new _ len (cap + spareOf (φ b) p st cap) _ ((List.range len).flatMap fun j => (a.f (st + j)).flat φ) hp (conc_slice ..) (by omega) h0 (hold _ (.inr rfl)) hjs hjo hjf hs (.refl _ _ _ _)
      · rename_i hopen
        split at h <;> first | exact False.elim h | skip
        simp only [grown] at h
        obtain ⟨h0, rfl, rfl⟩ := h
        obtain ⟨kill1, kill2⟩ := hs.kill b
        by_cases hcap : cap + spareOf (φ b) [] st cap < len + n
        · exact new _ len (cap + spareOf (φ b) [] st cap) _ ((List.range len).flatMap fun j => (a.f (st + j)).flat φ) _ (conc_slice ..) hcap h0 (hold _ (.inr rfl)) hjs hjo hjf kill1 kill2
        · -- it goes on in its own block
          have hash : a.sh = .arr a.n E.sh := by
            have : a.sh.at [] = some a.sh := by cases a.sh <;> rfl
            rw [this] at c1; injection c1
          have hav : a.v = .arr a.n a.f := by
            have h4 := (arr_at hs ha).2.2.2
            have : a.v.at [] = some a.v := by cases a.v <;> rfl
            rw [this] at h4; injection h4
          have hspare : st + (cap + spareOf (φ b) [] st cap) ≤ a.n + (φ b).spare := by
            unfold spareOf
            split
            · split <;> omega
            · omega
          rw [hash, hav, hopen] at hget
          obtain ⟨w', φ', A', s1, s2, s3, s4, s5⟩ := grow_old (P := P) hs hget (st := st) (len := len) (need := len + n) (sCap := cap + spareOf (φ b) [] st cap) hjs hjo (L := (List.range n).flatMap fun j => (g j).flat φ) (by omega) (by omega) (by omega) hspare
            (fun f0 hf0 => by rw [AV.arr.injEq] at hf0; rw [← hf0.2, hjf]) (fun z hz => by
              obtain ⟨j, hj, hz⟩ := List.mem_flatMap.1 hz
              exact flat_one E.sh _ (x2 j (List.mem_range.1 hj)) z hz)
          refine ⟨φ', A', w', _, ?_, .inl rfl, s5, s2, s3⟩
          have hoff : (φ b).sh.off [] = 0 := by cases (φ b).sh <;> rfl
          rw [hex, conc_slice, Sem.run_bind, append_room t t' o.type el _ i hd hd' hi _ len (cap + spareOf (φ b) [] st cap) (xv.conc φ) n x1 _ w' (by rw [hi1]; exact x4 n (Nat.le_refl _)) ?_ (by omega)]
          · rw [s4, hes, hoff]
            simp only [Result.andThen_ok, Sem.run_pure, Nat.add_zero]
          · rw [addr_add, hes, hi1, ← hE.size_eq, hoff, Nat.add_zero]
            exact s1
      · exact False.elim h


theorem op_len {o : Oper} (hG : GOk P Γ) (hs : Sim φ A σ w) (hf : FrOk φ A fr tmps) {args : Array Operand} {tys : Array TypeId} (ho : o.op = .call ⟨.builtin .len, args, tys⟩)
    (h : (aop Γ fr σ (.call ⟨.builtin .len, args, tys⟩)).gives v σ') : OpRes P φ A σ w (execOp (Act.eval ⟨tmps, d⟩) o) v σ' := by
  simp only [aop] at h
  repeat' split at h
  all_goals first | exact False.elim h | skip
  · rename_i _ t htys _ x hargs _ T hT _ e hk _ b p s n c hx
    obtain ⟨rfl, rfl⟩ := h
    have hT := hG.ty _ _ hT
    obtain ⟨k1, k2⟩ := ev_ok (d := d) hf hx
    obtain ⟨dd, hd, hkd⟩ := hT.under_ex
    rw [hk] at hkd
    cases dd <;> simp [kindOf] at hkd
    refine .same hs ?_ (by simp [AV.ok])
    rw [exec_builtin ho, arr_of_toList hargs, arr_of_toList htys]
    simp only [builtin, List.map_toArray, List.map_cons, List.map_nil, k1, Builtin.len_, Sem.run_bind, List.getElem?_toArray, List.getElem?_cons_zero, run_underlying hd, Result.andThen_ok, conc_slice, conc_nilslice, conc_str, Sem.run_pure]
    simp [goInt, ByteArray.size]
  · rename_i _ t htys _ x hargs _ T hT _ e hk _ hx
    obtain ⟨rfl, rfl⟩ := h
    have hT := hG.ty _ _ hT
    obtain ⟨k1, k2⟩ := ev_ok (d := d) hf hx
    obtain ⟨dd, hd, hkd⟩ := hT.under_ex
    rw [hk] at hkd
    cases dd <;> simp [kindOf] at hkd
    refine .same hs ?_ (by simp [AV.ok])
    rw [exec_builtin ho, arr_of_toList hargs, arr_of_toList htys]
    simp only [builtin, List.map_toArray, List.map_cons, List.map_nil, k1, Builtin.len_, Sem.run_bind, List.getElem?_toArray, List.getElem?_cons_zero, run_underlying hd, Result.andThen_ok, conc_slice, conc_nilslice, conc_str, Sem.run_pure]
    simp [goInt, ByteArray.size]
  · rename_i _ t htys _ x hargs _ T hT _ hk _ s hx
    obtain ⟨rfl, rfl⟩ := h
    have hT := hG.ty _ _ hT
    obtain ⟨k1, k2⟩ := ev_ok (d := d) hf hx
    obtain ⟨dd, hd, hkd⟩ := hT.under_ex
    rw [hk] at hkd
    cases dd <;> simp [kindOf] at hkd
    refine .same hs ?_ (by simp [AV.ok])
    rw [exec_builtin ho, arr_of_toList hargs, arr_of_toList htys]
    simp only [builtin, List.map_toArray, List.map_cons, List.map_nil, k1, Builtin.len_, Sem.run_bind, List.getElem?_toArray, List.getElem?_cons_zero, run_underlying hd, Result.andThen_ok, conc_slice, conc_nilslice, conc_str, Sem.run_pure]
    simp [goInt, ByteArray.size]

theorem op_copy {o : Oper} (hG : GOk P Γ) (hs : Sim φ A σ w) (hf : FrOk φ A fr tmps) {args : Array Operand} {tys : Array TypeId} (ho : o.op = .call ⟨.builtin .copy, args, tys⟩)
    (h : (aop Γ fr σ (.call ⟨.builtin .copy, args, tys⟩)).gives v σ') : OpRes P φ A σ w (execOp (Act.eval ⟨tmps, d⟩) o) v σ' := by
  obtain ⟨nx, hp⟩ := σ
  simp only [aop] at h
  repeat' split at h
  all_goals first | exact False.elim h | skip
  rename_i _ t t' htys _ s x hargs _ T hT _ e hk _ E hE _ b p st len cap hsv _ xv hxv _ n g hsrc _ a ha _ hro
  obtain ⟨rfl, rfl⟩ := h
  have hT := hG.ty _ _ hT
  have hE := hG.ty _ _ hE
  obtain ⟨k1, k2⟩ := ev_ok (d := d) hf hsv
  obtain ⟨k3, k4⟩ := ev_ok (d := d) hf hxv
  obtain ⟨dd, hd, hkd⟩ := hT.under_ex
  rw [hk] at hkd
  cases dd <;> simp [kindOf] at hkd
  subst hkd
  obtain ⟨i, hi, hi1, hi2, hi3⟩ := hE.info_ex φ
  obtain ⟨x1, x2, x3, x4⟩ := src_ok hE hs k4 hsrc
  simp only [AV.ok] at k2
  obtain ⟨q1, q2, q3, n', es', q4, q5⟩ := k2
  obtain ⟨c1, c2, c3, cs, ec, lo, hi', c4, c5⟩ := arr_cells hs ha q2
  have hsh := (arr_at hs ha).2.1
  rw [hsh, c1] at q4
  simp only [Option.some.injEq, Sh.arr.injEq] at q4
  obtain ⟨rfl, rfl⟩ := q4
  have hes : elemSize (φ b).sh p = E.sh.size := by simp only [elemSize, hsh, c1]
  obtain ⟨w', s1, s2, s3⟩ := storeElems_run (P := P) hs ha (fun e => hro e) q2 (i := st) (n := min n len) (by omega) (fun j hj => x2 j (by omega)) (fun j hj => x3 j (by omega))
  refine ⟨φ, A, w', _, ?_, .inl rfl, by simp [AV.ok], s2, s3⟩
  have hmin : Nat.min n len = min n len := rfl
  rw [exec_builtin ho, arr_of_toList hargs, arr_of_toList htys]
  simp only [builtin, List.map_toArray, List.map_cons, List.map_nil, k1, k3, Builtin.copy_, Sem.run_bind, List.getElem?_toArray, List.getElem?_cons_zero, List.getElem?_cons_succ, run_underlying hd, Result.andThen_ok, conc_slice, x1, hE.run_size, hmin, x4 (min n len) (by omega), hes]
  rw [s1]
  rfl

theorem op_min {o : Oper} (hs : Sim φ A σ w) (hf : FrOk φ A fr tmps) {args : Array Operand} {tys : Array TypeId} (ho : o.op = .call ⟨.builtin .min, args, tys⟩)
    (h : (aop Γ fr σ (.call ⟨.builtin .min, args, tys⟩)).gives v σ') : OpRes P φ A σ w (execOp (Act.eval ⟨tmps, d⟩) o) v σ' := by
  simp only [aop] at h
  split at h <;> first | exact False.elim h | skip
  rename_i _ x y hargs
  split at h <;> first | exact False.elim h | skip
  rename_i _ k a hx
  split at h <;> first | exact False.elim h | skip
  rename_i _ k' b hy
  obtain ⟨rfl, rfl⟩ := h
  obtain ⟨k1, _⟩ := ev_ok (d := d) hf hx
  obtain ⟨k3, _⟩ := ev_ok (d := d) hf hy
  refine .same hs ?_ (by simp [AV.ok])
  rw [exec_builtin ho, arr_of_toList hargs]
  simp only [builtin, List.map_toArray, List.map_cons, List.map_nil, k1, k3, Builtin.min_, conc_int]
  rfl

theorem op_max {o : Oper} (hs : Sim φ A σ w) (hf : FrOk φ A fr tmps) {args : Array Operand} {tys : Array TypeId} (ho : o.op = .call ⟨.builtin .max, args, tys⟩)
    (h : (aop Γ fr σ (.call ⟨.builtin .max, args, tys⟩)).gives v σ') : OpRes P φ A σ w (execOp (Act.eval ⟨tmps, d⟩) o) v σ' := by
  simp only [aop] at h
  split at h <;> first | exact False.elim h | skip
  rename_i _ x y hargs
  split at h <;> first | exact False.elim h | skip
  rename_i _ k a hx
  split at h <;> first | exact False.elim h | skip
  rename_i _ k' b hy
  obtain ⟨rfl, rfl⟩ := h
  obtain ⟨k1, _⟩ := ev_ok (d := d) hf hx
  obtain ⟨k3, _⟩ := ev_ok (d := d) hf hy
  refine .same hs ?_ (by simp [AV.ok])
  rw [exec_builtin ho, arr_of_toList hargs]
  simp only [builtin, List.map_toArray, List.map_cons, List.map_nil, k1, k3, Builtin.max_, conc_int]
  rfl

/-- Every operation but the calls of Go functions. -/
theorem aop_ok (hG : GOk P Γ) (hs : Sim φ A σ w) (hf : FrOk φ A fr tmps) (o : Oper) (h : (aop Γ fr σ o.op).gives v σ') :
    OpRes P φ A σ w (execOp (Act.eval ⟨tmps, d⟩) o) v σ' := by
  generalize hop : o.op = op at h
  cases op
  case move x => exact op_move hs hf hop h
  case assign x => exact op_assign hs hf hop h
  case pick c a b => exact op_pick hs hf hop h
  case alloc t => exact op_alloc hG hs hop h
  case box t x => exact op_box hG hs hf hop h
  case build t ps => exact op_build hG hs hf hop h
  case buildSlice t n ps => exact op_buildSlice hG hs hf hop h
  case insert t m k x => exact op_mapset hG hs hf (.inr hop) h
  case load t x => exact op_load hG hs hf hop h
  case store t x y => exact op_store hG hs hf hop h
  case nilCheck x => exact op_nilCheck hs hf hop h
  case binOp op t x y t' => exact op_binOp hG hs hf hop h
  case unOp op t x => exact op_unOp hs hf hop h
  case convert t t' x => exact op_convert hG hs hf hop h
  case makeInterface t x => exact op_makeInterface hG hs hf hop h
  case makeFunc f a c =>
    cases f <;> first | exact op_makeFunc hs hf hop h | exact False.elim h
  case makeMap t r =>
    cases r <;> first | exact op_makeMap hs hop h | exact False.elim h
  case makeSlice t x y => exact op_makeSlice hG hs hf hop h
  case slice t x lo hi mx => exact op_slice hG hs hf hop h
  case fieldAddr t x f => exact op_fieldAddr hG hs hf hop h
  case field t x f => exact op_field hG hs hf hop h
  case indexAddr t x i => exact op_indexAddr hG hs hf hop h
  case index t x i => exact op_index hG hs hf hop h
  case lookup t m k ok => exact op_lookup hG hs hf hop h
  case mapUpdate t m k x => exact op_mapset hG hs hf (.inl hop) h
  case extract t i => exact op_extract hs hf hop h
  case call c =>
    obtain ⟨callee, args, tys⟩ := c
    cases callee
    case value f => exact False.elim h
    case invoke r m => exact False.elim h
    case builtin b =>
      cases b <;> first
        | exact op_append hG hs hf hop h
        | exact op_len hG hs hf hop h
        | exact op_copy hG hs hf hop h
        | exact op_min hs hf hop h
        | exact op_max hs hf hop h
        | exact False.elim h
  all_goals exact False.elim h

/-- A call of a Go function: the model enters it. -/
theorem acall_ok (hG : GOk P Γ) (hf : FrOk φ A fr tmps) (o : Oper) {f : FuncId} {vs : List AV} (h : acallOf Γ fr o.op = some (some (f, vs))) {F : Func} (hF : Γ.fn.get f = some F) (w : World) :
    (execOp (Act.eval ⟨tmps, d⟩) o).run P w = .ok (.enter f (vs.map (·.conc φ)).toArray) w ∧ AV.oks φ A vs := by
  obtain ⟨h1, h2, h3⟩ := hG.fn f F hF
  have hcf : ∀ args w, (callFunc f args).run P w = .ok (.enter f args) w := by
    intro args w
    have hb : F.body.isNone = false := by cases hb : F.body <;> simp [hb] at h2 ⊢
    simp only [callFunc, Sem.run_bind, run_program, Result.andThen_ok, h1, h3, Bool.false_eq_true, if_false, hb, Sem.run_pure]
  generalize hop : o.op = op at h
  unfold acallOf at h
  repeat' split at h
  all_goals first | (cases h; done) | skip
  · rename_i fv args tys _ f' first cap hfv _ xs hxs
    simp only [Option.some.injEq, Prod.mk.injEq] at h
    obtain ⟨rfl, rfl⟩ := h
    obtain ⟨k1, k2⟩ := ev_ok (d := d) hf hfv
    obtain ⟨k3, k4⟩ := evs_ok (d := d) hf hxs
    simp only [AV.ok] at k2
    have e1 : args.map (Act.eval ⟨tmps, d⟩) = (xs.map (·.conc φ)).toArray := Array.toList_inj.1 (by rw [Array.toList_map, k3])
    refine ⟨?_, ?_⟩
    · simp only [execOp, hop, resolve, k1, conc_fn, Deferred.ofValue, Sem.run_bind, Sem.run_pure, Result.andThen_ok, invoke, e1]
      rw [hcf]
      congr 2
      simp
    · rw [oks_mem]
      intro x hx
      simp only [List.mem_append] at hx
      rcases hx with (hx | hx) | hx
      · exact (oks_mem _).1 k2.1 x hx
      · exact (oks_mem _).1 k4 x hx
      · exact (oks_mem _).1 k2.2 x hx
  · rename_i recv name args tys _ t v hrv _ xs hxs _ f' hm
    simp only [Option.some.injEq, Prod.mk.injEq] at h
    obtain ⟨rfl, rfl⟩ := h
    obtain ⟨k1, k2⟩ := ev_ok (d := d) hf hrv
    obtain ⟨k3, k4⟩ := evs_ok (d := d) hf hxs
    simp only [AV.ok] at k2
    have e1 : args.map (Act.eval ⟨tmps, d⟩) = (xs.map (·.conc φ)).toArray := Array.toList_inj.1 (by rw [Array.toList_map, k3])
    refine ⟨?_, by simp only [AV.oks]; exact ⟨k2, k4⟩⟩
    simp only [execOp, hop, resolve, k1, conc_iface, Sem.run_bind, Sem.run_pure, Result.andThen_ok, invoke, e1]
    have hext : ((#[Value.iface t (v.conc φ)] ++ (xs.map (·.conc φ)).toArray).extract 1 (#[Value.iface t (v.conc φ)] ++ (xs.map (·.conc φ)).toArray).size) = (xs.map (·.conc φ)).toArray := by
      apply Array.toList_inj.1
      simp [List.take_of_length_le]
    have h0 : (#[Value.iface t (v.conc φ)] ++ (xs.map (·.conc φ)).toArray)[0]? = some (Value.iface t (v.conc φ)) := by simp
    rw [h0, hext]
    simp only [callMethod, Sem.run_bind, run_program, Result.andThen_ok, hG.meth t name f' hm]
    rw [hcf]
    congr 2
    simp

end Go.Ab
