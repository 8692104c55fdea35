/- The abstract machine: the model's operations do what the abstract ones say (eighth part: maps). Conditions: none. -/
import Derived.Test.YtanifbomohnefaaDoorAb10
namespace Go.Ab
open Go

variable {P : Program} {Γ : Env} {φ : Phi} {A : Nat → Prop} {σ σ' : AState} {w : World} {fr : AFr} {tmps : Array Value} {d : List Deferred} {v : AV}

/-- The place of a key. -/
def pos (k : AV) : List (AV × AV) → Option Nat
  | [] => none
  | (k', _) :: r => match AV.keyEq k k' with
    | true => some 0
    | false => (pos k r).map (· + 1)

theorem afind_pos (k : AV) : (es : List (AV × AV)) → afind k es = match pos k es with | none => none | some j => (es[j]?).map (·.2)
  | [] => rfl
  | (k', v) :: r => by
    simp only [afind, pos]
    cases h : AV.keyEq k k' with
    | true => simp
    | false =>
      simp only [afind_pos k r]
      cases pos k r <;> simp

theorem aput_pos (k v : AV) : (es : List (AV × AV)) → aput k v es = match pos k es with | none => es ++ [(k, v)] | some j => es.set j (k, v)
  | [] => rfl
  | (k', v') :: r => by
    simp only [aput, pos]
    cases h : AV.keyEq k k' with
    | true => simp
    | false =>
      simp only [aput_pos k v r]
      cases pos k r <;> simp

theorem pos_lt {k : AV} : {es : List (AV × AV)} → {j : Nat} → pos k es = some j → ∃ p, es[j]? = some p ∧ AV.keyEq k p.1 = true
  | [], _, h => by simp [pos] at h
  | (k', v) :: r, j, h => by
    simp only [pos] at h
    cases hk : AV.keyEq k k' with
    | true => simp only [hk, Option.some.injEq] at h; subst h; exact ⟨_, rfl, hk⟩
    | false =>
      simp only [hk] at h
      cases hp : pos k r with
      | none => simp [hp] at h
      | some i =>
        simp only [hp, Option.map_some, Option.some.injEq] at h
        subst h
        obtain ⟨p, h1, h2⟩ := pos_lt hp
        exact ⟨p, by simpa using h1, h2⟩

/-- The type of keys of a kind. -/
def KK.desc : KK → TypeDesc
  | .int k => .int k
  | .str => .string

theorem sameNow_key {kk : KK} {a b : AV} (ha : a.isKey kk = true) (hb : b.isKey kk = true) : Instr.sameNow kk.desc (a.conc φ) (b.conc φ) = some (AV.keyEq a b) := by
  cases kk <;> cases a <;> simp [AV.isKey] at ha <;> cases b <;> simp [AV.isKey] at hb
  · have h1 := kindEq_eq ha
    have h2 := kindEq_eq hb
    subst h1 h2
    simp [KK.desc, Instr.sameNow, AV.keyEq]
  · rename_i x y
    simp only [KK.desc, Instr.sameNow, conc_str, AV.keyEq]
    congr 1
    rw [Bool.eq_iff_iff]
    show (x.toArray == y.toArray) = true ↔ (x == y) = true
    simp

theorem keyEq_eq {kk : KK} {a b : AV} (ha : a.isKey kk = true) (hb : b.isKey kk = true) (h : AV.keyEq a b = true) : a = b := by
  cases kk <;> cases a <;> simp [AV.isKey] at ha <;> cases b <;> simp [AV.isKey] at hb
  · have h1 := kindEq_eq ha
    have h2 := kindEq_eq hb
    subst h1 h2
    simp [AV.keyEq] at h
    rw [h]
  · simp [AV.keyEq] at h
    rw [h]

theorem sameBits_key {kk : KK} {a : AV} (ha : a.isKey kk = true) (n : Nat) : Instr.sameBits (n + 1) (a.conc φ) (a.conc φ) = true := by
  cases kk <;> cases a <;> simp [AV.isKey] at ha
  · simp [Instr.sameBits]
  · rename_i s
    simp only [conc_str, Instr.sameBits]
    show (s.toArray == s.toArray) = true
    simp

theorem findNow_pos {kk : KK} {k : AV} (hk : k.isKey kk = true) : (ents : List MapEntry) → (es : List (AV × AV)) → ents.map (fun e => (e.key, e.val)) = es.map (fun p => (p.1.conc φ, p.2.conc φ)) →
    (∀ p ∈ es, p.1.isKey kk = true) → ∀ i, Instr.findNow kk.desc (k.conc φ) ents i = some (match pos k es with | none => none | some j => (es[j]?).map fun p => (i + j, p.2.conc φ))
  | [], [], _, _, i => rfl
  | [], _ :: _, h, _, _ => by simp at h
  | _ :: _, [], h, _, _ => by simp at h
  | e :: ents, (k', v) :: es, h, hks, i => by
    simp only [List.map_cons, List.cons.injEq, Prod.mk.injEq] at h
    obtain ⟨⟨h1, h2⟩, h3⟩ := h
    simp only [Instr.findNow, h1, sameNow_key (φ := φ) hk (hks (k', v) (by simp)), pos]
    cases hq : AV.keyEq k k' with
    | true => simp [h2]
    | false =>
      simp only [findNow_pos hk ents es h3 (fun p hp => hks p (by simp [hp])) (i + 1)]
      cases pos k es with
      | none => rfl
      | some j => simp [Nat.add_assoc, Nat.add_comm 1 j]

theorem keyKind_desc {K : ATy} {kt : TypeId} (hK : TyOk P kt K) {kk : KK} (h : keyKind K.kind = some kk) : P.underlying kt = some kk.desc := by
  obtain ⟨dd, hd, hk⟩ := hK.under_ex
  cases hkk : K.kind <;> rw [hkk] at h hk <;> simp [keyKind] at h
  · subst h; cases dd <;> simp [kindOf] at hk; subst hk; exact hd
  · subst h; cases dd <;> simp [kindOf] at hk; exact hd

theorem checkKey_run {kk : KK} {kt : TypeId} (hd : P.underlying kt = some kk.desc) {k : AV} (hk : k.isKey kk = true) (e : Bool) (w : World) :
    (Instr.checkKey e 10000 kt (k.conc φ)).run P w = .ok () w := by
  show (Instr.checkKey e (9999 + 1) kt (k.conc φ)).run P w = .ok () w
  rw [Instr.checkKey, Sem.run_bind, run_underlying hd, Result.andThen_ok]
  cases kk <;> cases k <;> simp [AV.isKey] at hk <;> rfl

theorem findKey_run {kk : KK} {kt : TypeId} (hd : P.underlying kt = some kk.desc) {k : AV} (hk : k.isKey kk = true) {ents : List MapEntry} {es : List (AV × AV)}
    (h : ents.map (fun e => (e.key, e.val)) = es.map (fun p => (p.1.conc φ, p.2.conc φ))) (hks : ∀ p ∈ es, p.1.isKey kk = true) (w : World) :
    (Instr.findKey kt (k.conc φ) ents).run P w = .ok (match pos k es with | none => none | some j => (es[j]?).map fun p => (j, p.2.conc φ)) w := by
  simp only [Instr.findKey, Sem.run_bind, run_underlying hd, Result.andThen_ok, findNow_pos hk ents es h hks 0, Nat.zero_add, Sem.run_pure]

theorem isKey_kind {kk kk' : KK} {k : AV} (h : k.isKey kk = true) (h' : k.isKey kk' = true) : kk = kk' := by
  cases kk <;> cases kk' <;> cases k <;> simp [AV.isKey] at h h'
  · rw [kindEq_eq h, kindEq_eq h']
  · rfl

theorem alookup_gives {zero : AV} {ok : Bool} {r : Option AV} (h : (alookup zero ok r σ).gives v σ') :
    σ' = σ ∧ v = (if ok then .tuple [r.getD zero, .bool r.isSome] else r.getD zero) := by
  cases r <;> cases ok <;> obtain ⟨rfl, rfl⟩ := h <;> exact ⟨rfl, rfl⟩

theorem op_lookup {o : Oper} (hG : GOk P Γ) (hs : Sim φ A σ w) (hf : FrOk φ A fr tmps) {t : TypeId} {m k : Operand} {ok : Bool} (ho : o.op = .lookup t m k ok)
    (h : (aop Γ fr σ (.lookup t m k ok)).gives v σ') : OpRes P φ A σ w (execOp (Act.eval ⟨tmps, d⟩) o) v σ' := by
  simp only [aop] at h
  repeat' split at h
  all_goals first | exact False.elim h | skip
  · rename_i T hT _ kt e hk _ E hE _ K hK _ key hkey _ kk hkk _ hik _ hm
    obtain ⟨rfl, rfl⟩ := alookup_gives h
    have hT := hG.ty _ _ hT
    have hE := hG.ty _ _ hE
    have hK := hG.ty _ _ hK
    obtain ⟨k1, k2⟩ := ev_ok (d := d) hf hm
    obtain ⟨k3, k4⟩ := ev_ok (d := d) hf hkey
    obtain ⟨dd, hd, hkd⟩ := hT.run_under w
    rw [hk] at hkd
    cases dd <;> simp [kindOf] at hkd
    obtain ⟨rfl, rfl⟩ := hkd
    have hkdesc := keyKind_desc hK hkk
    refine .same hs ?_ ?_
    · simp only [execOp, ho, k1, k3, conc_nilmap, Instr.lookup, Sem.run_bind, hd, Result.andThen_ok, Sem.run_pure]
      rw [show ((#[] : Array MapEntry).isEmpty) = true from rfl, checkKey_run (φ := φ) hkdesc hik]
      simp only [Result.andThen_ok]
      rw [findKey_run (φ := φ) hkdesc hik (ents := []) (es := []) rfl (by simp)]
      simp only [pos, Result.andThen_ok, Sem.run_bind, hE.run_zero φ, Sem.run_pure]
      cases ok <;> simp
    · cases ok
      · exact hE.ok φ A
      · simp [AV.ok, AV.oks]; exact hE.ok φ A
  · rename_i T hT _ kt e hk _ E hE _ K hK _ key hkey _ kk hkk _ hik _ r hm _ kk' es hr _ hik'
    obtain ⟨rfl, rfl⟩ := alookup_gives h
    have hT := hG.ty _ _ hT
    have hE := hG.ty _ _ hE
    have hK := hG.ty _ _ hK
    have := isKey_kind hik hik'
    subst this
    obtain ⟨k1, k2⟩ := ev_ok (d := d) hf hm
    obtain ⟨k3, k4⟩ := ev_ok (d := d) hf hkey
    obtain ⟨dd, hd, hkd⟩ := hT.run_under w
    rw [hk] at hkd
    cases dd <;> simp [kindOf] at hkd
    obtain ⟨rfl, rfl⟩ := hkd
    have hkdesc := keyKind_desc hK hkk
    obtain ⟨ents, clock, o1, o2, o3, o4, o5, o6⟩ := hs.obj r _ hr
    have hget : (getObj (φ r).blk).run P w = .ok (.map ents clock) w := by simp [getObj, Sem.run, o1]
    have hval : ∀ (j : Nat) (p : AV × AV), es[j]? = some p → p.2.ok φ A := fun j p hp => o4 p (List.mem_of_getElem? hp)
    have hfind := afind_pos key es
    refine .same hs ?_ ?_
    · simp only [execOp, ho, k1, k3, conc_map, Instr.lookup, Sem.run_bind, hd, Result.andThen_ok, hget, Sem.run_pure]
      rw [checkKey_run (φ := φ) hkdesc hik]
      simp only [Result.andThen_ok]
      rw [findKey_run (φ := φ) hkdesc hik o2 o3]
      simp only [Result.andThen_ok]
      cases hp : pos key es with
      | none =>
        simp only [hp] at hfind
        simp only [hfind, Sem.run_bind, hE.run_zero φ, Result.andThen_ok, Sem.run_pure]
        cases ok <;> simp
      | some j =>
        obtain ⟨p, hj, _⟩ := pos_lt hp
        simp only [hp, hj, Option.map_some] at hfind
        simp only [hj, Option.map_some, hfind, Sem.run_pure, Result.andThen_ok]
        cases ok <;> simp
    · have hrok : ((afind key es).getD E.zero).ok φ A := by
        rw [hfind]
        cases hp : pos key es with
        | none => exact hE.ok φ A
        | some j =>
          obtain ⟨p, hj, _⟩ := pos_lt hp
          simp only [hj, Option.map_some, Option.getD_some]
          exact hval j p hj
      cases ok
      · exact hrok
      · simp only [if_true, AV.ok, AV.oks, and_true]
        exact hrok

theorem conc_key_ok {kk : KK} {k : AV} (h : k.isKey kk = true) : k.ok φ A := by
  cases k <;> cases kk <;> simp [AV.isKey] at h <;> simp [AV.ok]

theorem op_mapset {o : Oper} (hG : GOk P Γ) (hs : Sim φ A σ w) (hf : FrOk φ A fr tmps) {t : TypeId} {m k x : Operand} (ho : o.op = .mapUpdate t m k x ∨ o.op = .insert t m k x)
    (h : (aop.amapset Γ fr σ t m k x).gives v σ') : OpRes P φ A σ w (execOp (Act.eval ⟨tmps, d⟩) o) v σ' := by
  have hex : execOp (Act.eval ⟨tmps, d⟩) o = (do Instr.mapUpdate t (Act.eval ⟨tmps, d⟩ m) (Act.eval ⟨tmps, d⟩ k) (Act.eval ⟨tmps, d⟩ x); pure Next.skip) := by
    rcases ho with e | e <;> simp only [execOp, e]
  obtain ⟨nx, hp⟩ := σ
  simp only [aop.amapset] at h
  repeat' split at h
  all_goals first | exact False.elim h | skip
  rename_i T hT _ kt e hk _ K hK _ E hE _ key hkey _ kk hkk _ hik _ y hy _ r hm _ kk' es hr _ hik'
  obtain ⟨h0, rfl, rfl⟩ := ifFits_gives h
  have hT := hG.ty _ _ hT
  have hK := hG.ty _ _ hK
  have := isKey_kind hik hik'
  subst this
  obtain ⟨k1, k2⟩ := ev_ok (d := d) hf hm
  obtain ⟨k3, k4⟩ := ev_ok (d := d) hf hkey
  obtain ⟨k5, k6⟩ := ev_ok (d := d) hf hy
  obtain ⟨dd, hd, hkd⟩ := hT.run_under w
  rw [hk] at hkd
  cases dd <;> simp [kindOf] at hkd
  obtain ⟨rfl, rfl⟩ := hkd
  have hkdesc := keyKind_desc hK hkk
  obtain ⟨ents, clock, o1, o2, o3, o4, o5, o6⟩ := hs.obj r _ hr
  have hget : (getObj (φ r).blk).run P w = .ok (.map ents clock) w := by simp [getObj, Sem.run, o1]
  have hlt : (φ r).blk < w.heap.size := (Array.getElem?_eq_some_iff.1 o1).1
  have hset : ∀ ob, (setObj (φ r).blk ob).run P w = .ok () { w with heap := w.heap.setIfInBounds (φ r).blk ob } := fun ob => by simp [setObj, Sem.run, o1]
  have hput := aput_pos key y es
  -- what the map is afterwards
  have main : ∀ (ents' : Array MapEntry) (clock' : Nat), ents'.toList.map (fun e => (e.key, e.val)) = (aput key y es).map (fun p => (p.1.conc φ, p.2.conc φ)) → (∀ e ∈ ents'.toList, e.born < clock') → (ents'.toList.map (·.born)).Nodup →
      (Instr.mapUpdate t (Act.eval ⟨tmps, d⟩ m) (Act.eval ⟨tmps, d⟩ k) (Act.eval ⟨tmps, d⟩ x)).run P w = .ok () { w with heap := w.heap.setIfInBounds (φ r).blk (.map ents' clock') } →
      OpRes P φ A ⟨nx, hp⟩ w (execOp (Act.eval ⟨tmps, d⟩) o) .undef ⟨nx, (r, some (.map kk (aput key y es))) :: hp⟩ := by
    intro ents' clock' e1 e2 e3 hrun
    have hmem : ∀ p ∈ aput key y es, p = (key, y) ∨ p ∈ es := by
      intro p hpm
      rw [hput] at hpm
      cases hpos : pos key es with
      | none => simp only [hpos] at hpm; rcases List.mem_append.1 hpm with h | h; exact .inr h; simp at h; exact .inl h
      | some j => simp only [hpos] at hpm; exact (List.mem_or_eq_of_mem_set hpm).symm
    obtain ⟨s1, s2⟩ := hs.put r _ (.map kk (aput key y es)) hr trivial (w' := { w with heap := w.heap.setIfInBounds (φ r).blk (.map ents' clock') }) (by simp)
      (fun c hc => by simp only; rw [Array.getElem?_setIfInBounds_ne (Ne.symm hc)]) ⟨rfl, rfl, rfl, Nat.le_refl _⟩
      ⟨ents', clock', by simp [hlt], e1, fun p hpm => by rcases hmem p hpm with rfl | h; exact hik; exact o3 p h, fun p hpm => by rcases hmem p hpm with rfl | h; exact k6; exact o4 p h, e2, e3⟩
    refine ⟨φ, A, _, .skip, ?_, .inr ⟨rfl, rfl⟩, by simp [AV.undef, AV.ok, AV.oks], s1, s2⟩
    rw [hex, Sem.run_bind, hrun]
    rfl
  cases hpos : pos key es with
  | none =>
    simp only [hpos] at hput
    refine main (ents.push { key := key.conc φ, val := y.conc φ, born := clock }) (clock + 1) ?_ ?_ ?_ ?_
    · rw [hput]; simp [o2]
    · intro e he
      rw [Array.toList_push] at he
      rcases List.mem_append.1 he with h | h
      · have := o5 e h; omega
      · simp at h; subst h; simp
    · rw [Array.toList_push, List.map_append]
      refine List.nodup_append.2 ⟨o6, by simp, fun a ha b hb => ?_⟩
      simp at hb
      subst hb
      obtain ⟨e, he, rfl⟩ := List.mem_map.1 ha
      have := o5 e he
      omega
    · simp only [Instr.mapUpdate, Sem.run_bind, hd, Result.andThen_ok, k1, k3, k5, conc_map, hget, checkKey_run (φ := φ) hkdesc hik]
      rw [findKey_run (φ := φ) hkdesc hik o2 o3]
      simp only [hpos, Result.andThen_ok, hset]
  | some j =>
    simp only [hpos] at hput
    obtain ⟨p, hj, hje⟩ := pos_lt hpos
    have hpk := o3 p (List.mem_of_getElem? hj)
    have hentj : ∃ e, ents[j]? = some e ∧ e.key = p.1.conc φ := by
      have : (ents.toList.map (fun e => (e.key, e.val)))[j]? = (es.map (fun p => (p.1.conc φ, p.2.conc φ)))[j]? := by rw [o2]
      rw [List.getElem?_map, List.getElem?_map, hj] at this
      cases he : ents.toList[j]? with
      | none => simp [he] at this
      | some e => simp only [he, Option.map_some, Option.some.injEq, Prod.mk.injEq] at this; exact ⟨e, by simpa using he, this.1⟩
    obtain ⟨e0, he0, hek⟩ := hentj
    have hsame : Instr.sameBits 10000 (p.1.conc φ) (key.conc φ) = true := by
      rw [← keyEq_eq hik hpk hje]
      exact sameBits_key hik 9999
    refine main (ents.modify j fun e => { e with key := key.conc φ, val := y.conc φ }) clock ?_ ?_ ?_ ?_
    · rw [hput, Array.toList_modify]
      apply List.ext_getElem?
      intro i
      have := congrArg (fun l => l[i]?) o2
      simp only [List.getElem?_map] at this
      rw [List.getElem?_map, List.getElem?_modify, List.getElem?_map, List.getElem?_set]
      have hlen : ents.toList.length = es.length := by have := congrArg List.length o2; simpa using this
      by_cases hij : j = i
      · subst hij
        have hjl : j < es.length := (List.getElem?_eq_some_iff.1 hj).1
        simp [he0, hjl]
      · simp only [hij, if_false]
        cases hi : ents.toList[i]? <;> simp [hi] at this ⊢ <;> simp [this]
    · intro e he
      rw [Array.toList_modify] at he
      obtain ⟨i, hi⟩ := List.mem_iff_getElem?.1 he
      rw [List.getElem?_modify] at hi
      cases hx : ents.toList[i]? with
      | none => simp [hx] at hi
      | some e1 =>
        have hb := o5 e1 (List.mem_of_getElem? hx)
        simp only [hx, Option.map_some] at hi
        split at hi <;> simp at hi <;> subst hi <;> exact hb
    · rw [Array.toList_modify]
      have : (ents.toList.modify j fun e => { e with key := key.conc φ, val := y.conc φ }).map (·.born) = ents.toList.map (·.born) := by
        apply List.ext_getElem?
        intro i
        rw [List.getElem?_map, List.getElem?_modify, List.getElem?_map]
        cases ents.toList[i]? with
        | none => rfl
        | some e => simp only [Option.map_some]; split <;> rfl
      rw [this]; exact o6
    · simp only [Instr.mapUpdate, Sem.run_bind, hd, Result.andThen_ok, k1, k3, k5, conc_map, hget, checkKey_run (φ := φ) hkdesc hik]
      rw [findKey_run (φ := φ) hkdesc hik o2 o3]
      simp only [hpos, hj, Option.map_some, Result.andThen_ok, Sem.run_bind, he0, Option.getD_some, hek, Instr.keyThatStays, hsame, if_true, Sem.run_pure, hset]

end Go.Ab
