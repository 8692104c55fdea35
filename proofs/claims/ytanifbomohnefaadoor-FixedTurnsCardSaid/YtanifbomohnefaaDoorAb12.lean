/- The abstract machine: the model's operations do what the abstract ones say (ninth part: append, copy and other built-in functions). Conditions: none. -/
import Derived.Test.YtanifbomohnefaaDoorAb11
import Derived.Laws.Append
namespace Go.Ab
open Go

variable {P : Program} {Γ : Env} {φ : Phi} {A : Nat → Prop} {σ σ' : AState} {w : World} {fr : AFr} {tmps : Array Value} {d : List Deferred} {v : AV}

theorem range_three {α : Type} (F : Nat → List α) (a n N : Nat) (h : a + n ≤ N) :
    (List.range N).flatMap F = (List.range a).flatMap F ++ (List.range n).flatMap (fun j => F (a + j)) ++ (List.range (N - a - n)).flatMap (fun j => F (a + n + j)) := by
  have hN : N = a + (n + (N - a - n)) := by omega
  rw [hN, List.range_add, List.flatMap_append, List.range_add]
  simp only [List.map_append, List.map_map, List.flatMap_append, List.flatMap_map, List.append_assoc, Function.comp_def]
  rw [← hN]
  congr 2
  simp [Nat.add_assoc]

theorem flatMap_range_congr {α : Type} (F G : Nat → List α) (n : Nat) (h : ∀ j, j < n → F j = G j) : (List.range n).flatMap F = (List.range n).flatMap G := by
  rw [List.flatMap_def, List.flatMap_def, List.map_congr_left (fun j hj => h j (List.mem_range.1 hj))]

theorem splice_eq (f g : Nat → AV) (a n j : Nat) : splice f a n g j = if a ≤ j ∧ j < a + n then g (j - a) else f j := by
  unfold splice
  split
  · by_cases h : j = a
    · subst h; simp
    · have : ¬ (a ≤ j ∧ j < a + 1) := by omega
      simp [h, this]
  · rfl

theorem splice_flat (φ : Phi) (f g : Nat → AV) (a n N : Nat) (h : a + n ≤ N) :
    (List.range N).flatMap (fun j => (splice f a n g j).flat φ) = (List.range a).flatMap (fun j => (f j).flat φ) ++ (List.range n).flatMap (fun j => (g j).flat φ) ++ (List.range (N - a - n)).flatMap (fun j => (f (a + n + j)).flat φ) := by
  rw [range_three _ a n N h]
  congr 1
  congr 1
  · exact flatMap_range_congr _ _ _ fun j hj => by rw [splice_eq, if_neg (by omega)]
  · exact flatMap_range_congr _ _ _ fun j hj => by rw [splice_eq, if_pos (by omega)]; congr 2; omega
  · exact flatMap_range_congr _ _ _ fun j hj => by rw [splice_eq, if_neg (by omega)]

theorem joined_flat (φ : Phi) (f g : Nat → AV) (len n : Nat) :
    (List.range (len + n)).flatMap (fun j => (joined len f g j).flat φ) = (List.range len).flatMap (fun j => (f j).flat φ) ++ (List.range n).flatMap (fun j => (g j).flat φ) := by
  rw [List.range_add, List.flatMap_append, List.flatMap_map]
  congr 1
  · exact flatMap_range_congr _ _ _ fun j hj => by simp [joined, hj]
  · exact flatMap_range_congr _ _ _ fun j hj => by simp only [joined]; rw [if_neg (by omega), Nat.add_sub_cancel_left]

/-- An array and where its cells lie. -/
theorem arr_at {b : Nat} {p : List Nat} {es : Sh} {a : ArrAt} (hs : Sim φ A σ w) (h : σ.arr? b p es = some a) :
    σ.get b = some (.mem a.sh a.v a.x) ∧ (φ b).sh = a.sh ∧ (∃ n, a.sh.at p = some (.arr n es)) ∧ a.v.at p = some (.arr a.n a.f) := by
  unfold AState.arr? at h
  repeat' split at h
  all_goals first | (cases h; done) | skip
  rename_i sh v x hb _ n es' hsp _ hbq _ m f hv
  injection h with h
  subst h
  have hse := beq_sound _ _ hbq
  subst hse
  exact ⟨hb, (hs.obj b _ hb).1, ⟨n, hsp⟩, hv⟩

theorem arr_cells {b : Nat} {p : List Nat} {es : Sh} {a : ArrAt} (hs : Sim φ A σ w) (h : σ.arr? b p es = some a) (hp : (φ b).sh.valid p) :
    a.sh.at p = some (.arr a.n es) ∧ (∀ i, i < a.n → HasSh es (a.f i)) ∧ (∀ i, i < a.n → (a.f i).ok φ A) ∧ ∃ cs e lo hi, w.heap[(φ b).blk]? = some (.cells cs e (lo, hi)) ∧
      ∀ j, j < a.n * es.size → cs[(φ b).off + (φ b).sh.off p + j]? = ((List.range a.n).flatMap fun i => (a.f i).flat φ)[j]? := by
  obtain ⟨h1, h2, ⟨n, h3⟩, h4⟩ := arr_at hs h
  obtain ⟨_, o2, o3, cs, e, lo, hi, o4, o5, _⟩ := hs.obj b _ h1
  obtain ⟨r, sp, X, Y, g1, g2, g3, g4, g5, _, _, g8⟩ := split_at (φ := φ) p a.sh a.v o2 (h2 ▸ hp)
  rw [h4] at g1; injection g1 with g1; subst g1
  rw [h3] at g2; injection g2 with g2; subst g2
  simp only [HasSh] at g3
  obtain ⟨rfl, g3⟩ := g3
  have hok := (g8 φ A o3).1
  simp only [AV.ok] at hok
  refine ⟨h3, g3, hok, cs, e, lo, hi, o4, fun j hj => ?_⟩
  have hlen := flat_length (φ := φ) a.sh a.v o2
  have hal : ((List.range a.n).flatMap fun i => (a.f i).flat φ).length = a.n * es.size := range_flatMap_length _ _ _ fun i hi => flat_length es _ (g3 i hi)
  have hsum : X.length + a.n * es.size + Y.length = a.sh.size := by
    rw [← hlen, g5]; simp only [AV.flat, List.length_append, hal]
  rw [h2, Nat.add_assoc, o5 _ (by omega), g5, ← g4]
  simp only [AV.flat]
  rw [List.append_assoc, List.getElem?_append_right (by omega), show X.length + j - X.length = j by omega, List.getElem?_append_left (by omega)]

theorem src_ok {E : ATy} {e : TypeId} (hE : TyOk P e E) {x : AV} {n : Nat} {g : Nat → AV} (hs : Sim φ A σ w) (hx : x.ok φ A) (h : srcOf σ E.sh x = some (n, g)) :
    (∀ w, (Builtin.lenOf (x.conc φ)).run P w = .ok n w) ∧ (∀ j, j < n → HasSh E.sh (g j)) ∧ (∀ j, j < n → (g j).ok φ A) ∧
      ∀ m, m ≤ n → (Builtin.firstCells E.size m (x.conc φ)).run P w = .ok ((List.range m).flatMap fun j => (g j).flat φ).toArray w := by
  cases x <;> simp only [srcOf] at h <;> first | (cases h; done) | skip
  case nilslice =>
    simp only [Option.some.injEq, Prod.mk.injEq] at h
    obtain ⟨rfl, rfl⟩ := h
    refine ⟨fun w => rfl, fun j hj => absurd hj (by omega), fun j hj => absurd hj (by omega), fun m hm => ?_⟩
    have : m = 0 := by omega
    subst this
    rfl
  case slice b p st len cap =>
    split at h
    · rename_i a ha
      simp only [Option.some.injEq, Prod.mk.injEq] at h
      obtain ⟨rfl, rfl⟩ := h
      simp only [AV.ok] at hx
      obtain ⟨x1, x2, x3, n', es', x4, x5⟩ := hx
      obtain ⟨c1, c2, c3, cs, ec, lo, hi, c4, c5⟩ := arr_cells hs ha x2
      have hsh := (arr_at hs ha).2.1
      rw [hsh, c1] at x4
      simp only [Option.some.injEq, Sh.arr.injEq] at x4
      obtain ⟨rfl, rfl⟩ := x4
      refine ⟨fun w => rfl, fun j hj => c2 _ (by omega), fun j hj => c3 _ (by omega), fun m hm => ?_⟩
      have hlm : ((List.range m).flatMap fun j => (a.f (st + j)).flat φ).length = m * E.sh.size := range_flatMap_length _ _ _ fun i hi => flat_length E.sh _ (c2 _ (by omega))
      have hls : ((List.range st).flatMap fun j => (a.f j).flat φ).length = st * E.sh.size := range_flatMap_length _ _ _ fun i hi => flat_length E.sh _ (c2 _ (by omega))
      simp only [conc_slice, Builtin.firstCells]
      have hes : elemSize (φ b).sh p = E.sh.size := by simp only [elemSize, hsh, c1]
      rw [hes, ← hE.size_eq, ← hlm]
      refine loadCells_run P w _ _ cs ec (lo, hi) _ c4 fun j hj => ?_
      have hbound : st * E.sh.size + m * E.sh.size ≤ a.n * E.sh.size := by rw [← Nat.add_mul]; exact Nat.mul_le_mul_right _ (by omega)
      rw [Nat.add_assoc, c5 _ (by omega), range_three _ st m a.n (by omega), ← hls]
      rw [List.append_assoc, List.getElem?_append_right (by omega), List.getElem?_append_left (by omega)]
      congr 1
      omega
    · cases h

/-- Cells in the middle of a block, stored. -/
theorem storeList_run {nx : Nat} {h : List (Nat × Option AObj)} (hsim : Sim φ A ⟨nx, h⟩ w) {b : Nat} {sh : Sh} {v v' : AV} {x : Ext}
    (hb : hget h b = some (.mem sh v x)) (hx : x ≠ .ro) {X old L Y : List Value} (h1 : v.flat φ = X ++ old ++ Y) (h2 : v'.flat φ = X ++ L ++ Y) (hl : old.length = L.length)
    (hv' : HasSh sh v') (hok : v'.ok φ A) :
    ∃ w', (storeCells ⟨(φ b).blk, (φ b).off + X.length, none⟩ L).run P w = .ok () w' ∧
      Sim φ A ⟨nx, (b, some (.mem sh v' x)) :: h⟩ w' ∧ Evo φ A ⟨nx, h⟩ w φ A ⟨nx, (b, some (.mem sh v' x)) :: h⟩ w' := by
  obtain ⟨o1, o2, o3, cs, e, lo, hi, o4, o5, o6, o7, o8⟩ := hsim.obj b _ hb
  have hlen := flat_length (φ := φ) sh v o2
  have hsum : X.length + L.length + Y.length = sh.size := by rw [← hlen, h1]; simp [hl]; omega
  have hcs : L ≠ [] → (φ b).off + X.length + 0 + L.length ≤ cs.size := by
    intro hne
    have hpos := List.length_pos_iff.2 hne
    have := o5 (sh.size - 1) (by omega)
    have h9 : (v.flat φ)[sh.size - 1]? ≠ none := by simp; omega
    rw [← this] at h9
    have : (φ b).off + (sh.size - 1) < cs.size := by
      rcases Nat.lt_or_ge ((φ b).off + (sh.size - 1)) cs.size with h | h
      · exact h
      · exact absurd (Array.getElem?_eq_none h) h9
    omega
  have hone : ∀ z ∈ L, z.oneCell' = true := fun z hz => flat_one sh v' hv' z (by rw [h2]; simp [hz])
  obtain ⟨w', cs', k1, k2, k3, k4, k5, k6, k7⟩ := storeCells_run P (φ b).blk ((φ b).off + X.length) L 0 w cs e lo hi o4 (o6 hx) hcs hone
  have hobj : ObjOk φ A w' (φ b) (.mem sh v' x) := by
    refine ⟨o1, hv', hok, cs', e, lo, hi, k2, fun j hj => ?_, o6, o7, fun hxo => ?_⟩
    · rw [k4, h2]
      by_cases hin : (φ b).off + X.length + 0 ≤ (φ b).off + j ∧ (φ b).off + j < (φ b).off + X.length + 0 + L.length
      · rw [if_pos hin, List.append_assoc, List.getElem?_append_right (by omega), List.getElem?_append_left (by omega)]
        congr 1; omega
      · rw [if_neg hin, o5 j hj, h1]
        by_cases hlt : j < X.length
        · rw [List.append_assoc, List.getElem?_append_left hlt, List.append_assoc, List.getElem?_append_left hlt]
        · rw [List.append_assoc, List.getElem?_append_right (by omega), List.getElem?_append_right (by omega), List.append_assoc, List.getElem?_append_right (by omega), List.getElem?_append_right (by omega)]
          congr 1; omega
    · obtain ⟨n, es, q1, q2⟩ := o8 hxo
      exact ⟨n, es, q1, by rw [k3]; exact q2⟩
  have hwr : (AObj.mem sh v x).written := by cases x <;> simp [AObj.written] at *
  obtain ⟨s1, s2⟩ := hsim.put b _ (.mem sh v' x) hb hwr k6 k5 k7 hobj
  exact ⟨w', k1, s1, s2⟩

/-- Elements of an array, stored. -/
theorem storeElems_run {nx : Nat} {h : List (Nat × Option AObj)} (hsim : Sim φ A ⟨nx, h⟩ w) {b : Nat} {p : List Nat} {es : Sh} {a : ArrAt} (ha : AState.arr? ⟨nx, h⟩ b p es = some a)
    (hx : a.x ≠ .ro) (hp : (φ b).sh.valid p) {i n : Nat} {g : Nat → AV} (hin : i + n ≤ a.n) (hg : ∀ j, j < n → HasSh es (g j)) (hgo : ∀ j, j < n → (g j).ok φ A) :
    ∃ w', (storeCells ⟨(φ b).blk, (φ b).off + (φ b).sh.off p + i * es.size, none⟩ ((List.range n).flatMap fun j => (g j).flat φ)).run P w = .ok () w' ∧
      Sim φ A ⟨nx, (b, some (.mem a.sh (a.v.set p (.arr a.n (splice a.f i n g))) a.x)) :: h⟩ w' ∧ Evo φ A ⟨nx, h⟩ w φ A ⟨nx, (b, some (.mem a.sh (a.v.set p (.arr a.n (splice a.f i n g))) a.x)) :: h⟩ w' := by
  obtain ⟨h1, h2, _, h4⟩ := arr_at hsim ha
  obtain ⟨c1, c2, c3, _⟩ := arr_cells hsim ha hp
  obtain ⟨_, o2, o3, _⟩ := hsim.obj b _ h1
  obtain ⟨r, sp, X, Y, g1, g2, g3, g4, g5, g6, g7, g8⟩ := split_at (φ := φ) p a.sh a.v o2 (h2 ▸ hp)
  rw [h4] at g1; injection g1 with g1; subst g1
  rw [c1] at g2; injection g2 with g2; subst g2
  have hX' : ((List.range i).flatMap fun j => (a.f j).flat φ).length = i * es.size := range_flatMap_length _ _ _ fun j hj => flat_length es _ (c2 _ (by omega))
  have hold : ((List.range n).flatMap fun j => (a.f (i + j)).flat φ).length = n * es.size := range_flatMap_length _ _ _ fun j hj => flat_length es _ (c2 _ (by omega))
  have hnew : ((List.range n).flatMap fun j => (g j).flat φ).length = n * es.size := range_flatMap_length _ _ _ fun j hj => flat_length es _ (hg j hj)
  have hsp : HasSh (.arr a.n es) (.arr a.n (splice a.f i n g)) := by
    simp only [HasSh]
    refine ⟨trivial, fun j hj => ?_⟩
    rw [splice_eq]; split
    · exact hg _ (by omega)
    · exact c2 j hj
  have hspo : (AV.arr a.n (splice a.f i n g)).ok φ A := by
    simp only [AV.ok]
    intro j hj
    rw [splice_eq]; split
    · exact hgo _ (by omega)
    · exact c3 j hj
  obtain ⟨w', k1, k2, k3⟩ := storeList_run (P := P) hsim h1 hx (X := X ++ (List.range i).flatMap fun j => (a.f j).flat φ) (old := (List.range n).flatMap fun j => (a.f (i + j)).flat φ) (L := (List.range n).flatMap fun j => (g j).flat φ)
    (Y := (List.range (a.n - i - n)).flatMap (fun j => (a.f (i + n + j)).flat φ) ++ Y) (v' := a.v.set p (.arr a.n (splice a.f i n g)))
    (by rw [g5]; simp only [AV.flat]; rw [range_three _ i n a.n hin]; simp only [List.append_assoc])
    (by rw [g6]; simp only [AV.flat]; rw [splice_flat φ a.f g i n a.n hin]; simp only [List.append_assoc]) (by rw [hold, hnew]) (g7 _ hsp) ((g8 φ A o3).2 _ hspo)
  refine ⟨w', ?_, k2, k3⟩
  rw [← k1, h2, ← g4, List.length_append, hX', Nat.add_assoc]


theorem Sim.drew (hs : Sim φ A σ w) : Sim φ A σ w.drew :=
  ⟨hs.inA, hs.lt, fun b o h => (hs.obj b o h).congr (.refl _ _) (fun _ h => h) rfl, hs.inj, hs.glob⟩

theorem evo_drew (φ : Phi) (A : Nat → Prop) (σ : AState) (w : World) : Evo φ A σ w φ A σ w.drew :=
  ⟨.refl _ _, fun _ h => h, fun _ h => .inl h, Nat.le_refl _, Nat.le_refl _, fun _ _ _ => rfl, fun b o h => .inl ⟨b, o, h, id, rfl⟩, ⟨rfl, rfl, rfl, Nat.le_succ _⟩⟩

theorem append_grow (t t' ty e e' : TypeId) (i : TypeInfo) (z : Value) (ht : P.underlying t = some (.slice e)) (ht' : P.underlying t' = some (.slice e')) (hi : P.info? e = some i) (hz : i.zero = some z)
    (base : Option Addr) (sLen sCap : Nat) (x : Value) (n : Nat) (hlen : ∀ w, (Builtin.lenOf x).run P w = .ok n w) (olds news : Array Value)
    (hold : (Builtin.firstCells i.size sLen (.slice base sLen sCap)).run P w.drew = .ok olds w.drew) (hnew : (Builtin.firstCells i.size n x).run P w.drew = .ok news w.drew)
    (hg : sCap < sLen + n) (h63 : ((sLen + n : Nat) : Int) ≤ 9223372036854775807) (hfit : Builtin.nextslicecap (sLen + n) sCap * i.bytes ≤ 281474976710656) :
    (Builtin.append_ #[t, t'] ty #[.slice base sLen sCap, x]).run P w =
      .ok (.slice (some ⟨w.heap.size, 0, none⟩) (sLen + n) (grownCap w (sLen + n) sCap e))
        (w.drew.alloc (.cells (olds ++ news ++ Builtin.zeroCells z.cells (grownCap w (sLen + n) sCap e - (sLen + n))) e)) := by
  have hn : ¬ (sLen + n ≤ sCap) := by omega
  have h63' : ¬ (9223372036854775807 < ((sLen : Int) + (n : Int))) := by omega
  have h48' : ¬ (281474976710656 < Builtin.nextslicecap (sLen + n) sCap * i.bytes) := by omega
  simp [Builtin.append_, run_underlying ht, run_underlying ht', sizeOf, typeInfo, zeroValue, hi, hz, hlen, hn, h63', h48', Question.forced, hnew, hold, newRow, grownCap]

theorem append_room (t t' ty e e' : TypeId) (i : TypeInfo) (ht : P.underlying t = some (.slice e)) (ht' : P.underlying t' = some (.slice e')) (hi : P.info? e = some i)
    (b : Addr) (sLen sCap : Nat) (x : Value) (n : Nat) (hlen : ∀ w, (Builtin.lenOf x).run P w = .ok n w) (news : Array Value) (w' : World)
    (hnew : (Builtin.firstCells i.size n x).run P w = .ok news w) (hst : (storeCells (b.add (sLen * i.size)) news.toList).run P w = .ok () w') (hg : sLen + n ≤ sCap) :
    (Builtin.append_ #[t, t'] ty #[.slice (some b) sLen sCap, x]).run P w = .ok (.slice (some b) (sLen + n) sCap) w' := by
  simp [Builtin.append_, run_underlying ht, run_underlying ht', sizeOf, typeInfo, hi, hlen, hg, hnew, hst]

theorem grownCap_le (w : World) (need old : Nat) (e : TypeId) : need ≤ grownCap w need old e := by
  simp only [grownCap, Question.cut]; omega

theorem zeroCells_len (z : Array Value) (n : Nat) : (Builtin.zeroCells z n).size = n * z.size := by simp [Builtin.zeroCells]

/-- append: a new array in a new block. -/
theorem grow_new {nx : Nat} {h : List (Nat × Option AObj)} (hs : Sim φ A ⟨nx, h⟩ w) {E : ATy} {e : TypeId} (hE : TyOk P e E) {need : Nat} {f : Nat → AV} (hf : ∀ j, j < need → HasSh E.sh (f j)) (hfo : ∀ j, j < need → (f j).ok φ A)
    {cells : Array Value} (hc : cells.toList = (List.range need).flatMap fun j => (f j).flat φ) {newCap : Nat} (hcap : need ≤ newCap) (z : Value) (hz : z = E.zero.conc φ) :
    ∃ φ' A', Sim φ' A' ⟨nx + 1, (nx, some (.mem (.arr need E.sh) (.arr need f) .open)) :: h⟩ (w.alloc (.cells (cells ++ Builtin.zeroCells z.cells (newCap - need)) e)) ∧
      Evo φ A ⟨nx, h⟩ w φ' A' ⟨nx + 1, (nx, some (.mem (.arr need E.sh) (.arr need f) .open)) :: h⟩ (w.alloc (.cells (cells ++ Builtin.zeroCells z.cells (newCap - need)) e)) ∧
      (AV.slice nx [] 0 need need).conc φ' = .slice (some ⟨w.heap.size, 0, none⟩) need newCap ∧ (AV.slice nx [] 0 need need).ok φ' A' := by
  have hzl := flat_length (φ := φ) E.sh E.zero hE.zero
  have hzc := conc_cells (φ := φ) E.zero hE.zero.form
  have hzs : z.cells.size = E.sh.size := by rw [hz, ← Array.length_toList, hzc, hzl]
  have hcl : cells.size = need * E.sh.size := by rw [← Array.length_toList, hc]; exact range_flatMap_length _ _ _ fun j hj => flat_length E.sh _ (hf j hj)
  obtain ⟨s1, s2, s3⟩ := alloc_mem hs (sh := .arr need E.sh) (y := .arr need f) (by simp only [HasSh]; exact ⟨trivial, hf⟩) (by simp only [AV.ok]; exact hfo)
    (cells ++ Builtin.zeroCells z.cells (newCap - need)) (Builtin.zeroCells z.cells (newCap - need)).toList (by simp only [AV.flat, Array.toList_append, hc]) e .open (newCap - need) (by simp)
    (fun _ => ⟨need, E.sh, rfl, by rw [Array.size_append, zeroCells_len, hcl, hzs, ← Nat.add_mul]; exact Nat.le_refl _⟩)
  refine ⟨_, _, s1, s2, ?_, slice_new_ok (Nat.le_refl _)⟩
  rw [slice_new]
  congr 1; omega

/-- append: the array goes on in its own block. -/
theorem grow_old {nx : Nat} {h : List (Nat × Option AObj)} (hs : Sim φ A ⟨nx, h⟩ w) {b N st len : Nat} {es : Sh} {v : AV} (hb : hget h b = some (.mem (.arr N es) v .open))
    {need sCap : Nat} {f : Nat → AV} (hf : ∀ j, j < need → HasSh es (f j)) (hfo : ∀ j, j < need → (f j).ok φ A) {L : List Value}
    (hlen : len ≤ need) (hst : st + len ≤ N) (hsc : need ≤ sCap) (hscap : st + sCap ≤ N + (φ b).spare)
    (hold : ∀ f0, v = .arr N f0 → (List.range len).flatMap (fun j => (f0 (st + j)).flat φ) ++ L = (List.range need).flatMap fun j => (f j).flat φ) (hone : ∀ x ∈ L, x.oneCell' = true) :
    ∃ w' φ' A', (storeCells ⟨(φ b).blk, (φ b).off + st * es.size + len * es.size, none⟩ L).run P w = .ok () w' ∧
      Sim φ' A' ⟨nx + 1, (nx, some (.mem (.arr need es) (.arr need f) .open)) :: (b, none) :: h⟩ w' ∧
      Evo φ A ⟨nx, h⟩ w φ' A' ⟨nx + 1, (nx, some (.mem (.arr need es) (.arr need f) .open)) :: (b, none) :: h⟩ w' ∧
      (AV.slice nx [] 0 need need).conc φ' = .slice (some ⟨(φ b).blk, (φ b).off + st * es.size, none⟩) need sCap ∧ (AV.slice nx [] 0 need need).ok φ' A' := by
  obtain ⟨o1, o2, o3, cs, e, lo, hi, o4, o5, o6, o7, o8⟩ := hs.obj b _ hb
  cases v <;> simp only [HasSh] at o2
  rename_i m f0
  obtain ⟨rfl, o2⟩ := o2
  obtain ⟨n', es', q1, q2⟩ := o8 rfl
  simp only [Sh.arr.injEq] at q1
  obtain ⟨rfl, rfl⟩ := q1
  have hflat := hold f0 rfl
  have hnl : ((List.range need).flatMap fun j => (f j).flat φ).length = need * es.size := range_flatMap_length _ _ _ fun j hj => flat_length es _ (hf j hj)
  have hol : ((List.range len).flatMap fun j => (f0 (st + j)).flat φ).length = len * es.size := range_flatMap_length _ _ _ fun j hj => flat_length es _ (o2 _ (by omega))
  have hLl : len * es.size + L.length = need * es.size := by rw [← hnl, ← hflat, List.length_append, hol]
  have hbound : (st + sCap) * es.size ≤ (N + (φ b).spare) * es.size := Nat.mul_le_mul_right _ hscap
  have hneed : need * es.size ≤ sCap * es.size := Nat.mul_le_mul_right _ hsc
  rw [Nat.add_mul] at hbound
  have hblk : (φ b).blk < w.heap.size := (Array.getElem?_eq_some_iff.1 o4).1
  obtain ⟨w', cs', k1, k2, k3, k4, k5, k6, k7⟩ := storeCells_run P (φ b).blk ((φ b).off + st * es.size + len * es.size) L 0 w cs e lo hi o4 (o6 (by simp)) (fun _ => by omega) hone
  let l : CLoc := ⟨(φ b).blk, (φ b).off + st * es.size, sCap - need, .arr need es⟩
  have hag : Agree A φ (upd φ nx l) := fun c hA => by
    have := hs.lt c hA
    simp only at this
    simp [upd, Nat.ne_of_lt this]
  have hnl' : ((List.range st).flatMap fun j => (f0 j).flat φ).length = st * es.size := range_flatMap_length _ _ _ fun j hj => flat_length es _ (o2 _ (by omega))
  have hobj : ObjOk (upd φ nx l) (fun c => A c ∨ c = nx) w' l (.mem (.arr need es) (.arr need f) .open) := by
    have hok : (AV.arr need f).ok φ A := by simp only [AV.ok]; exact hfo
    refine ⟨rfl, by simp only [HasSh]; exact ⟨trivial, hf⟩, ok_congr hag (fun _ h => .inl h) _ hok, cs', e, lo, hi, k2, fun j hj => ?_, fun _ => o6 (by simp), by simp, fun _ => ⟨need, es, rfl, ?_⟩⟩
    · rw [flat_congr hag _ hok]
      simp only [AV.flat, ← hflat, l]
      simp only [Sh.size] at hj
      rw [k4]
      by_cases hlt : j < len * es.size
      · rw [if_neg (by omega), List.getElem?_append_left (by omega), Nat.add_assoc]
        have hb2 : st * es.size + len * es.size ≤ N * es.size := by rw [← Nat.add_mul]; exact Nat.mul_le_mul_right _ hst
        rw [o5 _ (by simp only [Sh.size]; omega)]
        simp only [AV.flat]
        rw [range_three _ st len N hst, List.append_assoc, List.getElem?_append_right (by omega), List.getElem?_append_left (by omega)]
        congr 1; omega
      · rw [if_pos (by omega), List.getElem?_append_right (by omega)]
        congr 1; omega
    · rw [k3]
      simp only [l]
      rw [show need + (sCap - need) = sCap by omega]
      omega
  have hg : ∀ c o, hget ((nx, some (.mem (.arr need es) (.arr need f) .open)) :: (b, none) :: h) c = some o → (c = nx ∧ o = .mem (.arr need es) (.arr need f) .open) ∨ (c ≠ nx ∧ c ≠ b ∧ hget h c = some o) := by
    intro c o hc
    by_cases hcn : c = nx
    · subst hcn; rw [hget_cons_same] at hc; injection hc with hc; exact .inl ⟨rfl, hc.symm⟩
    · rw [hget_cons_ne (Ne.symm hcn)] at hc
      by_cases hcb : c = b
      · subst hcb; rw [hget_cons_same] at hc; cases hc
      · rw [hget_cons_ne (Ne.symm hcb)] at hc; exact .inr ⟨hcn, hcb, hc⟩
  refine ⟨w', upd φ nx l, fun c => A c ∨ c = nx, by rw [← k1], ⟨fun c o hc => ?_, fun c hA => ?_, fun c o hc => ?_, fun c c' oc oc' hne h1 h2 => ?_, hs.glob.evo hag (fun _ h => .inl h)⟩, ⟨hag, fun c hA => .inl hA, fun c hA => hA.imp id (fun e => by subst e; exact Nat.le_refl _), by simp, by omega, fun c hc hn => k5 c (fun e => hn b _ hb trivial e.symm), fun c o hc => ?_, k7⟩, ?_, ?_⟩
  · rcases hg c o hc with ⟨rfl, _⟩ | ⟨_, _, h1⟩
    · exact .inr rfl
    · exact .inl (hs.inA c o h1)
  · rcases hA with hA | rfl
    · have := hs.lt c hA; simp only at this ⊢; omega
    · simp
  · rcases hg c o hc with ⟨rfl, rfl⟩ | ⟨hcn, hcb, h1⟩
    · simp only [upd, if_true]; exact hobj
    · rw [show upd φ nx l c = φ c by simp [upd, hcn]]
      exact ObjOk.congr hag (fun _ h => .inl h) (k5 _ (hs.inj c b o _ hcb h1 hb)) (hs.obj c o h1)
  · rcases hg c oc h1 with ⟨rfl, _⟩ | ⟨hb1, hb1', g1⟩ <;> rcases hg c' oc' h2 with ⟨rfl, _⟩ | ⟨hb2, hb2', g2⟩
    · exact absurd rfl hne
    · simp only [upd, if_true, hb2, if_false, l]; exact (hs.inj c' b oc' _ hb2' g2 hb).symm
    · simp only [upd, if_true, hb1, if_false, l]; exact hs.inj c b oc _ hb1' g1 hb
    · simp only [upd, hb1, hb2, if_false]; exact hs.inj c c' oc oc' hne g1 g2
  · rcases hg c o hc with ⟨rfl, rfl⟩ | ⟨hcn, hcb, h1⟩
    · left; exact ⟨b, _, hb, fun _ => trivial, by simp [upd, l]⟩
    · left; exact ⟨c, o, h1, id, by simp [upd, hcn]⟩
  · show (AV.slice nx [] 0 need need).conc (upd φ nx l) = _
    simp only [conc_slice, upd, if_true, l, Sh.off, Nat.zero_mul, Nat.add_zero, spareOf, Nat.zero_add]
    congr 1; omega
  · simp only [AV.ok, upd, if_true, l]
    exact ⟨by simp, trivial, Nat.le_refl _, need, es, rfl, by omega⟩

end Go.Ab
