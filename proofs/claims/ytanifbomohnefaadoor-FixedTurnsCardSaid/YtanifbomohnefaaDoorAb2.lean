/- The abstract machine: what an abstract value stands for in the model, and how parts of variables lie in memory. Conditions: none. -/
import Derived.Test.YtanifbomohnefaaDoorAb1
namespace Go.Ab
open Go

/-- Where an abstract block lies in the model's memory: block, first cell, spare places behind it (elements), its shape. -/
structure CLoc where
  blk : Nat
  off : Nat
  spare : Nat
  sh : Sh

abbrev Phi := Nat → CLoc

def Sh.valid : Sh → List Nat → Prop
  | _, [] => True
  | .node ss, i :: p => match nth ss i with | some s => Sh.valid s p | none => False
  | .arr n s, i :: p => i < n ∧ Sh.valid s p
  | .leaf, _ :: _ => False

def elemSize (s : Sh) (p : List Nat) : Nat := match s.at p with | some (.arr _ e) => e.size | _ => 0

def spareOf (l : CLoc) (p : List Nat) (s cap : Nat) : Nat := match l.sh, p with
  | .arr n _, [] => if s + cap = n then l.spare else 0
  | _, _ => 0

def pack (v : AV) (l : List Value) : Value := match v with
  | .strct _ => .agg l.toArray
  | .arr _ _ => .agg l.toArray
  | _ => l.headD Go.undef

mutual
def AV.flat (φ : Phi) : AV → List Value
  | .int k n => [.int k n]
  | .bool b => [.bool b]
  | .str s => [.string ⟨s.toArray⟩]
  | .ptr b p => [.pointer (some ⟨(φ b).blk, (φ b).off + (φ b).sh.off p, none⟩)]
  | .nilptr => [.pointer none]
  | .slice b p s len cap => [.slice (some ⟨(φ b).blk, (φ b).off + (φ b).sh.off p + s * elemSize (φ b).sh p, none⟩) len (cap + spareOf (φ b) p s cap)]
  | .nilslice => [.slice none 0 0]
  | .map r => [.map (some (φ r).blk)]
  | .nilmap => [.map none]
  | .fn f a c => [.func (.func f) (AV.concs φ a).toArray (AV.concs φ c).toArray]
  | .nilfn => [.nilFunc]
  | .iface t v => [.iface t (pack v (v.flat φ))]
  | .niliface => [.nilIface]
  | .strct vs => AV.flats φ vs
  | .arr n f => (List.range n).flatMap fun i => (f i).flat φ
  | .tuple vs => [.tuple (AV.concs φ vs).toArray]
def AV.flats (φ : Phi) : List AV → List Value
  | [] => []
  | v :: r => v.flat φ ++ AV.flats φ r
def AV.concs (φ : Phi) : List AV → List Value
  | [] => []
  | v :: r => pack v (v.flat φ) :: AV.concs φ r
end

/-- The model's value. -/
def AV.conc (φ : Phi) (v : AV) : Value := pack v (v.flat φ)

mutual
/-- The value mentions only blocks of A, at places that there are. -/
def AV.ok (φ : Phi) (A : Nat → Prop) : AV → Prop
  | .ptr b p => A b ∧ (φ b).sh.valid p
  | .slice b p s len cap => A b ∧ (φ b).sh.valid p ∧ len ≤ cap ∧ ∃ n es, (φ b).sh.at p = some (.arr n es) ∧ s + cap ≤ n
  | .map r => A r
  | .fn _ a c => AV.oks φ A a ∧ AV.oks φ A c
  | .iface _ v => v.ok φ A
  | .strct vs => AV.oks φ A vs
  | .arr n f => ∀ i, i < n → (f i).ok φ A
  | .tuple vs => AV.oks φ A vs
  | _ => True
def AV.oks (φ : Phi) (A : Nat → Prop) : List AV → Prop
  | [] => True
  | v :: r => v.ok φ A ∧ AV.oks φ A r
end

def Agree (A : Nat → Prop) (φ φ' : Phi) : Prop := ∀ b, A b → φ' b = φ b

theorem Agree.refl (A : Nat → Prop) (φ : Phi) : Agree A φ φ := fun _ _ => rfl

mutual
theorem flat_congr {A : Nat → Prop} {φ φ' : Phi} (h : Agree A φ φ') : (v : AV) → v.ok φ A → v.flat φ' = v.flat φ
  | .int .., _ => by simp [AV.flat]
  | .bool _, _ => by simp [AV.flat]
  | .str _, _ => by simp [AV.flat]
  | .ptr b p, ho => by simp only [AV.ok] at ho; simp [AV.flat, h b ho.1]
  | .nilptr, _ => by simp [AV.flat]
  | .slice b p s len cap, ho => by simp only [AV.ok] at ho; simp [AV.flat, h b ho.1]
  | .nilslice, _ => by simp [AV.flat]
  | .map r, ho => by simp only [AV.ok] at ho; simp [AV.flat, h r ho]
  | .nilmap, _ => by simp [AV.flat]
  | .fn f a c, ho => by simp only [AV.ok] at ho; simp [AV.flat, concs_congr h a ho.1, concs_congr h c ho.2]
  | .nilfn, _ => by simp [AV.flat]
  | .iface t v, ho => by simp only [AV.ok] at ho; simp [AV.flat, flat_congr h v ho]
  | .niliface, _ => by simp [AV.flat]
  | .strct vs, ho => by simp only [AV.ok] at ho; simp [AV.flat, flats_congr h vs ho]
  | .arr n f, ho => by
    simp only [AV.ok] at ho
    simp only [AV.flat]
    have : ∀ i ∈ List.range n, (f i).flat φ' = (f i).flat φ := fun i hi => flat_congr h (f i) (ho i (List.mem_range.1 hi))
    rw [List.flatMap_def, List.flatMap_def, List.map_congr_left this]
  | .tuple vs, ho => by simp only [AV.ok] at ho; simp [AV.flat, concs_congr h vs ho]
theorem flats_congr {A : Nat → Prop} {φ φ' : Phi} (h : Agree A φ φ') : (vs : List AV) → AV.oks φ A vs → AV.flats φ' vs = AV.flats φ vs
  | [], _ => by simp [AV.flats]
  | v :: r, ho => by simp only [AV.oks] at ho; simp [AV.flats, flat_congr h v ho.1, flats_congr h r ho.2]
theorem concs_congr {A : Nat → Prop} {φ φ' : Phi} (h : Agree A φ φ') : (vs : List AV) → AV.oks φ A vs → AV.concs φ' vs = AV.concs φ vs
  | [], _ => by simp [AV.concs]
  | v :: r, ho => by simp only [AV.oks] at ho; simp [AV.concs, flat_congr h v ho.1, concs_congr h r ho.2]
end

theorem conc_congr {A : Nat → Prop} {φ φ' : Phi} (h : Agree A φ φ') {v : AV} (ho : v.ok φ A) : v.conc φ' = v.conc φ := by
  simp [AV.conc, flat_congr h v ho]

mutual
theorem ok_congr {A A' : Nat → Prop} {φ φ' : Phi} (h : Agree A φ φ') (ha : ∀ b, A b → A' b) : (v : AV) → v.ok φ A → v.ok φ' A'
  | .int .., _ => by simp [AV.ok]
  | .bool _, _ => by simp [AV.ok]
  | .str _, _ => by simp [AV.ok]
  | .ptr b p, ho => by simp only [AV.ok] at ho ⊢; exact ⟨ha b ho.1, by rw [h b ho.1]; exact ho.2⟩
  | .nilptr, _ => by simp [AV.ok]
  | .slice b p s len cap, ho => by simp only [AV.ok] at ho ⊢; rw [h b ho.1]; exact ⟨ha b ho.1, ho.2⟩
  | .nilslice, _ => by simp [AV.ok]
  | .map r, ho => by simp only [AV.ok] at ho ⊢; exact ha r ho
  | .nilmap, _ => by simp [AV.ok]
  | .fn f a c, ho => by simp only [AV.ok] at ho ⊢; exact ⟨oks_congr h ha a ho.1, oks_congr h ha c ho.2⟩
  | .nilfn, _ => by simp [AV.ok]
  | .iface t v, ho => by simp only [AV.ok] at ho ⊢; exact ok_congr h ha v ho
  | .niliface, _ => by simp [AV.ok]
  | .strct vs, ho => by simp only [AV.ok] at ho ⊢; exact oks_congr h ha vs ho
  | .arr n f, ho => by simp only [AV.ok] at ho ⊢; exact fun i hi => ok_congr h ha (f i) (ho i hi)
  | .tuple vs, ho => by simp only [AV.ok] at ho ⊢; exact oks_congr h ha vs ho
theorem oks_congr {A A' : Nat → Prop} {φ φ' : Phi} (h : Agree A φ φ') (ha : ∀ b, A b → A' b) : (vs : List AV) → AV.oks φ A vs → AV.oks φ' A' vs
  | [], _ => by simp [AV.oks]
  | v :: r, ho => by simp only [AV.oks] at ho ⊢; exact ⟨ok_congr h ha v ho.1, oks_congr h ha r ho.2⟩
end

theorem flat_scalar {φ : Phi} {v : AV} (h : v.scalar) : v.flat φ = [v.conc φ] := by
  cases v <;> first | (simp [AV.scalar] at h; done) | simp [AV.conc, AV.flat, pack]

theorem conc_cells {φ : Phi} (v : AV) (h : v.scalar ∨ (∃ vs, v = .strct vs) ∨ ∃ n f, v = .arr n f) : (v.conc φ).cells.toList = v.flat φ := by
  rcases h with h | ⟨vs, rfl⟩ | ⟨n, f, rfl⟩
  · rw [flat_scalar h]
    cases v <;> first | (simp [AV.scalar] at h; done) | simp [AV.conc, AV.flat, pack, Value.cells]
  · simp [AV.conc, pack, Value.cells]
  · simp [AV.conc, pack, Value.cells]

theorem HasSh.form {s : Sh} {v : AV} (h : HasSh s v) : v.scalar ∨ (∃ vs, v = .strct vs) ∨ ∃ n f, v = .arr n f := by
  cases s with
  | leaf => exact .inl (by simpa [HasSh] using h)
  | node ss => cases v <;> simp [HasSh] at h <;> exact .inr (.inl ⟨_, rfl⟩)
  | arr n s => cases v <;> simp [HasSh] at h <;> exact .inr (.inr ⟨_, _, rfl⟩)

theorem range_flatMap_length {α : Type} (g : Nat → List α) (k : Nat) : (n : Nat) → (∀ i, i < n → (g i).length = k) → ((List.range n).flatMap g).length = n * k
  | 0, _ => by simp
  | n + 1, h => by
    rw [List.range_succ, List.flatMap_append, List.length_append, range_flatMap_length g k n (fun i hi => h i (by omega))]
    simp [h n (by omega), Nat.succ_mul]

mutual
theorem flat_length {φ : Phi} : (s : Sh) → (v : AV) → HasSh s v → (v.flat φ).length = s.size
  | .leaf, v, h => by simp only [HasSh] at h; rw [flat_scalar h]; simp [Sh.size]
  | .node ss, v, h => by
    cases v <;> simp only [HasSh] at h
    case strct vs => simp only [AV.flat, Sh.size]; exact flats_length ss vs h
  | .arr n s, v, h => by
    cases v <;> simp only [HasSh] at h
    case arr m f =>
      obtain ⟨rfl, h⟩ := h
      simp only [AV.flat, Sh.size]
      exact range_flatMap_length _ _ _ (fun i hi => flat_length s (f i) (h i hi))
theorem flats_length {φ : Phi} : (ss : List Sh) → (vs : List AV) → HasShL ss vs → (AV.flats φ vs).length = Sh.sizes ss
  | [], [], _ => by simp [AV.flats, Sh.sizes]
  | [], _ :: _, h => by simp [HasShL] at h
  | _ :: _, [], h => by simp [HasShL] at h
  | s :: ss, v :: vs, h => by
    simp only [HasShL] at h
    simp [AV.flats, Sh.sizes, flat_length s v h.1, flats_length ss vs h.2]
end

theorem range_split {α : Type} (g : Nat → List α) (k i : Nat) : (n : Nat) → i < n → (∀ j, j < n → (g j).length = k) →
    ∃ X Y, X.length = i * k ∧ ∀ g' : Nat → List α, (∀ j, j ≠ i → g' j = g j) → (List.range n).flatMap g' = X ++ g' i ++ Y
  | 0, h, _ => by omega
  | n + 1, h, hl => by
    by_cases hi : i = n
    · subst hi
      refine ⟨(List.range i).flatMap g, [], range_flatMap_length g k i (fun j hj => hl j (by omega)), fun g' hg => ?_⟩
      rw [List.range_succ, List.flatMap_append]
      have : ∀ j ∈ List.range i, g' j = g j := fun j hj => hg j (by have := List.mem_range.1 hj; omega)
      rw [List.flatMap_def, List.map_congr_left this, ← List.flatMap_def]
      simp
    · obtain ⟨X, Y, hX, hr⟩ := range_split g k i n (by omega) (fun j hj => hl j (by omega))
      refine ⟨X, Y ++ g n, hX, fun g' hg => ?_⟩
      rw [List.range_succ, List.flatMap_append, hr g' hg]
      simp [hg n (Ne.symm hi), List.append_assoc]

theorem nth_split {φ : Phi} : (ss : List Sh) → (vs : List AV) → (i : Nat) → (s : Sh) → HasShL ss vs → nth ss i = some s →
    ∃ v X Y, nth vs i = some v ∧ HasSh s v ∧ X.length = Sh.sizes (ss.take i) ∧ AV.flats φ vs = X ++ v.flat φ ++ Y ∧
      (∀ y, AV.flats φ (setNth vs i y) = X ++ y.flat φ ++ Y) ∧ (∀ y, HasSh s y → HasShL ss (setNth vs i y)) ∧
      (∀ φ A, AV.oks φ A vs → v.ok φ A ∧ ∀ y, y.ok φ A → AV.oks φ A (setNth vs i y))
  | [], _, _, _, _, h => by simp [nth] at h
  | _ :: _, [], _, _, h, _ => by simp [HasShL] at h
  | s0 :: ss, v :: vs, 0, s, h, hn => by
    simp only [nth, Option.some.injEq] at hn
    subst hn
    simp only [HasShL] at h
    refine ⟨v, [], AV.flats φ vs, rfl, h.1, by simp [Sh.sizes], by simp [AV.flats], fun y => by simp [setNth, AV.flats], fun y hy => by simp [setNth, HasShL, hy, h.2], fun φ A ho => ?_⟩
    simp only [AV.oks] at ho
    exact ⟨ho.1, fun y hy => by simp [setNth, AV.oks, hy, ho.2]⟩
  | s0 :: ss, v :: vs, i + 1, s, h, hn => by
    simp only [nth] at hn
    simp only [HasShL] at h
    obtain ⟨x, X, Y, h1, h2, h3, h4, h5, h6, h7⟩ := nth_split (φ := φ) ss vs i s h.2 hn
    refine ⟨x, v.flat φ ++ X, Y, by simp [nth, h1], h2, ?_, by simp [AV.flats, h4], fun y => by simp [setNth, AV.flats, h5], fun y hy => by simp [setNth, HasShL, h.1, h6 y hy], fun φ A ho => ?_⟩
    · simp [Sh.sizes, flat_length s0 v h.1, h3]
    · simp only [AV.oks] at ho
      obtain ⟨a, b⟩ := h7 φ A ho.2
      exact ⟨a, fun y hy => by simp [setNth, AV.oks, ho.1, b y hy]⟩

/-- A part of a variable: what it is, where its cells lie, and what a store into it makes of the whole. -/
theorem split_at {φ : Phi} : (p : List Nat) → (s : Sh) → (v : AV) → HasSh s v → s.valid p →
    ∃ r sp X Y, v.at p = some r ∧ s.at p = some sp ∧ HasSh sp r ∧ X.length = s.off p ∧ v.flat φ = X ++ r.flat φ ++ Y ∧
      (∀ y, (v.set p y).flat φ = X ++ y.flat φ ++ Y) ∧ (∀ y, HasSh sp y → HasSh s (v.set p y)) ∧
      (∀ φ A, v.ok φ A → r.ok φ A ∧ ∀ y, y.ok φ A → (v.set p y).ok φ A)
  | [], s, v, h, _ => by
    refine ⟨v, s, [], [], by cases v <;> rfl, by cases s <;> rfl, h, by cases s <;> simp [Sh.off], by simp, fun y => by cases v <;> simp [AV.set], fun y hy => by cases v <;> simpa [AV.set] using hy, fun φ A ho => ⟨ho, fun y hy => by cases v <;> simpa [AV.set] using hy⟩⟩
  | i :: p, .leaf, v, h, hv => by simp [Sh.valid] at hv
  | i :: p, .node ss, v, h, hv => by
    cases v <;> simp only [HasSh] at h
    case strct vs =>
    simp only [Sh.valid] at hv
    cases hn : nth ss i with
    | none => simp [hn] at hv
    | some s =>
      simp only [hn] at hv
      obtain ⟨x, X, Y, h1, h2, h3, h4, h5, h6, h7⟩ := nth_split (φ := φ) ss vs i s h hn
      obtain ⟨r, sp, X', Y', g1, g2, g3, g4, g5, g6, g7, g8⟩ := split_at (φ := φ) p s x h2 hv
      refine ⟨r, sp, X ++ X', Y' ++ Y, by simp [AV.at, h1, g1], by simp [Sh.at, hn, g2], g3, ?_, ?_, fun y => ?_, fun y hy => ?_, fun φ A ho => ?_⟩
      · simp [Sh.off, hn, h3, g4]
      · simp [AV.flat, h4, g5]
      · simp [AV.set, h1, AV.flat, h5, g6]
      · simp only [AV.set, h1, HasSh]; exact h6 _ (g7 y hy)
      · simp only [AV.ok] at ho
        obtain ⟨a, b⟩ := h7 φ A ho
        obtain ⟨c, d⟩ := g8 φ A a
        exact ⟨c, fun y hy => by simp only [AV.set, h1, AV.ok]; exact b _ (d y hy)⟩
  | i :: p, .arr n s, v, h, hv => by
    cases v <;> simp only [HasSh] at h
    case arr m f =>
    obtain ⟨rfl, h⟩ := h
    simp only [Sh.valid] at hv
    obtain ⟨hi, hv⟩ := hv
    obtain ⟨X, Y, hX, hr⟩ := range_split (fun j => (f j).flat φ) s.size i n hi (fun j hj => flat_length s (f j) (h j hj))
    obtain ⟨r, sp, X', Y', g1, g2, g3, g4, g5, g6, g7, g8⟩ := split_at (φ := φ) p s (f i) (h i hi) hv
    refine ⟨r, sp, X ++ X', Y' ++ Y, by simp [AV.at, g1], by simp [Sh.at, g2], g3, ?_, ?_, fun y => ?_, fun y hy => ?_, fun φ A ho => ?_⟩
    · simp [Sh.off, hX, g4]
    · simp only [AV.flat]; rw [hr _ (fun _ _ => rfl)]; simp [g5]
    · simp only [AV.set, AV.flat]
      rw [hr (fun j => (if j = i then (f i).set p y else f j).flat φ) (fun j hj => by simp [hj])]
      simp [g6]
    · simp only [AV.set, HasSh]
      refine ⟨trivial, fun j hj => ?_⟩
      by_cases hji : j = i
      · subst hji; simp; exact g7 y hy
      · simp [hji]; exact h j hj
    · simp only [AV.ok] at ho
      refine ⟨(g8 φ A (ho i hi)).1, fun y hy => ?_⟩
      simp only [AV.set, AV.ok]
      intro j hj
      by_cases hji : j = i
      · subst hji; simp; exact (g8 φ A (ho j hj)).2 y hy
      · simp [hji]; exact ho j hj

mutual
theorem fits_sound : (v : AV) → (s : Sh) → v.fits s = true → HasSh s v
  | v, .leaf, h => by cases v <;> simp [AV.fits] at h <;> simp [HasSh, AV.scalar]
  | .strct vs, .node ss, h => by simp only [AV.fits] at h; simp only [HasSh]; exact fitss_sound vs ss h
  | .arr _ _, .node _, h => by simp [AV.fits] at h
  | .tuple _, .node _, h => by simp [AV.fits] at h
  | .strct _, .arr _ _, h => by simp [AV.fits] at h
  | .arr _ _, .arr _ _, h => by simp [AV.fits] at h
  | .tuple _, .arr _ _, h => by simp [AV.fits] at h
  | .int .., .node _, h => by simp [AV.fits] at h
  | .bool .., .node _, h => by simp [AV.fits] at h
  | .str .., .node _, h => by simp [AV.fits] at h
  | .ptr .., .node _, h => by simp [AV.fits] at h
  | .nilptr, .node _, h => by simp [AV.fits] at h
  | .slice .., .node _, h => by simp [AV.fits] at h
  | .nilslice, .node _, h => by simp [AV.fits] at h
  | .map .., .node _, h => by simp [AV.fits] at h
  | .nilmap, .node _, h => by simp [AV.fits] at h
  | .fn .., .node _, h => by simp [AV.fits] at h
  | .nilfn, .node _, h => by simp [AV.fits] at h
  | .iface .., .node _, h => by simp [AV.fits] at h
  | .niliface, .node _, h => by simp [AV.fits] at h
  | .int .., .arr _ _, h => by simp [AV.fits] at h
  | .bool .., .arr _ _, h => by simp [AV.fits] at h
  | .str .., .arr _ _, h => by simp [AV.fits] at h
  | .ptr .., .arr _ _, h => by simp [AV.fits] at h
  | .nilptr, .arr _ _, h => by simp [AV.fits] at h
  | .slice .., .arr _ _, h => by simp [AV.fits] at h
  | .nilslice, .arr _ _, h => by simp [AV.fits] at h
  | .map .., .arr _ _, h => by simp [AV.fits] at h
  | .nilmap, .arr _ _, h => by simp [AV.fits] at h
  | .fn .., .arr _ _, h => by simp [AV.fits] at h
  | .nilfn, .arr _ _, h => by simp [AV.fits] at h
  | .iface .., .arr _ _, h => by simp [AV.fits] at h
  | .niliface, .arr _ _, h => by simp [AV.fits] at h
theorem fitss_sound : (vs : List AV) → (ss : List Sh) → AV.fitss vs ss = true → HasShL ss vs
  | [], [], _ => by simp [HasShL]
  | [], _ :: _, h => by simp [AV.fitss] at h
  | _ :: _, [], h => by simp [AV.fitss] at h
  | v :: vs, s :: ss, h => by
    simp only [AV.fitss, Bool.and_eq_true] at h
    simp only [HasShL]
    exact ⟨fits_sound v s h.1, fitss_sound vs ss h.2⟩
end

mutual
theorem beq_sound : (a b : Sh) → Sh.beq a b = true → a = b
  | .leaf, .leaf, _ => rfl
  | .node a, .node b, h => by simp only [Sh.beq] at h; rw [beqs_sound a b h]
  | .arr n a, .arr m b, h => by
    simp only [Sh.beq, Bool.and_eq_true] at h
    rw [Nat.eq_of_beq_eq_true h.1, beq_sound a b h.2]
  | .leaf, .node _, h => by simp [Sh.beq] at h
  | .leaf, .arr _ _, h => by simp [Sh.beq] at h
  | .node _, .leaf, h => by simp [Sh.beq] at h
  | .node _, .arr _ _, h => by simp [Sh.beq] at h
  | .arr _ _, .leaf, h => by simp [Sh.beq] at h
  | .arr _ _, .node _, h => by simp [Sh.beq] at h
theorem beqs_sound : (a b : List Sh) → Sh.beqs a b = true → a = b
  | [], [], _ => rfl
  | [], _ :: _, h => by simp [Sh.beqs] at h
  | _ :: _, [], h => by simp [Sh.beqs] at h
  | a :: as, b :: bs, h => by
    simp only [Sh.beqs, Bool.and_eq_true] at h
    rw [beq_sound a b h.1, beqs_sound as bs h.2]
end

end Go.Ab
