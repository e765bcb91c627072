/-
  The types' table, and plain data in cells.
-/
import Derived.Test.YtlhplhjibadplaaXSim
namespace Go.Ab
open Go Go.RowKit

/-- take a type's zero cells off a list -/
def isZ : Ty → List Value → Option (List Value)
  | .unit, l => some l
  | .bool, .bool false :: r => some r
  | .int k, .int k' n :: r => bif decide (k = k') && decide (n = 0) then some r else none
  | .str, .string s :: r => bif s.data.toList.isEmpty then some r else none
  | .slice _, .slice none 0 0 :: r => some r
  | .pair a b, l => (isZ a l).bind fun r => isZ b r
  | _, _ => none

def descAgg : TypeDesc → Bool
  | .struct _ | .array _ _ => true
  | _ => false

def zOk (z : Option Value) (u : Ty) : Bool :=
  match z with
  | some v => match isZ u v.cells.toList with
    | some [] => true
    | _ => false
  | none => false

def fieldsOk (P : Program) : List Field → Ty → Nat → Bool
  | [], .unit, _ => true
  | f :: r, .pair a b, off =>
    Nat.beq f.offset off &&
    (match P.info? f.type with | some i => Nat.beq i.size a.size && Nat.blt 0 a.size | none => false) &&
    (match P.underlying f.type with | some d => descAgg d == a.isAgg | none => false) &&
    fieldsOk P r b (off + a.size)
  | _, _, _ => false

/-- elements that are numbers are so by their type's description -/
def elemOk (P : Program) (te : TypeId) : Ty → Bool
  | .int k => match P.underlying te with
    | some (.int k') => decide (k = k')
    | _ => false
  | _ => true
def descOk (P : Program) : TypeDesc → Ty → Bool
  | .bool, .bool => true
  | .int k, .int k' => decide (k = k')
  | .string, .str => true
  | .slice te, .slice e => match P.info? te with
    | some i => Nat.beq i.size e.size && Nat.blt 0 e.size && zOk i.zero e && Nat.ble i.bytes 32768 && elemOk P te e
    | none => false
  | .struct fs, u => u.isAgg && (!isArrT u && fieldsOk P fs.toList u 0)
  | .array n te, u => u.isAgg && (isArrT u && (match arrIn u, P.info? te with | some p, some i => Nat.beq p.1 n && Nat.beq i.size p.2.size | _, _ => false))
  | _, _ => false

def tyOk (P : Program) (t : TypeId) (u : Ty) : Bool :=
  (match P.info? t with | some i => Nat.beq i.size u.size && zOk i.zero u | none => false) &&
  (match P.underlying t with | some d => descOk P d u | none => false)

theorem isZ_spec {S : Blk} {w : World} {h : HGet} {m : OMap} : ∀ (u : Ty) (l r : List Value), isZ u l = some r →
    ∃ p, l = p ++ r ∧ CellsRel h S w m (zcells u) p ∧ Rep S w u p u.zero ∧ Own w u p u.zero (fun _ => False)
  | .unit, l, r, e => by
    simp only [isZ, Option.some.injEq] at e
    subst e
    exact ⟨[], rfl, ⟨rfl, by simp, by simp [zcells]⟩, rfl, rfl, fun _ h => h⟩
  | .bool, l, r, e => by
    match l, e with
    | .bool false :: r', e =>
      simp only [isZ, Option.some.injEq] at e
      subst e
      refine ⟨[.bool false], rfl, ⟨rfl, by simp [Value.oneCell'], ?_⟩, rfl, rfl, fun _ h => h⟩
      intro i c v hc hv
      match i, hc, hv with
      | 0, hc, hv =>
        simp [zcells] at hc hv
        subst hc; subst hv
        exact ⟨rfl, rfl⟩
  | .int k, l, r, e => by
    match l, e with
    | .int k' n :: r', e =>
      simp only [isZ] at e
      by_cases hk : k = k' ∧ n = 0
      · obtain ⟨rfl, rfl⟩ := hk
        simp only [decide_true, Bool.and_self, cond_true, Option.some.injEq] at e
        subst e
        have hwf : wfI k 0 := by cases k <;> decide
        refine ⟨[.int k 0], rfl, ⟨rfl, by simp [Value.oneCell'], ?_⟩, ⟨rfl, hwf⟩, ⟨rfl, hwf⟩, fun _ h => h⟩
        intro i c v hc hv
        match i, hc, hv with
        | 0, hc, hv =>
          simp [zcells] at hc hv
          subst hc; subst hv
          exact ⟨rfl, rfl, hwf⟩
      · have : (decide (k = k') && decide (n = 0)) = false := by simpa using hk
        rw [this] at e
        cases e
  | .str, l, r, e => by
    match l, e with
    | .string s :: r', e =>
      simp only [isZ] at e
      cases hs : s.data.toList.isEmpty with
      | false => rw [hs] at e; cases e
      | true =>
        rw [hs] at e
        simp only [cond_true, Option.some.injEq] at e
        subst e
        have : s = ⟨⟨[]⟩⟩ := by
          obtain ⟨⟨l⟩⟩ := s
          cases l with
          | nil => rfl
          | cons a b => cases hs
        subst this
        refine ⟨[.string ⟨⟨[]⟩⟩], rfl, ⟨rfl, by simp [Value.oneCell'], ?_⟩, ⟨rfl, Nat.zero_le _⟩, ⟨rfl, Nat.zero_le _⟩, fun _ h => h⟩
        intro i c v hc hv
        match i, hc, hv with
        | 0, hc, hv =>
          simp [zcells] at hc hv
          subst hc; subst hv
          exact ⟨rfl, rfl, Nat.zero_le _⟩
  | .slice t, l, r, e => by
    match l, e with
    | .slice none 0 0 :: r', e =>
      simp only [isZ, Option.some.injEq] at e
      subst e
      refine ⟨[.slice none 0 0], rfl, ⟨rfl, by simp [Value.oneCell'], ?_⟩, ⟨Nat.zero_le _, .inl ⟨rfl, rfl⟩⟩, ⟨_, rfl, .inl ⟨⟨_, rfl⟩, rfl, fun _ h => h⟩⟩⟩
      intro i c v hc hv
      match i, hc, hv with
      | 0, hc, hv =>
        simp [zcells] at hc hv
        subst hc; subst hv
        exact ⟨_, rfl⟩
  | .pair a b, l, r, e => by
    simp only [isZ, Option.bind_eq_some_iff] at e
    obtain ⟨r1, e1, e2⟩ := e
    obtain ⟨p, rfl, h1, h2, h3⟩ := isZ_spec (S := S) (w := w) (h := h) (m := m) a l r1 e1
    obtain ⟨q, rfl, k1, k2, k3⟩ := isZ_spec (S := S) (w := w) (h := h) (m := m) b r1 r e2
    refine ⟨p ++ q, by simp, ?_, ⟨p, q, rfl, h2, k2⟩, ⟨p, q, _, _, rfl, h3, k3, fun _ h => h.elim, fun _ => by simp⟩⟩
    exact CellsRel_append h1 k1
  where
  CellsRel_append {h : HGet} {S : Blk} {w : World} {m : OMap} {cs ds : List ACell} {vs us : List Value} (a : CellsRel h S w m cs vs) (b : CellsRel h S w m ds us) : CellsRel h S w m (cs ++ ds) (vs ++ us) := by
    refine ⟨by simp [a.1, b.1], fun v hv => ?_, fun i c v hc hv => ?_⟩
    · rcases List.mem_append.1 hv with hv | hv
      · exact a.2.1 v hv
      · exact b.2.1 v hv
    · have hl := a.1
      by_cases hi : i < cs.length
      · rw [List.getElem?_append_left hi] at hc
        rw [List.getElem?_append_left (by omega)] at hv
        exact a.2.2 i c v hc hv
      · rw [List.getElem?_append_right (by omega)] at hc
        rw [List.getElem?_append_right (by omega), ← hl] at hv
        exact b.2.2 _ c v hc hv

section
variable {h : HGet} {S : Blk} {w : World} {m : OMap}

theorem CellsRel.append {cs ds : List ACell} {vs us : List Value} (a : CellsRel h S w m cs vs) (b : CellsRel h S w m ds us) : CellsRel h S w m (cs ++ ds) (vs ++ us) := isZ_spec.CellsRel_append a b

theorem CellsRel.nil : CellsRel h S w m [] [] := ⟨rfl, by simp, by simp⟩

theorem CellsRel.one {c : ACell} {v : Value} (r : CellRel h S w m c v) (h1 : v.oneCell' = true) : CellsRel h S w m [c] [v] :=
  ⟨rfl, by simpa using h1, fun i c' v' hc hv => by
    match i, hc, hv with
    | 0, hc, hv => simp at hc hv; subst hc; subst hv; exact r⟩

theorem CellsRel.take {cs : List ACell} {vs : List Value} (r : CellsRel h S w m cs vs) (n : Nat) : CellsRel h S w m (cs.take n) (vs.take n) :=
  ⟨by simp [r.1], fun v hv => r.2.1 v (List.mem_of_mem_take hv), fun i c v hc hv => by
    rw [List.getElem?_take] at hc hv
    split at hc
    · rw [if_pos (by assumption)] at hv; exact r.2.2 i c v hc hv
    · cases hc⟩

theorem CellsRel.drop {cs : List ACell} {vs : List Value} (r : CellsRel h S w m cs vs) (n : Nat) : CellsRel h S w m (cs.drop n) (vs.drop n) :=
  ⟨by simp [r.1], fun v hv => r.2.1 v (List.mem_of_mem_drop hv), fun i c v hc hv => by
    rw [List.getElem?_drop] at hc hv
    exact r.2.2 _ c v hc hv⟩

theorem CellsRel.uncons [Tabs] {c : ACell} {cs : List ACell} {vs : List Value} (r : CellsRel h S w m (c :: cs) vs) : ∃ v us, vs = v :: us ∧ CellRel h S w m c v ∧ v.oneCell' = true ∧ CellsRel h S w m cs us := by
  match vs, r with
  | v :: us, r => exact ⟨v, us, rfl, r.2.2 0 c v rfl rfl, r.2.1 v (by simp), by simpa using r.drop 1⟩
  | [], r => exact absurd r.1 (by simp)

/-- plain data are cells of plain data -/
theorem flat_rel [Tabs] : ∀ {t : Ty} {ds : List Value} {x : t.den}, Rep S w t ds x → CellsRel h S w m (flat t x) ds
  | .unit, ds, x, r => by simp only [Rep] at r; subst r; exact CellsRel.nil
  | .bool, ds, x, r => by
    have r' := r
    simp only [Rep] at r
    subst r
    exact CellsRel.one ⟨rfl, r'⟩ rfl
  | .int k, ds, x, r => by
    have r' := r
    obtain ⟨rfl, _⟩ := r
    exact CellsRel.one ⟨rfl, r'⟩ rfl
  | .str, ds, x, r => by
    have r' := r
    obtain ⟨rfl, _⟩ := r
    exact CellsRel.one ⟨rfl, r'⟩ rfl
  | .slice t, ds, x, r => by
    have r' := r
    obtain ⟨_, ⟨rfl, _⟩ | ⟨_, _, rfl, _⟩⟩ := r
    · exact CellsRel.one ⟨rfl, r'⟩ rfl
    · exact CellsRel.one ⟨rfl, r'⟩ rfl
  | .pair a b, ds, x, r => by
    obtain ⟨c, d, rfl, h1, h2⟩ := r
    exact (flat_rel h1).append (flat_rel h2)

theorem Rep.oneCell [Tabs] {t : Ty} {ds : List Value} {x : t.den} (r : Rep S w t ds x) : ∀ v ∈ ds, v.oneCell' = true := (flat_rel (h := fun _ => none) (m := fun _ => none) r).2.1

theorem flat_length : ∀ (t : Ty) (x : t.den), (flat t x).length = t.size
  | .unit, _ => rfl
  | .bool, _ => rfl
  | .int _, _ => rfl
  | .str, _ => rfl
  | .slice _, _ => rfl
  | .pair a b, x => by simp [flat, Ty.size, flat_length a, flat_length b]

theorem size_one {t : Ty} (h : t.isAgg = false) : t.size = 1 := by cases t <;> simp_all [Ty.isAgg, Ty.size]

theorem cast?_some {t t' : Ty} {x : t.den} {y : t'.den} (e : cast? t' x = some y) : ∃ h : t = t', h ▸ x = y := by
  unfold cast? at e
  split at e
  · rename_i h; exact ⟨h, Option.some.inj e⟩
  · cases e

/-- the blocks that cells may lead to beyond S: those of the own slices among them -/
def Plus (m : OMap) (h : HGet) (S : Blk) (ids : List Nat) : Blk := fun q => S q ∨ ∃ id ∈ ids, h id ≠ none ∧ ∃ c, m id = some c ∧ c.F q

theorem idsOf_append (a b : List ACell) : idsOf (a ++ b) = idsOf a ++ idsOf b := by
  induction a with
  | nil => rfl
  | cons c a ih => cases c <;> simp [idsOf, ih]

theorem idsOf_sub_take [Tabs] (a : List ACell) (n : Nat) : ∀ id ∈ idsOf (a.take n), id ∈ idsOf a := by
  intro id hid
  have := idsOf_append (a.take n) (a.drop n)
  rw [List.take_append_drop] at this
  rw [this]; simp [hid]
theorem idsOf_sub_drop [Tabs] (a : List ACell) (n : Nat) : ∀ id ∈ idsOf (a.drop n), id ∈ idsOf a := by
  intro id hid
  have := idsOf_append (a.take n) (a.drop n)
  rw [List.take_append_drop] at this
  rw [this]; simp [hid]

variable {B : Nat} {M0 : Blk}

theorem cellTo_rep [Tabs] {get : HGet} (M : Mem h S w m B M0) (hg : ∀ id o, get id = some o → h id ≠ none → h id = some o) {t : Ty} (ht : t.isAgg = false) {c : ACell} {v : Value} {x : t.den}
    (e : cellToG get t c = some x) (r : CellRel h S w m c v) : Rep (Plus m h S (idsOf [c])) w t [v] x := by
  have hsub : ∀ q, S q → Plus m h S (idsOf [c]) q := fun q hq => .inl hq
  cases c with
  | pv u y =>
    obtain ⟨rfl, rfl⟩ := cast?_some (e : cast? t y = some x)
    exact r.2.mono hsub (fun _ _ => rfl) (Nat.le_refl _)
  | nils =>
    obtain ⟨o, rfl⟩ : ∃ o : Option Addr, v = .slice o 0 0 := r
    cases t with
    | slice t' =>
      simp only [cellToG, Option.some.injEq] at e
      subst e
      cases o with
      | none => exact ⟨Nat.zero_le _, .inl ⟨rfl, rfl⟩⟩
      | some a => exact ⟨Nat.zero_le _, .inr ⟨a, 0, rfl, ⟨Nat.le_refl _, Nat.zero_le _⟩, .inl rfl, fun i e h => by simp at h⟩⟩
    | _ => cases e
  | os id =>
    obtain ⟨⟨d, t', xs, ho⟩, c, hc, rfl⟩ := r
    simp only [cellToG] at e
    cases hgi : get id with
    | none => simp [hgi] at e
    | some o =>
      have := hg id o hgi (heap_ne ho)
      rw [ho] at this
      cases this
      simp only [hgi] at e
      obtain ⟨rfl, rfl⟩ := cast?_some e
      obtain ⟨c', hc', he, hr⟩ := M.obj id _ ho
      obtain rfl : c' = c := Option.some.inj (hc'.symm.trans hc)
      exact ArrRel.rep hr hsub fun _ hq => .inr ⟨id, by simp [idsOf], heap_ne ho, c', hc, hq⟩
  | sb id i off e' y =>
    obtain ⟨d, xs, ho, hi, rfl, ⟨u, z, hf⟩, c, g, n, cap, hc, hv, hcell⟩ := r
    simp only [cellToG, hf] at e
    obtain ⟨rfl, rfl⟩ := cast?_some e
    obtain ⟨c', hc', he, hr⟩ := M.obj id _ ho
    obtain rfl : c' = c := Option.some.inj (hc'.symm.trans hc)
    rcases hr with ⟨_, rfl, _⟩ | ⟨g', cap', cur, te, Fs, h1, h2, h3, h4, h5, h6, h7, h8, h9⟩
    · simp at hi
    · rw [h1] at hv
      simp only [Value.slice.injEq, Option.some.injEq, Addr.mk.injEq] at hv
      obtain ⟨⟨rfl, _⟩, _⟩ := hv
      have hlt : i < xs.length := (List.getElem?_eq_some_iff.1 hi).1
      have hown := h6 i y hi
      have hrep : Rep (Plus m h S (idsOf [.sb id i off e' y])) w e' _ y := Own.rep hown fun q hq => .inr ⟨id, by simp [idsOf], heap_ne ho, c', hc, (h9 q).2 (.inr ⟨i, hlt, hq⟩)⟩
      have hfl := flat_rel (h := h) (m := m) hrep
      have hoff : off < e'.size := by
        have := (List.getElem?_eq_some_iff.1 hf).1
        rw [flat_length] at this; exact this
      have hcur : i * e'.size + off < cur.size := by
        have : (i + 1) * e'.size ≤ cur.size := by rw [h3]; exact Nat.mul_le_mul_right _ (by omega)
        rw [Nat.add_mul, Nat.one_mul] at this; omega
      have hvc : ((cur.toList.drop (i * e'.size)).take e'.size)[off]? = some v := by
        rw [List.getElem?_take, if_pos hoff, List.getElem?_drop]
        have := hcell
        simp only [World.cell?, h2, Option.isSome_none, Bool.false_eq_true, if_false] at this
        simpa using this
      exact (hfl.2.2 off _ v hf hvc).2
  | _ => cases e

theorem Rep.plus {t : Ty} {ds : List Value} {x : t.den} {l l' : List Nat} (r : Rep (Plus m h S l) w t ds x) (hl : ∀ id ∈ l, id ∈ l') : Rep (Plus m h S l') w t ds x :=
  r.mono (fun q hq => hq.imp id fun ⟨i, hi, rest⟩ => ⟨i, hl i hi, rest⟩) (fun _ _ => rfl) (Nat.le_refl _)

theorem gather_rep [Tabs] {get : HGet} (M : Mem h S w m B M0) (hg : ∀ id o, get id = some o → h id ≠ none → h id = some o) : ∀ {t : Ty} {cs : List ACell} {vs : List Value} {x : t.den},
    gatherG get t cs = some x → CellsRel h S w m cs vs → cs.length = t.size → Rep (Plus m h S (idsOf cs)) w t vs x
  | .unit, cs, vs, x, _, r, hl => by
    have : vs = [] := List.eq_nil_of_length_eq_zero (by rw [← r.1, hl]; rfl)
    exact this
  | .pair a b, cs, vs, x, e, r, hl => by
    simp only [gatherG, Option.bind_eq_some_iff, Option.some.injEq] at e
    obtain ⟨y, e1, z, e2, rfl⟩ := e
    have hl' : cs.length = a.size + b.size := hl
    have h1 := gather_rep M hg e1 (r.take a.size) (by simp; omega)
    have h2 := gather_rep M hg e2 (r.drop a.size) (by simp; omega)
    exact ⟨vs.take a.size, vs.drop a.size, by simp, h1.plus (idsOf_sub_take _ _), h2.plus (idsOf_sub_drop _ _)⟩
  | .bool, [c], vs, x, e, r, _ => by
    obtain ⟨v, us, rfl, hr, _, hu⟩ := r.uncons
    have : us = [] := List.eq_nil_of_length_eq_zero hu.1.symm
    subst this
    exact cellTo_rep M hg rfl e hr
  | .int k, [c], vs, x, e, r, _ => by
    obtain ⟨v, us, rfl, hr, _, hu⟩ := r.uncons
    have : us = [] := List.eq_nil_of_length_eq_zero hu.1.symm
    subst this
    exact cellTo_rep M hg rfl e hr
  | .str, [c], vs, x, e, r, _ => by
    obtain ⟨v, us, rfl, hr, _, hu⟩ := r.uncons
    have : us = [] := List.eq_nil_of_length_eq_zero hu.1.symm
    subst this
    exact cellTo_rep M hg rfl e hr
  | .slice t, [c], vs, x, e, r, _ => by
    obtain ⟨v, us, rfl, hr, _, hu⟩ := r.uncons
    have : us = [] := List.eq_nil_of_length_eq_zero hu.1.symm
    subst this
    exact cellTo_rep M hg rfl e hr

/-- what the table says of a type -/
theorem tyOk_info {P : Program} {t : TypeId} {u : Ty} (e : tyOk P t u = true) : ∃ i z, P.info? t = some i ∧ i.size = u.size ∧ i.zero = some z ∧ isZ u z.cells.toList = some [] := by
  unfold tyOk at e
  rw [Bool.and_eq_true] at e
  cases hi : P.info? t with
  | none => rw [hi] at e; cases e.1
  | some i =>
    rw [hi] at e
    have e1 := e.1
    simp only [Bool.and_eq_true] at e1
    unfold zOk at e1
    cases hz : i.zero with
    | none => rw [hz] at e1; cases e1.2
    | some z =>
      rw [hz] at e1
      refine ⟨i, z, rfl, Nat.eq_of_beq_eq_true e1.1, hz, ?_⟩
      have := e1.2
      simp only at this
      split at this
      · assumption
      · cases this

theorem lookS_spec {l : List (Nat × Ty)} {i : Nat} {u : Ty} (h : lookS l i = some u) : look l i = some u ∧ isArrT u = false := by
  unfold lookS at h
  cases hl : look l i with
  | none => rw [hl] at h; cases h
  | some v =>
    rw [hl] at h
    simp only at h
    cases ha : isArrT v with
    | true => rw [ha] at h; cases h
    | false => rw [ha] at h; cases h; exact ⟨rfl, ha⟩
theorem tyOk_desc {P : Program} {t : TypeId} {u : Ty} (e : tyOk P t u = true) : ∃ d, P.underlying t = some d ∧ descOk P d u = true := by
  unfold tyOk at e
  rw [Bool.and_eq_true] at e
  cases hd : P.underlying t with
  | none => rw [hd] at e; cases e.2
  | some d => rw [hd] at e; exact ⟨d, rfl, e.2⟩

theorem descOk_agg {P : Program} {d : TypeDesc} {u : Ty} (e : descOk P d u = true) : descAgg d = u.isAgg := by
  unfold descOk at e
  split at e <;> first | rfl | (simp only [Bool.and_eq_true] at e; rw [e.1]; rfl) | cases e

theorem run_isAgg_ty [Tabs] {P : Program} {t : TypeId} {u : Ty} (e : tyOk P t u = true) (w : World) : (isAgg t).run P w = .ok u.isAgg w := by
  obtain ⟨d, hd, ho⟩ := tyOk_desc e
  have ha := descOk_agg ho
  unfold isAgg
  simp only [Sem.run_bind, run_underlying hd, Result.andThen_ok]
  rw [← ha]
  cases d <;> rfl

theorem run_sizeOf_ty [Tabs] {P : Program} {t : TypeId} {u : Ty} (e : tyOk P t u = true) (w : World) : (sizeOf t).run P w = .ok u.size w := by
  obtain ⟨i, z, hi, hs, _⟩ := tyOk_info e
  simp [sizeOf, typeInfo, hi, hs]

theorem run_zero_ty [Tabs] {P : Program} {t : TypeId} {u : Ty} (e : tyOk P t u = true) (w : World) : ∃ z, (zeroValue t).run P w = .ok z w ∧ isZ u z.cells.toList = some [] := by
  obtain ⟨i, z, hi, hs, hz, hc⟩ := tyOk_info e
  exact ⟨z, by simp [zeroValue, typeInfo, hi, hz], hc⟩

/-- cells as a value -/
def valV (agg : Bool) (ds : List Value) : Value := if agg then .agg ds.toArray else ds.headD undef

theorem valOf_rel [Tabs] {agg : Bool} {cs : List ACell} {ds : List Value} (r : CellsRel h S w m cs ds) (hn : agg = true ∨ ∃ c, cs = [c]) : VRel h S w m (valOf agg cs) (valV agg ds) := by
  cases agg with
  | true => exact ⟨ds.toArray, rfl, by simpa using r⟩
  | false =>
    obtain ⟨c, rfl⟩ := hn.resolve_left (by simp)
    obtain ⟨v, us, rfl, hr, _⟩ := r.uncons
    exact hr

theorem cells_one {v : Value} (h1 : v.oneCell' = true) : v.cells = #[v] := by cases v <;> first | rfl | cases h1
theorem VkRel.oneCell {o : AObj} {c : OC} : {k : VK} → {v : Value} → VkRel w o c k v → v.oneCell' = true
  | .win _ _, v, r => by
    obtain ⟨_, _, _, _, _, _, ⟨_, _, rfl, _⟩ | ⟨_, _, _, _, rfl, _⟩⟩ := r <;> rfl
  | .inn _ _ _ _ _, v, r => by
    obtain ⟨_, _, _, _, _, _, _, _, _, _, _, _, _, _, _, rfl⟩ := r
    rfl
  | .app _ _ _ _ _ _, v, r => by
    obtain ⟨_, _, _, _, _, _, _, _, _, _, _, _, _, _, _, _, rfl, _⟩ := r
    rfl
theorem CellRel.oneCell [Tabs] {c : ACell} {v : Value} (r : CellRel h S w m c v) (hc : c ≠ .und) (M : Mem h S w m B M0) : v.oneCell' = true := by
  cases c with
  | und => exact absurd rfl hc
  | nils => obtain ⟨o, rfl⟩ : ∃ o : Option Addr, v = .slice o 0 0 := r; rfl
  | pv t x => exact r.2.oneCell v (by simp)
  | pc t x => obtain ⟨_, _, _, rfl, _⟩ := r; rfl
  | os id =>
    obtain ⟨⟨d, t, xs, ho⟩, c, hc', rfl⟩ := r
    obtain ⟨c', h1, _, h3⟩ := M.obj _ _ ho
    obtain rfl : c' = c := Option.some.inj (h1.symm.trans hc')
    rcases h3 with ⟨⟨_, e⟩, _⟩ | ⟨g, cap, cur, te, Fs, e, _⟩ <;> rw [e] <;> rfl
  | op id off => obtain ⟨_, _, _, _, _, rfl⟩ := r; rfl
  | oe id i off => obtain ⟨_, _, _, _, _, _, _, rfl⟩ := r; rfl
  | sb id i off e y =>
    obtain ⟨d, xs, ho, hi, rfl, ⟨u, z, hf⟩, c, g, n, cap, hc', hv, hcell⟩ := r
    have := cellTo_rep (get := h) M (fun _ _ e _ => e) (t := .slice u) (c := .sb id i off e y) (v := v) (x := z) rfl (by simp only [cellToG, hf]; simp [cast?]) ⟨true, xs, ho, hi, rfl, ⟨u, z, hf⟩, c, g, n, cap, hc', hv, hcell⟩
    exact this.oneCell v (by simp)
  | vw id k =>
    obtain ⟨_, _, _, _, _, r⟩ := r
    exact r.oneCell
  | cl f caps => obtain ⟨_, rfl, _⟩ := r; rfl

/-- the cells of a value of which something is known -/
theorem VRel.cells [Tabs] {v : AVal} {u : Value} (r : VRel h S w m v u) (hs : v.solid = true) (M : Mem h S w m B M0) : CellsRel h S w m v.cells u.cells.toList := by
  cases v with
  | one c =>
    have hc : c ≠ .und := fun e => by subst e; cases hs
    have h1 := CellRel.oneCell r hc M
    rw [cells_one h1]
    exact CellsRel.one r h1
  | ag cs => obtain ⟨vs, rfl, r⟩ := r; exact r
  | tu l => cases hs

theorem run_loadVar_ty [Tabs] {P : Program} {t : TypeId} {u : Ty} (e : tyOk P t u = true) {b o : Nat} {ds : List Value} (hr : ReadsAt w b o ds) (hl : ds.length = u.size) : (loadVar t ⟨b, o, none⟩).run P w = .ok (valV u.isAgg ds) w := by
  have hc : ∀ j v, ds[j]? = some v → w.cell? ((⟨b, o, none⟩ : Addr).add j) = some v := by
    intro j v hj
    have : (⟨b, o, none⟩ : Addr).add j = ⟨b, o + j, none⟩ := by unfold Addr.add; split <;> simp_all
    rw [this]; exact hr j v hj
  unfold loadVar
  simp only [Sem.run_bind, run_isAgg_ty e, Result.andThen_ok]
  cases ha : u.isAgg with
  | true =>
    simp only [if_true, Sem.run_bind, run_sizeOf_ty e, Result.andThen_ok]
    rw [← hl, run_loadCells_list w _ ds hc]
    rfl
  | false =>
    have h1 := size_one ha
    match ds, hl, hc with
    | [d], hl, hc =>
      have := hc 0 d rfl
      have e0 : (⟨b, o, none⟩ : Addr).add 0 = ⟨b, o, none⟩ := by unfold Addr.add; simp
      rw [e0] at this
      simp [this, valV]
    | [], hl, _ => simp [h1] at hl
    | _ :: _ :: _, hl, _ => simp [h1] at hl
theorem seg_get (L : List Value) (a b j : Nat) : ((L.drop a).take b)[j]? = if j < b then L[a + j]? else none := by
  rw [List.getElem?_take]
  split
  · rw [List.getElem?_drop]
  · rfl

/-- cells own their data, if each does, apart -/
theorem own_each {get : HGet} : ∀ {t : Ty} {cs : List ACell} {vs : List Value} {x : t.den} {Fs : Nat → Blk}, gatherG get t cs = some x → cs.length = t.size → vs.length = t.size →
    (∀ (i : Nat) (c : ACell) (v : Value) (u : Ty) (z : u.den), cs[i]? = some c → vs[i]? = some v → u.isAgg = false → cellToG get u c = some z → Own w u [v] z (Fs i)) →
    (∀ i j q, Fs i q → Fs j q → i = j) → Own w t vs x (fun q => ∃ i, i < t.size ∧ Fs i q)
  | .unit, _, vs, _, _, _, _, hv, _, _ => ⟨List.eq_nil_of_length_eq_zero hv, fun q ⟨i, hi, _⟩ => by simp [Ty.size] at hi⟩
  | .pair a b, cs, vs, x, Fs, e, hl, hv, f, hd => by
    simp only [gatherG, Option.bind_eq_some_iff, Option.some.injEq] at e
    obtain ⟨y, e1, z, e2, rfl⟩ := e
    have hl' : cs.length = a.size + b.size := hl
    have hv' : vs.length = a.size + b.size := hv
    refine ⟨vs.take a.size, vs.drop a.size, _, _, by simp, own_each (Fs := Fs) e1 (by simp; omega) (by simp; omega) (fun i c v u z hc hu => ?_) hd, own_each (Fs := fun i => Fs (a.size + i)) e2 (by simp; omega) (by simp; omega) (fun i c v u z hc hu => ?_) (fun i j q h1 h2 => by have := hd _ _ q h1 h2; omega), fun q ⟨i, hi, h1⟩ ⟨j, hj, h2⟩ => ?_, fun q => ⟨fun ⟨i, hi, h1⟩ => ?_, fun h => ?_⟩⟩
    · rw [List.getElem?_take] at hc hu
      split at hc
      · rename_i hi; rw [if_pos hi] at hu; exact f i c v u z hc hu
      · cases hc
    · rw [List.getElem?_drop] at hc hu
      exact f (a.size + i) c v u z hc hu
    · have := hd _ _ q h1 h2; omega
    · have hi' : i < a.size + b.size := hi
      by_cases h : i < a.size
      · exact .inl ⟨i, h, h1⟩
      · exact .inr ⟨i - a.size, by omega, by rw [show a.size + (i - a.size) = i by omega]; exact h1⟩
    · have hsz : (Ty.pair a b).size = a.size + b.size := rfl
      rcases h with ⟨i, hi, h1⟩ | ⟨i, hi, h1⟩
      · exact ⟨i, by omega, h1⟩
      · exact ⟨a.size + i, by omega, h1⟩
  | .bool, [c], [v], x, Fs, e, _, _, f, _ => by
    obtain ⟨h1, h2⟩ := f 0 c v .bool x rfl rfl rfl e
    exact ⟨h1, fun q ⟨i, hi, hq⟩ => by simp [Ty.size] at hi; subst hi; exact h2 q hq⟩
  | .int k, [c], [v], x, Fs, e, _, _, f, _ => by
    obtain ⟨h1, h2⟩ := f 0 c v (.int k) x rfl rfl rfl e
    exact ⟨h1, fun q ⟨i, hi, hq⟩ => by simp [Ty.size] at hi; subst hi; exact h2 q hq⟩
  | .str, [c], [v], x, Fs, e, _, _, f, _ => by
    obtain ⟨h1, h2⟩ := f 0 c v .str x rfl rfl rfl e
    exact ⟨h1, fun q ⟨i, hi, hq⟩ => by simp [Ty.size] at hi; subst hi; exact h2 q hq⟩
  | .slice t, [c], [v], x, Fs, e, _, _, f, _ => by
    have := f 0 c v (.slice t) x rfl rfl rfl e
    have e2 : (fun q => ∃ i, i < (Ty.slice t).size ∧ Fs i q) = Fs 0 := by
      funext q
      refine propext ⟨fun ⟨i, hi, hq⟩ => ?_, fun hq => ⟨0, by simp [Ty.size], hq⟩⟩
      simp [Ty.size] at hi
      subst hi
      exact hq
    rw [e2]
    exact this

theorem own_flat1 [Tabs] {t : Ty} {ds : List Value} {x : t.den} {F : Blk} (ha : t.isAgg = false) (o : Own w t ds x F) : ∃ Fs : Nat → Blk,
    (∀ (i : Nat) (c : ACell) (v : Value), (flat t x)[i]? = some c → ds[i]? = some v → ∃ (u : Ty) (z : u.den), c = .pv u z ∧ Own w u [v] z (Fs i)) ∧ (∀ i j q, Fs i q → Fs j q → i = j) ∧ ∀ i q, Fs i q → F q := by
  have hl := o.len
  have h1 : t.size = 1 := size_one ha
  have hf : flat t x = [.pv t x] := by cases t <;> first | rfl | cases ha
  refine ⟨fun i q => i = 0 ∧ F q, fun i c v hi hv => ?_, fun i j q hi hj => hi.1.trans hj.1.symm, fun i q hi => hi.2⟩
  rw [hf] at hi
  cases i with
  | zero =>
    simp at hi
    refine ⟨t, x, hi.symm, ?_⟩
    match ds, hl, hv with
    | [v'], _, hv =>
      simp at hv
      subst hv
      have e : (fun q => (0 : Nat) = 0 ∧ F q) = F := by funext q; simp
      show Own w t [v'] x (fun q => (0 : Nat) = 0 ∧ F q)
      rw [e]
      exact o
    | [], hl, _ => rw [h1] at hl; cases hl
    | _ :: _ :: _, hl, _ => rw [h1] at hl; simp at hl
  | succ i => simp at hi

/-- data with what they own, part by part -/
theorem own_flat [Tabs] : ∀ {t : Ty} {ds : List Value} {x : t.den} {F : Blk}, Own w t ds x F → ∃ Fs : Nat → Blk,
    (∀ (i : Nat) (c : ACell) (v : Value), (flat t x)[i]? = some c → ds[i]? = some v → ∃ (u : Ty) (z : u.den), c = .pv u z ∧ Own w u [v] z (Fs i)) ∧ (∀ i j q, Fs i q → Fs j q → i = j) ∧ ∀ i q, Fs i q → F q
  | .unit, ds, x, F, o => ⟨fun _ _ => False, fun i c v h => by simp [flat] at h, fun _ _ _ h => h.elim, fun _ _ h => h.elim⟩
  | .pair a b, ds, x, F, o => by
    obtain ⟨c, d, G, H, rfl, h1, h2, h3, h4⟩ := o
    obtain ⟨Fa, a1, a2, a3⟩ := own_flat h1
    obtain ⟨Fb, b1, b2, b3⟩ := own_flat h2
    have hc := h1.len
    have hfl : ∀ {t : Ty} (x : t.den), (flat t x).length = t.size := fun x => flat_length _ x
    refine ⟨fun i => if i < a.size then Fa i else Fb (i - a.size), fun i cc v hi hv => ?_, fun i j q hi hj => ?_, fun i q hi => ?_⟩
    · simp only [flat] at hi
      by_cases hl : i < a.size
      · rw [List.getElem?_append_left (by rw [hfl]; exact hl)] at hi
        rw [List.getElem?_append_left (by omega)] at hv
        simp only [if_pos hl]
        exact a1 i cc v hi hv
      · rw [List.getElem?_append_right (by rw [hfl]; omega), hfl] at hi
        rw [List.getElem?_append_right (by omega), hc] at hv
        simp only [if_neg hl]
        exact b1 _ cc v hi hv
    · by_cases li : i < a.size
      · by_cases lj : j < a.size
        · simp only [if_pos li] at hi; simp only [if_pos lj] at hj; exact a2 i j q hi hj
        · simp only [if_pos li] at hi; simp only [if_neg lj] at hj; exact (h3 q (a3 i q hi) (b3 _ q hj)).elim
      · by_cases lj : j < a.size
        · simp only [if_neg li] at hi; simp only [if_pos lj] at hj; exact (h3 q (a3 j q hj) (b3 _ q hi)).elim
        · simp only [if_neg li] at hi; simp only [if_neg lj] at hj
          have := b2 _ _ q hi hj
          omega
    · by_cases li : i < a.size
      · simp only [if_pos li] at hi; exact (h4 q).2 (.inl (a3 i q hi))
      · simp only [if_neg li] at hi; exact (h4 q).2 (.inr (b3 _ q hi))
  | .bool, ds, x, F, o => own_flat1 (t := .bool) rfl o
  | .int k, ds, x, F, o => own_flat1 (t := .int k) rfl o
  | .str, ds, x, F, o => own_flat1 (t := .str) rfl o
  | .slice u, ds, x, F, o => own_flat1 (t := .slice u) rfl o

/-- an inner slice, with what it owns -/
theorem sb_part [Tabs] (M : Mem h S w m B M0) {id i off : Nat} {e : Ty} {y : e.den} {v : Value} (r : CellRel h S w m (.sb id i off e y) v) :
    ∃ xs u z c g cap G0, h id = some (.arr true e xs) ∧ xs[i]? = some y ∧ (flat e y)[off]? = some (.pv (.slice u) z) ∧ m id = some c ∧ c.v = .slice (some ⟨g, 0, none⟩) xs.length cap ∧
      w.cell? ⟨g, i * e.size + off, none⟩ = some v ∧ Own w (.slice u) [v] z G0 ∧ ∀ q, G0 q → c.F q ∧ q ≠ g := by
  obtain ⟨d, xs, ho, hi, rfl, ⟨u, z, hf⟩, c, g, n, cap, hc, hv, hcell⟩ := r
  obtain ⟨c', hc', he, hr⟩ := M.obj id _ ho
  obtain rfl : c' = c := Option.some.inj (hc'.symm.trans hc)
  rcases hr with ⟨_, rfl, _⟩ | ⟨g', cap', cur, te, Fs, h1, h2, h3, h4, h5, h6, h7, h8, h9⟩
  · simp at hi
  have hv0 := hv
  rw [h1] at hv
  simp only [Value.slice.injEq, Option.some.injEq, Addr.mk.injEq] at hv
  obtain ⟨⟨rfl, _⟩, rfl, rfl⟩ := hv
  have hlt : i < xs.length := (List.getElem?_eq_some_iff.1 hi).1
  have hoff : off < e.size := by have := (List.getElem?_eq_some_iff.1 hf).1; rw [flat_length] at this; exact this
  have hseg : ((cur.toList.drop (i * e.size)).take e.size)[off]? = some v := by
    rw [seg_get, if_pos hoff]
    have := hcell
    simp only [World.cell?, h2, Option.isSome_none, Bool.false_eq_true, if_false] at this
    simpa using this
  obtain ⟨Fp, p1, p2, p3⟩ := own_flat (h6 i y hi)
  obtain ⟨u', z', hp, ho'⟩ := p1 off _ v hf hseg
  cases hp
  exact ⟨xs, u, z, c', g', cap', Fp off, ho, hi, hf, hc, hv0, hcell, ho', fun q hq => ⟨(h9 q).2 (.inr ⟨i, hlt, p3 off q hq⟩), fun e => h8 i hlt (e ▸ p3 off q hq)⟩⟩
end
end Go.Ab
