/-
  New structs and slices.
-/
import Derived.Test.YtlhplhjibadplaaXOps3
import Derived.Laws.MakeOwn
namespace Go.Ab
open Go Go.RowKit

section
variable {P : Program} {E : Env} {h get : HGet} {S : Blk} {w : World} {m : OMap} {B : Nat} {M0 : Blk}

theorem foldl_set : ∀ (l : List Value) (k : Nat) (arr : Array Value) (off : Nat), off + k + l.length ≤ arr.size →
    ((l.zipIdx k).foldl (fun cs p => cs.setIfInBounds (off + p.2) p.1) arr).toList = arr.toList.take (off + k) ++ l ++ arr.toList.drop (off + k + l.length)
  | [], k, arr, off, _ => by simp
  | v :: l, k, arr, off, hl => by
    simp only [List.length_cons] at hl
    simp only [List.zipIdx_cons, List.foldl_cons]
    rw [foldl_set l (k + 1) _ off (by simp; omega)]
    have e := list_seg_step arr.toList (off + k) v l (by simp; omega)
    simp only [Array.toList_setIfInBounds, List.length_cons]
    simpa [Nat.add_assoc, Nat.add_comm 1] using e

theorem fill_step [Tabs] (vs : Array Value) (arr : Array Value) (off : Nat) (hl : off + vs.size ≤ arr.size) :
    (vs.zipIdx.foldl (fun cs (c, j) => cs.setIfInBounds (off + j) c) arr).toList = arr.toList.take off ++ vs.toList ++ arr.toList.drop (off + vs.size) := by
  have := foldl_set vs.toList 0 arr off (by simpa using hl)
  simp only [Nat.add_zero, Array.length_toList] at this
  rw [← this, ← Array.foldl_toList, Array.toList_zipIdx]

theorem CellsRel.splice [Tabs] {cs ds : List ACell} {vs us : List Value} (r : CellsRel h S w m cs vs) (k : CellsRel h S w m ds us) (off : Nat) : CellsRel h S w m (Ab.splice cs off ds) (vs.take off ++ us ++ vs.drop (off + us.length)) := by
  unfold Ab.splice
  rw [k.1]
  exact ((r.take off).append k).append (r.drop _)

theorem splice_length {cs ds : List ACell} {off : Nat} (hl : off + ds.length ≤ cs.length) : (splice cs off ds).length = cs.length := by
  unfold splice; simp; omega

/-- parts in cells, and parts in memory -/
theorem fill_rel [Tabs] (M : Mem h S w m B M0) {u : Ty} {place : Nat → Option (Nat × Nat)} (hp : ∀ i p, fieldAt u i = some p → place i = some (p.1, p.2.size)) :
    ∀ (l : List (Nat × AVal)) (vl : List (Nat × Value)) (cs cs' : List ACell) (arr : Array Value), fillParts u cs l = some cs' → CellsRel h S w m cs arr.toList → cs.length = u.size →
      l.length = vl.length → (∀ (k i : Nat) (a : AVal), l[k]? = some (i, a) → ∃ v, vl[k]? = some (i, v) ∧ VRel h S w m a v) →
      ∃ arr', Instr.fill place arr vl = some arr' ∧ CellsRel h S w m cs' arr'.toList ∧ cs'.length = u.size
  | [], vl, cs, cs', arr, e, r, hl, hn, _ => by
    cases vl with
    | cons _ _ => cases hn
    | nil =>
      simp only [fillParts, Option.some.injEq] at e
      subst e
      exact ⟨arr, rfl, r, hl⟩
  | (i, a) :: l, vl, cs, cs', arr, e, r, hl, hn, hv => by
    cases vl with
    | nil => cases hn
    | cons p vl =>
      obtain ⟨v, hv0, hr⟩ := hv 0 i a rfl
      simp only [List.getElem?_cons_zero, Option.some.injEq] at hv0
      subst hv0
      simp only [fillParts] at e
      cases hf : fieldAt u i with
      | none => rw [hf] at e; cases e
      | some q =>
        obtain ⟨off, c⟩ := q
        rw [hf] at e
        simp only at e
        cases hb : (a.solid && Nat.beq a.cells.length c.size) with
        | false => rw [hb] at e; cases e
        | true =>
          rw [hb] at e
          simp only [cond_true] at e
          rw [Bool.and_eq_true] at hb
          have hsz := Nat.eq_of_beq_eq_true hb.2
          have hc := hr.cells hb.1 M
          have hle := fieldAt_le hf
          simp only at hle
          have hvs : v.cells.size = c.size := by have := hc.1; simp at this; omega
          have harr : arr.size = u.size := by have := r.1; simp at this; omega
          have hstep := fill_step v.cells arr off (by omega)
          have r2 : CellsRel h S w m (splice cs off a.cells) (v.cells.zipIdx.foldl (fun cs (c, j) => cs.setIfInBounds (off + j) c) arr).toList := by
            rw [hstep]
            have := r.splice hc off
            simpa using this
          obtain ⟨arr', h1, h2, h3⟩ := fill_rel M hp l vl _ cs' _ e r2 (by rw [splice_length (by omega)]; exact hl) (by simpa using hn) (fun k i a hk => by
            have := hv (k + 1) i a (by simpa using hk)
            simpa using this)
          refine ⟨arr', ?_, h2, h3⟩
          unfold Instr.fill
          simp only [hp i _ hf, hvs]
          have : ¬ (off + c.size > arr.size) := by omega
          simp only [ne_eq, not_true_eq_false, decide_false, Bool.false_or, decide_eq_true_eq, this, if_false]
          exact h1

theorem run_mapM_list {α β : Type} {f : α → Sem β} {g : α → β} : ∀ (l : List α), (∀ x ∈ l, (f x).run P w = .ok (g x) w) → (l.mapM f).run P w = .ok (l.map g) w
  | [], _ => by simp
  | x :: l, hx => by
    simp only [List.mapM_cons, Sem.run_bind, hx x (by simp), Result.andThen_ok, run_mapM_list l (fun y hy => hx y (by simp [hy])), Sem.run_pure, List.map_cons]

theorem fields_all : ∀ {fs : List Field} {u : Ty} {off0 : Nat}, fieldsOk P fs u off0 = true → ∀ f ∈ fs, ∃ i, P.info? f.type = some i
  | [], _, _, _, f, hf => by cases hf
  | f :: r, .pair a b, off0, ok, g, hg => by
    simp only [fieldsOk, Bool.and_eq_true] at ok
    obtain ⟨⟨⟨h1, h2⟩, h3⟩, h4⟩ := ok
    rcases List.mem_cons.1 hg with rfl | hg
    · cases hi : P.info? g.type with
      | none => rw [hi] at h2; cases h2
      | some i => exact ⟨i, rfl⟩
    · exact fields_all h4 g hg
  | _ :: _, .unit, _, ok, _, _ => by cases ok
  | _ :: _, .bool, _, ok, _, _ => by cases ok
  | _ :: _, .int _, _, ok, _, _ => by cases ok
  | _ :: _, .str, _, ok, _, _ => by cases ok
  | _ :: _, .slice _, _, ok, _, _ => by cases ok

theorem q_build [Tabs] (M : Mem h S w m B M0) (d : Nat) {t : TypeId} {u : Ty} (ht : tyOk P t u = true) (hna : isArrT u = false) (ha : u.isAgg = true) {l : List (Nat × AVal)} {vl : Array (Nat × Value)} {cs : List ACell} (e : fillParts u (zcells u) l = some cs)
    (hn : l.length = vl.size) (hv : ∀ (k i : Nat) (a : AVal), l[k]? = some (i, a) → ∃ v, vl[k]? = some (i, v) ∧ VRel h S w m a v) : QOk P h S w m B M0 d (.ag cs) [] (Instr.build t vl) := by
  obtain ⟨z, hz, hzz⟩ := run_zero_ty ht w
  obtain ⟨dd, hd, ho⟩ := tyOk_desc ht
  have hdd : ∃ fs, dd = .struct fs ∧ fieldsOk P fs.toList u 0 = true := by
    cases u <;> (try cases ha) <;> cases dd <;> (try cases ho) <;> (simp only [descOk, Bool.and_eq_true, hna] at ho; first | exact ⟨_, rfl, ho.2.2⟩ | cases ho.2.1)
  obtain ⟨fs, rfl, hfs⟩ := hdd
  obtain ⟨p, hp, hzr, _⟩ := isZ_spec (S := S) (w := w) (h := h) (m := m) u _ _ hzz
  rw [List.append_nil] at hp
  rw [← hp] at hzr
  have hzl : (zcells u).length = u.size := by
    have := hzr.1
    obtain ⟨i, z', hi, hs, hz', hc⟩ := tyOk_info ht
    obtain ⟨p', hp', hzr', hrep, _⟩ := isZ_spec (S := S) (w := w) (h := h) (m := m) u _ _ hzz
    rw [List.append_nil] at hp'
    have h2 := hrep.len
    rw [← hp'] at h2
    omega
  have hplaces : (fs.mapM fun f => (do pure (f.offset, ← sizeOf f.type) : Sem (Nat × Nat))).run P w = .ok (fs.map fun f => (f.offset, ((P.info? f.type).map (·.size)).getD 0)) w := by
    rw [Array.mapM_eq_mapM_toList]
    simp only [Sem.run_map]
    rw [run_mapM_list (g := fun f => (f.offset, ((P.info? f.type).map (·.size)).getD 0)) fs.toList (fun f hf => by
      obtain ⟨i, hi⟩ := fields_all hfs f hf
      simp [sizeOf, typeInfo, hi])]
    simp only [Result.andThen_ok]
    congr 1
    apply Array.ext'
    simp
  obtain ⟨arr', h1, h2, h3⟩ := fill_rel M (u := u) (place := fun i => (fs.map fun f => (f.offset, ((P.info? f.type).map (·.size)).getD 0))[i]?) (fun i q hq => by
      obtain ⟨f, k1, k2, ⟨i', k3, k4, _⟩, _⟩ := field_ok hfs hq
      have k1' : fs[i]? = some f := by simpa using k1
      simp [k1', k2, k3, k4]) l vl.toList (zcells u) cs z.cells e hzr hzl (by simpa using hn) (fun k i a hk => by
      obtain ⟨v, h1, h2⟩ := hv k i a hk
      exact ⟨v, by simpa using h1, h2⟩)
  refine QOk.same M d (v' := .agg arr') ?_ ⟨arr', rfl, h2⟩
  simp only [Instr.build, Sem.run_bind, hz, Result.andThen_ok, run_underlying hd, hplaces, h1, Sem.run_pure]

/-- plain cells own what they need -/
theorem gather_own [Tabs] {get : HGet} : ∀ {t : Ty} {cs : List ACell} {vs : List Value} {x : t.den}, plainIn cs = true → gatherG get t cs = some x → CellsRel h S w m cs vs → cs.length = t.size → Own w t vs x (fun _ => False)
  | .unit, cs, vs, x, _, _, r, hl => by
    have : vs = [] := List.eq_nil_of_length_eq_zero (by rw [← r.1, hl]; rfl)
    exact ⟨this, fun _ h => h⟩
  | .pair a b, cs, vs, x, hp, e, r, hl => by
    simp only [gatherG, Option.bind_eq_some_iff, Option.some.injEq] at e
    obtain ⟨y, e1, z, e2, rfl⟩ := e
    have hl' : cs.length = a.size + b.size := hl
    have hpp := plain_parts (cs.take a.size) (cs.drop a.size) (by rw [List.take_append_drop]; exact hp)
    exact ⟨vs.take a.size, vs.drop a.size, _, _, by simp, gather_own hpp.1 e1 (r.take a.size) (by simp; omega), gather_own hpp.2 e2 (r.drop a.size) (by simp; omega), fun _ h => h.elim, fun _ => by simp⟩
  | .bool, [c], vs, x, hp, e, r, _ => by
    obtain ⟨v, us, rfl, hr, _, hu⟩ := r.uncons
    have : us = [] := List.eq_nil_of_length_eq_zero hu.1.symm
    subst this
    rcases plainIn_mem hp c (by simp) with rfl | ⟨u, z, rfl, hs⟩
    · cases e
    · obtain ⟨rfl, rfl⟩ := cast?_some (e : cast? .bool z = some x)
      exact ⟨hr.2, fun _ h => h⟩
  | .int k, [c], vs, x, hp, e, r, _ => by
    obtain ⟨v, us, rfl, hr, _, hu⟩ := r.uncons
    have : us = [] := List.eq_nil_of_length_eq_zero hu.1.symm
    subst this
    rcases plainIn_mem hp c (by simp) with rfl | ⟨u, z, rfl, hs⟩
    · cases e
    · obtain ⟨rfl, rfl⟩ := cast?_some (e : cast? (.int k) z = some x)
      exact ⟨hr.2, fun _ h => h⟩
  | .str, [c], vs, x, hp, e, r, _ => by
    obtain ⟨v, us, rfl, hr, _, hu⟩ := r.uncons
    have : us = [] := List.eq_nil_of_length_eq_zero hu.1.symm
    subst this
    rcases plainIn_mem hp c (by simp) with rfl | ⟨u, z, rfl, hs⟩
    · cases e
    · obtain ⟨rfl, rfl⟩ := cast?_some (e : cast? .str z = some x)
      exact ⟨hr.2, fun _ h => h⟩
  | .slice t, [c], vs, x, hp, e, r, _ => by
    obtain ⟨v, us, rfl, hr, _, hu⟩ := r.uncons
    have : us = [] := List.eq_nil_of_length_eq_zero hu.1.symm
    subst this
    rcases plainIn_mem hp c (by simp) with rfl | ⟨u, z, rfl, hs⟩
    · simp only [gatherG, cellToG, Option.some.injEq] at e
      subst e
      obtain ⟨o, rfl⟩ : ∃ o : Option Addr, v = .slice o 0 0 := hr
      exact ⟨_, rfl, .inl ⟨⟨_, rfl⟩, rfl, fun _ h => h⟩⟩
    · obtain ⟨rfl, rfl⟩ := cast?_some (e : cast? (.slice t) z = some x)
      exact absurd rfl (hs t)
  where
  plain_parts : ∀ (a b : List ACell), plainIn (a ++ b) = true → plainIn a = true ∧ plainIn b = true
  | [], b, h => ⟨rfl, h⟩
  | c :: a, b, h => by
    cases c with
    | nils => exact plain_parts a b h
    | pv t x =>
      cases t with
      | slice u => cases h
      | _ => exact plain_parts a b h
    | _ => cases h

theorem plain_append {a b : List ACell} (h : plainIn (a ++ b) = true) : plainIn a = true ∧ plainIn b = true := gather_own.plain_parts a b h

theorem seg_mid {α : Type} (A V D : List α) : ((A ++ V ++ D).take (A.length + V.length)).drop A.length = V := by
  rw [List.take_left' (by simp), List.drop_left]

/-- the elements of a new slice, one behind the other -/
theorem fill_elems [Tabs] (M : Mem h S w m B M0) (hg : ∀ id o, get id = some o → h id ≠ none → h id = some o) {t : Ty} (dp : Bool) : ∀ (l : List (Nat × AVal)) (vl : List (Nat × Value)) (n : Nat) (xs : List t.den) (arr : Array Value),
    elemsOf get t l n = some xs → (n + l.length) * t.size ≤ arr.size → l.length = vl.length → (∀ (k i : Nat) (a : AVal), l[k]? = some (i, a) → ∃ v, vl[k]? = some (i, v) ∧ VRel h S w m a v) →
    idsOf (l.flatMap fun p => p.2.cells) = [] → (dp = true → plainIn (l.flatMap fun p => p.2.cells) = true) →
    ∃ arr', Instr.fill (fun i => some (i * t.size, t.size)) arr vl = some arr' ∧ arr'.size = arr.size ∧ arr'.toList.take (n * t.size) = arr.toList.take (n * t.size) ∧ xs.length = l.length ∧
      ∀ (k : Nat) (x : t.den), xs[k]? = some x → El S w dp t ((arr'.toList.drop ((n + k) * t.size)).take t.size) x (fun _ => False)
  | [], vl, n, xs, arr, e, hl, hn, _, _, _ => by
    cases vl with
    | cons _ _ => cases hn
    | nil =>
      simp only [elemsOf, Option.some.injEq] at e
      subst e
      exact ⟨arr, rfl, rfl, rfl, rfl, fun k x hk => by simp at hk⟩
  | (i, a) :: l, vl, n, xs, arr, e, hl, hn, hv, hids, hdp => by
    cases vl with
    | nil => cases hn
    | cons p vl =>
      obtain ⟨v, hv0, hr⟩ := hv 0 i a rfl
      simp only [List.getElem?_cons_zero, Option.some.injEq] at hv0
      subst hv0
      simp only [elemsOf] at e
      cases hb : (Nat.beq i n && a.solid && Nat.beq a.cells.length t.size) with
      | false => rw [hb] at e; cases e
      | true =>
        rw [hb] at e
        simp only [cond_true, Option.bind_eq_some_iff, Option.some.injEq] at e
        obtain ⟨x, e1, ys, e2, rfl⟩ := e
        simp only [Bool.and_eq_true] at hb
        obtain ⟨⟨hin, hs⟩, hsz⟩ := hb
        have hin := Nat.eq_of_beq_eq_true hin
        subst hin
        have hsz := Nat.eq_of_beq_eq_true hsz
        have hc := hr.cells hs M
        simp only [List.flatMap_cons, idsOf_append, List.append_eq_nil_iff] at hids
        have hvs : v.cells.size = t.size := by have := hc.1; simp at this; omega
        simp only [List.length_cons] at hl
        have hmul : (i + (l.length + 1)) * t.size = i * t.size + t.size + l.length * t.size := by rw [Nat.add_mul, Nat.add_mul, Nat.one_mul]; omega
        have hle : i * t.size + t.size ≤ arr.size := by rw [hmul] at hl; omega
        have hstep := fill_step v.cells arr (i * t.size) (by omega)
        obtain ⟨arr2, harr2⟩ : ∃ a2, v.cells.zipIdx.foldl (fun cs (c, j) => cs.setIfInBounds (i * t.size + j) c) arr = a2 := ⟨_, rfl⟩
        rw [harr2] at hstep
        have hsize : arr2.size = arr.size := by
          rw [← Array.length_toList, hstep]; simp; omega
        obtain ⟨arr', h1, h2, h3, h4, h5⟩ := fill_elems M hg dp l vl (i + 1) ys arr2 e2
          (by rw [hsize, show i + 1 + l.length = i + (l.length + 1) by omega]; exact hl) (by simpa using hn) (fun k i a hk => by
            have := hv (k + 1) i a (by simpa using hk)
            simpa using this) hids.2 (fun e => (plain_append (by simpa using hdp e)).2)
        have hseg : (arr'.toList.drop (i * t.size)).take t.size = v.cells.toList := by
          have e3 : (arr'.toList.take ((i + 1) * t.size)).drop (i * t.size) = v.cells.toList := by
            rw [h3, hstep, Nat.add_mul, Nat.one_mul]
            have la : (arr.toList.take (i * t.size)).length = i * t.size := by simp; omega
            have lv : v.cells.toList.length = t.size := by simpa using hvs
            have := seg_mid (arr.toList.take (i * t.size)) v.cells.toList (arr.toList.drop (i * t.size + v.cells.size))
            rw [la, lv] at this
            exact this
          rw [← e3, List.drop_take]
          congr 1
          rw [Nat.add_mul, Nat.one_mul]; omega
        refine ⟨arr', ?_, by rw [h2, hsize], ?_, by simp [h4], fun k x' hk => ?_⟩
        · unfold Instr.fill
          simp only [hvs]
          have : ¬ (i * t.size + t.size > arr.size) := by omega
          simp only [ne_eq, not_true_eq_false, decide_false, Bool.false_or, decide_eq_true_eq, this, if_false, harr2]
          exact h1
        · have e3 : (arr'.toList.take ((i + 1) * t.size)).take (i * t.size) = arr.toList.take (i * t.size) := by
            rw [h3, hstep, Nat.add_mul, Nat.one_mul, List.take_take, Nat.min_eq_left (by omega), List.append_assoc, List.take_append_of_le_length (by simp; omega), List.take_take, Nat.min_self]
          rw [← e3, List.take_take, Nat.min_eq_left (by rw [Nat.add_mul]; omega)]
        · cases k with
          | zero =>
            simp only [List.getElem?_cons_zero, Option.some.injEq] at hk
            subst hk
            rw [Nat.add_zero, hseg]
            cases dp with
            | true => exact gather_own (plain_append (by simpa using hdp rfl)).1 e1 hc (by simpa using hsz)
            | false =>
              have hrep := gather_rep M hg e1 hc hsz
              rw [hids.1] at hrep
              exact ⟨hrep.mono (fun q hq => hq.elim id fun ⟨_, hi, _⟩ => by cases hi) (fun _ _ => rfl) (Nat.le_refl _), fun _ h => h⟩
          | succ k =>
            have := h5 k x' (by simpa using hk)
            rw [show i + (k + 1) = i + 1 + k by omega]
            exact this

theorem q_buildSlice [Tabs] (M : Mem h S w m B M0) (hB : B ≤ w.heap.size) (hg : ∀ id o, get id = some o → h id ≠ none → h id = some o) {d : Nat} (hfr : ∀ id, d * 16 ≤ id → id ≤ d * 16 + 15 → h id = none) {t : TypeId} {u : Ty} (ht : tyOk P t (.slice u) = true)
    {l : List (Nat × AVal)} {vl : Array (Nat × Value)} {xs : List u.den} {n : Nat} (e : elemsOf get u l 0 = some xs) (hn : l.length = n) (hvl : l.length = vl.size) (hsz : n * u.size ≤ 16777216)
    (hv : ∀ (k i : Nat) (a : AVal), l[k]? = some (i, a) → ∃ v, vl[k]? = some (i, v) ∧ VRel h S w m a v) (hids : idsOf (l.flatMap fun p => p.2.cells) = []) :
    QOk P h S w m B M0 d (.one (.os (d * 16))) [(d * 16, .arr (plainIn (l.flatMap fun p => p.2.cells)) u xs)] (Instr.buildSlice t n vl) := by
  obtain ⟨te, i, z, hu, hi, hs, hpos, hz, hzz, hby⟩ := slice_ty ht
  have hzs : z.cells.size = u.size := by
    obtain ⟨p', hp', _, hrep, _⟩ := isZ_spec (S := S) (w := w) (h := h) (m := m) u _ _ hzz
    rw [List.append_nil] at hp'
    have := hrep.len
    rw [← hp'] at this
    simpa using this
  obtain ⟨zr, hzr0, hzr1⟩ : ∃ zr : Array Value, (n * u.size = 0 → zr = #[]) ∧ (¬ n * u.size = 0 → zr = z.cells) := by
    by_cases hn0 : n * u.size = 0
    · exact ⟨#[], fun _ => rfl, fun e => absurd hn0 e⟩
    · exact ⟨z.cells, fun e => absurd e hn0, fun _ => rfl⟩
  obtain ⟨arr0, harr⟩ : ∃ arr0 : Array Value, (Array.range (n * u.size)).map (zr[· % zr.size]!) = arr0 := ⟨_, rfl⟩
  have harr0 : arr0.size = n * u.size := by rw [← harr]; simp
  obtain ⟨arr', h1, h2, h3, h4, h5⟩ := fill_elems M hg (plainIn (l.flatMap fun p => p.2.cells)) l vl.toList 0 xs arr0 e (by rw [harr0, Nat.zero_add, hn]; exact Nat.le_refl _) (by simpa using hvl) (fun k i a hk => by
    obtain ⟨v, h1, h2⟩ := hv k i a hk
    exact ⟨v, by simpa using h1, h2⟩) hids (fun e => e)
  have hnl : n ≤ 16777216 := Nat.le_trans (Nat.le_mul_of_pos_right n hpos) hsz
  refine ⟨.slice (some ⟨w.heap.size, 0, none⟩) n n, w.alloc (.cells arr' te), S, fun i => if i = d * 16 then some ⟨.slice (some ⟨w.heap.size, 0, none⟩) n n, fun q => q = w.heap.size, u⟩ else m i, ?_, ?_⟩
  · have hsm : ¬ (n * u.size > 2 ^ 24) := by omega
    simp only [Instr.buildSlice, Sem.run_bind, run_underlying hu, Result.andThen_ok, sizeOf, typeInfo, run_program, hi, Sem.run_pure, hs]
    rw [if_neg hsm]
    by_cases hn0 : n * u.size = 0
    · rw [if_pos hn0]
      rw [hzr0 hn0] at harr
      simp only [Sem.run_bind, Sem.run_pure, Result.andThen_ok, harr, h1]
      rfl
    · rw [if_neg hn0]
      rw [hzr1 hn0] at harr
      simp only [Sem.run_bind, zeroValue, typeInfo, run_program, hi, hz, Sem.run_pure, Result.andThen_ok, harr, h1]
      rfl
  · refine QPost.newObj M hB hfr (.arr (plainIn (l.flatMap fun p => p.2.cells)) u xs) arr' te ⟨.slice (some ⟨w.heap.size, 0, none⟩) n n, fun q => q = w.heap.size, u⟩ (fun q hq => hq) (fun W => ⟨rfl, .inr ?_⟩) (v' := .slice (some ⟨w.heap.size, 0, none⟩) n n) ?_
    · refine ⟨w.heap.size, n, arr', te, fun _ _ => False, by rw [h4, hn], heap_alloc_new w _, by rw [h2, harr0], by omega, by unfold maxLen; omega, fun k x hk => ?_, fun _ _ _ _ _ h => h.elim, fun _ _ h => h, fun b => by simp⟩
      have := h5 k x hk
      rw [Nat.zero_add] at this
      exact this.mono W.sub W.stay (fun _ h => h.elim) W.size
    · exact ⟨⟨plainIn (l.flatMap fun p => p.2.cells), u, xs, by simp [hplus, get_one]⟩, ⟨.slice (some ⟨w.heap.size, 0, none⟩) n n, fun q => q = w.heap.size, u⟩, by simp, rfl⟩

/-- a slice that is never written is memory that stays -/
theorem q_roSlice [Tabs] (M : Mem h S w m B M0) (hB : B ≤ w.heap.size) (hg : ∀ id o, get id = some o → h id ≠ none → h id = some o) {d : Nat} {t : TypeId} {u : Ty} (ht : tyOk P t (.slice u) = true)
    {l : List (Nat × AVal)} {vl : Array (Nat × Value)} {xs : List u.den} {n : Nat} (e : elemsOf get u l 0 = some xs) (hn : l.length = n) (hvl : l.length = vl.size) (hsz : n * u.size ≤ 16777216)
    (hv : ∀ (k i : Nat) (a : AVal), l[k]? = some (i, a) → ∃ v, vl[k]? = some (i, v) ∧ VRel h S w m a v) (hids : idsOf (l.flatMap fun p => p.2.cells) = []) :
    QOk P h S w m B M0 d (.one (.pv (.slice u) xs)) [] (Instr.buildSlice t n vl) := by
  obtain ⟨te, i, z, hu, hi, hs, hpos, hz, hzz, hby⟩ := slice_ty ht
  have hzs : z.cells.size = u.size := by
    obtain ⟨p', hp', _, hrep, _⟩ := isZ_spec (S := S) (w := w) (h := h) (m := m) u _ _ hzz
    rw [List.append_nil] at hp'
    have := hrep.len
    rw [← hp'] at this
    simpa using this
  obtain ⟨zr, hzr0, hzr1⟩ : ∃ zr : Array Value, (n * u.size = 0 → zr = #[]) ∧ (¬ n * u.size = 0 → zr = z.cells) := by
    by_cases hn0 : n * u.size = 0
    · exact ⟨#[], fun _ => rfl, fun e => absurd hn0 e⟩
    · exact ⟨z.cells, fun e => absurd e hn0, fun _ => rfl⟩
  obtain ⟨arr0, harr⟩ : ∃ arr0 : Array Value, (Array.range (n * u.size)).map (zr[· % zr.size]!) = arr0 := ⟨_, rfl⟩
  have harr0 : arr0.size = n * u.size := by rw [← harr]; simp
  obtain ⟨arr', h1, h2, h3, h4, h5⟩ := fill_elems M hg (plainIn (l.flatMap fun p => p.2.cells)) l vl.toList 0 xs arr0 e (by rw [harr0, Nat.zero_add, hn]; exact Nat.le_refl _) (by simpa using hvl) (fun k i a hk => by
    obtain ⟨v, h1, h2⟩ := hv k i a hk
    exact ⟨v, by simpa using h1, h2⟩) hids (fun e => e)
  have hnl : n ≤ 16777216 := Nat.le_trans (Nat.le_mul_of_pos_right n hpos) hsz
  have W : Wider h h S (fun q => S q ∨ q = w.heap.size) w (w.alloc (.cells arr' te)) m m :=
    ⟨fun _ _ e => e, fun _ _ => rfl, fun _ e => .inl e, by simp, fun q hq => (Grow.alloc w _ _).block q (M.lt q hq), fun id c' e hc q hq => (Grow.alloc w _ _).block q (M.apart id c' e hc q hq).2.1⟩
  refine ⟨.slice (some ⟨w.heap.size, 0, none⟩) n n, w.alloc (.cells arr' te), fun q => S q ∨ q = w.heap.size, m, ?_, Grow.alloc w _ _, ?_, by rw [hplus_nil]; exact W, ?_, ?_, fun id hid => by simp [AHeap.get] at hid⟩
  · have hsm : ¬ (n * u.size > 2 ^ 24) := by omega
    simp only [Instr.buildSlice, Sem.run_bind, run_underlying hu, Result.andThen_ok, sizeOf, typeInfo, run_program, hi, Sem.run_pure, hs]
    rw [if_neg hsm]
    by_cases hn0 : n * u.size = 0
    · rw [if_pos hn0]
      rw [hzr0 hn0] at harr
      simp only [Sem.run_bind, Sem.run_pure, Result.andThen_ok, harr, h1]
      rfl
    · rw [if_neg hn0]
      rw [hzr1 hn0] at harr
      simp only [Sem.run_bind, zeroValue, typeInfo, run_program, hi, hz, Sem.run_pure, Result.andThen_ok, harr, h1]
      rfl
  · rw [hplus_nil]
    refine ⟨fun id o e => ?_, fun i j c d hij hi hj hc hd q hq hq' => M.dis i j c d hij hi hj hc hd q hq hq', fun i c hi hc q hq => ?_, fun q hq => ?_⟩
    · obtain ⟨c, h1, h2⟩ := M.obj id o e
      exact ⟨c, h1, h2.wider W M fun q hq => W.own id c (heap_ne e) h1 q hq⟩
    · have := M.apart i c hi hc q hq
      refine ⟨fun hs => ?_, by simp; omega, this.2.2⟩
      rcases hs with hs | hs
      · exact this.1 hs
      · omega
    · rcases hq with hq | hq
      · have := M.lt q hq; simp; omega
      · subst hq; simp
  · intro q hq
    rcases hq with hq | hq
    · exact .inl hq
    · subst hq; exact .inr ⟨Nat.le_refl _, by simp⟩
  · rw [hplus_nil]
    have hA : ArrRel S (w.alloc (.cells arr' te)) (plainIn (l.flatMap fun p => p.2.cells)) u (.slice (some ⟨w.heap.size, 0, none⟩) n n) xs (fun q => q = w.heap.size) := by
      refine .inr ⟨w.heap.size, n, arr', te, fun _ _ => False, by rw [h4, hn], heap_alloc_new w _, by rw [h2, harr0], by omega, by unfold maxLen; omega, fun k x hk => ?_, fun _ _ _ _ _ h => h.elim, fun _ _ h => h, fun b => by simp⟩
      have := h5 k x hk
      rw [Nat.zero_add] at this
      exact this.mono (fun _ h => h) W.stay (fun _ h => h.elim) W.size
    exact ⟨rfl, ArrRel.rep hA (fun q hq => .inl hq) fun q hq => .inr hq⟩

theorem made_seg (z : Array Value) (c i sz : Nat) (hz : z.size = sz) (hi : i < c) : ((madeCells z (c * sz)).toList.drop (i * sz)).take sz = z.toList := by
  apply List.ext_getElem?
  intro j
  rw [List.getElem?_take]
  by_cases hj : j < sz
  · have h1 : i * sz + j < c * sz := by
      have : (i + 1) * sz ≤ c * sz := Nat.mul_le_mul_right _ (by omega)
      rw [Nat.add_mul, Nat.one_mul] at this
      omega
    have h2 : (i * sz + j) % z.size = j := by rw [hz, Nat.mul_comm, Nat.mul_add_mod]; exact Nat.mod_eq_of_lt hj
    have h3 : j < z.size := by omega
    rw [if_pos hj, List.getElem?_drop]
    simp [madeCells, h1, h2, h3]
  · rw [if_neg hj, List.getElem?_eq_none (by simp; omega)]

theorem q_makeSlice [Tabs] (M : Mem h S w m B M0) (hB : B ≤ w.heap.size) {d : Nat} (hfr : ∀ id, d * 16 ≤ id → id ≤ d * 16 + 15 → h id = none) {t : TypeId} {u : Ty} (ht : tyOk P t (.slice u) = true) {n c : Int} (h0 : 0 ≤ n) (h1 : n ≤ c) (h2 : c ≤ lim) :
    QOk P h S w m B M0 d (.one (.os (d * 16))) [(d * 16, .arr true u (List.replicate n.toNat u.zero))] (Instr.makeSlice t (.int .i64 n) (.int .i64 c)) := by
  obtain ⟨te, i, z, hu, hi, hs, hpos, hz, hzz, hby⟩ := slice_ty ht
  obtain ⟨p', hp', _, hrep, hown⟩ := isZ_spec (S := S) (w := w) (h := h) (m := m) u _ _ hzz
  rw [List.append_nil] at hp'
  rw [← hp'] at hown hrep
  have hzs : z.cells.size = u.size := by simpa using hrep.len
  have hl : (lim : Int) = 4294967296 := rfl
  rw [hl] at h2
  have hb : (i.bytes : Int) * c ≤ 281474976710656 := by
    have : (i.bytes : Int) * c ≤ 32768 * 4294967296 := Int.mul_le_mul (by omega) h2 (by omega) (by omega)
    omega
  have hr := run_make (P := P) w t te i z hu hi hz .i64 .i64 n c h0 h1 hb (by omega)
  rw [hs] at hr
  refine ⟨_, _, S, fun i => if i = d * 16 then some ⟨.slice (some ⟨w.heap.size, 0, none⟩) n.toNat c.toNat, fun q => q = w.heap.size, u⟩ else m i, hr, ?_⟩
  refine QPost.newObj M hB hfr (.arr true u (List.replicate n.toNat u.zero)) (madeCells z.cells (c.toNat * u.size)) te ⟨.slice (some ⟨w.heap.size, 0, none⟩) n.toNat c.toNat, fun q => q = w.heap.size, u⟩ (fun q hq => hq) (fun W => ⟨rfl, .inr ?_⟩) (v' := .slice (some ⟨w.heap.size, 0, none⟩) n.toNat c.toNat) ?_
  · refine ⟨w.heap.size, c.toNat, _, te, fun _ _ => False, by simp, heap_alloc_new w _, by simp [madeCells], by simp; omega, by unfold maxLen; omega, fun k x hk => ?_, fun _ _ _ _ _ h => h.elim, fun _ _ h => h, fun b => by simp⟩
    have hk' := (List.getElem?_eq_some_iff.1 hk)
    obtain ⟨hlt, hx⟩ := hk'
    simp at hlt hx
    subst hx
    rw [made_seg z.cells c.toNat k u.size hzs (by omega)]
    exact Own.mono (fun _ h => h.elim) hown
  · exact ⟨⟨true, u, List.replicate n.toNat u.zero, by simp [hplus, get_one]⟩, ⟨.slice (some ⟨w.heap.size, 0, none⟩) n.toNat c.toNat, fun q => q = w.heap.size, u⟩, by simp, rfl⟩
end
end Go.Ab
