/-
  What becomes of a state when a name is forgotten, when a slice of ours is given up, when an object turns.
-/
import Derived.Test.YtffmiefhnbkcbaaGreatXOps
namespace Go.Ab
open Go Go.RowKit
section
variable {P : Program} {E : Env} {h : HGet} {S : Blk} {w w0 : World} {m : OMap} {B : Nat} {M0 : Blk}
theorem get_mapK (g : Nat → AObj → AObj) : ∀ (h : AHeap) (i : Nat), AHeap.get (h.map fun p => (p.1, g p.1 p.2)) i = (AHeap.get h i).map (g i)
  | [], _ => rfl
  | (j, o) :: r, i => by
    simp only [List.map_cons, AHeap.get]
    cases hb : Nat.beq j i with
    | true => simp [Nat.eq_of_beq_eq_true hb]
    | false => simpa using get_mapK g r i
theorem get_del : ∀ (h : AHeap) (id i : Nat), AHeap.get (AHeap.del h id) i = if i = id then none else AHeap.get h i
  | [], _, _ => by simp [AHeap.del, AHeap.get]
  | (j, o) :: r, id, i => by
    simp only [AHeap.del]
    cases hb : Nat.beq j id with
    | true =>
      have := Nat.eq_of_beq_eq_true hb
      subst this
      simp only [cond_true, AHeap.get]
      rw [get_del r j i]
      by_cases e : i = j
      · simp [e]
      · have : Nat.beq j i = false := by
          cases e' : Nat.beq j i with
          | false => rfl
          | true => exact absurd (Nat.eq_of_beq_eq_true e').symm e
        simp [e, this]
    | false =>
      simp only [cond_false, AHeap.get]
      cases hb' : Nat.beq j i with
      | true =>
        have := Nat.eq_of_beq_eq_true hb'
        subst this
        have : j ≠ id := fun e => by subst e; simp at hb
        simp [this]
      | false => simpa using get_del r id i
theorem beq_false {i j : Nat} (h : i ≠ j) : Nat.beq i j = false := by
  cases e : Nat.beq i j with
  | false => rfl
  | true => exact absurd (Nat.eq_of_beq_eq_true e) h
structure Carry (h h' : HGet) (S S' : Blk) (w w' : World) (m m' : OMap) (f : ACell → ACell) : Prop where
  cell : ∀ c v, CellRel h S w m c v → CellRel h' S' w' m' (f c) v
theorem CellsRel.carry {h' : HGet} {S' : Blk} {w' : World} {m' : OMap} {f : ACell → ACell} (F : Carry h h' S S' w w' m m' f) {cs : List ACell} {vs : List Value} (r : CellsRel h S w m cs vs) : CellsRel h' S' w' m' (cs.map f) vs :=
  ⟨by simpa using r.1, r.2.1, fun i c v hc hv => by
    rw [List.getElem?_map] at hc
    cases hci : cs[i]? with
    | none => rw [hci] at hc; cases hc
    | some c0 =>
      rw [hci] at hc
      simp only [Option.map_some, Option.some.injEq] at hc
      subst hc
      exact F.cell _ _ (r.2.2 i c0 v hci hv)⟩
def AVal.mapC (f : ACell → ACell) : AVal → AVal
  | .one c => .one (f c)
  | .ag cs => .ag (cs.map f)
  | .tu vs => .tu (vs.map fun p => (p.1, p.2.map f))
def AObj.mapC (f : ACell → ACell) : AObj → AObj
  | .box cs => .box (cs.map f)
  | o => o
theorem kill_mapC (id : Nat) (v : AVal) : v.kill id = v.mapC (ACell.kill id) := by cases v <;> rfl
theorem killO_mapC (id : Nat) (o : AObj) : o.kill id = o.mapC (ACell.kill id) := by cases o <;> rfl
theorem killSb_mapC (id : Nat) (v : AVal) : v.killSb id = v.mapC (ACell.killSb id) := by cases v <;> rfl
theorem killSbO_mapC (id : Nat) (o : AObj) : o.killSb id = o.mapC (ACell.killSb id) := by cases o <;> rfl
theorem frz_mapC (id : Nat) (t : Ty) (xs : List t.den) (v : AVal) : v.frz id t xs = v.mapC (ACell.frz id t xs) := by cases v <;> rfl
theorem frzO_mapC (id : Nat) (t : Ty) (xs : List t.den) (o : AObj) : o.frz id t xs = o.mapC (ACell.frz id t xs) := by cases o <;> rfl
theorem VRel.carry [Tabs] {h' : HGet} {S' : Blk} {w' : World} {m' : OMap} {f : ACell → ACell} (F : Carry h h' S S' w w' m m' f) {a : AVal} {v : Value} (r : VRel h S w m a v) : VRel h' S' w' m' (a.mapC f) v := by
  cases a with
  | one c => exact F.cell _ _ r
  | ag cs => obtain ⟨vs, e, r⟩ := r; exact ⟨vs, e, r.carry F⟩
  | tu l =>
    obtain ⟨vs, e, n, r⟩ := r
    refine ⟨vs, e, by simpa using n, fun i p u hp hu => ?_⟩
    rw [List.getElem?_map] at hp
    cases hpi : l[i]? with
    | none => rw [hpi] at hp; cases hp
    | some q =>
      rw [hpi] at hp
      simp only [Option.map_some, Option.some.injEq] at hp
      subst hp
      have := r i q u hpi hu
      obtain ⟨b, cs⟩ := q
      cases b with
      | true => obtain ⟨vs, e, k⟩ := this; exact ⟨vs, e, k.carry F⟩
      | false => obtain ⟨c, e, k⟩ := this; subst e; exact ⟨f c, rfl, F.cell _ _ k⟩
theorem tmps_carry [Tabs] {h' : HGet} {S' : Blk} {w' : World} {m' : OMap} {f : ACell → ACell} (F : Carry h h' S S' w w' m m' f) {ρ : List AVal} {tmps : Array Value}
    (ht : ∀ i, VRel h S w m (ρ.getD i (.one .und)) (tmps.getD i undef)) (hu : f .und = .und) : ∀ i, VRel h' S' w' m' ((ρ.map (AVal.mapC f)).getD i (.one .und)) (tmps.getD i undef) := by
  intro i
  have := (ht i).carry F
  rw [List.getD_eq_getElem?_getD] at this ⊢
  rw [List.getElem?_map]
  cases hi : ρ[i]? with
  | none => simp only [Option.map_none, Option.getD_none]; exact trivial
  | some v => rw [hi] at this; simpa using this
theorem kill_carry [Tabs] (id : Nat) {h' : HGet} (hh : ∀ j, j ≠ id → h' j = (h j).map (AObj.kill id)) : Carry h h' S S w w m m (ACell.kill id) := by
  refine ⟨fun c v r => ?_⟩
  cases c with
  | und => trivial
  | nils => exact r
  | pv t x => exact r
  | pc t x => exact r
  | os j =>
    by_cases e : j = id
    · subst e; simp [ACell.kill, CellRel]
    · simp only [ACell.kill, beq_false e, cond_false]
      obtain ⟨⟨d, t, xs, ho⟩, rest⟩ := r
      exact ⟨⟨d, t, xs, by rw [hh j e, ho]; rfl⟩, rest⟩
  | op j off =>
    by_cases e : j = id
    · subst e; simp [ACell.kill, CellRel]
    · simp only [ACell.kill, beq_false e, cond_false]
      obtain ⟨⟨cs, ho⟩, rest⟩ := r
      exact ⟨⟨_, by rw [hh j e, ho]; rfl⟩, rest⟩
  | oe j i off =>
    by_cases e : j = id
    · subst e; simp [ACell.kill, CellRel]
    · simp only [ACell.kill, beq_false e, cond_false]
      obtain ⟨⟨d, t, xs, ho, hi⟩, rest⟩ := r
      exact ⟨⟨d, t, xs, by rw [hh j e, ho]; rfl, hi⟩, rest⟩
  | sb j i off e' y =>
    by_cases e : j = id
    · subst e; simp [ACell.kill, CellRel]
    · simp only [ACell.kill, beq_false e, cond_false]
      obtain ⟨d, xs, ho, rest⟩ := r
      exact ⟨d, xs, by rw [hh j e, ho]; rfl, rest⟩
  | vw j k =>
    by_cases e : j = id
    · subst e; simp [ACell.kill, CellRel]
    · simp only [ACell.kill, beq_false e, cond_false]
      obtain ⟨o, ho, hnb, rest⟩ := r
      cases o with
      | box cs => cases hnb
      | arr d t xs => exact ⟨_, by rw [hh j e, ho]; rfl, rfl, rest⟩
      | src t k xs => exact ⟨_, by rw [hh j e, ho]; rfl, rfl, rest⟩
  | cl f caps => exact r
theorem ObjRel.carry [Tabs] {h' : HGet} {f : ACell → ACell} (F : Carry h h' S S w w m m f) {o : AObj} {c : OC} (r : ObjRel h S w m o c) : ObjRel h' S w m (o.mapC f) c := by
  cases o with
  | box cs => obtain ⟨b, cur, e, h1, h2, h3, h4⟩ := r; exact ⟨b, cur, e, h1, h2, h3.carry F, h4⟩
  | arr d t xs => exact r
  | src t k xs => exact r
theorem Mem.kill [Tabs] (M : Mem h S w m B M0) (id : Nat) {h' : HGet} (hh : ∀ j, h' j = if j = id then none else (h j).map (AObj.kill id)) : Mem h' S w m B M0 := by
  have F : Carry h h' S S w w m m (ACell.kill id) := kill_carry id fun j hj => by rw [hh j, if_neg hj]
  have hne : ∀ j, h' j ≠ none → h j ≠ none := fun j hj e => hj (by rw [hh j]; split <;> simp [e])
  refine ⟨fun j o e => ?_, fun i j c d hij hi hj => M.dis i j c d hij (hne i hi) (hne j hj), fun i c hi => M.apart i c (hne i hi), M.lt⟩
  rw [hh j] at e
  split at e
  · cases e
  · cases ho : h j with
    | none => rw [ho] at e; cases e
    | some o' =>
      rw [ho] at e
      simp only [Option.map_some, Option.some.injEq] at e
      subst e
      obtain ⟨c, h1, h2⟩ := M.obj j o' ho
      rw [killO_mapC]
      exact ⟨c, h1, h2.carry F⟩
theorem get_kill [Tabs] (s : AS) (id j : Nat) : (s.kill id).h.get j = if j = id then none else (s.h.get j).map (AObj.kill id) := by
  simp only [AS.kill]
  rw [get_mapK (fun _ o => o.kill id), get_del]
  split <;> rfl
theorem Rel.kill [Tabs] {s : AS} {a : Act} (R : Rel w0 B M0 S m s a w) (id : Nat) : Rel w0 B M0 S m (s.kill id) a w := by
  have F : Carry s.h.get (s.kill id).h.get S S w w m m (ACell.kill id) := kill_carry id fun j hj => by rw [get_kill, if_neg hj]
  refine ⟨R.mem.kill id (get_kill s id), R.frm, ?_, by simp [AS.kill, R.size], R.defers⟩
  have := tmps_carry F R.tmps rfl
  have e : (s.kill id).ρ = s.ρ.map (AVal.mapC (ACell.kill id)) := congrArg (fun f => s.ρ.map f) (funext (kill_mapC id))
  rw [e]; exact this
theorem Rel.kills [Tabs] {a : Act} : ∀ (l : List (Nat × AObj)) {s : AS}, Rel w0 B M0 S m s a w → Rel w0 B M0 S m (l.foldl (fun s p => s.kill p.1) s) a w
  | [], _, R => R
  | p :: l, _, R => Rel.kills l (R.kill p.1)
theorem Rel.killL [Tabs] {a : Act} : ∀ (l : List Nat) {s : AS}, Rel w0 B M0 S m s a w → Rel w0 B M0 S m (s.killL l) a w
  | [], _, R => R
  | id :: l, _, R => Rel.killL l (R.kill id)
theorem killL_ne [Tabs] : ∀ (l : List Nat) (s : AS) (j : Nat), (s.killL l).h.get j ≠ none → j ∉ l ∧ s.h.get j ≠ none
  | [], _, _, h => ⟨(fun h => by cases h), h⟩
  | id :: l, s, j, h => by
    obtain ⟨h1, h2⟩ := killL_ne l (s.kill id) j h
    rw [get_kill] at h2
    by_cases e : j = id
    · rw [if_pos e] at h2; exact absurd rfl h2
    · rw [if_neg e] at h2
      refine ⟨fun hm => (List.mem_cons.1 hm).elim e h1, fun e' => ?_⟩
      rw [e'] at h2
      exact h2 rfl
theorem killL_arr [Tabs] : ∀ (l : List Nat) (s : AS) (j : Nat) {d : Bool} {e : Ty} {xs : List e.den}, j ∉ l → s.h.get j = some (.arr d e xs) → (s.killL l).h.get j = some (.arr d e xs)
  | [], _, _, _, _, _, _, h => h
  | id :: l, s, j, d, e, xs, hm, h => killL_arr l (s.kill id) j (fun h => hm (List.mem_cons_of_mem _ h)) (by
      rw [get_kill, if_neg fun e => hm (by rw [e]; exact List.mem_cons_self), h]; rfl)
theorem killL_t : ∀ (l : List Nat) (s : AS), s.t ≤ (s.killL l).t
  | [], _ => Nat.le_refl _
  | id :: l, s => Nat.le_trans (Nat.le_succ _) (killL_t l (s.kill id))
theorem kills_none [Tabs] : ∀ (l : List (Nat × AObj)) (s : AS) (j : Nat), (s.h.get j = none ∨ j ∈ l.map (·.1)) → (l.foldl (fun s p => s.kill p.1) s).h.get j = none
  | [], s, j, hj => by simpa using hj
  | p :: l, s, j, hj => by
    refine kills_none l (s.kill p.1) j ?_
    rw [get_kill]
    rcases hj with hj | hj
    · left; split
      · rfl
      · rw [hj]; rfl
    · simp only [List.map_cons, List.mem_cons] at hj
      rcases hj with hj | hj
      · left; rw [if_pos hj]
      · exact .inr hj
theorem get_some_mem : ∀ {h : AHeap} {i : Nat} {o : AObj}, AHeap.get h i = some o → (i, o) ∈ h
  | [], _, _, e => by cases e
  | (j, x) :: r, i, o, e => by
    simp only [AHeap.get] at e
    cases hb : Nat.beq j i with
    | true =>
      rw [hb] at e
      simp only [cond_true, Option.some.injEq] at e
      subst e
      rw [Nat.eq_of_beq_eq_true hb]; simp
    | false => rw [hb] at e; exact List.mem_cons_of_mem _ (get_some_mem e)
theorem Rel.fresh [Tabs] {s : AS} {a : Act} (R : Rel w0 B M0 S m s a w) (d : Nat) : Rel w0 B M0 S m (s.fresh d) a w ∧ ∀ id, d * 16 ≤ id → id ≤ d * 16 + 15 → (s.fresh d).h.get id = none := by
  refine ⟨Rel.kills _ R, fun id h1 h2 => ?_⟩
  unfold AS.fresh
  apply kills_none
  cases hg : s.h.get id with
  | none => exact .inl rfl
  | some o =>
    right
    simp only [List.mem_map, List.mem_filter, Bool.and_eq_true]
    exact ⟨(id, o), ⟨get_some_mem hg, Nat.ble_eq_true_of_le h1, Nat.ble_eq_true_of_le h2⟩, rfl⟩
theorem kills_ne [Tabs] : ∀ (l : List (Nat × AObj)) (s : AS) (j : Nat), (l.foldl (fun s p => s.kill p.1) s).h.get j ≠ none → s.h.get j ≠ none
  | [], _, _, h => h
  | p :: l, s, j, h => by
    have := kills_ne l (s.kill p.1) j h
    rw [get_kill] at this
    split at this
    · exact absurd rfl this
    · intro e
      rw [e] at this
      exact this rfl
theorem fresh_ne [Tabs] (s : AS) (d j : Nat) (h : (s.fresh d).h.get j ≠ none) : s.h.get j ≠ none := kills_ne _ s j h
theorem frz_carry [Tabs] {id : Nat} {d : Bool} {t : Ty} {xs : List t.den} {c : OC} (M : Mem h S w m B M0) (ho : h id = some (.arr d t xs)) (hc : m id = some c) {h' : HGet} (hh : ∀ j, j ≠ id → h' j = (h j).map (AObj.frz id t xs)) :
    Carry h h' S (fun q => S q ∨ c.F q) w w m m (ACell.frz id t xs) := by
  have sub : ∀ q, S q → (S q ∨ c.F q) := fun _ hq => .inl hq
  refine ⟨fun x v r => ?_⟩
  cases x with
  | und => trivial
  | nils => exact r
  | pv t x => exact ⟨r.1, r.2.mono sub (fun _ _ => rfl) (Nat.le_refl _)⟩
  | pc t x => obtain ⟨b, o, ds, h1, h2, h3, h4, h5⟩ := r; exact ⟨b, o, ds, h1, .inl h2, h3, h4, h5.mono sub (fun _ _ => rfl) (Nat.le_refl _)⟩
  | os j =>
    by_cases e : j = id
    · subst e
      simp only [ACell.frz, Nat.beq_refl, cond_true]
      obtain ⟨_, c', hc', rfl⟩ := r
      obtain rfl : c = c' := Option.some.inj (hc.symm.trans hc')
      obtain ⟨c2, hc2, _, hr⟩ := M.obj j _ ho
      obtain rfl : c = c2 := Option.some.inj (hc.symm.trans hc2)
      exact ⟨rfl, ArrRel.rep hr sub fun q hq => .inr hq⟩
    · simp only [ACell.frz, beq_false e, cond_false]
      obtain ⟨⟨d, t, ys, ho⟩, rest⟩ := r
      exact ⟨⟨d, t, ys, by rw [hh j e, ho]; rfl⟩, rest⟩
  | op j off =>
    obtain ⟨⟨cs, ho'⟩, rest⟩ := r
    have e : j ≠ id := fun e => by subst e; rw [ho] at ho'; cases ho'
    exact ⟨⟨_, by rw [hh j e, ho']; rfl⟩, rest⟩
  | oe j i off =>
    by_cases e : j = id
    · subst e; simp [ACell.frz, CellRel]
    · simp only [ACell.frz, beq_false e, cond_false]
      obtain ⟨⟨d, t, xs, ho, hi⟩, rest⟩ := r
      exact ⟨⟨d, t, xs, by rw [hh j e, ho]; rfl, hi⟩, rest⟩
  | sb j i off e' y =>
    by_cases e : j = id
    · subst e; simp [ACell.frz, CellRel]
    · simp only [ACell.frz, beq_false e, cond_false]
      obtain ⟨d, xs, ho, rest⟩ := r
      exact ⟨d, xs, by rw [hh j e, ho]; rfl, rest⟩
  | vw j k =>
    by_cases e : j = id
    · subst e; simp [ACell.frz, CellRel]
    · simp only [ACell.frz, beq_false e, cond_false]
      obtain ⟨o, ho, hnb, rest⟩ := r
      cases o with
      | box cs => cases hnb
      | arr d t xs => exact ⟨_, by rw [hh j e, ho]; rfl, rfl, rest⟩
      | src t k xs => exact ⟨_, by rw [hh j e, ho]; rfl, rfl, rest⟩
  | cl f caps => obtain ⟨cs, e, k⟩ := r; exact ⟨cs, e, k.mono sub (fun _ _ => rfl) (Nat.le_refl _)⟩
theorem Rel.frz [Tabs] {s : AS} {a : Act} (R : Rel w0 B M0 S m s a w) (id : Nat) : ∃ S', (∀ q, S q → S' q) ∧ (∀ q, S' q → S q ∨ B ≤ q ∨ M0 q) ∧ Rel w0 B M0 S' m (s.frz id) a w ∧
    (∀ d t xs c, s.h.get id = some (.arr d t xs) → m id = some c → ∀ q, c.F q → S' q) ∧ (∀ j d t xs, j ≠ id → s.h.get j = some (.arr d t xs) → (s.frz id).h.get j = some (.arr d t xs)) := by
  unfold AS.frz
  split
  · rename_i d t xs ho
    obtain ⟨c, hc, he, hr⟩ := R.mem.obj id _ ho
    have hget : ∀ j, AHeap.get ((s.h.del id).map fun p => (p.1, p.2.frz id t xs)) j = if j = id then none else (s.h.get j).map (AObj.frz id t xs) := by
      intro j
      rw [get_mapK (fun _ o => o.frz id t xs), get_del]
      split <;> rfl
    have F := frz_carry (h' := AHeap.get ((s.h.del id).map fun p => (p.1, p.2.frz id t xs))) R.mem ho hc (fun j hj => by rw [hget j, if_neg hj])
    have hne : ∀ j, AHeap.get ((s.h.del id).map fun p => (p.1, p.2.frz id t xs)) j ≠ none → s.h.get j ≠ none ∧ j ≠ id := fun j hj => by
      rw [hget j] at hj
      split at hj
      · exact absurd rfl hj
      · rename_i e; exact ⟨fun e' => hj (by rw [e']; rfl), e⟩
    refine ⟨fun q => S q ∨ c.F q, fun _ hq => .inl hq, fun q hq => hq.imp (fun h => h) fun hq => (R.mem.apart id c (heap_ne ho) hc q hq).2.2, ⟨⟨fun j o e => ?_, fun i j c1 c2 hij hi hj => R.mem.dis i j c1 c2 hij (hne i hi).1 (hne j hj).1, fun i c1 hi hc1 q hq => ?_, fun q hq => ?_⟩, R.frm, ?_, by simp [R.size], R.defers⟩, fun d1 t1 xs1 c1 h1 h2 q hq => .inr (by rw [hc] at h2; cases h2; exact hq), fun j d1 t1 xs1 hj h1 => by rw [hget j, if_neg hj, h1]; rfl⟩
    · rw [hget j] at e
      split at e
      · cases e
      · cases hj : s.h.get j with
        | none => rw [hj] at e; cases e
        | some o' =>
          rw [hj] at e
          simp only [Option.map_some, Option.some.injEq] at e
          subst e
          obtain ⟨c1, h1, h2⟩ := R.mem.obj j o' hj
          refine ⟨c1, h1, ?_⟩
          rw [frzO_mapC]
          cases o' with
          | box cs => obtain ⟨b, cur, e, k1, k2, k3, k4⟩ := h2; exact ⟨b, cur, e, k1, k2, k3.carry F, k4⟩
          | arr d' t' ys => exact ⟨h2.1, h2.2.mono (fun _ hq => .inl hq) (fun _ _ => rfl) (fun _ _ => rfl) (Nat.le_refl _)⟩
          | src t' k ys => exact h2
    · have := R.mem.apart i c1 (hne i hi).1 hc1 q hq
      refine ⟨fun hs => ?_, this.2⟩
      rcases hs with hs | hs
      · exact this.1 hs
      · exact R.mem.dis i id c1 c (hne i hi).2 (hne i hi).1 (heap_ne ho) hc1 hc q hq hs
    · rcases hq with hq | hq
      · exact R.mem.lt q hq
      · exact (R.mem.apart id c (heap_ne ho) hc q hq).2.1
    · have := tmps_carry F R.tmps rfl
      have e : s.ρ.map (·.frz id t xs) = s.ρ.map (AVal.mapC (ACell.frz id t xs)) := congrArg (fun f => s.ρ.map f) (funext (frz_mapC id t xs))
      rw [e]; exact this
  · rename_i hno
    exact ⟨S, fun _ h => h, fun _ h => .inl h, R, fun d t xs c h1 => (hno d t xs h1).elim, fun j d t xs _ h1 => h1⟩
theorem Rel.frzAll_in [Tabs] {a : Act} : ∀ (l : List Nat) {S : Blk} {s : AS}, Rel w0 B M0 S m s a w → ∃ S', (∀ q, S q → S' q) ∧ (∀ q, S' q → S q ∨ B ≤ q ∨ M0 q) ∧ Rel w0 B M0 S' m (s.frzAll l) a w ∧
    (∀ id ∈ l, ∀ d t xs c, s.h.get id = some (.arr d t xs) → m id = some c → ∀ q, c.F q → S' q) ∧ (∀ j d t xs, j ∉ l → s.h.get j = some (.arr d t xs) → (s.frzAll l).h.get j = some (.arr d t xs))
  | [], S, _, R => ⟨S, fun _ h => h, fun _ h => .inl h, R, fun _ h => (nomatch h), fun _ _ _ _ _ h => h⟩
  | id :: l, S, s, R => by
    obtain ⟨S1, h1, n1, R1, i1, k1⟩ := R.frz id
    obtain ⟨S2, h2, n2, R2, i2, k2⟩ := Rel.frzAll_in l R1
    refine ⟨S2, fun q hq => h2 q (h1 q hq), fun q hq => (n2 q hq).elim (fun h => n1 q h) .inr, R2, fun j hj d t xs c e1 e2 q hq => ?_, fun j d t xs hj e1 => ?_⟩
    · by_cases e : j = id
      · subst e; exact h2 q (i1 d t xs c e1 e2 q hq)
      · exact i2 j ((List.mem_cons.1 hj).resolve_left e) d t xs c (k1 j d t xs e e1) e2 q hq
    · simp only [List.mem_cons, not_or] at hj
      exact k2 j d t xs hj.2 (k1 j d t xs hj.1 e1)
theorem Rel.frzAll [Tabs] {a : Act} (l : List Nat) {S : Blk} {s : AS} (R : Rel w0 B M0 S m s a w) : ∃ S', (∀ q, S q → S' q) ∧ (∀ q, S' q → S q ∨ B ≤ q ∨ M0 q) ∧ Rel w0 B M0 S' m (s.frzAll l) a w := by
  obtain ⟨S', h1, h2, h3, _⟩ := R.frzAll_in l
  exact ⟨S', h1, h2, h3⟩
theorem frz_none [Tabs] (s : AS) (id j : Nat) (hj : s.h.get j = none) : (s.frz id).h.get j = none := by
  unfold AS.frz
  split
  · rename_i d t xs ho
    rw [get_mapK (fun _ o => o.frz id t xs), get_del]
    split
    · rfl
    · rw [hj]; rfl
  · exact hj
theorem frzAll_none [Tabs] : ∀ (l : List Nat) (s : AS) (j : Nat), s.h.get j = none → (s.frzAll l).h.get j = none
  | [], _, _, hj => hj
  | id :: l, s, j, hj => frzAll_none l _ j (frz_none s id j hj)
theorem Rel.put [Tabs] {s : AS} {a : Act} (R : Rel w0 B M0 S m s a w) {v : AVal} {v' : Value} (r : VRel s.h.get S w m v v') (dst : Option Tmp) : Rel w0 B M0 S m (s.put dst v) (a.put dst v') w := by
  cases dst with
  | none => exact R
  | some d =>
    refine ⟨R.mem, R.frm, fun i => ?_, by simp [AS.put, Act.put, R.size], R.defers⟩
    have hi := R.tmps i
    simp only [AS.put, Act.put]
    rw [List.getD_eq_getElem?_getD] at hi ⊢
    rw [Array.getD_eq_getD_getElem?] at hi ⊢
    rw [List.getElem?_set, Array.getElem?_setIfInBounds]
    by_cases e : d = i
    · subst e
      rw [R.size]
      by_cases hl : d < s.ρ.length
      · simp [hl]; exact r
      · simp [hl]; trivial
    · simp only [e, if_false]
      exact hi
end
end Go.Ab
