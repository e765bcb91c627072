/-
  What becomes of a state when a name is forgotten, when a slice of ours is given up, when an object turns.
-/
import Derived.Test.YtkemmodgpafkmaaGreatDoorXOps
namespace Go.Ab
open Go Go.RowKit
section
variable {P : Program} {E : Env} {h : HGet} {S : Blk} {w w0 : World} {m : OMap} {B : Nat} {M0 : Blk}
theorem get_mapK (g : Nat → AObj → AObj) : ∀ (h : AHeap) (i : Nat), AHeap.get (h.map fun p => (p.1, g p.1 p.2)) i = (AHeap.get h i).map (g i)
  | [], _ => rfl
  | (j, o) :: r, i => by
    simp only [List.map_cons, AHeap.get]
    cases hb : Nat.beq j i with
    | true => simp [Nat.eq_of_beq_eq_true hb]
    | false => simpa using get_mapK g r i
theorem get_del : ∀ (h : AHeap) (id i : Nat), AHeap.get (AHeap.del h id) i = if i = id then none else AHeap.get h i
  | [], _, _ => by simp [AHeap.del, AHeap.get]
  | (j, o) :: r, id, i => by
    simp only [AHeap.del]
    cases hb : Nat.beq j id with
    | true =>
      have := Nat.eq_of_beq_eq_true hb
      subst this
      simp only [cond_true, AHeap.get]
      rw [get_del r j i]
      by_cases e : i = j
      · simp [e]
      · have : Nat.beq j i = false := by
          cases e' : Nat.beq j i with
          | false => rfl
          | true => exact absurd (Nat.eq_of_beq_eq_true e').symm e
        simp [e, this]
    | false =>
      simp only [cond_false, AHeap.get]
      cases hb' : Nat.beq j i with
      | true =>
        have := Nat.eq_of_beq_eq_true hb'
        subst this
        have : j ≠ id := fun e => by subst e; simp at hb
        simp [this]
      | false => simpa using get_del r id i
theorem beq_false {i j : Nat} (h : i ≠ j) : Nat.beq i j = false := by
  cases e : Nat.beq i j with
  | false => rfl
  | true => exact absurd (Nat.eq_of_beq_eq_true e) h
structure Carry (h h' : HGet) (S S' : Blk) (w w' : World) (m m' : OMap) (f : ACell → ACell) : Prop where
  cell : ∀ c v, CellRel h S w m c v → CellRel h' S' w' m' (f c) v
theorem CellsRel.carry {h' : HGet} {S' : Blk} {w' : World} {m' : OMap} {f : ACell → ACell} (F : Carry h h' S S' w w' m m' f) {cs : List ACell} {vs : List Value} (r : CellsRel h S w m cs vs) : CellsRel h' S' w' m' (cs.map f) vs :=
  ⟨by simpa using r.1, r.2.1, fun i c v hc hv => by
    rw [List.getElem?_map] at hc
    cases hci : cs[i]? with
    | none => rw [hci] at hc; cases hc
    | some c0 =>
      rw [hci] at hc
      simp only [Option.map_some, Option.some.injEq] at hc
      subst hc
      exact F.cell _ _ (r.2.2 i c0 v hci hv)⟩
def AVal.mapC (f : ACell → ACell) : AVal → AVal
  | .one c => .one (f c)
  | .ag cs => .ag (cs.map f)
  | .tu vs => .tu (vs.map fun p => (p.1, p.2.map f))
def AObj.mapC (f : ACell → ACell) : AObj → AObj
  | .box cs => .box (cs.map f)
  | o => o
theorem kill_mapC (id : Nat) (v : AVal) : v.kill id = v.mapC (ACell.kill id) := by cases v <;> rfl
theorem killO_mapC (id : Nat) (o : AObj) : o.kill id = o.mapC (ACell.kill id) := by cases o <;> rfl
theorem killSb_mapC (id : Nat) (v : AVal) : v.killSb id = v.mapC (ACell.killSb id) := by cases v <;> rfl
theorem killSbO_mapC (id : Nat) (o : AObj) : o.killSb id = o.mapC (ACell.killSb id) := by cases o <;> rfl
theorem frz_mapC (id : Nat) (t : Ty) (xs : List t.den) (v : AVal) : v.frz id t xs = v.mapC (ACell.frz id t xs) := by cases v <;> rfl
theorem frzO_mapC (id : Nat) (t : Ty) (xs : List t.den) (o : AObj) : o.frz id t xs = o.mapC (ACell.frz id t xs) := by cases o <;> rfl
theorem VRel.carry [Tabs] {h' : HGet} {S' : Blk} {w' : World} {m' : OMap} {f : ACell → ACell} (F : Carry h h' S S' w w' m m' f) {a : AVal} {v : Value} (r : VRel h S w m a v) : VRel h' S' w' m' (a.mapC f) v := by
  cases a with
  | one c => exact F.cell _ _ r
  | ag cs => obtain ⟨vs, e, r⟩ := r; exact ⟨vs, e, r.carry F⟩
  | tu l =>
    obtain ⟨vs, e, n, r⟩ := r
    refine ⟨vs, e, by simpa using n, fun i p u hp hu => ?_⟩
    rw [List.getElem?_map] at hp
    cases hpi : l[i]? with
    | none => rw [hpi] at hp; cases hp
    | some q =>
      rw [hpi] at hp
      simp only [Option.map_some, Option.some.injEq] at hp
      subst hp
      have := r i q u hpi hu
      obtain ⟨b, cs⟩ := q
      cases b with
      | true => obtain ⟨vs, e, k⟩ := this; exact ⟨vs, e, k.carry F⟩
      | false => obtain ⟨c, e, k⟩ := this; subst e; exact ⟨f c, rfl, F.cell _ _ k⟩
theorem tmps_carry [Tabs] {h' : HGet} {S' : Blk} {w' : World} {m' : OMap} {f : ACell → ACell} (F : Carry h h' S S' w w' m m' f) {ρ : List AVal} {tmps : Array Value}
    (ht : ∀ i, VRel h S w m (ρ.getD i (.one .und)) (tmps.getD i undef)) (hu : f .und = .und) : ∀ i, VRel h' S' w' m' ((ρ.map (AVal.mapC f)).getD i (.one .und)) (tmps.getD i undef) := by
  intro i
  have := (ht i).carry F
  rw [List.getD_eq_getElem?_getD] at this ⊢
  rw [List.getElem?_map]
  cases hi : ρ[i]? with
  | none => simp only [Option.map_none, Option.getD_none]; exact trivial
  | some v => rw [hi] at this; simpa using this
theorem kill_carry [Tabs] (id : Nat) {h' : HGet} (hh : ∀ j, j ≠ id → h' j = (h j).map (AObj.kill id)) : Carry h h' S S w w m m (ACell.kill id) := by
  refine ⟨fun c v r => ?_⟩
  cases c with
  | und => trivial
  | nils => exact r
  | pv t x => exact r
  | pc t x => exact r
  | os j =>
    by_cases e : j = id
    · subst e; simp [ACell.kill, CellRel]
    · simp only [ACell.kill, beq_false e, cond_false]
      obtain ⟨⟨d, t, xs, ho⟩, rest⟩ := r
      exact ⟨⟨d, t, xs, by rw [hh j e, ho]; rfl⟩, rest⟩
  | op j off =>
    by_cases e : j = id
    · subst e; simp [ACell.kill, CellRel]
    · simp only [ACell.kill, beq_false e, cond_false]
      obtain ⟨⟨cs, ho⟩, rest⟩ := r
      exact ⟨⟨_, by rw [hh j e, ho]; rfl⟩, rest⟩
  | oe j i off =>
    by_cases e : j = id
    · subst e; simp [ACell.kill, CellRel]
    · simp only [ACell.kill, beq_false e, cond_false]
      obtain ⟨⟨d, t, xs, ho, hi⟩, rest⟩ := r
      exact ⟨⟨d, t, xs, by rw [hh j e, ho]; rfl, hi⟩, rest⟩
  | sb j i off e' y =>
    by_cases e : j = id
    · subst e; simp [ACell.kill, CellRel]
    · simp only [ACell.kill, beq_false e, cond_false]
      obtain ⟨d, xs, ho, rest⟩ := r
      exact ⟨d, xs, by rw [hh j e, ho]; rfl, rest⟩
  | vw j k =>
    by_cases e : j = id
    · subst e; simp [ACell.kill, CellRel]
    · simp only [ACell.kill, beq_false e, cond_false]
      obtain ⟨o, ho, hnb, rest⟩ := r
      cases o with
      | box cs => cases hnb
      | arr d t xs => exact ⟨_, by rw [hh j e, ho]; rfl, rfl, rest⟩
      | src t k xs => exact ⟨_, by rw [hh j e, ho]; rfl, rfl, rest⟩
  | cl f caps => exact r
theorem ObjRel.carry [Tabs] {h' : HGet} {f : ACell → ACell} (F : Carry h h' S S w w m m f) {o : AObj} {c : OC} (r : ObjRel h S w m o c) : ObjRel h' S w m (o.mapC f) c := by
  cases o with
  | box cs => obtain ⟨b, cur, e, h1, h2, h3, h4⟩ := r; exact ⟨b, cur, e, h1, h2, h3.carry F, h4⟩
  | arr d t xs => exact r
  | src t k xs => exact r
theorem Mem.kill [Tabs] (M : Mem h S w m B M0) (id : Nat) {h' : HGet} (hh : ∀ j, h' j = if j = id then none else (h j).map (AObj.kill id)) : Mem h' S w m B M0 := by
  have F : Carry h h' S S w w m m (ACell.kill id) := kill_carry id fun j hj => by rw [hh j, if_neg hj]
  have hne : ∀ j, h' j ≠ none → h j ≠ none := fun j hj e => hj (by rw [hh j]; split <;> simp [e])
  refine ⟨fun j o e => ?_, fun i j c d hij hi hj => M.dis i j c d hij (hne i hi) (hne j hj), fun i c hi => M.apart i c (hne i hi), M.lt⟩
  rw [hh j] at e
  split at e
  · cases e
  · cases ho : h j with
    | none => rw [ho] at e; cases e
    | some o' =>
      rw [ho] at e
      simp only [Option.map_some, Option.some.injEq] at e
      subst e
      obtain ⟨c, h1, h2⟩ := M.obj j o' ho
      rw [killO_mapC]
      exact ⟨c, h1, h2.carry F⟩
theorem get_kill [Tabs] (s : AS) (id j : Nat) : (s.kill id).h.get j = if j = id then none else (s.h.get j).map (AObj.kill id) := by
  simp only [AS.kill]
  rw [get_mapK (fun _ o => o.kill id), get_del]
  split <;> rfl
theorem Rel.kill [Tabs] {s : AS} {a : Act} (R : Rel w0 B M0 S m s a w) (id : Nat) : Rel w0 B M0 S m (s.kill id) a w := by
  have F : Carry s.h.get (s.kill id).h.get S S w w m m (ACell.kill id) := kill_carry id fun j hj => by rw [get_kill, if_neg hj]
  refine ⟨R.mem.kill id (get_kill s id), R.frm, ?_, by simp [AS.kill, R.size], R.defers⟩
  have := tmps_carry F R.tmps rfl
  have e : (s.kill id).ρ = s.ρ.map (AVal.mapC (ACell.kill id)) := congrArg (fun f => s.ρ.map f) (funext (kill_mapC id))
  rw [e]; exact this
theorem Rel.kills [Tabs] {a : Act} : ∀ (l : List (Nat × AObj)) {s : AS}, Rel w0 B M0 S m s a w → Rel w0 B M0 S m (l.foldl (fun s p => s.kill p.1) s) a w
  | [], _, R => R
  | p :: l, _, R => Rel.kills l (R.kill p.1)
theorem Rel.killL [Tabs] {a : Act} : ∀ (l : List Nat) {s : AS}, Rel w0 B M0 S m s a w → Rel w0 B M0 S m (s.killL l) a w
  | [], _, R => R
  | id :: l, _, R => Rel.killL l (R.kill id)
theorem killL_ne [Tabs] : ∀ (l : List Nat) (s : AS) (j : Nat), (s.killL l).h.get j ≠ none → j ∉ l ∧ s.h.get j ≠ none
  | [], _, _, h => ⟨(fun h => by cases h), h⟩
  | id :: l, s, j, h => by
    obtain ⟨h1, h2⟩ := killL_ne l (s.kill id) j h
    rw [get_kill] at h2
    by_cases e : j = id
    · rw [if_pos e] at h2; exact absurd rfl h2
    · rw [if_neg e] at h2
      refine ⟨fun hm => (List.mem_cons.1 hm).elim e h1, fun e' => ?_⟩
      rw [e'] at h2
      exact h2 rfl
theorem killL_arr [Tabs] : ∀ (l : List Nat) (s : AS) (j : Nat) {d : Bool} {e : Ty} {xs : List e.den}, j ∉ l → s.h.get j = some (.arr d e xs) → (s.killL l).h.get j = some (.arr d e xs)
  | [], _, _, _, _, _, _, h => h
  | id :: l, s, j, d, e, xs, hm, h => killL_arr l (s.kill id) j (fun h => hm (List.mem_cons_of_mem _ h)) (by
      rw [get_kill, if_neg fun e => hm (by rw [e]; exact List.mem_cons_self), h]; rfl)
theorem killL_t : ∀ (l : List Nat) (s : AS), s.t ≤ (s.killL l).t
  | [], _ => Nat.le_refl _
  | id :: l, s => Nat.le_trans (Nat.le_succ _) (killL_t l (s.kill id))
theorem kills_none [Tabs] : ∀ (l : List (Nat × AObj)) (s : AS) (j : Nat), (s.h.get j = none ∨ j ∈ l.map (·.1)) → (l.foldl (fun s p => s.kill p.1) s).h.get j = none
  | [], s, j, hj => by simpa using hj
  | p :: l, s, j, hj => by
    refine kills_none l (s.kill p.1) j ?_
    rw [get_kill]
    rcases hj with hj | hj
    · left; split
      · rfl
      · rw [hj]; rfl
    · simp only [List.map_cons, List.mem_cons] at hj
      rcases hj with hj | hj
      · left; rw [if_pos hj]
      · exact .inr hj
theorem get_some_mem : ∀ {h : AHeap} {i : Nat} {o : AObj}, AHeap.get h i = some o → (i, o) ∈ h
  | [], _, _, e => by cases e
  | (j, x) :: r, i, o, e => by
    simp only [AHeap.get] at e
    cases hb : Nat.beq j i with
    | true =>
      rw [hb] at e
      simp only [cond_true, Option.some.injEq] at e
      subst e
      rw [Nat.eq_of_beq_eq_true hb]; simp
    | false => rw [hb] at e; exact List.mem_cons_of_mem _ (get_some_mem e)
theorem Rel.fresh [Tabs] {s : AS} {a : Act} (R : Rel w0 B M0 S m s a w) (d : Nat) : Rel w0 B M0 S m (s.fresh d) a w ∧ ∀ id, d * 16 ≤ id → id ≤ d * 16 + 15 → (s.fresh d).h.get id = none := by
  refine ⟨Rel.kills _ R, fun id h1 h2 => ?_⟩
  unfold AS.fresh
  apply kills_none
  cases hg : s.h.get id with
  | none => exact .inl rfl
  | some o =>
    right
    simp only [List.mem_map, List.mem_filter, Bool.and_eq_true]
    exact ⟨(id, o), ⟨get_some_mem hg, Nat.ble_eq_true_of_le h1, Nat.ble_eq_true_of_le h2⟩, rfl⟩
theorem kills_ne [Tabs] : ∀ (l : List (Nat × AObj)) (s : AS) (j : Nat), (l.foldl (fun s p => s.kill p.1) s).h.get j ≠ none → s.h.get j ≠ none
  | [], _, _, h => h
  | p :: l, s, j, h => by
    have := kills_ne l (s.kill p.1) j h
    rw [get_kill] at this
    split at this
    · exact absurd rfl this
    · intro e
      rw [e] at this
      exact this rfl
theorem fresh_ne [Tabs] (s : AS) (d j : Nat) (h : (s.fresh d).h.get j ≠ none) : s.h.get j ≠ none := kills_ne _ s j h
theorem frz_carry [Tabs] {id : Nat} {d : Bool} {t : Ty} {xs : List t.den} {c : OC} (M : Mem h S w m B M0) (ho : h id = some (.arr d t xs)) (hc : m id = some c) {h' : HGet} (hh : ∀ j, j ≠ id → h' j = (h j).map (AObj.frz id t xs)) :
    Carry h h' S (fun q => S q ∨ c.F q) w w m m (ACell.frz id t xs) := by
  have sub : ∀ q, S q → (S q ∨ c.F q) := fun _ hq => .inl hq
  refine ⟨fun x v r => ?_⟩
  cases x with
  | und => trivial
  | nils => exact r
  | pv t x => exact ⟨r.1, r.2.mono sub (fun _ _ => rfl) (Nat.le_refl _)⟩
  | pc t x => obtain ⟨b, o, ds, h1, h2, h3, h4, h5⟩ := r; exact ⟨b, o, ds, h1, .inl h2, h3, h4, h5.mono sub (fun _ _ => rfl) (Nat.le_refl _)⟩
  | os j =>
    by_cases e : j = id
    · subst e
      simp only [ACell.frz, Nat.beq_refl, cond_true]
      obtain ⟨_, c', hc', rfl⟩ := r
      obtain rfl : c = c' := Option.some.inj (hc.symm.trans hc')
      obtain ⟨c2, hc2, _, hr⟩ := M.obj j _ ho
      obtain rfl : c = c2 := Option.some.inj (hc.symm.trans hc2)
      exact ⟨rfl, ArrRel.rep hr sub fun q hq => .inr hq⟩
    · simp only [ACell.frz, beq_false e, cond_false]
      obtain ⟨⟨d, t, ys, ho⟩, rest⟩ := r
      exact ⟨⟨d, t, ys, by rw [hh j e, ho]; rfl⟩, rest⟩
  | op j off =>
    obtain ⟨⟨cs, ho'⟩, rest⟩ := r
    have e : j ≠ id := fun e => by subst e; rw [ho] at ho'; cases ho'
    exact ⟨⟨_, by rw [hh j e, ho']; rfl⟩, rest⟩
  | oe j i off =>
    by_cases e : j = id
    · subst e; simp [ACell.frz, CellRel]
    · simp only [ACell.frz, beq_false e, cond_false]
      obtain ⟨⟨d, t, xs, ho, hi⟩, rest⟩ := r
      exact ⟨⟨d, t, xs, by rw [hh j e, ho]; rfl, hi⟩, rest⟩
  | sb j i off e' y =>
    by_cases e : j = id
    · subst e; simp [ACell.frz, CellRel]
    · simp only [ACell.frz, beq_false e, cond_false]
      obtain ⟨d, xs, ho, rest⟩ := r
      exact ⟨d, xs, by rw [hh j e, ho]; rfl, rest⟩
  | vw j k =>
    by_cases e : j = id
    · subst e; simp [ACell.frz, CellRel]
    · simp only [ACell.frz, beq_false e, cond_false]
      obtain ⟨o, ho, hnb, rest⟩ := r
      cases o with
      | box cs => cases hnb
      | arr d t xs => exact ⟨_, by rw [hh j e, ho]; rfl, rfl, rest⟩
      | src t k xs => exact ⟨_, by rw [hh j e, ho]; rfl, rfl, rest⟩
  | cl f caps => obtain ⟨cs, e, k⟩ := r; exact ⟨cs, e, k.mono sub (fun _ _ => rfl) (Nat.le_refl _)⟩
theorem Rel.frz [Tabs] {s : AS} {a : Act} (R : Rel w0 B M0 S m s a w) (id : Nat) : ∃ S', (∀ q, S q → S' q) ∧ (∀ q, S' q → S q ∨ B ≤ q ∨ M0 q) ∧ Rel w0 B M0 S' m (s.frz id) a w ∧
    (∀ d t xs c, s.h.get id = some (.arr d t xs) → m id = some c → ∀ q, c.F q → S' q) ∧ (∀ j d t xs, j ≠ id → s.h.get j = some (.arr d t xs) → (s.frz id).h.get j = some (.arr d t xs)) := by
  unfold AS.frz
  split
  · rename_i d t xs ho
    obtain ⟨c, hc, he, hr⟩ := R.mem.obj id _ ho
    have hget : ∀ j, AHeap.get ((s.h.del id).map fun p => (p.1, p.2.frz id t xs)) j = if j = id then none else (s.h.get j).map (AObj.frz id t xs) := by
      intro j
      rw [get_mapK (fun _ o => o.frz id t xs), get_del]
      split <;> rfl
    have F := frz_carry (h' := AHeap.get ((s.h.del id).map fun p => (p.1, p.2.frz id t xs))) R.mem ho hc (fun j hj => by rw [hget j, if_neg hj])
    have hne : ∀ j, AHeap.get ((s.h.del id).map fun p => (p.1, p.2.frz id t xs)) j ≠ none → s.h.get j ≠ none ∧ j ≠ id := fun j hj => by
      rw [hget j] at hj
      split at hj
      · exact absurd rfl hj
      · rename_i e; exact ⟨fun e' => hj (by rw [e']; rfl), e⟩
    refine ⟨fun q => S q ∨ c.F q, fun _ hq => .inl hq, fun q hq => hq.imp (fun h => h) fun hq => (R.mem.apart id c (heap_ne ho) hc q hq).2.2, ⟨⟨fun j o e => ?_, fun i j c1 c2 hij hi hj => R.mem.dis i j c1 c2 hij (hne i hi).1 (hne j hj).1, fun i c1 hi hc1 q hq => ?_, fun q hq => ?_⟩, R.frm, ?_, by simp [R.size], R.defers⟩, fun d1 t1 xs1 c1 h1 h2 q hq => .inr (by rw [hc] at h2; cases h2; exact hq), fun j d1 t1 xs1 hj h1 => by rw [hget j, if_neg hj, h1]; rfl⟩
    · rw [hget j] at e
      split at e
      · cases e
      · cases hj : s.h.get j with
        | none => rw [hj] at e; cases e
        | some o' =>
          rw [hj] at e
          simp only [Option.map_some, Option.some.injEq] at e
          subst e
          obtain ⟨c1, h1, h2⟩ := R.mem.obj j o' hj
          refine ⟨c1, h1, ?_⟩
          rw [frzO_mapC]
          cases o' with
          | box cs => obtain ⟨b, cur, e, k1, k2, k3, k4⟩ := h2; exact ⟨b, cur, e, k1, k2, k3.carry F, k4⟩
          | arr d' t' ys => exact ⟨h2.1, h2.2.mono (fun _ hq => .inl hq) (fun _ _ => rfl) (fun _ _ => rfl) (Nat.le_refl _)⟩
          | src t' k ys => exact h2
    · have := R.mem.apart i c1 (hne i hi).1 hc1 q hq
      refine ⟨fun hs => ?_, this.2⟩
      rcases hs with hs | hs
      · exact this.1 hs
      · exact R.mem.dis i id c1 c (hne i hi).2 (hne i hi).1 (heap_ne ho) hc1 hc q hq hs
    · rcases hq with hq | hq
      · exact R.mem.lt q hq
      · exact (R.mem.apart id c (heap_ne ho) hc q hq).2.1
    · have := tmps_carry F R.tmps rfl
      have e : s.ρ.map (·.frz id t xs) = s.ρ.map (AVal.mapC (ACell.frz id t xs)) := congrArg (fun f => s.ρ.map f) (funext (frz_mapC id t xs))
      rw [e]; exact this
  · rename_i hno
    exact ⟨S, fun _ h => h, fun _ h => .inl h, R, fun d t xs c h1 => (hno d t xs h1).elim, fun j d t xs _ h1 => h1⟩
theorem Rel.frzAll_in [Tabs] {a : Act} : ∀ (l : List Nat) {S : Blk} {s : AS}, Rel w0 B M0 S m s a w → ∃ S', (∀ q, S q → S' q) ∧ (∀ q, S' q → S q ∨ B ≤ q ∨ M0 q) ∧ Rel w0 B M0 S' m (s.frzAll l) a w ∧
    (∀ id ∈ l, ∀ d t xs c, s.h.get id = some (.arr d t xs) → m id = some c → ∀ q, c.F q → S' q) ∧ (∀ j d t xs, j ∉ l → s.h.get j = some (.arr d t xs) → (s.frzAll l).h.get j = some (.arr d t xs))
  | [], S, _, R => ⟨S, fun _ h => h, fun _ h => .inl h, R, fun _ h => (nomatch h), fun _ _ _ _ _ h => h⟩
  | id :: l, S, s, R => by
    obtain ⟨S1, h1, n1, R1, i1, k1⟩ := R.frz id
    obtain ⟨S2, h2, n2, R2, i2, k2⟩ := Rel.frzAll_in l R1
    refine ⟨S2, fun q hq => h2 q (h1 q hq), fun q hq => (n2 q hq).elim (fun h => n1 q h) .inr, R2, fun j hj d t xs c e1 e2 q hq => ?_, fun j d t xs hj e1 => ?_⟩
    · by_cases e : j = id
      · subst e; exact h2 q (i1 d t xs c e1 e2 q hq)
      · exact i2 j ((List.mem_cons.1 hj).resolve_left e) d t xs c (k1 j d t xs e e1) e2 q hq
    · simp only [List.mem_cons, not_or] at hj
      exact k2 j d t xs hj.2 (k1 j d t xs hj.1 e1)
theorem Rel.frzAll [Tabs] {a : Act} (l : List Nat) {S : Blk} {s : AS} (R : Rel w0 B M0 S m s a w) : ∃ S', (∀ q, S q → S' q) ∧ (∀ q, S' q → S q ∨ B ≤ q ∨ M0 q) ∧ Rel w0 B M0 S' m (s.frzAll l) a w := by
  obtain ⟨S', h1, h2, h3, _⟩ := R.frzAll_in l
  exact ⟨S', h1, h2, h3⟩
theorem frz_none [Tabs] (s : AS) (id j : Nat) (hj : s.h.get j = none) : (s.frz id).h.get j = none := by
  unfold AS.frz
  split
  · rename_i d t xs ho
    rw [get_mapK (fun _ o => o.frz id t xs), get_del]
    split
    · rfl
    · rw [hj]; rfl
  · exact hj
theorem frzAll_none [Tabs] : ∀ (l : List Nat) (s : AS) (j : Nat), s.h.get j = none → (s.frzAll l).h.get j = none
  | [], _, _, hj => hj
  | id :: l, s, j, hj => frzAll_none l _ j (frz_none s id j hj)
theorem Rel.put [Tabs] {s : AS} {a : Act} (R : Rel w0 B M0 S m s a w) {v : AVal} {v' : Value} (r : VRel s.h.get S w m v v') (dst : Option Tmp) : Rel w0 B M0 S m (s.put dst v) (a.put dst v') w := by
  cases dst with
  | none => exact R
  | some d =>
    refine ⟨R.mem, R.frm, fun i => ?_, by simp [AS.put, Act.put, R.size], R.defers⟩
    have hi := R.tmps i
    simp only [AS.put, Act.put]
    rw [List.getD_eq_getElem?_getD] at hi ⊢
    rw [Array.getD_eq_getD_getElem?] at hi ⊢
    rw [List.getElem?_set, Array.getElem?_setIfInBounds]
    by_cases e : d = i
    · subst e
      rw [R.size]
      by_cases hl : d < s.ρ.length
      · simp [hl]; exact r
      · simp [hl]; trivial
    · simp only [e, if_false]
      exact hi
end
end Go.Ab
namespace Go.Ab
open Go Go.RowKit
section
variable {P : Program} {E : Env} {h : HGet} {S : Blk} {w w0 : World} {m : OMap} {B : Nat} {M0 : Blk}
theorem frzB_mapC (id : Nat) (t : Ty) (x : t.den) (v : AVal) : v.frzB id t x = v.mapC (ACell.frzB id t x) := by cases v <;> rfl
theorem frzBO_mapC (id : Nat) (t : Ty) (x : t.den) (o : AObj) : o.frzB id t x = o.mapC (ACell.frzB id t x) := by cases o <;> rfl
theorem frzB_carry [Tabs] {id : Nat} {t : Ty} {x : t.den} {cs : List ACell} {c : OC} (M : Mem h S w m B M0) (ho : h id = some (.box cs)) (hc : m id = some c) (hl : cs.length = t.size) (hi : idsOf cs = []) (hx : gatherG (fun _ => none) t cs = some x) {h' : HGet} (hh : ∀ j, j ≠ id → h' j = (h j).map (AObj.frzB id t x)) :
    Carry h h' S (fun q => S q ∨ c.F q) w w m m (ACell.frzB id t x) := by
  have sub : ∀ q, S q → (S q ∨ c.F q) := fun _ hq => .inl hq
  have arr : ∀ j d u xs, h j = some (.arr d u xs) → j ≠ id := fun j d u xs e e2 => by subst e2; rw [ho] at e; cases e
  refine ⟨fun y v r => ?_⟩
  cases y with
  | und => trivial
  | nils => exact r
  | pv t x => exact ⟨r.1, r.2.mono sub (fun _ _ => rfl) (Nat.le_refl _)⟩
  | pc t x => obtain ⟨b, o, ds, h1, h2, h3, h4, h5⟩ := r; exact ⟨b, o, ds, h1, .inl h2, h3, h4, h5.mono sub (fun _ _ => rfl) (Nat.le_refl _)⟩
  | os j =>
    obtain ⟨⟨d, u, xs, e⟩, rest⟩ := r
    exact ⟨⟨d, u, xs, by rw [hh j (arr _ _ _ _ e), e]; rfl⟩, rest⟩
  | op j off =>
    by_cases e : j = id
    · subst e
      simp only [ACell.frzB, Nat.beq_refl, cond_true]
      cases ho0 : Nat.beq off 0 with
      | false => trivial
      | true =>
        have := Nat.eq_of_beq_eq_true ho0
        subst this
        obtain ⟨_, c', b, hc', hv, rfl⟩ := r
        obtain rfl : c = c' := Option.some.inj (hc.symm.trans hc')
        obtain ⟨c2, hc2, b2, cur, el, k1, k2, k3, k4⟩ := M.obj j _ ho
        obtain rfl : c = c2 := Option.some.inj (hc.symm.trans hc2)
        rw [k1] at hv
        simp only [Value.pointer.injEq, Option.some.injEq, Addr.mk.injEq] at hv
        obtain ⟨rfl, _⟩ := hv
        have hrep := gather_rep M (get := fun _ => none) (fun _ _ h => nomatch h) hx k3 hl
        rw [hi] at hrep
        refine ⟨b2, 0, cur.toList, rfl, .inr ((k4 b2).2 rfl), lt_of_heap k2, ?_, hrep.mono (fun q hq => ?_) (fun _ _ => rfl) (Nat.le_refl _)⟩
        · have := reads_of_cells k2 0 cur.toList.length
          rwa [List.drop_zero, List.take_length] at this
        · rcases hq with hq | ⟨i, hi, _⟩
          · exact .inl hq
          · cases hi
    · simp only [ACell.frzB, beq_false e, cond_false]
      obtain ⟨⟨ds, ho'⟩, rest⟩ := r
      exact ⟨⟨_, by rw [hh j e, ho']; rfl⟩, rest⟩
  | oe j i off =>
    obtain ⟨⟨d, u, xs, e, hi⟩, rest⟩ := r
    exact ⟨⟨d, u, xs, by rw [hh j (arr _ _ _ _ e), e]; rfl, hi⟩, rest⟩
  | sb j i off e' y =>
    obtain ⟨d, xs, e, rest⟩ := r
    exact ⟨d, xs, by rw [hh j (arr _ _ _ _ e), e]; rfl, rest⟩
  | vw j k =>
    obtain ⟨o, e, hnb, rest⟩ := r
    have hj : j ≠ id := fun e2 => by subst e2; rw [ho] at e; cases e; cases hnb
    cases o with
    | box cs => cases hnb
    | arr d u xs => exact ⟨_, by rw [hh j hj, e]; rfl, rfl, rest⟩
    | src u k xs => exact ⟨_, by rw [hh j hj, e]; rfl, rfl, rest⟩
  | cl f caps => obtain ⟨cs, e, k⟩ := r; exact ⟨cs, e, k.mono sub (fun _ _ => rfl) (Nat.le_refl _)⟩
theorem ObjRel.carryS [Tabs] {h' : HGet} {S' : Blk} {f : ACell → ACell} (F : Carry h h' S S' w w m m f) (hS : ∀ q, S q → S' q) {o : AObj} {c : OC} (r : ObjRel h S w m o c) : ObjRel h' S' w m (o.mapC f) c := by
  cases o with
  | box cs => obtain ⟨b, cur, e, h1, h2, h3, h4⟩ := r; exact ⟨b, cur, e, h1, h2, h3.carry F, h4⟩
  | arr d t xs => exact ⟨r.1, ArrRel.mono r.2 hS (fun _ _ => rfl) (fun _ _ => rfl) (Nat.le_refl _)⟩
  | src t k xs => exact r
theorem Rel.frzB [Tabs] {s : AS} {a : Act} (R : Rel w0 B M0 S m s a w) (id : Nat) (t : Ty) : ∃ S', (∀ q, S q → S' q) ∧ (∀ q, S' q → S q ∨ B ≤ q ∨ M0 q) ∧ Rel w0 B M0 S' m (s.frzB id t) a w := by
  have same : ∃ S', (∀ q, S q → S' q) ∧ (∀ q, S' q → S q ∨ B ≤ q ∨ M0 q) ∧ Rel w0 B M0 S' m s a w := ⟨S, fun _ h => h, fun _ h => .inl h, R⟩
  unfold AS.frzB
  split
  · rename_i cs ho
    cases hl : Nat.beq cs.length t.size with
    | false => exact same
    | true =>
    simp only [cond_true]
    split
    · rename_i x hi hx
      obtain ⟨c, hc, hr⟩ := R.mem.obj id _ ho
      have hget : ∀ j, AHeap.get ((s.h.del id).map fun p => (p.1, p.2.frzB id t x)) j = if j = id then none else (s.h.get j).map (AObj.frzB id t x) := by
        intro j
        rw [get_mapK (fun _ o => o.frzB id t x), get_del]
        split <;> rfl
      have F := frzB_carry (h' := AHeap.get ((s.h.del id).map fun p => (p.1, p.2.frzB id t x))) R.mem ho hc (Nat.eq_of_beq_eq_true hl) hi hx (fun j hj => by rw [hget j, if_neg hj])
      have hne : ∀ j, AHeap.get ((s.h.del id).map fun p => (p.1, p.2.frzB id t x)) j ≠ none → s.h.get j ≠ none ∧ j ≠ id := fun j hj => by
        rw [hget j] at hj
        split at hj
        · exact absurd rfl hj
        · rename_i e; exact ⟨fun e' => hj (by rw [e']; rfl), e⟩
      refine ⟨fun q => S q ∨ c.F q, fun _ hq => .inl hq, fun q hq => hq.imp (fun h => h) fun hq => (R.mem.apart id c (heap_ne ho) hc q hq).2.2, ⟨⟨fun j o e => ?_, fun i j c1 c2 hij hi hj => R.mem.dis i j c1 c2 hij (hne i hi).1 (hne j hj).1, fun i c1 hi hc1 q hq => ?_, fun q hq => ?_⟩, R.frm, ?_, by simp [R.size], R.defers⟩⟩
      · rw [hget j] at e
        split at e
        · cases e
        · cases hj : s.h.get j with
          | none => rw [hj] at e; cases e
          | some o' =>
            rw [hj] at e
            simp only [Option.map_some, Option.some.injEq] at e
            subst e
            obtain ⟨c', h1, h2⟩ := R.mem.obj j o' hj
            rw [frzBO_mapC]
            exact ⟨c', h1, h2.carryS F fun _ hq => .inl hq⟩
      · have := R.mem.apart i c1 (hne i hi).1 hc1 q hq
        refine ⟨fun hs => ?_, this.2⟩
        rcases hs with hs | hs
        · exact this.1 hs
        · exact R.mem.dis i id c1 c (hne i hi).2 (hne i hi).1 (heap_ne ho) hc1 hc q hq hs
      · rcases hq with hq | hq
        · exact R.mem.lt q hq
        · exact (R.mem.apart id c (heap_ne ho) hc q hq).2.1
      · have := tmps_carry F R.tmps rfl
        have e : s.ρ.map (·.frzB id t x) = s.ρ.map (AVal.mapC (ACell.frzB id t x)) := congrArg (fun f => s.ρ.map f) (funext (frzB_mapC id t x))
        rw [e]; exact this
    · exact same
  · exact same
theorem Rel.frzBs [Tabs] {a : Act} : ∀ (l : List (Nat × Ty)) {S : Blk} {s : AS}, Rel w0 B M0 S m s a w → ∃ S', (∀ q, S q → S' q) ∧ (∀ q, S' q → S q ∨ B ≤ q ∨ M0 q) ∧ Rel w0 B M0 S' m (s.frzBs l) a w
  | [], S, _, R => ⟨S, fun _ h => h, fun _ h => .inl h, R⟩
  | p :: l, S, s, R => by
    obtain ⟨S1, h1, n1, R1⟩ := R.frzB p.1 p.2
    obtain ⟨S2, h2, n2, R2⟩ := Rel.frzBs l R1
    exact ⟨S2, fun q hq => h2 q (h1 q hq), fun q hq => (n2 q hq).elim (fun h => n1 q h) .inr, R2⟩
end
end Go.Ab
namespace Go.Ab
open Go Go.RowKit
def ACell.refs (id : Nat) : ACell → Bool
  | .os j | .op j _ | .oe j _ _ | .sb j _ _ _ _ | .vw j _ => Nat.beq j id
  | _ => false
section
variable {P : Program} {E : Env} {h : HGet} {S : Blk} {w w' w0 : World} {m m' : OMap} {B : Nat} {M0 : Blk}
structure Turn (h : HGet) (S : Blk) (w w' : World) (m m' : OMap) (id : Nat) (c : OC) : Prop where
  here : h id ≠ none
  at_ : m id = some c
  size : w.heap.size ≤ w'.heap.size
  rest : ∀ q, q < w.heap.size → ¬ c.F q → w'.heap[q]? = w.heap[q]?
  map : ∀ j, j ≠ id → m' j = m j
theorem Turn.stay {id : Nat} {c : OC} (T : Turn h S w w' m m' id c) (M : Mem h S w m B M0) : ∀ q, S q → w'.heap[q]? = w.heap[q]? :=
  fun q hq => T.rest q (M.lt q hq) fun hF => (M.apart id c T.here T.at_ q hF).1 hq
theorem Turn.own {id : Nat} {c : OC} (T : Turn h S w w' m m' id c) (M : Mem h S w m B M0) : ∀ j d, j ≠ id → h j ≠ none → m j = some d → ∀ q, d.F q → w'.heap[q]? = w.heap[q]? :=
  fun j d hj hn hd q hq => T.rest q (M.apart j d hn hd q hq).2.1 fun hF => M.dis j id d c hj hn T.here hd T.at_ q hq hF
theorem carry_turn [Tabs] {id : Nat} {c0 : OC} (T : Turn h S w w' m m' id c0) (M : Mem h S w m B M0) {h' : HGet} {f : ACell → ACell} (hh : ∀ j, j ≠ id → h' j = (h j).map (AObj.mapC f))
    (hf : ∀ c, c.refs id = false → f c = c ∨ f c = .und) (hid : ∀ c v, c.refs id = true → CellRel h S w m c v → CellRel h' S w' m' (f c) v) : Carry h h' S S w w' m m' f := by
  refine ⟨fun c v r => ?_⟩
  cases hr : c.refs id with
  | true => exact hid c v hr r
  | false =>
    rcases hf c hr with e | e
    · rw [e]
      cases c with
      | und => trivial
      | nils => exact r
      | pv t x => exact ⟨r.1, r.2.mono (fun _ h => h) (T.stay M) T.size⟩
      | pc t x => obtain ⟨b, o, ds, h1, h2, h3, h4, h5⟩ := r; exact ⟨b, o, ds, h1, h2, Nat.lt_of_lt_of_le h3 T.size, h4.mono (T.stay M b h2), h5.mono (fun _ h => h) (T.stay M) T.size⟩
      | os j =>
        have hj : j ≠ id := fun e => by subst e; simp [ACell.refs] at hr
        obtain ⟨⟨d, t, xs, ho⟩, c, hc, hv⟩ := r
        exact ⟨⟨d, t, xs, by rw [hh j hj, ho]; rfl⟩, c, (T.map j hj).trans hc, hv⟩
      | op j off =>
        have hj : j ≠ id := fun e => by subst e; simp [ACell.refs] at hr
        obtain ⟨⟨cs, ho⟩, c, b, hc, rest⟩ := r
        exact ⟨⟨_, by rw [hh j hj, ho]; rfl⟩, c, b, (T.map j hj).trans hc, rest⟩
      | oe j i off =>
        have hj : j ≠ id := fun e => by subst e; simp [ACell.refs] at hr
        obtain ⟨⟨d, t, xs, ho, hi⟩, c, g, n, cap, hc, rest⟩ := r
        exact ⟨⟨d, t, xs, by rw [hh j hj, ho]; rfl, hi⟩, c, g, n, cap, (T.map j hj).trans hc, rest⟩
      | sb j i off e' y =>
        have hj : j ≠ id := fun e => by subst e; simp [ACell.refs] at hr
        obtain ⟨d, xs, ho, hi, hd, hu, c, g, n, cap, hc, hv, hcell⟩ := r
        refine ⟨d, xs, by rw [hh j hj, ho]; rfl, hi, hd, hu, c, g, n, cap, (T.map j hj).trans hc, hv, ?_⟩
        obtain ⟨c', hc', hob⟩ := M.obj j _ ho
        obtain rfl : c' = c := Option.some.inj (hc'.symm.trans hc)
        exact (World.cell?_of_block (w := w) (w' := w') (T.own M j c' hj (heap_ne ho) hc g (arr_block hob.2 (Nat.zero_lt_of_lt (List.getElem?_eq_some_iff.1 hi).1) hv))).trans hcell
      | vw j k =>
        have hj : j ≠ id := fun e => by subst e; simp [ACell.refs] at hr
        obtain ⟨o, ho, hnb, c, hc, hk⟩ := r
        cases o with
        | box cs => cases hnb
        | arr d t xs => exact ⟨_, by rw [hh j hj, ho]; rfl, rfl, c, (T.map j hj).trans hc, vk_stay M ho hc (T.own M j c hj (heap_ne ho) hc) hk⟩
        | src t i xs => exact ⟨_, by rw [hh j hj, ho]; rfl, rfl, c, (T.map j hj).trans hc, vk_stay M ho hc (T.own M j c hj (heap_ne ho) hc) hk⟩
      | cl g caps => obtain ⟨cs, e, k⟩ := r; exact ⟨cs, e, k.mono (fun _ h => h) (T.stay M) T.size⟩
    · rw [e]; trivial
structure Orphan (h : HGet) (S : Blk) (w : World) (m : OMap) (B : Nat) (M0 : Blk) (X : Blk) : Prop where
  free : ∀ q, X q → ¬ S q ∧ q < w.heap.size ∧ (B ≤ q ∨ M0 q)
  dis : ∀ j d, h j ≠ none → m j = some d → ∀ q, X q → d.F q → False
theorem Orphan.empty (h : HGet) (S : Blk) (w : World) (m : OMap) (B : Nat) (M0 : Blk) : Orphan h S w m B M0 (fun _ => False) := ⟨fun _ h => h.elim, fun _ _ _ _ _ h => h.elim⟩
theorem mem_turnX [Tabs] {X : Blk} (hX : Orphan h S w m B M0 X) {id : Nat} {c0 c' : OC} {o' : AObj} (T : Turn h S w w' m m' id c0) (M : Mem h S w m B M0) (hB : B ≤ w.heap.size) {h' : HGet} {f : ACell → ACell} (F : Carry h h' S S w w' m m' f) (hh : ∀ j, j ≠ id → h' j = (h j).map (AObj.mapC f))
    (ho : h' id = some o') (hc : m' id = some c') (hob : ObjRel h' S w' m' o' c') (hF : ∀ q, c'.F q → c0.F q ∨ X q ∨ (w.heap.size ≤ q ∧ q < w'.heap.size)) : Mem h' S w' m' B M0 := by
  have hne : ∀ j, j ≠ id → h' j ≠ none → h j ≠ none := fun j hj hn e => hn (by rw [hh j hj, e]; rfl)
  have far : ∀ j d q, j ≠ id → h' j ≠ none → m' j = some d → d.F q → c'.F q → False := fun j d q hj hn hd hq hq' => by
    have hd' := (T.map j hj).symm.trans hd
    rcases hF q hq' with hx | hx | hx
    · exact M.dis j id d c0 hj (hne j hj hn) T.here hd' T.at_ q hq hx
    · exact hX.dis j d (hne j hj hn) hd' q hx hq
    · have := (M.apart j d (hne j hj hn) hd' q hq).2.1; omega
  refine ⟨fun j o e => ?_, fun i j c d hij hi hj hci hdj q hq hq' => ?_, fun i c hi hci q hq => ?_, fun q hq => Nat.lt_of_lt_of_le (M.lt q hq) T.size⟩
  · by_cases hj : j = id
    · subst hj
      rw [ho] at e
      cases e
      exact ⟨c', hc, hob⟩
    · rw [hh j hj] at e
      cases hoj : h j with
      | none => rw [hoj] at e; cases e
      | some o1 =>
        rw [hoj] at e
        simp only [Option.map_some, Option.some.injEq] at e
        subst e
        obtain ⟨c1, h1, h2⟩ := M.obj j o1 hoj
        refine ⟨c1, (T.map j hj).trans h1, ?_⟩
        have hown := T.own M j c1 hj (heap_ne hoj) h1
        cases o1 with
        | box cs => obtain ⟨b, cur, e, k1, k2, k3, k4⟩ := h2; exact ⟨b, cur, e, k1, (hown b ((k4 b).2 rfl)).trans k2, k3.carry F, k4⟩
        | arr d t ys => exact ⟨h2.1, h2.2.mono (fun _ h => h) (T.stay M) hown T.size⟩
        | src t k ys => exact ⟨h2.1, h2.2.mono hown⟩
  · by_cases ei : i = id
    · subst ei
      obtain rfl : c' = c := Option.some.inj (hc.symm.trans hci)
      exact far j d q (fun e => hij e.symm) hj hdj hq' hq
    · by_cases ej : j = id
      · subst ej
        obtain rfl : c' = d := Option.some.inj (hc.symm.trans hdj)
        exact far i c q ei hi hci hq hq'
      · exact M.dis i j c d hij (hne i ei hi) (hne j ej hj) ((T.map i ei).symm.trans hci) ((T.map j ej).symm.trans hdj) q hq hq'
  · by_cases ei : i = id
    · subst ei
      obtain rfl : c' = c := Option.some.inj (hc.symm.trans hci)
      rcases hF q hq with hx | hx | hx
      · have := M.apart i c0 T.here T.at_ q hx
        exact ⟨this.1, Nat.lt_of_lt_of_le this.2.1 T.size, this.2.2⟩
      · have := hX.free q hx
        exact ⟨this.1, Nat.lt_of_lt_of_le this.2.1 T.size, this.2.2⟩
      · exact ⟨fun hs => by have := M.lt q hs; omega, hx.2, .inl (by omega)⟩
    · have := M.apart i c (hne i ei hi) ((T.map i ei).symm.trans hci) q hq
      exact ⟨this.1, Nat.lt_of_lt_of_le this.2.1 T.size, this.2.2⟩
theorem mem_turn [Tabs] {id : Nat} {c0 c' : OC} {o' : AObj} (T : Turn h S w w' m m' id c0) (M : Mem h S w m B M0) (hB : B ≤ w.heap.size) {h' : HGet} {f : ACell → ACell} (F : Carry h h' S S w w' m m' f) (hh : ∀ j, j ≠ id → h' j = (h j).map (AObj.mapC f))
    (ho : h' id = some o') (hc : m' id = some c') (hob : ObjRel h' S w' m' o' c') (hF : ∀ q, c'.F q → c0.F q ∨ (w.heap.size ≤ q ∧ q < w'.heap.size)) : Mem h' S w' m' B M0 :=
  mem_turnX (Orphan.empty h S w m B M0) T M hB F hh ho hc hob fun q hq => (hF q hq).imp (fun h => h) .inr
theorem frm_turn [Tabs] {id : Nat} {c0 : OC} (T : Turn h S w w' m m' id c0) (M : Mem h S w m B M0) (hB : B ≤ w.heap.size) (hF : Frm w0 w B M0) (ho : w'.os = w.os) (ht : w'.tape = w.tape) (hu : w'.output = w.output) (hz : ∀ a : Addr, a.block < w.heap.size → w'.frozen? a = w.frozen? a) : Frm w0 w' B M0 :=
  ⟨ho.trans hF.os, ht.trans hF.tape, hu.trans hF.output, Nat.le_trans hF.size T.size, fun q hq hm => (T.rest q (Nat.lt_of_lt_of_le hq hB) fun hc => by
    rcases (M.apart id c0 T.here T.at_ q hc).2.2 with hx | hx
    · omega
    · exact hm hx).trans (hF.block q hq hm), fun a ha => (hz a (Nat.lt_of_lt_of_le ha hF.size)).trans (hF.fz a ha), hF.tab⟩
theorem mapC_id (o : AObj) : o.mapC (fun c => c) = o := by cases o <;> simp [AObj.mapC]
theorem mapCV_id (v : AVal) : v.mapC (fun c => c) = v := by cases v <;> simp [AVal.mapC]
theorem get_upd : ∀ (h : AHeap) (id : Nat) (o : AObj) (j : Nat), AHeap.get (h.map fun p => bif Nat.beq p.1 id then (p.1, o) else p) j = if j = id then (AHeap.get h j).map (fun _ => o) else AHeap.get h j
  | [], _, _, _ => by simp [AHeap.get]
  | (i, x) :: r, id, o, j => by
    have ih := get_upd r id o j
    simp only [List.map_cons]
    cases hb : Nat.beq i id with
    | true =>
      have := Nat.eq_of_beq_eq_true hb
      subst this
      simp only [cond_true, AHeap.get]
      cases hj : Nat.beq i j with
      | true => have := Nat.eq_of_beq_eq_true hj; subst this; simp
      | false => simpa using ih
    | false =>
      simp only [cond_false, AHeap.get]
      cases hj : Nat.beq i j with
      | true =>
        have := Nat.eq_of_beq_eq_true hj
        subst this
        have : i ≠ id := fun e => by subst e; simp at hb
        simp [this]
      | false => simpa using ih
theorem get_updA : ∀ (h : AHeap) (id : Nat) (o : AObj) (j : Nat), AHeap.get (h.map fun p => bif Nat.beq p.1 id then (p.1, o) else (p.1, p.2.killSb id)) j = if j = id then (AHeap.get h j).map (fun _ => o) else (AHeap.get h j).map (AObj.killSb id)
  | [], _, _, _ => by simp [AHeap.get]
  | (i, x) :: r, id, o, j => by
    have ih := get_updA r id o j
    simp only [List.map_cons]
    cases hb : Nat.beq i id with
    | true =>
      have := Nat.eq_of_beq_eq_true hb
      subst this
      simp only [cond_true, AHeap.get]
      cases hj : Nat.beq i j with
      | true => have := Nat.eq_of_beq_eq_true hj; subst this; simp
      | false => simpa using ih
    | false =>
      simp only [cond_false, AHeap.get]
      cases hj : Nat.beq i j with
      | true =>
        have := Nat.eq_of_beq_eq_true hj
        subst this
        have : i ≠ id := fun e => by subst e; simp at hb
        simp [this]
      | false => simpa using ih
theorem Rel.storeBox [Tabs] {s : AS} {a : Act} (R : Rel w0 B M0 S m s a w) (hB : B ≤ w.heap.size) {id off : Nat} {cs ds : List ACell} {us : List Value} (ho : s.h.get id = some (.box cs)) (hd : CellsRel s.h.get S w m ds us) (hl : off + ds.length ≤ cs.length) {b o : Nat} {c : OC}
    (hc : m id = some c) (hv : c.v = .pointer (some ⟨b, o, none⟩)) : ∃ w', (storeCells ⟨b, off, none⟩ us).run P w = .ok () w' ∧ Rel w0 B M0 S m (s.upd id (.box (splice cs off ds))) a w' ∧ w.heap.size ≤ w'.heap.size ∧ ∀ q, S q → w'.heap[q]? = w.heap[q]? := by
  obtain ⟨c', hc', b', cur, e, k1, k2, k3, k4⟩ := R.mem.obj id _ ho
  obtain rfl : c' = c := Option.some.inj (hc'.symm.trans hc)
  rw [k1] at hv
  simp only [Value.pointer.injEq, Option.some.injEq, Addr.mk.injEq] at hv
  obtain ⟨rfl, _⟩ := hv
  have hlen : us.length = ds.length := hd.1.symm
  have hcur : cur.size = cs.length := by have := k3.1; simp at this; omega
  have hst := run_storeCells_at P b' off e us 0 cur w k2 (by omega) hd.2.1
  simp only [Nat.add_zero] at hst
  refine ⟨_, hst, ?_⟩
  generalize hnew : (cur.toList.take off ++ us ++ cur.toList.drop (off + us.length)).toArray = ncur
  have T : Turn s.h.get S w (w.setRow b' ncur) m m id c' :=
    ⟨heap_ne ho, hc, by rw [size_setRow]; exact Nat.le_refl _, fun q hq hF => setRow_other w b' q ncur (fun e => hF ((k4 q).2 e)), fun _ _ => rfl⟩
  have hget : ∀ j, (s.upd id (.box (splice cs off ds))).h.get j = if j = id then some (.box (splice cs off ds)) else s.h.get j := by
    intro j
    show AHeap.get _ j = _
    rw [AS.upd, get_upd]
    split
    · rename_i e; subst e; rw [ho]; rfl
    · rfl
  have hh : ∀ j, j ≠ id → (s.upd id (.box (splice cs off ds))).h.get j = (s.h.get j).map (AObj.mapC fun c => c) := fun j hj => by
    rw [hget j, if_neg hj]; cases s.h.get j <;> simp [mapC_id]
  have F : Carry s.h.get (s.upd id (.box (splice cs off ds))).h.get S S w (w.setRow b' ncur) m m (fun c => c) := by
    refine carry_turn T R.mem hh (fun c _ => .inl rfl) (fun c v hr r => ?_)
    cases c with
    | op j off' =>
      have := Nat.eq_of_beq_eq_true hr
      subst this
      obtain ⟨_, rest⟩ := r
      exact ⟨⟨_, by rw [hget j, if_pos rfl]⟩, rest⟩
    | os j => have := Nat.eq_of_beq_eq_true hr; subst this; obtain ⟨⟨_, _, _, hx⟩, _⟩ := r; rw [ho] at hx; cases hx
    | oe j i off' => have := Nat.eq_of_beq_eq_true hr; subst this; obtain ⟨⟨_, _, _, hx, _⟩, _⟩ := r; rw [ho] at hx; cases hx
    | sb j i off' e' y => have := Nat.eq_of_beq_eq_true hr; subst this; obtain ⟨_, _, hx, _⟩ := r; rw [ho] at hx; cases hx
    | vw j k => have := Nat.eq_of_beq_eq_true hr; subst this; obtain ⟨_, hx, hnb, _⟩ := r; rw [ho] at hx; cases hx; cases hnb
    | _ => cases hr
  have hcells : CellsRel (s.upd id (.box (splice cs off ds))).h.get S (w.setRow b' ncur) m (splice cs off ds) ncur.toList := by
    have := (k3.splice hd off).imp F.cell
    have e3 : ncur.toList = cur.toList.take off ++ us ++ cur.toList.drop (off + us.length) := by rw [← hnew]
    rw [e3]
    exact this
  refine ⟨⟨mem_turn (o' := .box (splice cs off ds)) T R.mem hB F hh (by rw [hget id, if_pos rfl]) hc ⟨b', ncur, e, k1, setRow_heap w b' cur ncur e _ k2, hcells, k4⟩ (fun q hq => .inl hq), frm_turn T R.mem hB R.frm rfl rfl rfl (fun a _ => frozen_setRow k2 a), ?_, R.size, R.defers⟩, T.size, T.stay R.mem⟩
  have := tmps_carry F R.tmps rfl
  have e2 : s.ρ.map (AVal.mapC fun c => c) = s.ρ := by
    have : (AVal.mapC fun c => c) = _root_.id := funext mapCV_id
    rw [this]; simp
  rw [e2] at this
  exact this
theorem upd_get (L us : List Value) (p j : Nat) (h : p + us.length ≤ L.length) : (L.take p ++ us ++ L.drop (p + us.length))[j]? = if j < p then L[j]? else if j < p + us.length then us[j - p]? else L[j]? := by
  have e : (L.take p).length = p := by rw [List.length_take]; omega
  by_cases h1 : j < p
  · rw [if_pos h1, List.append_assoc, List.getElem?_append_left (by omega), List.getElem?_take_of_lt h1]
  · rw [if_neg h1]
    by_cases h2 : j < p + us.length
    · rw [if_pos h2, List.append_assoc, List.getElem?_append_right (by omega), e, List.getElem?_append_left (by omega)]
    · rw [if_neg h2, List.getElem?_append_right (by rw [List.length_append]; omega), List.length_append, e, List.getElem?_drop]
      congr 1
      omega
theorem seg_upd [Tabs] (L us : List Value) (sz i off k : Nat) (h : off + us.length ≤ sz) (hL : (i + 1) * sz ≤ L.length) :
    ((L.take (i * sz + off) ++ us ++ L.drop (i * sz + off + us.length)).drop (k * sz)).take sz = if k = i then ((L.drop (i * sz)).take sz).take off ++ us ++ ((L.drop (i * sz)).take sz).drop (off + us.length) else (L.drop (k * sz)).take sz := by
  rw [Nat.add_mul, Nat.one_mul] at hL
  have hlen : ((L.drop (i * sz)).take sz).length = sz := by rw [List.length_take, List.length_drop]; omega
  apply List.ext_getElem?
  intro j
  rw [seg_get, upd_get _ _ _ _ (by omega)]
  by_cases hki : k = i
  · subst hki
    rw [if_pos rfl, upd_get _ _ _ _ (by omega)]
    by_cases hj : j < sz
    · rw [if_pos hj, seg_get, if_pos hj]
      by_cases h1 : j < off
      · rw [if_pos (by omega), if_pos h1]
      · rw [if_neg (by omega), if_neg h1]
        by_cases h2 : j < off + us.length
        · rw [if_pos (by omega), if_pos h2]; congr 1; omega
        · rw [if_neg (by omega), if_neg h2]
    · rw [if_neg hj, if_neg (by omega), if_neg (by omega), seg_get, if_neg hj]
  · rw [if_neg hki, seg_get]
    by_cases hj : j < sz
    · rw [if_pos hj, if_pos hj]
      rcases Nat.lt_or_gt_of_ne hki with hlt | hgt
      · have : (k + 1) * sz ≤ i * sz := Nat.mul_le_mul_right _ (by omega)
        rw [Nat.add_mul, Nat.one_mul] at this
        rw [if_pos (by omega)]
      · have : (i + 1) * sz ≤ k * sz := Nat.mul_le_mul_right _ (by omega)
        rw [Nat.add_mul, Nat.one_mul] at this
        rw [if_neg (by omega), if_neg (by omega)]
    · rw [if_neg hj, if_neg hj]
theorem Rel.turnArrX [Tabs] {X : Blk} {s : AS} {a : Act} (R : Rel w0 B M0 S m s a w) (hB : B ≤ w.heap.size) {id : Nat} {d d' : Bool} {e : Ty} {xs ys : List e.den} (ho : s.h.get id = some (.arr d e xs)) (hlen : ys.length = xs.length) {c : OC} (hc : m id = some c) {w' : World} {F' : Blk}
    (hsz : w'.heap.size = w.heap.size) (hrest : ∀ q, ¬ c.F q → w'.heap[q]? = w.heap[q]?) (hos : w'.os = w.os) (ht : w'.tape = w.tape) (hu : w'.output = w.output) (hz : ∀ a : Addr, a.block < w.heap.size → w'.frozen? a = w.frozen? a)
    (hrel : ArrRel S w' d' e c.v ys F') (hX : Orphan s.h.get S w m B M0 X) (hF' : ∀ q, F' q → c.F q ∨ X q) :
    ∃ m', Rel w0 B M0 S m' (s.updA id (.arr d' e ys)) a w' ∧ (∀ j, j ≠ id → m' j = m j) ∧ m' id = some ⟨c.v, F', e⟩ := by
  obtain ⟨c', hc', he, hr⟩ := R.mem.obj id _ ho
  obtain rfl : c' = c := Option.some.inj (hc'.symm.trans hc)
  let m' : OMap := fun j => if j = id then some ⟨c'.v, F', e⟩ else m j
  have T : Turn s.h.get S w w' m m' id c' := ⟨heap_ne ho, hc, by omega, fun q _ hq => hrest q hq, fun j hj => if_neg hj⟩
  have hget : ∀ j, (s.updA id (.arr d' e ys)).h.get j = if j = id then some (.arr d' e ys) else (s.h.get j).map (AObj.killSb id) := by
    intro j
    show AHeap.get _ j = _
    rw [AS.updA, get_updA]
    split
    · rename_i e; subst e; rw [ho]; rfl
    · rfl
  have hh : ∀ j, j ≠ id → (s.updA id (.arr d' e ys)).h.get j = (s.h.get j).map (AObj.mapC (ACell.killSb id)) := fun j hj => by
    rw [hget j, if_neg hj]
    exact congrArg (fun f => Option.map f (s.h.get j)) (funext (killSbO_mapC id))
  have F : Carry s.h.get (s.updA id (.arr d' e ys)).h.get S S w w' m m' (ACell.killSb id) := by
    refine carry_turn T R.mem hh (fun c hr => ?_) (fun c v hr r => ?_)
    · cases c with
      | sb j i o e' y =>
        simp only [ACell.killSb]
        cases Nat.beq j id with
        | true => exact .inr rfl
        | false => exact .inl rfl
      | vw j k =>
        simp only [ACell.killSb]
        cases Nat.beq j id with
        | true => exact .inr rfl
        | false => exact .inl rfl
      | _ => exact .inl rfl
    · cases c with
      | os j =>
        have := Nat.eq_of_beq_eq_true hr
        subst this
        obtain ⟨_, c1, h1, h2⟩ := r
        obtain rfl : c1 = c' := Option.some.inj (h1.symm.trans hc)
        exact ⟨⟨_, _, _, by rw [hget j, if_pos rfl]⟩, _, if_pos rfl, h2⟩
      | op j off => have := Nat.eq_of_beq_eq_true hr; subst this; obtain ⟨⟨_, hx⟩, _⟩ := r; rw [ho] at hx; cases hx
      | oe j i off =>
        have := Nat.eq_of_beq_eq_true hr
        subst this
        obtain ⟨⟨d1, t1, xs1, h1, hi⟩, c1, g, n, cap, h2, h3, h4⟩ := r
        rw [ho] at h1
        cases h1
        obtain rfl : c1 = c' := Option.some.inj (h2.symm.trans hc)
        exact ⟨⟨_, _, _, by rw [hget j, if_pos rfl], by omega⟩, _, g, n, cap, if_pos rfl, h3, by rw [← he]; exact h4⟩
      | sb j i o e' y =>
        simp only [ACell.refs] at hr
        simp only [ACell.killSb, hr, cond_true]
        trivial
      | vw j k =>
        simp only [ACell.refs] at hr
        simp only [ACell.killSb, hr, cond_true]
        trivial
      | _ => cases hr
  refine ⟨m', ⟨mem_turnX hX (c' := ⟨c'.v, F', e⟩) (o' := .arr d' e ys) T R.mem hB F hh (by rw [hget id, if_pos rfl]) (if_pos rfl) ⟨rfl, hrel⟩ (fun q hq => (hF' q hq).imp (fun h => h) .inl), frm_turn T R.mem hB R.frm hos ht hu hz, ?_, ?_, R.defers⟩, fun j hj => if_neg hj, if_pos rfl⟩
  · have := tmps_carry F R.tmps rfl
    have e2 : (s.updA id (.arr d' e ys)).ρ = s.ρ.map (AVal.mapC (ACell.killSb id)) := congrArg (fun f => s.ρ.map f) (funext (killSb_mapC id))
    rw [e2]
    exact this
  · rw [R.size]; simp [AS.updA]
theorem Rel.turnArr [Tabs] {s : AS} {a : Act} (R : Rel w0 B M0 S m s a w) (hB : B ≤ w.heap.size) {id : Nat} {d d' : Bool} {e : Ty} {xs ys : List e.den} (ho : s.h.get id = some (.arr d e xs)) (hlen : ys.length = xs.length) {c : OC} (hc : m id = some c) {w' : World} {F' : Blk}
    (hsz : w'.heap.size = w.heap.size) (hrest : ∀ q, ¬ c.F q → w'.heap[q]? = w.heap[q]?) (hos : w'.os = w.os) (ht : w'.tape = w.tape) (hu : w'.output = w.output) (hz : ∀ a : Addr, a.block < w.heap.size → w'.frozen? a = w.frozen? a)
    (hrel : ArrRel S w' d' e c.v ys F') (hF' : ∀ q, F' q → c.F q) :
    ∃ m', Rel w0 B M0 S m' (s.updA id (.arr d' e ys)) a w' ∧ (∀ j, j ≠ id → m' j = m j) ∧ m' id = some ⟨c.v, F', e⟩ :=
  R.turnArrX hB ho hlen hc hsz hrest hos ht hu hz hrel (Orphan.empty s.h.get S w m B M0) fun q hq => .inl (hF' q hq)
theorem Rel.storeArrX [Tabs] {X : Blk} {s : AS} {a : Act} (R : Rel w0 B M0 S m s a w) (hB : B ≤ w.heap.size) {id i off : Nat} {d : Bool} {e : Ty} {xs : List e.den} {y : e.den} {us : List Value} (ho : s.h.get id = some (.arr d e xs)) (hi : i < xs.length) (h1 : ∀ v ∈ us, v.oneCell' = true)
    (hl : off + us.length ≤ e.size) {g n cap : Nat} {c : OC} (hc : m id = some c) (hv : c.v = .slice (some ⟨g, 0, none⟩) n cap)
    (hX : Orphan s.h.get S w m B M0 X) (hy : ∀ (ds : List Value) (x : e.den) (G : Blk), xs[i]? = some x → El S w d e ds x G → (∀ q, G q → c.F q) → ReadsAt w g (i * e.size) ds → ∃ G', (∀ q, G' q → G q ∨ X q) ∧ El S w d e (ds.take off ++ us ++ ds.drop (off + us.length)) y G') :
    ∃ w', (storeCells ⟨g, i * e.size + off, none⟩ us).run P w = .ok () w' ∧ w.heap.size ≤ w'.heap.size ∧ (∀ q, S q → w'.heap[q]? = w.heap[q]?) ∧ ∃ m', Rel w0 B M0 S m' (s.updA id (.arr d e (xs.set i y))) a w' := by
  obtain ⟨c', hc', he, hr⟩ := R.mem.obj id _ ho
  obtain rfl : c' = c := Option.some.inj (hc'.symm.trans hc)
  have hr0 := hr
  rcases hr with ⟨_, rfl, _⟩ | ⟨g', cap', cur, te, Fs, k1, k2, k3, k4, k5, k6, k7, k8, k9⟩
  · simp at hi
  have hv0 := hv
  rw [k1] at hv
  simp only [Value.slice.injEq, Option.some.injEq, Addr.mk.injEq] at hv
  obtain ⟨⟨rfl, _⟩, _, _⟩ := hv
  have hseg : ∀ k, k < xs.length → (k + 1) * e.size ≤ cur.size := fun k hk => by rw [k3]; exact Nat.mul_le_mul_right _ (by omega)
  have hsi := hseg i hi
  have hsi' := hsi
  rw [Nat.add_mul, Nat.one_mul] at hsi'
  have hst := run_storeCells_at P g' (i * e.size + off) te us 0 cur w k2 (by omega) h1
  simp only [Nat.add_zero] at hst
  refine ⟨_, hst, ?_⟩
  generalize hnew : (cur.toList.take (i * e.size + off) ++ us ++ cur.toList.drop (i * e.size + off + us.length)).toArray = ncur
  have hnl : ncur.toList = cur.toList.take (i * e.size + off) ++ us ++ cur.toList.drop (i * e.size + off + us.length) := by rw [← hnew]
  have hns : ncur.size = cur.size := by
    rw [← Array.length_toList, hnl, ← Array.length_toList]
    simp only [List.length_append, List.length_take, List.length_drop, Array.length_toList]
    omega
  obtain ⟨x, hx⟩ : ∃ x, xs[i]? = some x := ⟨xs[i], by simp [hi]⟩
  obtain ⟨G', hG', hEl⟩ := hy _ x (Fs i) hx (k6 i x hx) (fun q hq => (k9 q).2 (.inr ⟨i, hi, hq⟩)) (reads_of_cells k2 _ _)
  have hFg : c'.F g' := (k9 g').2 (.inl rfl)
  have hSg : ¬ S g' := (R.mem.apart id c' (heap_ne ho) hc g' hFg).1
  have hSstay : ∀ q, S q → (w.setRow g' ncur).heap[q]? = w.heap[q]? := fun q hq => setRow_other w g' q ncur fun e => hSg (e ▸ hq)
  have hsize : (w.setRow g' ncur).heap.size = w.heap.size := size_setRow g' ncur
  have sub : ∀ k, k < xs.length → ∀ q, (if k = i then G' q else Fs k q) → Fs k q ∨ (k = i ∧ X q) := fun k _ q hq => by
    by_cases hki : k = i
    · subst hki; rw [if_pos rfl] at hq; exact (hG' q hq).imp (fun h => h) fun h => ⟨rfl, h⟩
    · rw [if_neg hki] at hq; exact .inl hq
  have hXF : ∀ q, X q → ¬ c'.F q := fun q hq hF => hX.dis id c' (heap_ne ho) hc q hq hF
  have hFsF : ∀ k, k < xs.length → ∀ q, Fs k q → c'.F q := fun k hk q hq => (k9 q).2 (.inr ⟨k, hk, hq⟩)
  refine ⟨by rw [hsize]; exact Nat.le_refl _, hSstay, ?_⟩
  obtain ⟨m', R', _⟩ := R.turnArrX (d' := d) (ys := xs.set i y) (F' := fun q => q = g' ∨ ∃ k, k < xs.length ∧ (if k = i then G' q else Fs k q)) hB ho (by simp) hc hsize (fun q hq => setRow_other w g' q ncur fun e => hq (e ▸ hFg)) rfl rfl rfl (fun a _ => frozen_setRow k2 a)
    (.inr ⟨g', cap', ncur, te, fun k q => if k = i then G' q else Fs k q, by rw [k1]; simp, setRow_heap w g' cur ncur te _ k2, by rw [hns, k3], by simpa using k4, k5, fun k z hk => by
        have hkl : k < xs.length := by have := (List.getElem?_eq_some_iff.1 hk).1; simpa using this
        rw [hnl, seg_upd cur.toList us e.size i off k hl (by simpa using hsi)]
        by_cases hki : k = i
        · subst hki
          rw [List.getElem?_set_self hi] at hk
          cases hk
          simp only [if_true]
          exact hEl.mono (fun _ h => h) hSstay (fun q hq => setRow_other w g' q ncur fun e => (hG' q hq).elim (fun h => k8 k hi (by rwa [e] at h)) fun h => hXF q h (e ▸ hFg)) (by rw [hsize]; exact Nat.le_refl _)
        · rw [List.getElem?_set_ne (fun e => hki e.symm)] at hk
          simp only [if_neg hki]
          exact (k6 k z hk).mono (fun _ h => h) hSstay (fun q hq => setRow_other w g' q ncur fun e => k8 k hkl (by rwa [e] at hq)) (by rw [hsize]; exact Nat.le_refl _),
      fun k j q hk hj h1 h2 => by
        rw [List.length_set] at hk hj
        rcases sub k hk q h1 with a1 | ⟨e1, a1⟩ <;> rcases sub j hj q h2 with a2 | ⟨e2, a2⟩
        · exact k7 k j q hk hj a1 a2
        · exact (hXF q a2 (hFsF k hk q a1)).elim
        · exact (hXF q a1 (hFsF j hj q a2)).elim
        · exact e1.trans e2.symm,
      fun k hk h => by
        rw [List.length_set] at hk
        exact (sub k hk g' h).elim (k8 k hk) fun h => hXF g' h.2 hFg, fun q => by rw [List.length_set]⟩)
    hX (fun q hq => by
      rcases hq with rfl | ⟨k, hk, hq⟩
      · exact .inl hFg
      · exact (sub k hk q hq).imp (hFsF k hk q) fun h => h.2)
  exact ⟨m', R'⟩
theorem Rel.storeArr [Tabs] {s : AS} {a : Act} (R : Rel w0 B M0 S m s a w) (hB : B ≤ w.heap.size) {id i off : Nat} {d : Bool} {e : Ty} {xs : List e.den} {y : e.den} {us : List Value} (ho : s.h.get id = some (.arr d e xs)) (hi : i < xs.length) (h1 : ∀ v ∈ us, v.oneCell' = true)
    (hl : off + us.length ≤ e.size) {g n cap : Nat} {c : OC} (hc : m id = some c) (hv : c.v = .slice (some ⟨g, 0, none⟩) n cap)
    (hy : ∀ (ds : List Value) (x : e.den) (G : Blk), xs[i]? = some x → El S w d e ds x G → ∃ G', (∀ q, G' q → G q) ∧ El S w d e (ds.take off ++ us ++ ds.drop (off + us.length)) y G') :
    ∃ w', (storeCells ⟨g, i * e.size + off, none⟩ us).run P w = .ok () w' ∧ w.heap.size ≤ w'.heap.size ∧ (∀ q, S q → w'.heap[q]? = w.heap[q]?) ∧ ∃ m', Rel w0 B M0 S m' (s.updA id (.arr d e (xs.set i y))) a w' :=
  R.storeArrX hB ho hi h1 hl hc hv (Orphan.empty s.h.get S w m B M0) fun ds x G hx he _ _ => by
    obtain ⟨G', a, b⟩ := hy ds x G hx he
    exact ⟨G', fun q hq => .inl (a q hq), b⟩
theorem Rel.shallowArr [Tabs] {s : AS} {a : Act} (R : Rel w0 B M0 S m s a w) {id : Nat} {d : Bool} {e : Ty} {xs : List e.den} (ho : s.h.get id = some (.arr d e xs)) :
    ∃ S' m' c', (∀ q, S q → S' q) ∧ (∀ q, S' q → S q ∨ B ≤ q ∨ M0 q) ∧ Rel w0 B M0 S' m' (s.updA id (.arr false e xs)) a w ∧ (∀ c, m id = some c → m' id = some c' ∧ c'.v = c.v ∧ ∀ q, c.F q → S' q ∨ c'.F q) ∧ ∀ j, j ≠ id → m' j = m j := by
  obtain ⟨c, hc, he, hr⟩ := R.mem.obj id _ ho
  let F' : Blk := fun q => c.F q ∧ ∃ cap n g, c.v = .slice (some ⟨g, 0, none⟩) n cap ∧ q = g
  let S' : Blk := fun q => S q ∨ (c.F q ∧ ¬ F' q)
  let m' : OMap := fun j => if j = id then some ⟨c.v, F', e⟩ else m j
  have sub : ∀ q, S q → S' q := fun q hq => .inl hq
  have hrel : ArrRel S' w false e c.v xs F' := by
    obtain ⟨F2, f1, f2, f4, f3⟩ := hr.shallow (S' := S') sub fun q hq hng => .inr ⟨hq, fun ⟨_, cap, n, g, e1, e2⟩ => hng cap n g e1 e2⟩
    have : F2 = F' := by
      funext q
      exact propext ⟨fun hq => ⟨f1 q hq, f2 q hq⟩, fun ⟨hF, k⟩ => f4 q hF k⟩
    rw [← this]
    exact f3
  have hget : ∀ j, (s.updA id (.arr false e xs)).h.get j = if j = id then some (.arr false e xs) else (s.h.get j).map (AObj.killSb id) := by
    intro j
    show AHeap.get _ j = _
    rw [AS.updA, get_updA]
    split
    · rename_i e; subst e; rw [ho]; rfl
    · rfl
  have keepA : ∀ {j : Nat} {d1 : Bool} {t1 : Ty} {ys : List t1.den}, j ≠ id → s.h.get j = some (.arr d1 t1 ys) → (s.updA id (.arr false e xs)).h.get j = some (.arr d1 t1 ys) := fun hj h1 => by rw [hget, if_neg hj, h1]; rfl
  have F : Carry s.h.get (s.updA id (.arr false e xs)).h.get S S' w w m m' (ACell.killSb id) := by
    refine ⟨fun x v r => ?_⟩
    cases x with
    | und => trivial
    | nils => exact r
    | pv t x => exact ⟨r.1, r.2.mono sub (fun _ _ => rfl) (Nat.le_refl _)⟩
    | pc t x => obtain ⟨b, o, ds, h1, h2, h3, h4, h5⟩ := r; exact ⟨b, o, ds, h1, .inl h2, h3, h4, h5.mono sub (fun _ _ => rfl) (Nat.le_refl _)⟩
    | os j =>
      obtain ⟨⟨d1, t1, ys, h1⟩, c1, h2, h3⟩ := r
      by_cases e1 : j = id
      · subst e1
        obtain rfl : c = c1 := Option.some.inj (hc.symm.trans h2)
        exact ⟨⟨_, _, _, by rw [hget j, if_pos rfl]⟩, _, if_pos rfl, h3⟩
      · exact ⟨⟨d1, t1, ys, keepA e1 h1⟩, c1, (if_neg e1).trans h2, h3⟩
    | op j off =>
      obtain ⟨⟨cs, h1⟩, c1, b, h2, rest⟩ := r
      have e1 : j ≠ id := fun e => by subst e; rw [ho] at h1; cases h1
      exact ⟨⟨_, by rw [hget j, if_neg e1, h1]; rfl⟩, c1, b, (if_neg e1).trans h2, rest⟩
    | oe j i off =>
      obtain ⟨⟨d1, t1, ys, h1, hi⟩, c1, g, n, cap, h2, h3, h4⟩ := r
      by_cases e1 : j = id
      · subst e1
        obtain rfl : c = c1 := Option.some.inj (hc.symm.trans h2)
        rw [ho] at h1
        cases h1
        exact ⟨⟨_, _, _, by rw [hget j, if_pos rfl], hi⟩, _, g, n, cap, if_pos rfl, h3, by rw [← he]; exact h4⟩
      · exact ⟨⟨d1, t1, ys, keepA e1 h1, hi⟩, c1, g, n, cap, (if_neg e1).trans h2, h3, h4⟩
    | sb j i off e' y =>
      simp only [ACell.killSb]
      cases hb : Nat.beq j id with
      | true => trivial
      | false =>
        have e1 : j ≠ id := fun e => by subst e; simp at hb
        obtain ⟨d1, ys, h1, hi, hd, hu, c1, g, n, cap, h2, h3, h4⟩ := r
        exact ⟨d1, ys, keepA e1 h1, hi, hd, hu, c1, g, n, cap, (if_neg e1).trans h2, h3, h4⟩
    | vw j k =>
      simp only [ACell.killSb]
      cases hb : Nat.beq j id with
      | true => trivial
      | false =>
        have e1 : j ≠ id := fun e => by subst e; simp at hb
        obtain ⟨o, h1, hnb, c1, h2, h3⟩ := r
        cases o with
        | box cs => cases hnb
        | arr d1 t1 ys => exact ⟨_, keepA e1 h1, rfl, c1, (if_neg e1).trans h2, h3⟩
        | src t1 q ys => exact ⟨_, by rw [hget j, if_neg e1, h1]; rfl, rfl, c1, (if_neg e1).trans h2, h3⟩
    | cl g caps => obtain ⟨cs, e, k⟩ := r; exact ⟨cs, e, k.mono sub (fun _ _ => rfl) (Nat.le_refl _)⟩
  have hne : ∀ j, (s.updA id (.arr false e xs)).h.get j ≠ none → s.h.get j ≠ none := fun j hj h1 => by
    rw [hget] at hj
    split at hj
    · rename_i e; subst e; rw [ho] at h1; cases h1
    · exact hj (by rw [h1]; rfl)
  have old : ∀ j c1, m' j = some c1 → ∃ c0, m j = some c0 ∧ (∀ q, c1.F q → c0.F q) ∧ (j ≠ id → c1 = c0) := fun j c1 h1 => by
    by_cases e1 : j = id
    · subst e1
      have h1 : some (⟨c.v, F', e⟩ : OC) = some c1 := (if_pos rfl).symm.trans h1
      cases h1
      exact ⟨c, hc, fun q hq => hq.1, fun h => absurd rfl h⟩
    · exact ⟨c1, (if_neg e1).symm.trans h1, fun _ h => h, fun _ => rfl⟩
  refine ⟨S', m', ⟨c.v, F', e⟩, sub, fun q hq => hq.imp (fun h => h) fun hq => (R.mem.apart id c (heap_ne ho) hc q hq.1).2.2, ⟨⟨fun j o h1 => ?_, fun i j c1 c2 hij hi hj h1 h2 q hq1 hq2 => ?_, fun i c1 hi h1 q hq => ?_, fun q hq => ?_⟩, R.frm, ?_, ?_, R.defers⟩, fun c1 h1 => ?_, fun j hj => if_neg hj⟩
  · rw [hget j] at h1
    split at h1
    · rename_i e1
      cases h1
      exact ⟨_, if_pos e1, rfl, hrel⟩
    · rename_i e1
      cases hj : s.h.get j with
      | none => rw [hj] at h1; cases h1
      | some o' =>
        rw [hj] at h1
        simp only [Option.map_some, Option.some.injEq] at h1
        subst h1
        obtain ⟨c1, k1, k2⟩ := R.mem.obj j o' hj
        refine ⟨c1, (if_neg e1).trans k1, ?_⟩
        rw [killSbO_mapC]
        cases o' with
        | box cs => obtain ⟨b, cur, e, k1, k2, k3, k4⟩ := k2; exact ⟨b, cur, e, k1, k2, k3.carry F, k4⟩
        | arr d' t' ys => exact ⟨k2.1, k2.2.mono sub (fun _ _ => rfl) (fun _ _ => rfl) (Nat.le_refl _)⟩
        | src t' k ys => exact k2
  · obtain ⟨a1, p1, p2, _⟩ := old i c1 h1
    obtain ⟨a2, q1, q2, _⟩ := old j c2 h2
    exact R.mem.dis i j a1 a2 hij (hne i hi) (hne j hj) p1 q1 q (p2 q hq1) (q2 q hq2)
  · obtain ⟨a1, p1, p2, p3⟩ := old i c1 h1
    have := R.mem.apart i a1 (hne i hi) p1 q (p2 q hq)
    refine ⟨fun hs => ?_, this.2⟩
    rcases hs with hs | hs
    · exact this.1 hs
    · by_cases e1 : i = id
      · subst e1
        have h1 : some (⟨c.v, F', e⟩ : OC) = some c1 := (if_pos rfl).symm.trans h1
        cases h1
        exact hs.2 hq
      · exact R.mem.dis i id a1 c e1 (hne i hi) (heap_ne ho) p1 hc q (p2 q hq) hs.1
  · rcases hq with hq | hq
    · exact R.mem.lt q hq
    · exact (R.mem.apart id c (heap_ne ho) hc q hq.1).2.1
  · have := tmps_carry F R.tmps rfl
    have e2 : (s.updA id (.arr false e xs)).ρ = s.ρ.map (AVal.mapC (ACell.killSb id)) := congrArg (fun f => s.ρ.map f) (funext (killSb_mapC id))
    rw [e2]
    exact this
  · rw [R.size]; simp [AS.updA]
  · obtain rfl : c = c1 := Option.some.inj (hc.symm.trans h1)
    refine ⟨if_pos rfl, rfl, fun q hq => ?_⟩
    by_cases hf : F' q
    · exact .inr hf
    · exact .inl (.inr ⟨hq, hf⟩)
end
end Go.Ab
