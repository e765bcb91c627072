/-
  An element of an own slice is written over: what it stands for.
-/
import Derived.Test.YtkemmodgpafkmaaGreatDoorXTouch
namespace Go.Ab
open Go Go.RowKit
section
variable {P : Program} {E : Env} {h : HGet} {S : Blk} {w w' w0 : World} {m m' : OMap} {B : Nat} {M0 : Blk}
theorem osIn_append : ∀ (l r : List ACell), osIn (l ++ r) = osIn l ++ osIn r
  | [], _ => rfl
  | c :: l, r => by cases c <;> simp [osIn, osIn_append l r]
theorem cell_in {get : Nat → Option AObj} {t : Ty} {c : ACell} {x : t.den} (e : cellToG get t c = some x) : ∀ id ∈ osIn [c], ∃ d t xs, get id = some (.arr d t xs) := by
  intro id hid
  cases c with
  | os j =>
    simp only [osIn, List.mem_singleton] at hid
    subst hid
    unfold cellToG at e
    simp only at e
    split at e
    · rename_i d t xs h; exact ⟨d, t, xs, h⟩
    · cases e
  | _ => cases hid
theorem gather_in [Tabs] {get : Nat → Option AObj} : ∀ {t : Ty} {cs : List ACell} {x : t.den}, gatherG get t cs = some x → cs.length = t.size → ∀ id ∈ osIn cs, ∃ d t xs, get id = some (.arr d t xs)
  | .unit, [], _, _, _, id, hid => by cases hid
  | .pair a b, cs, x, e, hl, id, hid => by
    simp only [gatherG, Option.bind_eq_some_iff, Option.some.injEq] at e
    obtain ⟨y, e1, z, e2, rfl⟩ := e
    have hl' : cs.length = a.size + b.size := hl
    have : osIn cs = osIn (cs.take a.size) ++ osIn (cs.drop a.size) := by rw [← osIn_append, List.take_append_drop]
    rw [this, List.mem_append] at hid
    rcases hid with hid | hid
    · exact gather_in e1 (by simp; omega) id hid
    · exact gather_in e2 (by simp; omega) id hid
  | .bool, [c], x, e, _, id, hid => cell_in e id hid
  | .int k, [c], x, e, _, id, hid => cell_in e id hid
  | .str, [c], x, e, _, id, hid => cell_in e id hid
  | .raw, [c], x, e, _, id, hid => cell_in e id hid
  | .slice t, [c], x, e, _, id, hid => cell_in e id hid
theorem dels_get [Tabs] : ∀ (l : List Nat) (hp : AHeap) (id : Nat), (l.foldl AHeap.del hp).get id = if id ∈ l then none else hp.get id
  | [], _, _ => by simp
  | i :: l, hp, id => by
    simp only [List.foldl_cons]
    rw [dels_get l, get_del]
    by_cases h1 : id ∈ l
    · simp [h1]
    · by_cases h2 : id = i
      · simp [h2]
      · simp [h1, h2]
theorem noSb_ids : ∀ {cs : List ACell}, noSb cs = true → idsOf cs = osIn cs
  | [], _ => rfl
  | c :: cs, h => by
    cases c <;> first | (cases h; done) | exact noSb_ids (cs := cs) h | exact congrArg _ (noSb_ids (cs := cs) h)
theorem split_get {α : Type} (L us : List α) (p j : Nat) (h : p + us.length ≤ L.length) : (L.take p ++ us ++ L.drop (p + us.length))[j]? = if j < p then L[j]? else if j < p + us.length then us[j - p]? else L[j]? := by
  have e : (L.take p).length = p := by rw [List.length_take]; omega
  by_cases h1 : j < p
  · rw [if_pos h1, List.append_assoc, List.getElem?_append_left (by omega), List.getElem?_take_of_lt h1]
  · rw [if_neg h1]
    by_cases h2 : j < p + us.length
    · rw [if_pos h2, List.append_assoc, List.getElem?_append_right (by omega), e, List.getElem?_append_left (by omega)]
    · rw [if_neg h2, List.getElem?_append_right (by rw [List.length_append]; omega), List.length_append, e, List.getElem?_drop]
      congr 1
      omega
theorem gather_each {get : HGet} {T : Blk} : ∀ {t : Ty} {cs : List ACell} {vs : List Value} {x : t.den}, gatherG get t cs = some x → cs.length = t.size → vs.length = t.size →
    (∀ (i : Nat) (c : ACell) (v : Value) (u : Ty) (z : u.den), cs[i]? = some c → vs[i]? = some v → u.isAgg = false → cellToG get u c = some z → Rep T w u [v] z) → Rep T w t vs x
  | .unit, _, vs, _, _, _, hv, _ => List.eq_nil_of_length_eq_zero hv
  | .pair a b, cs, vs, x, e, hl, hv, f => by
    simp only [gatherG, Option.bind_eq_some_iff, Option.some.injEq] at e
    obtain ⟨y, e1, z, e2, rfl⟩ := e
    have hl' : cs.length = a.size + b.size := hl
    have hv' : vs.length = a.size + b.size := hv
    refine ⟨vs.take a.size, vs.drop a.size, by simp, gather_each e1 (by simp; omega) (by simp; omega) fun i c v u z hc hu => ?_, gather_each e2 (by simp; omega) (by simp; omega) fun i c v u z hc hu => ?_⟩
    · rw [List.getElem?_take] at hc hu
      split at hc
      · rename_i hi; rw [if_pos hi] at hu; exact f i c v u z hc hu
      · cases hc
    · rw [List.getElem?_drop] at hc hu
      exact f (a.size + i) c v u z hc hu
  | .bool, [c], [v], x, e, _, _, f => f 0 c v .bool x rfl rfl rfl e
  | .int k, [c], [v], x, e, _, _, f => f 0 c v (.int k) x rfl rfl rfl e
  | .str, [c], [v], x, e, _, _, f => f 0 c v .str x rfl rfl rfl e
  | .raw, [c], [v], x, e, _, _, f => f 0 c v .raw x rfl rfl rfl e
  | .slice t, [c], [v], x, e, _, _, f => f 0 c v (.slice t) x rfl rfl rfl e
theorem flat_pv : ∀ {t : Ty} {x : t.den} {c : ACell}, c ∈ flat t x → ∃ (u : Ty) (z : u.den), c = .pv u z
  | .unit, _, _, h => by cases h
  | .pair a b, x, c, h => by
    simp only [flat, List.mem_append] at h
    exact h.elim flat_pv flat_pv
  | .bool, x, c, h => ⟨.bool, x, by simpa [flat] using h⟩
  | .int k, x, c, h => ⟨.int k, x, by simpa [flat] using h⟩
  | .str, x, c, h => ⟨.str, x, by simpa [flat] using h⟩
  | .raw, x, c, h => ⟨.raw, x, by simpa [flat] using h⟩
  | .slice u, x, c, h => ⟨.slice u, x, by simpa [flat] using h⟩
theorem noSb_mem : ∀ {cs : List ACell}, noSb cs = true → ∀ c ∈ cs, ∀ id i o e y, c ≠ .sb id i o e y
  | [], _, c, hc, _, _, _, _, _ => by cases hc
  | x :: cs, h, c, hc, id, i, o, e, y => by
    rcases List.mem_cons.1 hc with rfl | hc
    · intro he; subst he; cases h
    · refine noSb_mem (cs := cs) ?_ c hc id i o e y
      cases x <;> first | exact h | cases h
theorem noSb_mem2 : ∀ {cs : List ACell}, noSb cs = true → ∀ c ∈ cs, ∀ id k, c ≠ .vw id k
  | [], _, c, hc, _, _ => by cases hc
  | x :: cs, h, c, hc, id, k => by
    rcases List.mem_cons.1 hc with rfl | hc
    · intro he; subst he; cases h
    · refine noSb_mem2 (cs := cs) ?_ c hc id k
      cases x <;> first | exact h | cases h
theorem osIn_mem : ∀ {cs : List ACell} {id : Nat}, .os id ∈ cs → id ∈ osIn cs
  | c :: cs, id, h => by
    rcases List.mem_cons.1 h with rfl | h
    · simp [osIn]
    · have := osIn_mem h
      cases c <;> simp [osIn, this]
theorem splice_rep [Tabs] {T : Blk} (M : Mem h S w m B M0) {get : HGet} (hg : ∀ id o, get id = some o → h id ≠ none → h id = some o) {t : Ty} {x y : t.den} {ds us : List Value} {cs : List ACell} {off : Nat} (hx : Rep T w t ds x) (hc : CellsRel h S w m cs us) (hT : ∀ q, Plus m h S (osIn cs) q → T q) (hn : noSb cs = true)
    (hl : off + cs.length ≤ t.size) (e : gatherG get t (splice (flat t x) off cs) = some y) : Rep T w t (ds.take off ++ us ++ ds.drop (off + us.length)) y := by
  have hf := flat_length t x
  have hd := hx.len
  have hcl := hc.1
  have hfr := flat_rel (h := h) (m := m) hx
  refine gather_each e (by unfold splice; simp; omega) (by simp; omega) fun i c v u z hi hv ha hz => ?_
  unfold splice at hi
  rw [split_get _ _ _ _ (by omega)] at hi
  rw [split_get _ _ _ _ (by omega)] at hv
  have flatCase : (flat t x)[i]? = some c → ds[i]? = some v → Rep T w u [v] z := fun h1 h2 => by
    have := hfr.2.2 i c v h1 h2
    have hmem := flat_pv (List.mem_of_getElem? h1)
    obtain ⟨u', z', rfl⟩ := hmem
    obtain ⟨rfl, rfl⟩ := cast?_some (show cast? u z' = some z from hz)
    exact this.2
  by_cases h1 : i < off
  · rw [if_pos h1] at hi hv
    exact flatCase hi hv
  · rw [if_neg h1] at hi hv
    by_cases h2 : i < off + cs.length
    · rw [if_pos h2] at hi
      rw [if_pos (by omega)] at hv
      have hr := hc.2.2 _ c v hi hv
      have := cellTo_rep M hg ha hz hr
      refine this.mono (fun q hq => hT q ?_) (fun _ _ => rfl) (Nat.le_refl _)
      refine hq.imp id fun ⟨id, hid, rest⟩ => ⟨id, ?_, rest⟩
      have hmem := List.mem_of_getElem? hi
      cases c with
      | os j => simp [idsOf] at hid; subst hid; exact osIn_mem hmem
      | sb j k o e y => exact absurd rfl (noSb_mem hn _ hmem j k o e y)
      | vw j k => exact absurd rfl (noSb_mem2 hn _ hmem j k)
      | _ => simp [idsOf] at hid
    · rw [if_neg h2] at hi
      rw [if_neg (by omega)] at hv
      exact flatCase hi hv
theorem splice_own [Tabs] {get : HGet} {t : Ty} {x y : t.den} {ds us : List Value} {cs : List ACell} {off : Nat} {F : Blk} (hx : Own w t ds x F) (hc : CellsRel h S w m cs us) (hp : plainIn cs = true)
    (hl : off + cs.length ≤ t.size) (e : gatherG get t (splice (flat t x) off cs) = some y) : ∃ F', (∀ q, F' q → F q) ∧ Own w t (ds.take off ++ us ++ ds.drop (off + us.length)) y F' := by
  have hf := flat_length t x
  have hd := hx.len
  have hcl := hc.1
  obtain ⟨Fs, f1, f2, f3⟩ := own_flat hx
  refine ⟨fun q => ∃ i, i < t.size ∧ (if i < off then Fs i q else if i < off + cs.length then False else Fs i q), fun q ⟨i, _, hq⟩ => ?_, own_each (Fs := fun i q => if i < off then Fs i q else if i < off + cs.length then False else Fs i q) e (by unfold splice; simp; omega) (by simp; omega) (fun i c v u z hi hv ha hz => ?_) fun i j q hi hj => ?_⟩
  · split at hq
    · exact f3 i q hq
    · split at hq
      · exact hq.elim
      · exact f3 i q hq
  · unfold splice at hi
    rw [split_get _ _ _ _ (by omega)] at hi
    rw [split_get _ _ _ _ (by omega)] at hv
    have flatCase : (flat t x)[i]? = some c → ds[i]? = some v → Own w u [v] z (Fs i) := fun h1 h2 => by
      obtain ⟨u', z', rfl, ho⟩ := f1 i c v h1 h2
      obtain ⟨rfl, rfl⟩ := cast?_some (show cast? u z' = some z from hz)
      exact ho
    by_cases h1 : i < off
    · rw [if_pos h1] at hi hv
      simp only [if_pos h1]
      exact flatCase hi hv
    · rw [if_neg h1] at hi hv
      simp only [if_neg h1]
      by_cases h2 : i < off + cs.length
      · rw [if_pos h2] at hi
        rw [if_pos (by omega)] at hv
        simp only [if_pos h2]
        have hmem := List.mem_of_getElem? hi
        have hr := hc.2.2 _ c v hi hv
        have hone : plainIn [c] = true := by
          rcases plainIn_mem hp c hmem with rfl | ⟨u', z', rfl, hs⟩
          · rfl
          · cases u' with
            | slice u2 => exact absurd rfl (hs u2)
            | _ => rfl
        have hsz : u.size = 1 := size_one ha
        have hgat : gatherG get u [c] = some z := by cases u <;> first | exact hz | cases ha
        exact gather_own hone hgat (CellsRel.one hr (hc.2.1 v (List.mem_of_getElem? hv))) (by rw [hsz]; rfl)
      · rw [if_neg h2] at hi
        rw [if_neg (by omega)] at hv
        simp only [if_neg h2]
        exact flatCase hi hv
  · have fi : Fs i q := by
      split at hi
      · exact hi
      · split at hi
        · exact hi.elim
        · exact hi
    have fj : Fs j q := by
      split at hj
      · exact hj
      · split at hj
        · exact hj.elim
        · exact hj
    exact f2 i j q fi fj
end
end Go.Ab
namespace Go.Ab
open Go Go.RowKit
section
variable {P : Program} {E : Env} {h : HGet} {S : Blk} {w w' w0 : World} {m m' : OMap} {B : Nat} {M0 : Blk}
def DeepCell (c : ACell) : Prop := (∃ id, c = .os id) ∨ c = .nils ∨ ∃ u z, c = .pv u z ∧ ∀ t, u ≠ .slice t
theorem deepIn_spec [Tabs] : ∀ {cs : List ACell} {hp : AHeap}, deepIn hp cs = true → (osIn cs).Nodup ∧ (∀ id ∈ osIn cs, ∃ t xs, hp.get id = some (.arr true t xs)) ∧ ∀ c ∈ cs, DeepCell c
  | [], _, _ => ⟨List.nodup_nil, (fun _ h => by cases h), (fun _ h => by cases h)⟩
  | c :: cs, hp, h => by
    cases c with
    | os id =>
      simp only [deepIn] at h
      split at h
      · rename_i dd t xs hget
        simp only [Bool.and_eq_true] at h
        obtain ⟨rfl, h⟩ := h
        obtain ⟨h1, h2, h3⟩ := deepIn_spec (cs := cs) h
        refine ⟨List.nodup_cons.2 ⟨fun hm => ?_, h1⟩, fun j hj => ?_, fun c hc => ?_⟩
        · obtain ⟨t', xs', e⟩ := h2 id hm
          rw [get_del, if_pos rfl] at e
          cases e
        · rcases List.mem_cons.1 hj with rfl | hj
          · exact ⟨t, xs, hget⟩
          · obtain ⟨t', xs', e⟩ := h2 j hj
            rw [get_del] at e
            split at e
            · cases e
            · exact ⟨t', xs', e⟩
        · rcases List.mem_cons.1 hc with rfl | hc
          · exact .inl ⟨id, rfl⟩
          · exact h3 c hc
      · simp at h
    | nils =>
      obtain ⟨h1, h2, h3⟩ := deepIn_spec (cs := cs) (hp := hp) h
      exact ⟨h1, h2, fun c hc => (List.mem_cons.1 hc).elim (fun e => .inr (.inl e)) (h3 c)⟩
    | pv u z =>
      cases u with
      | slice u => cases h
      | _ =>
        obtain ⟨h1, h2, h3⟩ := deepIn_spec (cs := cs) (hp := hp) h
        exact ⟨h1, h2, fun c hc => (List.mem_cons.1 hc).elim (fun e => .inr (.inr ⟨_, _, e, fun t h => by cases h⟩)) (h3 c)⟩
    | _ => cases h
def OsBlk (m : OMap) (cs : List ACell) : Blk := fun q => ∃ id ∈ osIn cs, ∃ c, m id = some c ∧ c.F q
theorem deep_own1 [Tabs] (M : Mem h S w m B M0) {get : HGet} (hg : ∀ id o, get id = some o → h id = some o) {t : Ty} (ha : t.isAgg = false) {c : ACell} {v : Value} {x : t.den} (hd : DeepCell c) (ho : ∀ id ∈ osIn [c], ∃ t xs, h id = some (.arr true t xs)) (e : cellToG get t c = some x) (r : CellRel h S w m c v) :
    Own w t [v] x (OsBlk m [c]) := by
  have none : (∀ id, c ≠ .os id) → OsBlk m [c] = fun _ => False := fun hn => by
    funext q
    refine propext ⟨fun ⟨id, hid, _⟩ => ?_, fun h => h.elim⟩
    cases c <;> simp [osIn] at hid
    exact hn _ rfl
  rcases hd with ⟨id, rfl⟩ | rfl | ⟨u, z, rfl, hs⟩
  · obtain ⟨_, oc, hm, hv⟩ := r
    subst hv
    unfold cellToG at e
    simp only at e
    split at e
    · rename_i d t' xs hget
      obtain ⟨hty, hxs⟩ := cast?_some e
      subst hty
      cases hxs
      obtain ⟨t2, xs2, h2⟩ := ho id (by simp [osIn])
      have h3 := hg id _ hget
      rw [h2] at h3
      cases h3
      obtain ⟨oc', hm', ob⟩ := M.obj id _ h2
      obtain rfl : oc' = oc := Option.some.inj (hm'.symm.trans hm)
      have : OsBlk m [.os id] = oc'.F := by
        funext q
        refine propext ⟨fun ⟨j, hj, oc, h1, h2⟩ => ?_, fun hq => ⟨id, by simp [osIn], oc', hm, hq⟩⟩
        simp [osIn] at hj
        subst hj
        obtain rfl : oc' = oc := Option.some.inj (hm.symm.trans h1)
        exact h2
      rw [this]
      exact ⟨_, rfl, ob.2⟩
    · cases e
  · rw [none (fun _ h => by cases h)]
    obtain ⟨o, rfl⟩ : ∃ o : Option Addr, v = .slice o 0 0 := r
    cases t with
    | slice t =>
      cases (Option.some.inj e : ([] : List t.den) = x)
      exact ⟨_, rfl, .inl ⟨⟨_, rfl⟩, rfl, fun _ h => h⟩⟩
    | _ => cases e
  · rw [none (fun _ h => by cases h)]
    obtain ⟨rfl, rfl⟩ := cast?_some (show cast? t z = some x from e)
    have hr := r.2
    cases u with
    | slice u => exact absurd rfl (hs u)
    | bool => exact ⟨hr, fun _ h => h⟩
    | int k => exact ⟨hr, fun _ h => h⟩
    | str => exact ⟨hr, fun _ h => h⟩
    | raw => exact ⟨hr, fun _ h => h⟩
    | unit => cases ha
    | pair a b => cases ha
theorem deep_own [Tabs] (M : Mem h S w m B M0) {get : HGet} (hg : ∀ id o, get id = some o → h id = some o) : ∀ {t : Ty} {cs : List ACell} {vs : List Value} {x : t.den}, (osIn cs).Nodup → (∀ id ∈ osIn cs, ∃ t xs, h id = some (.arr true t xs)) → (∀ c ∈ cs, DeepCell c) →
    gatherG get t cs = some x → CellsRel h S w m cs vs → cs.length = t.size → Own w t vs x (OsBlk m cs)
  | .unit, cs, vs, x, _, _, _, _, r, hl => by
    have hcs : cs = [] := List.eq_nil_of_length_eq_zero hl
    subst hcs
    have : vs = [] := List.eq_nil_of_length_eq_zero r.1.symm
    exact ⟨this, fun q ⟨id, hid, _⟩ => by cases hid⟩
  | .pair a b, cs, vs, x, hn, ho, hd, e, r, hl => by
    simp only [gatherG, Option.bind_eq_some_iff, Option.some.injEq] at e
    obtain ⟨y, e1, z, e2, rfl⟩ := e
    have hl' : cs.length = a.size + b.size := hl
    have hos : osIn cs = osIn (cs.take a.size) ++ osIn (cs.drop a.size) := by rw [← osIn_append, List.take_append_drop]
    rw [hos, List.nodup_append] at hn
    have h1 := deep_own M hg hn.1 (fun id hid => ho id (by rw [hos]; exact List.mem_append_left _ hid)) (fun c hc => hd c (List.mem_of_mem_take hc)) e1 (r.take a.size) (by simp; omega)
    have h2 := deep_own M hg hn.2.1 (fun id hid => ho id (by rw [hos]; exact List.mem_append_right _ hid)) (fun c hc => hd c (List.mem_of_mem_drop hc)) e2 (r.drop a.size) (by simp; omega)
    refine ⟨vs.take a.size, vs.drop a.size, _, _, by simp, h1, h2, fun q ⟨i, hi, c, hc, hF⟩ ⟨j, hj, c', hc', hF'⟩ => ?_, fun q => ⟨fun ⟨i, hi, rest⟩ => ?_, fun h => ?_⟩⟩
    · obtain ⟨_, _, h1⟩ := ho i (by rw [hos]; exact List.mem_append_left _ hi)
      obtain ⟨_, _, h2⟩ := ho j (by rw [hos]; exact List.mem_append_right _ hj)
      exact M.dis i j c c' (hn.2.2 i hi j hj) (heap_ne h1) (heap_ne h2) hc hc' q hF hF'
    · rw [hos, List.mem_append] at hi
      exact hi.imp (fun hi => ⟨i, hi, rest⟩) (fun hi => ⟨i, hi, rest⟩)
    · rcases h with ⟨i, hi, rest⟩ | ⟨i, hi, rest⟩
      · exact ⟨i, by rw [hos]; exact List.mem_append_left _ hi, rest⟩
      · exact ⟨i, by rw [hos]; exact List.mem_append_right _ hi, rest⟩
  | .bool, [c], vs, x, _, ho, hd, e, r, _ => by
    obtain ⟨v, us, rfl, hr, _, hu⟩ := r.uncons
    have : us = [] := List.eq_nil_of_length_eq_zero hu.1.symm
    subst this
    exact deep_own1 M hg rfl (hd c (by simp)) ho e hr
  | .int k, [c], vs, x, _, ho, hd, e, r, _ => by
    obtain ⟨v, us, rfl, hr, _, hu⟩ := r.uncons
    have : us = [] := List.eq_nil_of_length_eq_zero hu.1.symm
    subst this
    exact deep_own1 M hg rfl (hd c (by simp)) ho e hr
  | .str, [c], vs, x, _, ho, hd, e, r, _ => by
    obtain ⟨v, us, rfl, hr, _, hu⟩ := r.uncons
    have : us = [] := List.eq_nil_of_length_eq_zero hu.1.symm
    subst this
    exact deep_own1 M hg rfl (hd c (by simp)) ho e hr
  | .raw, [c], vs, x, _, ho, hd, e, r, _ => by
    obtain ⟨v, us, rfl, hr, _, hu⟩ := r.uncons
    have : us = [] := List.eq_nil_of_length_eq_zero hu.1.symm
    subst this
    exact deep_own1 M hg rfl (hd c (by simp)) ho e hr
  | .slice t, [c], vs, x, _, ho, hd, e, r, _ => by
    obtain ⟨v, us, rfl, hr, _, hu⟩ := r.uncons
    have : us = [] := List.eq_nil_of_length_eq_zero hu.1.symm
    subst this
    exact deep_own1 M hg rfl (hd c (by simp)) ho e hr
theorem osIn_inj [Tabs] : ∀ {cs : List ACell} {a b id : Nat}, (osIn cs).Nodup → cs[a]? = some (ACell.os id) → cs[b]? = some (ACell.os id) → a = b
  | [], a, _, _, _, h, _ => by simp at h
  | c :: cs, a, b, id, hn, ha, hb => by
    have hn' : (osIn cs).Nodup := by
      cases c with
      | os j => exact (List.nodup_cons.1 hn).2
      | _ => exact hn
    have out : ∀ k : Nat, c = ACell.os id → cs[k]? = some (ACell.os id) → False := fun k e hk => by
      subst e
      exact (List.nodup_cons.1 hn).1 (osIn_mem (List.mem_of_getElem? hk))
    cases a with
    | zero =>
      cases b with
      | zero => rfl
      | succ b =>
        simp at ha hb
        exact (out b ha hb).elim
    | succ a =>
      cases b with
      | zero =>
        simp at ha hb
        exact (out a hb ha).elim
      | succ b =>
        have := osIn_inj (cs := cs) (a := a) (b := b) (id := id) hn' (by simpa using ha) (by simpa using hb)
        omega
theorem OsBlk.sub [Tabs] {cs : List ACell} {c : ACell} (hc : c ∈ cs) {q : Nat} (h : OsBlk m [c] q) : OsBlk m cs q := by
  obtain ⟨id, hid, rest⟩ := h
  refine ⟨id, ?_, rest⟩
  cases c with
  | os j =>
    simp only [osIn, List.mem_singleton] at hid
    subst hid
    exact osIn_mem hc
  | _ => cases hid
theorem Orphan.moved [Tabs] {s : AS} (M : Mem s.h.get S w m B M0) {cs : List ACell} (hin : ∀ id ∈ osIn cs, s.h.get id ≠ none) : Orphan (s.killL (osIn cs)).h.get S w m B M0 (OsBlk m cs) :=
  ⟨fun q ⟨id, hid, c, hc, hF⟩ => M.apart id c (hin id hid) hc q hF, fun j d hj hd q ⟨id, hid, c, hc, hF⟩ hq => by
    obtain ⟨h1, h2⟩ := killL_ne _ _ _ hj
    exact M.dis id j c d (fun e => h1 (e ▸ hid)) (hin id hid) h2 hc hd q hF hq⟩
theorem splice_deep [Tabs] (M : Mem h S w m B M0) {get : HGet} (hg : ∀ id o, get id = some o → h id = some o) {t : Ty} {x y : t.den} {ds us : List Value} {cs : List ACell} {off : Nat} {F : Blk} (hx : Own w t ds x F) (hc : CellsRel h S w m cs us)
    (hn : (osIn cs).Nodup) (ho : ∀ id ∈ osIn cs, ∃ t xs, h id = some (.arr true t xs)) (hd : ∀ c ∈ cs, DeepCell c) (hfar : ∀ q, F q → ¬ OsBlk m cs q)
    (hl : off + cs.length ≤ t.size) (e : gatherG get t (splice (flat t x) off cs) = some y) : ∃ F', (∀ q, F' q → F q ∨ OsBlk m cs q) ∧ Own w t (ds.take off ++ us ++ ds.drop (off + us.length)) y F' := by
  have hf := flat_length t x
  have hdl := hx.len
  have hcl := hc.1
  obtain ⟨Fs, f1, f2, f3⟩ := own_flat hx
  have mid : ∀ k q, (∃ c, cs[k]? = some c ∧ OsBlk m [c] q) → OsBlk m cs q := fun k q ⟨c, hk, hq⟩ => OsBlk.sub (List.mem_of_getElem? hk) hq
  refine ⟨fun q => ∃ i, i < t.size ∧ (if i < off then Fs i q else if i < off + cs.length then (∃ c, cs[i - off]? = some c ∧ OsBlk m [c] q) else Fs i q), fun q ⟨i, _, hq⟩ => ?_, own_each (Fs := fun i q => if i < off then Fs i q else if i < off + cs.length then (∃ c, cs[i - off]? = some c ∧ OsBlk m [c] q) else Fs i q) e (by unfold splice; simp; omega) (by simp; omega) (fun i c v u z hi hv ha hz => ?_) fun i j q hi hj => ?_⟩
  · split at hq
    · exact .inl (f3 i q hq)
    · split at hq
      · exact .inr (mid _ q hq)
      · exact .inl (f3 i q hq)
  · unfold splice at hi
    rw [split_get _ _ _ _ (by omega)] at hi
    rw [split_get _ _ _ _ (by omega)] at hv
    have flatCase : (flat t x)[i]? = some c → ds[i]? = some v → Own w u [v] z (Fs i) := fun h1 h2 => by
      obtain ⟨u', z', rfl, ho⟩ := f1 i c v h1 h2
      obtain ⟨rfl, rfl⟩ := cast?_some (show cast? u z' = some z from hz)
      exact ho
    by_cases h1 : i < off
    · rw [if_pos h1] at hi hv
      simp only [if_pos h1]
      exact flatCase hi hv
    · rw [if_neg h1] at hi hv
      simp only [if_neg h1]
      by_cases h2 : i < off + cs.length
      · rw [if_pos h2] at hi
        rw [if_pos (by omega)] at hv
        simp only [if_pos h2]
        have hmem := List.mem_of_getElem? hi
        have hr := hc.2.2 _ c v hi hv
        have e : (fun q => ∃ c, cs[i - off]? = some c ∧ OsBlk m [c] q) = OsBlk m [c] := by
          funext q
          refine propext ⟨fun ⟨c', h1, h2⟩ => ?_, fun h => ⟨c, hi, h⟩⟩
          rw [hi] at h1
          cases h1
          exact h2
        show Own w u [v] z (fun q => ∃ c, cs[i - off]? = some c ∧ OsBlk m [c] q)
        rw [e]
        refine deep_own1 M hg ha (hd c hmem) (fun id hid => ho id ?_) hz hr
        cases c with
        | os j =>
          simp only [osIn, List.mem_singleton] at hid
          subst hid
          exact osIn_mem hmem
        | _ => cases hid
      · rw [if_neg h2] at hi
        rw [if_neg (by omega)] at hv
        simp only [if_neg h2]
        exact flatCase hi hv
  · have cases_ : ∀ k q, (if k < off then Fs k q else if k < off + cs.length then (∃ c, cs[k - off]? = some c ∧ OsBlk m [c] q) else Fs k q) → Fs k q ∨ (off ≤ k ∧ ∃ id c, cs[k - off]? = some (.os id) ∧ m id = some c ∧ c.F q) := fun k q h => by
      split at h
      · exact .inl h
      · split at h
        · obtain ⟨c, h1, id, hid, c', hc', hF⟩ := h
          cases c with
          | os j =>
            simp only [osIn, List.mem_singleton] at hid
            subst hid
            exact .inr ⟨by omega, id, c', h1, hc', hF⟩
          | _ => cases hid
        · exact .inl h
    have blk : ∀ k q, (off ≤ k ∧ ∃ id c, cs[k - off]? = some (.os id) ∧ m id = some c ∧ c.F q) → OsBlk m cs q := fun k q ⟨_, id, c, h1, h2, h3⟩ => ⟨id, osIn_mem (List.mem_of_getElem? h1), c, h2, h3⟩
    rcases cases_ i q hi with a | a <;> rcases cases_ j q hj with b | b
    · exact f2 i j q a b
    · exact (hfar q (f3 i q a) (blk j q b)).elim
    · exact (hfar q (f3 j q b) (blk i q a)).elim
    · obtain ⟨hi', id, c, h1, h2, h3⟩ := a
      obtain ⟨hj', id', c', k1, k2, k3⟩ := b
      have hid : id = id' := Classical.byContradiction fun ne => by
        obtain ⟨_, _, e1⟩ := ho id (osIn_mem (List.mem_of_getElem? h1))
        obtain ⟨_, _, e2⟩ := ho id' (osIn_mem (List.mem_of_getElem? k1))
        exact M.dis id id' c c' ne (heap_ne e1) (heap_ne e2) h2 k2 q h3 k3
      subst hid
      have := osIn_inj hn h1 k1
      omega
end
end Go.Ab
