/-
  What a call has turned, put back into the objects.
-/
import Derived.Test.YtkemmodgpafkmaaGreatDoorXAppend
import Derived.Test.YtkemmodgpafkmaaGreatDoorXCall
namespace Go.Ab
open Go Go.RowKit
section
variable {P : Program} {E : Env} {h : HGet} {S : Blk} {w w' w0 : World} {m m' : OMap} {B : Nat} {M0 : Blk}
structure Back (s s' : AS) (ids : List Nat) (f : ACell → ACell) : Prop where
  ρ : s'.ρ = s.ρ.map (AVal.mapC f)
  rest : ∀ j, j ∉ ids → s'.h.get j = (s.h.get j).map (AObj.mapC f)
  und : ∀ c, f c = c ∨ f c = .und
  sb : ∀ j ∈ ids, ∀ i off e y, f (.sb j i off e y) = .und
  vw : ∀ j ∈ ids, ∀ k, f (.vw j k) = .und
  t : s.t ≤ s'.t
theorem mapC_ids [Tabs] (s : AS) : Back s s [] (fun c => c) := ⟨by
    have : (AVal.mapC fun c => c) = _root_.id := funext mapCV_id
    rw [this]; simp, fun j _ => by cases s.h.get j <;> simp [mapC_id], fun c => .inl rfl, (fun j hj => by cases hj), (fun j hj => by cases hj), Nat.le_refl _⟩
theorem Back.trans {s s1 s2 : AS} {l r : List Nat} {f g : ACell → ACell} (x : Back s s1 l f) (y : Back s1 s2 r g) : Back s s2 (l ++ r) (fun c => g (f c)) := by
  have gu : g .und = .und := (y.und .und).elim (fun h => h) fun h => h
  refine ⟨?_, fun j hj => ?_, fun c => ?_, fun j hj i off e z => ?_, fun j hj k => ?_, Nat.le_trans x.t y.t⟩
  · rw [y.ρ, x.ρ, List.map_map]
    refine List.map_congr_left fun v _ => ?_
    cases v <;> simp [AVal.mapC]
  · rw [List.mem_append, not_or] at hj
    rw [y.rest j hj.2, x.rest j hj.1]
    cases s.h.get j with
    | none => rfl
    | some o => cases o <;> simp [AObj.mapC]
  · rcases x.und c with h | h
    · show g (f c) = c ∨ g (f c) = .und
      rw [h]; exact y.und c
    · exact .inr (by show g (f c) = _; rw [h]; exact gu)
  · show g (f _) = .und
    rcases List.mem_append.1 hj with hj | hj
    · rw [x.sb j hj]; exact gu
    · rcases x.und (.sb j i off e z) with h | h
      · rw [h]; exact y.sb j hj i off e z
      · rw [h]; exact gu
  · show g (f _) = .und
    rcases List.mem_append.1 hj with hj | hj
    · rw [x.vw j hj]; exact gu
    · rcases x.und (.vw j k) with h | h
      · rw [h]; exact y.vw j hj k
      · rw [h]; exact gu
theorem updA_back [Tabs] (s : AS) (id : Nat) (o : AObj) : Back s (s.updA id o) [id] (ACell.killSb id) := by
  refine ⟨congrArg (fun f => s.ρ.map f) (funext (killSb_mapC id)), fun j hj => ?_, fun c => ?_, fun j hj i off e y => ?_, fun j hj k => ?_, Nat.le_succ _⟩
  · show AHeap.get _ j = _
    rw [AS.updA, get_updA, if_neg (by simpa using hj)]
    exact congrArg (fun f => Option.map f (s.h.get j)) (funext (killSbO_mapC id))
  · cases c with
    | sb j i off e y =>
      simp only [ACell.killSb]
      cases Nat.beq j id with
      | true => exact .inr rfl
      | false => exact .inl rfl
    | vw j k =>
      simp only [ACell.killSb]
      cases Nat.beq j id with
      | true => exact .inr rfl
      | false => exact .inl rfl
    | _ => exact .inl rfl
  · have : j = id := by simpa using hj
    subst this
    simp [ACell.killSb]
  · have : j = id := by simpa using hj
    subst this
    simp [ACell.killSb]
theorem updA_get [Tabs] (s : AS) (id : Nat) (o : AObj) {o0 : AObj} (h : s.h.get id = some o0) : (s.updA id o).h.get id = some o := by
  show AHeap.get _ id = _
  rw [AS.updA, get_updA, if_pos rfl, h]
  rfl
theorem backIn_os [Tabs] {get : HGet} : ∀ {t : Ty} {x0 y : t.den} {cs : List ACell} {s : AS} {R' : Type} {k : AS → Option R'} {r : R'}, backIn t y cs s k = some r → gatherG get t cs = some x0 → (∀ id ∈ osIn cs, ∀ o, get id = some o → s.h.get id = some o) → cs.length = t.size → (osIn cs).Nodup →
    (∀ id ∈ osIn cs, ∃ t xs, s.h.get id = some (.arr true t xs)) → (∀ c ∈ cs, DeepCell c) →
    ∃ s' f, k s' = some r ∧ Back s s' (osIn cs) f ∧ ∀ (i : Nat) (id : Nat), cs[i]? = some (.os id) → ∃ t' xs ys, s.h.get id = some (.arr true t' xs) ∧ (flat t y)[i]? = some (.pv (.slice t') ys) ∧ s'.h.get id = some (.arr true t' ys)
  | .unit, x0, y, cs, s, _, k, r, e, _, _, hl, _, _, _ => by
    have : cs = [] := List.eq_nil_of_length_eq_zero hl
    subst this
    exact ⟨s, _, e, mapC_ids s, fun i id h => by simp at h⟩
  | .pair a b, x0, y, cs, s, _, k, r, e, hg, hget, hl, hn, ha, hd => by
    simp only [gatherG, Option.bind_eq_some_iff, Option.some.injEq] at hg
    obtain ⟨x1, g1, x2, g2, rfl⟩ := hg
    have hl' : cs.length = a.size + b.size := hl
    have hos : osIn cs = osIn (cs.take a.size) ++ osIn (cs.drop a.size) := by rw [← osIn_append, List.take_append_drop]
    rw [hos] at hn hget ha
    rw [List.nodup_append] at hn
    simp only [backIn] at e
    obtain ⟨s1, f1, e1, b1, p1⟩ := backIn_os e g1 (fun id hid => hget id (List.mem_append_left _ hid)) (by simp; omega) hn.1 (fun id hid => ha id (List.mem_append_left _ hid)) (fun c hc => hd c (List.mem_of_mem_take hc))
    have apart : ∀ id ∈ osIn (cs.drop a.size), id ∉ osIn (cs.take a.size) := fun id h1 h2 => hn.2.2 id h2 id h1 rfl
    have keep : ∀ id ∈ osIn (cs.drop a.size), ∀ t xs, s.h.get id = some (.arr true t xs) → s1.h.get id = some (.arr true t xs) := fun id hid t xs h => by rw [b1.rest id (apart id hid), h]; rfl
    obtain ⟨s2, f2, e2, b2, p2⟩ := backIn_os e1 g2 (fun id hid o ho => by
        obtain ⟨t, xs, h⟩ := ha id (List.mem_append_right _ hid)
        have h2 := hget id (List.mem_append_right _ hid) o ho
        rw [h] at h2
        cases h2
        exact keep id hid t xs h) (by simp; omega) hn.2.1 (fun id hid => by
        obtain ⟨t, xs, h⟩ := ha id (List.mem_append_right _ hid)
        exact ⟨t, xs, keep id hid t xs h⟩) (fun c hc => hd c (List.mem_of_mem_drop hc))
    refine ⟨s2, _, e2, by rw [hos]; exact b1.trans b2, fun i id hi => ?_⟩
    have hfa : (flat a y.1).length = a.size := flat_length a y.1
    by_cases hlt : i < a.size
    · obtain ⟨t', xs, ys, q1, q2, q3⟩ := p1 i id (by rw [List.getElem?_take_of_lt hlt]; exact hi)
      have hmem : id ∈ osIn (cs.take a.size) := osIn_mem (List.mem_of_getElem? (by rw [List.getElem?_take_of_lt hlt]; exact hi))
      refine ⟨t', xs, ys, q1, ?_, ?_⟩
      · simp only [flat]; rw [List.getElem?_append_left (by omega)]; exact q2
      · rw [b2.rest id (fun h => apart id h hmem), q3]; rfl
    · have hi' : (cs.drop a.size)[i - a.size]? = some (.os id) := by rw [List.getElem?_drop]; rw [show a.size + (i - a.size) = i by omega]; exact hi
      have hmem : id ∈ osIn (cs.drop a.size) := osIn_mem (List.mem_of_getElem? hi')
      obtain ⟨t', xs, ys, q1, q2, q3⟩ := p2 (i - a.size) id hi'
      obtain ⟨t0, xs0, h0⟩ := ha id (List.mem_append_right _ hmem)
      have h1 := keep id hmem t0 xs0 h0
      rw [q1] at h1
      cases h1
      refine ⟨t', xs, ys, h0, ?_, q3⟩
      simp only [flat]
      rw [List.getElem?_append_right (by omega), hfa]
      exact q2
  | .bool, x0, y, [c], s, _, k, r, e, hg, _, _, _, _, hd => by
    rcases hd c (by simp) with ⟨id, rfl⟩ | rfl | ⟨u, z, rfl, _⟩
    · simp only [gatherG, cellToG] at hg
      split at hg
      · obtain ⟨h, _⟩ := cast?_some hg; cases h
      · cases hg
    · cases hg
    · exact ⟨s, _, e, mapC_ids s, fun i id h => by cases i <;> simp at h⟩
  | .int kk, x0, y, [c], s, _, k, r, e, hg, _, _, _, _, hd => by
    rcases hd c (by simp) with ⟨id, rfl⟩ | rfl | ⟨u, z, rfl, _⟩
    · simp only [gatherG, cellToG] at hg
      split at hg
      · obtain ⟨h, _⟩ := cast?_some hg; cases h
      · cases hg
    · cases hg
    · exact ⟨s, _, e, mapC_ids s, fun i id h => by cases i <;> simp at h⟩
  | .str, x0, y, [c], s, _, k, r, e, hg, _, _, _, _, hd => by
    rcases hd c (by simp) with ⟨id, rfl⟩ | rfl | ⟨u, z, rfl, _⟩
    · simp only [gatherG, cellToG] at hg
      split at hg
      · obtain ⟨h, _⟩ := cast?_some hg; cases h
      · cases hg
    · cases hg
    · exact ⟨s, _, e, mapC_ids s, fun i id h => by cases i <;> simp at h⟩
  | .raw, x0, y, [c], s, _, k, r, e, hg, _, _, _, _, hd => by
    rcases hd c (by simp) with ⟨id, rfl⟩ | rfl | ⟨u, z, rfl, _⟩
    · simp only [gatherG, cellToG] at hg
      split at hg
      · obtain ⟨h, _⟩ := cast?_some hg; cases h
      · cases hg
    · cases hg
    · exact ⟨s, _, e, mapC_ids s, fun i id h => by cases i <;> simp at h⟩
  | .slice t, x0, y, [c], s, _, k, r, e, hg, hget, _, _, ha, hd => by
    rcases hd c (by simp) with ⟨id, rfl⟩ | rfl | ⟨u, z, rfl, hs⟩
    · simp only [gatherG, cellToG] at hg
      split at hg
      · rename_i d t1 xs1 h1
        obtain ⟨hty, _⟩ := cast?_some hg
        have hty' : t1 = t := by cases hty; rfl
        subst hty'
        have h2 := hget id (by simp [osIn]) _ h1
        obtain ⟨t3, xs3, h3⟩ := ha id (by simp [osIn])
        rw [h2] at h3
        cases h3
        simp only [backIn, h2] at e
        refine ⟨_, _, e, updA_back s id _, fun i j hj => ?_⟩
        cases i with
        | zero =>
          simp at hj
          subst hj
          exact ⟨t1, xs1, y, h2, rfl, updA_get s id _ h2⟩
        | succ i => simp at hj
      · cases hg
    · exact ⟨s, _, e, mapC_ids s, fun i id h => by cases i <;> simp at h⟩
    · exact ⟨s, _, e, mapC_ids s, fun i id h => by cases i <;> simp at h⟩
end
end Go.Ab
