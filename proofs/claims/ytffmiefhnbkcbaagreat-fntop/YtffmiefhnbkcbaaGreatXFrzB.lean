/-
  A variable of ours becomes one that stays as it is.
-/
import Derived.Test.YtffmiefhnbkcbaaGreatXState
namespace Go.Ab
open Go Go.RowKit
section
variable {P : Program} {E : Env} {h : HGet} {S : Blk} {w w0 : World} {m : OMap} {B : Nat} {M0 : Blk}
theorem frzB_mapC (id : Nat) (t : Ty) (x : t.den) (v : AVal) : v.frzB id t x = v.mapC (ACell.frzB id t x) := by cases v <;> rfl
theorem frzBO_mapC (id : Nat) (t : Ty) (x : t.den) (o : AObj) : o.frzB id t x = o.mapC (ACell.frzB id t x) := by cases o <;> rfl
theorem frzB_carry [Tabs] {id : Nat} {t : Ty} {x : t.den} {cs : List ACell} {c : OC} (M : Mem h S w m B M0) (ho : h id = some (.box cs)) (hc : m id = some c) (hl : cs.length = t.size) (hi : idsOf cs = []) (hx : gatherG (fun _ => none) t cs = some x) {h' : HGet} (hh : ∀ j, j ≠ id → h' j = (h j).map (AObj.frzB id t x)) :
    Carry h h' S (fun q => S q ∨ c.F q) w w m m (ACell.frzB id t x) := by
  have sub : ∀ q, S q → (S q ∨ c.F q) := fun _ hq => .inl hq
  have arr : ∀ j d u xs, h j = some (.arr d u xs) → j ≠ id := fun j d u xs e e2 => by subst e2; rw [ho] at e; cases e
  refine ⟨fun y v r => ?_⟩
  cases y with
  | und => trivial
  | nils => exact r
  | pv t x => exact ⟨r.1, r.2.mono sub (fun _ _ => rfl) (Nat.le_refl _)⟩
  | pc t x => obtain ⟨b, o, ds, h1, h2, h3, h4, h5⟩ := r; exact ⟨b, o, ds, h1, .inl h2, h3, h4, h5.mono sub (fun _ _ => rfl) (Nat.le_refl _)⟩
  | os j =>
    obtain ⟨⟨d, u, xs, e⟩, rest⟩ := r
    exact ⟨⟨d, u, xs, by rw [hh j (arr _ _ _ _ e), e]; rfl⟩, rest⟩
  | op j off =>
    by_cases e : j = id
    · subst e
      simp only [ACell.frzB, Nat.beq_refl, cond_true]
      cases ho0 : Nat.beq off 0 with
      | false => trivial
      | true =>
        have := Nat.eq_of_beq_eq_true ho0
        subst this
        obtain ⟨_, c', b, hc', hv, rfl⟩ := r
        obtain rfl : c = c' := Option.some.inj (hc.symm.trans hc')
        obtain ⟨c2, hc2, b2, cur, el, k1, k2, k3, k4⟩ := M.obj j _ ho
        obtain rfl : c = c2 := Option.some.inj (hc.symm.trans hc2)
        rw [k1] at hv
        simp only [Value.pointer.injEq, Option.some.injEq, Addr.mk.injEq] at hv
        obtain ⟨rfl, _⟩ := hv
        have hrep := gather_rep M (get := fun _ => none) (fun _ _ h => nomatch h) hx k3 hl
        rw [hi] at hrep
        refine ⟨b2, 0, cur.toList, rfl, .inr ((k4 b2).2 rfl), lt_of_heap k2, ?_, hrep.mono (fun q hq => ?_) (fun _ _ => rfl) (Nat.le_refl _)⟩
        · have := reads_of_cells k2 0 cur.toList.length
          rwa [List.drop_zero, List.take_length] at this
        · rcases hq with hq | ⟨i, hi, _⟩
          · exact .inl hq
          · cases hi
    · simp only [ACell.frzB, beq_false e, cond_false]
      obtain ⟨⟨ds, ho'⟩, rest⟩ := r
      exact ⟨⟨_, by rw [hh j e, ho']; rfl⟩, rest⟩
  | oe j i off =>
    obtain ⟨⟨d, u, xs, e, hi⟩, rest⟩ := r
    exact ⟨⟨d, u, xs, by rw [hh j (arr _ _ _ _ e), e]; rfl, hi⟩, rest⟩
  | sb j i off e' y =>
    obtain ⟨d, xs, e, rest⟩ := r
    exact ⟨d, xs, by rw [hh j (arr _ _ _ _ e), e]; rfl, rest⟩
  | vw j k =>
    obtain ⟨o, e, hnb, rest⟩ := r
    have hj : j ≠ id := fun e2 => by subst e2; rw [ho] at e; cases e; cases hnb
    cases o with
    | box cs => cases hnb
    | arr d u xs => exact ⟨_, by rw [hh j hj, e]; rfl, rfl, rest⟩
    | src u k xs => exact ⟨_, by rw [hh j hj, e]; rfl, rfl, rest⟩
  | cl f caps => obtain ⟨cs, e, k⟩ := r; exact ⟨cs, e, k.mono sub (fun _ _ => rfl) (Nat.le_refl _)⟩
theorem ObjRel.carryS [Tabs] {h' : HGet} {S' : Blk} {f : ACell → ACell} (F : Carry h h' S S' w w m m f) (hS : ∀ q, S q → S' q) {o : AObj} {c : OC} (r : ObjRel h S w m o c) : ObjRel h' S' w m (o.mapC f) c := by
  cases o with
  | box cs => obtain ⟨b, cur, e, h1, h2, h3, h4⟩ := r; exact ⟨b, cur, e, h1, h2, h3.carry F, h4⟩
  | arr d t xs => exact ⟨r.1, ArrRel.mono r.2 hS (fun _ _ => rfl) (fun _ _ => rfl) (Nat.le_refl _)⟩
  | src t k xs => exact r
theorem Rel.frzB [Tabs] {s : AS} {a : Act} (R : Rel w0 B M0 S m s a w) (id : Nat) (t : Ty) : ∃ S', (∀ q, S q → S' q) ∧ (∀ q, S' q → S q ∨ B ≤ q ∨ M0 q) ∧ Rel w0 B M0 S' m (s.frzB id t) a w := by
  have same : ∃ S', (∀ q, S q → S' q) ∧ (∀ q, S' q → S q ∨ B ≤ q ∨ M0 q) ∧ Rel w0 B M0 S' m s a w := ⟨S, fun _ h => h, fun _ h => .inl h, R⟩
  unfold AS.frzB
  split
  · rename_i cs ho
    cases hl : Nat.beq cs.length t.size with
    | false => exact same
    | true =>
    simp only [cond_true]
    split
    · rename_i x hi hx
      obtain ⟨c, hc, hr⟩ := R.mem.obj id _ ho
      have hget : ∀ j, AHeap.get ((s.h.del id).map fun p => (p.1, p.2.frzB id t x)) j = if j = id then none else (s.h.get j).map (AObj.frzB id t x) := by
        intro j
        rw [get_mapK (fun _ o => o.frzB id t x), get_del]
        split <;> rfl
      have F := frzB_carry (h' := AHeap.get ((s.h.del id).map fun p => (p.1, p.2.frzB id t x))) R.mem ho hc (Nat.eq_of_beq_eq_true hl) hi hx (fun j hj => by rw [hget j, if_neg hj])
      have hne : ∀ j, AHeap.get ((s.h.del id).map fun p => (p.1, p.2.frzB id t x)) j ≠ none → s.h.get j ≠ none ∧ j ≠ id := fun j hj => by
        rw [hget j] at hj
        split at hj
        · exact absurd rfl hj
        · rename_i e; exact ⟨fun e' => hj (by rw [e']; rfl), e⟩
      refine ⟨fun q => S q ∨ c.F q, fun _ hq => .inl hq, fun q hq => hq.imp (fun h => h) fun hq => (R.mem.apart id c (heap_ne ho) hc q hq).2.2, ⟨⟨fun j o e => ?_, fun i j c1 c2 hij hi hj => R.mem.dis i j c1 c2 hij (hne i hi).1 (hne j hj).1, fun i c1 hi hc1 q hq => ?_, fun q hq => ?_⟩, R.frm, ?_, by simp [R.size], R.defers⟩⟩
      · rw [hget j] at e
        split at e
        · cases e
        · cases hj : s.h.get j with
          | none => rw [hj] at e; cases e
          | some o' =>
            rw [hj] at e
            simp only [Option.map_some, Option.some.injEq] at e
            subst e
            obtain ⟨c', h1, h2⟩ := R.mem.obj j o' hj
            rw [frzBO_mapC]
            exact ⟨c', h1, h2.carryS F fun _ hq => .inl hq⟩
      · have := R.mem.apart i c1 (hne i hi).1 hc1 q hq
        refine ⟨fun hs => ?_, this.2⟩
        rcases hs with hs | hs
        · exact this.1 hs
        · exact R.mem.dis i id c1 c (hne i hi).2 (hne i hi).1 (heap_ne ho) hc1 hc q hq hs
      · rcases hq with hq | hq
        · exact R.mem.lt q hq
        · exact (R.mem.apart id c (heap_ne ho) hc q hq).2.1
      · have := tmps_carry F R.tmps rfl
        have e : s.ρ.map (·.frzB id t x) = s.ρ.map (AVal.mapC (ACell.frzB id t x)) := congrArg (fun f => s.ρ.map f) (funext (frzB_mapC id t x))
        rw [e]; exact this
    · exact same
  · exact same
theorem Rel.frzBs [Tabs] {a : Act} : ∀ (l : List (Nat × Ty)) {S : Blk} {s : AS}, Rel w0 B M0 S m s a w → ∃ S', (∀ q, S q → S' q) ∧ (∀ q, S' q → S q ∨ B ≤ q ∨ M0 q) ∧ Rel w0 B M0 S' m (s.frzBs l) a w
  | [], S, _, R => ⟨S, fun _ h => h, fun _ h => .inl h, R⟩
  | p :: l, S, s, R => by
    obtain ⟨S1, h1, n1, R1⟩ := R.frzB p.1 p.2
    obtain ⟨S2, h2, n2, R2⟩ := Rel.frzBs l R1
    exact ⟨S2, fun q hq => h2 q (h1 q hq), fun q hq => (n2 q hq).elim (fun h => n1 q h) .inr, R2⟩
end
end Go.Ab
