/-
  append onto a slice of ours.
-/
import Derived.Test.YtffmiefhnbkcbaaGreatXOwn
import Derived.Laws.AppendOwn
namespace Go.Ab
open Go Go.RowKit
section
variable {P : Program} {E : Env} {h : HGet} {S : Blk} {w w' w0 : World} {m m' : OMap} {B : Nat} {M0 : Blk}
theorem Rel.rebornX [Tabs] {X : Blk} {s : AS} {a : Act} (R : Rel w0 B M0 S m s a w) (hB : B ≤ w.heap.size) {id : Nat} {o0 : AObj} (ho : s.h.get id = some o0) {c : OC} (hc : m id = some c) {d : Bool} {t : Ty} {zs : List t.den} {v : Value} {F' : Blk}
    (hsz : w.heap.size ≤ w'.heap.size) (hrest : ∀ q, q < w.heap.size → ¬ c.F q → w'.heap[q]? = w.heap[q]?) (hos : w'.os = w.os) (ht : w'.tape = w.tape) (hu : w'.output = w.output) (hz : ∀ a : Addr, a.block < w.heap.size → w'.frozen? a = w.frozen? a)
    (hrel : ArrRel S w' d t v zs F') (hX : Orphan s.h.get S w m B M0 X) (hF' : ∀ q, F' q → c.F q ∨ X q ∨ (w.heap.size ≤ q ∧ q < w'.heap.size)) :
    ∃ m', Rel w0 B M0 S m' { s.kill id with h := (id, .arr d t zs) :: (s.kill id).h } a w' ∧ (∀ q, S q → w'.heap[q]? = w.heap[q]?) ∧ m' id = some ⟨v, F', t⟩ := by
  let m' : OMap := fun j => if j = id then some ⟨v, F', t⟩ else m j
  have T : Turn s.h.get S w w' m m' id c := ⟨heap_ne ho, hc, hsz, hrest, fun j hj => if_neg hj⟩
  have hget : ∀ j, AHeap.get ((id, AObj.arr d t zs) :: (s.kill id).h) j = if j = id then some (.arr d t zs) else (s.h.get j).map (AObj.mapC (ACell.kill id)) := by
    intro j
    simp only [AHeap.get]
    cases hb : Nat.beq id j with
    | true => have := Nat.eq_of_beq_eq_true hb; subst this; simp
    | false =>
      have hj : j ≠ id := fun e => by subst e; simp at hb
      rw [cond_false, if_neg hj, get_kill, if_neg hj]
      exact congrArg (fun f => Option.map f (s.h.get j)) (funext (killO_mapC id))
  have hh : ∀ j, j ≠ id → AHeap.get ((id, AObj.arr d t zs) :: (s.kill id).h) j = (s.h.get j).map (AObj.mapC (ACell.kill id)) := fun j hj => by rw [hget j, if_neg hj]
  have F : Carry s.h.get (AHeap.get ((id, AObj.arr d t zs) :: (s.kill id).h)) S S w w' m m' (ACell.kill id) := by
    refine carry_turn T R.mem hh (fun c hr => ?_) (fun c v hr r => ?_)
    · cases c with
      | os j => simp only [ACell.kill, ACell.refs] at hr ⊢; rw [hr]; exact .inl rfl
      | op j o => simp only [ACell.kill, ACell.refs] at hr ⊢; rw [hr]; exact .inl rfl
      | oe j i o => simp only [ACell.kill, ACell.refs] at hr ⊢; rw [hr]; exact .inl rfl
      | sb j i o e y => simp only [ACell.kill, ACell.refs] at hr ⊢; rw [hr]; exact .inl rfl
      | vw j k => simp only [ACell.kill, ACell.refs] at hr ⊢; rw [hr]; exact .inl rfl
      | _ => exact .inl rfl
    · cases c with
      | os j => simp only [ACell.kill, ACell.refs] at hr ⊢; rw [hr]; trivial
      | op j o => simp only [ACell.kill, ACell.refs] at hr ⊢; rw [hr]; trivial
      | oe j i o => simp only [ACell.kill, ACell.refs] at hr ⊢; rw [hr]; trivial
      | sb j i o e y => simp only [ACell.kill, ACell.refs] at hr ⊢; rw [hr]; trivial
      | vw j k => simp only [ACell.kill, ACell.refs] at hr ⊢; rw [hr]; trivial
      | _ => cases hr
  refine ⟨m', ⟨mem_turnX hX (c' := ⟨v, F', t⟩) (o' := .arr d t zs) T R.mem hB F hh (by rw [hget id, if_pos rfl]) (if_pos rfl) ⟨rfl, hrel⟩ hF', frm_turn T R.mem hB R.frm hos ht hu hz, ?_, ?_, R.defers⟩, T.stay R.mem, if_pos rfl⟩
  · have := tmps_carry F R.tmps rfl
    have e2 : (s.kill id).ρ = s.ρ.map (AVal.mapC (ACell.kill id)) := congrArg (fun f => s.ρ.map f) (funext (kill_mapC id))
    rw [e2]
    exact this
  · rw [R.size]; simp [AS.kill]
theorem Rel.reborn [Tabs] {s : AS} {a : Act} (R : Rel w0 B M0 S m s a w) (hB : B ≤ w.heap.size) {id : Nat} {o0 : AObj} (ho : s.h.get id = some o0) {c : OC} (hc : m id = some c) {d : Bool} {t : Ty} {zs : List t.den} {v : Value} {F' : Blk}
    (hsz : w.heap.size ≤ w'.heap.size) (hrest : ∀ q, q < w.heap.size → ¬ c.F q → w'.heap[q]? = w.heap[q]?) (hos : w'.os = w.os) (ht : w'.tape = w.tape) (hu : w'.output = w.output) (hz : ∀ a : Addr, a.block < w.heap.size → w'.frozen? a = w.frozen? a)
    (hrel : ArrRel S w' d t v zs F') (hF' : ∀ q, F' q → c.F q ∨ (w.heap.size ≤ q ∧ q < w'.heap.size)) :
    ∃ m', Rel w0 B M0 S m' { s.kill id with h := (id, .arr d t zs) :: (s.kill id).h } a w' ∧ (∀ q, S q → w'.heap[q]? = w.heap[q]?) ∧ m' id = some ⟨v, F', t⟩ :=
  R.rebornX hB ho hc hsz hrest hos ht hu hz hrel (Orphan.empty s.h.get S w m B M0) fun q hq => (hF' q hq).imp (fun h => h) .inr
theorem Rel.born [Tabs] {s : AS} {a : Act} (R : Rel w0 B M0 S m s a w) (hB : B ≤ w.heap.size) {id : Nat} (ho : s.h.get id = none) {d : Bool} {t : Ty} {zs : List t.den} {v : Value} {F' : Blk} {n : Nat} (g : Grow w w')
    (hrel : ArrRel S w' d t v zs F') (hF' : ∀ q, F' q → w.heap.size ≤ q ∧ q < w'.heap.size) :
    ∃ m', Rel w0 B M0 S m' { ρ := s.ρ, h := (id, .arr d t zs) :: s.h, t := n } a w' ∧ m' id = some ⟨v, F', t⟩ ∧ ∀ j, j ≠ id → m' j = m j := by
  have hone : ∀ j, AHeap.get [(id, AObj.arr d t zs)] j = if j = id then some (.arr d t zs) else none := fun j => by rw [get_one]
  have hget : ∀ j, AHeap.get ((id, AObj.arr d t zs) :: s.h) j = (AHeap.get [(id, AObj.arr d t zs)] j).or (s.h.get j) := fun j => by
    rw [hone]
    simp only [AHeap.get]
    cases hb : Nat.beq id j with
    | true => have := Nat.eq_of_beq_eq_true hb; subst this; simp
    | false =>
      have hj : j ≠ id := fun e => by subst e; simp at hb
      simp [hj]
  have is : ∀ {j}, AHeap.get [(id, AObj.arr d t zs)] j ≠ none → j = id := fun {j} h => by
    rw [hone] at h
    by_cases e : j = id
    · exact e
    · simp [e] at h
  have G := Mem.grow (m' := fun j => if j = id then some ⟨v, F', t⟩ else m j) (S' := S) R.mem g hB [(id, AObj.arr d t zs)] (fun j hj => by rw [is hj]; exact ho)
    (fun j hj => by rw [hone] at hj; have : j ≠ id := fun e => by simp [e] at hj
                    simp [this])
    (fun _ h => h) (fun _ h => .inl h)
    (fun j o hj => by
      have e := is (heap_ne hj)
      rw [hone, if_pos e] at hj
      cases hj
      exact ⟨⟨v, F', t⟩, if_pos e, ⟨rfl, hrel⟩, fun q hq => ⟨(hF' q hq).1, (hF' q hq).2, fun hs => by have := R.mem.lt q hs; have := (hF' q hq).1; omega⟩⟩)
    (fun i j c c' hij hi hj => absurd ((is hi).trans (is hj).symm) hij)
  have eget : (fun i => (AHeap.get [(id, AObj.arr d t zs)] i).or (s.h.get i)) = AHeap.get ((id, AObj.arr d t zs) :: s.h) := funext fun j => (hget j).symm
  rw [eget] at G
  exact ⟨_, ⟨G.1, R.frm.grow hB g, fun i => (R.tmps i).wider G.2 R.mem, R.size, R.defers⟩, if_pos rfl, fun j hj => if_neg hj⟩
theorem Rel.bornX [Tabs] {X : Blk} {s : AS} {a : Act} (R : Rel w0 B M0 S m s a w) (hB : B ≤ w.heap.size) {id : Nat} (ho : s.h.get id = none) {t : Ty} {zs : List t.den} {v : Value} {F' : Blk} (g : Grow w w')
    (hrel : ArrRel S w' true t v zs F') (hX : Orphan s.h.get S w m B M0 X) (hF' : ∀ q, F' q → X q ∨ (w.heap.size ≤ q ∧ q < w'.heap.size)) :
    ∃ m', Rel w0 B M0 S m' (s.bear id t zs) a w' ∧ m' id = some ⟨v, F', t⟩ := by
  obtain ⟨m1, R1, h1, h2⟩ := R.born (d := true) (t := t) (zs := []) (v := .slice none 0 0) (F' := fun _ => False) (n := s.t) hB ho (Grow.refl w) (.inl ⟨⟨_, rfl⟩, rfl, fun _ h => h⟩) (fun q h => h.elim)
  have hget : ∀ j, AHeap.get ((id, AObj.arr true t ([] : List t.den)) :: s.h) j = if j = id then some (.arr true t []) else s.h.get j := fun j => by
    simp only [AHeap.get]
    cases hb : Nat.beq id j with
    | true => have := Nat.eq_of_beq_eq_true hb; subst this; simp
    | false =>
      have hj : j ≠ id := fun e => by subst e; simp at hb
      simp [hj]
  have hX1 : Orphan (AHeap.get ((id, AObj.arr true t ([] : List t.den)) :: s.h)) S w m1 B M0 X := ⟨hX.free, fun j d hj hd q hq hF => by
    by_cases e : j = id
    · subst e
      rw [h1] at hd
      cases hd
      exact hF
    · rw [hget, if_neg e] at hj
      rw [h2 j e] at hd
      exact hX.dis j d hj hd q hq hF⟩
  obtain ⟨m', R2, _, h3⟩ := R1.rebornX hB (by rw [hget, if_pos rfl]) h1 g.size (fun q hq _ => g.block q hq) g.os g.tape g.output g.fz hrel hX1 (fun q hq => .inr (hF' q hq))
  exact ⟨m', ⟨R2.mem, R2.frm, R2.tmps, R2.size, R2.defers⟩, h3⟩
theorem Orphan.less {X Y : Blk} {h h' : HGet} (o : Orphan h S w m B M0 X) (hY : ∀ q, Y q → X q) (hh : ∀ j, h' j ≠ none → h j ≠ none) : Orphan h' S w m B M0 Y :=
  ⟨fun q hq => o.free q (hY q hq), fun j d hj hd q hq => o.dis j d (hh j hj) hd q (hY q hq)⟩
theorem ArrRel.rowsX [Tabs] {t : Ty} {ys : List t.den} {v : Value} {F : Blk} (hpos : 0 < t.size) (r : ArrRel S w true t v ys F) : (v = .slice none 0 0 ∧ ys = []) ∨
    ∃ (a : Addr) (cap : Nat) (news : List Value) (Gs : Nat → Blk), v = .slice (some a) ys.length cap ∧ news.length = ys.length * t.size ∧ (∀ j u, news[j]? = some u → w.cell? (a.add j) = some u) ∧ (∀ u ∈ news, u.oneCell' = true) ∧ (∀ i y, ys[i]? = some y → Own w t ((news.drop (i * t.size)).take t.size) y (Gs i)) ∧
      (∀ i j q, i < ys.length → j < ys.length → Gs i q → Gs j q → i = j) ∧ ∀ i q, i < ys.length → Gs i q → F q := by
  rcases r with ⟨⟨o, e⟩, e2, _⟩ | ⟨g, cap, cur, te, Fs, k1, k2, k3, k4, k5, k6, k7, k8, k9⟩
  · cases o with
    | none => exact .inl ⟨e, e2⟩
    | some a => exact .inr ⟨a, 0, [], fun _ _ => False, by rw [e, e2]; rfl, by rw [e2]; simp, fun j u h => by simp at h, fun u h => (by cases h), fun i y h => (by rw [e2] at h; simp at h), fun _ _ _ _ _ h => h.elim, fun _ _ _ h => h.elim⟩
  · have hcl : cur.toList.length = cap * t.size := by rw [← k3]; exact Array.length_toList
    have hlen : (cur.toList.take (ys.length * t.size)).length = ys.length * t.size := by
      rw [List.length_take, hcl]
      exact Nat.min_eq_left (Nat.mul_le_mul_right _ k4)
    have hown : ∀ i y, ys[i]? = some y → Own w t (((cur.toList.take (ys.length * t.size)).drop (i * t.size)).take t.size) y (Fs i) := fun i y hi => by
      rw [← seg_of_take rfl (List.getElem?_eq_some_iff.1 hi).1]
      exact k6 i y hi
    refine .inr ⟨⟨g, 0, none⟩, cap, cur.toList.take (ys.length * t.size), Fs, k1, hlen, fun j u hj => ?_, fun u hu => ?_, hown, k7, fun i q hi hq => (k9 q).2 (.inr ⟨i, hi, hq⟩)⟩
    · rw [add_none, Nat.zero_add, cell_of_row w g j cur te (0, 0) k2]
      rw [List.getElem?_take] at hj
      split at hj
      · simpa using hj
      · cases hj
    · obtain ⟨j, hj, rfl⟩ := List.getElem_of_mem hu
      have hj' := hj
      rw [hlen] at hj'
      have hi : j / t.size < ys.length := (Nat.div_lt_iff_lt_mul hpos).2 hj'
      have hy : ys[j / t.size]? = some ys[j / t.size] := by simp [hi]
      have ho := (hown _ _ hy).rep (S := fun _ => True) (fun _ _ => trivial)
      refine (flat_rel (h := fun _ => none) (m := fun _ => none) ho).2.1 _ ?_
      refine List.mem_of_getElem? (i := j % t.size) ?_
      have e : j / t.size * t.size + j % t.size = j := by rw [Nat.mul_comm]; exact Nat.div_add_mod j t.size
      rw [seg_get, if_pos (Nat.mod_lt _ hpos), e]
      exact List.getElem?_eq_getElem hj
end
end Go.Ab
