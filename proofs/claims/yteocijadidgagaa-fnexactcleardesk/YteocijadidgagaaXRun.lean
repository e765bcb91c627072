/-
  A whole region.
-/
import Derived.Test.YteocijadidgagaaXLate
namespace Go.Ab
open Go Go.RowKit

section
variable {P : Program} {E : Env} {S : Blk} {w w0 : World} {m : OMap} {B : Nat} {M0 : Blk}

theorem map_one_flatten (l : List Oper) : (l.map fun o => [o]).flatten = l := by
  induction l with
  | nil => rfl
  | cons o l ih => simp [ih]

theorem runner_list (ops : Array Oper) (Q : Exit → Act → World → Prop) (l : List Oper) : Runner P E ops Q (l.map fun o => [o]) (fun l a w => wpList P ops Q l.flatten a w) := by
  have one : ∀ (g : List Oper) (rest pre : List (List Oper)), pre ++ g :: rest = l.map (fun o => [o]) → g.length = 1 := fun g rest pre h => by
    have : g ∈ l.map (fun o => [o]) := by rw [← h]; simp
    obtain ⟨o, _, rfl⟩ := List.mem_map.1 this
    rfl
  refine ⟨fun o rest pre a w _ h => ?_, fun g rest pre h h1 => absurd (one g rest pre h) h1, fun g rest pre a w g' h h1 => absurd (one g rest pre h) h1⟩
  simp only [List.flatten_cons, List.singleton_append, wpList]
  split
  · rename_i hw; rw [if_pos hw] at h; exact .inl h
  · rename_i hw; rw [if_neg hw] at h; exact h

theorem segsOk_spec {A : List Nat} : ∀ {pre : List (List Oper)} {g : List Oper} {rest : List (List Oper)} {i : Nat}, segsOk A i (pre ++ g :: rest) = true → segOk A (i + pre.flatten.length) g = true ∧ barAt A (i + pre.flatten.length + g.length) = true
  | [], g, rest, i, h => by
    simp only [List.nil_append, segsOk, Bool.and_eq_true] at h
    exact ⟨h.1.1.2, h.1.2⟩
  | l :: pre, g, rest, i, h => by
    simp only [List.cons_append, segsOk, Bool.and_eq_true] at h
    have := segsOk_spec h.2
    simp only [List.flatten_cons, List.length_append]
    rw [← Nat.add_assoc]
    exact this

theorem runner_any (hE : Good P E) {ops : Array Oper} (Q : Exit → Act → World → Prop) {A : List Nat} {segs : List (List Oper)} (hA : ancOk A ops.toList = true) (hs : segsOk A 0 segs = true) (hf : segs.flatten = ops.toList) :
    Runner P E ops Q segs (fun l a w => ∀ pre listed, pre ++ l = segs → UpTo ops.size pre.flatten.length listed → wpAny P .any ops Q l.flatten.length listed a w) := by
  have split : ∀ {pre : List (List Oper)} {g : List Oper} {rest : List (List Oper)}, pre ++ g :: rest = segs → ops.toList = pre.flatten ++ (g ++ rest.flatten) ∧ segOk A pre.flatten.length g = true ∧ barAt A (pre.flatten.length + g.length) = true := fun {pre g rest} h => by
    subst h
    have := segsOk_spec hs
    rw [Nat.zero_add] at this
    exact ⟨by rw [← hf]; simp, this.1, this.2⟩
  have next : ∀ {pre : List (List Oper)} {g : List Oper} {rest : List (List Oper)} {listed : Array Bool}, pre ++ g :: rest = segs → UpTo ops.size (pre.flatten.length + g.length) listed → (pre ++ [g]) ++ rest = segs ∧ UpTo ops.size (pre ++ [g]).flatten.length listed := fun {pre g rest listed} h hu => ⟨by rw [← h]; simp, by simpa using hu⟩
  refine ⟨fun o rest _ a w _ h pre listed hp hl => ?_, fun g rest _ _ h1 {w0 w B M0 S m s a R' k r} hB0 R hgd e K pre listed hp hl => ?_, fun g rest _ a w g' _ h1 hg hy K pre listed hp hl => ?_⟩
  · obtain ⟨h1, h2, h3⟩ := split hp
    have := any_one hA h1 h3 h (fun a' w' lst hK hu => hK (pre ++ [[o]]) lst (next hp hu).1 (next hp hu).2) hl
    simpa [Nat.add_comm] using this
  · obtain ⟨i1, i2, i3⟩ := split hp
    unfold runMany at e
    cases hls : lateSplit g with
    | none =>
      rw [hls] at e
      have := any_seg hE hB0 hA i1 (segOk_spec i2 h1) i3 R hgd e (fun s' a' w' S' m' lst hk H hu => K s' a' w' S' m' hk H (pre ++ [g]) lst (next hp hu).1 (next hp hu).2) hl
      simpa using this
    | some p =>
      rw [hls] at e
      have hlo := segOk_late i2 h1
      rw [hls] at hlo
      have hlk := lateOk_spec hls hlo
      have hgp := (lateSplit_spec hls).1
      obtain ⟨bf, L, af⟩ := p
      simp only at hgp e hlk
      have so := segOk_spec i2 h1
      rw [hgp] at i1 so i3 hgd hp K
      have := any_late hE hB0 hA i1 so hlk i3 R hgd e (fun s' a' w' S' m' lst hk H hu => K s' a' w' S' m' hk H (pre ++ [bf ++ L :: af]) lst (next hp hu).1 (next hp hu).2) hl
      rw [← hgp] at this
      simpa using this
  · obtain ⟨i1, i2, i3⟩ := split hp
    have := any_skip hA i1 (segOk_spec i2 h1).guard i3 hg hy (fun a' lst k1 k2 k3 k4 hu => K a' k1 k2 k3 k4 (pre ++ [g]) lst (next hp hu).1 (next hp hu).2) hl
    simpa using this

theorem segsFrom_flatten (A : List Nat) : ∀ (l acc : List Oper) (i : Nat), (segsFrom A i l acc).flatten = acc ++ l
  | [], acc, i => by
    unfold segsFrom
    cases acc <;> simp
  | o :: r, acc, i => by
    unfold segsFrom
    cases (!acc.isEmpty && barAt A i) with
    | true => simp [segsFrom_flatten A r [o]]
    | false => simp [segsFrom_flatten A r (acc ++ [o])]

theorem Rel.drew {s : AS} {a : Act} (R : Rel w0 B M0 S m s a w) (hB : B ≤ w.heap.size) : Shift w0 B M0 S m s a w [] s a w.drew S m := by
  have Wd : Wider s.h.get s.h.get S S w w.drew m m := ⟨fun _ _ e => e, fun _ _ => rfl, fun _ e => e, Nat.le_refl _, fun _ _ => rfl, fun _ _ _ _ _ _ => rfl⟩
  have := R.back (a' := a) Wd (R.frm.grow hB (Grow.drew w)) [] (fun _ _ => rfl) rfl R.defers
  exact ⟨this, Wd.ext fun _ h => .inl h, Nat.le_refl _, fun _ => Wd, fun _ _ => rfl, rfl⟩

theorem region_sound (hE : Good P E) (hB0 : B ≤ w0.heap.size) {s : AS} {a : Act} (R : Rel w0 B M0 S m s a w) {id : Nat} {ops : Array Oper} {draw : Bool} {R' : Type} {k : AS → Option R'} {r : R'}
    (e : (match (bif draw then regSegs ops.toList else some (ops.toList.map fun o => [o])) with | some l => runOps E ops (2 * ops.size + 1) [] l s k | none => none) = some r)
    {Q : Exit → Act → World → Prop} (K : ∀ s' a' w' S' m', k s' = some r → Shift w0 B M0 S m s a w (dstsL ops.toList) s' a' w' S' m' → Q .normal a' w') : (Code.region id ops draw).wp P Q a w := by
  have hB : B ≤ w.heap.size := Nat.le_trans hB0 R.frm.size
  cases draw with
  | false =>
    simp only [cond_false] at e
    refine wp_region_list ?_
    have := runOps_sound (runner_list (P := P) (E := E) ops Q ops.toList) hE hB0 _ [] (ops.toList.map fun o => [o]) [] [] (by simp) R (by simp) e (fun s' a' w' S' m' hk H => by
      rw [map_one_flatten] at H
      exact K s' a' w' S' m' hk H)
    simpa [map_one_flatten] using this
  | true =>
    simp only [cond_true] at e
    cases hs : regSegs ops.toList with
    | none => rw [hs] at e; cases e
    | some l =>
      rw [hs] at e
      simp only at e
      unfold regSegs at hs
      simp only at hs
      cases hc : (ancOk (ancs ops.toList []) ops.toList && segsOk (ancs ops.toList []) 0 (segsFrom (ancs ops.toList []) 0 ops.toList [])) with
      | false => rw [hc] at hs; cases hs
      | true =>
        rw [hc] at hs
        simp only [cond_true, Option.some.injEq] at hs
        subst hs
        simp only [Bool.and_eq_true] at hc
        have hfl := segsFrom_flatten (ancs ops.toList []) ops.toList [] 0
        rw [List.nil_append] at hfl
        have D := R.drew hB
        have := runOps_sound (runner_any hE (Q := Q) hc.1 hc.2 hfl) hE hB0 _ [] (segsFrom (ancs ops.toList []) 0 ops.toList []) [] [] (by simp) D.rel (by simp) e (fun s' a' w' S' m' hk H pre listed hp hu => by
          rw [hfl] at H
          have q := K s' a' w' S' m' hk (D.trans H (by simp) fun _ h => h)
          refine wpAny_done ?_ q _
          rw [List.append_nil] at hp
          subst hp
          rw [hfl, Array.length_toList] at hu
          refine List.eq_nil_iff_forall_not_mem.2 fun j hj => ?_
          rw [mem_ready] at hj
          obtain ⟨h0, o, ho, _⟩ := hj
          have hjs := (Array.getElem?_eq_some_iff.1 ho).1
          rw [Array.getD_eq_getD_getElem?, hu.2 j hjs] at h0
          simp [hjs] at h0) [] (Array.replicate ops.size false) (by simp) ⟨by simp, fun k hk => by simp [hk]⟩
        refine wp_region_any hE.mixed ?_
        rw [List.append_nil, hfl] at this
        simpa using this
end
end Go.Ab
