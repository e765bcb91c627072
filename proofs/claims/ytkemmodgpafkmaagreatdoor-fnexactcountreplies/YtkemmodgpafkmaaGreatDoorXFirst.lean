/-
  A region in which an operation that only takes a tuple apart stands ahead of another one.
-/
import Derived.Test.YtkemmodgpafkmaaGreatDoorXLate
import Derived.Test.YtkemmodgpafkmaaGreatDoorXAside
import Derived.OrdersHeld
namespace Go.Ab
open Go Go.RowKit
section
variable {P : Program} {S : Blk} {w w0 : World} {m : OMap} {B : Nat} {M0 : Blk}
def onlyN (Q : Exit → Act → World → Prop) : Exit → Act → World → Prop := fun e a w => e = .normal ∧ Q .normal a w
theorem onlyN_lets {Q : Exit → Act → World → Prop} : ¬ LetsOut (onlyN Q) := fun ⟨_, _, h, _⟩ => by cases h
theorem edge_size (ops : Array Oper) (j k : Nat) : (edgeOps ops j k).size = ops.size := by simp [edgeOps]
theorem edge_get (ops : Array Oper) (j k i : Nat) : (edgeOps ops j k)[i]? = (ops[i]?).map fun o => bif Nat.beq i k then { o with after := o.after.push ⟨j, .data⟩ } else o := by
  simp [edgeOps, Array.getElem?_mapIdx]
theorem edge_yielded {ops : Array Oper} {j k : Nat} (t : Array Value) (g : Nat) : yielded (edgeOps ops j k) t g = yielded ops t g := by
  unfold yielded
  rw [edge_get]
  cases ops[g]? with
  | none => rfl
  | some o => simp only [Option.map_some]; cases Nat.beq g k <;> rfl
theorem edge_wpOp {ops : Array Oper} {j k i : Nat} {Q : Exit → Act → World → Prop} {K : Act → World → Prop} {a : Act} : wpOp P (edgeOps ops j k) Q i K a w ↔ wpOp P ops Q i K a w := by
  unfold wpOp
  rw [edge_get]
  cases ops[i]? with
  | none => exact Iff.rfl
  | some o =>
    have hy : yielded (edgeOps ops j k) a.tmps = yielded ops a.tmps := funext fun g => edge_yielded a.tmps g
    simp only [Option.map_some, hy]
    cases Nat.beq i k <;> exact Iff.rfl
theorem edge_ready {ops : Array Oper} {j k i : Nat} {listed : Array Bool} (h : i ∈ Region.ready .any (edgeOps ops j k) listed) : i ∈ Region.ready .any ops listed := by
  rw [mem_ready] at h ⊢
  obtain ⟨h0, o, ho, hall⟩ := h
  rw [edge_get] at ho
  cases hi : ops[i]? with
  | none => rw [hi] at ho; cases ho
  | some o2 =>
    rw [hi] at ho
    simp only [Option.map_some, Option.some.injEq] at ho
    refine ⟨h0, o2, rfl, fun e he hb => hall e ?_ hb⟩
    subst ho
    cases Nat.beq i k with
    | false => exact he
    | true => simp [he]
theorem ready_edge {ops : Array Oper} {j k i : Nat} {listed : Array Bool} (h : i ∈ Region.ready .any ops listed) (hk : i = k → listed.getD j false = true) : i ∈ Region.ready .any (edgeOps ops j k) listed := by
  rw [mem_ready] at h ⊢
  obtain ⟨h0, o, ho, hall⟩ := h
  refine ⟨h0, _, by rw [edge_get, ho]; rfl, fun e he hb => ?_⟩
  cases hik : Nat.beq i k with
  | false => rw [hik] at he; exact hall e he hb
  | true =>
    rw [hik] at he
    simp only [cond_true, Array.mem_push] at he
    rcases he with he | rfl
    · exact hall e he hb
    · exact hk (Nat.eq_of_beq_eq_true hik)
theorem predsFrom_spec {i : Nat} : ∀ (l : List Edge) (a : Array Bool), (predsFrom l a).getD i false = true → a.getD i false = true ∨ ∃ e ∈ l, Region.binds .any e = true ∧ e.on = i
  | [], a, h => .inl h
  | e :: r, a, h => by
    unfold predsFrom at h
    rcases predsFrom_spec r _ h with h | ⟨f, h1, h2, h3⟩
    · cases hb : Region.binds .any e with
      | false => rw [hb] at h; exact .inl h
      | true =>
        rw [hb] at h
        simp only [cond_true] at h
        by_cases he : e.on = i
        · exact .inr ⟨e, by simp, hb, he⟩
        · rw [getD_set_ne false he] at h; exact .inl h
    · exact .inr ⟨f, List.mem_cons_of_mem _ h1, h2, h3⟩
theorem predsFrom_size : ∀ (l : List Edge) (a : Array Bool), (predsFrom l a).size = a.size
  | [], _ => rfl
  | e :: r, a => by
    unfold predsFrom
    rw [predsFrom_size r]
    cases Region.binds .any e <;> simp
theorem free_mono {ops : Array Oper} {l l2 : Array Bool} {i : Nat} (h : Region.free .any ops l i = true) (hm : ∀ j, j < ops.size → l.getD j true = true → l2.getD j true = true) : Region.free .any ops l2 i = true := by
  unfold Region.free at h ⊢
  cases hi : ops[i]? with
  | none => rw [hi] at h; cases h
  | some oi =>
    rw [hi] at h
    simp only [List.all_eq_true, List.mem_range] at h ⊢
    intro j hj
    have h1 := h j hj
    simp only [Bool.or_eq_true] at h1 ⊢
    rcases h1 with (h1 | h1) | h1
    · exact .inl (.inl h1)
    · exact .inl (.inr (hm j hj h1))
    · exact .inr h1
theorem getD_lt {l : Array Bool} {i : Nat} (h : i < l.size) (d d2 : Bool) : l.getD i d = l.getD i d2 := by simp [h]
theorem edge_done {ops : Array Oper} {j k : Nat} {Q : Exit → Act → World → Prop} : ∀ (fuel : Nat) (listed : Array Bool) (a : Act) (w : World), listed.getD j false = true → wpAny P .any (edgeOps ops j k) Q fuel listed a w → wpAny P .any ops Q fuel listed a w
  | 0, listed, a, w, hl, h => ⟨List.eq_nil_iff_forall_not_mem.2 (fun i hi => by have := ready_edge (k := k) hi (fun _ => hl); rw [h.1] at this; cases this), h.2⟩
  | fuel + 1, listed, a, w, hl, h => by
    refine ⟨fun hr => h.1 (List.eq_nil_iff_forall_not_mem.2 fun i hi => by have := edge_ready hi; rw [hr] at this; cases this), fun i hi => ?_⟩
    have h2 := h.2 i (ready_edge hi fun _ => hl)
    rw [edge_wpOp] at h2
    exact wpOp_mono (fun a' w' h3 => edge_done fuel _ a' w' (getD_set_true hl) h3) h2
theorem extract_yields {ops : Array Oper} {o : Oper} (hx : isExtract o.op = true) (hg : o.guard = none) {a : Act} {Q : Exit → Act → World → Prop} {K : Act → World → Prop} {j : Nat} (hj : ops[j]? = some o) (h : wpOp P ops (onlyN Q) j K a w) : ∃ v, Yields P ops o v a ∧ K (a.put o.dst v) w := by
  obtain ⟨odst, op, oty, opos, oafter, oguard⟩ := o
  simp only at hg hx
  subst hg
  cases op with
  | extract x i =>
    unfold wpOp at h
    rw [hj] at h
    simp only [Region.wanted, if_true] at h
    rcases h with h | h
    · unfold Oper.wp at h
      simp only [execOp, Instr.extract] at h
      unfold Yields
      simp only [Region.wanted, execOp, Instr.extract]
      cases hv : a.eval x with
      | tuple vs =>
        rw [hv] at h
        simp only at h ⊢
        cases hi : vs[i]? with
        | none => rw [hi] at h; exact h.elim
        | some v =>
          rw [hi] at h
          exact ⟨v, .inl ⟨by simp, fun w2 => rfl⟩, h⟩
      | _ => rw [hv] at h; exact h.elim
    · exact absurd h.2 onlyN_lets
  | _ => cases hx
theorem edge_any {ops : Array Oper} {j k : Nat} (hok : edgeOk ops j k = true) {Q : Exit → Act → World → Prop} : ∀ (fuel : Nat) (listed : Array Bool) (a : Act) (w : World), listed.size = ops.size → wpAny P .any (edgeOps ops j k) (onlyN Q) fuel listed a w → wpAny P .any ops (onlyN Q) fuel listed a w := by
  unfold edgeOk at hok
  rw [Bool.and_eq_true] at hok
  obtain ⟨hsel, hok⟩ := hok
  cases hj : ops[j]? with
  | none => rw [hj] at hok; cases hok
  | some oj =>
  cases hk : ops[k]? with
  | none => rw [hj, hk] at hok; cases hok
  | some o =>
  rw [hj, hk] at hok
  simp only [Bool.and_eq_true] at hok
  obtain ⟨hne, hx, hg, hall, hfree⟩ := hok
  have hgn : oj.guard = none := by cases h : oj.guard with | none => rfl | some _ => rw [h] at hg; cases hg
  have hjlt : j < ops.size := (Array.getElem?_eq_some_iff.1 hj).1
  have hkj : ¬ k = j := fun e => by subst e; simp at hne
  intro fuel
  induction fuel with
  | zero =>
    intro listed a w hs h
    by_cases hl : listed.getD j false = true
    · exact edge_done 0 listed a w hl h
    · refine ⟨List.eq_nil_iff_forall_not_mem.2 fun i hi => ?_, h.2⟩
      by_cases hik : i = k
      · subst hik
        have hjr : j ∈ Region.ready .any (edgeOps ops j i) listed := by
          refine ready_edge ?_ (fun e => absurd e.symm hkj)
          rw [mem_ready] at hi ⊢
          obtain ⟨_, o2, ho2, h2⟩ := hi
          rw [hk] at ho2
          cases ho2
          refine ⟨?_, oj, hj, fun e he hb => ?_⟩
          · rw [getD_lt (by omega) true false]; simpa using hl
          · have h3 := List.all_eq_true.1 hall e (Array.mem_toList_iff.2 he)
            rw [hb] at h3
            simp only [Bool.not_true, Bool.false_or] at h3
            obtain ⟨f, hf, hfb⟩ := List.any_eq_true.1 h3
            rw [Bool.and_eq_true] at hfb
            have := h2 f (Array.mem_toList_iff.1 hf) hfb.1
            rwa [Nat.eq_of_beq_eq_true hfb.2] at this
        rw [h.1] at hjr
        cases hjr
      · have := ready_edge (j := j) (k := k) hi (fun e => absurd e hik)
        rw [h.1] at this
        cases this
  | succ fuel ih =>
    intro listed a w hs h
    by_cases hl : listed.getD j false = true
    · exact edge_done _ listed a w hl h
    by_cases hr : j ∈ Region.ready .any ops listed
    · have h2 := h.2 j (ready_edge hr (fun e => absurd e.symm hkj))
      rw [edge_wpOp] at h2
      obtain ⟨v, hy, h3⟩ := extract_yields hx hgn hj h2
      have hf : Region.free .any ops listed j = true := free_mono hfree fun i hi h4 => by
        rw [getD_lt (by rw [predsFrom_size]; simpa using hi) true false] at h4
        rcases predsFrom_spec _ _ h4 with h5 | ⟨e, he, hb, rfl⟩
        · simp [hi] at h5
        · rw [getD_lt (by omega) true false]
          obtain ⟨_, o2, ho2, h6⟩ := mem_ready.1 hr
          rw [hj] at ho2
          cases ho2
          exact h6 e (Array.mem_toList_iff.1 he) hb
      refine wpAny_take hj hsel hf (by simpa using hr) (fun c a w hq => by cases hq.1) hy (edge_done fuel _ _ _ ?_ h3)
      rw [Array.getD_eq_getD_getElem?, Array.getElem?_setIfInBounds_self_of_lt (by omega)]
      rfl
    · have hkn : ∀ i, i ∈ Region.ready .any ops listed → i = k → listed.getD j false = true := fun i hi e => by
        subst e
        exfalso
        apply hr
        rw [mem_ready] at hi ⊢
        obtain ⟨_, o2, ho2, h2⟩ := hi
        rw [hk] at ho2
        cases ho2
        refine ⟨?_, oj, hj, fun e he hb => ?_⟩
        · rw [getD_lt (by omega) true false]; simpa using hl
        · have h3 := List.all_eq_true.1 hall e (Array.mem_toList_iff.2 he)
          rw [hb] at h3
          simp only [Bool.not_true, Bool.false_or] at h3
          obtain ⟨f, hf, hfb⟩ := List.any_eq_true.1 h3
          rw [Bool.and_eq_true] at hfb
          have := h2 f (Array.mem_toList_iff.1 hf) hfb.1
          rwa [Nat.eq_of_beq_eq_true hfb.2] at this
      refine ⟨fun h0 => h.1 (List.eq_nil_iff_forall_not_mem.2 fun i hi => by have := edge_ready hi; rw [h0] at this; cases this), fun i hi => ?_⟩
      have h2 := h.2 i (ready_edge hi (hkn i hi))
      rw [edge_wpOp] at h2
      exact wpOp_mono (fun a' w' h3 => ih _ a' w' (by simpa using hs) h3) h2
theorem swaps_any {Q : Exit → Act → World → Prop} {a : Act} : ∀ (l : List (Nat × Nat)) (ops : Array Oper), wpAny P .any (swapsOps ops l) (onlyN Q) (swapsOps ops l).size (Array.replicate (swapsOps ops l).size false) a w → wpAny P .any ops (onlyN Q) ops.size (Array.replicate ops.size false) a w
  | [], _, h => h
  | (i, j) :: r, ops, h => by
    unfold swapsOps at h
    cases hb : edgeOk ops i j with
    | false => rw [hb] at h; exact h
    | true =>
      rw [hb] at h
      simp only [cond_true] at h
      have h2 := swaps_any r (edgeOps ops i j) h
      rw [edge_size] at h2
      exact edge_any hb _ _ _ _ (by simp) h2
theorem edge_dsts (ops : Array Oper) (j k : Nat) : dstsL (edgeOps ops j k).toList = dstsL ops.toList := by
  unfold dstsL
  have : ∀ (f : Nat → Oper → Oper), (∀ k o, (f k o).dst = o.dst) → ∀ (r : List Oper), (r.mapIdx f).filterMap (·.dst) = r.filterMap (·.dst) := by
    intro f hf r
    induction r generalizing f with
    | nil => rfl
    | cons o r ih =>
      rw [List.mapIdx_cons, List.filterMap_cons, List.filterMap_cons, hf, ih (fun k o => f (k + 1) o) (fun k o => hf _ o)]
  unfold edgeOps
  rw [Array.toList_mapIdx]
  exact this _ (fun i o => by cases Nat.beq i k <;> rfl) _
theorem swaps_dsts : ∀ (l : List (Nat × Nat)) (ops : Array Oper), dstsL (swapsOps ops l).toList = dstsL ops.toList
  | [], _ => rfl
  | (i, j) :: r, ops => by
    unfold swapsOps
    cases edgeOk ops i j with
    | false => rfl
    | true => simp only [cond_true]; rw [swaps_dsts r, edge_dsts]
theorem sops_any {E : Env} {id : Nat} {ops : Array Oper} {Q : Exit → Act → World → Prop} {a : Act} (h : wpAny P .any (sops E id ops) (onlyN Q) (sops E id ops).size (Array.replicate (sops E id ops).size false) a w) : wpAny P .any ops (onlyN Q) ops.size (Array.replicate ops.size false) a w := by
  unfold sops at h
  cases hl : look E.swaps id with
  | none => rw [hl] at h; exact h
  | some l => rw [hl] at h; exact swaps_any l ops h
theorem sops_dsts {E : Env} {id t : Nat} {ops : Array Oper} (h : t ∈ dstsL (sops E id ops).toList) : t ∈ dstsL ops.toList := by
  unfold sops at h
  cases hl : look E.swaps id with
  | none => rw [hl] at h; exact h
  | some l => rw [hl, swaps_dsts l ops] at h; exact h
end
end Go.Ab
namespace Go.Ab
open Go Go.RowKit
section
variable {P : Program} {E : Env} {S : Blk} {w w0 : World} {m : OMap} {B : Nat} {M0 : Blk}
theorem map_one_flatten (l : List Oper) : (l.map fun o => [o]).flatten = l := by
  induction l with
  | nil => rfl
  | cons o l ih => simp [ih]
theorem runner_list [Tabs] (ops : Array Oper) (Q : Exit → Act → World → Prop) (l : List Oper) : Runner P E ops Q (l.map fun o => [o]) (fun l a w => wpList P ops Q l.flatten a w) := by
  have one : ∀ (g : List Oper) (rest pre : List (List Oper)), pre ++ g :: rest = l.map (fun o => [o]) → g.length = 1 := fun g rest pre h => by
    have : g ∈ l.map (fun o => [o]) := by rw [← h]; simp
    obtain ⟨o, _, rfl⟩ := List.mem_map.1 this
    rfl
  refine ⟨fun o rest pre a w _ h => ?_, fun g rest pre h h1 => absurd (one g rest pre h) h1, fun g rest pre a w g' h h1 => absurd (one g rest pre h) h1⟩
  simp only [List.flatten_cons, List.singleton_append, wpList]
  split
  · rename_i hw; rw [if_pos hw] at h; exact .inl h
  · rename_i hw; rw [if_neg hw] at h; exact h
theorem segsOk_spec {A : List Nat} : ∀ {pre : List (List Oper)} {g : List Oper} {rest : List (List Oper)} {i : Nat}, segsOk A i (pre ++ g :: rest) = true → segOk A (i + pre.flatten.length) g = true ∧ barAt A (i + pre.flatten.length + g.length) = true
  | [], g, rest, i, h => by
    simp only [List.nil_append, segsOk, Bool.and_eq_true] at h
    exact ⟨h.1.1.2, h.1.2⟩
  | l :: pre, g, rest, i, h => by
    simp only [List.cons_append, segsOk, Bool.and_eq_true] at h
    have := segsOk_spec h.2
    simp only [List.flatten_cons, List.length_append]
    rw [← Nat.add_assoc]
    exact this
theorem runner_any [Tabs] (hE : Good P E) {ops : Array Oper} (Q : Exit → Act → World → Prop) {A : List Nat} {segs : List (List Oper)} (hA : ancOk A ops.toList = true) (hs : segsOk A 0 segs = true) (hf : segs.flatten = ops.toList) (hta : ∀ (pre : List (List Oper)) (g : List Oper) (rest : List (List Oper)), pre ++ g :: rest = segs → ∀ p q, stretchIds E g = p :: q → chainOk E A pre.flatten.length g = true) :
    Runner P E ops Q segs (fun l a w => ∀ pre listed, pre ++ l = segs → UpTo ops.size pre.flatten.length listed → wpAny P .any ops Q l.flatten.length listed a w) := by
  have split : ∀ {pre : List (List Oper)} {g : List Oper} {rest : List (List Oper)}, pre ++ g :: rest = segs → ops.toList = pre.flatten ++ (g ++ rest.flatten) ∧ segOk A pre.flatten.length g = true ∧ barAt A (pre.flatten.length + g.length) = true := fun {pre g rest} h => by
    subst h
    have := segsOk_spec hs
    rw [Nat.zero_add] at this
    exact ⟨by rw [← hf]; simp, this.1, this.2⟩
  have next : ∀ {pre : List (List Oper)} {g : List Oper} {rest : List (List Oper)} {listed : Array Bool}, pre ++ g :: rest = segs → UpTo ops.size (pre.flatten.length + g.length) listed → (pre ++ [g]) ++ rest = segs ∧ UpTo ops.size (pre ++ [g]).flatten.length listed := fun {pre g rest listed} h hu => ⟨by rw [← h]; simp, by simpa using hu⟩
  refine ⟨fun o rest _ a w _ h pre listed hp hl => ?_, fun g rest _ _ h1 {w0 w B M0 S m s a R' k r} hB0 R hgd e K pre listed hp hl => ?_, fun g rest _ a w g' _ h1 hg hy K pre listed hp hl => ?_⟩
  · obtain ⟨h1, h2, h3⟩ := split hp
    have := any_one hA h1 h3 h (fun a' w' lst hK hu => hK (pre ++ [[o]]) lst (next hp hu).1 (next hp hu).2) hl
    simpa [Nat.add_comm] using this
  · obtain ⟨i1, i2, i3⟩ := split hp
    unfold runMany at e
    cases has : stretchIds E g with
    | cons idc V0 =>
      rw [has] at e
      simp only at e
      have htk := hta _ g _ hp _ _ has
      have so := segOk_spec i2 h1
      cases hbx : (idc :: V0).all (isBoxAt s) with
      | false => rw [hbx] at e; cases e
      | true =>
        rw [hbx] at e
        simp only [cond_true] at e
        have := any_chain hE hB0 hA i1 so htk i3 has R hgd hbx e (fun s' a' w' S' m' lst hk H hu => K s' a' w' S' m' hk H (pre ++ [g]) lst (next hp hu).1 (next hp hu).2) hl
        simpa using this
    | nil =>
    rw [has] at e
    simp only at e
    cases had : allDst g with
    | false => rw [had] at e; cases e
    | true =>
    rw [had] at e
    simp only [cond_true] at e
    have hod := allDst_spec had
    cases hls : lateSplit g with
    | none =>
      rw [hls] at e
      have := any_seg hE hB0 hA i1 (segOk_spec i2 h1) hod i3 R hgd e (fun s' a' w' S' m' lst hk H hu => K s' a' w' S' m' hk H (pre ++ [g]) lst (next hp hu).1 (next hp hu).2) hl
      simpa using this
    | some p =>
      rw [hls] at e
      have hlo := segOk_late i2 h1
      rw [hls] at hlo
      have hlk := lateOk_spec hls hlo
      have hgp := (lateSplit_spec hls).1
      obtain ⟨bf, L, af⟩ := p
      simp only at hgp e hlk
      have so := segOk_spec i2 h1
      rw [hgp] at i1 so hod i3 hgd hp K
      have := any_late hE hB0 hA i1 so hod hlk i3 R hgd e (fun s' a' w' S' m' lst hk H hu => K s' a' w' S' m' hk H (pre ++ [bf ++ L :: af]) lst (next hp hu).1 (next hp hu).2) hl
      rw [← hgp] at this
      simpa using this
  · obtain ⟨i1, i2, i3⟩ := split hp
    have := any_skip hA i1 (segOk_spec i2 h1).guard i3 hg hy (fun a' lst k1 k2 k3 k4 hu => K a' k1 k2 k3 k4 (pre ++ [g]) lst (next hp hu).1 (next hp hu).2) hl
    simpa using this
theorem asideAll_spec {A : List Nat} : ∀ {segs : List (List Oper)} {i : Nat}, asideAll E A i segs = true → ∀ {pre : List (List Oper)} {g : List Oper} {rest : List (List Oper)}, pre ++ g :: rest = segs → ∀ {p q}, stretchIds E g = p :: q → chainOk E A (i + pre.flatten.length) g = true
  | [], _, _, [], _, _, hp, _, _, _ => by cases hp
  | [], _, _, _ :: _, _, _, hp, _, _, _ => by cases hp
  | l :: r, i, h, [], g, rest, hp, p, q, hs => by
    simp only [List.nil_append, List.cons.injEq] at hp
    obtain ⟨rfl, rfl⟩ := hp
    simp only [asideAll, Bool.and_eq_true, hs] at h
    simpa using h.1
  | l :: r, i, h, x :: pre, g, rest, hp, p, q, hs => by
    simp only [List.cons_append, List.cons.injEq] at hp
    obtain ⟨rfl, hp⟩ := hp
    simp only [asideAll, Bool.and_eq_true] at h
    have := asideAll_spec h.2 hp hs
    simp only [List.flatten_cons, List.length_append]
    rw [← Nat.add_assoc]
    exact this
theorem segsFrom_flatten (A : List Nat) : ∀ (l acc : List Oper) (i : Nat), (segsFrom A i l acc).flatten = acc ++ l
  | [], acc, i => by
    unfold segsFrom
    cases acc <;> simp
  | o :: r, acc, i => by
    unfold segsFrom
    cases (!acc.isEmpty && barAt A i) with
    | true => simp [segsFrom_flatten A r [o]]
    | false => simp [segsFrom_flatten A r (acc ++ [o])]
theorem Rel.drew [Tabs] {s : AS} {a : Act} (R : Rel w0 B M0 S m s a w) (hB : B ≤ w.heap.size) : Shift w0 B M0 S m s a w [] s a w.drew S m := by
  have Wd : Wider s.h.get s.h.get S S w w.drew m m := ⟨fun _ _ e => e, fun _ _ => rfl, fun _ e => e, Nat.le_refl _, fun _ _ => rfl, fun _ _ _ _ _ _ => rfl⟩
  have := R.back (a' := a) Wd (R.frm.grow hB (Grow.drew w)) [] (fun _ _ => rfl) rfl R.defers
  exact ⟨this, Wd.ext fun _ h => .inl h, Nat.le_refl _, fun _ => Wd, fun _ _ => rfl, rfl⟩
theorem addEdges_get (ops : Array Oper) (l : List Nat) (k : Nat) : (addEdges ops l)[k]? = (ops[k]?).map fun o => bif l.any (Nat.beq k) then o else { o with after := o.after ++ ((l.filter fun j => Nat.blt j k).map fun j => (⟨j, .data⟩ : Edge)).toArray } := by
  simp [addEdges, Array.getElem?_mapIdx]
theorem addEdges_size (ops : Array Oper) (l : List Nat) : (addEdges ops l).size = ops.size := by simp [addEdges]
theorem addEdges_yielded [Tabs] (ops : Array Oper) (l : List Nat) (t : Array Value) (g : Nat) : yielded (addEdges ops l) t g = yielded ops t g := by
  unfold yielded
  rw [addEdges_get]
  cases ops[g]? with
  | none => rfl
  | some o => simp only [Option.map_some]; cases l.any (Nat.beq g) <;> rfl
theorem addEdges_wpOp [Tabs] {ops : Array Oper} {l : List Nat} {i : Nat} {Q : Exit → Act → World → Prop} {K : Act → World → Prop} {a : Act} : wpOp P (addEdges ops l) Q i K a w ↔ wpOp P ops Q i K a w := by
  unfold wpOp
  rw [addEdges_get]
  cases ops[i]? with
  | none => exact Iff.rfl
  | some o =>
    have hy : yielded (addEdges ops l) a.tmps = yielded ops a.tmps := funext fun g => addEdges_yielded ops l a.tmps g
    simp only [Option.map_some, hy]
    cases l.any (Nat.beq i) <;> exact Iff.rfl
theorem addEdges_ready [Tabs] {ops : Array Oper} {l : List Nat} {listed : Array Bool} (h : ∀ j ∈ l, listed.getD j false = true) : Region.ready .any (addEdges ops l) listed = Region.ready .any ops listed := by
  unfold Region.ready
  rw [addEdges_size]
  congr 1
  funext i
  rw [addEdges_get]
  cases ops[i]? with
  | none => rfl
  | some o =>
    simp only [Option.map_some, Option.getD_some]
    cases l.any (Nat.beq i) with
    | true => rfl
    | false =>
      simp only [cond_false]
      congr 1
      rw [Array.all_append]
      have : (((l.filter fun j => Nat.blt j i).map fun j => (⟨j, .data⟩ : Edge)).toArray.all fun e => !Region.binds .any e || listed.getD e.on false) = true := by
        rw [Array.all_eq_true_iff_forall_mem]
        intro e he
        rw [List.mem_toArray, List.mem_map] at he
        obtain ⟨j, hj, rfl⟩ := he
        simp only [h j (List.mem_filter.1 hj).1, Bool.or_true]
      rw [this, Bool.and_true]
theorem addEdges_any [Tabs] {ops : Array Oper} {l : List Nat} {Q : Exit → Act → World → Prop} : ∀ (fuel : Nat) (listed : Array Bool) (a : Act) (w : World), (∀ j ∈ l, listed.getD j false = true) → wpAny P .any (addEdges ops l) Q fuel listed a w → wpAny P .any ops Q fuel listed a w
  | 0, listed, a, w, hl, h => ⟨by rw [← addEdges_ready hl]; exact h.1, h.2⟩
  | fuel + 1, listed, a, w, hl, h => by
    refine ⟨fun hr => h.1 (by rw [addEdges_ready hl]; exact hr), fun i hi => ?_⟩
    have h2 := h.2 i (by rw [addEdges_ready hl]; exact hi)
    rw [addEdges_wpOp] at h2
    exact wpOp_mono (fun a' w' h3 => addEdges_any fuel _ a' w' (fun j hj => getD_set_true (hl j hj)) h3) h2
theorem free_run [Tabs] (hT : ∀ p ∈ E.T, tyOk P p.1 p.2 = true) {h : HGet} {d : Nat} {o : Oper} {ρ : Operand → Value} {ev : Operand → AVal} {get : HGet} (hev : ∀ x ∈ o.op.operands, VRel h S w m (ev x) (ρ x)) {v : AVal} (e : aQ E ev get d o.op = .ok v []) (hp : freeOp o.op = true) (hfv : freeV o.op v = true) :
    ∃ v', (∀ w2, (execOp ρ o).run P w2 = .ok (.value v') w2) ∧ VRel h S w m v v' := by
  obtain ⟨odst, op, oty, opos, oafter, oguard⟩ := o
  simp only at e hev hp hfv
  have ints : ∀ (op : BinOp) (t : TypeId) (x y : Operand) (t' : TypeId), (op = .add ∨ op = .sub) → (∀ z ∈ (Op.binOp op t x y t').operands, VRel h S w m (ev z) (ρ z)) → aQ E ev get d (.binOp op t x y t') = .ok v [] →
      ∃ v', (∀ w2, (execOp ρ ⟨odst, .binOp op t x y t', oty, opos, oafter, oguard⟩).run P w2 = .ok (.value v') w2) ∧ VRel h S w m v v' := by
    intro op t x y t' hop hev e
    have hx := hev x (by simp [Op.operands])
    have hy := hev y (by simp [Op.operands])
    simp only [aQ] at e
    split at e
    · rename_i a b ha hb
      rw [ha] at hx
      rw [hb] at hy
      unfold aBin at e
      split at e
      · rename_i j p j' q
        obtain ⟨hxv, hp⟩ := inv_int (h := h) (S := S) (w := w) (m := m) hx
        obtain ⟨hyv, hq⟩ := inv_int (h := h) (S := S) (w := w) (m := m) hy
        rcases hop with rfl | rfl
        · simp only [isShift, cond_false] at e
          cases hj : decide (j = j') with
          | false => rw [hj] at e; cases e
          | true =>
            rw [hj] at e
            have := of_decide_eq_true hj
            subst this
            cases e
            refine ⟨.int j (j.wrap (p + q)), fun w2 => ?_, pv_int (wfI_wrap _ _)⟩
            unfold execOp
            simp [hxv, hyv, eqGuard, binOp, Op.intArith]
        · simp only [isShift, cond_false] at e
          cases hj : decide (j = j') with
          | false => rw [hj] at e; cases e
          | true =>
            rw [hj] at e
            have := of_decide_eq_true hj
            subst this
            cases e
            refine ⟨.int j (j.wrap (p - q)), fun w2 => ?_, pv_int (wfI_wrap _ _)⟩
            unfold execOp
            simp [hxv, hyv, eqGuard, binOp, Op.intArith]
      · rcases hop with rfl | rfl
        · split at e
          · rename_i h1 h2; cases h2
          · rename_i h1 h2; cases h2
          · cases e
        · split at e
          · rename_i h1 h2; cases h2
          · rename_i h1 h2; cases h2
          · cases e
      · rcases hop with rfl | rfl
        · cases e
        · cases e
      · cases e
    · split at e
      · unfold aEq at e
        split at e
        · rcases hop with rfl | rfl
          · cases e
          · cases e
        · cases e
      · cases e
    · cases e
  cases op with
  | move x =>
    simp only [aQ, QRes.ok.injEq] at e
    obtain ⟨rfl, _⟩ := e
    exact ⟨ρ x, fun _ => rfl, hev x (by simp [Op.operands])⟩
  | binOp op t x y t' =>
    cases op with
    | add => exact ints .add t x y t' (.inl rfl) hev e
    | sub => exact ints .sub t x y t' (.inr rfl) hev e
    | _ => cases hp
  | nilCheck x =>
    have hx := hev x (by simp [Op.operands])
    have keep : ∀ (c : ACell), VRel h S w m (.one c) (ρ x) → (∃ a, ρ x = .pointer (some a)) → ∃ v', (∀ w2, (execOp ρ ⟨odst, .nilCheck x, oty, opos, oafter, oguard⟩).run P w2 = .ok (.value v') w2) ∧ VRel h S w m (.one c) v' := fun c hc ⟨a, ha⟩ => ⟨.pointer (some a), fun w2 => by simp only [execOp, ha]; rfl, ha ▸ hc⟩
    simp only [aQ] at e
    split at e
    · rename_i id off hc
      cases e
      rw [hc] at hx
      exact keep _ hx (by obtain ⟨_, _, b, _, _, h3⟩ := hx; exact ⟨_, h3⟩)
    · rename_i id i off hc
      cases e
      rw [hc] at hx
      exact keep _ hx (by obtain ⟨_, _, _, _, _, _, _, h3⟩ := hx; exact ⟨_, h3⟩)
    · rename_i t y hc
      cases e
      rw [hc] at hx
      exact keep _ hx (by obtain ⟨_, _, _, h3, _⟩ := hx; exact ⟨_, h3⟩)
    · cases e
  | fieldAddr t x f =>
    have hx := hev x (by simp [Op.operands])
    simp only [aQ] at e
    split at e
    · rename_i u c hl hc
      rw [hc] at hx
      have ht := hT _ (look_mem (lookS_spec hl).1)
      split at e
      · rename_i p id off hf
        cases e
        obtain ⟨h1, c, b, h2, h3, h4⟩ := hx
        refine ⟨.pointer (some ⟨b, off + p.1, none⟩), fun w2 => ?_, h1, c, b, h2, h3, rfl⟩
        have := run_fieldAt (P := P) (w := w2) ht (lookS_spec hl).2 hf b off
        simp only [execOp, h4]
        simp [this]
      · rename_i p id i off hf
        cases e
        obtain ⟨h1, c, g, n, cap, h2, h3, h4⟩ := hx
        refine ⟨.pointer (some ⟨g, i * c.e.size + off + p.1, none⟩), fun w2 => ?_, h1, c, g, n, cap, h2, h3, by rw [Nat.add_assoc]⟩
        have := run_fieldAt (P := P) (w := w2) ht (lookS_spec hl).2 hf g (i * c.e.size + off)
        simp only [execOp, h4]
        simp [this]
      · split at e
        · split at e
          · cases e; cases hfv
          · cases e
        · cases e
      · cases e
    · cases e
  | _ => cases hp
theorem ready_edges [Tabs] {ops : Array Oper} {L : List Nat} {listed : Array Bool} {j : Nat} (hj : j ∈ L) (h : j ∈ Region.ready .any ops listed) : j ∈ Region.ready .any (addEdges ops L) listed := by
  rw [mem_ready] at h ⊢
  obtain ⟨h0, o, ho, hall⟩ := h
  refine ⟨h0, o, ?_, hall⟩
  rw [addEdges_get, ho]
  have : L.any (Nat.beq j) = true := List.any_eq_true.2 ⟨j, hj, by simp⟩
  simp [this]
theorem hoist_take [Tabs] (hT : ∀ p ∈ E.T, tyOk P p.1 p.2 = true) {ops : Array Oper} {Q : Exit → Act → World → Prop} (hsel : Region.noSelect ops = true) {L : List Nat} : ∀ (l : List Nat) {s : AS} {a : Act} {listed : Array Bool}, (∀ j ∈ l, j ∈ L) → Rel w0 B M0 S m s a w → listed.size = ops.size → hoistRun E ops l s listed = true →
    ∃ a2 listed2, (∀ j, listed.getD j false = true → listed2.getD j false = true) ∧ (∀ j ∈ l, listed2.getD j false = true) ∧ (∀ fuel, wpAny P .any ops (onlyN Q) fuel listed2 a2 w → wpAny P .any ops (onlyN Q) (fuel + l.length) listed a w) ∧
      ∀ fuel, wpAny P .any (addEdges ops L) (onlyN Q) (fuel + l.length) listed a w → wpAny P .any (addEdges ops L) (onlyN Q) fuel listed2 a2 w
  | [], _, a, listed, _, _, _, _ => ⟨a, listed, fun _ h => h, (fun j hj => by cases hj), fun _ h => h, fun _ h => h⟩
  | j :: r, s, a, listed, hL, R, hs, h => by
    unfold hoistRun at h
    cases hj : ops[j]? with
    | none => rw [hj] at h; cases h
    | some oj =>
    rw [hj] at h
    simp only [Bool.and_eq_true] at h
    obtain ⟨hfree, hg, hf, hr, hm⟩ := h
    have hgn : oj.guard = none := by cases h : oj.guard with | none => rfl | some _ => rw [h] at hg; cases hg
    split at hm
    · rename_i v hq
      rw [Bool.and_eq_true] at hm
      obtain ⟨hfv, hm⟩ := hm
      obtain ⟨v', hrun, hv⟩ := free_run (ρ := a.eval) hT (fun x _ => R.ev x) hq hfree hfv
      have hy : ∀ os : Array Oper, Yields P os oj v' a := fun os => .inl ⟨by simp [Region.wanted, hgn], hrun⟩
      have hjlt : j < listed.size := by rw [hs]; exact (Array.getElem?_eq_some_iff.1 hj).1
      obtain ⟨a2, listed2, k1, k2, k3, k4⟩ := hoist_take hT hsel r (fun i hi => hL i (List.mem_cons_of_mem _ hi)) (R.put hv oj.dst) (by simpa using hs) hm
      refine ⟨a2, listed2, fun i hi => k1 i (getD_set_true hi), fun i hi => ?_, fun fuel hw => ?_, fun fuel hw => ?_⟩
      · rcases List.mem_cons.1 hi with rfl | hi
        · refine k1 i ?_
          rw [Array.getD_eq_getD_getElem?, Array.getElem?_setIfInBounds_self_of_lt hjlt]
          rfl
        · exact k2 i hi
      · have := wpAny_take hj hsel hf hr (fun c a w hq => by cases hq.1) (hy ops) (k3 fuel hw)
        rw [List.length_cons, ← Nat.add_assoc]
        exact this
      · rw [List.length_cons, ← Nat.add_assoc] at hw
        have h2 := hw.2 j (ready_edges (hL j List.mem_cons_self) (by simpa using hr))
        rw [addEdges_wpOp] at h2
        refine k4 fuel ?_
        unfold wpOp at h2
        rw [hj] at h2
        simp only [Region.wanted, hgn, if_true] at h2
        rcases h2 with h2 | h2
        · unfold Oper.wp at h2
          rw [hrun w] at h2
          exact h2
        · exact absurd h2.2 onlyN_lets
    · cases hm
theorem addEdges_dsts (ops : Array Oper) (l : List Nat) : dstsL (addEdges ops l).toList = dstsL ops.toList := by
  unfold dstsL
  have : ∀ (f : Nat → Oper → Oper), (∀ k o, (f k o).dst = o.dst) → ∀ (r : List Oper), (r.mapIdx f).filterMap (·.dst) = r.filterMap (·.dst) := by
    intro f hf r
    induction r generalizing f with
    | nil => rfl
    | cons o r ih =>
      rw [List.mapIdx_cons, List.filterMap_cons, List.filterMap_cons, hf, ih (fun k o => f (k + 1) o) (fun k o => hf _ o)]
  unfold addEdges
  rw [Array.toList_mapIdx]
  exact this _ (fun k o => by cases l.any (Nat.beq k) <;> rfl) _
theorem region_any [Tabs] (hE : Good P E) (hB0 : B ≤ w0.heap.size) {s : AS} {a : Act} (R : Rel w0 B M0 S m s a w) {ops : Array Oper} {R' : Type} {k : AS → Option R'} {r : R'}
    (e : (match regSegsE E ops.toList with | some l => runOps E ops (2 * ops.size + 1) [] l s k | none => none) = some r)
    {Q : Exit → Act → World → Prop} (K : ∀ s' a' w' S' m', k s' = some r → Shift w0 B M0 S m s a w (dstsL ops.toList) s' a' w' S' m' → Q .normal a' w') : wpAny P .any ops Q ops.size (Array.replicate ops.size false) a w.drew := by
  have hB : B ≤ w.heap.size := Nat.le_trans hB0 R.frm.size
  cases hsE : regSegsE E ops.toList with
  | none => rw [hsE] at e; cases e
  | some l =>
    rw [hsE] at e
    simp only at e
    unfold regSegsE at hsE
    cases hs : regSegs ops.toList with
    | none => rw [hs] at hsE; cases hsE
    | some l' =>
    rw [hs] at hsE
    simp only at hsE
    cases hca : asideAll E (ancs ops.toList []) 0 l' with
    | false => rw [hca] at hsE; cases hsE
    | true =>
    rw [hca] at hsE
    simp only [cond_true, Option.some.injEq] at hsE
    subst hsE
    unfold regSegs at hs
    simp only at hs
    cases hc : (ancOk (ancs ops.toList []) ops.toList && segsOk (ancs ops.toList []) 0 (segsFrom (ancs ops.toList []) 0 ops.toList [])) with
    | false => rw [hc] at hs; cases hs
    | true =>
      rw [hc] at hs
      simp only [cond_true, Option.some.injEq] at hs
      subst hs
      simp only [Bool.and_eq_true] at hc
      have hfl := segsFrom_flatten (ancs ops.toList []) ops.toList [] 0
      rw [List.nil_append] at hfl
      have D := R.drew hB
      have := runOps_sound (runner_any hE (Q := Q) hc.1 hc.2 hfl fun pre g rest hp p q hsp => by
        have := asideAll_spec hca hp hsp
        rwa [Nat.zero_add] at this) hE hB0 _ [] (segsFrom (ancs ops.toList []) 0 ops.toList []) [] [] (by simp) D.rel (by simp) e (fun s' a' w' S' m' hk H pre listed hp hu => by
        rw [hfl] at H
        have q := K s' a' w' S' m' hk (D.trans H (by simp) fun _ h => h)
        refine wpAny_done ?_ q _
        rw [List.append_nil] at hp
        subst hp
        rw [hfl, Array.length_toList] at hu
        refine List.eq_nil_iff_forall_not_mem.2 fun j hj => ?_
        rw [mem_ready] at hj
        obtain ⟨h0, o, ho, _⟩ := hj
        have hjs := (Array.getElem?_eq_some_iff.1 ho).1
        rw [Array.getD_eq_getD_getElem?, hu.2 j hjs] at h0
        simp [hjs] at h0) [] (Array.replicate ops.size false) (by simp) ⟨by simp, fun k hk => by simp [hk]⟩
      rw [List.append_nil, hfl] at this
      simpa using this
theorem region_h [Tabs] (hE : Good P E) (hB0 : B ≤ w0.heap.size) {s : AS} {a : Act} (R : Rel w0 B M0 S m s a w) {id : Nat} {ops : Array Oper} {R' : Type} {k : AS → Option R'} {r : R'}
    (e : (match regSegsE E (hops E s id ops).toList with | some l => runOps E (hops E s id ops) (2 * (hops E s id ops).size + 1) [] l s k | none => none) = some r)
    {Q : Exit → Act → World → Prop} (K : ∀ s' a' w' S' m', k s' = some r → Shift w0 B M0 S m s a w (dstsL ops.toList) s' a' w' S' m' → onlyN Q .normal a' w') : wpAny P .any ops (onlyN Q) ops.size (Array.replicate ops.size false) a w.drew := by
  have hB : B ≤ w.heap.size := Nat.le_trans hB0 R.frm.size
  have plain : hops E s id ops = ops → wpAny P .any ops (onlyN Q) ops.size (Array.replicate ops.size false) a w.drew := fun hl => by
    rw [hl] at e
    exact region_any hE hB0 R (Q := onlyN Q) e K
  cases hl : look E.hoist id with
  | none => exact plain (by simp [hops, hl])
  | some l =>
    cases hc : (Nat.ble l.length ops.size && (Region.noSelect ops && hoistRun E ops l s (Array.replicate ops.size false))) with
    | false => exact plain (by simp only [hops, hl, hc, cond_false])
    | true =>
      have hr : hops E s id ops = addEdges ops l := by simp only [hops, cond_true, hl, hc]
      rw [hr] at e
      simp only [Bool.and_eq_true] at hc
      obtain ⟨h1, h2, h3⟩ := hc
      have h := region_any hE hB0 R (Q := onlyN Q) e fun s' a' w' S' m' hk H => K s' a' w' S' m' hk (by rwa [addEdges_dsts] at H)
      rw [addEdges_size] at h
      obtain ⟨a2, listed2, _, k2, k3, k4⟩ := hoist_take (Q := Q) (w := w.drew) hE.T h2 (L := l) l (fun _ h => h) (R.drew hB).rel (by simp) h3
      have hlen : ops.size = ops.size - l.length + l.length := by have := Nat.le_of_ble_eq_true h1; omega
      have h5 := k4 (ops.size - l.length) (by rw [← hlen]; exact h)
      have h6 := k3 (ops.size - l.length) (addEdges_any _ _ _ _ k2 h5)
      rw [← hlen] at h6
      exact h6
theorem region_sound [Tabs] (hE : Good P E) (hB0 : B ≤ w0.heap.size) {s : AS} {a : Act} (R : Rel w0 B M0 S m s a w) {id : Nat} {ops : Array Oper} {draw : Bool} {R' : Type} {k : AS → Option R'} {r : R'}
    (e : (match (bif draw then regSegsE E (rops E s id ops draw).toList else some ((rops E s id ops draw).toList.map fun o => [o])) with | some l => runOps E (rops E s id ops draw) (2 * (rops E s id ops draw).size + 1) [] l s k | none => none) = some r)
    {Q : Exit → Act → World → Prop} (K : ∀ s' a' w' S' m', k s' = some r → Shift w0 B M0 S m s a w (dstsL ops.toList) s' a' w' S' m' → Q .normal a' w') : (Code.region id ops draw).wp P Q a w := by
  have hB : B ≤ w.heap.size := Nat.le_trans hB0 R.frm.size
  cases draw with
  | false =>
    simp only [cond_false, rops] at e
    refine wp_region_list ?_
    have := runOps_sound (runner_list (P := P) (E := E) ops Q ops.toList) hE hB0 _ [] (ops.toList.map fun o => [o]) [] [] (by simp) R (by simp) e (fun s' a' w' S' m' hk H => by
      rw [map_one_flatten] at H
      exact K s' a' w' S' m' hk H)
    simpa [map_one_flatten] using this
  | true =>
    simp only [cond_true, rops] at e
    have K2 : ∀ s' a' w' S' m', k s' = some r → Shift w0 B M0 S m s a w (dstsL (sops E id ops).toList) s' a' w' S' m' → onlyN Q .normal a' w' := fun s' a' w' S' m' hk H => ⟨rfl, K s' a' w' S' m' hk ⟨H.rel, H.ext, H.t, H.wide, fun t ht => H.keep t fun h => ht (sops_dsts h), H.len⟩⟩
    exact Code.wp_mono (Q := onlyN Q) (fun e a w hq => by obtain ⟨rfl, h⟩ := hq; exact h) (wp_region_any hE.mixed (sops_any (region_h hE hB0 R e K2)))
end
end Go.Ab
namespace Go.Ab
open Go Go.RowKit
section
variable {P : Program} {E : Env} {h : HGet} {S : Blk} {w w0 : World} {m : OMap} {B : Nat} {M0 : Blk}
def Stay (S : Blk) (w w2 : World) : Prop := ∀ q, S q → w2.heap[q]? = w.heap[q]?
theorem slice_pv_all [Tabs] {st : TypeId} {t : Ty} (ht : tyOk P st (.slice t) = true) {xs ys : List t.den} {x : Value} (r : CellRel h S w m (.pv (.slice t) xs) x) {lo hi : Option Value} {l q : Int}
    (hl : BoundIs lo 0 l) (hq : BoundIs hi xs.length q) (hs : sub xs l q = some ys) : ∃ v', ∀ w2, (Instr.sliceAt st x lo hi none).run P w2 = .ok v' w2 := by
  obtain ⟨h0, h1, h2, rfl⟩ := sub_some hs
  obtain ⟨te, i, z, hu, hi', hsz, _⟩ := slice_ty ht
  obtain ⟨_, hlen, hr⟩ := r
  rcases hr with ⟨hx, rfl⟩ | ⟨a, cap, hx, hc, hb, hel⟩
  · simp only [List.cons.injEq, and_true] at hx
    subst hx
    simp only [List.length_nil] at h2 hq
    obtain rfl : q = 0 := by omega
    obtain rfl : l = 0 := by omega
    refine ⟨.slice none 0 0, fun w2 => ?_⟩
    simp only [Instr.sliceAt, Sem.run_bind, run_underlying hu, Result.andThen_ok, Instr.slice, run_sliceBounds hl hq (Int.le_refl _) (Int.le_refl _) (by simp) (Nat.le_refl _), sizeOf, typeInfo, run_program, hi', Sem.run_pure]
    rfl
  · simp only [List.cons.injEq, and_true] at hx
    subst hx
    refine ⟨.slice (if cap = l.toNat then some a else some (a.add (l.toNat * t.size))) (q.toNat - l.toNat) (cap - l.toNat), fun w2 => ?_⟩
    simp only [Instr.sliceAt, Sem.run_bind, run_underlying hu, Result.andThen_ok, Instr.slice, run_sliceBounds hl hq h0 h1 h2 hc.1, sizeOf, typeInfo, run_program, hi', Sem.run_pure, hsz, Option.map_some]
theorem first_ok [Tabs] (hT : ∀ p ∈ E.T, tyOk P p.1 p.2 = true) {ev : Operand → AVal} {d : Nat} {o : Oper} {ρ : Operand → Value} (hev : ∀ x, VRel h S w m (ev x) (ρ x)) (hf : firstOp ev o.op = true) {v : AVal} {os : AHeap} (g : (aQ E ev h d o.op).gives v os) :
    ∃ v', ∀ w2, Stay S w w2 → (execOp ρ o).run P w2 = .ok (.value v') w2 := by
  obtain ⟨odst, op, oty, opos, oafter, oguard⟩ := o
  simp only at hf g ⊢
  have lift : ∀ {x : Sem Value} {v' : Value} {w2 : World}, x.run P w2 = .ok v' w2 → (do pure (.value (← x)) : Sem Next).run P w2 = .ok (.value v') w2 := fun {x v' w2} hx => by simp [hx]
  cases op with
  | move x => exact ⟨ρ x, fun _ _ => rfl⟩
  | nilCheck x =>
    have hx := hev x
    simp only [firstOp] at hf
    have : ∃ p, ρ x = .pointer (some p) := by
      split at hf
      · rename_i t y hc; rw [hc] at hx; obtain ⟨b, off, ds, hv, _⟩ := (hx : PcRel S w t y (ρ x)); exact ⟨_, hv⟩
      · rename_i id off hc; rw [hc] at hx; obtain ⟨_, c, b, _, _, hv⟩ := (hx : CellRel h S w m (.op id off) (ρ x)); exact ⟨_, hv⟩
      · cases hf
    obtain ⟨p, hp⟩ := this
    exact ⟨.pointer (some p), fun w2 _ => by simp only [execOp, hp]; rfl⟩
  | fieldAddr t x f =>
    have hx := hev x
    simp only [aQ] at g
    split at g
    · rename_i u c hl hc
      rw [hc] at hx
      have ht := hT _ (look_mem (lookS_spec hl).1)
      cases hfd : fieldAt u f with
      | none => rw [hfd] at g; exact g.elim
      | some p =>
        simp only [firstOp, hc] at hf
        cases c with
        | pc u' y =>
          obtain ⟨b, off, ds, hv, _⟩ := (hx : PcRel S w u' y (ρ x))
          refine ⟨.pointer (some ⟨b, off + p.1, none⟩), fun w2 _ => ?_⟩
          have := run_fieldAt (P := P) (w := w2) ht (lookS_spec hl).2 hfd b off
          simp only [execOp, hv]
          exact lift this
        | op id off =>
          obtain ⟨_, c, b, _, _, hv⟩ := (hx : CellRel h S w m (.op id off) (ρ x))
          refine ⟨.pointer (some ⟨b, off + p.1, none⟩), fun w2 _ => ?_⟩
          have := run_fieldAt (P := P) (w := w2) ht (lookS_spec hl).2 hfd b off
          simp only [execOp, hv]
          exact lift this
        | _ => cases hf
    · exact g.elim
  | load t x =>
    have hx := hev x
    simp only [aQ] at g
    split at g
    · rename_i u c hl hc
      rw [hc] at hx
      have ht := hT _ (look_mem hl)
      simp only [firstOp, hc] at hf
      cases c with
      | pc u' y =>
        obtain ⟨b, off, ds, hv, hb, hlt, hrd, hrep⟩ := (hx : PcRel S w u' y (ρ x))
        have hu : u' = u := by
          simp only [aLoad] at g
          split at g
          · rename_i z hz; exact (cast?_some hz).1
          · exact g.elim
        subst hu
        refine ⟨valV u'.isAgg ds, fun w2 hst => ?_⟩
        have hrd2 : ReadsAt w2 b off ds := fun j v hj => by
          rw [← hrd j v hj]
          unfold World.cell?
          rw [hst b hb]
        have := run_loadVar_ty (P := P) ht hrd2 hrep.len
        simp only [execOp, hv, Instr.loadAt, Instr.sureAddr]
        exact lift (by simpa using this)
      | _ => cases hf
    · exact g.elim
  | slice t x lo hi mx =>
    cases mx with
    | some mx => cases hf
    | none =>
    have hx := hev x
    simp only [firstOp] at hf
    split at hf
    rotate_left
    · cases hf
    rename_i t1 xs hxs
    rw [hxs] at hx
    simp only [aQ] at g
    split at g
    · rename_i t' t2 ys hl hys
      rw [hxs] at hys
      simp only [AVal.one.injEq, ACell.pv.injEq, Ty.slice.injEq] at hys
      obtain ⟨rfl, hyz⟩ := hys
      have hyz := eq_of_heq hyz
      subst hyz
      cases hu : decide (t1 = t') with
      | false => simp only [hu] at g; exact g.elim
      | true =>
        have hu2 := of_decide_eq_true hu
        subst hu2
        simp only [hu, cond_true] at g
        split at g
        · rename_i l q hbl hbq
          obtain ⟨zs, hzs, _⟩ := g
          obtain ⟨v', hv'⟩ := slice_pv_all (P := P) (h := h) (m := m) (S := S) (w := w) (hT _ (look_mem hl)) hx (bound_is (fun y _ => hev y) hbl) (bound_is (fun y _ => hev y) hbq) hzs
          exact ⟨v', fun w2 _ => by simp only [execOp]; exact lift (hv' w2)⟩
        · exact g.elim
    all_goals first
      | exact g.elim
      | (exfalso; simp_all; done)
  | _ => cases hf
theorem wpAnyH_mono {ops : Array Oper} {Q : Exit → Act → World → Prop} {I J : World → Prop} (hIJ : ∀ w, I w → J w) : ∀ (n : Nat) (listed : Array Bool) (a : Act) (w : World), wpAnyH P .any ops Q I n listed a w → wpAnyH P .any ops Q J n listed a w
  | 0, _, _, _, h => h
  | n + 1, _, _, _, h => ⟨h.1, fun i hi => wpOp_mono (fun a' w' h' => ⟨hIJ w' h'.1, wpAnyH_mono hIJ n _ a' w' h'.2⟩) (h.2 i hi)⟩
theorem evAll_spec {R : Type} {f : Nat → Option R} {r : R} : ∀ {l : List Nat}, evAll l f = some r → ∀ i ∈ l, f i = some r
  | [], h, _, _ => by cases h
  | [j], h, i, hi => by rw [List.mem_singleton.1 hi]; exact h
  | j :: i :: l, h, q, hq => by
    obtain ⟨h1, h2⟩ := bothSame_spec h
    rcases List.mem_cons.1 hq with rfl | hq
    · exact h1
    · exact evAll_spec (l := i :: l) h2 q hq
theorem runEv_sound [Tabs] (hE : Good P E) (hB0 : B ≤ w0.heap.size) {ops : Array Oper} {Q : Exit → Act → World → Prop} : ∀ (n : Nat) {listed : Array Bool} {s : AS} {a : Act} {w : World} {S : Blk} {m : OMap} {R' : Type} {k : AS → Option R'} {r : R'}, Rel w0 B M0 S m s a w → runEv E ops n listed s k = some r →
    (∀ s' a' w' S' m', k s' = some r → Shift w0 B M0 S m s a w (dstsL ops.toList) s' a' w' S' m' → onlyN Q .normal a' w') → ∀ {I : World → Prop}, (∀ w2, Stay S w w2 → I w2) → wpAnyH P .any ops (onlyN Q) I n listed a w
  | 0, listed, s, a, w, S, m, _, k, r, R, e, K, I, hI => by
    unfold runEv at e
    cases h : (Region.ready .any ops listed).isEmpty with
    | false => rw [h] at e; cases e
    | true =>
      rw [h] at e
      exact ⟨List.isEmpty_iff.1 h, K s a w S m e (Shift.refl R _)⟩
  | n + 1, listed, s, a, w, S, m, _, k, r, R, e, K, I, hI => by
    unfold runEv at e
    cases hr : Region.ready .any ops listed with
    | nil =>
      rw [hr] at e
      exact ⟨fun _ => K s a w S m e (Shift.refl R _), fun i hi => by rw [hr] at hi; cases hi⟩
    | cons i0 l =>
    rw [hr] at e
    simp only at e
    have mem_dst : ∀ {i : Nat} {o : Oper}, ops[i]? = some o → ∀ t, t ∈ dstsL [o] → t ∈ dstsL ops.toList := fun {i o} ho t ht => by
      have hmem : o ∈ ops.toList := Array.mem_toList_iff.2 (Array.mem_of_getElem? ho)
      unfold dstsL at ht ⊢
      obtain ⟨o', ho', h2⟩ := List.mem_filterMap.1 ht
      rw [List.mem_singleton.1 ho'] at h2
      exact List.mem_filterMap.2 ⟨o, hmem, h2⟩
    cases hfi : (i0 :: l).find? (firstE E ops listed s) with
    | some j =>
      rw [hfi] at e
      simp only at e
      have hj := List.mem_of_find?_eq_some hfi
      have hfe := List.find?_some hfi
      unfold firstE at hfe
      cases ho : ops[j]? with
      | none => rw [ho] at hfe; cases hfe
      | some o =>
        rw [ho] at e hfe
        simp only [Bool.and_eq_true] at e hfe
        obtain ⟨hg, hsel, hfree, hfo⟩ := hfe
        have hB : B ≤ w.heap.size := Nat.le_trans hB0 R.frm.size
        unfold aQuiet at e
        generalize hd : o.dst.getD 0 = d at e hfo
        have f1 := R.fresh d
        have t1 := fresh_t s d
        generalize s.fresh d = s1 at *
        obtain ⟨S2, hS2, nS2, R2⟩ := Rel.frzAll (gives E s1 d o.op) f1.1
        have t2 := frzAll_t (gives E s1 d o.op) s1
        have hn := frzAll_none (gives E s1 d o.op) s1
        simp only at e
        generalize s1.frzAll (gives E s1 d o.op) = s2 at *
        obtain ⟨v, os, g, hk⟩ := QRes.gives_of_run e
        obtain ⟨v1, w1, S1, m1, hx, q⟩ := aQ_sound hE.T hE.ins.2.2.2.1 R2.mem hB (fun id x h1 _ => h1) (fun id h1 h2 => hn id (f1.2 id h1 h2)) (fun x _ => R2.ev x) g
        obtain ⟨v', hall⟩ := first_ok (P := P) (d := d) hE.T (fun x => R2.ev x) hfo g
        have hx2 := hall w (fun _ _ => rfl)
        rw [hx] at hx2
        cases hx2
        have M := q.moved R2 hB s2.t
        have Mv : Moved w0 B M0 S m s a w v _ v1 w S1 m1 := ⟨M.1, M.2.1, ((Wider.more hS2 w m (h := s2.h.get)).ext nS2).trans (M.2.2.ext (q.fresh_blocks hB)), Nat.le_trans t1.1 t2.1, fun et => by
          simp only at et
          have e2 : s2 = s1 := t2.2 (by omega)
          have e1 : s1 = s := t1.2 (by omega)
          subst e2; subst e1
          exact (Wider.more hS2 w m).trans M.2.2⟩
        have hS21 : ∀ q, S2 q → S1 q := (M.2.2.ext (q.fresh_blocks hB)).sub
        have M1 := Mv.shift o
        have hw : Region.wanted o (yielded ops a.tmps) = true := by
          unfold Region.wanted
          cases hgd : o.guard with
          | none => rfl
          | some g => rw [hgd] at hg; cases hg
        have ih := runEv_sound hE hB0 (Q := Q) n M1.rel hk (fun s2 a2 w2 S2 m2 hk2 H => K s2 a2 w2 S2 m2 hk2 (M1.trans H (mem_dst ho) fun _ h => h)) (I := fun w2 => Stay S2 w w2 ∧ I w2) (fun w2 hst => ⟨fun q hq => hst q (hS21 q hq), hI w2 fun q hq => hst q (hS21 q (hS2 q hq))⟩)
        refine wpAnyH_mono (I := fun w2 => Stay S2 w w2 ∧ I w2) (fun _ h => h.2) _ _ _ _ (wpAnyH_take ho hsel hfree (by rw [hr]; simpa using hj) (fun c a w hq => by cases hq.1) (.inl ⟨hw, fun w2 h2 => hall w2 h2.1⟩) ⟨fun _ _ => rfl, hI w fun _ _ => rfl⟩ ih)
    | none =>
      rw [hfi] at e
      simp only at e
      refine ⟨fun h => absurd (hr.symm.trans h) (by simp), fun i hi => ?_⟩
      rw [hr] at hi
      have e1 := evAll_spec e i hi
      unfold wpOp
      cases ho : ops[i]? with
      | none => rw [ho] at e1; cases e1
      | some o =>
        rw [ho] at e1
        simp only at e1 ⊢
        cases hg : o.guard with
        | some g => rw [hg] at e1; cases e1
        | none =>
          rw [hg] at e1
          simp only [Option.isNone_none, cond_true] at e1
          have hw : Region.wanted o (yielded ops a.tmps) = true := by unfold Region.wanted; rw [hg]
          rw [if_pos hw]
          refine .inl (aOp_sound hE hB0 R e1 fun v s' v' w' S' m' hk M => ?_)
          have M1 := M.shift o
          refine ⟨hI w' M.ext.stay, runEv_sound hE hB0 (Q := Q) n M1.rel hk (fun s2 a2 w2 S2 m2 hk2 H => K s2 a2 w2 S2 m2 hk2 (M1.trans H (mem_dst ho) fun _ h => h)) fun w2 hst => hI w2 fun q hq => (hst q (M.ext.sub q hq)).trans (M.ext.stay q hq)⟩
end
end Go.Ab
