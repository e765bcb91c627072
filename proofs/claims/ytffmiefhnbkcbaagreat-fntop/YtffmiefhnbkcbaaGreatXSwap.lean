/-
  A region in which an operation that only takes a tuple apart stands ahead of another one.
-/
import Derived.Test.YtffmiefhnbkcbaaGreatXLate
namespace Go.Ab
open Go Go.RowKit
section
variable {P : Program} {S : Blk} {w w0 : World} {m : OMap} {B : Nat} {M0 : Blk}
def onlyN (Q : Exit → Act → World → Prop) : Exit → Act → World → Prop := fun e a w => e = .normal ∧ Q .normal a w
theorem onlyN_lets {Q : Exit → Act → World → Prop} : ¬ LetsOut (onlyN Q) := fun ⟨_, _, h, _⟩ => by cases h
theorem edge_size (ops : Array Oper) (j k : Nat) : (edgeOps ops j k).size = ops.size := by simp [edgeOps]
theorem edge_get (ops : Array Oper) (j k i : Nat) : (edgeOps ops j k)[i]? = (ops[i]?).map fun o => bif Nat.beq i k then { o with after := o.after.push ⟨j, .data⟩ } else o := by
  simp [edgeOps, Array.getElem?_mapIdx]
theorem edge_yielded {ops : Array Oper} {j k : Nat} (t : Array Value) (g : Nat) : yielded (edgeOps ops j k) t g = yielded ops t g := by
  unfold yielded
  rw [edge_get]
  cases ops[g]? with
  | none => rfl
  | some o => simp only [Option.map_some]; cases Nat.beq g k <;> rfl
theorem edge_wpOp {ops : Array Oper} {j k i : Nat} {Q : Exit → Act → World → Prop} {K : Act → World → Prop} {a : Act} : wpOp P (edgeOps ops j k) Q i K a w ↔ wpOp P ops Q i K a w := by
  unfold wpOp
  rw [edge_get]
  cases ops[i]? with
  | none => exact Iff.rfl
  | some o =>
    have hy : yielded (edgeOps ops j k) a.tmps = yielded ops a.tmps := funext fun g => edge_yielded a.tmps g
    simp only [Option.map_some, hy]
    cases Nat.beq i k <;> exact Iff.rfl
theorem edge_ready {ops : Array Oper} {j k i : Nat} {listed : Array Bool} (h : i ∈ Region.ready .any (edgeOps ops j k) listed) : i ∈ Region.ready .any ops listed := by
  rw [mem_ready] at h ⊢
  obtain ⟨h0, o, ho, hall⟩ := h
  rw [edge_get] at ho
  cases hi : ops[i]? with
  | none => rw [hi] at ho; cases ho
  | some o2 =>
    rw [hi] at ho
    simp only [Option.map_some, Option.some.injEq] at ho
    refine ⟨h0, o2, rfl, fun e he hb => hall e ?_ hb⟩
    subst ho
    cases Nat.beq i k with
    | false => exact he
    | true => simp [he]
theorem ready_edge {ops : Array Oper} {j k i : Nat} {listed : Array Bool} (h : i ∈ Region.ready .any ops listed) (hk : i = k → listed.getD j false = true) : i ∈ Region.ready .any (edgeOps ops j k) listed := by
  rw [mem_ready] at h ⊢
  obtain ⟨h0, o, ho, hall⟩ := h
  refine ⟨h0, _, by rw [edge_get, ho]; rfl, fun e he hb => ?_⟩
  cases hik : Nat.beq i k with
  | false => rw [hik] at he; exact hall e he hb
  | true =>
    rw [hik] at he
    simp only [cond_true, Array.mem_push] at he
    rcases he with he | rfl
    · exact hall e he hb
    · exact hk (Nat.eq_of_beq_eq_true hik)
theorem predsFrom_spec {i : Nat} : ∀ (l : List Edge) (a : Array Bool), (predsFrom l a).getD i false = true → a.getD i false = true ∨ ∃ e ∈ l, Region.binds .any e = true ∧ e.on = i
  | [], a, h => .inl h
  | e :: r, a, h => by
    unfold predsFrom at h
    rcases predsFrom_spec r _ h with h | ⟨f, h1, h2, h3⟩
    · cases hb : Region.binds .any e with
      | false => rw [hb] at h; exact .inl h
      | true =>
        rw [hb] at h
        simp only [cond_true] at h
        by_cases he : e.on = i
        · exact .inr ⟨e, by simp, hb, he⟩
        · rw [getD_set_ne false he] at h; exact .inl h
    · exact .inr ⟨f, List.mem_cons_of_mem _ h1, h2, h3⟩
theorem predsFrom_size : ∀ (l : List Edge) (a : Array Bool), (predsFrom l a).size = a.size
  | [], _ => rfl
  | e :: r, a => by
    unfold predsFrom
    rw [predsFrom_size r]
    cases Region.binds .any e <;> simp
theorem free_mono {ops : Array Oper} {l l2 : Array Bool} {i : Nat} (h : Region.free .any ops l i = true) (hm : ∀ j, j < ops.size → l.getD j true = true → l2.getD j true = true) : Region.free .any ops l2 i = true := by
  unfold Region.free at h ⊢
  cases hi : ops[i]? with
  | none => rw [hi] at h; cases h
  | some oi =>
    rw [hi] at h
    simp only [List.all_eq_true, List.mem_range] at h ⊢
    intro j hj
    have h1 := h j hj
    simp only [Bool.or_eq_true] at h1 ⊢
    rcases h1 with (h1 | h1) | h1
    · exact .inl (.inl h1)
    · exact .inl (.inr (hm j hj h1))
    · exact .inr h1
theorem getD_lt {l : Array Bool} {i : Nat} (h : i < l.size) (d d2 : Bool) : l.getD i d = l.getD i d2 := by simp [h]
theorem edge_done {ops : Array Oper} {j k : Nat} {Q : Exit → Act → World → Prop} : ∀ (fuel : Nat) (listed : Array Bool) (a : Act) (w : World), listed.getD j false = true → wpAny P .any (edgeOps ops j k) Q fuel listed a w → wpAny P .any ops Q fuel listed a w
  | 0, listed, a, w, hl, h => ⟨List.eq_nil_iff_forall_not_mem.2 (fun i hi => by have := ready_edge (k := k) hi (fun _ => hl); rw [h.1] at this; cases this), h.2⟩
  | fuel + 1, listed, a, w, hl, h => by
    refine ⟨fun hr => h.1 (List.eq_nil_iff_forall_not_mem.2 fun i hi => by have := edge_ready hi; rw [hr] at this; cases this), fun i hi => ?_⟩
    have h2 := h.2 i (ready_edge hi fun _ => hl)
    rw [edge_wpOp] at h2
    exact wpOp_mono (fun a' w' h3 => edge_done fuel _ a' w' (getD_set_true hl) h3) h2
theorem extract_yields {ops : Array Oper} {o : Oper} (hx : isExtract o.op = true) (hg : o.guard = none) {a : Act} {Q : Exit → Act → World → Prop} {K : Act → World → Prop} {j : Nat} (hj : ops[j]? = some o) (h : wpOp P ops (onlyN Q) j K a w) : ∃ v, Yields P ops o v a ∧ K (a.put o.dst v) w := by
  obtain ⟨odst, op, oty, opos, oafter, oguard⟩ := o
  simp only at hg hx
  subst hg
  cases op with
  | extract x i =>
    unfold wpOp at h
    rw [hj] at h
    simp only [Region.wanted, if_true] at h
    rcases h with h | h
    · unfold Oper.wp at h
      simp only [execOp, Instr.extract] at h
      unfold Yields
      simp only [Region.wanted, execOp, Instr.extract]
      cases hv : a.eval x with
      | tuple vs =>
        rw [hv] at h
        simp only at h ⊢
        cases hi : vs[i]? with
        | none => rw [hi] at h; exact h.elim
        | some v =>
          rw [hi] at h
          exact ⟨v, .inl ⟨by simp, fun w2 => rfl⟩, h⟩
      | _ => rw [hv] at h; exact h.elim
    · exact absurd h.2 onlyN_lets
  | _ => cases hx
theorem edge_any {ops : Array Oper} {j k : Nat} (hok : edgeOk ops j k = true) {Q : Exit → Act → World → Prop} : ∀ (fuel : Nat) (listed : Array Bool) (a : Act) (w : World), listed.size = ops.size → wpAny P .any (edgeOps ops j k) (onlyN Q) fuel listed a w → wpAny P .any ops (onlyN Q) fuel listed a w := by
  unfold edgeOk at hok
  rw [Bool.and_eq_true] at hok
  obtain ⟨hsel, hok⟩ := hok
  cases hj : ops[j]? with
  | none => rw [hj] at hok; cases hok
  | some oj =>
  cases hk : ops[k]? with
  | none => rw [hj, hk] at hok; cases hok
  | some o =>
  rw [hj, hk] at hok
  simp only [Bool.and_eq_true] at hok
  obtain ⟨hne, hx, hg, hall, hfree⟩ := hok
  have hgn : oj.guard = none := by cases h : oj.guard with | none => rfl | some _ => rw [h] at hg; cases hg
  have hjlt : j < ops.size := (Array.getElem?_eq_some_iff.1 hj).1
  have hkj : ¬ k = j := fun e => by subst e; simp at hne
  intro fuel
  induction fuel with
  | zero =>
    intro listed a w hs h
    by_cases hl : listed.getD j false = true
    · exact edge_done 0 listed a w hl h
    · refine ⟨List.eq_nil_iff_forall_not_mem.2 fun i hi => ?_, h.2⟩
      by_cases hik : i = k
      · subst hik
        have hjr : j ∈ Region.ready .any (edgeOps ops j i) listed := by
          refine ready_edge ?_ (fun e => absurd e.symm hkj)
          rw [mem_ready] at hi ⊢
          obtain ⟨_, o2, ho2, h2⟩ := hi
          rw [hk] at ho2
          cases ho2
          refine ⟨?_, oj, hj, fun e he hb => ?_⟩
          · rw [getD_lt (by omega) true false]; simpa using hl
          · have h3 := List.all_eq_true.1 hall e (Array.mem_toList_iff.2 he)
            rw [hb] at h3
            simp only [Bool.not_true, Bool.false_or] at h3
            obtain ⟨f, hf, hfb⟩ := List.any_eq_true.1 h3
            rw [Bool.and_eq_true] at hfb
            have := h2 f (Array.mem_toList_iff.1 hf) hfb.1
            rwa [Nat.eq_of_beq_eq_true hfb.2] at this
        rw [h.1] at hjr
        cases hjr
      · have := ready_edge (j := j) (k := k) hi (fun e => absurd e hik)
        rw [h.1] at this
        cases this
  | succ fuel ih =>
    intro listed a w hs h
    by_cases hl : listed.getD j false = true
    · exact edge_done _ listed a w hl h
    by_cases hr : j ∈ Region.ready .any ops listed
    · have h2 := h.2 j (ready_edge hr (fun e => absurd e.symm hkj))
      rw [edge_wpOp] at h2
      obtain ⟨v, hy, h3⟩ := extract_yields hx hgn hj h2
      have hf : Region.free .any ops listed j = true := free_mono hfree fun i hi h4 => by
        rw [getD_lt (by rw [predsFrom_size]; simpa using hi) true false] at h4
        rcases predsFrom_spec _ _ h4 with h5 | ⟨e, he, hb, rfl⟩
        · simp [hi] at h5
        · rw [getD_lt (by omega) true false]
          obtain ⟨_, o2, ho2, h6⟩ := mem_ready.1 hr
          rw [hj] at ho2
          cases ho2
          exact h6 e (Array.mem_toList_iff.1 he) hb
      refine wpAny_take hj hsel hf (by simpa using hr) (fun c a w hq => by cases hq.1) hy (edge_done fuel _ _ _ ?_ h3)
      rw [Array.getD_eq_getD_getElem?, Array.getElem?_setIfInBounds_self_of_lt (by omega)]
      rfl
    · have hkn : ∀ i, i ∈ Region.ready .any ops listed → i = k → listed.getD j false = true := fun i hi e => by
        subst e
        exfalso
        apply hr
        rw [mem_ready] at hi ⊢
        obtain ⟨_, o2, ho2, h2⟩ := hi
        rw [hk] at ho2
        cases ho2
        refine ⟨?_, oj, hj, fun e he hb => ?_⟩
        · rw [getD_lt (by omega) true false]; simpa using hl
        · have h3 := List.all_eq_true.1 hall e (Array.mem_toList_iff.2 he)
          rw [hb] at h3
          simp only [Bool.not_true, Bool.false_or] at h3
          obtain ⟨f, hf, hfb⟩ := List.any_eq_true.1 h3
          rw [Bool.and_eq_true] at hfb
          have := h2 f (Array.mem_toList_iff.1 hf) hfb.1
          rwa [Nat.eq_of_beq_eq_true hfb.2] at this
      refine ⟨fun h0 => h.1 (List.eq_nil_iff_forall_not_mem.2 fun i hi => by have := edge_ready hi; rw [h0] at this; cases this), fun i hi => ?_⟩
      have h2 := h.2 i (ready_edge hi (hkn i hi))
      rw [edge_wpOp] at h2
      exact wpOp_mono (fun a' w' h3 => ih _ a' w' (by simpa using hs) h3) h2
theorem swaps_any {Q : Exit → Act → World → Prop} {a : Act} : ∀ (l : List (Nat × Nat)) (ops : Array Oper), wpAny P .any (swapsOps ops l) (onlyN Q) (swapsOps ops l).size (Array.replicate (swapsOps ops l).size false) a w → wpAny P .any ops (onlyN Q) ops.size (Array.replicate ops.size false) a w
  | [], _, h => h
  | (i, j) :: r, ops, h => by
    unfold swapsOps at h
    cases hb : edgeOk ops i j with
    | false => rw [hb] at h; exact h
    | true =>
      rw [hb] at h
      simp only [cond_true] at h
      have h2 := swaps_any r (edgeOps ops i j) h
      rw [edge_size] at h2
      exact edge_any hb _ _ _ _ (by simp) h2
theorem edge_dsts (ops : Array Oper) (j k : Nat) : dstsL (edgeOps ops j k).toList = dstsL ops.toList := by
  unfold dstsL
  have : ∀ (f : Nat → Oper → Oper), (∀ k o, (f k o).dst = o.dst) → ∀ (r : List Oper), (r.mapIdx f).filterMap (·.dst) = r.filterMap (·.dst) := by
    intro f hf r
    induction r generalizing f with
    | nil => rfl
    | cons o r ih =>
      rw [List.mapIdx_cons, List.filterMap_cons, List.filterMap_cons, hf, ih (fun k o => f (k + 1) o) (fun k o => hf _ o)]
  unfold edgeOps
  rw [Array.toList_mapIdx]
  exact this _ (fun i o => by cases Nat.beq i k <;> rfl) _
theorem swaps_dsts : ∀ (l : List (Nat × Nat)) (ops : Array Oper), dstsL (swapsOps ops l).toList = dstsL ops.toList
  | [], _ => rfl
  | (i, j) :: r, ops => by
    unfold swapsOps
    cases edgeOk ops i j with
    | false => rfl
    | true => simp only [cond_true]; rw [swaps_dsts r, edge_dsts]
theorem sops_any {E : Env} {id : Nat} {ops : Array Oper} {Q : Exit → Act → World → Prop} {a : Act} (h : wpAny P .any (sops E id ops) (onlyN Q) (sops E id ops).size (Array.replicate (sops E id ops).size false) a w) : wpAny P .any ops (onlyN Q) ops.size (Array.replicate ops.size false) a w := by
  unfold sops at h
  cases hl : look E.swaps id with
  | none => rw [hl] at h; exact h
  | some l => rw [hl] at h; exact swaps_any l ops h
theorem sops_dsts {E : Env} {id t : Nat} {ops : Array Oper} (h : t ∈ dstsL (sops E id ops).toList) : t ∈ dstsL ops.toList := by
  unfold sops at h
  cases hl : look E.swaps id with
  | none => rw [hl] at h; exact h
  | some l => rw [hl, swaps_dsts l ops] at h; exact h
end
end Go.Ab
