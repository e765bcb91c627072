/-
  Elements are taken out of an own slice: calls of slices.DeleteFunc.
-/
import Derived.Test.YtlhplhjibadplaaXIns
namespace Go.Ab
open Go Go.RowKit

/-- what is asked of a function that takes elements out -/
def DelOk (P : Program) (f : FuncId) (D : DelFn) : Prop :=
  ∀ (w : World) (v : Value) (xs : List D.t.den) (F : Blk), ArrRel (fun _ => False) w true D.t v xs F → xs.length ≤ 999999 →
    Calls P f #[v, .func (.func D.g) #[] #[]] w fun e w' => ∃ v' F', e = .returned v' ∧ w.heap.size ≤ w'.heap.size ∧ (∀ q, q < w.heap.size → ¬ F q → w'.heap[q]? = w.heap[q]?) ∧ w'.os = w.os ∧ w'.tape = w.tape ∧ w'.output = w.output ∧ (∀ a, w'.frozen? a = w.frozen? a) ∧
      ArrRel (fun _ => False) w' true D.t v' (xs.filter D.keep) F' ∧ ∀ q, F' q → F q ∨ (w.heap.size ≤ q ∧ q < w'.heap.size)

def Libs (P : Program) (l : List (Nat × Ty)) (d : List (Nat × DelFn)) : Prop := (∀ p ∈ l, InsOk P p.1 p.2 ∧ FnOk P p.1) ∧ ∀ p ∈ d, DelOk P p.1 p.2 ∧ FnOk P p.1

section
variable {P : Program} {E : Env} {S : Blk} {w w0 : World} {m : OMap} {B : Nat} {M0 : Blk}

theorem map_pair2 {α β : Type} {f : α → β} {l : List α} {x y : β} (h : l.map f = [x, y]) : ∃ a b, l = [a, b] ∧ f a = x ∧ f b = y := by
  cases l with
  | nil => cases h
  | cons a l => cases l with
    | nil => cases h
    | cons b l => cases l with
      | nil => simp at h; exact ⟨a, b, rfl, h.1, h.2⟩
      | cons _ _ => simp at h

theorem aDel_spec [Tabs] {s : AS} {g : Nat} {args : List Operand} {R : Type} {k : AVal → AS → Option R} {r : R} (e : aDel E s g args k = some r) :
    ∃ (D : DelFn) (a b : Operand) (id : Nat) (xs : List D.t.den), look E.del g = some D ∧ args = [a, b] ∧ s.ev a = .one (.os id) ∧ s.ev b = .one (.cl D.g []) ∧ s.h.get id = some (.arr true D.t xs) ∧ xs.length ≤ 999999 ∧
      k (.one (.os id)) { s.kill id with h := (id, .arr true D.t (xs.filter D.keep)) :: (s.kill id).h } = some r := by
  unfold aDel at e
  split at e
  · rename_i D id gg hl hm
    split at e
    · rename_i e1 zs h1
      cases hb : (!(Nat.beq gg D.g) || (Nat.ble 100000 id && Nat.ble id 199999)) with
      | true => rw [hb] at e; cases e
      | false =>
      rw [hb] at e
      simp only [cond_false] at e
      split at e
      · rename_i xs c1
        cases hd : decide (List.length (α := D.t.den) xs ≤ 999999) with
        | false => rw [hd] at e; cases e
        | true =>
          rw [hd] at e
          simp only [cond_true] at e
          obtain ⟨t1, x1⟩ := cast?_some c1
          have e1' : e1 = D.t := by cases t1; rfl
          simp only [Bool.or_eq_false_iff, Bool.not_eq_false'] at hb
          have hg : gg = D.g := Nat.eq_of_beq_eq_true hb.1
          obtain ⟨t, dg, keep⟩ := D
          simp only at e1' hg
          subst e1'
          subst hg
          cases x1
          obtain ⟨a, b, ha, k1, k2⟩ := map_pair2 hm
          exact ⟨_, a, b, id, zs, hl, ha, k1, k2, h1, of_decide_eq_true hd, e⟩
      · cases e
    · cases e
  · cases e

theorem aDel_t [Tabs] {s : AS} {g : Nat} {args : List Operand} {R : Type} {k : AVal → AS → Option R} {r : R} (e : aDel E s g args k = some r) : ∃ v s', k v s' = some r ∧ s.t < s'.t := by
  obtain ⟨D, a, b, id, xs, h1, h2, h3, h4, h5, h6, hk⟩ := aDel_spec e
  exact ⟨_, _, hk, by show s.t < s.t + 1; omega⟩

theorem aDel_sound [Tabs] (hI : ∀ p ∈ E.del, DelOk P p.1 p.2 ∧ FnOk P p.1) (hB0 : B ≤ w0.heap.size) {s : AS} {a : Act} (R : Rel w0 B M0 S m s a w) {o : Oper} {c : Call} (ho : o.op = .call c) {f : Operand} (hc : c.callee = .value f) {g : FuncId} (hf : s.ev f = .one (.cl g []))
    {R' : Type} {k : AVal → AS → Option R'} {r : R'} (e : aDel E s g c.args.toList k = some r)
    {next : Act → World → Prop} {Q : Exit → Act → World → Prop} (K : ∀ v s' v' w' S' m', k v s' = some r → Moved w0 B M0 S m s a w v s' v' w' S' m' → next (a.put o.dst v') w') : o.wp P a w next Q := by
  obtain ⟨D, p1, p2, id, xs, hl, hargs, h3, h4, h6, h11, hk⟩ := aDel_spec e
  obtain ⟨hdel, hfn⟩ := hI _ (look_mem hl)
  have hB : B ≤ w.heap.size := Nat.le_trans hB0 R.frm.size
  have r1 := R.ev p1
  have r2 := R.ev p2
  rw [h3] at r1
  rw [h4] at r2
  obtain ⟨_, oc, hm, hv⟩ := r1
  obtain ⟨cc2, hv2, hcaps2⟩ := r2
  have hnil2 : cc2.toList = [] := hcaps2
  have hcc2 : cc2 = #[] := by rw [← Array.toArray_toList (xs := cc2), hnil2]
  rw [hcc2] at hv2
  obtain ⟨c1, hc1, _, hrel⟩ := R.mem.obj id _ h6
  obtain rfl : c1 = oc := Option.some.inj (hc1.symm.trans hm)
  have hcall := hdel w c1.v xs c1.F hrel h11
  have hargs0 : VRel s.h.get S w m (s.ev f) (a.eval f) := R.ev f
  rw [hf] at hargs0
  obtain ⟨ccs, hval, hcaps⟩ := hargs0
  have hnil : ccs.toList = [] := hcaps
  have hrun := run_call_fn (ty := o.type) (ρ := a.eval) hfn hc hval w
  unfold Oper.wp
  have hex : (execOp a.eval o).run P w = .ok (.enter g (c.args.map a.eval ++ ccs)) w := by
    rw [← hrun]
    obtain ⟨odst, op, oty, opos, oafter, oguard⟩ := o
    simp only at ho
    subst ho
    rfl
  rw [hex, Oper.upon_enter]
  have hm2 : (#[c1.v, .func (.func D.g) #[] #[]] : Array Value) = c.args.map a.eval ++ ccs := by
    have e1 : (c.args.map a.eval ++ ccs).toList = [c1.v, .func (.func D.g) #[] #[]] := by
      rw [Array.toList_append, Array.toList_map, hargs, hnil]
      simp only [List.map_cons, List.map_nil, List.append_nil, hv, hv2]
    rw [← Array.toArray_toList (xs := c.args.map a.eval ++ ccs), e1]
  rw [hm2] at hcall
  refine Calls.mono hcall fun ending w' hkk => ?_
  obtain ⟨v', F', rfl, g1, g2, g3, g4, g5, g6, g7, g8⟩ := hkk
  have g7' : ArrRel S w' true D.t v' (xs.filter D.keep) F' := g7
  obtain ⟨m', R3, hst, hm4⟩ := R.reborn hB h6 hm g1 g2 g3 g4 g5 (fun a _ => g6 a) g7' g8
  exact K _ _ v' w' S m' hk ⟨⟨⟨true, D.t, xs.filter D.keep, by simp [AHeap.get]⟩, _, hm4, rfl⟩, R3, ⟨fun q hq => hq, g1, fun q hq => hst q hq, fun q hq => .inl hq⟩, by show s.t ≤ s.t + 1; omega, fun et => by have : s.t + 1 = s.t := et; omega⟩
end
end Go.Ab
