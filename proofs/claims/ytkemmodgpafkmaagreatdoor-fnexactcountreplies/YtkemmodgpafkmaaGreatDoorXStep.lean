/-
  One operation: what the evaluator says of it is what the machine does.
-/
import Derived.Test.YtkemmodgpafkmaaGreatDoorXAppend
import Derived.Test.YtkemmodgpafkmaaGreatDoorXBack
namespace Go.Ab
open Go Go.RowKit
def FnOk (P : Program) (f : FuncId) : Prop := ∃ fn, P.funcs[f]? = some fn ∧ (fn.name == "runtime.NumGoroutine") = false ∧ fn.body.isNone = false
structure Ext (B : Nat) (M0 S S' : Blk) (w w' : World) : Prop where
  sub : ∀ q, S q → S' q
  size : w.heap.size ≤ w'.heap.size
  stay : ∀ q, S q → w'.heap[q]? = w.heap[q]?
  news : ∀ q, S' q → S q ∨ B ≤ q ∨ M0 q
theorem Ext.refl (B : Nat) (M0 S : Blk) (w : World) : Ext B M0 S S w w := ⟨fun _ h => h, Nat.le_refl _, fun _ _ => rfl, fun _ h => .inl h⟩
theorem Ext.trans {B : Nat} {M0 S S' S'' : Blk} {w w' w'' : World} (x : Ext B M0 S S' w w') (y : Ext B M0 S' S'' w' w'') : Ext B M0 S S'' w w'' :=
  ⟨fun q h => y.sub q (x.sub q h), Nat.le_trans x.size y.size, fun q h => (y.stay q (x.sub q h)).trans (x.stay q h), fun q h => (y.news q h).elim (fun h => x.news q h) .inr⟩
section
variable {P : Program} {E : Env} {S : Blk} {w w0 : World} {m : OMap} {B : Nat} {M0 : Blk}
theorem Wider.trans [Tabs] {h h' h'' : HGet} {S S' S'' : Blk} {w w' w'' : World} {m m' m'' : OMap} (x : Wider h h' S S' w w' m m') (y : Wider h' h'' S' S'' w' w'' m' m'') : Wider h h'' S S'' w w'' m m'' := by
  have hn : ∀ id, h id ≠ none → h' id ≠ none := fun id hid => by
    cases e : h id with
    | none => exact absurd e hid
    | some o => exact heap_ne (x.hk id o e)
  refine ⟨fun id o e => y.hk id o (x.hk id o e), fun id e => (y.map id (hn id e)).trans (x.map id e), fun q hq => y.sub q (x.sub q hq), Nat.le_trans x.size y.size,
    fun q hq => (y.stay q (x.sub q hq)).trans (x.stay q hq), fun id c e hc q hq => ?_⟩
  exact (y.own id c (hn id e) ((x.map id e).trans hc) q hq).trans (x.own id c e hc q hq)
theorem Wider.ext {h h' : HGet} {S S' : Blk} {w w' : World} {m m' : OMap} (x : Wider h h' S S' w w' m m') (hn : ∀ q, S' q → S q ∨ B ≤ q ∨ M0 q) : Ext B M0 S S' w w' := ⟨x.sub, x.size, x.stay, hn⟩
theorem QPost.fresh_blocks {h : HGet} {S' : Blk} {w' : World} {m' : OMap} {d : Nat} {v : AVal} {os : AHeap} {v' : Value} (hB : B ≤ w.heap.size) (q : QPost h S w m B M0 d v os v' w' S' m') : ∀ b, S' b → S b ∨ B ≤ b ∨ M0 b := fun b hb => (q.news b hb).imp (fun h => h) fun h => .inl (Nat.le_trans hB h.1)
theorem Wider.more {h : HGet} {S S' : Blk} (hs : ∀ q, S q → S' q) (w : World) (m : OMap) : Wider h h S S' w w m m := ⟨fun _ _ e => e, fun _ _ => rfl, hs, Nat.le_refl _, fun _ _ => rfl, fun _ _ _ _ _ _ => rfl⟩
theorem Rel.ev [Tabs] {s : AS} {a : Act} (R : Rel w0 B M0 S m s a w) (x : Operand) : VRel s.h.get S w m (s.ev x) (a.eval x) := by
  cases x with
  | tmp t => exact R.tmps t
  | func f => exact ⟨#[], rfl, rfl⟩
  | «global» g => exact trivial
  | const v =>
    simp only [AS.ev, Act.eval]
    split
    · exact pv_bool _
    · rename_i k n
      cases hb : (decide (k.min ≤ n) && decide (n ≤ k.max)) with
      | false => exact trivial
      | true =>
        simp only [Bool.and_eq_true, decide_eq_true_eq] at hb
        exact pv_int ((wfI_iff k n).2 hb)
    · rename_i b
      cases hb : Nat.ble b.data.toList.length 140737488355328 with
      | false => exact trivial
      | true =>
        have e : b = ⟨⟨b.data.toList⟩⟩ := by obtain ⟨d⟩ := b; rfl
        have := pv_str (h := s.h.get) (S := S) (w := w) (m := m) (x := b.data.toList) (by have := Nat.le_of_ble_eq_true hb; unfold maxLen; omega)
        rw [← e] at this
        exact this
    · exact ⟨_, rfl⟩
    · exact trivial
structure Moved [Tabs] (w0 : World) (B : Nat) (M0 S : Blk) (m : OMap) (s : AS) (a : Act) (w : World) (v : AVal) (s' : AS) (v' : Value) (w' : World) (S' : Blk) (m' : OMap) : Prop where
  val : VRel s'.h.get S' w' m' v v'
  rel : Rel w0 B M0 S' m' s' a w'
  ext : Ext B M0 S S' w w'
  t : s.t ≤ s'.t
  wide : s'.t = s.t → Wider s.h.get s'.h.get S S' w w' m m'
theorem kills_t : ∀ (l : List (Nat × AObj)) (s : AS), s.t ≤ (l.foldl (fun s p => s.kill p.1) s).t ∧ ((l.foldl (fun s p => s.kill p.1) s).t = s.t → l = [])
  | [], s => ⟨Nat.le_refl _, fun _ => rfl⟩
  | p :: l, s => by
    have ih := kills_t l (s.kill p.1)
    have : (s.kill p.1).t = s.t + 1 := rfl
    simp only [List.foldl_cons]
    exact ⟨by omega, fun e => by omega⟩
theorem fresh_t [Tabs] (s : AS) (d : Nat) : s.t ≤ (s.fresh d).t ∧ ((s.fresh d).t = s.t → s.fresh d = s) := by
  have := kills_t (s.h.filter fun p => Nat.ble (d * 16) p.1 && Nat.ble p.1 (d * 16 + 15)) s
  refine ⟨this.1, fun e => ?_⟩
  have h := this.2 e
  unfold AS.fresh
  rw [h]; rfl
theorem frz_t (s : AS) (id : Nat) : s.t ≤ (s.frz id).t ∧ ((s.frz id).t = s.t → s.frz id = s) := by
  unfold AS.frz
  split
  · exact ⟨Nat.le_succ _, fun e => by simp at e⟩
  · exact ⟨Nat.le_refl _, fun _ => rfl⟩
theorem frzAll_t [Tabs] : ∀ (l : List Nat) (s : AS), s.t ≤ (s.frzAll l).t ∧ ((s.frzAll l).t = s.t → s.frzAll l = s)
  | [], s => ⟨Nat.le_refl _, fun _ => rfl⟩
  | id :: l, s => by
    have h1 := frz_t s id
    have h2 := frzAll_t l (s.frz id)
    simp only [AS.frzAll]
    refine ⟨by omega, fun e => ?_⟩
    have e1 : s.frz id = s := h1.2 (by omega)
    rw [e1] at h2 ⊢
    exact h2.2 (by rw [e1] at e; exact e)
theorem get_plus [Tabs] (os h : AHeap) : AHeap.get (os ++ h) = hplus os (AHeap.get h) := funext fun i => get_append os h i
theorem QPost.moved [Tabs] {s : AS} {a : Act} (R : Rel w0 B M0 S m s a w) (hB : B ≤ w.heap.size) {d : Nat} {v : AVal} {os : AHeap} {v' : Value} {w' : World} {S' : Blk} {m' : OMap} (q : QPost s.h.get S w m B M0 d v os v' w' S' m') (t : Nat) :
    VRel (AHeap.get (os ++ s.h)) S' w' m' v v' ∧ Rel w0 B M0 S' m' { ρ := s.ρ, h := os ++ s.h, t } a w' ∧ Wider s.h.get (AHeap.get (os ++ s.h)) S S' w w' m m' := by
  rw [get_plus]
  refine ⟨q.val, ⟨?_, R.frm.grow hB q.grow, fun i => ?_, R.size, R.defers⟩, q.wide⟩
  · simp only [get_plus]; exact q.mem
  · simp only [get_plus]; exact (R.tmps i).wider q.wide R.mem
theorem wp_value {o : Oper} {a : Act} {next : Act → World → Prop} {Q : Exit → Act → World → Prop} {v' : Value} {w' : World} (e : (execOp a.eval o).run P w = .ok (.value v') w') (h : next (a.put o.dst v') w') : o.wp P a w next Q := by
  unfold Oper.wp
  rw [e]
  exact h
theorem aQuiet_sound [Tabs] (hT : ∀ p ∈ E.T, tyOk P p.1 p.2 = true) (hq : ∀ p ∈ E.eqs, eqOk P p.1 p.2 = true) (hB0 : B ≤ w0.heap.size) {s : AS} {a : Act} (R : Rel w0 B M0 S m s a w) {o : Oper} {R' : Type} {k : AVal → AS → Option R'} {r : R'} (e : aQuiet E s (o.dst.getD 0) o.op k = some r)
    {next : Act → World → Prop} {Q : Exit → Act → World → Prop} (K : ∀ v s' v' w' S' m', k v s' = some r → Moved w0 B M0 S m s a w v s' v' w' S' m' → next (a.put o.dst v') w') : o.wp P a w next Q := by
  unfold aQuiet at e
  generalize hd : o.dst.getD 0 = d at e
  have f1 := R.fresh d
  have t1 := fresh_t s d
  generalize s.fresh d = s1 at *
  obtain ⟨S2, hS2, nS2, R2⟩ := Rel.frzAll (gives E s1 d o.op) f1.1
  have t2 := frzAll_t (gives E s1 d o.op) s1
  have hn := frzAll_none (gives E s1 d o.op) s1
  simp only at e
  generalize s1.frzAll (gives E s1 d o.op) = s2 at *
  obtain ⟨v, os, g, hk⟩ := QRes.gives_of_run e
  have hB : B ≤ w.heap.size := Nat.le_trans hB0 R.frm.size
  obtain ⟨v', w', S', m', hx, q⟩ := aQ_sound hT hq R2.mem hB (fun id x h1 _ => h1) (fun id h1 h2 => hn id (f1.2 id h1 h2)) (fun x _ => R2.ev x) g
  have M := q.moved R2 hB s2.t
  refine wp_value hx (K v _ v' w' S' m' hk ⟨M.1, M.2.1, ((Wider.more hS2 w m (h := s2.h.get)).ext nS2).trans (M.2.2.ext (q.fresh_blocks hB)), Nat.le_trans t1.1 t2.1, fun et => ?_⟩)
  simp only at et
  have e2 : s2 = s1 := t2.2 (by omega)
  have e1 : s1 = s := t1.2 (by omega)
  subst e2; subst e1
  exact (Wider.more hS2 w m).trans M.2.2
theorem run_call_fn {c : Call} {f : Operand} {g : FuncId} {ρ : Operand → Value} {ty : TypeId} (hf : FnOk P g) (hc : c.callee = .value f) {cs : Array Value} (hv : ρ f = .func (.func g) #[] cs) (w : World) :
    (do let d ← resolve ρ c ty; invoke d.target d.args).run P w = .ok (.enter g (c.args.map ρ ++ cs)) w := by
  obtain ⟨fn, h1, h2, h3⟩ := hf
  have h2' : fn.name ≠ "runtime.NumGoroutine" := fun e => by rw [e] at h2; cases h2
  have h3' : fn.body ≠ none := fun e => by rw [e] at h3; cases h3
  simp [resolve, hc, hv, Deferred.ofValue, invoke, callFunc, h1, h2', h3']
theorem callVals_len {caps : List Cap} {xs : List Operand} {ev : Operand → AVal} {ρ : Operand → Value} : ∀ {vs : List Value}, CapsRel S w caps vs → (callVals ev xs caps).length = (xs.map ρ ++ vs).length := fun {vs} r => by
  have : ∀ (caps : List Cap) (vs : List Value), CapsRel S w caps vs → caps.length = vs.length := by
    intro caps
    induction caps with
    | nil => intro vs r; cases r; rfl
    | cons c caps ih =>
      intro vs r
      cases c
      obtain ⟨v, q, rfl, _, h⟩ := r
      simp [ih q h]
  simp [callVals, this caps vs r]
theorem callVals_rel {h : HGet} {caps : List Cap} {xs : List Operand} {ev : Operand → AVal} {ρ : Operand → Value} {vs : List Value} (hx : ∀ q ∈ xs, VRel h S w m (ev q) (ρ q)) (r : CapsRel S w caps vs) :
    ∀ (i : Nat) (p : AVal) (u : Value), (callVals ev xs caps)[i]? = some p → (xs.map ρ ++ vs)[i]? = some u → VRel h S w m p u := fun i p u h1 h2 => by
  unfold callVals at h1
  by_cases hi : i < xs.length
  · rw [List.getElem?_append_left (by simpa using hi), List.getElem?_map] at h1 h2
    have hq : xs[i]? = some xs[i] := by simp [hi]
    rw [hq] at h1 h2
    simp only [Option.map_some, Option.some.injEq] at h1 h2
    subst h1; subst h2
    exact hx _ (List.getElem_mem hi)
  · rw [List.getElem?_append_right (by simpa using hi)] at h1 h2
    simp only [List.length_map] at h1 h2
    generalize i - xs.length = j at h1 h2
    induction caps generalizing vs j with
    | nil => simp at h1
    | cons c caps ih =>
      cases c
      obtain ⟨v, q, rfl, k, k2⟩ := r
      cases j with
      | zero => simp at h1 h2; subst h1; subst h2; exact k
      | succ j => exact ih k2 j (by simpa using h1) (by simpa using h2)
theorem aCall_sound [Tabs] (hG : ∀ p ∈ E.G, Sound P p.1 p.2 ∧ FnOk P p.1) (hB0 : B ≤ w0.heap.size) {s0 : AS} {a : Act} (R0 : Rel w0 B M0 S m s0 a w) {o : Oper} {c : Call} (ho : o.op = .call c) {f : Operand} (hc : c.callee = .value f) {g : FuncId} {C : FnSpec} {caps : List Cap} (hf : s0.ev f = .one (.cl g caps))
    (hl : (g, C) ∈ E.G) (hv : allVal C.ps = true) {R' : Type} {k : AVal → AS → Option R'} {r : R'} (e : aCall s0 (o.dst.getD 0) C c.args.toList caps k = some r)
    {next : Act → World → Prop} {Q : Exit → Act → World → Prop} (K : ∀ v s' v' w' S' m', k v s' = some r → Moved w0 B M0 S m s0 a w v s' v' w' S' m' → next (a.put o.dst v') w') : o.wp P a w next Q := by
  obtain ⟨hS, hfn⟩ := hG _ hl
  unfold aCall at e
  rw [hv] at e
  simp only [Bool.true_or, Bool.not_true, cond_false, Bool.or_false] at e
  generalize hd : o.dst.getD 0 = d at e
  have hB : B ≤ w.heap.size := Nat.le_trans hB0 R0.frm.size
  obtain ⟨S1, s, hS1, nS1, hs, R, ts⟩ : ∃ S1 s, (∀ q, S q → S1 q) ∧ (∀ q, S1 q → S q ∨ B ≤ q ∨ M0 q) ∧ (bif RK.leads C.rs then s0.frzAll (argOs C.ps (callVals s0.ev c.args.toList caps)) else s0) = s ∧ Rel w0 B M0 S1 m s a w ∧ s0.t ≤ s.t ∧ (s.t = s0.t → s = s0) := by
    cases RK.leads C.rs with
    | false => exact ⟨S, s0, fun _ h => h, fun _ h => .inl h, rfl, R0, Nat.le_refl _, fun _ => rfl⟩
    | true =>
      obtain ⟨S1, h1, n1, h2⟩ := Rel.frzAll (argOs C.ps (callVals s0.ev c.args.toList caps)) R0
      exact ⟨S1, _, h1, n1, rfl, h2, frzAll_t _ s0⟩
  simp only [hs] at e
  cases hle : (RK.leads C.rs && !(argIds C.ps (callVals s.ev c.args.toList caps)).isEmpty) with
  | true => rw [hle] at e; cases e
  | false =>
  rw [hle] at e
  simp only [cond_false] at e
  cases hx : takeArgs s.h C.ps (callVals s.ev c.args.toList caps) with
  | none => rw [hx] at e; cases e
  | some x =>
  rw [hx] at e
  simp only [Option.bind_eq_some_iff] at e
  obtain ⟨y, hy, e⟩ := e
  obtain ⟨z, hz, e⟩ := put_val hv e
  have f1 := R.fresh d
  have t1 := fresh_t s d
  cases hn : Nat.ble (putRes (d * 16) C.rs z).2.2 (d * 16 + 16) with
  | false => simp only [hn, cond_false] at e; cases e
  | true =>
  simp only [hn, cond_true, hv] at e
  have hargs : VRel s0.h.get S w m (s0.ev f) (a.eval f) := R0.ev f
  rw [hf] at hargs
  obtain ⟨ccs, hval, hcaps⟩ := hargs
  have rel : ∀ (i : Nat) (p : AVal) (u : Value), (callVals s.ev c.args.toList caps)[i]? = some p → (c.args.toList.map a.eval ++ ccs.toList)[i]? = some u → VRel s.h.get S1 w m p u := callVals_rel (fun q _ => R.ev q) (hcaps.mono hS1 (fun _ _ => rfl) (Nat.le_refl _))
  have hle' : RK.leads C.rs = true → argIds C.ps (callVals s.ev c.args.toList caps) = [] := fun hr => by
    rw [hr] at hle
    simpa using hle
  have hcall := call_quiet hS (R.frm.tabs hB fun _ h => h.elim) R.mem f1.1.mem hB f1.2 hv (fun id x h1 _ => h1) (us := c.args.toList.map a.eval ++ ccs.toList) (callVals_len hcaps) rel hle' hx hy hz (Nat.le_of_ble_eq_true hn)
  have hrun := run_call_fn (ty := o.type) (ρ := a.eval) hfn hc hval w
  unfold Oper.wp
  have hex : (execOp a.eval o).run P w = .ok (.enter g (c.args.map a.eval ++ ccs)) w := by
    rw [← hrun]
    obtain ⟨odst, op, oty, opos, oafter, oguard⟩ := o
    simp only at ho
    subst ho
    rfl
  rw [hex, Oper.upon_enter]
  have hm : (c.args.toList.map a.eval ++ ccs.toList).toArray = c.args.map a.eval ++ ccs := by
    rw [← Array.toList_map, ← Array.toList_append, Array.toArray_toList]
  rw [hm] at hcall
  refine Calls.mono hcall fun ending w' hk => ?_
  obtain ⟨v', S', m', rfl, q⟩ := hk
  have M := q.moved f1.1 hB (s.fresh d).t
  refine K _ _ v' w' S' m' e ⟨M.1, M.2.1, ((Wider.more hS1 w m (h := s.h.get)).ext nS1).trans (M.2.2.ext (q.fresh_blocks hB)), Nat.le_trans ts.1 t1.1, fun et => ?_⟩
  simp only at et
  have e2 : s.fresh d = s := t1.2 (by omega)
  have e1 : s = s0 := ts.2 (by omega)
  have W := M.2.2
  rw [e2] at W ⊢
  rw [e1] at W ⊢
  exact (Wider.more hS1 w m).trans W
theorem wp_skip_op {o : Oper} {a : Act} {next : Act → World → Prop} {Q : Exit → Act → World → Prop} {w' : World} (e : (execOp a.eval o).run P w = .ok .skip w') (h : next (a.put o.dst undef) w') : o.wp P a w next Q := by
  unfold Oper.wp
  rw [e]
  exact h
theorem killSb_twice (id : Nat) (c : ACell) : (c.killSb id).killSb id = c.killSb id := by
  cases c with
  | sb j i o e y =>
    simp only [ACell.killSb]
    cases hb : Nat.beq j id with
    | true => rfl
    | false => simp [hb]
  | vw j k =>
    simp only [ACell.killSb]
    cases hb : Nat.beq j id with
    | true => rfl
    | false => simp [hb]
  | _ => rfl
theorem updA_twice [Tabs] (s : AS) (id : Nat) (o1 o2 : AObj) : (s.updA id o1).updA id o2 = { s.updA id o2 with t := s.t + 2 } := by
  unfold AS.updA
  simp only [List.map_map, AS.mk.injEq, and_true]
  refine ⟨List.map_congr_left fun v _ => ?_, List.map_congr_left fun p _ => ?_⟩
  · cases v with
    | one c => simp [AVal.killSb, killSb_twice]
    | ag cs => simp [AVal.killSb, killSb_twice]
    | tu vs => simp [AVal.killSb, killSb_twice]
  · cases hb : Nat.beq p.1 id with
    | true => simp [hb]
    | false =>
      simp only [Function.comp_apply, hb, cond_false]
      cases p.2 with
      | box cs => simp [AObj.killSb, killSb_twice]
      | arr _ _ _ => rfl
      | src _ _ _ => rfl
theorem Rel.retime [Tabs] {s : AS} {a : Act} {t : Nat} (R : Rel w0 B M0 S m { s with t := t } a w) : Rel w0 B M0 S m s a w := ⟨R.mem, R.frm, R.tmps, R.size, R.defers⟩
theorem aStore_sound [Tabs] {mv : Bool} (hT : ∀ p ∈ E.T, tyOk P p.1 p.2 = true) (hB0 : B ≤ w0.heap.size) {s : AS} {a : Act} (R : Rel w0 B M0 S m s a w) {o : Oper} {t : TypeId} {x y : Operand} (ho : o.op = .store t x y) {u : Ty} (hu : look E.T t = some u) {c : ACell} (hc : s.ev x = .one c)
    {R' : Type} {k : AVal → AS → Option R'} {r : R'} (e : (aStore mv s u c (s.ev y) fun s => k (.one .und) s) = some r)
    {next : Act → World → Prop} {Q : Exit → Act → World → Prop} (K : ∀ v s' v' w' S' m', k v s' = some r → Moved w0 B M0 S m s a w v s' v' w' S' m' → next (a.put o.dst v') w') : o.wp P a w next Q := by
  have hB : B ≤ w.heap.size := Nat.le_trans hB0 R.frm.size
  have ty := hT _ (look_mem hu)
  have hx := R.ev x
  rw [hc] at hx
  have hy := R.ev y
  have runs : ∀ (ad : Addr) (w' : World), a.eval x = .pointer (some ad) → (a.eval y).cells.size = u.size → (storeCells ad (a.eval y).cells.toList).run P w = .ok () w' → (execOp a.eval o).run P w = .ok .skip w' := fun ad w' h1 h2 h3 => by
    obtain ⟨odst, op, oty, opos, oafter, oguard⟩ := o
    simp only at ho
    subst ho
    simp [execOp, Instr.storeAt, Instr.sureAddr, h1, storeVar, run_sizeOf_ty ty, h2, h3]
  cases c with
  | op id off =>
    simp only [aStore] at e
    cases ho' : s.h.get id with
    | none => rw [ho'] at e; cases e
    | some ob =>
    rw [ho'] at e
    cases ob with
    | arr d t xs => cases e
    | src t q xs => cases e
    | box cs =>
      simp only at e
      cases hb : ((s.ev y).solid && Nat.beq (s.ev y).cells.length u.size && Nat.ble (off + u.size) cs.length) with
      | false => rw [hb] at e; cases e
      | true =>
        rw [hb] at e
        simp only [Bool.and_eq_true] at hb
        obtain ⟨⟨b1, b2⟩, b3⟩ := hb
        have hcells := hy.cells b1 R.mem
        have hlen := Nat.eq_of_beq_eq_true b2
        obtain ⟨_, c, b, hm, hv, hp⟩ := hx
        have hle : off + (s.ev y).cells.length ≤ cs.length := by have := Nat.le_of_ble_eq_true b3; omega
        have hsz2 : (a.eval y).cells.size = u.size := by
          have h1 : (s.ev y).cells.length = (a.eval y).cells.toList.length := hcells.1
          rw [Array.length_toList] at h1
          exact h1.symm.trans hlen
        obtain ⟨w', hst, R', hsz, hstay⟩ := R.storeBox (P := P) hB ho' hcells hle hm hv
        refine wp_skip_op (runs _ w' hp hsz2 hst) (K _ _ undef w' S m e ⟨trivial, R', ⟨fun _ h => h, hsz, hstay, fun _ h => .inl h⟩, Nat.le_succ _, fun et => ?_⟩)
        simp [AS.upd] at et
  | oe id i off =>
    simp only [aStore] at e
    cases ho' : s.h.get id with
    | none => rw [ho'] at e; cases e
    | some ob =>
    rw [ho'] at e
    cases ob with
    | box cs => cases e
    | src t q xs => cases e
    | arr d el xs =>
      simp only at e
      cases hmv : (mv && (d && !plainIn (s.ev y).cells && deepIn s.h (s.ev y).cells)) with
      | true =>
        rw [hmv] at e
        simp only [cond_true] at e
        cases hb : ((s.ev y).solid && Nat.beq (s.ev y).cells.length u.size && Nat.ble (off + u.size) el.size && !(osIn (s.ev y).cells).any (Nat.beq id)) with
        | false => rw [hb] at e; cases e
        | true =>
          rw [hb] at e
          simp only [cond_true] at e
          simp only [Bool.and_eq_true, Bool.not_eq_true', List.any_eq_false] at hb hmv
          obtain ⟨⟨⟨b1, b2⟩, b3⟩, b5⟩ := hb
          obtain ⟨_, ⟨hd0, _⟩, hdeep⟩ := hmv
          subst hd0
          obtain ⟨d1, d2, d3⟩ := deepIn_spec hdeep
          have hcells := hy.cells b1 R.mem
          have hlen : (s.ev y).cells.length = u.size := Nat.eq_of_beq_eq_true b2
          have hle : off + u.size ≤ el.size := Nat.le_of_ble_eq_true b3
          obtain ⟨⟨_, t1, xs1, h1, hi⟩, c, g, n, cap, hm, hv, hp⟩ := hx
          rw [ho'] at h1
          cases h1
          obtain ⟨c', hm', he, hrel⟩ := R.mem.obj id _ ho'
          obtain rfl : c' = c := Option.some.inj (hm'.symm.trans hm)
          rw [he] at hp
          have hni : id ∉ osIn (s.ev y).cells := fun hmem => by have := b5 id hmem; simp at this
          have hsz2 : (a.eval y).cells.size = u.size := by
            have h1 : (s.ev y).cells.length = (a.eval y).cells.toList.length := hcells.1
            rw [Array.length_toList] at h1
            exact h1.symm.trans hlen
          have hus : ((a.eval y).cells.toList).length = u.size := by rw [Array.length_toList]; exact hsz2
          have R1 := R.killL (osIn (s.ev y).cells)
          have ho1 := killL_arr _ s id hni ho'
          have orph := Orphan.moved R.mem (cs := (s.ev y).cells) fun j hj => by obtain ⟨_, _, h⟩ := d2 j hj; exact heap_ne h
          have tle := killL_t (osIn (s.ev y).cells) s
          generalize hcs : (s.ev y).cells = cells at *
          have core : ∀ y' : el.den, (∀ ds x G, xs[i]? = some x → Own w el ds x G → (∀ q, G q → ¬ OsBlk m cells q) → ∃ G', (∀ q, G' q → G q ∨ OsBlk m cells q) ∧ Own w el (ds.take off ++ (a.eval y).cells.toList ++ ds.drop (off + (a.eval y).cells.toList.length)) y' G') →
              k (.one .und) ((s.killL (osIn cells)).updA id (.arr true el (xs.set i y'))) = some r → o.wp P a w next Q := fun y' hown ek => by
            obtain ⟨w', hst, hsz, hstay, m3, R3⟩ := R1.storeArrX (P := P) (y := y') (us := (a.eval y).cells.toList) hB ho1 hi hcells.2.1 (by rw [hus]; exact hle) hm hv orph (fun ds x G hx hEl hG _ => hown ds x G hx hEl fun q hq ⟨j, hj, cj, hcj, hF⟩ => by
              obtain ⟨_, _, h⟩ := d2 j hj
              exact R.mem.dis j id cj c' (fun e => hni (e ▸ hj)) (heap_ne h) (heap_ne ho') hcj hm q hF (hG q hq))
            refine wp_skip_op (runs _ w' hp hsz2 hst) (K _ _ undef w' S m3 ek ⟨trivial, R3, ⟨fun _ h => h, hsz, hstay, fun _ h => .inl h⟩, Nat.le_trans tle (Nat.le_succ _), fun et => ?_⟩)
            simp only [AS.updA] at et
            omega
          have hg0 : ∀ id o, s.h.get id = some o → s.h.get id = some o := fun _ _ h => h
          cases hbe : Nat.beq u.size el.size with
          | true =>
            rw [hbe] at e
            simp only [cond_true] at e
            have hue := Nat.eq_of_beq_eq_true hbe
            have hoff : off = 0 := by omega
            split at e
            · rename_i y' hgat
              refine core y' (fun ds x G _ hx _ => ⟨OsBlk m cells, fun _ h => .inr h, ?_⟩) e
              have hl := hx.len
              rw [hoff, List.take_zero, List.nil_append, List.drop_eq_nil_of_le (by omega), List.append_nil]
              exact deep_own R.mem hg0 d1 d2 d3 hgat hcells (by omega)
            · cases e
          | false =>
            rw [hbe] at e
            simp only [cond_false, Option.bind_eq_some_iff] at e
            obtain ⟨x0, hx0, e⟩ := e
            split at e
            · rename_i y' hgat
              refine core y' (fun ds x G hx ho hfar => ?_) e
              obtain rfl : x0 = x := Option.some.inj (hx0.symm.trans hx)
              exact splice_deep R.mem hg0 ho hcells d1 d2 d3 hfar (by omega) hgat
            · cases e
      | false =>
      rw [hmv] at e
      simp only [cond_false] at e
      cases hb : ((s.ev y).solid && Nat.beq (s.ev y).cells.length u.size && Nat.ble (off + u.size) el.size && (noSb (s.ev y).cells && !(osIn (s.ev y).cells).any (Nat.beq id))) with
      | false => rw [hb] at e; cases e
      | true =>
        rw [hb] at e
        simp only [Bool.and_eq_true, Bool.not_eq_true', List.any_eq_false] at hb
        obtain ⟨⟨⟨b1, b2⟩, b3⟩, b4, b5⟩ := hb
        have hcells := hy.cells b1 R.mem
        have hlen : (s.ev y).cells.length = u.size := Nat.eq_of_beq_eq_true b2
        have hle : off + u.size ≤ el.size := Nat.le_of_ble_eq_true b3
        obtain ⟨⟨d1, t1, xs1, h1, hi⟩, c, g, n, cap, hm, hv, hp⟩ := hx
        rw [ho'] at h1
        cases h1
        obtain ⟨c', hm', he, hrel⟩ := R.mem.obj id _ ho'
        obtain rfl : c' = c := Option.some.inj (hm'.symm.trans hm)
        rw [he] at hp
        have hni : id ∉ osIn (s.ev y).cells := fun hmem => by have := b5 id hmem; simp at this
        have hsz2 : (a.eval y).cells.size = u.size := by
          have h1 : (s.ev y).cells.length = (a.eval y).cells.toList.length := hcells.1
          rw [Array.length_toList] at h1
          exact h1.symm.trans hlen
        obtain ⟨S1, s1, n1, R1, i1, k1⟩ := R.frzAll_in (osIn (s.ev y).cells)
        have ho1 := k1 id d el xs hni ho'
        have tle := (frzAll_t (osIn (s.ev y).cells) s).1
        have hus : ((a.eval y).cells.toList).length = u.size := by rw [Array.length_toList]; exact hsz2
        simp only [cond_true] at e
        generalize hcs : (s.ev y).cells = cells at *
        have core : ∀ y' : el.den, (∀ (T : Blk) ds x, (∀ q, S1 q → T q) → xs[i]? = some x → Rep T w el ds x → Rep T w el (ds.take off ++ (a.eval y).cells.toList ++ ds.drop (off + (a.eval y).cells.toList.length)) y') →
            (plainIn cells = true → ∀ ds x G, xs[i]? = some x → Own w el ds x G → ∃ G', (∀ q, G' q → G q) ∧ Own w el (ds.take off ++ (a.eval y).cells.toList ++ ds.drop (off + (a.eval y).cells.toList.length)) y' G') →
            k (.one .und) ((s.frzAll (osIn cells)).updA id (.arr (d && plainIn cells) el (xs.set i y'))) = some r → o.wp P a w next Q := fun y' hrep hown ek => by
          have fin : ∀ {w' : World} {S' : Blk} {m' : OMap}, (storeCells ⟨g, i * el.size + off, none⟩ (a.eval y).cells.toList).run P w = .ok () w' → w.heap.size ≤ w'.heap.size → (∀ q, S q → w'.heap[q]? = w.heap[q]?) → (∀ q, S q → S' q) → (∀ q, S' q → S q ∨ B ≤ q ∨ M0 q) →
              Rel w0 B M0 S' m' ((s.frzAll (osIn cells)).updA id (.arr (d && plainIn cells) el (xs.set i y'))) a w' → o.wp P a w next Q := fun {w' S' m'} hst hsz hstay hS hN R' => by
            refine wp_skip_op (runs _ w' hp hsz2 hst) (K _ _ undef w' S' m' ek ⟨trivial, R', ⟨hS, hsz, hstay, hN⟩, Nat.le_trans tle (Nat.le_succ _), fun et => ?_⟩)
            simp only [AS.updA] at et
            omega
          cases hpl : plainIn cells with
          | false =>
            obtain ⟨S2, m2, c2, t1, t2, R2, t3, _⟩ := R1.shallowArr ho1
            obtain ⟨q1, q2, _⟩ := t3 c' hm
            have ho2 : ((s.frzAll (osIn cells)).updA id (.arr false el xs)).h.get id = some (.arr false el xs) := by
              show AHeap.get _ id = _
              rw [AS.updA, get_updA, if_pos rfl, ho1]; rfl
            obtain ⟨w', hst, hsz, hstay, m3, R3⟩ := R2.storeArr (P := P) (y := y') (us := (a.eval y).cells.toList) hB ho2 hi hcells.2.1 (by rw [hus]; exact hle) q1 (by rw [q2]; exact hv) (fun ds x G hx hEl => ⟨G, fun _ h => h, hrep S2 ds x t1 hx hEl.1, hEl.2⟩)
            rw [updA_twice] at R3
            refine fin hst hsz (fun q hq => hstay q (t1 q (s1 q hq))) (fun q hq => t1 q (s1 q hq)) (fun q hq => (t2 q hq).elim (fun h => n1 q h) .inr) (m' := m3) ?_
            rw [hpl, Bool.and_false]
            exact R3.retime
          | true =>
            obtain ⟨w', hst, hsz, hstay, m3, R3⟩ := R1.storeArr (P := P) (y := y') (us := (a.eval y).cells.toList) hB ho1 hi hcells.2.1 (by rw [hus]; exact hle) hm hv (fun ds x G hx hEl => by
              cases d with
              | true => exact hown hpl ds x G hx hEl
              | false => exact ⟨G, fun _ h => h, hrep S1 ds x (fun _ h => h) hx hEl.1, hEl.2⟩)
            refine fin hst hsz (fun q hq => hstay q (s1 q hq)) s1 n1 (m' := m3) ?_
            rw [hpl, Bool.and_true]
            exact R3
        have plus : (∀ id ∈ osIn cells, ∃ d t xs, s.h.get id = some (.arr d t xs)) → ∀ q, Plus m s.h.get S (osIn cells) q → S1 q := fun hall q hq => by
          rcases hq with hq | ⟨j, hj, _, oc, hoc, hF⟩
          · exact s1 q hq
          · obtain ⟨d2, t2, xs2, h2⟩ := hall j hj
            exact i1 j hj d2 t2 xs2 oc h2 hoc q hF
        have hg0 : ∀ id o, s.h.get id = some o → s.h.get id ≠ none → s.h.get id = some o := fun _ _ h _ => h
        cases hbe : Nat.beq u.size el.size with
        | true =>
          rw [hbe] at e
          simp only [cond_true] at e
          have hue := Nat.eq_of_beq_eq_true hbe
          have hoff : off = 0 := by omega
          split at e
          · rename_i y' hgat
            have hfull : ∀ (ds : List Value), ds.length = el.size → ds.take off ++ (a.eval y).cells.toList ++ ds.drop (off + (a.eval y).cells.toList.length) = (a.eval y).cells.toList := fun ds hl => by
              rw [hoff, List.take_zero, List.nil_append, List.drop_eq_nil_of_le (by omega), List.append_nil]
            have hrep := gather_rep R.mem hg0 hgat hcells (by omega)
            rw [noSb_ids b4] at hrep
            refine core y' (fun T ds x hT _ hx => ?_) (fun hpl ds x G _ hx => ?_) e
            · rw [hfull ds hx.len]
              exact hrep.mono (fun q hq => hT q (plus (gather_in hgat (by omega)) q hq)) (fun _ _ => rfl) (Nat.le_refl _)
            · rw [hfull ds hx.len]
              exact ⟨_, fun _ h => h.elim, gather_own hpl hgat hcells (by omega)⟩
          · cases e
        | false =>
          rw [hbe] at e
          simp only [cond_false, Option.bind_eq_some_iff] at e
          obtain ⟨x0, hx0, e⟩ := e
          split at e
          · rename_i y' hgat
            have hfl := flat_length el x0
            have hin : ∀ id ∈ osIn cells, ∃ d t xs, s.h.get id = some (.arr d t xs) := fun id hid => gather_in hgat (by unfold splice; simp; omega) id (by unfold splice; rw [osIn_append, osIn_append]; simp [hid])
            refine core y' (fun T ds x hT hx hr => ?_) (fun hpl ds x G hx ho => ?_) e
            · obtain rfl : x0 = x := Option.some.inj (hx0.symm.trans hx)
              exact splice_rep R.mem hg0 hr hcells (fun q hq => hT q (plus hin q hq)) b4 (by omega) hgat
            · obtain rfl : x0 = x := Option.some.inj (hx0.symm.trans hx)
              exact splice_own ho hcells hpl (by omega) hgat
          · cases e
  | _ => cases e
theorem kill_updA (s : AS) (id : Nat) (o : AObj) : (s.updA id o).kill id = { s.kill id with t := s.t + 2 } := by
  have hc : ∀ c : ACell, (c.killSb id).kill id = c.kill id := fun c => by
    cases c with
    | sb j i o e y =>
      simp only [ACell.killSb]
      cases hb : Nat.beq j id with
      | true => simp [ACell.kill, hb]
      | false => rfl
    | vw j k =>
      simp only [ACell.killSb]
      cases hb : Nat.beq j id with
      | true => simp [ACell.kill, hb]
      | false => rfl
    | _ => rfl
  unfold AS.updA AS.kill
  simp only [List.map_map, AS.mk.injEq, and_true]
  refine ⟨List.map_congr_left fun v _ => ?_, ?_⟩
  · cases v with
    | one c => simp [AVal.killSb, AVal.kill, hc]
    | ag cs => simp [AVal.killSb, AVal.kill, hc]
    | tu vs => simp [AVal.killSb, AVal.kill, hc]
  · induction s.h with
    | nil => rfl
    | cons p r ih =>
      obtain ⟨j, q⟩ := p
      simp only [List.map_cons]
      cases hb : Nat.beq j id with
      | true => simp only [cond_true, AHeap.del, hb]; exact ih
      | false =>
        simp only [cond_false, AHeap.del, hb, List.map_cons, ih, List.cons.injEq, Prod.mk.injEq, true_and, and_true]
        cases q with
        | box cs => simp [AObj.killSb, AObj.kill, hc]
        | arr _ _ _ => rfl
        | src _ _ _ => rfl
theorem bear_get (s : AS) (id : Nat) (t : Ty) (zs : List t.den) : (s.bear id t zs).h.get id = some (.arr true t zs) := by
  simp [AS.bear, AHeap.get]
theorem aAppendMv_sound [Tabs] (hT : ∀ p ∈ E.T, tyOk P p.1 p.2 = true) (hB0 : B ≤ w0.heap.size) {s : AS} {a : Act} (R : Rel w0 B M0 S m s a w) {o : Oper} {c : Call} (ho : o.op = .call c) (hc : c.callee = .builtin .append) {st : TypeId} {x y : Operand} (ht : c.argTypes.toList = [st, st]) (ha : c.args.toList = [x, y]) {cx cy : ACell}
    (hx : s.ev x = .one cx) (hy : s.ev y = .one cy) {t : Ty} (hlook : look E.T st = some (.slice t)) {R' : Type} {k : AVal → AS → Option R'} {r : R'} (e : aAppendMv s (o.dst.getD 0) t cx cy k = some r)
    {next : Act → World → Prop} {Q : Exit → Act → World → Prop} (K : ∀ v s' v' w' S' m', k v s' = some r → Moved w0 B M0 S m s a w v s' v' w' S' m' → next (a.put o.dst v') w') : o.wp P a w next Q := by
  have hB : B ≤ w.heap.size := Nat.le_trans hB0 R.frm.size
  have tyo := hT _ (look_mem hlook)
  obtain ⟨te, i, z, hu, hi, hsz, hpos, hz, hzz, hby⟩ := slice_ty tyo
  have hzs : z.cells.size = t.size := by
    obtain ⟨p', hp', _, hrep, _⟩ := isZ_spec (S := S) (w := w) (h := s.h.get) (m := m) t _ _ hzz
    rw [List.append_nil] at hp'
    rw [← hp'] at hrep
    simpa using hrep.len
  have sem : ∀ {w' : World} {v' : Value}, (Builtin.append_ #[st, st] o.type #[a.eval x, a.eval y]).run P w = .ok v' w' → next (a.put o.dst v') w' → o.wp P a w next Q := fun {w' v'} hr hnext => by
    have h1 : c.argTypes = #[st, st] := by rw [← Array.toArray_toList (xs := c.argTypes), ht]
    have h2 : c.args = #[x, y] := by rw [← Array.toArray_toList (xs := c.args), ha]
    unfold Oper.wp execOp
    simp only [ho, resolve, invoke, builtin, Sem.run_bind, Sem.run_pure, Result.andThen_ok, hc, h1, h2, List.map_toArray, List.map_cons, List.map_nil, hr]
    exact hnext
  have hry := R.ev y
  rw [hy] at hry
  have hrx := R.ev x
  rw [hx] at hrx
  unfold aAppendMv at e
  split at e
  rotate_left
  · cases e
  rename_i j
  split at e
  rotate_left
  · cases e
  rename_i el ys0 hoj
  split at e
  rotate_left
  · cases e
  rename_i ys hcast
  obtain ⟨hty, hys⟩ := cast?_some hcast
  have hty' : el = t := by cases hty; rfl
  subst hty'
  cases hys
  obtain ⟨_, oj, hmj, hvj⟩ := hry
  obtain ⟨oj', hmj', _, hrelj⟩ := R.mem.obj j _ hoj
  obtain rfl : oj' = oj := Option.some.inj (hmj'.symm.trans hmj)
  obtain ⟨Gs, hxx, hG1, hG2⟩ : ∃ Gs : Nat → Blk, ((a.eval y = .slice none 0 0 ∧ ys0 = []) ∨ ∃ (ad : Addr) (cap : Nat) (news : List Value), a.eval y = .slice (some ad) ys0.length cap ∧ news.length = ys0.length * el.size ∧ (∀ j u, news[j]? = some u → w.cell? (ad.add j) = some u) ∧ (∀ u ∈ news, u.oneCell' = true) ∧
      ∀ i y, ys0[i]? = some y → El S w true el ((news.drop (i * el.size)).take el.size) y (Gs i)) ∧ (∀ i j q, i < ys0.length → j < ys0.length → Gs i q → Gs j q → i = j) ∧ ∀ i q, i < ys0.length → Gs i q → oj'.F q := by
    rw [hvj]
    rcases hrelj.rowsX hpos with ⟨e1, e2⟩ | ⟨ad, cap, news, Gs, e1, e2, e3, e4, e5, e6, e7⟩
    · exact ⟨fun _ _ => False, .inl ⟨e1, e2⟩, fun _ _ _ _ _ h => h.elim, fun _ _ _ h => h.elim⟩
    · exact ⟨Gs, .inr ⟨ad, cap, news, e1, e2, e3, e4, e5⟩, e6, e7⟩
  have R1 := R.kill j
  have orph : Orphan (s.kill j).h.get S w m B M0 oj'.F := by
    have o1 := Orphan.moved R.mem (cs := [.os j]) (fun id hid => by
      simp only [osIn, List.mem_singleton] at hid
      subst hid
      exact heap_ne hoj)
    exact o1.less (fun q hq => ⟨j, by simp [osIn], oj', hmj, hq⟩) (fun _ h => h)
  have hXl : ∀ q, oj'.F q → q < w.heap.size := fun q hq => (R.mem.apart j oj' (heap_ne hoj) hmj q hq).2.1
  split at e
  · 
    cases hle : decide (ys0.length ≤ lim) with
    | false => rw [hle] at e; cases e
    | true =>
      rw [hle] at e
      simp only [cond_true] at e
      have hle := of_decide_eq_true hle
      obtain ⟨R2, hfr⟩ := R1.fresh (o.dst.getD 0)
      obtain ⟨xo, hxv⟩ : ∃ o : Option Addr, a.eval x = .slice o 0 0 := hrx
      obtain ⟨v', w', F', hrun, g1, g2, g3, g4, g5, g6, g7, g8⟩ := append_arrX (P := P) (ty := o.type) (X := oj'.F) (Gs := Gs) hu hi hsz hz hzs hby (S := S) (D := true) (v := .slice xo 0 0) (x := a.eval y) (xs := []) (F := fun _ => False) (.inl ⟨⟨_, rfl⟩, rfl, fun _ h => h⟩) hxx hG1 hG2
        (fun _ _ h => h) hXl (by simpa using hle) (fun q hq => ⟨R.mem.lt q hq, fun h => h⟩)
      rw [List.nil_append] at g7
      obtain ⟨m', R3, hm3⟩ := R2.bornX hB (hfr (o.dst.getD 0 * 16) (Nat.le_refl _) (by omega)) ⟨g3, g4, g5, g1, fun q hq => g2 q hq fun h => h, fun a _ => g6 a⟩ g7 (orph.less (fun _ h => h) (fun j h => fresh_ne _ _ j h)) (fun q hq => (g8 q hq).resolve_left fun h => h)
      have tt := (fresh_t (s.kill j) (o.dst.getD 0)).1
      have tk : (s.kill j).t = s.t + 1 := rfl
      rw [← hxv] at hrun
      refine sem hrun (K _ _ v' w' S m' e ⟨⟨⟨true, el, ys0, bear_get _ _ _ _⟩, _, hm3, rfl⟩, R3, ⟨fun _ h => h, g1, fun q hq => g2 q (R.mem.lt q hq) fun h => h, fun _ h => .inl h⟩, by show s.t ≤ ((s.kill j).fresh _).t + 1; omega, fun et => ?_⟩)
      have : ((s.kill j).fresh (o.dst.getD 0)).t + 1 = s.t := et
      omega
  · 
    rename_i id
    split at e
    rotate_left
    · cases e
    rename_i e' zs ho1
    cases hrg : (Nat.beq id j || (Nat.ble 100000 id && Nat.ble id 199999)) with
    | true => rw [hrg] at e; cases e
    | false =>
    rw [hrg] at e
    simp only [cond_false] at e
    simp only [Bool.or_eq_false_iff] at hrg
    have hij : id ≠ j := fun h => by subst h; simp at hrg
    split at e
    rotate_left
    · cases e
    rename_i xs hcast2
    obtain ⟨hty, hxs⟩ := cast?_some hcast2
    have hty' : e' = el := by cases hty; rfl
    subst hty'
    cases hxs
    cases hle : decide (zs.length + ys0.length ≤ lim) with
    | false => rw [hle] at e; cases e
    | true =>
    rw [hle] at e
    simp only [cond_true] at e
    have hle := of_decide_eq_true hle
    obtain ⟨_, oc, hm, hv⟩ := hrx
    have ho2 : (s.kill j).h.get id = some (.arr true e' zs) := killL_arr [j] s id (by simpa using hij) ho1
    obtain ⟨c2, hm2, _, hrel⟩ := R1.mem.obj id _ ho2
    obtain rfl : c2 = oc := Option.some.inj (hm2.symm.trans hm)
    obtain ⟨v', w', F', hrun, g1, g2, g3, g4, g5, g6, g7, g8⟩ := append_arrX (P := P) (ty := o.type) (X := oj'.F) (Gs := Gs) hu hi hsz hz hzs hby (S := S) (D := true) (v := c2.v) (x := a.eval y) hrel hxx hG1 hG2
      (fun q hq hF => orph.dis id c2 (heap_ne ho2) hm q hq hF) hXl hle (fun q hq => ⟨R.mem.lt q hq, fun hF => (R1.mem.apart id c2 (heap_ne ho2) hm2 q hF).1 hq⟩)
    obtain ⟨m', R3, hst, hm4⟩ := R1.rebornX hB ho2 hm2 g1 g2 g3 g4 g5 (fun a _ => g6 a) g7 orph g8
    rw [← hv] at hrun
    refine sem hrun (K _ _ v' w' S m' e ⟨⟨⟨true, e', zs ++ ys0, by simp [AHeap.get]⟩, _, hm4, rfl⟩, R3, ⟨fun _ h => h, g1, hst, fun _ h => .inl h⟩, by show s.t ≤ s.t + 1 + 1; omega, fun et => ?_⟩)
    have : s.t + 1 + 1 = s.t := et
    omega
  · cases e
theorem aBuildMv_sound [Tabs] (hT : ∀ p ∈ E.T, tyOk P p.1 p.2 = true) (hB0 : B ≤ w0.heap.size) {s : AS} {a : Act} (R : Rel w0 B M0 S m s a w) {o : Oper} {t n : Nat} {ps : Array (Nat × Operand)} (ho : o.op = .buildSlice t n ps)
    {R' : Type} {k : AVal → AS → Option R'} {r : R'} (e : aBuildMv E s (o.dst.getD 0) t n ps.toList k = some r)
    {next : Act → World → Prop} {Q : Exit → Act → World → Prop} (K : ∀ v s' v' w' S' m', k v s' = some r → Moved w0 B M0 S m s a w v s' v' w' S' m' → next (a.put o.dst v') w') : o.wp P a w next Q := by
  have hB : B ≤ w.heap.size := Nat.le_trans hB0 R.frm.size
  unfold aBuildMv at e
  split at e
  rotate_left
  · cases e
  rename_i u x hlook hps
  have tyo := hT _ (look_mem hlook)
  cases hb : (Nat.beq n 1 && ((s.ev x).solid && Nat.beq (s.ev x).cells.length u.size && Nat.ble u.size 16777216) && deepIn s.h (s.ev x).cells) with
  | false => rw [hb] at e; cases e
  | true =>
  rw [hb] at e
  simp only [cond_true] at e
  simp only [Bool.and_eq_true] at hb
  obtain ⟨⟨hn1, ⟨b1, b2⟩, b3⟩, hdeep⟩ := hb
  obtain rfl := Nat.eq_of_beq_eq_true hn1
  have hlen : (s.ev x).cells.length = u.size := Nat.eq_of_beq_eq_true b2
  have hle : u.size ≤ 16777216 := Nat.le_of_ble_eq_true b3
  split at e
  rotate_left
  · cases e
  rename_i y hgat
  obtain ⟨d1, d2, d3⟩ := deepIn_spec hdeep
  have hx := R.ev x
  have hcells := hx.cells b1 R.mem
  have hown := deep_own R.mem (fun _ _ h => h) d1 d2 d3 hgat hcells hlen
  have hvs : (a.eval x).cells.size = u.size := by
    have h1 : (s.ev x).cells.length = (a.eval x).cells.toList.length := hcells.1
    rw [Array.length_toList] at h1
    exact h1.symm.trans hlen
  obtain ⟨te, i, z, hu, hi, hs, hpos, hz, hzz, hby⟩ := slice_ty tyo
  have hzs : z.cells.size = u.size := by
    obtain ⟨p', hp', _, hrep, _⟩ := isZ_spec (S := S) (w := w) (h := s.h.get) (m := m) u _ _ hzz
    rw [List.append_nil] at hp'
    have := hrep.len
    rw [← hp'] at this
    simpa using this
  obtain ⟨arr0, harr⟩ : ∃ arr0 : Array Value, (Array.range (1 * u.size)).map (z.cells[· % z.cells.size]!) = arr0 := ⟨_, rfl⟩
  have harr0 : arr0.size = u.size := by rw [← harr]; simp
  have hstep := fill_step (a.eval x).cells arr0 0 (by omega)
  obtain ⟨arr', harr'⟩ : ∃ a2, (a.eval x).cells.zipIdx.foldl (fun cs (c, j) => cs.setIfInBounds (0 + j) c) arr0 = a2 := ⟨_, rfl⟩
  rw [harr'] at hstep
  have hlist : arr'.toList = (a.eval x).cells.toList := by
    rw [hstep, List.take_zero, List.nil_append, List.drop_eq_nil_of_le (by simp; omega), List.append_nil]
  have hfill : Instr.fill (fun i => some (i * u.size, u.size)) arr0 [(0, a.eval x)] = some arr' := by
    unfold Instr.fill
    simp only [hvs, Nat.zero_mul, Nat.zero_add, ne_eq, not_true_eq_false, decide_false, Bool.false_or, decide_eq_true_eq]
    rw [if_neg (by omega)]
    have : (a.eval x).cells.zipIdx.foldl (fun cs (x, j) => cs.setIfInBounds j x) arr0 = arr' := by
      rw [← harr']
      simp
    simp only [this]
    rfl
  have hsize : arr'.size = u.size := by rw [← Array.length_toList, hlist, Array.length_toList, hvs]
  have hpse : ps = #[(0, x)] := by rw [← Array.toArray_toList (xs := ps), hps]
  have hrun : (execOp a.eval o).run P w = .ok (.value (.slice (some ⟨w.heap.size, 0, none⟩) 1 1)) (w.alloc (.cells arr' te)) := by
    obtain ⟨odst, op, oty, opos, oafter, oguard⟩ := o
    simp only at ho
    subst ho
    subst hpse
    have hsm : ¬ (1 * u.size > 2 ^ 24) := by omega
    have hn0 : ¬ (1 * u.size = 0) := by omega
    simp only [execOp, Instr.buildSlice, Sem.run_bind, run_underlying hu, Result.andThen_ok, sizeOf, typeInfo, run_program, hi, Sem.run_pure, hs]
    rw [if_neg hsm, if_neg hn0]
    simp only [Sem.run_bind, zeroValue, typeInfo, run_program, hi, hz, Sem.run_pure, Result.andThen_ok, harr, List.map_toArray, List.map_cons, List.map_nil, hfill]
    rfl
  have R1 := R.killL (osIn (s.ev x).cells)
  have orph := Orphan.moved R.mem (cs := (s.ev x).cells) fun j hj => by obtain ⟨_, _, h⟩ := d2 j hj; exact heap_ne h
  have tle := killL_t (osIn (s.ev x).cells) s
  obtain ⟨R2, hfr⟩ := R1.fresh (o.dst.getD 0)
  have tt := (fresh_t (s.killL (osIn (s.ev x).cells)) (o.dst.getD 0)).1
  have g : Grow w (w.alloc (.cells arr' te)) := Grow.alloc w arr' te
  have hXl : ∀ q, OsBlk m (s.ev x).cells q → q < w.heap.size := fun q hq => (orph.free q hq).2.1
  obtain ⟨m', R3, hm3⟩ := R2.bornX (v := .slice (some ⟨w.heap.size, 0, none⟩) 1 1) (zs := [y]) (F' := fun q => q = w.heap.size ∨ OsBlk m (s.ev x).cells q) hB (hfr (o.dst.getD 0 * 16) (Nat.le_refl _) (by omega)) g
    (.inr ⟨w.heap.size, 1, arr', te, fun _ => OsBlk m (s.ev x).cells, rfl, heap_alloc_new w _, by rw [hsize, Nat.one_mul], by simp, by unfold maxLen; omega, fun k v hk => by
        have hk0 : k = 0 := by have := (List.getElem?_eq_some_iff.1 hk).1; simpa using this
        subst hk0
        simp only [List.getElem?_cons_zero, Option.some.injEq] at hk
        subst hk
        rw [Nat.zero_mul, List.drop_zero, hlist, List.take_of_length_le (by rw [Array.length_toList]; omega)]
        exact Own.mono (fun b hb => g.block b (hXl b hb)) hown,
      fun i j b hi hj _ _ => by simp at hi hj; omega, fun i _ h => by have := hXl _ h; omega,
      fun b => ⟨fun h => h.imp (fun h => h) fun h => ⟨0, by simp, h⟩, fun h => h.imp (fun h => h) fun ⟨_, _, h⟩ => h⟩⟩)
    (orph.less (fun _ h => h) (fun j h => fresh_ne _ _ j h)) (fun q hq => by
      rcases hq with rfl | hq
      · exact .inr ⟨Nat.le_refl _, by simp⟩
      · exact .inl hq)
  refine wp_value hrun (K _ _ _ _ S m' e ⟨⟨⟨true, u, [y], bear_get _ _ _ _⟩, _, hm3, rfl⟩, R3, ⟨fun _ h => h, g.size, fun q hq => g.block q (R.mem.lt q hq), fun _ h => .inl h⟩, by show s.t ≤ ((s.killL _).fresh _).t + 1; omega, fun et => ?_⟩)
  have : ((s.killL (osIn (s.ev x).cells)).fresh (o.dst.getD 0)).t + 1 = s.t := et
  omega
theorem aAppend_sound [Tabs] (hT : ∀ p ∈ E.T, tyOk P p.1 p.2 = true) (hB0 : B ≤ w0.heap.size) {s : AS} {a : Act} (R : Rel w0 B M0 S m s a w) {o : Oper} {c : Call} (ho : o.op = .call c) (hc : c.callee = .builtin .append) {st : TypeId} {x y : Operand} (ht : c.argTypes.toList = [st, st]) (ha : c.args.toList = [x, y]) {cx cy : ACell}
    (hx : s.ev x = .one cx) (hy : s.ev y = .one cy) {R' : Type} {k : AVal → AS → Option R'} {r : R'} (e : aAppend E s (o.dst.getD 0) st cx cy k = some r)
    {next : Act → World → Prop} {Q : Exit → Act → World → Prop} (K : ∀ v s' v' w' S' m', k v s' = some r → Moved w0 B M0 S m s a w v s' v' w' S' m' → next (a.put o.dst v') w') : o.wp P a w next Q := by
  have hB : B ≤ w.heap.size := Nat.le_trans hB0 R.frm.size
  unfold aAppend at e
  split at e
  rotate_left
  · cases e
  rename_i t hlook
  have tyo := hT _ (look_mem hlook)
  obtain ⟨te, i, z, hu, hi, hsz, hpos, hz, hzz, hby⟩ := slice_ty tyo
  have hzs : z.cells.size = t.size := by
    obtain ⟨p', hp', _, hrep, _⟩ := isZ_spec (S := S) (w := w) (h := s.h.get) (m := m) t _ _ hzz
    rw [List.append_nil] at hp'
    rw [← hp'] at hrep
    simpa using hrep.len
  cases hmv : (E.mv && (t.leads && canMv s cx cy)) with
  | true =>
    rw [hmv] at e
    simp only [cond_true] at e
    exact aAppendMv_sound hT hB0 R ho hc ht ha hx hy hlook e K
  | false =>
  rw [hmv] at e
  simp only [cond_false] at e
  cases hn : (t.leads && !noSb [cy]) with
  | true => rw [hn] at e; cases e
  | false =>
  rw [hn] at e
  simp only [cond_false] at e
  split at e
  rotate_left
  · cases e
  rename_i ys hsrc
  have hry := R.ev y
  rw [hy] at hry
  have hrx := R.ev x
  rw [hx] at hrx
  have hrep : Rep (Plus m s.h.get S (idsOf [cy])) w (.slice t) [a.eval y] ys := cellTo_rep R.mem (fun _ _ h _ => h) rfl hsrc hry
  obtain ⟨s1, S1, hs1, b1, b2, R1, hE1, k1, t1⟩ : ∃ s1 S1, (bif t.leads then s.frzAll (osIn [cy]) else s) = s1 ∧ (∀ q, S q → S1 q) ∧ (∀ q, S1 q → S q ∨ B ≤ q ∨ M0 q) ∧ Rel w0 B M0 S1 m s1 a w ∧
      (∀ (T : Blk) ds u, (∀ q, S1 q → T q) → Rep (Plus m s.h.get S (idsOf [cy])) w t ds u → Rep T w t ds u) ∧ (∀ j o, s1.h.get j = some o → ∃ o', s.h.get j = some o') ∧ s.t ≤ s1.t := by
    cases hl : t.leads with
    | false => exact ⟨s, S, rfl, fun _ h => h, fun _ h => .inl h, R, fun T ds u _ r => r.any_leads hl, fun j o h => ⟨o, h⟩, Nat.le_refl _⟩
    | true =>
      rw [hl] at hn
      simp only [Bool.true_and, Bool.not_eq_false'] at hn
      obtain ⟨S1, q1, q2, q3, q4, _⟩ := R.frzAll_in (osIn [cy])
      refine ⟨_, S1, rfl, q1, q2, q3, fun T ds u hT r => r.mono (fun q hq => hT q ?_) (fun _ _ => rfl) (Nat.le_refl _), fun j o h => ?_, (frzAll_t _ s).1⟩
      · rw [noSb_ids hn] at hq
        rcases hq with hq | ⟨j, hj, _, oc, hoc, hF⟩
        · exact q1 q hq
        · obtain ⟨d2, t2, xs2, h2⟩ := cell_in hsrc j hj
          exact q4 j hj d2 t2 xs2 oc h2 hoc q hF
      · cases hj : s.h.get j with
        | some o' => exact ⟨o', rfl⟩
        | none => simp only [cond_true] at h; rw [frzAll_none _ s j hj] at h; cases h
  simp only [hs1] at e
  generalize hdp : (!t.leads || cy.isNils) = dp at e
  have own : dp = true → ∀ (i : Nat) u, ys[i]? = some u → t.leads = false := fun h i u hi => by
    subst hdp
    cases hl : t.leads with
    | false => rfl
    | true =>
      rw [hl] at h
      cases cy with
      | nils => cases (Option.some.inj hsrc : ([] : List t.den) = ys); simp at hi
      | _ => cases h
  have rows := hrep.rows
  have sem : ∀ {w' : World} {v' : Value}, (Builtin.append_ #[st, st] o.type #[a.eval x, a.eval y]).run P w = .ok v' w' → next (a.put o.dst v') w' → o.wp P a w next Q := fun {w' v'} hr hnext => by
    have h1 : c.argTypes = #[st, st] := by rw [← Array.toArray_toList (xs := c.argTypes), ht]
    have h2 : c.args = #[x, y] := by rw [← Array.toArray_toList (xs := c.args), ha]
    unfold Oper.wp execOp
    simp only [ho, resolve, invoke, builtin, Sem.run_bind, Sem.run_pure, Result.andThen_ok, hc, h1, h2, List.map_toArray, List.map_cons, List.map_nil, hr]
    exact hnext
  have hEl : ∀ (D : Bool) (S' : Blk), (∀ q, S1 q → S' q) → (D = true → dp = true) → ∀ (i : Nat) u ds, ys[i]? = some u → Rep (Plus m s.h.get S (idsOf [cy])) w t ds u → El S' w D t ds u (fun _ => False) := fun D S' hS' hD i u ds hi r => by
    cases D with
    | true => exact Rep.own_plain (own (hD rfl) i u hi) r
    | false => exact ⟨hE1 S' ds u hS' r, fun _ h => h⟩
  split at e
  · 
    cases hle : decide (ys.length ≤ lim) with
    | false => rw [hle] at e; cases e
    | true =>
      rw [hle] at e
      simp only [cond_true] at e
      have hle := of_decide_eq_true hle
      obtain ⟨R2, hfr⟩ := R1.fresh (o.dst.getD 0)
      obtain ⟨xo, hxv⟩ : ∃ o : Option Addr, a.eval x = .slice o 0 0 := hrx
      obtain ⟨v', w', F', hrun, g1, g2, g3, g4, g5, g6, g7, g8⟩ := append_arr (P := P) (ty := o.type) hu hi hsz hz hzs hby (S := S1) (D := dp) (v := .slice xo 0 0) (x := a.eval y) (xs := []) (F := fun _ => False) (.inl ⟨⟨_, rfl⟩, rfl, fun _ h => h⟩) rows
        (fun i u ds h1 h2 => hEl dp S1 (fun _ h => h) (fun h => h) i u ds h1 h2) (by simpa using hle) (fun q hq => ⟨R1.mem.lt q hq, fun h => h⟩)
      rw [List.nil_append] at g7
      obtain ⟨m', R3, hm3, _⟩ := R2.born (n := (s1.fresh (o.dst.getD 0)).t + 1) hB (hfr (o.dst.getD 0 * 16) (Nat.le_refl _) (by omega)) ⟨g3, g4, g5, g1, fun q hq => g2 q hq fun h => h, fun a _ => g6 a⟩ g7 (fun q hq => (g8 q hq).resolve_left fun h => h)
      have tt := (fresh_t s1 (o.dst.getD 0)).1
      rw [← hxv] at hrun
      refine sem hrun (K _ _ v' w' S1 m' e ⟨⟨⟨dp, t, ys, by simp [AHeap.get]⟩, _, hm3, rfl⟩, R3, ⟨b1, g1, fun q hq => g2 q (R.mem.lt q hq) fun h => h, b2⟩, by show s.t ≤ _ + 1; omega, fun et => ?_⟩)
      have : (s1.fresh (o.dst.getD 0)).t + 1 = s.t := et
      omega
  · 
    rename_i id
    split at e
    · rename_i d' e' zs ho1
      cases hrg : (Nat.ble 100000 id && Nat.ble id 199999) with
      | true => rw [hrg] at e; cases e
      | false =>
      rw [hrg] at e
      simp only [cond_false] at e
      split at e
      · rename_i xs hcast
        obtain ⟨hty, hxs⟩ := cast?_some hcast
        have hty' : e' = t := by cases hty; rfl
        subst hty'
        cases hxs
        cases hle : decide (zs.length + ys.length ≤ lim) with
        | false => rw [hle] at e; cases e
        | true =>
        rw [hle] at e
        simp only [cond_true] at e
        have hle := of_decide_eq_true hle
        obtain ⟨_, oc, hm, hv⟩ := hrx
        obtain ⟨S2, m2, s2, c2, p1, p2, R2, ho2, hm2, hv2, hkill⟩ : ∃ S2 m2 s2 c2, (∀ q, S1 q → S2 q) ∧ (∀ q, S2 q → S1 q ∨ B ≤ q ∨ M0 q) ∧ Rel w0 B M0 S2 m2 s2 a w ∧ s2.h.get id = some (.arr (d' && dp) e' zs) ∧ m2 id = some c2 ∧ c2.v = oc.v ∧ (∃ n, s2.kill id = { s1.kill id with t := n }) := by
          cases hD : (d' && dp) with
          | true =>
            simp only [Bool.and_eq_true] at hD
            obtain ⟨rfl, _⟩ := hD
            exact ⟨S1, m, s1, oc, fun _ h => h, fun _ h => .inl h, R1, ho1, hm, rfl, _, rfl⟩
          | false =>
            obtain ⟨S2, m2, c2, t1, t2, R2, t3, _⟩ := R1.shallowArr ho1
            obtain ⟨q1, q2, _⟩ := t3 oc hm
            exact ⟨S2, m2, _, c2, t1, t2, R2, by show AHeap.get _ id = _; rw [AS.updA, get_updA, if_pos rfl, ho1]; rfl, q1, q2, _, kill_updA s1 id _⟩
        obtain ⟨c3, hm3, _, hrel⟩ := R2.mem.obj id _ ho2
        obtain rfl : c3 = c2 := Option.some.inj (hm3.symm.trans hm2)
        rw [hv2] at hrel
        obtain ⟨v', w', F', hrun, g1, g2, g3, g4, g5, g6, g7, g8⟩ := append_arr (P := P) (ty := o.type) hu hi hsz hz hzs hby (S := S2) (D := d' && dp) (v := oc.v) (x := a.eval y) hrel rows
          (fun i u ds h1 h2 => hEl (d' && dp) S2 p1 (fun h => by simp only [Bool.and_eq_true] at h; exact h.2) i u ds h1 h2) hle (fun q hq => ⟨R2.mem.lt q hq, fun hF => (R2.mem.apart id c3 (heap_ne ho2) hm2 q hF).1 hq⟩)
        obtain ⟨m', R3, hst, hm4⟩ := R2.reborn hB ho2 hm2 g1 g2 g3 g4 g5 (fun a _ => g6 a) g7 g8
        obtain ⟨n, hkill⟩ := hkill
        rw [hkill] at R3
        have R4 : Rel w0 B M0 S2 m' { s1.kill id with h := (id, .arr (d' && dp) e' (zs ++ ys)) :: (s1.kill id).h } a w' := R3.retime
        rw [← hv] at hrun
        refine sem hrun (K _ _ v' w' S2 m' e ⟨⟨⟨d' && dp, e', zs ++ ys, by simp [AHeap.get]⟩, _, hm4, rfl⟩, R4, ⟨fun q hq => p1 q (b1 q hq), g1, fun q hq => hst q (p1 q (b1 q hq)), fun q hq => (p2 q hq).elim (fun h => b2 q h) .inr⟩, by show s.t ≤ s1.t + 1; omega, fun et => ?_⟩)
        have : s1.t + 1 = s.t := et
        omega
      · cases e
    · cases e
  · cases e
theorem osIn_idx : ∀ {cs : List ACell} {id : Nat}, id ∈ osIn cs → ∃ i : Nat, cs[i]? = some (ACell.os id)
  | [], _, h => by cases h
  | c :: cs, id, h => by
    by_cases hc : c = .os id
    · exact ⟨0, by rw [hc]; rfl⟩
    · have : id ∈ osIn cs := by
        cases c with
        | os j =>
          simp only [osIn, List.mem_cons] at h
          rcases h with h | h
          · subst h; exact absurd rfl hc
          · exact h
        | _ => exact h
      obtain ⟨i, hi⟩ := osIn_idx this
      exact ⟨i + 1, by simpa using hi⟩
theorem arr_len2 {α : Type} {w w' : World} {sz sz' : Nat} {El El' : List Value → α → Blk → Prop} {v : Value} {xs ys : List α} {F F' : Blk} (h : ArrOf w sz El v xs F) (h' : ArrOf w' sz' El' v ys F') : xs.length = ys.length := by
  rcases h with ⟨⟨_, e⟩, rfl, _⟩ | ⟨g, cap, cur, te, Fs, e, _⟩ <;> rcases h' with ⟨⟨_, e'⟩, rfl, _⟩ | ⟨g', cap', cur', te', Fs', e', _⟩
  · rfl
  all_goals
    rw [e] at e'
    simp only [Value.slice.injEq] at e'
    simpa using e'.2.1
theorem plainRs_leads : ∀ {rs : List RK}, plainRs rs = true → RK.leads rs = false
  | [], _ => rfl
  | .val t :: rs, h => by
    simp only [plainRs, Bool.and_eq_true, Bool.not_eq_true'] at h
    simp only [RK.leads, h.1, plainRs_leads h.2, Bool.or_false]
  | .own _ :: _, h => by cases h
  | .rp _ :: _, h => by cases h
  | .sh _ :: _, h => by cases h
  | .ob _ :: _, h => by cases h
theorem dels_sub [Tabs] {l : List Nat} {hp : AHeap} {id : Nat} {o : AObj} (h : (l.foldl AHeap.del hp).get id = some o) : hp.get id = some o := by
  rw [dels_get] at h
  split at h <;> first | cases h | exact h
theorem midV_some : ∀ {ps : List PK} {ts : List Ty}, allVal ps = true → ∀ (x : dens (PK.mtys ps ts)), ∃ z, midV ps x = some z
  | [], _, _, x => ⟨x, rfl⟩
  | .val _ :: ps, _, h, x => midV_some (ps := ps) h x
  | .rp _ :: ps, _, h, x => midV_some (ps := ps) h x
  | .fn _ _ :: ps, _, h, x => midV_some (ps := ps) h x
  | .own _ :: _, _, h, _ => by cases h
  | .mbox _ :: _, _, h, _ => by cases h
  | .obox _ :: _, _, h, _ => by cases h
theorem call_own [Tabs] {f : FuncId} {t : Ty} {ps : List PK} {rs : List RK} {fn : dens (PK.tys (.own t :: ps)) → Option (dens (PK.mtys (.own t :: ps) (RK.tys rs)))} (hC : Sound P f ⟨.own t :: ps, rs, fn⟩) (hav : allVal ps = true) (hpl : plainRs rs = true) {u0 : Value} {us : List Value} {x0 : t.den} {x1 : dens (PK.tys ps)} {G : Blk}
    (hT : TabOk w w.heap.size G) (hown : OTy w t u0 x0 G) (hG : ∀ q, G q → ¬ S q ∧ q < w.heap.size) (hS : ∀ q, S q → q < w.heap.size) (hargs : ArgsRel S w ps us x1 (fun _ => False)) {r : dens (PK.mtys (.own t :: ps) (RK.tys rs))} (hr : fn (consD x0 x1) = some r) {z : dens (RK.tys rs)} (hz : midV ps (tailD r) = some z) :
    Calls P f (u0 :: us).toArray w fun e w' => ∃ vs FR G1, e = .returned (retV vs) ∧ Past w w' G ∧ OTy w' t u0 (headD r) G1 ∧ (∀ q, G1 q → (G q ∨ w.heap.size ≤ q) ∧ q < w'.heap.size) ∧ ResRel S w' rs vs z FR := by
  refine Calls.mono (hC w (u0 :: us) (consD x0 x1) r S G hT hS ⟨u0, us, G, fun _ => False, rfl, by rw [headD_consD]; exact hown, by rw [tailD_consD]; exact hargs, fun _ _ h => h.elim, fun q => by simp⟩ hG hr) fun e w' hk => ?_
  obtain ⟨vs, S', FM, FR, he, past, s1, s2, ⟨v, r', G1, H1, hv, ho, hout, hdis, hFM⟩, f1, f2⟩ := hk
  simp only [List.cons.injEq] at hv
  obtain ⟨rfl, rfl⟩ := hv
  have res := out_val hav hz hout
  exact ⟨vs, FR, G1, he, past, ho, fun q hq => ⟨(f1 q ((hFM q).2 (.inl hq))).1, (f1 q ((hFM q).2 (.inl hq))).2.1⟩, res.any_leads (plainRs_leads hpl)⟩
theorem plain_put [Tabs] {h : HGet} {m : OMap} : ∀ {rs : List RK} {vs : List Value} {z : dens (RK.tys rs)} {FR : Blk} (base : Nat), plainRs rs = true → ResRel S w rs vs z FR → (putRes base rs z).2.1 = [] ∧ (putRes base rs z).2.2 = base ∧ VRel h S w m (resVal (putRes base rs z).1) (retV vs) := fun {rs vs z FR} base hp hr => by
  have e1 : ∀ (rs : List RK) (z : dens (RK.tys rs)), plainRs rs = true → (putRes base rs z).2 = ([], base) := by
    intro rs
    induction rs with
    | nil => intro z _; rfl
    | cons p rs ih =>
      intro z hp
      cases p with
      | own t => cases hp
      | rp t => cases hp
      | sh t => cases hp
      | ob t => cases hp
      | val t =>
        simp only [plainRs, Bool.and_eq_true] at hp
        have := ih (tailD z) hp.2
        simp only [putRes]
        rw [← this]
  have e2 := e1 rs z hp
  refine ⟨by rw [e2], by rw [e2], ?_⟩
  obtain ⟨c, no, hlen, hval⟩ := put_res (w := w) base hr
  exact ret_rel hlen (hval _ _ fun id o e => by rw [e2] at e; cases e)
theorem aCallM_sound [Tabs] (hG : ∀ p ∈ E.G, Sound P p.1 p.2 ∧ FnOk P p.1) (hB0 : B ≤ w0.heap.size) {s0 : AS} {a : Act} (R0 : Rel w0 B M0 S m s0 a w) {o : Oper} {c : Call} (ho : o.op = .call c) {f : Operand} (hc : c.callee = .value f) {g : FuncId} {C : FnSpec} {caps : List Cap} (hf : s0.ev f = .one (.cl g caps))
    (hl : (g, C) ∈ E.G) (hv : allVal C.ps = false) {R' : Type} {k : AVal → AS → Option R'} {r : R'} (e : aCall s0 (o.dst.getD 0) C c.args.toList caps k = some r)
    {next : Act → World → Prop} {Q : Exit → Act → World → Prop} (K : ∀ v s' v' w' S' m', k v s' = some r → Moved w0 B M0 S m s0 a w v s' v' w' S' m' → next (a.put o.dst v') w') : o.wp P a w next Q := by
  obtain ⟨hS, hfn⟩ := hG _ hl
  have hB : B ≤ w.heap.size := Nat.le_trans hB0 R0.frm.size
  unfold aCall at e
  cases hsh : (ownShape C.ps && plainRs C.rs) with
  | false => rw [hv, hsh] at e; cases e
  | true =>
  simp only [hv, hsh, Bool.false_or, Bool.not_true, cond_false, Bool.not_false, Bool.or_true, Bool.true_and] at e
  simp only [Bool.and_eq_true] at hsh
  obtain ⟨ps, rs, fn⟩ := C
  have hlead : RK.leads rs = false := plainRs_leads hsh.2
  simp only [hlead, cond_false] at e
  cases ps with
  | nil => cases hsh.1
  | cons p ps =>
  cases p with
  | own t =>
    have hav : allVal ps = true := hsh.1
    have hpl : plainRs rs = true := hsh.2
    have hargs : VRel s0.h.get S w m (s0.ev f) (a.eval f) := R0.ev f
    rw [hf] at hargs
    obtain ⟨ccs, hval, hcaps⟩ := hargs
    have rel := callVals_rel (m := m) (S := S) (w := w) (h := s0.h.get) (xs := c.args.toList) (ev := s0.ev) (ρ := a.eval) (fun q _ => R0.ev q) hcaps
    have hlen := callVals_len (xs := c.args.toList) (ev := s0.ev) (ρ := a.eval) hcaps
    have hrun := run_call_fn (ty := o.type) (ρ := a.eval) hfn hc hval w
    have hm : (c.args.toList.map a.eval ++ ccs.toList).toArray = c.args.map a.eval ++ ccs := by
      rw [← Array.toList_map, ← Array.toList_append, Array.toArray_toList]
    have hex : (execOp a.eval o).run P w = .ok (.enter g (c.args.map a.eval ++ ccs)) w := by
      rw [← hrun]
      obtain ⟨odst, op, oty, opos, oafter, oguard⟩ := o
      simp only at ho
      subst ho
      rfl
    rw [← hm] at hex
    generalize callVals s0.ev c.args.toList caps = vals at *
    generalize c.args.toList.map a.eval ++ ccs.toList = uvals at *
    cases hids : (argIds (.own t :: ps) vals).isEmpty with
    | false => rw [hids] at e; cases e
    | true =>
    rw [hids] at e
    simp only [Bool.not_true, cond_false] at e
    cases vals with
    | nil => cases e
    | cons v0 vs =>
    cases uvals with
    | nil => cases hlen
    | cons u0 us =>
    have hids' : argIds ps vs = [] := by
      have : argIds (.own t :: ps) (v0 :: vs) = argIds ps vs := rfl
      rw [this] at hids
      simpa using hids
    cases hx : takeArgs s0.h (.own t :: ps) (v0 :: vs) with
    | none => rw [hx] at e; cases e
    | some x =>
    rw [hx] at e
    simp only [Option.bind_eq_some_iff] at e
    obtain ⟨r0, hr0, e⟩ := e
    simp only [takeArgs] at hx
    cases hfd : (v0.fits t && takeArgs.deepArg s0.h t.isAgg v0.cells) with
    | false => rw [hfd] at hx; cases hx
    | true =>
    rw [hfd] at hx
    simp only [cond_true, Option.bind_eq_some_iff, Option.some.injEq] at hx
    obtain ⟨x0, hg0, x1, hx1, rfl⟩ := hx
    simp only [Bool.and_eq_true] at hfd
    have h0 := rel 0 v0 u0 rfl rfl
    obtain ⟨f1, f2, f3⟩ := fits_spec R0.mem hfd.1 h0
    have hcells := h0.cells f1 R0.mem
    have hrest : ArgsRel S w ps us x1 (fun _ => False) := by
      have := args_val R0.mem (ps := ps) (vs := vs) (us := us) hav (fun id o h1 hn => dels_sub h1) hx1 (by simpa using hlen) (fun i a u h1 h2 => rel (i + 1) a u (by simpa using h1) (by simpa using h2))
      rw [hids'] at this
      exact ArgsRel.mono (fun q hq => hq.elim id fun ⟨_, h, _⟩ => by cases h) hav this
    have fin : ∀ (G : Blk), Own w t u0.cells.toList x0 G → (∀ q, G q → ¬ S q ∧ q < w.heap.size ∧ (B ≤ q ∨ M0 q)) → (∀ (w' : World) (G1 : Blk), Past w w' G → OTy w' t u0 (headD r0) G1 → (∀ q, G1 q → (G q ∨ w.heap.size ≤ q) ∧ q < w'.heap.size) →
        ∃ s1 m', (putMuts ps vs (RK.tys rs) (tailD r0) s1 fun r s => match putRes (o.dst.getD 0 * 16) rs r with
          | (l, os, n) => bif Nat.ble n (o.dst.getD 0 * 16 + 16) then k (resVal l) { ρ := (s.fresh (o.dst.getD 0)).ρ, h := os ++ (s.fresh (o.dst.getD 0)).h, t := (s.fresh (o.dst.getD 0)).t + 1 } else none) = some r ∧ Rel w0 B M0 S m' s1 a w' ∧ s0.t ≤ s1.t) → o.wp P a w next Q := fun G hown hG back => by
      unfold Oper.wp
      rw [hex, Oper.upon_enter]
      obtain ⟨z, hz⟩ : ∃ z, midV ps (tailD r0) = some z := midV_some hav (tailD r0)
      refine Calls.mono (call_own hS hav hpl (R0.frm.tabs hB fun q hq => (hG q hq).2.2) ⟨_, f3, hown⟩ (fun q hq => ⟨(hG q hq).1, (hG q hq).2.1⟩) R0.mem.lt hrest hr0 hz) fun en w' hk => ?_
      obtain ⟨vs', FR, G1, rfl, past, ho1, hG1, hres⟩ := hk
      obtain ⟨s1, m', e1, R1, t1⟩ := back w' G1 past ho1 hG1
      obtain ⟨z', hz', e2⟩ := put_val hav e1
      rw [hz] at hz'
      cases hz'
      obtain ⟨p1, p2, p3⟩ := plain_put (h := (s1.fresh (o.dst.getD 0)).h.get) (m := m') (o.dst.getD 0 * 16) hpl hres
      generalize hpr : putRes (o.dst.getD 0 * 16) rs z = pr at *
      obtain ⟨l, os, n⟩ := pr
      simp only at p1 p2 p3 e2
      subst p1
      cases hn : Nat.ble n (o.dst.getD 0 * 16 + 16) with
      | false => rw [hn] at e2; cases e2
      | true =>
      rw [hn] at e2
      have R2 := (R1.fresh (o.dst.getD 0)).1
      have tt := (fresh_t s1 (o.dst.getD 0)).1
      refine K _ _ _ w' S m' e2 ⟨p3, ⟨R2.mem, R2.frm, R2.tmps, R2.size, R2.defers⟩, ⟨fun _ h => h, past.size, fun q hq => past.block q (R0.mem.lt q hq) fun hg => (hG q hg).1 hq, fun q hq => .inl hq⟩, by show s0.t ≤ _ + 1; omega, fun et => ?_⟩
      have : (s1.fresh (o.dst.getD 0)).t + 1 = s0.t := et
      omega
    have valEq : ∀ {ds : List Value}, u0 = valV t.isAgg ds → ds.length = t.size → ds = u0.cells.toList := fun {ds} h1 h2 => by
      have h3 := f3
      have h4 : u0.cells.toList.length = t.size := by rw [← hcells.1]; exact f2
      generalize u0.cells.toList = us0 at h3 h4 ⊢
      subst h1
      cases hagg : t.isAgg with
      | true =>
        rw [hagg] at h3
        simp only [valV, if_true, Value.agg.injEq] at h3
        have := congrArg Array.toList h3
        simpa using this
      | false =>
        rw [hagg] at h3
        have hs1 := size_one hagg
        rw [hs1] at h2 h4
        obtain ⟨p, rfl⟩ := List.length_eq_one_iff.1 h2
        obtain ⟨q, rfl⟩ := List.length_eq_one_iff.1 h4
        simp [valV] at h3
        rw [h3]
    have e' : backIn t (headD r0) v0.cells s0 (fun s => putMuts ps vs (RK.tys rs) (tailD r0) s fun r s => match putRes (o.dst.getD 0 * 16) rs r with
          | (l, os, n) => bif Nat.ble n (o.dst.getD 0 * 16 + 16) then k (resVal l) { ρ := (s.fresh (o.dst.getD 0)).ρ, h := os ++ (s.fresh (o.dst.getD 0)).h, t := (s.fresh (o.dst.getD 0)).t + 1 } else none) = some r := e
    clear e
    have shape : (t.isAgg = false ∧ ∃ id i off el y, v0.cells = [.sb id i off el y]) ∨ deepIn s0.h v0.cells = true := by
      have h := hfd.2
      unfold takeArgs.deepArg at h
      split at h
      · rename_i id i off el y heq
        simp only [Bool.and_eq_true, Bool.not_eq_true'] at h
        exact .inl ⟨h.1, id, i, off, el, y, heq⟩
      · exact .inr h
    rcases shape with ⟨hagg, id, i, off, el, y, hce⟩ | hdeep
    · 
      rw [hce] at hcells hg0 f2 e'
      obtain ⟨v, us', hus, hr, hone, hu'⟩ := hcells.uncons
      have hus' : us' = [] := List.eq_nil_of_length_eq_zero hu'.1.symm
      subst hus'
      obtain ⟨d, xs, hob, hi, hd, ⟨u, z, hfz⟩, c, gb, n, cap, hmc, hcv, hcell⟩ := hr
      subst hd
      have ht : t = .slice u ∧ HEq x0 z := by
        cases t with
        | slice t' =>
          simp only [gatherG, cellToG, hfz] at hg0
          obtain ⟨h1, h2⟩ := cast?_some hg0
          cases h1
          cases h2
          exact ⟨rfl, HEq.rfl⟩
        | unit => simp [Ty.size] at f2
        | pair a b => cases hagg
        | bool => simp only [gatherG, cellToG, hfz] at hg0; obtain ⟨h1, _⟩ := cast?_some hg0; cases h1
        | int k => simp only [gatherG, cellToG, hfz] at hg0; obtain ⟨h1, _⟩ := cast?_some hg0; cases h1
        | str => simp only [gatherG, cellToG, hfz] at hg0; obtain ⟨h1, _⟩ := cast?_some hg0; cases h1
        | raw => simp only [gatherG, cellToG, hfz] at hg0; obtain ⟨h1, _⟩ := cast?_some hg0; cases h1
      obtain ⟨rfl, hxz⟩ := ht
      have hxz := eq_of_heq hxz
      subst hxz
      obtain ⟨c', hmc', hce2, hrel⟩ := R0.mem.obj id _ hob
      obtain rfl : c' = c := Option.some.inj (hmc'.symm.trans hmc)
      have hrel0 := hrel
      rcases hrel with ⟨_, rfl, _⟩ | ⟨g', cap', cur, te, Fs, k1, k2, k3, k4, k5, k6, k7, k8, k9⟩
      · simp at hi
      have hcv0 := hcv
      rw [k1] at hcv
      simp only [Value.slice.injEq, Option.some.injEq, Addr.mk.injEq] at hcv
      obtain ⟨⟨rfl, _⟩, _, _⟩ := hcv
      have hilt : i < xs.length := (List.getElem?_eq_some_iff.1 hi).1
      have hown : Own w el ((cur.toList.drop (i * el.size)).take el.size) y (Fs i) := k6 i y hi
      obtain ⟨Fp, p1, p2, p3⟩ := own_flat hown
      have hofflt : off < el.size := by have := (List.getElem?_eq_some_iff.1 hfz).1; rw [flat_length] at this; exact this
      have hsegoff : ((cur.toList.drop (i * el.size)).take el.size)[off]? = some v := by
        rw [seg_get, if_pos hofflt]
        rw [cell_of_row w g' (i * el.size + off) cur te (0, 0) k2] at hcell
        simpa using hcell
      obtain ⟨u2, z2, he2, ho2⟩ := p1 off _ v hfz hsegoff
      cases he2
      have inF : ∀ q, Fp off q → c'.F q := fun q hq => (k9 q).2 (.inr ⟨i, hilt, p3 off q hq⟩)
      have hv0 : u0.cells.toList = [v] := hus
      refine fin (Fp off) (by rw [hv0]; exact ho2) (fun q hq => R0.mem.apart id c' (heap_ne hob) hmc q (inF q hq)) fun w' G1 past ho1 hG1 => ?_
      obtain ⟨ds', hdv, hown'⟩ := ho1
      have hds := valEq hdv hown'.len
      rw [hv0] at hds
      subst hds
      simp only [backIn, hob] at e'
      split at e'
      · rename_i z' hgz
        have gnot : ¬ Fp off g' := fun h => k8 i hilt (p3 off g' h)
        have hsame : ∀ q, q < w.heap.size → ¬ Fp off q → w'.heap[q]? = w.heap[q]? := past.block
        have hglt : g' < w.heap.size := lt_of_heap k2
        have FsLt : ∀ k, k < xs.length → ∀ q, Fs k q → q < w.heap.size := fun k hk q hq => by
          obtain ⟨x, hx⟩ : ∃ x, xs[k]? = some x := ⟨xs[k], by simp [hk]⟩
          exact Own.lt (k6 k x hx) q hq
        have hseglen := hown.len
        have hEl : Own w' el ((cur.toList.drop (i * el.size)).take el.size) z' (fun q => ∃ j, j < el.size ∧ (if j = off then G1 q else Fp j q)) := by
          have hfl := flat_length el y
          refine own_each (Fs := fun j q => if j = off then G1 q else Fp j q) hgz (by simp; omega) hseglen (fun j cc vv uu zz hj hvj ha hz => ?_) (fun j1 j2 q h1 h2 => ?_)
          · have := split_get (flat el y) [ACell.pv (.slice u) (headD r0)] off j (by simp; omega)
            simp only [List.length_cons, List.length_nil, Nat.zero_add] at this
            rw [this] at hj
            by_cases hjo : j = off
            · subst hjo
              rw [if_neg (by omega), if_pos (by omega), Nat.sub_self] at hj
              simp at hj
              subst hj
              rw [hsegoff] at hvj
              cases hvj
              obtain ⟨h1, h2⟩ := cast?_some (show cast? uu (headD r0) = some zz from hz)
              subst h1
              cases h2
              simp only [if_true]
              exact hown'
            · have hj' : (flat el y)[j]? = some cc := by
                by_cases h1 : j < off
                · rw [if_pos h1] at hj; exact hj
                · rw [if_neg h1, if_neg (by omega)] at hj; exact hj
              obtain ⟨u3, z3, rfl, ho3⟩ := p1 j cc vv hj' hvj
              obtain ⟨h1, h2⟩ := cast?_some (show cast? uu z3 = some zz from hz)
              subst h1
              cases h2
              simp only [if_neg hjo]
              exact Own.mono (fun q hq => hsame q (ho3.lt q hq) fun h => hjo (p2 j off q hq h)) ho3
          · by_cases ho1 : j1 = off
            · by_cases ho2 : j2 = off
              · omega
              · rw [if_pos ho1] at h1; rw [if_neg ho2] at h2
                rcases (hG1 q h1).1 with h | h
                · exact absurd (p2 j2 off q h2 h) ho2
                · have := FsLt i hilt q (p3 j2 q h2); omega
            · by_cases ho2 : j2 = off
              · rw [if_neg ho1] at h1; rw [if_pos ho2] at h2
                rcases (hG1 q h2).1 with h | h
                · exact absurd (p2 j1 off q h1 h) ho1
                · have := FsLt i hilt q (p3 j1 q h1); omega
              · rw [if_neg ho1] at h1; rw [if_neg ho2] at h2
                exact p2 j1 j2 q h1 h2
        have newIn : ∀ q, (∃ j, j < el.size ∧ (if j = off then G1 q else Fp j q)) → Fs i q ∨ (w.heap.size ≤ q ∧ q < w'.heap.size) := fun q ⟨j, _, hq⟩ => by
          by_cases hjo : j = off
          · rw [if_pos hjo] at hq
            rcases (hG1 q hq).1 with h | h
            · exact .inl (p3 off q h)
            · exact .inr ⟨h, (hG1 q hq).2⟩
          · rw [if_neg hjo] at hq
            exact .inl (p3 j q hq)
        let Fk : Nat → Blk := fun k q => if k = i then (∃ j, j < el.size ∧ (if j = off then G1 q else Fp j q)) else Fs k q
        have FkIn : ∀ k q, k < xs.length → Fk k q → Fs k q ∨ (w.heap.size ≤ q ∧ q < w'.heap.size ∧ k = i) := fun k q hk hq => by
          by_cases hki : k = i
          · have hq' : ∃ j, j < el.size ∧ (if j = off then G1 q else Fp j q) := by have := hq; simp only [Fk, if_pos hki] at this; exact this
            subst hki
            rcases newIn q hq' with h | h
            · exact .inl h
            · exact .inr ⟨h.1, h.2, rfl⟩
          · have hq' : Fs k q := by have := hq; simp only [Fk, if_neg hki] at this; exact this
            exact .inl hq'
        have hArr : ArrRel S w' true el c'.v (xs.set i z') (fun q => q = g' ∨ ∃ k, k < xs.length ∧ Fk k q) := by
          refine .inr ⟨g', cap', cur, te, Fk, by rw [k1]; simp, (hsame g' hglt gnot).trans k2, k3, by simpa using k4, k5, fun k x hk => ?_, fun k j q hk hj h1 h2 => ?_, fun k hk h => ?_, fun q => by rw [List.length_set]⟩
          · have hkl : k < xs.length := by have := (List.getElem?_eq_some_iff.1 hk).1; simpa using this
            by_cases hki : k = i
            · subst hki
              rw [List.getElem?_set_self hilt] at hk
              cases hk
              have e5 : Fk k = fun q => ∃ j, j < el.size ∧ (if j = off then G1 q else Fp j q) := by funext q; simp [Fk]
              show El S w' true el _ _ (Fk k)
              rw [e5]
              exact hEl
            · rw [List.getElem?_set_ne (fun e => hki e.symm)] at hk
              have e5 : Fk k = Fs k := by funext q; simp [Fk, hki]
              show El S w' true el _ _ (Fk k)
              rw [e5]
              exact Own.mono (fun q hq => hsame q (FsLt k hkl q hq) fun h => hki (k7 k i q hkl hilt hq (p3 off q h))) (k6 k x hk)
          · rw [List.length_set] at hk hj
            rcases FkIn k q hk h1 with a1 | a1
            · rcases FkIn j q hj h2 with a2 | a2
              · exact k7 k j q hk hj a1 a2
              · have := FsLt k hk q a1; omega
            · rcases FkIn j q hj h2 with a2 | a2
              · have := FsLt j hj q a2; omega
              · omega
          · rw [List.length_set] at hk
            rcases FkIn k g' hk h with a1 | a1
            · exact k8 k hk a1
            · omega
        obtain ⟨m', R', _⟩ := R0.turnD (s' := s0.updA id (.arr true el (xs.set i z'))) hB (fun j => j = id) (ACell.killSb id) (fun _ q => q = g' ∨ ∃ k, k < xs.length ∧ Fk k q) past.size
          (fun q hq hn => hsame q hq fun h => hn ⟨id, c', rfl, heap_ne hob, hmc, inF q h⟩) past.os past.tape past.output past.fz (updA_back s0 id _).ρ (fun j hj => (updA_back s0 id _).rest j (by simpa using hj)) (updA_back s0 id (.arr true el (xs.set i z'))).und
          (fun j i off e y hj => (updA_back s0 id (.arr true el (xs.set i z'))).sb j (by simpa using hj) i off e y) (fun j k hj => (updA_back s0 id (.arr true el (xs.set i z'))).vw j (by simpa using hj) k)
          (fun j hj => by
            subst hj
            refine ⟨true, el, xs, c', true, xs.set i z', hob, hmc, updA_get s0 j _ hob, by simp, hArr, fun q hq => ?_⟩
            rcases hq with rfl | ⟨k, hk, hq⟩
            · exact .inl ⟨j, c', rfl, heap_ne hob, hmc, (k9 q).2 (.inl rfl)⟩
            · rcases FkIn k q hk hq with h | h
              · exact .inl ⟨j, c', rfl, heap_ne hob, hmc, (k9 q).2 (.inr ⟨k, hk, h⟩)⟩
              · exact .inr ⟨h.1, h.2.1⟩)
          (fun i j hi hj hij => absurd (hi.trans hj.symm) hij)
        exact ⟨_, m', e', R', Nat.le_succ _⟩
      · cases e'
    · 
      obtain ⟨d1, d2, d3⟩ := deepIn_spec hdeep
      have hown := deep_own R0.mem (get := s0.h.get) (fun _ _ h => h) d1 d2 d3 hg0 hcells f2
      refine fin (OsBlk m v0.cells) hown (fun q ⟨id, hid, c, hc, hF⟩ => ?_) fun w' G1 past ho1 hG1 => ?_
      · obtain ⟨t', xs, h⟩ := d2 id hid
        exact R0.mem.apart id c (heap_ne h) hc q hF
      · obtain ⟨s1, ff, e1, bk, pr⟩ := backIn_os e' hg0 (fun id _ o h => h) f2 d1 d2 d3
        obtain ⟨ds', hdv, hown'⟩ := ho1
        have hds := valEq hdv hown'.len
        subst hds
        obtain ⟨Fs, g1, g2, g3⟩ := own_flat hown'
        have at_ : ∀ j, j ∈ osIn v0.cells → ∃ i : Nat, v0.cells[i]? = some (ACell.os j) := fun j hj => osIn_idx hj
        classical
        let ix : Nat → Nat := fun j => if h : ∃ i : Nat, v0.cells[i]? = some (ACell.os j) then Classical.choose h else 0
        have hix : ∀ j, j ∈ osIn v0.cells → v0.cells[ix j]? = some (.os j) := fun j hj => by
          have h := at_ j hj
          simp only [ix, dif_pos h]
          exact Classical.choose_spec h
        have inD : ∀ q, OsBlk m v0.cells q → InD s0.h.get m (fun j => j ∈ osIn v0.cells) q := fun q ⟨id, hid, c, hc, hF⟩ => by
          obtain ⟨t', xs, h⟩ := d2 id hid
          exact ⟨id, c, hid, heap_ne h, hc, hF⟩
        obtain ⟨m', R', _⟩ := R0.turnD (s' := s1) hB (fun j => j ∈ osIn v0.cells) ff (fun j => Fs (ix j)) past.size (fun q hq hn => past.block q hq fun h => hn (inD q h)) past.os past.tape past.output past.fz bk.ρ bk.rest bk.und (fun j i off e y hj => bk.sb j hj i off e y) (fun j k hj => bk.vw j hj k)
          (fun j hj => by
            obtain ⟨t', xs, ys, q1, q2, q3⟩ := pr (ix j) j (hix j hj)
            have hlt : ix j < u0.cells.toList.length := by rw [← hcells.1]; exact (List.getElem?_eq_some_iff.1 (hix j hj)).1
            have hvv : u0.cells.toList[ix j]? = some (u0.cells.toList[ix j]) := by simp
            have hcr := hcells.2.2 (ix j) _ _ (hix j hj) hvv
            obtain ⟨_, c, hc, hcv⟩ := hcr
            obtain ⟨u3, z3, he, ho3⟩ := g1 (ix j) _ _ q2 hvv
            cases he
            obtain ⟨v', hv', harr⟩ := ho3
            simp only [List.cons.injEq, and_true] at hv'
            rw [← hv', hcv] at harr
            obtain ⟨c', hc', _, hold⟩ := R0.mem.obj j _ q1
            obtain rfl : c' = c := Option.some.inj (hc'.symm.trans hc)
            refine ⟨true, t', xs, c', true, ys, q1, hc, q3, (arr_len2 hold harr).symm, harr, fun q hq => ?_⟩
            rcases (hG1 q (g3 _ q hq)).1 with h | h
            · exact .inl (inD q h)
            · exact .inr ⟨h, (hG1 q (g3 _ q hq)).2⟩)
          (fun i j hi hj hij q h1 h2 => by
            have := g2 _ _ q h1 h2
            have h3 := hix i hi
            rw [this, hix j hj] at h3
            cases h3
            exact hij rfl)
        exact ⟨s1, m', e1, R', bk.t⟩
  | _ => cases hsh.1
end
end Go.Ab
