/-
  One operation: what the evaluator says of it is what the machine does.
-/
import Derived.Test.YtbbfieonkkgkkaaXTouch
import Derived.Test.YtbbfieonkkgkkaaXCall
namespace Go.Ab
open Go Go.RowKit

/-- what may be called: a function with a body -/
def FnOk (P : Program) (f : FuncId) : Prop := ∃ fn, P.funcs[f]? = some fn ∧ (fn.name == "runtime.NumGoroutine") = false ∧ fn.body.isNone = false

/-- what stays stays as it was -/
structure Ext (B : Nat) (M0 S S' : Blk) (w w' : World) : Prop where
  sub : ∀ q, S q → S' q
  size : w.heap.size ≤ w'.heap.size
  stay : ∀ q, S q → w'.heap[q]? = w.heap[q]?
  news : ∀ q, S' q → S q ∨ B ≤ q ∨ M0 q

theorem Ext.refl (B : Nat) (M0 S : Blk) (w : World) : Ext B M0 S S w w := ⟨fun _ h => h, Nat.le_refl _, fun _ _ => rfl, fun _ h => .inl h⟩
theorem Ext.trans {B : Nat} {M0 S S' S'' : Blk} {w w' w'' : World} (x : Ext B M0 S S' w w') (y : Ext B M0 S' S'' w' w'') : Ext B M0 S S'' w w'' :=
  ⟨fun q h => y.sub q (x.sub q h), Nat.le_trans x.size y.size, fun q h => (y.stay q (x.sub q h)).trans (x.stay q h), fun q h => (y.news q h).elim (fun h => x.news q h) .inr⟩

section
variable {P : Program} {E : Env} {S : Blk} {w w0 : World} {m : OMap} {B : Nat} {M0 : Blk}

theorem Wider.trans {h h' h'' : HGet} {S S' S'' : Blk} {w w' w'' : World} {m m' m'' : OMap} (x : Wider h h' S S' w w' m m') (y : Wider h' h'' S' S'' w' w'' m' m'') : Wider h h'' S S'' w w'' m m'' := by
  have hn : ∀ id, h id ≠ none → h' id ≠ none := fun id hid => by
    cases e : h id with
    | none => exact absurd e hid
    | some o => exact heap_ne (x.hk id o e)
  refine ⟨fun id o e => y.hk id o (x.hk id o e), fun id e => (y.map id (hn id e)).trans (x.map id e), fun q hq => y.sub q (x.sub q hq), Nat.le_trans x.size y.size,
    fun q hq => (y.stay q (x.sub q hq)).trans (x.stay q hq), fun id c e hc q hq => ?_⟩
  exact (y.own id c (hn id e) ((x.map id e).trans hc) q hq).trans (x.own id c e hc q hq)

theorem Wider.ext {h h' : HGet} {S S' : Blk} {w w' : World} {m m' : OMap} (x : Wider h h' S S' w w' m m') (hn : ∀ q, S' q → S q ∨ B ≤ q ∨ M0 q) : Ext B M0 S S' w w' := ⟨x.sub, x.size, x.stay, hn⟩
theorem QPost.fresh_blocks {h : HGet} {S' : Blk} {w' : World} {m' : OMap} {d : Nat} {v : AVal} {os : AHeap} {v' : Value} (hB : B ≤ w.heap.size) (q : QPost h S w m B M0 d v os v' w' S' m') : ∀ b, S' b → S b ∨ B ≤ b ∨ M0 b := fun b hb => (q.news b hb).imp (fun h => h) fun h => .inl (Nat.le_trans hB h.1)
theorem Wider.more {h : HGet} {S S' : Blk} (hs : ∀ q, S q → S' q) (w : World) (m : OMap) : Wider h h S S' w w m m := ⟨fun _ _ e => e, fun _ _ => rfl, hs, Nat.le_refl _, fun _ _ => rfl, fun _ _ _ _ _ _ => rfl⟩

theorem Rel.ev {s : AS} {a : Act} (R : Rel w0 B M0 S m s a w) (x : Operand) : VRel s.h.get S w m (s.ev x) (a.eval x) := by
  cases x with
  | tmp t => exact R.tmps t
  | func f => exact ⟨rfl, rfl⟩
  | «global» g => exact trivial
  | const v =>
    simp only [AS.ev, Act.eval]
    split
    · exact pv_bool _
    · rename_i k n
      cases hb : (decide (k.min ≤ n) && decide (n ≤ k.max)) with
      | false => exact trivial
      | true =>
        simp only [Bool.and_eq_true, decide_eq_true_eq] at hb
        exact pv_int ((wfI_iff k n).2 hb)
    · rename_i b
      cases hb : Nat.ble b.data.toList.length 140737488355328 with
      | false => exact trivial
      | true =>
        have e : b = ⟨⟨b.data.toList⟩⟩ := by obtain ⟨d⟩ := b; rfl
        have := pv_str (h := s.h.get) (S := S) (w := w) (m := m) (x := b.data.toList) (by have := Nat.le_of_ble_eq_true hb; unfold maxLen; omega)
        rw [← e] at this
        exact this
    · exact rfl
    · exact trivial

/-- what an operation leaves -/
structure Moved (w0 : World) (B : Nat) (M0 S : Blk) (m : OMap) (s : AS) (a : Act) (w : World) (v : AVal) (s' : AS) (v' : Value) (w' : World) (S' : Blk) (m' : OMap) : Prop where
  val : VRel s'.h.get S' w' m' v v'
  rel : Rel w0 B M0 S' m' s' a w'
  ext : Ext B M0 S S' w w'
  t : s.t ≤ s'.t
  wide : s'.t = s.t → Wider s.h.get s'.h.get S S' w w' m m'

theorem kills_t : ∀ (l : List (Nat × AObj)) (s : AS), s.t ≤ (l.foldl (fun s p => s.kill p.1) s).t ∧ ((l.foldl (fun s p => s.kill p.1) s).t = s.t → l = [])
  | [], s => ⟨Nat.le_refl _, fun _ => rfl⟩
  | p :: l, s => by
    have ih := kills_t l (s.kill p.1)
    have : (s.kill p.1).t = s.t + 1 := rfl
    simp only [List.foldl_cons]
    exact ⟨by omega, fun e => by omega⟩

theorem fresh_t (s : AS) (d : Nat) : s.t ≤ (s.fresh d).t ∧ ((s.fresh d).t = s.t → s.fresh d = s) := by
  have := kills_t (s.h.filter fun p => Nat.ble (d * 16) p.1 && Nat.ble p.1 (d * 16 + 15)) s
  refine ⟨this.1, fun e => ?_⟩
  have h := this.2 e
  unfold AS.fresh
  rw [h]; rfl

theorem frz_t (s : AS) (id : Nat) : s.t ≤ (s.frz id).t ∧ ((s.frz id).t = s.t → s.frz id = s) := by
  unfold AS.frz
  split
  · exact ⟨Nat.le_succ _, fun e => by simp at e⟩
  · exact ⟨Nat.le_refl _, fun _ => rfl⟩

theorem frzAll_t : ∀ (l : List Nat) (s : AS), s.t ≤ (s.frzAll l).t ∧ ((s.frzAll l).t = s.t → s.frzAll l = s)
  | [], s => ⟨Nat.le_refl _, fun _ => rfl⟩
  | id :: l, s => by
    have h1 := frz_t s id
    have h2 := frzAll_t l (s.frz id)
    simp only [AS.frzAll]
    refine ⟨by omega, fun e => ?_⟩
    have e1 : s.frz id = s := h1.2 (by omega)
    rw [e1] at h2 ⊢
    exact h2.2 (by rw [e1] at e; exact e)

theorem get_plus (os h : AHeap) : AHeap.get (os ++ h) = hplus os (AHeap.get h) := funext fun i => get_append os h i

/-- a quiet operation's outcome, put into the state -/
theorem QPost.moved {s : AS} {a : Act} (R : Rel w0 B M0 S m s a w) (hB : B ≤ w.heap.size) {d : Nat} {v : AVal} {os : AHeap} {v' : Value} {w' : World} {S' : Blk} {m' : OMap} (q : QPost s.h.get S w m B M0 d v os v' w' S' m') (t : Nat) :
    VRel (AHeap.get (os ++ s.h)) S' w' m' v v' ∧ Rel w0 B M0 S' m' { ρ := s.ρ, h := os ++ s.h, t } a w' ∧ Wider s.h.get (AHeap.get (os ++ s.h)) S S' w w' m m' := by
  rw [get_plus]
  refine ⟨q.val, ⟨?_, R.frm.grow hB q.grow, fun i => ?_, R.size, R.defers⟩, q.wide⟩
  · simp only [get_plus]; exact q.mem
  · simp only [get_plus]; exact (R.tmps i).wider q.wide R.mem

theorem wp_value {o : Oper} {a : Act} {next : Act → World → Prop} {Q : Exit → Act → World → Prop} {v' : Value} {w' : World} (e : (execOp a.eval o).run P w = .ok (.value v') w') (h : next (a.put o.dst v') w') : o.wp P a w next Q := by
  unfold Oper.wp
  rw [e]
  exact h

theorem aQuiet_sound (hT : ∀ p ∈ E.T, tyOk P p.1 p.2 = true) (hB0 : B ≤ w0.heap.size) {s : AS} {a : Act} (R : Rel w0 B M0 S m s a w) {o : Oper} {R' : Type} {k : AVal → AS → Option R'} {r : R'} (e : aQuiet E s (o.dst.getD 0) o.op k = some r)
    {next : Act → World → Prop} {Q : Exit → Act → World → Prop} (K : ∀ v s' v' w' S' m', k v s' = some r → Moved w0 B M0 S m s a w v s' v' w' S' m' → next (a.put o.dst v') w') : o.wp P a w next Q := by
  unfold aQuiet at e
  generalize hd : o.dst.getD 0 = d at e
  have f1 := R.fresh d
  have t1 := fresh_t s d
  generalize s.fresh d = s1 at *
  obtain ⟨S2, hS2, nS2, R2⟩ := Rel.frzAll (gives E s1 d o.op) f1.1
  have t2 := frzAll_t (gives E s1 d o.op) s1
  have hn := frzAll_none (gives E s1 d o.op) s1
  simp only at e
  generalize s1.frzAll (gives E s1 d o.op) = s2 at *
  obtain ⟨v, os, g, hk⟩ := QRes.gives_of_run e
  have hB : B ≤ w.heap.size := Nat.le_trans hB0 R.frm.size
  obtain ⟨v', w', S', m', hx, q⟩ := aQ_sound hT R2.mem hB (fun id x h1 _ => h1) (fun id h1 h2 => hn id (f1.2 id h1 h2)) (fun x _ => R2.ev x) g
  have M := q.moved R2 hB s2.t
  refine wp_value hx (K v _ v' w' S' m' hk ⟨M.1, M.2.1, ((Wider.more hS2 w m (h := s2.h.get)).ext nS2).trans (M.2.2.ext (q.fresh_blocks hB)), Nat.le_trans t1.1 t2.1, fun et => ?_⟩)
  simp only at et
  have e2 : s2 = s1 := t2.2 (by omega)
  have e1 : s1 = s := t1.2 (by omega)
  subst e2; subst e1
  exact (Wider.more hS2 w m).trans M.2.2

theorem run_call_fn {c : Call} {f : Operand} {g : FuncId} {ρ : Operand → Value} {ty : TypeId} (hf : FnOk P g) (hc : c.callee = .value f) (hv : ρ f = .func (.func g) #[] #[]) (w : World) :
    (do let d ← resolve ρ c ty; invoke d.target d.args).run P w = .ok (.enter g (c.args.map ρ)) w := by
  obtain ⟨fn, h1, h2, h3⟩ := hf
  have h2' : fn.name ≠ "runtime.NumGoroutine" := fun e => by rw [e] at h2; cases h2
  have h3' : fn.body ≠ none := fun e => by rw [e] at h3; cases h3
  simp [resolve, hc, hv, Deferred.ofValue, invoke, callFunc, h1, h2', h3']

theorem aCall_sound (hG : ∀ p ∈ E.G, Sound P p.1 p.2 ∧ FnOk P p.1) (hB0 : B ≤ w0.heap.size) {s0 : AS} {a : Act} (R0 : Rel w0 B M0 S m s0 a w) {o : Oper} {c : Call} (ho : o.op = .call c) {f : Operand} (hc : c.callee = .value f) {g : FuncId} {C : FnSpec} (hf : s0.ev f = .one (.cl g []))
    (hl : look E.G g = some C) (hv : allVal C.ps = true) {R' : Type} {k : AVal → AS → Option R'} {r : R'} (e : aCall s0 (o.dst.getD 0) C c.args.toList k = some r)
    {next : Act → World → Prop} {Q : Exit → Act → World → Prop} (K : ∀ v s' v' w' S' m', k v s' = some r → Moved w0 B M0 S m s0 a w v s' v' w' S' m' → next (a.put o.dst v') w') : o.wp P a w next Q := by
  obtain ⟨hS, hfn⟩ := hG _ (look_mem hl)
  unfold aCall at e
  rw [hv] at e
  simp only [Bool.not_true, cond_false] at e
  generalize hd : o.dst.getD 0 = d at e
  have hB : B ≤ w.heap.size := Nat.le_trans hB0 R0.frm.size
  obtain ⟨S1, s, hS1, nS1, hs, R, ts⟩ : ∃ S1 s, (∀ q, S q → S1 q) ∧ (∀ q, S1 q → S q ∨ B ≤ q ∨ M0 q) ∧ (bif RK.leads C.rs then s0.frzAll (argOs C.ps (c.args.toList.map s0.ev)) else s0) = s ∧ Rel w0 B M0 S1 m s a w ∧ s0.t ≤ s.t ∧ (s.t = s0.t → s = s0) := by
    cases RK.leads C.rs with
    | false => exact ⟨S, s0, fun _ h => h, fun _ h => .inl h, rfl, R0, Nat.le_refl _, fun _ => rfl⟩
    | true =>
      obtain ⟨S1, h1, n1, h2⟩ := Rel.frzAll (argOs C.ps (c.args.toList.map s0.ev)) R0
      exact ⟨S1, _, h1, n1, rfl, h2, frzAll_t _ s0⟩
  simp only [hs] at e
  cases hle : (RK.leads C.rs && !(argIds C.ps (c.args.toList.map s.ev)).isEmpty) with
  | true => rw [hle] at e; cases e
  | false =>
  rw [hle] at e
  simp only [cond_false] at e
  cases hx : takeArgs s.h C.ps (c.args.toList.map s.ev) with
  | none => rw [hx] at e; cases e
  | some x =>
  rw [hx] at e
  simp only [Option.bind_eq_some_iff] at e
  obtain ⟨y, hy, e⟩ := e
  obtain ⟨z, hz, e⟩ := put_val hv e
  have f1 := R.fresh d
  have t1 := fresh_t s d
  cases hn : Nat.ble (putRes (d * 16) C.rs z).2.2 (d * 16 + 16) with
  | false => simp only [hn, cond_false] at e; cases e
  | true =>
  simp only [hn, cond_true, hv] at e
  have hargs : VRel s0.h.get S w m (s0.ev f) (a.eval f) := R0.ev f
  rw [hf] at hargs
  obtain ⟨_, hval⟩ := hargs
  have rel : ∀ (i : Nat) (p : AVal) (u : Value), (c.args.toList.map s.ev)[i]? = some p → (c.args.toList.map a.eval)[i]? = some u → VRel s.h.get S1 w m p u := fun i p u h1 h2 => by
    rw [List.getElem?_map] at h1 h2
    cases hi : c.args.toList[i]? with
    | none => rw [hi] at h1; cases h1
    | some q =>
      rw [hi] at h1 h2
      simp only [Option.map_some, Option.some.injEq] at h1 h2
      subst h1; subst h2
      exact R.ev q
  have hle' : RK.leads C.rs = true → argIds C.ps (c.args.toList.map s.ev) = [] := fun hr => by
    rw [hr] at hle
    simpa using hle
  have hcall := call_quiet hS R.mem f1.1.mem hB f1.2 hv (fun id x h1 _ => h1) (us := c.args.toList.map a.eval) (by simp) rel hle' hx hy hz (Nat.le_of_ble_eq_true hn)
  have hrun := run_call_fn (ty := o.type) (ρ := a.eval) hfn hc hval w
  unfold Oper.wp
  have hex : (execOp a.eval o).run P w = .ok (.enter g (c.args.map a.eval)) w := by
    rw [← hrun]
    obtain ⟨odst, op, oty, opos, oafter, oguard⟩ := o
    simp only at ho
    subst ho
    rfl
  rw [hex, Oper.upon_enter]
  have hm : (c.args.toList.map a.eval).toArray = c.args.map a.eval := by
    rw [← Array.toList_map, Array.toArray_toList]
  rw [hm] at hcall
  refine Calls.mono hcall fun ending w' hk => ?_
  obtain ⟨v', S', m', rfl, q⟩ := hk
  have M := q.moved f1.1 hB (s.fresh d).t
  refine K _ _ v' w' S' m' e ⟨M.1, M.2.1, ((Wider.more hS1 w m (h := s.h.get)).ext nS1).trans (M.2.2.ext (q.fresh_blocks hB)), Nat.le_trans ts.1 t1.1, fun et => ?_⟩
  simp only at et
  have e2 : s.fresh d = s := t1.2 (by omega)
  have e1 : s = s0 := ts.2 (by omega)
  have W := M.2.2
  rw [e2] at W ⊢
  rw [e1] at W ⊢
  exact (Wider.more hS1 w m).trans W

theorem wp_skip_op {o : Oper} {a : Act} {next : Act → World → Prop} {Q : Exit → Act → World → Prop} {w' : World} (e : (execOp a.eval o).run P w = .ok .skip w') (h : next (a.put o.dst undef) w') : o.wp P a w next Q := by
  unfold Oper.wp
  rw [e]
  exact h

theorem aStore_sound (hT : ∀ p ∈ E.T, tyOk P p.1 p.2 = true) (hB0 : B ≤ w0.heap.size) {s : AS} {a : Act} (R : Rel w0 B M0 S m s a w) {o : Oper} {t : TypeId} {x y : Operand} (ho : o.op = .store t x y) {u : Ty} (hu : look E.T t = some u) {c : ACell} (hc : s.ev x = .one c)
    {R' : Type} {k : AVal → AS → Option R'} {r : R'} (e : (aStore s u c (s.ev y) fun s => k (.one .und) s) = some r)
    {next : Act → World → Prop} {Q : Exit → Act → World → Prop} (K : ∀ v s' v' w' S' m', k v s' = some r → Moved w0 B M0 S m s a w v s' v' w' S' m' → next (a.put o.dst v') w') : o.wp P a w next Q := by
  have hB : B ≤ w.heap.size := Nat.le_trans hB0 R.frm.size
  have ty := hT _ (look_mem hu)
  have hx := R.ev x
  rw [hc] at hx
  have hy := R.ev y
  have runs : ∀ (ad : Addr) (w' : World), a.eval x = .pointer (some ad) → (a.eval y).cells.size = u.size → (storeCells ad (a.eval y).cells.toList).run P w = .ok () w' → (execOp a.eval o).run P w = .ok .skip w' := fun ad w' h1 h2 h3 => by
    obtain ⟨odst, op, oty, opos, oafter, oguard⟩ := o
    simp only at ho
    subst ho
    simp [execOp, Instr.storeAt, Instr.sureAddr, h1, storeVar, run_sizeOf_ty ty, h2, h3]
  cases c with
  | op id off =>
    simp only [aStore] at e
    cases ho' : s.h.get id with
    | none => rw [ho'] at e; cases e
    | some ob =>
    rw [ho'] at e
    cases ob with
    | arr d t xs => cases e
    | box cs =>
      simp only at e
      cases hb : ((s.ev y).solid && Nat.beq (s.ev y).cells.length u.size && Nat.ble (off + u.size) cs.length) with
      | false => rw [hb] at e; cases e
      | true =>
        rw [hb] at e
        simp only [Bool.and_eq_true] at hb
        obtain ⟨⟨b1, b2⟩, b3⟩ := hb
        have hcells := hy.cells b1 R.mem
        have hlen := Nat.eq_of_beq_eq_true b2
        obtain ⟨_, c, b, hm, hv, hp⟩ := hx
        have hle : off + (s.ev y).cells.length ≤ cs.length := by have := Nat.le_of_ble_eq_true b3; omega
        have hsz2 : (a.eval y).cells.size = u.size := by
          have h1 : (s.ev y).cells.length = (a.eval y).cells.toList.length := hcells.1
          rw [Array.length_toList] at h1
          exact h1.symm.trans hlen
        obtain ⟨w', hst, R', hsz, hstay⟩ := R.storeBox (P := P) hB ho' hcells hle hm hv
        refine wp_skip_op (runs _ w' hp hsz2 hst) (K _ _ undef w' S m e ⟨trivial, R', ⟨fun _ h => h, hsz, hstay, fun _ h => .inl h⟩, Nat.le_succ _, fun et => ?_⟩)
        simp [AS.upd] at et
  | _ => cases e

theorem aAppend_sound (hT : ∀ p ∈ E.T, tyOk P p.1 p.2 = true) (hB0 : B ≤ w0.heap.size) {s : AS} {a : Act} (R : Rel w0 B M0 S m s a w) {o : Oper} {c : Call} (ho : o.op = .call c) (hc : c.callee = .builtin .append) {st : TypeId} {x y : Operand} (ht : c.argTypes.toList = [st, st]) (ha : c.args.toList = [x, y]) {cx cy : ACell}
    (hx : s.ev x = .one cx) (hy : s.ev y = .one cy) {R' : Type} {k : AVal → AS → Option R'} {r : R'} (e : aAppend E s (o.dst.getD 0) st cx cy k = some r)
    {next : Act → World → Prop} {Q : Exit → Act → World → Prop} (K : ∀ v s' v' w' S' m', k v s' = some r → Moved w0 B M0 S m s a w v s' v' w' S' m' → next (a.put o.dst v') w') : o.wp P a w next Q := by
  cases e

theorem aCallM_sound (hG : ∀ p ∈ E.G, Sound P p.1 p.2 ∧ FnOk P p.1) (hB0 : B ≤ w0.heap.size) {s0 : AS} {a : Act} (R0 : Rel w0 B M0 S m s0 a w) {o : Oper} {c : Call} (ho : o.op = .call c) {f : Operand} (hc : c.callee = .value f) {g : FuncId} {C : FnSpec} (hf : s0.ev f = .one (.cl g []))
    (hl : look E.G g = some C) (hv : allVal C.ps = false) {R' : Type} {k : AVal → AS → Option R'} {r : R'} (e : aCall s0 (o.dst.getD 0) C c.args.toList k = some r)
    {next : Act → World → Prop} {Q : Exit → Act → World → Prop} (K : ∀ v s' v' w' S' m', k v s' = some r → Moved w0 B M0 S m s0 a w v s' v' w' S' m' → next (a.put o.dst v') w') : o.wp P a w next Q := by
  unfold aCall at e
  rw [hv] at e
  cases e

/-- what is asked of a program and of the tables that the evaluator looks into -/
structure Good (P : Program) (E : Env) : Prop where
  T : ∀ p ∈ E.T, tyOk P p.1 p.2 = true
  G : ∀ p ∈ E.G, Sound P p.1 p.2 ∧ FnOk P p.1
  mixed : P.follows .mixedOrders = true

theorem aOp_sound (hE : Good P E) (hB0 : B ≤ w0.heap.size) {s : AS} {a : Act} (R : Rel w0 B M0 S m s a w) {o : Oper} {R' : Type} {k : AVal → AS → Option R'} {r : R'} (e : aOp E s o.dst o.op k = some r)
    {next : Act → World → Prop} {Q : Exit → Act → World → Prop} (K : ∀ v s' v' w' S' m', k v s' = some r → Moved w0 B M0 S m s a w v s' v' w' S' m' → next (a.put o.dst v') w') : o.wp P a w next Q := by
  have quiet : aQuiet E s (o.dst.getD 0) o.op k = some r → o.wp P a w next Q := fun e => aQuiet_sound hE.T hB0 R e K
  unfold aOp at e
  generalize hop : o.op = op at e quiet
  cases op with
  | store t x y =>
    simp only at e
    cases hu : look E.T t with
    | none => rw [hu] at e; cases e
    | some u =>
    cases hc : s.ev x with
    | one c => rw [hu, hc] at e; exact aStore_sound hE.T hB0 R hop hu hc e K
    | _ => rw [hu, hc] at e; cases e
  | call c =>
    simp only at e
    cases hc : c.callee with
    | value f =>
      rw [hc] at e
      simp only at e
      cases hf : s.ev f with
      | one cc =>
        rw [hf] at e
        cases cc with
        | cl g cap =>
          cases cap with
          | cons _ _ => cases e
          | nil =>
            simp only at e
            cases hl : look E.G g with
            | none => rw [hl] at e; cases e
            | some C =>
            rw [hl] at e
            cases hv : allVal C.ps with
            | true => exact aCall_sound hE.G hB0 R hop hc hf hl hv e K
            | false => exact aCallM_sound hE.G hB0 R hop hc hf hl hv e K
        | _ => cases e
      | _ => rw [hf] at e; cases e
    | builtin b =>
      rw [hc] at e
      cases b with
      | append =>
        simp only at e
        split at e
        · rename_i st st' ca cx h1 h2
          cases hb : Nat.beq st st' with
          | false => rw [hb] at e; cases e
          | true =>
            rw [hb] at e
            have := Nat.eq_of_beq_eq_true hb
            subst this
            obtain ⟨x, y, ha, hx, hy⟩ := map_two h2
            exact aAppend_sound hE.T hB0 R hop hc h1 ha hx hy e K
        · cases e
      | _ => exact quiet e
    | _ => rw [hc] at e; exact quiet e
  | _ => exact quiet e
end
end Go.Ab
