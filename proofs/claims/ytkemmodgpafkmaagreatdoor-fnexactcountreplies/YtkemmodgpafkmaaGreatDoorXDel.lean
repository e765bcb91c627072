/-
  One element is inserted into an own slice of plain data: calls of slices.Insert.
-/
import Derived.Test.YtkemmodgpafkmaaGreatDoorXBox
namespace Go.Ab
open Go Go.RowKit
def InsOk (P : Program) (f : FuncId) (t : Ty) : Prop :=
  ∀ (w : World) (v x : Value) (xs : List t.den) (y : t.den) (F G : Blk) (i : Nat), ArrRel (fun _ => False) w true t v xs F → ArrRel (fun _ => False) w true t x [y] G → (∀ q, F q → G q → False) → i ≤ xs.length → xs.length ≤ 999999 →
    Calls P f #[v, .int .i64 (i : Int), x] w fun e w' => ∃ v' F', e = .returned v' ∧ w.heap.size ≤ w'.heap.size ∧ (∀ q, q < w.heap.size → ¬ F q → w'.heap[q]? = w.heap[q]?) ∧ w'.os = w.os ∧ w'.tape = w.tape ∧ w'.output = w.output ∧ (∀ a : Addr, a.block < w.heap.size → w'.frozen? a = w.frozen? a) ∧
      ArrRel (fun _ => False) w' true t v' (xs.take i ++ y :: xs.drop i) F' ∧ ∀ q, F' q → F q ∨ G q ∨ (w.heap.size ≤ q ∧ q < w'.heap.size)
section
variable {P : Program} {E : Env} {S : Blk} {w w0 : World} {m : OMap} {B : Nat} {M0 : Blk}
theorem map_three {α β : Type} {f : α → β} {l : List α} {x y z : β} (h : l.map f = [x, y, z]) : ∃ a b c, l = [a, b, c] ∧ f a = x ∧ f b = y ∧ f c = z := by
  cases l with
  | nil => cases h
  | cons a l => cases l with
    | nil => cases h
    | cons b l => cases l with
      | nil => cases h
      | cons c l => cases l with
        | nil => simp at h; exact ⟨a, b, c, rfl, h.1, h.2.1, h.2.2⟩
        | cons _ _ => simp at h
theorem aIns_spec [Tabs] {s : AS} {g : Nat} {args : List Operand} {R : Type} {k : AVal → AS → Option R} {r : R} (e : aIns E s g args k = some r) :
    ∃ (t : Ty) (a b c : Operand) (id jd : Nat) (i : Int) (xs : List t.den) (y : t.den), look E.ins g = some t ∧ args = [a, b, c] ∧ s.ev a = .one (.os id) ∧ s.ev b = .one (.pv (.int .i64) i) ∧ s.ev c = .one (.os jd) ∧ s.h.get id = some (.arr true t xs) ∧ s.h.get jd = some (.arr true t [y]) ∧ id ≠ jd ∧ (0 : Int) ≤ i ∧ i ≤ (xs.length : Int) ∧ xs.length ≤ 999999 ∧
      k (.one (.os id)) { (s.kill jd).kill id with h := (id, .arr true t (insV xs i y)) :: ((s.kill jd).kill id).h } = some r := by
  unfold aIns at e
  split at e
  · rename_i t id i jd hl hm
    split at e
    · rename_i e1 zs e2 us h1 h2
      cases hb : (Nat.beq id jd || (Nat.ble 100000 id && Nat.ble id 199999)) with
      | true => rw [hb] at e; cases e
      | false =>
      rw [hb] at e
      simp only [cond_false] at e
      split at e
      · rename_i xs ys c1 c2
        split at e
        · rename_i y
          cases hd : (decide (0 ≤ i) && decide (i ≤ (xs.length : Int)) && decide (xs.length ≤ 999999)) with
          | false => rw [hd] at e; cases e
          | true =>
            rw [hd] at e
            simp only [cond_true] at e
            simp only [Bool.and_eq_true, decide_eq_true_eq] at hd
            obtain ⟨t1, x1⟩ := cast?_some c1
            obtain ⟨t2, x2⟩ := cast?_some c2
            have e1' : e1 = t := by cases t1; rfl
            have e2' : e2 = t := by cases t2; rfl
            subst e1'
            subst e2'
            cases x1
            cases x2
            have hne : id ≠ jd := fun h => by subst h; simp at hb
            obtain ⟨a, b, c, ha, k1, k2, k3⟩ := map_three hm
            exact ⟨_, a, b, c, id, jd, i, zs, y, hl, ha, k1, k2, k3, h1, h2, hne, hd.1.1, hd.1.2, hd.2, e⟩
        · cases e
      · cases e
    · cases e
  · cases e
theorem aIns_t [Tabs] {s : AS} {g : Nat} {args : List Operand} {R : Type} {k : AVal → AS → Option R} {r : R} (e : aIns E s g args k = some r) : ∃ v s', k v s' = some r ∧ s.t < s'.t := by
  obtain ⟨t, a, b, c, id, jd, i, xs, y, h1, h2, h3, h4, h5, h6, h7, h8, h9, h10, h11, hk⟩ := aIns_spec e
  exact ⟨_, _, hk, by show s.t < s.t + 1 + 1; omega⟩
theorem aIns_sound [Tabs] (hI : ∀ p ∈ E.ins, InsOk P p.1 p.2 ∧ FnOk P p.1) (hB0 : B ≤ w0.heap.size) {s : AS} {a : Act} (R : Rel w0 B M0 S m s a w) {o : Oper} {c : Call} (ho : o.op = .call c) {f : Operand} (hc : c.callee = .value f) {g : FuncId} (hf : s.ev f = .one (.cl g []))
    {R' : Type} {k : AVal → AS → Option R'} {r : R'} (e : aIns E s g c.args.toList k = some r)
    {next : Act → World → Prop} {Q : Exit → Act → World → Prop} (K : ∀ v s' v' w' S' m', k v s' = some r → Moved w0 B M0 S m s a w v s' v' w' S' m' → next (a.put o.dst v') w') : o.wp P a w next Q := by
  obtain ⟨t, p1, p2, p3, id, jd, i, xs, y, hl, hargs, h3, h4, h5, h6, h7, hne, h9, h10, h11, hk⟩ := aIns_spec e
  obtain ⟨hins, hfn⟩ := hI _ (look_mem hl)
  have hB : B ≤ w.heap.size := Nat.le_trans hB0 R.frm.size
  have r1 := R.ev p1
  have r2 := R.ev p2
  have r3 := R.ev p3
  rw [h3] at r1
  rw [h4] at r2
  rw [h5] at r3
  obtain ⟨_, oc, hm, hv⟩ := r1
  obtain ⟨_, od, hmd, hvd⟩ := r3
  have hiv := (inv_int (h := s.h.get) (S := S) (w := w) (m := m) r2).1
  obtain ⟨c1, hc1, _, hrel⟩ := R.mem.obj id _ h6
  obtain rfl : c1 = oc := Option.some.inj (hc1.symm.trans hm)
  obtain ⟨d1, hd1, _, hreld⟩ := R.mem.obj jd _ h7
  obtain rfl : d1 = od := Option.some.inj (hd1.symm.trans hmd)
  have hdis := R.mem.dis id jd c1 d1 hne (heap_ne h6) (heap_ne h7) hm hmd
  have hi2 : i = ((i.toNat : Nat) : Int) := by omega
  have hcall := hins w c1.v d1.v xs y c1.F d1.F i.toNat hrel hreld hdis (by omega) h11
  have hargs0 : VRel s.h.get S w m (s.ev f) (a.eval f) := R.ev f
  rw [hf] at hargs0
  obtain ⟨ccs, hval, hcaps⟩ := hargs0
  have hnil : ccs.toList = [] := hcaps
  have hrun := run_call_fn (ty := o.type) (ρ := a.eval) hfn hc hval w
  unfold Oper.wp
  have hex : (execOp a.eval o).run P w = .ok (.enter g (c.args.map a.eval ++ ccs)) w := by
    rw [← hrun]
    obtain ⟨odst, op, oty, opos, oafter, oguard⟩ := o
    simp only at ho
    subst ho
    rfl
  rw [hex, Oper.upon_enter]
  have hm2 : (#[c1.v, .int .i64 ((i.toNat : Nat) : Int), d1.v] : Array Value) = c.args.map a.eval ++ ccs := by
    have e1 : (c.args.map a.eval ++ ccs).toList = [c1.v, .int .i64 ((i.toNat : Nat) : Int), d1.v] := by
      rw [Array.toList_append, Array.toList_map, hargs, hnil]
      simp only [List.map_cons, List.map_nil, List.append_nil, hv, hvd, hiv, ← hi2]
    rw [← Array.toArray_toList (xs := c.args.map a.eval ++ ccs), e1]
  rw [hm2] at hcall
  refine Calls.mono hcall fun ending w' hkk => ?_
  obtain ⟨v', F', rfl, g1, g2, g3, g4, g5, g6, g7, g8⟩ := hkk
  have g7' : ArrRel S w' true t v' (insV xs i y) F' := g7
  have R1 := R.kill jd
  have orph : Orphan (s.kill jd).h.get S w m B M0 d1.F := by
    have o1 := Orphan.moved R.mem (cs := [.os jd]) (fun id hid => by
      simp only [osIn, List.mem_singleton] at hid
      subst hid
      exact heap_ne h7)
    exact o1.less (fun q hq => ⟨jd, by simp [osIn], d1, hmd, hq⟩) (fun _ h => h)
  have ho2 : (s.kill jd).h.get id = some (.arr true t xs) := killL_arr [jd] s id (by simpa using hne) h6
  obtain ⟨m', R3, hst, hm4⟩ := R1.rebornX hB ho2 hm g1 g2 g3 g4 g5 g6 g7' orph g8
  exact K _ _ v' w' S m' hk ⟨⟨⟨true, t, insV xs i y, by simp [AHeap.get]⟩, _, hm4, rfl⟩, R3, ⟨fun q hq => hq, g1, fun q hq => hst q hq, fun q hq => .inl hq⟩, by show s.t ≤ s.t + 1 + 1; omega, fun et => by have : s.t + 1 + 1 = s.t := et; omega⟩
end
end Go.Ab
namespace Go.Ab
open Go Go.RowKit
def DelOk [Tabs] (P : Program) (f : FuncId) (D : DelFn) : Prop :=
  (D.out = none → ∀ (w : World) (v : Value) (xs : List D.t.den) (F : Blk), ArrRel (fun _ => False) w true D.t v xs F → xs.length ≤ 999999 →
    Calls P f #[v, .func (.func D.g) #[] #[]] w fun e w' => ∃ v' F', e = .returned v' ∧ w.heap.size ≤ w'.heap.size ∧ (∀ q, q < w.heap.size → ¬ F q → w'.heap[q]? = w.heap[q]?) ∧ w'.os = w.os ∧ w'.tape = w.tape ∧ w'.output = w.output ∧ (∀ a : Addr, a.block < w.heap.size → w'.frozen? a = w.frozen? a) ∧
      ArrRel (fun _ => False) w' true D.t v' (xs.filter D.keep) F' ∧ ∀ q, F' q → F q ∨ (w.heap.size ≤ q ∧ q < w'.heap.size)) ∧
  ∀ G, D.out = some G → ∀ (w : World) (v : Value) (xs ys : List D.t.den) (b : Bool) (F : Blk), TabOk w w.heap.size F → ArrRel (fun _ => False) w true D.t v xs F → (∀ q, F q → q < w.heap.size) → G xs = some (ys, b) →
    Calls P f #[v] w fun e w' => ∃ v' F', e = .returned (.tuple #[v', .bool b]) ∧ w.heap.size ≤ w'.heap.size ∧ (∀ q, q < w.heap.size → ¬ F q → w'.heap[q]? = w.heap[q]?) ∧ w'.os = w.os ∧ w'.tape = w.tape ∧ w'.output = w.output ∧ (∀ a : Addr, a.block < w.heap.size → w'.frozen? a = w.frozen? a) ∧
      ArrRel (fun _ => False) w' true D.t v' ys F' ∧ ∀ q, F' q → F q ∨ (w.heap.size ≤ q ∧ q < w'.heap.size)
def SelOk [Tabs] (P : Program) (f : FuncId) (D : SelFn) : Prop :=
  Sound P f D.C ∧ ∀ (w : World) (v : Value) (us : List Value) (x : dens (PK.tys D.C.ps)) (S : Blk), TabOk w w.heap.size (fun _ => False) → (∀ q, S q → q < w.heap.size) → ArgsRel S w D.C.ps (v :: us) x (fun _ => False) → D.same x = some true →
    Calls P f (v :: us).toArray w fun e w' => e = .returned v ∧ Grow w w'
def Libs [Tabs] (P : Program) (l : List (Nat × Ty)) (d : List (Nat × DelFn)) (z : List (Nat × SelFn)) (q : List (Nat × Ty)) (kc : List (Nat × KFn)) : Prop := (∀ p ∈ l, InsOk P p.1 p.2 ∧ FnOk P p.1) ∧ (∀ p ∈ d, DelOk P p.1 p.2 ∧ FnOk P p.1) ∧ (∀ p ∈ z, SelOk P p.1 p.2 ∧ FnOk P p.1) ∧ (∀ p ∈ q, eqOk P p.1 p.2 = true) ∧ ∀ p ∈ kc, KOk P p.1 p.2 ∧ FnOk P p.1
section
variable {P : Program} {E : Env} {S : Blk} {w w0 : World} {m : OMap} {B : Nat} {M0 : Blk}
theorem map_pair2 {α β : Type} {f : α → β} {l : List α} {x y : β} (h : l.map f = [x, y]) : ∃ a b, l = [a, b] ∧ f a = x ∧ f b = y := by
  cases l with
  | nil => cases h
  | cons a l => cases l with
    | nil => cases h
    | cons b l => cases l with
      | nil => simp at h; exact ⟨a, b, rfl, h.1, h.2⟩
      | cons _ _ => simp at h
theorem aDel_spec [Tabs] {s : AS} {g : Nat} {args : List Operand} {R : Type} {k : AVal → AS → Option R} {r : R} (e : aDel E s g args k = some r) :
    ∃ (D : DelFn) (a b : Operand) (id : Nat) (xs : List D.t.den), look E.del g = some D ∧ args = [a, b] ∧ s.ev a = .one (.os id) ∧ s.ev b = .one (.cl D.g []) ∧ s.h.get id = some (.arr true D.t xs) ∧ xs.length ≤ 999999 ∧ D.out = none ∧
      k (.one (.os id)) { s.kill id with h := (id, .arr true D.t (xs.filter D.keep)) :: (s.kill id).h } = some r := by
  unfold aDel at e
  split at e
  · rename_i D id gg hl hm
    split at e
    · rename_i e1 zs h1
      cases hb : ((!(Nat.beq gg D.g) || (Nat.ble 100000 id && Nat.ble id 199999)) || D.out.isSome) with
      | true => rw [hb] at e; cases e
      | false =>
      rw [hb] at e
      simp only [cond_false] at e
      split at e
      · rename_i xs c1
        cases hd : decide (List.length (α := D.t.den) xs ≤ 999999) with
        | false => rw [hd] at e; cases e
        | true =>
          rw [hd] at e
          simp only [cond_true] at e
          obtain ⟨t1, x1⟩ := cast?_some c1
          have e1' : e1 = D.t := by cases t1; rfl
          simp only [Bool.or_eq_false_iff, Bool.not_eq_false'] at hb
          have hg : gg = D.g := Nat.eq_of_beq_eq_true hb.1.1
          have ho : D.out = none := by cases h : D.out with | none => rfl | some _ => rw [h] at hb; cases hb.2
          obtain ⟨t, dg, keep, out⟩ := D
          simp only at e1' hg
          subst e1'
          subst hg
          cases x1
          obtain ⟨a, b, ha, k1, k2⟩ := map_pair2 hm
          exact ⟨_, a, b, id, zs, hl, ha, k1, k2, h1, of_decide_eq_true hd, ho, e⟩
      · cases e
    · cases e
  · cases e
theorem aDel_t [Tabs] {s : AS} {g : Nat} {args : List Operand} {R : Type} {k : AVal → AS → Option R} {r : R} (e : aDel E s g args k = some r) : ∃ v s', k v s' = some r ∧ s.t < s'.t := by
  obtain ⟨D, a, b, id, xs, h1, h2, h3, h4, h5, h6, _, hk⟩ := aDel_spec e
  exact ⟨_, _, hk, by show s.t < s.t + 1; omega⟩
theorem aDel_sound [Tabs] (hI : ∀ p ∈ E.del, DelOk P p.1 p.2 ∧ FnOk P p.1) (hB0 : B ≤ w0.heap.size) {s : AS} {a : Act} (R : Rel w0 B M0 S m s a w) {o : Oper} {c : Call} (ho : o.op = .call c) {f : Operand} (hc : c.callee = .value f) {g : FuncId} (hf : s.ev f = .one (.cl g []))
    {R' : Type} {k : AVal → AS → Option R'} {r : R'} (e : aDel E s g c.args.toList k = some r)
    {next : Act → World → Prop} {Q : Exit → Act → World → Prop} (K : ∀ v s' v' w' S' m', k v s' = some r → Moved w0 B M0 S m s a w v s' v' w' S' m' → next (a.put o.dst v') w') : o.wp P a w next Q := by
  obtain ⟨D, p1, p2, id, xs, hl, hargs, h3, h4, h6, h11, hout, hk⟩ := aDel_spec e
  obtain ⟨hdel, hfn⟩ := hI _ (look_mem hl)
  have hB : B ≤ w.heap.size := Nat.le_trans hB0 R.frm.size
  have r1 := R.ev p1
  have r2 := R.ev p2
  rw [h3] at r1
  rw [h4] at r2
  obtain ⟨_, oc, hm, hv⟩ := r1
  obtain ⟨cc2, hv2, hcaps2⟩ := r2
  have hnil2 : cc2.toList = [] := hcaps2
  have hcc2 : cc2 = #[] := by rw [← Array.toArray_toList (xs := cc2), hnil2]
  rw [hcc2] at hv2
  obtain ⟨c1, hc1, _, hrel⟩ := R.mem.obj id _ h6
  obtain rfl : c1 = oc := Option.some.inj (hc1.symm.trans hm)
  have hcall := hdel.1 hout w c1.v xs c1.F hrel h11
  have hargs0 : VRel s.h.get S w m (s.ev f) (a.eval f) := R.ev f
  rw [hf] at hargs0
  obtain ⟨ccs, hval, hcaps⟩ := hargs0
  have hnil : ccs.toList = [] := hcaps
  have hrun := run_call_fn (ty := o.type) (ρ := a.eval) hfn hc hval w
  unfold Oper.wp
  have hex : (execOp a.eval o).run P w = .ok (.enter g (c.args.map a.eval ++ ccs)) w := by
    rw [← hrun]
    obtain ⟨odst, op, oty, opos, oafter, oguard⟩ := o
    simp only at ho
    subst ho
    rfl
  rw [hex, Oper.upon_enter]
  have hm2 : (#[c1.v, .func (.func D.g) #[] #[]] : Array Value) = c.args.map a.eval ++ ccs := by
    have e1 : (c.args.map a.eval ++ ccs).toList = [c1.v, .func (.func D.g) #[] #[]] := by
      rw [Array.toList_append, Array.toList_map, hargs, hnil]
      simp only [List.map_cons, List.map_nil, List.append_nil, hv, hv2]
    rw [← Array.toArray_toList (xs := c.args.map a.eval ++ ccs), e1]
  rw [hm2] at hcall
  refine Calls.mono hcall fun ending w' hkk => ?_
  obtain ⟨v', F', rfl, g1, g2, g3, g4, g5, g6, g7, g8⟩ := hkk
  have g7' : ArrRel S w' true D.t v' (xs.filter D.keep) F' := g7
  obtain ⟨m', R3, hst, hm4⟩ := R.reborn hB h6 hm g1 g2 g3 g4 g5 g6 g7' g8
  exact K _ _ v' w' S m' hk ⟨⟨⟨true, D.t, xs.filter D.keep, by simp [AHeap.get]⟩, _, hm4, rfl⟩, R3, ⟨fun q hq => hq, g1, fun q hq => hst q hq, fun q hq => .inl hq⟩, by show s.t ≤ s.t + 1; omega, fun et => by have : s.t + 1 = s.t := et; omega⟩
theorem aMv_spec [Tabs] {s : AS} {g : Nat} {args : List Operand} {R : Type} {k : AVal → AS → Option R} {r : R} (e : aMv E s g args k = some r) :
    ∃ (D : DelFn) (G : List D.t.den → Option (List D.t.den × Bool)) (a : Operand) (id : Nat) (xs ys : List D.t.den) (b : Bool), look E.del g = some D ∧ D.out = some G ∧ args = [a] ∧ s.ev a = .one (.os id) ∧ s.h.get id = some (.arr true D.t xs) ∧ G xs = some (ys, b) ∧
      k (.tu [(false, [.os id]), (false, [.pv .bool b])]) { s.kill id with h := (id, .arr true D.t ys) :: (s.kill id).h } = some r := by
  unfold aMv at e
  split at e
  · rename_i D id hl hm
    split at e
    · rename_i F e1 zs ho h1
      cases hb : (Nat.ble 100000 id && Nat.ble id 199999) with
      | true => rw [hb] at e; cases e
      | false =>
      rw [hb] at e
      simp only [cond_false] at e
      split at e
      · rename_i xs c1
        simp only [Option.bind_eq_some_iff] at e
        obtain ⟨⟨ys, b⟩, hF, e⟩ := e
        obtain ⟨t1, x1⟩ := cast?_some c1
        have e1' : e1 = D.t := by cases t1; rfl
        obtain ⟨t, dg, keep, out⟩ := D
        simp only at e1'
        subst e1'
        cases x1
        have : ∃ a, args = [a] ∧ s.ev a = .one (.os id) := by
          cases args with
          | nil => cases hm
          | cons a l => cases l with
            | nil => simp at hm; exact ⟨a, rfl, hm⟩
            | cons _ _ => simp at hm
        obtain ⟨a, ha, k1⟩ := this
        exact ⟨_, F, a, id, zs, ys, b, hl, ho, ha, k1, h1, hF, e⟩
      · cases e
    · cases e
  · cases e
theorem aMv_t [Tabs] {s : AS} {g : Nat} {args : List Operand} {R : Type} {k : AVal → AS → Option R} {r : R} (e : aMv E s g args k = some r) : ∃ v s', k v s' = some r ∧ s.t < s'.t := by
  obtain ⟨D, G, a, id, xs, ys, b, h1, h2, h3, h4, h5, h6, hk⟩ := aMv_spec e
  exact ⟨_, _, hk, by show s.t < s.t + 1; omega⟩
theorem aMv_sound [Tabs] (hI : ∀ p ∈ E.del, DelOk P p.1 p.2 ∧ FnOk P p.1) (hB0 : B ≤ w0.heap.size) {s : AS} {a : Act} (R : Rel w0 B M0 S m s a w) {o : Oper} {c : Call} (ho : o.op = .call c) {f : Operand} (hc : c.callee = .value f) {g : FuncId} (hf : s.ev f = .one (.cl g []))
    {R' : Type} {k : AVal → AS → Option R'} {r : R'} (e : aMv E s g c.args.toList k = some r)
    {next : Act → World → Prop} {Q : Exit → Act → World → Prop} (K : ∀ v s' v' w' S' m', k v s' = some r → Moved w0 B M0 S m s a w v s' v' w' S' m' → next (a.put o.dst v') w') : o.wp P a w next Q := by
  obtain ⟨D, G, p1, id, xs, ys, b, hl, hG, hargs, h3, h6, hF, hk⟩ := aMv_spec e
  obtain ⟨hdel, hfn⟩ := hI _ (look_mem hl)
  have hB : B ≤ w.heap.size := Nat.le_trans hB0 R.frm.size
  have r1 := R.ev p1
  rw [h3] at r1
  obtain ⟨_, oc, hm, hv⟩ := r1
  obtain ⟨c1, hc1, _, hrel⟩ := R.mem.obj id _ h6
  obtain rfl : c1 = oc := Option.some.inj (hc1.symm.trans hm)
  have hcall := hdel.2 G hG w c1.v xs ys b c1.F (R.frm.tabs hB fun q hq => (R.mem.apart id c1 (heap_ne h6) hm q hq).2.2) hrel (fun q hq => (R.mem.apart id c1 (heap_ne h6) hm q hq).2.1) hF
  have hargs0 : VRel s.h.get S w m (s.ev f) (a.eval f) := R.ev f
  rw [hf] at hargs0
  obtain ⟨ccs, hval, hcaps⟩ := hargs0
  have hnil : ccs.toList = [] := hcaps
  have hrun := run_call_fn (ty := o.type) (ρ := a.eval) hfn hc hval w
  unfold Oper.wp
  have hex : (execOp a.eval o).run P w = .ok (.enter g (c.args.map a.eval ++ ccs)) w := by
    rw [← hrun]
    obtain ⟨odst, op, oty, opos, oafter, oguard⟩ := o
    simp only at ho
    subst ho
    rfl
  rw [hex, Oper.upon_enter]
  have hm2 : (#[c1.v] : Array Value) = c.args.map a.eval ++ ccs := by
    have e1 : (c.args.map a.eval ++ ccs).toList = [c1.v] := by
      rw [Array.toList_append, Array.toList_map, hargs, hnil]
      simp only [List.map_cons, List.map_nil, List.append_nil, hv]
    rw [← Array.toArray_toList (xs := c.args.map a.eval ++ ccs), e1]
  rw [hm2] at hcall
  refine Calls.mono hcall fun ending w' hkk => ?_
  obtain ⟨v', F', rfl, g1, g2, g3, g4, g5, g6, g7, g8⟩ := hkk
  have g7' : ArrRel S w' true D.t v' ys F' := g7
  obtain ⟨m', R3, hst, hm4⟩ := R.reborn hB h6 hm g1 g2 g3 g4 g5 g6 g7' g8
  refine K _ _ _ w' S m' hk ⟨⟨#[v', .bool b], rfl, rfl, fun i p u hp hu => ?_⟩, R3, ⟨fun q hq => hq, g1, fun q hq => hst q hq, fun q hq => .inl hq⟩, by show s.t ≤ s.t + 1; omega, fun et => by have : s.t + 1 = s.t := et; omega⟩
  match i, hp, hu with
  | 0, hp, hu =>
    simp at hp hu
    subst hp; subst hu
    exact ⟨_, rfl, ⟨true, D.t, ys, by simp [AHeap.get]⟩, _, hm4, rfl⟩
  | 1, hp, hu =>
    simp at hp hu
    subst hp; subst hu
    exact ⟨_, rfl, rfl, rfl⟩
theorem aSel_sound [Tabs] {D : SelFn} {g : FuncId} (hD : SelOk P g D ∧ FnOk P g) (hB0 : B ≤ w0.heap.size) {s : AS} {a : Act} (R : Rel w0 B M0 S m s a w) {o : Oper} {c : Call} (ho : o.op = .call c) {f : Operand} (hc : c.callee = .value f) (hf : s.ev f = .one (.cl g []))
    {R' : Type} {k : AVal → AS → Option R'} {r : R'} (e : aSel s (o.dst.getD 0) D c.args.toList k = some r)
    {next : Act → World → Prop} {Q : Exit → Act → World → Prop} (K : ∀ v s' v' w' S' m', k v s' = some r → Moved w0 B M0 S m s a w v s' v' w' S' m' → next (a.put o.dst v') w') : o.wp P a w next Q := by
  have hB : B ≤ w.heap.size := Nat.le_trans hB0 R.frm.size
  unfold aSel at e
  split at e
  rotate_left
  · cases e
  rename_i a0 rest hargs
  split at e
  rotate_left
  · cases e
  rename_i cc hcc
  cases hv : allVal D.C.ps with
  | false => rw [hv] at e; cases e
  | true =>
  rw [hv] at e
  simp only [cond_true, Option.bind_eq_some_iff] at e
  obtain ⟨x, hx, b, hb, e⟩ := e
  cases b with
  | false =>
    simp only [cond_false] at e
    exact aCall_sound (E := { T := [], G := [(g, D.C)], ro := [], loops := [], joins := [] }) (fun p hp => by
      rcases List.mem_singleton.1 hp with rfl
      exact ⟨hD.1.1, hD.2⟩) hB0 (s0 := { s with t := s.t + 1 }) ⟨R.mem, R.frm, R.tmps, R.size, R.defers⟩ ho hc hf (List.mem_singleton.2 rfl) hv e fun v s' v' w' S' m' hk M => K v s' v' w' S' m' hk ⟨M.val, M.rel, M.ext, by have : s.t + 1 ≤ s'.t := M.t; omega, fun et => by have : s.t + 1 ≤ s'.t := M.t; omega⟩
  | true =>
    have hargs0 : VRel s.h.get S w m (s.ev f) (a.eval f) := R.ev f
    rw [hf] at hargs0
    obtain ⟨ccs, hval, hcaps⟩ := hargs0
    have hnil : ccs.toList = [] := hcaps
    have rel : ∀ (i : Nat) (p : AVal) (u : Value), (callVals s.ev c.args.toList [])[i]? = some p → (c.args.toList.map a.eval ++ ([] : List Value))[i]? = some u → VRel s.h.get S w m p u := callVals_rel (fun q _ => R.ev q) rfl
    have hA := args_val R.mem hv (fun id o h1 _ => h1) hx (callVals_len (S := S) (w := w) (caps := []) (vs := []) rfl) rel
    rw [hargs, List.append_nil, List.map_cons] at hA
    have hcall := hD.1.2 w (a.eval a0) (rest.map a.eval) x _ (R.frm.tabs hB fun _ h => h.elim) (fun q hq => by
      rcases hq with hq | ⟨id, _, hn, c, hc, hF⟩
      · exact R.mem.lt q hq
      · exact (R.mem.apart id c hn hc q hF).2.1) hA hb
    have hrun := run_call_fn (ty := o.type) (ρ := a.eval) hD.2 hc hval w
    unfold Oper.wp
    have hex : (execOp a.eval o).run P w = .ok (.enter g (c.args.map a.eval ++ ccs)) w := by
      rw [← hrun]
      obtain ⟨odst, op, oty, opos, oafter, oguard⟩ := o
      simp only at ho
      subst ho
      rfl
    rw [hex, Oper.upon_enter]
    have hm2 : (a.eval a0 :: rest.map a.eval).toArray = c.args.map a.eval ++ ccs := by
      have e1 : (c.args.map a.eval ++ ccs).toList = a.eval a0 :: rest.map a.eval := by
        rw [Array.toList_append, Array.toList_map, hargs, hnil, List.append_nil, List.map_cons]
      rw [← Array.toArray_toList (xs := c.args.map a.eval ++ ccs), e1]
    rw [hm2] at hcall
    refine Calls.mono hcall fun ending w' hkk => ?_
    obtain ⟨rfl, hg⟩ := hkk
    have G := Mem.grow (m' := m) (S' := S) R.mem hg hB [] (fun id hid => by simp [AHeap.get] at hid) (fun _ _ => rfl) (fun _ h => h) (fun _ h => .inl h) (fun id o e => by cases e) (fun i j a b _ hi => by simp [AHeap.get] at hi)
    have rv := R.ev a0
    rw [hcc] at rv
    have q : QPost s.h.get S w m B M0 0 (.one cc) [] (a.eval a0) w' S m := ⟨hg, G.1, G.2, fun _ h => .inl h, rv.wider G.2 R.mem, fun id hid => by simp [AHeap.get] at hid⟩
    have M := q.moved R hB (s.t + 1)
    simp only [cond_true] at e
    exact K _ _ (a.eval a0) w' S m e ⟨M.1, M.2.1, M.2.2.ext (q.fresh_blocks hB), Nat.le_succ _, fun et => by have : s.t + 1 = s.t := et; omega⟩
theorem aSel_t [Tabs] {s : AS} {d : Nat} {D : SelFn} {args : List Operand} {R : Type} {k : AVal → AS → Option R} {r : R} (e : aSel s d D args k = some r) : (∃ v s', k v s' = some r ∧ s.t < s'.t) ∨ (allVal D.C.ps = true ∧ aCall { s with t := s.t + 1 } d D.C args [] k = some r) := by
  unfold aSel at e
  split at e
  · split at e
    · cases hv : allVal D.C.ps with
      | false => rw [hv] at e; cases e
      | true =>
        rw [hv] at e
        simp only [cond_true, Option.bind_eq_some_iff] at e
        obtain ⟨x, _, b, _, e⟩ := e
        cases b with
        | true => exact .inl ⟨_, _, e, Nat.lt_succ_self _⟩
        | false => exact .inr ⟨rfl, e⟩
    · cases e
  · cases e
end
end Go.Ab
