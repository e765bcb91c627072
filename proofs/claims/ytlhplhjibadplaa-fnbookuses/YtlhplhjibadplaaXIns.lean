/-
  One element is inserted into an own slice of plain data: calls of slices.Insert.
-/
import Derived.Test.YtlhplhjibadplaaXBox
namespace Go.Ab
open Go Go.RowKit

/-- what is asked of a function that inserts -/
def InsOk (P : Program) (f : FuncId) (t : Ty) : Prop :=
  ∀ (w : World) (v x : Value) (xs : List t.den) (y : t.den) (F G : Blk) (i : Nat), ArrRel (fun _ => False) w true t v xs F → ArrRel (fun _ => False) w true t x [y] G → (∀ q, F q → G q → False) → i ≤ xs.length → xs.length ≤ 999999 →
    Calls P f #[v, .int .i64 (i : Int), x] w fun e w' => ∃ v' F', e = .returned v' ∧ w.heap.size ≤ w'.heap.size ∧ (∀ q, q < w.heap.size → ¬ F q → w'.heap[q]? = w.heap[q]?) ∧ w'.os = w.os ∧ w'.tape = w.tape ∧ w'.output = w.output ∧ (∀ a, w'.frozen? a = w.frozen? a) ∧
      ArrRel (fun _ => False) w' true t v' (xs.take i ++ y :: xs.drop i) F' ∧ ∀ q, F' q → F q ∨ G q ∨ (w.heap.size ≤ q ∧ q < w'.heap.size)

section
variable {P : Program} {E : Env} {S : Blk} {w w0 : World} {m : OMap} {B : Nat} {M0 : Blk}

theorem map_three {α β : Type} {f : α → β} {l : List α} {x y z : β} (h : l.map f = [x, y, z]) : ∃ a b c, l = [a, b, c] ∧ f a = x ∧ f b = y ∧ f c = z := by
  cases l with
  | nil => cases h
  | cons a l => cases l with
    | nil => cases h
    | cons b l => cases l with
      | nil => cases h
      | cons c l => cases l with
        | nil => simp at h; exact ⟨a, b, c, rfl, h.1, h.2.1, h.2.2⟩
        | cons _ _ => simp at h
theorem aIns_spec [Tabs] {s : AS} {g : Nat} {args : List Operand} {R : Type} {k : AVal → AS → Option R} {r : R} (e : aIns E s g args k = some r) :
    ∃ (t : Ty) (a b c : Operand) (id jd : Nat) (i : Int) (xs : List t.den) (y : t.den), look E.ins g = some t ∧ args = [a, b, c] ∧ s.ev a = .one (.os id) ∧ s.ev b = .one (.pv (.int .i64) i) ∧ s.ev c = .one (.os jd) ∧ s.h.get id = some (.arr true t xs) ∧ s.h.get jd = some (.arr true t [y]) ∧ id ≠ jd ∧ (0 : Int) ≤ i ∧ i ≤ (xs.length : Int) ∧ xs.length ≤ 999999 ∧
      k (.one (.os id)) { (s.kill jd).kill id with h := (id, .arr true t (insV xs i y)) :: ((s.kill jd).kill id).h } = some r := by
  unfold aIns at e
  split at e
  · rename_i t id i jd hl hm
    split at e
    · rename_i e1 zs e2 us h1 h2
      cases hb : (Nat.beq id jd || (Nat.ble 100000 id && Nat.ble id 199999)) with
      | true => rw [hb] at e; cases e
      | false =>
      rw [hb] at e
      simp only [cond_false] at e
      split at e
      · rename_i xs ys c1 c2
        split at e
        · rename_i y
          cases hd : (decide (0 ≤ i) && decide (i ≤ (xs.length : Int)) && decide (xs.length ≤ 999999)) with
          | false => rw [hd] at e; cases e
          | true =>
            rw [hd] at e
            simp only [cond_true] at e
            simp only [Bool.and_eq_true, decide_eq_true_eq] at hd
            obtain ⟨t1, x1⟩ := cast?_some c1
            obtain ⟨t2, x2⟩ := cast?_some c2
            have e1' : e1 = t := by cases t1; rfl
            have e2' : e2 = t := by cases t2; rfl
            subst e1'
            subst e2'
            cases x1
            cases x2
            have hne : id ≠ jd := fun h => by subst h; simp at hb
            obtain ⟨a, b, c, ha, k1, k2, k3⟩ := map_three hm
            exact ⟨_, a, b, c, id, jd, i, zs, y, hl, ha, k1, k2, k3, h1, h2, hne, hd.1.1, hd.1.2, hd.2, e⟩
        · cases e
      · cases e
    · cases e
  · cases e

theorem aIns_t [Tabs] {s : AS} {g : Nat} {args : List Operand} {R : Type} {k : AVal → AS → Option R} {r : R} (e : aIns E s g args k = some r) : ∃ v s', k v s' = some r ∧ s.t < s'.t := by
  obtain ⟨t, a, b, c, id, jd, i, xs, y, h1, h2, h3, h4, h5, h6, h7, h8, h9, h10, h11, hk⟩ := aIns_spec e
  exact ⟨_, _, hk, by show s.t < s.t + 1 + 1; omega⟩

theorem aIns_sound [Tabs] (hI : ∀ p ∈ E.ins, InsOk P p.1 p.2 ∧ FnOk P p.1) (hB0 : B ≤ w0.heap.size) {s : AS} {a : Act} (R : Rel w0 B M0 S m s a w) {o : Oper} {c : Call} (ho : o.op = .call c) {f : Operand} (hc : c.callee = .value f) {g : FuncId} (hf : s.ev f = .one (.cl g []))
    {R' : Type} {k : AVal → AS → Option R'} {r : R'} (e : aIns E s g c.args.toList k = some r)
    {next : Act → World → Prop} {Q : Exit → Act → World → Prop} (K : ∀ v s' v' w' S' m', k v s' = some r → Moved w0 B M0 S m s a w v s' v' w' S' m' → next (a.put o.dst v') w') : o.wp P a w next Q := by
  obtain ⟨t, p1, p2, p3, id, jd, i, xs, y, hl, hargs, h3, h4, h5, h6, h7, hne, h9, h10, h11, hk⟩ := aIns_spec e
  obtain ⟨hins, hfn⟩ := hI _ (look_mem hl)
  have hB : B ≤ w.heap.size := Nat.le_trans hB0 R.frm.size
  have r1 := R.ev p1
  have r2 := R.ev p2
  have r3 := R.ev p3
  rw [h3] at r1
  rw [h4] at r2
  rw [h5] at r3
  obtain ⟨_, oc, hm, hv⟩ := r1
  obtain ⟨_, od, hmd, hvd⟩ := r3
  have hiv := (inv_int (h := s.h.get) (S := S) (w := w) (m := m) r2).1
  obtain ⟨c1, hc1, _, hrel⟩ := R.mem.obj id _ h6
  obtain rfl : c1 = oc := Option.some.inj (hc1.symm.trans hm)
  obtain ⟨d1, hd1, _, hreld⟩ := R.mem.obj jd _ h7
  obtain rfl : d1 = od := Option.some.inj (hd1.symm.trans hmd)
  have hdis := R.mem.dis id jd c1 d1 hne (heap_ne h6) (heap_ne h7) hm hmd
  have hi2 : i = ((i.toNat : Nat) : Int) := by omega
  have hcall := hins w c1.v d1.v xs y c1.F d1.F i.toNat hrel hreld hdis (by omega) h11
  have hargs0 : VRel s.h.get S w m (s.ev f) (a.eval f) := R.ev f
  rw [hf] at hargs0
  obtain ⟨ccs, hval, hcaps⟩ := hargs0
  have hnil : ccs.toList = [] := hcaps
  have hrun := run_call_fn (ty := o.type) (ρ := a.eval) hfn hc hval w
  unfold Oper.wp
  have hex : (execOp a.eval o).run P w = .ok (.enter g (c.args.map a.eval ++ ccs)) w := by
    rw [← hrun]
    obtain ⟨odst, op, oty, opos, oafter, oguard⟩ := o
    simp only at ho
    subst ho
    rfl
  rw [hex, Oper.upon_enter]
  have hm2 : (#[c1.v, .int .i64 ((i.toNat : Nat) : Int), d1.v] : Array Value) = c.args.map a.eval ++ ccs := by
    have e1 : (c.args.map a.eval ++ ccs).toList = [c1.v, .int .i64 ((i.toNat : Nat) : Int), d1.v] := by
      rw [Array.toList_append, Array.toList_map, hargs, hnil]
      simp only [List.map_cons, List.map_nil, List.append_nil, hv, hvd, hiv, ← hi2]
    rw [← Array.toArray_toList (xs := c.args.map a.eval ++ ccs), e1]
  rw [hm2] at hcall
  refine Calls.mono hcall fun ending w' hkk => ?_
  obtain ⟨v', F', rfl, g1, g2, g3, g4, g5, g6, g7, g8⟩ := hkk
  have g7' : ArrRel S w' true t v' (insV xs i y) F' := g7
  have R1 := R.kill jd
  have orph : Orphan (s.kill jd).h.get S w m B M0 d1.F := by
    have o1 := Orphan.moved R.mem (cs := [.os jd]) (fun id hid => by
      simp only [osIn, List.mem_singleton] at hid
      subst hid
      exact heap_ne h7)
    exact o1.less (fun q hq => ⟨jd, by simp [osIn], d1, hmd, hq⟩) (fun _ h => h)
  have ho2 : (s.kill jd).h.get id = some (.arr true t xs) := killL_arr [jd] s id (by simpa using hne) h6
  obtain ⟨m', R3, hst, hm4⟩ := R1.rebornX hB ho2 hm g1 g2 g3 g4 g5 (fun a _ => g6 a) g7' orph g8
  exact K _ _ v' w' S m' hk ⟨⟨⟨true, t, insV xs i y, by simp [AHeap.get]⟩, _, hm4, rfl⟩, R3, ⟨fun q hq => hq, g1, fun q hq => hst q hq, fun q hq => .inl hq⟩, by show s.t ≤ s.t + 1 + 1; omega, fun et => by have : s.t + 1 + 1 = s.t := et; omega⟩
end
end Go.Ab
