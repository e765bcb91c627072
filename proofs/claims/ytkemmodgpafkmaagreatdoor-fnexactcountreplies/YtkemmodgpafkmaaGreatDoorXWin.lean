/-
  Windows of own slices: a slice is cut short; what lies between two windows is taken out.
-/
import Derived.Test.YtkemmodgpafkmaaGreatDoorXDel
namespace Go.Ab
open Go Go.RowKit
section
variable {P : Program} {E : Env} {h : HGet} {S : Blk} {w w0 : World} {m : OMap} {B : Nat} {M0 : Blk}
theorem ArrRel.front [Tabs] {D : Bool} {t : Ty} {xs : List t.den} {F : Blk} {g cap : Nat} {cur : Array Value} {te : TypeId} {Fs : Nat → Blk} {n : Nat} (hn : n ≤ xs.length)
    (k2 : w.heap[g]? = some (.cells cur te (0, 0))) (k3 : cur.size = cap * t.size) (k4 : xs.length ≤ cap) (k5 : cap ≤ maxLen) (k6 : ∀ i x, xs[i]? = some x → El S w D t ((cur.toList.drop (i * t.size)).take t.size) x (Fs i))
    (k7 : ∀ i j b, i < xs.length → j < xs.length → Fs i b → Fs j b → i = j) (k8 : ∀ i, i < xs.length → ¬ Fs i g) (k9 : ∀ b, F b ↔ b = g ∨ ∃ i, i < xs.length ∧ Fs i b) :
    ArrRel S w D t (.slice (some ⟨g, 0, none⟩) n cap) (xs.take n) (fun b => b = g ∨ ∃ i, i < n ∧ Fs i b) ∧ ∀ q, (q = g ∨ ∃ i, i < n ∧ Fs i q) → F q := by
  have hl : (xs.take n).length = n := by rw [List.length_take]; omega
  refine ⟨.inr ⟨g, cap, cur, te, Fs, by rw [hl], k2, k3, by omega, k5, fun i x hi => ?_, fun i j b hi hj => k7 i j b (by omega) (by omega), fun i hi => k8 i (by omega), fun b => by rw [hl]⟩, fun q hq => (k9 q).2 (hq.imp (fun h => h) fun ⟨i, h1, h2⟩ => ⟨i, by omega, h2⟩)⟩
  rw [List.getElem?_take] at hi
  split at hi
  · exact k6 i x hi
  · cases hi
theorem append_cut [Tabs] {st te : TypeId} {i : TypeInfo} {z : Value} {t : Ty} {ty : TypeId} (ht : P.underlying st = some (.slice te)) (hi : P.info? te = some i) (hs : i.size = t.size) (hz : i.zero = some z) (hzs : z.cells.size = t.size) (hby : i.bytes ≤ 32768)
    {xs : List t.den} {c : OC} (hpos : 0 < t.size) (hr : ArrRel S w true t c.v xs c.F) {n j k : Nat} (hnj : n ≤ j) {a x : Value} (ha : VkRel w (.arr true t xs) c (.win 0 n) a) (hx : VkRel w (.arr true t xs) c (.win j k) x) (hlim : xs.length ≤ lim) (hS : ∀ q, S q → q < w.heap.size ∧ ¬ c.F q) :
    ∃ v' w' F', (Builtin.append_ #[st, st] ty #[a, x]).run P w = .ok v' w' ∧ w.heap.size ≤ w'.heap.size ∧ (∀ q, q < w.heap.size → ¬ c.F q → w'.heap[q]? = w.heap[q]?) ∧ w'.os = w.os ∧ w'.tape = w.tape ∧ w'.output = w.output ∧ (∀ a, w'.frozen? a = w.frozen? a) ∧
      ArrRel S w' true t v' (xs.take n ++ (xs.take k).drop j) F' ∧ ∀ q, F' q → c.F q ∨ (w.heap.size ≤ q ∧ q < w'.heap.size) := by
  obtain ⟨d1, t1, xs1, e1, h1, h2, hwa⟩ := ha
  obtain ⟨d2, t2, xs2, e2, h3, h4, hwx⟩ := hx
  cases e1
  cases e2
  have empty : xs = [] → (∃ o, a = .slice o 0 0) → (∃ o, x = .slice o 0 0) → ∃ v' w' F', (Builtin.append_ #[st, st] ty #[a, x]).run P w = .ok v' w' ∧ w.heap.size ≤ w'.heap.size ∧ (∀ q, q < w.heap.size → ¬ c.F q → w'.heap[q]? = w.heap[q]?) ∧ w'.os = w.os ∧ w'.tape = w.tape ∧ w'.output = w.output ∧ (∀ a, w'.frozen? a = w.frozen? a) ∧
      ArrRel S w' true t v' (xs.take n ++ (xs.take k).drop j) F' ∧ ∀ q, F' q → c.F q ∨ (w.heap.size ≤ q ∧ q < w'.heap.size) := fun hxs ⟨o, ho⟩ ⟨o', ho'⟩ => by
    subst hxs
    subst ho
    subst ho'
    refine ⟨.slice o 0 0, w, fun _ => False, ?_, Nat.le_refl _, fun _ _ _ => rfl, rfl, rfl, rfl, fun _ => rfl, .inl ⟨⟨o, rfl⟩, by simp, fun _ h => h⟩, fun _ h => h.elim⟩
    cases o <;> cases o' <;> simp [Builtin.append_, run_underlying ht, sizeOf, typeInfo, hi, Builtin.lenOf, Builtin.firstCells, loadCells, loadCellsFrom, storeCells]
  rcases hr with ⟨⟨o, e⟩, hxs, hF⟩ | ⟨g, cap, cur, te', Fs, k1, k2, k3, k4, k5, k6, k7, k8, k9⟩
  · rw [hxs] at h2 h4
    simp only [List.length_nil, Nat.le_zero] at h2 h4
    subst h2
    subst h4
    obtain rfl : j = 0 := by omega
    refine empty hxs ?_ ?_
    · rcases hwa with ⟨a', _, e2, _⟩ | ⟨g, cap, a', e1, e2, _⟩
      · exact ⟨_, e2⟩
      · rw [e] at e1
        simp only [Value.slice.injEq] at e1
        obtain ⟨_, _, rfl⟩ := e1
        exact ⟨_, e2⟩
    · rcases hwx with ⟨a', _, e2, _⟩ | ⟨g, cap, a', e1, e2, _⟩
      · exact ⟨_, e2⟩
      · rw [e] at e1
        simp only [Value.slice.injEq] at e1
        obtain ⟨_, _, rfl⟩ := e1
        exact ⟨_, e2⟩
  · rcases hwa with ⟨a', e1, e2, hxs⟩ | ⟨g1, cap1, a1, e1, e2, p1⟩
    · rcases hwx with ⟨_, _, f2, _⟩ | ⟨g2, cap2, a2, f1, f2, _⟩
      · exact empty hxs ⟨_, e2⟩ ⟨_, f2⟩
      · rw [e1] at f1
        simp only [Value.slice.injEq] at f1
        obtain ⟨_, q1, rfl⟩ := f1
        rw [hxs] at h4
        simp only [List.length_nil, Nat.le_zero] at h4
        subst h4
        obtain rfl : j = 0 := by omega
        exact empty hxs ⟨_, e2⟩ ⟨_, f2⟩
    · rw [k1] at e1
      simp only [Value.slice.injEq, Option.some.injEq, Addr.mk.injEq] at e1
      obtain ⟨⟨rfl, _⟩, _, rfl⟩ := e1
      by_cases hcap : cap = 0
      · have hxs : xs = [] := List.length_eq_zero_iff.1 (by omega)
        subst hcap
        rw [hxs] at h2 h4
        simp only [List.length_nil, Nat.le_zero] at h2 h4
        subst h2
        subst h4
        obtain rfl : j = 0 := by omega
        refine empty hxs ⟨_, e2⟩ ?_
        rcases hwx with ⟨_, _, f2, _⟩ | ⟨g2, cap2, a2, f1, f2, _⟩
        · exact ⟨_, f2⟩
        · rw [k1] at f1
          simp only [Value.slice.injEq] at f1
          obtain ⟨_, _, rfl⟩ := f1
          exact ⟨_, f2⟩
      · have p1 := p1 hcap
        rw [Nat.zero_mul] at p1
        subst p1
        subst e2
        obtain ⟨r1, r2⟩ := ArrRel.front (n := n) h2 k2 k3 k4 k5 k6 k7 k8 k9
        have hl1 : (xs.take n).length = n := by rw [List.length_take]; omega
        have hl2 : ((xs.take k).drop j).length = k - j := by rw [List.length_drop, List.length_take]; omega
        have hgF : c.F g := (k9 g).2 (.inl rfl)
        have hcl : cur.toList.length = cap * t.size := by rw [← k3]; exact Array.length_toList
        have sz : k * t.size ≤ cap * t.size := Nat.mul_le_mul_right _ (by omega)
        have szj : j * t.size + (k - j) * t.size = k * t.size := by rw [← Nat.add_mul]; congr 1; omega
        have hxw : ∃ (a2 : Addr) (c2 : Nat), x = .slice (some a2) (k - j) c2 ∧ (j < k → a2 = ⟨g, j * t.size, none⟩) := by
          rcases hwx with ⟨_, f1, _, hxs⟩ | ⟨g2, cap2, a2, f1, f2, p2⟩
          · rw [k1] at f1
            simp only [Value.slice.injEq] at f1
            exact absurd f1.2.2 hcap
          · rw [k1] at f1
            simp only [Value.slice.injEq, Option.some.injEq, Addr.mk.injEq] at f1
            obtain ⟨⟨rfl, _⟩, _, rfl⟩ := f1
            exact ⟨a2, _, f2, fun h => p2 (by omega)⟩
        obtain ⟨a2, c2, f2, p2⟩ := hxw
        have q1 : ∀ (q : Nat) u, ((cur.toList.drop (j * t.size)).take ((k - j) * t.size))[q]? = some u → w.cell? (a2.add q) = some u := fun q u hq => by
          rw [seg_get] at hq
          split at hq
          · have hjk : j < k := by
              refine Nat.lt_of_not_le fun h => ?_
              rw [show k - j = 0 by omega] at *
              omega
            rw [p2 hjk, add_none, cell_of_row w g _ cur te' (0, 0) k2]
            simpa using hq
          · cases hq
        have q2 : ∀ u ∈ (cur.toList.drop (j * t.size)).take ((k - j) * t.size), u.oneCell' = true := fun u hu => by
          obtain ⟨q, hq, rfl⟩ := List.getElem_of_mem hu
          have hq' := hq
          rw [List.length_take, List.length_drop, hcl] at hq'
          have hd : q / t.size < k - j := (Nat.div_lt_iff_lt_mul hpos).2 (by omega)
          have hx : xs[j + q / t.size]? = some (xs[j + q / t.size]'(by omega)) := by simp [show j + q / t.size < xs.length by omega]
          have ho := Own.rep (S := fun _ => True) (k6 _ _ hx) (fun _ _ => trivial)
          refine (flat_rel (h := fun _ => none) (m := fun _ => none) ho).2.1 _ ?_
          refine List.mem_of_getElem? (i := q % t.size) ?_
          rw [seg_get, if_pos (Nat.mod_lt _ hpos)]
          have e : (j + q / t.size) * t.size + q % t.size = j * t.size + q := by
            have := Nat.div_add_mod q t.size
            rw [Nat.mul_comm] at this
            rw [Nat.add_mul]
            omega
          rw [e]
          have := List.getElem?_eq_getElem hq
          rw [seg_get] at this
          split at this
          · exact this
          · cases this
        have q3 : ∀ (i : Nat) y, ((xs.take k).drop j)[i]? = some y → El S w true t ((((cur.toList.drop (j * t.size)).take ((k - j) * t.size)).drop (i * t.size)).take t.size) y (Fs (j + i)) := fun i y hi => by
          rw [List.getElem?_drop, List.getElem?_take] at hi
          split at hi
          · have := k6 (j + i) y hi
            have e : (((cur.toList.drop (j * t.size)).take ((k - j) * t.size)).drop (i * t.size)).take t.size = (cur.toList.drop ((j + i) * t.size)).take t.size := by
              refine List.ext_getElem? fun q => ?_
              rw [seg_get, seg_get, seg_get]
              have h8 : (i + 1) * t.size ≤ (k - j) * t.size := Nat.mul_le_mul_right _ (by omega)
              rw [Nat.add_mul] at h8
              by_cases hq : q < t.size
              · rw [if_pos hq, if_pos hq, if_pos (by omega), Nat.add_mul, Nat.add_assoc]
              · rw [if_neg hq, if_neg hq]
            rw [e]
            exact this
          · cases hi
        obtain ⟨v', w', F', g1, g2, g3, g4, g5, g6, g7, g8, g9⟩ := append_arrX (P := P) (S := S) (w := w) (ty := ty) (X := fun q => ∃ i, j ≤ i ∧ i < k ∧ Fs i q) (Gs := fun i => Fs (j + i)) ht hi hs hz hzs hby (D := true) (v := .slice (some ⟨g, 0, none⟩) n cap) (x := x) (xs := xs.take n) (ys := (xs.take k).drop j) r1
          (.inr ⟨a2, c2, (cur.toList.drop (j * t.size)).take ((k - j) * t.size), by rw [hl2]; exact f2, by rw [hl2, List.length_take, List.length_drop, hcl]; omega, q1, q2, q3⟩)
          (fun i i' q hi hi' q1 q2 => by
            have := k7 (j + i) (j + i') q (by omega) (by omega) q1 q2
            omega) (fun i q hi hq => ⟨j + i, by omega, by omega, hq⟩)
          (fun q ⟨i, q1, q2, q3⟩ hq => by
            rcases hq with rfl | ⟨i', q4, q5⟩
            · exact k8 i (by omega) q3
            · have := k7 i i' q (by omega) (by omega) q3 q5
              omega)
          (fun q ⟨i, q1, q2, q3⟩ => by
            have hx : xs[i]? = some xs[i] := by simp [show i < xs.length by omega]
            exact (k6 i _ hx).lt q q3) (by rw [hl1, hl2]; omega) (fun q hq => ⟨(hS q hq).1, fun h => (hS q hq).2 (r2 q h)⟩)
        exact ⟨v', w', F', g1, g2, fun q h5 h6 => g3 q h5 fun h7 => h6 (r2 q h7), g4, g5, g6, g7, g8, fun q hq => by
            rcases g9 q hq with h | ⟨i, q1, q2, q3⟩ | h
            · exact .inl (r2 q h)
            · exact .inl ((k9 q).2 (.inr ⟨i, by omega, q3⟩))
            · exact .inr h⟩
theorem aTrim_spec [Tabs] {s : AS} {st : TypeId} {x hi : Operand} {R : Type} {k : AVal → AS → Option R} {r : R} (e : aTrim E s st x hi k = some r) : ∃ (t : Ty) (id : Nat) (n : Int) (d : Bool) (xs : List t.den), look E.T st = some (.slice t) ∧ s.ev x = .one (.os id) ∧ s.ev hi = .one (.pv (.int .i64) n) ∧ s.h.get id = some (.arr d t xs) ∧
    0 ≤ n ∧ n ≤ (xs.length : Int) ∧ k (.one (.os id)) { s.kill id with h := (id, .arr d t (xs.take n.toNat)) :: (s.kill id).h } = some r := by
  unfold aTrim at e
  split at e
  · rename_i t' id n h1 h2 h3
    split at e
    · rename_i d t xs h4
      cases hb : (decide (t = t') && !(Nat.ble 100000 id && Nat.ble id 199999)) with
      | false => rw [hb] at e; cases e
      | true =>
        rw [hb] at e
        simp only [Bool.and_eq_true, decide_eq_true_eq] at hb
        obtain ⟨rfl, _⟩ := hb
        simp only [cond_true] at e
        cases hc : (decide (0 ≤ n) && decide (n ≤ (xs.length : Int))) with
        | false => rw [hc] at e; cases e
        | true =>
          rw [hc] at e
          simp only [Bool.and_eq_true, decide_eq_true_eq] at hc
          exact ⟨t, id, n, d, xs, h1, h2, h3, h4, hc.1, hc.2, e⟩
    · cases e
  · cases e
theorem aTrim_t [Tabs] {s : AS} {st : TypeId} {x hi : Operand} {R : Type} {k : AVal → AS → Option R} {r : R} (e : aTrim E s st x hi k = some r) : ∃ v s', k v s' = some r ∧ s.t < s'.t := by
  obtain ⟨t, id, n, d, xs, _, _, _, _, _, _, hk⟩ := aTrim_spec e
  exact ⟨_, _, hk, by show s.t < s.t + 1; omega⟩
theorem aTrim_sound [Tabs] (hT : ∀ p ∈ E.T, tyOk P p.1 p.2 = true) (hB0 : B ≤ w0.heap.size) {s : AS} {a : Act} (R : Rel w0 B M0 S m s a w) {o : Oper} {st : TypeId} {x hi : Operand} (ho : o.op = .slice st x none (some hi) none)
    {R' : Type} {k : AVal → AS → Option R'} {r : R'} (e : aTrim E s st x hi k = some r)
    {next : Act → World → Prop} {Q : Exit → Act → World → Prop} (K : ∀ v s' v' w' S' m', k v s' = some r → Moved w0 B M0 S m s a w v s' v' w' S' m' → next (a.put o.dst v') w') : o.wp P a w next Q := by
  have hB : B ≤ w.heap.size := Nat.le_trans hB0 R.frm.size
  obtain ⟨t, id, n, d, xs, hl, h1, h2, h3, h4, h5, hk⟩ := aTrim_spec e
  have r1 := R.ev x
  rw [h1] at r1
  have r2 := R.ev hi
  rw [h2] at r2
  obtain ⟨e2, _⟩ := inv_int (h := s.h.get) (m := m) r2
  obtain ⟨v', q1, q2⟩ := q_slice_os (P := P) R.mem (hT _ (look_mem hl)) h3 r1 (lo := none) (hi := some (a.eval hi)) (l := 0) (q := n) rfl e2 (Int.le_refl _) h4 h5
  obtain ⟨_, c, hm, hv⟩ := r1
  obtain ⟨c1, hm1, hrel⟩ := R.mem.obj id _ h3
  obtain rfl : c1 = c := Option.some.inj (hm1.symm.trans hm)
  obtain ⟨het, hrel⟩ := hrel
  have hln : (xs.take n.toNat).length = n.toNat := by rw [List.length_take]; omega
  obtain ⟨F', hrel', hF'⟩ : ∃ F', ArrRel S w d t v' (xs.take n.toNat) F' ∧ ∀ q, F' q → c1.F q := by
    obtain ⟨o2, ho2, _, c2, hm2, d2, t2, xs2, e3, _, q3, q4⟩ := q2
    obtain rfl : c2 = c1 := Option.some.inj (hm2.symm.trans hm)
    rw [h3] at ho2
    cases ho2
    cases e3
    rcases hrel with ⟨⟨b, e4⟩, hxs, hF⟩ | ⟨g, cap, cur, te', Fs, k1, k2, k3, k4, k5, k6, k7, k8, k9⟩
    · refine ⟨fun _ => False, .inl ⟨?_, by rw [hxs]; simp, fun _ h => h⟩, fun _ h => h.elim⟩
      rw [hxs] at h5
      have : n.toNat = 0 := by simp at h5; omega
      rcases q4 with ⟨b2, _, e5, _⟩ | ⟨g, cap, b2, e5, e6, _⟩
      · exact ⟨_, e5⟩
      · rw [e4] at e5
        simp only [Value.slice.injEq] at e5
        obtain ⟨_, _, rfl⟩ := e5
        rw [this] at e6
        exact ⟨_, e6⟩
    · rcases q4 with ⟨b2, e5, e6, hxs⟩ | ⟨g2, cap2, b2, e5, e6, e7⟩
      · refine ⟨fun _ => False, .inl ⟨⟨_, e6⟩, by rw [hxs]; simp, fun _ h => h⟩, fun _ h => h.elim⟩
      · rw [k1] at e5
        simp only [Value.slice.injEq, Option.some.injEq, Addr.mk.injEq] at e5
        obtain ⟨⟨rfl, _⟩, _, rfl⟩ := e5
        have z0 : (0 : Int).toNat = 0 := rfl
        rw [z0, Nat.sub_zero, Nat.sub_zero] at e6
        rw [z0, Nat.zero_mul] at e7
        by_cases hcap : cap = 0
        · subst hcap
          have hxs : xs = [] := List.length_eq_zero_iff.1 (by omega)
          have : n.toNat = 0 := by rw [hxs] at h5; simp at h5; omega
          rw [this] at e6
          exact ⟨fun _ => False, .inl ⟨⟨_, e6⟩, by rw [hxs]; simp, fun _ h => h⟩, fun _ h => h.elim⟩
        · rw [e7 hcap] at e6
          obtain ⟨r3, r4⟩ := ArrRel.front (n := n.toNat) (by omega) k2 k3 k4 k5 k6 k7 k8 k9
          rw [e6]
          exact ⟨_, r3, r4⟩
  obtain ⟨m', R3, hst, hm4⟩ := R.reborn hB h3 hm (Nat.le_refl _) (fun _ _ _ => rfl) rfl rfl rfl (fun _ _ => rfl) hrel' (fun q hq => .inl (hF' q hq))
  have hex : (execOp a.eval o).run P w = .ok (.value v') w := by
    unfold execOp
    simp only [ho, Option.map_none, Option.map_some]
    simp [q1 w]
  refine wp_value hex (K _ _ v' w S m' hk ⟨⟨⟨d, t, xs.take n.toNat, by simp [AHeap.get]⟩, _, hm4, rfl⟩, R3, ⟨fun q hq => hq, Nat.le_refl _, fun q hq => hst q hq, fun q hq => .inl hq⟩, by show s.t ≤ s.t + 1; omega, fun et => by have : s.t + 1 = s.t := et; omega⟩)
theorem cutOf_spec {a x : ACell} {id n j r : Nat} (e : cutOf a x = some (id, n, j, r)) : a = .vw id (.win 0 n) ∧ x = .vw id (.win j r) := by
  unfold cutOf at e
  split at e
  · rename_i id1 lo n1 id2 j1 r1
    cases hb : (Nat.beq lo 0 && Nat.beq id1 id2) with
    | false => rw [hb] at e; cases e
    | true =>
      rw [hb] at e
      simp only [Bool.and_eq_true] at hb
      have h1 := Nat.eq_of_beq_eq_true hb.1
      have h2 := Nat.eq_of_beq_eq_true hb.2
      subst h1
      subst h2
      cases e
      exact ⟨rfl, rfl⟩
  · cases e
theorem aCut_spec [Tabs] {s : AS} {st : TypeId} {id n j q : Nat} {R : Type} {k : AVal → AS → Option R} {r : R} (e : aCut E s st id n j q k = some r) : ∃ (t : Ty) (xs : List t.den), look E.T st = some (.slice t) ∧ s.h.get id = some (.arr true t xs) ∧ n ≤ j ∧ xs.length ≤ lim ∧
    k (.one (.os id)) { s.kill id with h := (id, .arr true t (xs.take n ++ (xs.take q).drop j)) :: (s.kill id).h } = some r := by
  unfold aCut at e
  split at e
  · rename_i t' t xs h1 h2
    cases hb : (decide (t = t') && !(Nat.ble 100000 id && Nat.ble id 199999)) with
    | false => rw [hb] at e; cases e
    | true =>
      rw [hb] at e
      simp only [Bool.and_eq_true, decide_eq_true_eq] at hb
      obtain ⟨rfl, _⟩ := hb
      simp only [cond_true] at e
      cases hc : (Nat.ble n j && decide (List.length xs ≤ lim)) with
      | false => rw [hc] at e; cases e
      | true =>
        rw [hc] at e
        simp only [Bool.and_eq_true, decide_eq_true_eq] at hc
        exact ⟨t, xs, h1, h2, Nat.le_of_ble_eq_true hc.1, hc.2, e⟩
  · cases e
theorem aCut_t [Tabs] {s : AS} {st : TypeId} {id n j q : Nat} {R : Type} {k : AVal → AS → Option R} {r : R} (e : aCut E s st id n j q k = some r) : ∃ v s', k v s' = some r ∧ s.t < s'.t := by
  obtain ⟨t, xs, _, _, _, _, hk⟩ := aCut_spec e
  exact ⟨_, _, hk, by show s.t < s.t + 1; omega⟩
theorem aCut_sound [Tabs] (hT : ∀ p ∈ E.T, tyOk P p.1 p.2 = true) (hB0 : B ≤ w0.heap.size) {s : AS} {a : Act} (R : Rel w0 B M0 S m s a w) {o : Oper} {c : Call} (ho : o.op = .call c) (hc : c.callee = .builtin .append) {st : TypeId} {x y : Operand} (ht : c.argTypes.toList = [st, st]) (ha : c.args.toList = [x, y]) {cx cy : ACell}
    (hx : s.ev x = .one cx) (hy : s.ev y = .one cy) {id n j q : Nat} (hcut : cutOf cx cy = some (id, n, j, q)) {R' : Type} {k : AVal → AS → Option R'} {r : R'} (e : aCut E s st id n j q k = some r)
    {next : Act → World → Prop} {Q : Exit → Act → World → Prop} (K : ∀ v s' v' w' S' m', k v s' = some r → Moved w0 B M0 S m s a w v s' v' w' S' m' → next (a.put o.dst v') w') : o.wp P a w next Q := by
  have hB : B ≤ w.heap.size := Nat.le_trans hB0 R.frm.size
  obtain ⟨t, xs, hl, h3, h4, h5, hk⟩ := aCut_spec e
  obtain ⟨rfl, rfl⟩ := cutOf_spec hcut
  have tyo := hT _ (look_mem hl)
  obtain ⟨te, i, z, hu, hi, hsz, hpos, hz, hzz, hby⟩ := slice_ty tyo
  have hzs : z.cells.size = t.size := by
    obtain ⟨p', hp', _, hrep, _⟩ := isZ_spec (S := S) (w := w) (h := s.h.get) (m := m) t _ _ hzz
    rw [List.append_nil] at hp'
    rw [← hp'] at hrep
    simpa using hrep.len
  have r1 := R.ev x
  rw [hx] at r1
  have r2 := R.ev y
  rw [hy] at r2
  obtain ⟨o1, ho1, _, c1, hm, k1⟩ := r1
  obtain ⟨o2, ho2, _, c2, hm2, k2⟩ := r2
  rw [h3] at ho1 ho2
  cases ho1
  cases ho2
  obtain rfl : c2 = c1 := Option.some.inj (hm2.symm.trans hm)
  obtain ⟨c3, hm3, _, hrel⟩ := R.mem.obj id _ h3
  obtain rfl : c3 = c2 := Option.some.inj (hm3.symm.trans hm)
  obtain ⟨v', w', F', hrun, g1, g2, g3, g4, g5, g6, g7, g8⟩ := append_cut (P := P) (ty := o.type) (S := S) hu hi hsz hz hzs hby hpos hrel h4 k1 k2 h5 (fun q hq => ⟨R.mem.lt q hq, fun hF => (R.mem.apart id c3 (heap_ne h3) hm q hF).1 hq⟩)
  obtain ⟨m', R3, hst, hm4⟩ := R.reborn hB h3 hm g1 g2 g3 g4 g5 (fun a _ => g6 a) g7 g8
  have h1 : c.argTypes = #[st, st] := by rw [← Array.toArray_toList (xs := c.argTypes), ht]
  have h2 : c.args = #[x, y] := by rw [← Array.toArray_toList (xs := c.args), ha]
  have hnext := K _ _ v' w' S m' hk ⟨⟨⟨true, t, xs.take n ++ (xs.take q).drop j, by simp [AHeap.get]⟩, _, hm4, rfl⟩, R3, ⟨fun q hq => hq, g1, fun q hq => hst q hq, fun q hq => .inl hq⟩, by show s.t ≤ s.t + 1; omega, fun et => by have : s.t + 1 = s.t := et; omega⟩
  unfold Oper.wp execOp
  simp only [ho, resolve, invoke, builtin, Sem.run_bind, Sem.run_pure, Result.andThen_ok, hc, h1, h2, List.map_toArray, List.map_cons, List.map_nil, hrun]
  exact hnext
end
end Go.Ab
