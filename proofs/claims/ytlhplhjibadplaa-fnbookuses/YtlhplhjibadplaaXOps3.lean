/-
  Further operations that turn no object: fields, elements, parts of slices, lengths, new structs and slices.
-/
import Derived.Test.YtlhplhjibadplaaXOps2
namespace Go.Ab
open Go Go.RowKit

section
variable {P : Program} {E : Env} {h get : HGet} {S : Blk} {w : World} {m : OMap} {B : Nat} {M0 : Blk}

theorem add_none (b o n : Nat) : (⟨b, o, none⟩ : Addr).add n = ⟨b, o + n, none⟩ := by
  unfold Addr.add
  split
  · rename_i hn; subst hn; rfl
  · rfl

theorem field_ok : ∀ {fs : List Field} {u : Ty} {off0 : Nat}, fieldsOk P fs u off0 = true → ∀ {j off : Nat} {a : Ty}, fieldAt u j = some (off, a) →
    ∃ f, fs[j]? = some f ∧ f.offset = off0 + off ∧ (∃ i, P.info? f.type = some i ∧ i.size = a.size ∧ 0 < a.size) ∧ ∃ d, P.underlying f.type = some d ∧ descAgg d = a.isAgg
  | [], .unit, _, _, j, _, _, e => by cases j <;> cases e
  | f :: r, .pair a b, off0, ok, j, off, c, e => by
    simp only [fieldsOk, Bool.and_eq_true] at ok
    obtain ⟨⟨⟨h1, h2⟩, h3⟩, h4⟩ := ok
    cases j with
    | zero =>
      simp only [fieldAt, Option.some.injEq, Prod.mk.injEq] at e
      obtain ⟨rfl, rfl⟩ := e
      refine ⟨f, rfl, Nat.eq_of_beq_eq_true h1, ?_, ?_⟩
      · cases hi : P.info? f.type with
        | none => rw [hi] at h2; cases h2
        | some i =>
          rw [hi] at h2
          simp only [Bool.and_eq_true] at h2
          exact ⟨i, rfl, Nat.eq_of_beq_eq_true h2.1, Nat.le_of_ble_eq_true h2.2⟩
      · cases hd : P.underlying f.type with
        | none => rw [hd] at h3; cases h3
        | some d => rw [hd] at h3; exact ⟨d, rfl, by simpa using h3⟩
    | succ j =>
      simp only [fieldAt, Option.bind_eq_some_iff, Option.some.injEq, Prod.mk.injEq] at e
      obtain ⟨⟨o', c'⟩, e1, rfl, rfl⟩ := e
      obtain ⟨f', k1, k2, k3, k4⟩ := field_ok h4 e1
      exact ⟨f', by simpa using k1, by omega, k3, k4⟩
  | [], .pair _ _, _, ok, _, _, _, _ => by cases ok
  | [], .bool, _, ok, _, _, _, _ => by cases ok
  | [], .int _, _, ok, _, _, _, _ => by cases ok
  | [], .str, _, ok, _, _, _, _ => by cases ok
  | [], .slice _, _, ok, _, _, _, _ => by cases ok
  | _ :: _, .unit, _, ok, _, _, _, _ => by cases ok
  | _ :: _, .bool, _, ok, _, _, _, _ => by cases ok
  | _ :: _, .int _, _, ok, _, _, _, _ => by cases ok
  | _ :: _, .str, _, ok, _, _, _, _ => by cases ok
  | _ :: _, .slice _, _, ok, _, _, _, _ => by cases ok

theorem struct_of_field [Tabs] {t : TypeId} {u : Ty} (ht : tyOk P t u = true) (ha : isArrT u = false) {j : Nat} {p : Nat × Ty} (e : fieldAt u j = some p) :
    ∃ fs f, P.underlying t = some (.struct fs) ∧ fs[j]? = some f ∧ f.offset = p.1 ∧ (∃ i, P.info? f.type = some i ∧ i.size = p.2.size ∧ 0 < p.2.size) ∧ ∃ d, P.underlying f.type = some d ∧ descAgg d = p.2.isAgg := by
  obtain ⟨d, hd, ho⟩ := tyOk_desc ht
  cases u with
  | pair a b =>
    cases d <;> (try cases ho) <;> simp only [descOk, Bool.and_eq_true, ha] at ho
    · cases ho.2.1
    · rename_i fs
      obtain ⟨f, k1, k2, k3, k4⟩ := field_ok ho.2.2 e
      exact ⟨fs, f, hd, by simpa using k1, by omega, k3, k4⟩
  | _ => cases j <;> cases e

theorem fieldAt_le : ∀ {u : Ty} {j : Nat} {p : Nat × Ty}, fieldAt u j = some p → p.1 + p.2.size ≤ u.size
  | .pair a b, 0, p, e => by
    simp only [fieldAt, Option.some.injEq] at e
    subst e
    simp [Ty.size]
  | .pair a b, j + 1, p, e => by
    simp only [fieldAt, Option.bind_eq_some_iff, Option.some.injEq] at e
    obtain ⟨q, e1, rfl⟩ := e
    have := fieldAt_le e1
    simp only [Ty.size]
    omega
  | .unit, j, _, e => by cases j <;> cases e
  | .bool, j, _, e => by cases j <;> cases e
  | .int _, j, _, e => by cases j <;> cases e
  | .str, j, _, e => by cases j <;> cases e
  | .slice _, j, _, e => by cases j <;> cases e

theorem field_rep : ∀ {u : Ty} {ds : List Value} {x : u.den} {j : Nat} {p : Nat × Ty}, Rep S w u ds x → fieldAt u j = some p →
    ∃ z : p.2.den, fieldDen u x j = some ⟨p.2, z⟩ ∧ ∃ ds' : List Value, (∀ (k : Nat) (v : Value), ds'[k]? = some v → ds[p.1 + k]? = some v) ∧ Rep S w p.2 ds' z
  | .pair a b, ds, x, 0, p, r, e => by
    simp only [fieldAt, Option.some.injEq] at e
    subst e
    obtain ⟨c, d, rfl, h1, h2⟩ := r
    refine ⟨x.1, rfl, c, fun k v hv => ?_, h1⟩
    simp only [Nat.zero_add]
    rw [List.getElem?_append_left (List.getElem?_eq_some_iff.1 hv).1]
    exact hv
  | .pair a b, ds, x, j + 1, p, r, e => by
    simp only [fieldAt, Option.bind_eq_some_iff, Option.some.injEq] at e
    obtain ⟨q, e1, rfl⟩ := e
    obtain ⟨c, d, rfl, h1, h2⟩ := r
    obtain ⟨z, k1, ds', k2, k3⟩ := field_rep h2 e1
    refine ⟨z, k1, ds', fun k v hv => ?_, k3⟩
    have := h1.len
    rw [List.getElem?_append_right (by simp; omega)]
    rw [this]
    have := k2 k v hv
    rw [show a.size + q.1 + k - a.size = q.1 + k by omega]
    exact this
  | .unit, _, _, j, _, _, e => by cases j <;> cases e
  | .bool, _, _, j, _, _, e => by cases j <;> cases e
  | .int _, _, _, j, _, _, e => by cases j <;> cases e
  | .str, _, _, j, _, _, e => by cases j <;> cases e
  | .slice _, _, _, j, _, _, e => by cases j <;> cases e

theorem run_fieldAt [Tabs] {t : TypeId} {u : Ty} (ht : tyOk P t u = true) (hna : isArrT u = false) {j : Nat} {p : Nat × Ty} (e : fieldAt u j = some p) (b o : Nat) :
    (Instr.fieldAt t (.pointer (some ⟨b, o, none⟩)) j).run P w = .ok (.pointer (some ⟨b, o + p.1, none⟩)) w := by
  obtain ⟨fs, f, h1, h2, h3, ⟨i, hi, hs, hp⟩, _⟩ := struct_of_field ht hna e
  have hne : ¬ i.size = 0 := by omega
  simp only [Instr.fieldAt, Sem.run_bind, run_underlying h1, Result.andThen_ok, h2, Instr.sureAddr, Sem.run_pure, fieldPlace, sizeOf, typeInfo, run_program, hi, hne, if_false, add_none, h3]

theorem q_fieldAddr [Tabs] (M : Mem h S w m B M0) (d : Nat) {t : TypeId} {u : Ty} (ht : tyOk P t u = true) (hna : isArrT u = false) {j : Nat} {p : Nat × Ty} (e : fieldAt u j = some p) {c : ACell} {x : Value} (r : CellRel h S w m c x) {v : AVal} {os : AHeap}
    (g : (match c with
      | .op id off => qone (.op id (off + p.1))
      | .oe id i off => qone (.oe id i (off + p.1))
      | .pc _ x => match cast? u x with
        | some y => match fieldDen u y j with
          | some q => qone (.pc q.1 q.2)
          | none => .fail
        | none => .fail
      | _ => .fail : QRes).gives v os) : QOk P h S w m B M0 d v os (Instr.fieldAt t x j) := by
  cases c with
  | op id off =>
    obtain ⟨rfl, rfl⟩ := g
    obtain ⟨ho, c, b, h1, h2, rfl⟩ := r
    exact QOk.same M d (run_fieldAt ht hna e b off) ⟨ho, c, b, h1, h2, rfl⟩
  | oe id i off =>
    obtain ⟨rfl, rfl⟩ := g
    obtain ⟨ho, c, q, n, cap, h1, h2, rfl⟩ := r
    exact QOk.same M d (run_fieldAt ht hna e q _) ⟨ho, c, q, n, cap, h1, h2, by rw [Nat.add_assoc]⟩
  | pc u' y =>
    simp only at g
    cases hc : cast? u y with
    | none => rw [hc] at g; exact g.elim
    | some z =>
      rw [hc] at g
      obtain ⟨rfl, rfl⟩ := cast?_some hc
      obtain ⟨b, o, ds, rfl, h1, h2, h3, h4⟩ := r
      obtain ⟨z, k1, ds', k2, k3⟩ := field_rep h4 e
      simp only [k1] at g
      obtain ⟨rfl, rfl⟩ := g
      refine QOk.same M d (run_fieldAt ht hna e b o) ⟨b, o + p.1, ds', rfl, h1, h2, fun k v hv => ?_, k3⟩
      have := h3 _ _ (k2 k v hv)
      rw [Nat.add_assoc]; exact this
  | _ => exact g.elim

theorem run_isAgg_desc {t : TypeId} {d : TypeDesc} (hd : P.underlying t = some d) : (isAgg t).run P w = .ok (descAgg d) w := by
  unfold isAgg
  simp only [Sem.run_bind, run_underlying hd, Result.andThen_ok]
  cases d <;> rfl

theorem q_field [Tabs] (M : Mem h S w m B M0) (d : Nat) {t : TypeId} {u : Ty} (ht : tyOk P t u = true) (hna : isArrT u = false) {j : Nat} {p : Nat × Ty} (e : fieldAt u j = some p) {cs : List ACell} {x : Value} (r : VRel h S w m (.ag cs) x) (hl : p.1 + p.2.size ≤ cs.length) :
    QOk P h S w m B M0 d (valOf p.2.isAgg ((cs.drop p.1).take p.2.size)) [] (Instr.field t x j) := by
  obtain ⟨fs, f, h1, h2, h3, ⟨i, hi, hs, hp⟩, dd, hd, ha⟩ := struct_of_field ht hna e
  obtain ⟨vs, rfl, k⟩ := r
  have hlen := k.1
  refine QOk.same M d (v' := valV p.2.isAgg ((vs.toList.drop p.1).take p.2.size)) ?_ (valOf_rel ((k.drop p.1).take p.2.size) (valV_len (n := p.2.size) (by simp; omega) size_one))
  simp only [Instr.field, Sem.run_bind, run_underlying h1, Result.andThen_ok, h2, asAgg, Sem.run_pure, part, run_isAgg_desc hd, ha]
  cases hagg : p.2.isAgg with
  | true =>
    simp only [if_true, sizeOf, typeInfo, Sem.run_bind, run_program, Result.andThen_ok, hi, Sem.run_pure, h3, hs, valV]
    congr 3
    apply Array.ext'
    simp [Array.toList_extract, List.extract_eq_take_drop]
  | false =>
    have h1' := size_one hagg
    have hlt : p.1 < vs.size := by simp at hlen; omega
    have hds : (vs.toList.drop p.1).take p.2.size = [vs[p.1]] := by
      rw [h1', List.drop_eq_getElem_cons (by simpa using hlt)]; simp
    rw [hds]
    simp [h3, hlt, valV]

/-! elements -/

theorem run_asIntOf (k : IntKind) (n : Int) : (asIntOf (.int k n)).run P w = .ok (k, n) w := rfl

theorem slice_ty [Tabs] {t : TypeId} {e : Ty} (ht : tyOk P t (.slice e) = true) : ∃ te i z, P.underlying t = some (.slice te) ∧ P.info? te = some i ∧ i.size = e.size ∧ 0 < e.size ∧ i.zero = some z ∧ isZ e z.cells.toList = some [] ∧ i.bytes ≤ 32768 := by
  obtain ⟨d, hd, ho⟩ := tyOk_desc ht
  cases d <;> (try cases ho)
  rename_i te
  simp only [descOk] at ho
  cases hi : P.info? te with
  | none => rw [hi] at ho; cases ho
  | some i =>
    rw [hi] at ho
    simp only [Bool.and_eq_true] at ho
    obtain ⟨⟨⟨⟨h1, h2⟩, h3⟩, h4⟩, _⟩ := ho
    unfold zOk at h3
    cases hz : i.zero with
    | none => rw [hz] at h3; cases h3
    | some z =>
      rw [hz] at h3
      refine ⟨te, i, z, hd, hi, Nat.eq_of_beq_eq_true h1, Nat.le_of_ble_eq_true h2, hz, ?_, Nat.le_of_ble_eq_true h4⟩
      simp only at h3
      split at h3
      · assumption
      · cases h3

theorem idx_some {α : Type} {xs : List α} {n : Int} {x : α} (e : idx xs n = some x) : 0 ≤ n ∧ n < xs.length ∧ xs[n.toNat]? = some x := by
  unfold idx at e
  split at e
  · cases e
  · have := (List.getElem?_eq_some_iff.1 e).1
    exact ⟨by omega, by omega, e⟩

theorem run_indexAt [Tabs] {t : TypeId} {e : Ty} (ht : tyOk P t (.slice e) = true) {b o len cap : Nat} {k : IntKind} {n : Int} (h0 : 0 ≤ n) (h1 : n < len) :
    (Instr.indexAt t (.slice (some ⟨b, o, none⟩) len cap) (.int k n)).run P w = .ok (.pointer (some ⟨b, o + n.toNat * e.size, none⟩)) w := by
  obtain ⟨te, i, z, hu, hi, hs, _⟩ := slice_ty ht
  simp only [Instr.indexAt, Sem.run_bind, run_asIntOf, Result.andThen_ok, run_underlying hu, Sem.run_pure]
  simp [h0, h1, sizeOf, typeInfo, hi, hs, add_none]

theorem arr_ty [Tabs] {t : TypeId} {u : Ty} {p : Nat × Ty} (ht : tyOk P t u = true) (hp : arrIn u = some p) : ∃ te i, P.underlying t = some (.array p.1 te) ∧ P.info? te = some i ∧ i.size = p.2.size := by
  obtain ⟨d, hd, ho⟩ := tyOk_desc ht
  have hu : isArrT u = true := by
    unfold arrIn at hp
    split at hp
    · rfl
    · cases hp
  cases d
  case array n te =>
    simp only [descOk, Bool.and_eq_true, hu, hp] at ho
    refine ⟨te, ?_⟩
    cases hi : P.info? te with
    | none => rw [hi] at ho; cases ho.2.2
    | some i =>
      rw [hi] at ho
      simp only [Bool.and_eq_true] at ho
      exact ⟨i, by rw [hd, Nat.eq_of_beq_eq_true ho.2.2.1], rfl, Nat.eq_of_beq_eq_true ho.2.2.2⟩
  case struct fs =>
    simp only [descOk, Bool.and_eq_true, hu] at ho
    cases ho.2.1
  all_goals (cases u <;> first | cases hu | cases ho)

theorem run_indexAtA [Tabs] {t : TypeId} {u : Ty} {p : Nat × Ty} (ht : tyOk P t u = true) (hp : arrIn u = some p) {b o : Nat} {k : IntKind} {n : Int} (h0 : 0 ≤ n) (h1 : n < p.1) :
    (Instr.indexAt t (.pointer (some ⟨b, o, none⟩)) (.int k n)).run P w = .ok (.pointer (some ⟨b, o + n.toNat * p.2.size, none⟩)) w := by
  obtain ⟨te, i, hu, hi, hs⟩ := arr_ty ht hp
  simp only [Instr.indexAt, Sem.run_bind, run_asIntOf, Result.andThen_ok, run_underlying hu, Sem.run_pure, Instr.sureAddr]
  simp [h0, h1, sizeOf, typeInfo, hi, hs, add_none]

theorem q_index_arr [Tabs] (M : Mem h S w m B M0) (d : Nat) {st : TypeId} {u : Ty} {p : Nat × Ty} (ht : tyOk P st u = true) (hp : arrIn u = some p) {id off : Nat} {x : Value} (r : CellRel h S w m (.op id off) x) {k : IntKind} {n : Int} (h0 : 0 ≤ n) (h1 : n < p.1) :
    QOk P h S w m B M0 d (.one (.op id (off + n.toNat * p.2.size))) [] (Instr.indexAt st x (.int k n)) := by
  obtain ⟨ho, c, b, e1, e2, rfl⟩ := r
  exact QOk.same M d (run_indexAtA ht hp h0 h1) ⟨ho, c, b, e1, e2, rfl⟩

theorem q_index_pv [Tabs] (M : Mem h S w m B M0) (d : Nat) {st : TypeId} {t : Ty} (ht : tyOk P st (.slice t) = true) {xs : List t.den} {x : Value} (r : CellRel h S w m (.pv (.slice t) xs) x) {k : IntKind} {n : Int} {e : t.den} (he : idx xs n = some e) :
    QOk P h S w m B M0 d (.one (.pc t e)) [] (Instr.indexAt st x (.int k n)) := by
  obtain ⟨h0, h1, h2⟩ := idx_some he
  obtain ⟨_, hl, hr⟩ := r
  rcases hr with ⟨_, rfl⟩ | ⟨a, cap, hx, hc, hb, hel⟩
  · simp at h1; omega
  · simp only [List.cons.injEq, and_true] at hx
    subst hx
    obtain ⟨hsp, hb2, hlt⟩ := hb.resolve_left fun h => by rw [h] at h2; simp at h2
    obtain ⟨b, o, sp⟩ := a
    simp only at hsp hb2 hlt hel
    subst hsp
    obtain ⟨ds, k1, k2, k3⟩ := hel _ _ h2
    exact QOk.same M d (run_indexAt ht h0 h1) ⟨b, _, ds, rfl, hb2, hlt, k2, k3⟩

theorem q_index_os [Tabs] (M : Mem h S w m B M0) (d : Nat) {st : TypeId} {t : Ty} (ht : tyOk P st (.slice t) = true) {id : Nat} {dp : Bool} {xs : List t.den} {x : Value} (r : CellRel h S w m (.os id) x) (ho : h id = some (.arr dp t xs)) {k : IntKind} {n : Int} (h0 : 0 ≤ n) (h1 : n < xs.length) :
    QOk P h S w m B M0 d (.one (.oe id n.toNat 0)) [] (Instr.indexAt st x (.int k n)) := by
  obtain ⟨_, c, hc, rfl⟩ := r
  obtain ⟨c', hc', he, hr⟩ := M.obj id _ ho
  obtain rfl : c' = c := Option.some.inj (hc'.symm.trans hc)
  rcases hr with ⟨_, rfl, _⟩ | ⟨g, cap, cur, te, Fs, e1, _⟩
  · simp at h1; omega
  · rw [e1]
    exact QOk.same M d (run_indexAt ht h0 h1) ⟨⟨dp, t, xs, ho, by omega⟩, c', g, xs.length, cap, hc, e1, by rw [he]; simp⟩

theorem q_index_sb [Tabs] (M : Mem h S w m B M0) (d : Nat) {st : TypeId} {t : Ty} (ht : tyOk P st (.slice t) = true) {id i off : Nat} {e : Ty} {y : e.den} {z : List t.den} {x : Value} (r : CellRel h S w m (.sb id i off e y) x) (hf : (flat e y)[off]? = some (.pv (.slice t) z)) {k : IntKind} {n : Int} (h0 : 0 ≤ n) (h1 : n < z.length) :
    QOk P h S w m B M0 d (.one (.vw id (.inn i off e y n.toNat))) [] (Instr.indexAt st x (.int k n)) := by
  obtain ⟨xs, u, z', c, g, cap, G0, e1, e2, e3, e4, e5, e6, ⟨v', e7, e8⟩, e9⟩ := sb_part M r
  rw [hf] at e3
  cases e3
  cases e7
  rcases e8 with ⟨_, rfl, _⟩ | ⟨g2, cap2, cur, te, Fs, rfl, _⟩
  · simp at h1; omega
  · have hr : (Instr.indexAt st (.slice (some ⟨g2, 0, none⟩) z.length cap2) (.int k n)).run P w = .ok (.pointer (some ⟨g2, n.toNat * t.size, none⟩)) w := by
      have := run_indexAt (P := P) (w := w) ht (b := g2) (o := 0) (len := z.length) (cap := cap2) (k := k) h0 h1
      rwa [Nat.zero_add] at this
    exact QOk.same M d hr ⟨_, e1, ⟨_, _, _, rfl⟩, c, e4, xs, t, z, rfl, e2, hf, by omega, g, xs.length, cap, g2, _, cap2, e5, e6, rfl⟩

theorem q_index_str [Tabs] (M : Mem h S w m B M0) (d : Nat) {st : TypeId} (ht : tyOk P st .str = true) {xs : Bytes} {x : Value} (r : CellRel h S w m (.pv .str xs) x) {k : IntKind} {n : Int} {b : UInt8} (he : idx xs n = some b) :
    QOk P h S w m B M0 d (.one (.pv (.int .u8) (b.toNat : Int))) [] (Instr.index st x (.int k n)) := by
  obtain ⟨h0, h1, h2⟩ := idx_some he
  obtain ⟨rfl, _⟩ := inv_str r
  obtain ⟨dd, hd, ho⟩ := tyOk_desc ht
  cases dd <;> (try cases ho)
  have hb : (ByteArray.mk ⟨xs⟩)[n.toNat]? = some b := by
    have hlt := (List.getElem?_eq_some_iff.1 h2).1
    have hlt' : n.toNat < (ByteArray.mk ⟨xs⟩).size := by simpa [ByteArray.size] using hlt
    rw [getElem?_pos (ByteArray.mk ⟨xs⟩) n.toNat hlt']
    have := (List.getElem?_eq_some_iff.1 h2).2
    simp only [Option.some.injEq]
    rw [← this]; rfl
  refine QOk.same M d (v' := .int .u8 b.toNat) ?_ (pv_int ?_)
  · simp only [Instr.index, Sem.run_bind, run_asIntOf, Result.andThen_ok, run_underlying hd, h0, if_true, hb, Sem.run_pure]
  · rw [wfI_iff]
    have := b.toNat_lt
    have e1 : IntKind.u8.min = 0 := by decide
    have e2 : IntKind.u8.max = 255 := by decide
    rw [e1, e2]; omega

/-! parts of slices and texts -/

theorem sub_some {α : Type} {xs ys : List α} {l r : Int} (e : sub xs l r = some ys) : 0 ≤ l ∧ l ≤ r ∧ r ≤ xs.length ∧ ys = (xs.take r.toNat).drop l.toNat := by
  unfold sub at e
  split at e
  · rename_i hc
    simp only [Option.some.injEq] at e
    exact ⟨hc.1, hc.2.1, hc.2.2, e.symm⟩
  · cases e

theorem run_sliceBound_in {k : IntKind} {n : Int} {y : Nat} {code : BoundsCode} (h0 : 0 ≤ n) (h1 : n ≤ y) : (Instr.sliceBound (.int k n) y code).run P w = .ok n.toNat w := by
  simp [Instr.sliceBound, asIntOf, h0, h1]

/-- a bound that may be left out -/
def BoundIs (o : Option Value) (dflt n : Int) : Prop :=
  match o with
  | none => n = dflt
  | some v => v = .int .i64 n

theorem run_sliceBounds [Tabs] {s : Bool} {len cap : Nat} {lo hi : Option Value} {l r : Int} (hl : BoundIs lo 0 l) (hr : BoundIs hi len r) (h0 : 0 ≤ l) (h1 : l ≤ r) (h2 : r ≤ len) (hc : len ≤ cap) :
    (Instr.sliceBounds s len cap lo hi none).run P w = .ok (l.toNat, r.toNat, cap) w := by
  cases hi with
  | none =>
    have e : r = len := hr
    subst e
    cases lo with
    | none =>
      have e : l = 0 := hl
      subst e
      simp [Instr.sliceBounds]
    | some v =>
      have e : v = .int .i64 l := hl
      subst e
      simp [Instr.sliceBounds, run_sliceBound_in h0 h1]
  | some u =>
    have e : u = .int .i64 r := hr
    subst e
    have h3 : r ≤ (cap : Int) := by omega
    cases lo with
    | none =>
      have e : l = 0 := hl
      subst e
      simp [Instr.sliceBounds, run_sliceBound_in (Int.le_trans h0 h1) h3]
    | some v =>
      have e : v = .int .i64 l := hl
      subst e
      have h4 : l ≤ (r.toNat : Int) := by omega
      simp [Instr.sliceBounds, run_sliceBound_in (Int.le_trans h0 h1) h3, run_sliceBound_in h0 h4]

theorem q_slice_pv [Tabs] (M : Mem h S w m B M0) (d : Nat) {st : TypeId} {t : Ty} (ht : tyOk P st (.slice t) = true) {xs ys : List t.den} {x : Value} (r : CellRel h S w m (.pv (.slice t) xs) x) {lo hi : Option Value} {l q : Int}
    (hl : BoundIs lo 0 l) (hq : BoundIs hi xs.length q) (hs : sub xs l q = some ys) : QOk P h S w m B M0 d (.one (.pv (.slice t) ys)) [] (Instr.sliceAt st x lo hi none) := by
  obtain ⟨h0, h1, h2, rfl⟩ := sub_some hs
  obtain ⟨te, i, z, hu, hi', hsz, _⟩ := slice_ty ht
  obtain ⟨_, hlen, hr⟩ := r
  rcases hr with ⟨hx, rfl⟩ | ⟨a, cap, hx, hc, hb, hel⟩
  · simp only [List.cons.injEq, and_true] at hx
    subst hx
    simp only [List.length_nil] at h2 hq
    obtain rfl : q = 0 := by omega
    obtain rfl : l = 0 := by omega
    refine QOk.same M d (v' := .slice none 0 0) ?_ ⟨rfl, by simp, .inl ⟨rfl, by simp⟩⟩
    simp only [Instr.sliceAt, Sem.run_bind, run_underlying hu, Result.andThen_ok, Instr.slice, run_sliceBounds hl hq (Int.le_refl _) (Int.le_refl _) (by simp) (Nat.le_refl _), sizeOf, typeInfo, run_program, hi', Sem.run_pure]
    rfl
  · simp only [List.cons.injEq, and_true] at hx
    subst hx
    have hyl : ((xs.take q.toNat).drop l.toNat).length = q.toNat - l.toNat := by simp; omega
    refine QOk.same M d (v' := .slice (if cap = l.toNat then some a else some (a.add (l.toNat * t.size))) (q.toNat - l.toNat) (cap - l.toNat)) ?_ ⟨rfl, by rw [hyl]; omega, .inr ?_⟩
    · simp only [Instr.sliceAt, Sem.run_bind, run_underlying hu, Result.andThen_ok, Instr.slice, run_sliceBounds hl hq h0 h1 h2 hc.1, sizeOf, typeInfo, run_program, hi', Sem.run_pure, hsz, Option.map_some]
    · refine ⟨if cap = l.toNat then a else a.add (l.toNat * t.size), cap - l.toNat, ?_, ⟨by rw [hyl]; omega, by omega⟩, ?_, fun j e hj => ?_⟩
      · rw [hyl]
        split <;> rfl
      · refine hb.imp (fun h => by rw [h]; simp) fun h => ?_
        obtain ⟨b, o, sp⟩ := a
        obtain ⟨k1, k2⟩ := h
        simp only at k1
        subst k1
        split
        · exact ⟨rfl, k2⟩
        · rw [add_none]; exact ⟨rfl, k2⟩
      · have hj' : j < q.toNat - l.toNat := by rw [← hyl]; exact (List.getElem?_eq_some_iff.1 hj).1
        rw [if_neg (by omega)]
        rw [List.getElem?_drop, List.getElem?_take, if_pos (by omega)] at hj
        obtain ⟨hsp, _⟩ := hb.resolve_left fun h => by rw [h] at hj; simp at hj
        obtain ⟨b, o, sp⟩ := a
        simp only at hsp hel
        subst hsp
        rw [add_none]
        obtain ⟨ds, k1, k2, k3⟩ := hel _ _ hj
        refine ⟨ds, k1, ?_, k3⟩
        simp only
        rw [show o + l.toNat * t.size + j * t.size = o + (l.toNat + j) * t.size by rw [Nat.add_mul]; omega]
        exact k2

theorem q_slice_zero [Tabs] (M : Mem h S w m B M0) (hB : B ≤ w.heap.size) {d : Nat} (hfr : ∀ id, d * 16 ≤ id → id ≤ d * 16 + 15 → h id = none) {st : TypeId} {t : Ty} (ht : tyOk P st (.slice t) = true) {xs : List t.den} {x : Value} (r : CellRel h S w m (.pv (.slice t) xs) x) {lo : Option Value}
    (hl : BoundIs lo 0 0) : QOk P h S w m B M0 d (.one (.os (d * 16))) [(d * 16, .arr true t [])] (Instr.sliceAt st x lo (some (.int .i64 0)) (some (.int .i64 0))) := by
  obtain ⟨te, i, z, hu, hi', hsz, _⟩ := slice_ty ht
  obtain ⟨_, hlen, hr⟩ := r
  have bounds : ∀ (len cap : Nat), (Instr.sliceBounds true len cap lo (some (.int .i64 0)) (some (.int .i64 0))).run P w = .ok (0, 0, 0) w := fun len cap => by
    cases lo with
    | none => simp [Instr.sliceBounds, Instr.sliceBound, asIntOf]
    | some v =>
      have e : v = .int .i64 0 := hl
      subst e
      simp [Instr.sliceBounds, Instr.sliceBound, asIntOf]
  have fin : ∀ (o : Option Addr) (len cap : Nat), x = .slice o len cap → QOk P h S w m B M0 d (.one (.os (d * 16))) [(d * 16, .arr true t [])] (Instr.sliceAt st x lo (some (.int .i64 0)) (some (.int .i64 0))) := fun o len cap hx => by
    subst hx
    refine ⟨_, w, S, _, ?_, QPost.empty M hB hfr t o⟩
    simp only [Instr.sliceAt, Sem.run_bind, run_underlying hu, Result.andThen_ok, Instr.slice, bounds, sizeOf, typeInfo, run_program, hi', Sem.run_pure]
    rfl
  rcases hr with ⟨hx, _⟩ | ⟨a, cap, hx, _⟩
  · simp only [List.cons.injEq, and_true] at hx
    exact fin _ _ _ hx
  · simp only [List.cons.injEq, and_true] at hx
    exact fin _ _ _ hx

theorem extract_mk (xs : Bytes) (a b : Nat) : (ByteArray.mk ⟨xs⟩).extract a b = ByteArray.mk ⟨(xs.take b).drop a⟩ := by
  apply ByteArray.ext
  apply Array.ext'
  simp [ByteArray.data_extract, List.extract_eq_take_drop, List.drop_take]

theorem q_slice_str [Tabs] (M : Mem h S w m B M0) (d : Nat) {st : TypeId} (ht : tyOk P st .str = true) {xs ys : Bytes} {x : Value} (r : CellRel h S w m (.pv .str xs) x) {lo hi : Option Value} {l q : Int}
    (hl : BoundIs lo 0 l) (hq : BoundIs hi xs.length q) (hs : sub xs l q = some ys) : QOk P h S w m B M0 d (.one (.pv .str ys)) [] (Instr.sliceAt st x lo hi none) := by
  obtain ⟨h0, h1, h2, rfl⟩ := sub_some hs
  obtain ⟨dd, hd, ho⟩ := tyOk_desc ht
  cases dd <;> (try cases ho)
  obtain ⟨rfl, hlen⟩ := inv_str r
  have hsz : (ByteArray.mk ⟨xs⟩).size = xs.length := by simp [ByteArray.size]
  refine QOk.same M d (v' := .string ⟨⟨(xs.take q.toNat).drop l.toNat⟩⟩) ?_ (pv_str (by simp; omega))
  simp only [Instr.sliceAt, Sem.run_bind, run_underlying hd, Result.andThen_ok, Instr.slice, Option.isSome_none, Bool.false_eq_true, if_false, hsz, run_sliceBounds hl hq h0 h1 h2 (Nat.le_refl _), Sem.run_pure, extract_mk]

/-! lengths, the lesser, the greater -/

theorem goInt_rel [Tabs] {n : Nat} (hn : n ≤ maxLen) : VRel h S w m (.one (.pv (.int .i64) (n : Int))) (goInt n) := by
  refine pv_int ?_
  rw [wfI_iff]
  have e1 : IntKind.i64.min = -9223372036854775808 := by decide
  have e2 : IntKind.i64.max = 9223372036854775807 := by decide
  rw [e1, e2]
  unfold maxLen at hn
  omega

theorem arr_len {d : Bool} {e : Ty} {xs : List e.den} {c : OC} (r : ObjRel h S w m (.arr d e xs) c) : xs.length ≤ maxLen ∧ ∃ a cap, c.v = .slice a xs.length cap := by
  rcases r.2 with ⟨⟨a, e1⟩, rfl, _⟩ | ⟨g, cap, cur, te, Fs, e1, _, _, h4, h5, _⟩
  · exact ⟨Nat.zero_le _, a, 0, e1⟩
  · exact ⟨by omega, _, cap, e1⟩

theorem cellTo_sb {get : HGet} {id i off : Nat} {e : Ty} {y : e.den} {u : Ty} {z : List u.den} (hf : (flat e y)[off]? = some (.pv (.slice u) z)) : cellToG get (.slice u) (.sb id i off e y) = some z := by
  simp only [cellToG, hf]
  simp [cast?]

theorem q_len [Tabs] (M : Mem h S w m B M0) (hg : ∀ id o, get id = some o → h id ≠ none → h id = some o) (d : Nat) {t : TypeId} {ty : TypeId} {u : Ty} (ht : tyOk P t u = true) {c : ACell} {x : Value} (r : CellRel h S w m c x) {n : Int} (e : aLen get u c = some n) :
    QOk P h S w m B M0 d (.one (.pv (.int .i64) n)) [] (Builtin.len_ #[t] ty #[x]) := by
  obtain ⟨dd, hd, ho⟩ := tyOk_desc ht
  have slice : ∀ (e' : Ty), u = .slice e' → ∀ a k cap, x = .slice a k cap → (k : Int) = n → k ≤ maxLen → QOk P h S w m B M0 d (.one (.pv (.int .i64) n)) [] (Builtin.len_ #[t] ty #[x]) := by
    intro e' hu a k cap hx hk hm
    subst hu; subst hx; subst hk
    cases dd <;> (try cases ho)
    exact QOk.same M d (by simp [Builtin.len_, run_underlying hd]) (goInt_rel hm)
  unfold aLen at e
  split at e
  · simp only [Option.some.injEq] at e
    subst e
    obtain ⟨rfl, hl⟩ := inv_str r
    cases dd <;> (try cases ho)
    rename_i p
    have hsz : (ByteArray.mk ⟨p⟩).size = p.length := by simp [ByteArray.size]
    exact QOk.same M d (v' := goInt p.length) (by simp [Builtin.len_, run_underlying hd, hsz]) (goInt_rel hl)
  · simp only [Option.some.injEq] at e
    obtain ⟨_, hl, hr⟩ := r
    rcases hr with ⟨hx, hnil⟩ | ⟨a, cap, hx, _⟩
    · simp only [List.cons.injEq, and_true] at hx
      exact slice _ rfl none 0 0 hx (by rw [← e, hnil]; rfl) (Nat.zero_le _)
    · simp only [List.cons.injEq, and_true] at hx
      exact slice _ rfl _ _ _ hx e hl
  · simp only [Option.some.injEq] at e
    obtain ⟨o, r⟩ : ∃ o : Option Addr, x = .slice o 0 0 := r
    exact slice _ rfl o 0 0 r (by rw [← e]; rfl) (Nat.zero_le _)
  · rename_i id
    obtain ⟨⟨d', t', xs, ho'⟩, c, hc, rfl⟩ := r
    cases hgi : get id with
    | none => rw [hgi] at e; cases e
    | some o =>
      have := hg id o hgi (heap_ne ho')
      rw [ho'] at this
      cases this
      rw [hgi] at e
      simp only [Option.some.injEq] at e
      obtain ⟨c', hc', hr⟩ := M.obj id _ ho'
      obtain rfl : c' = c := Option.some.inj (hc'.symm.trans hc)
      obtain ⟨hl, a, cap, hv⟩ := arr_len hr
      exact slice _ rfl _ _ _ hv e hl
  · rename_i id i off e' y
    split at e
    · rename_i z hf
      simp only [Option.some.injEq] at e
      have hrep := cellTo_rep (get := h) M (fun _ _ e _ => e) (v := x) rfl (cellTo_sb hf) r
      obtain ⟨hl, hr⟩ := hrep
      rcases hr with ⟨hx, hnil⟩ | ⟨a, cap, hx, _⟩
      · simp only [List.cons.injEq, and_true] at hx
        exact slice _ rfl none 0 0 hx (by rw [← e, hnil]; rfl) (Nat.zero_le _)
      · simp only [List.cons.injEq, and_true] at hx
        exact slice _ rfl _ _ _ hx e hl
    · cases e
  · cases e

theorem q_min [Tabs] (M : Mem h S w m B M0) (d : Nat) {ts : Array TypeId} {ty : TypeId} {j : IntKind} {x y : Int} (hx : wfI j x) (hy : wfI j y) : QOk P h S w m B M0 d (.one (.pv (.int j) (bif decide (y < x) then y else x))) [] (Builtin.min_ ts ty #[.int j x, .int j y]) := by
  refine QOk.same M d (v' := .int j (if y < x then y else x)) (by simp [Builtin.min_, Builtin.min2]) ?_
  have : (bif decide (y < x) then y else x) = if y < x then y else x := by by_cases e : y < x <;> simp [e]
  rw [this]
  exact pv_int (by split <;> assumption)

theorem q_max [Tabs] (M : Mem h S w m B M0) (d : Nat) {ts : Array TypeId} {ty : TypeId} {j : IntKind} {x y : Int} (hx : wfI j x) (hy : wfI j y) : QOk P h S w m B M0 d (.one (.pv (.int j) (bif decide (x < y) then y else x))) [] (Builtin.max_ ts ty #[.int j x, .int j y]) := by
  refine QOk.same M d (v' := .int j (if x < y then y else x)) (by simp [Builtin.max_, Builtin.max2]) ?_
  have : (bif decide (x < y) then y else x) = if x < y then y else x := by by_cases e : x < y <;> simp [e]
  rw [this]
  exact pv_int (by split <;> assumption)

theorem q_extract [Tabs] (M : Mem h S w m B M0) (d : Nat) {l : List (Bool × List ACell)} {x : Value} (r : VRel h S w m (.tu l) x) {i : Nat} {p : Bool × List ACell} (hi : l[i]? = some p) : QOk P h S w m B M0 d (valOf p.1 p.2) [] (Instr.extract x i) := by
  obtain ⟨vs, rfl, hn, hr⟩ := r
  have hlt : i < vs.size := by rw [hn]; exact (List.getElem?_eq_some_iff.1 hi).1
  have h1 := hr i p vs[i] hi (by simp [hlt])
  refine QOk.same M d (v' := vs[i]) (by simp [Instr.extract, hlt]) ?_
  obtain ⟨b, cs⟩ := p
  cases b with
  | true => exact h1
  | false => obtain ⟨c, e, h1⟩ := h1; subst e; exact h1
end
end Go.Ab
