/-
  Operations that read their operands and nothing else: they come to the same value in every world.
-/
import Derived.Test.YtffmiefhnbkcbaaGreatXSeg
namespace Go.Ab
open Go Go.RowKit
section
variable {P : Program} {E : Env} {h get : HGet} {S : Blk} {w : World} {m : OMap} {B : Nat} {M0 : Blk}
theorem run_slice_pv [Tabs] {st : TypeId} {t : Ty} (ht : tyOk P st (.slice t) = true) {xs ys : List t.den} {x : Value} (r : CellRel h S w m (.pv (.slice t) xs) x) {lo hi : Option Value} {l q : Int}
    (hl : BoundIs lo 0 l) (hq : BoundIs hi xs.length q) (hs : sub xs l q = some ys) : ∃ v', (∀ w2, (Instr.sliceAt st x lo hi none).run P w2 = .ok v' w2) ∧ CellRel h S w m (.pv (.slice t) ys) v' := by
  obtain ⟨h0, h1, h2, rfl⟩ := sub_some hs
  obtain ⟨te, i, z, hu, hi', hsz, _⟩ := slice_ty ht
  obtain ⟨_, hlen, hr⟩ := r
  rcases hr with ⟨hx, rfl⟩ | ⟨a, cap, hx, hc, hb, hel⟩
  · simp only [List.cons.injEq, and_true] at hx
    subst hx
    simp only [List.length_nil] at h2 hq
    obtain rfl : q = 0 := by omega
    obtain rfl : l = 0 := by omega
    refine ⟨.slice none 0 0, fun w2 => ?_, ⟨rfl, by simp, .inl ⟨rfl, by simp⟩⟩⟩
    simp only [Instr.sliceAt, Sem.run_bind, run_underlying hu, Result.andThen_ok, Instr.slice, run_sliceBounds hl hq (Int.le_refl _) (Int.le_refl _) (by simp) (Nat.le_refl _), sizeOf, typeInfo, run_program, hi', Sem.run_pure]
    rfl
  · simp only [List.cons.injEq, and_true] at hx
    subst hx
    have hyl : ((xs.take q.toNat).drop l.toNat).length = q.toNat - l.toNat := by simp; omega
    refine ⟨.slice (if cap = l.toNat then some a else some (a.add (l.toNat * t.size))) (q.toNat - l.toNat) (cap - l.toNat), fun w2 => ?_, ⟨rfl, by rw [hyl]; omega, .inr ?_⟩⟩
    · simp only [Instr.sliceAt, Sem.run_bind, run_underlying hu, Result.andThen_ok, Instr.slice, run_sliceBounds hl hq h0 h1 h2 hc.1, sizeOf, typeInfo, run_program, hi', Sem.run_pure, hsz, Option.map_some]
    · refine ⟨if cap = l.toNat then a else a.add (l.toNat * t.size), cap - l.toNat, ?_, ⟨by rw [hyl]; omega, by omega⟩, ?_, fun j e hj => ?_⟩
      · rw [hyl]
        split <;> rfl
      · refine hb.imp (fun h => by rw [h]; simp) fun h => ?_
        obtain ⟨b, o, sp⟩ := a
        obtain ⟨k1, k2⟩ := h
        simp only at k1
        subst k1
        split
        · exact ⟨rfl, k2⟩
        · rw [add_none]; exact ⟨rfl, k2⟩
      · have hj' : j < q.toNat - l.toNat := by rw [← hyl]; exact (List.getElem?_eq_some_iff.1 hj).1
        rw [if_neg (by omega)]
        rw [List.getElem?_drop, List.getElem?_take, if_pos (by omega)] at hj
        obtain ⟨hsp, _⟩ := hb.resolve_left fun h => by rw [h] at hj; simp at hj
        obtain ⟨b, o, sp⟩ := a
        simp only at hsp hel
        subst hsp
        rw [add_none]
        obtain ⟨ds, k1, k2, k3⟩ := hel _ _ hj
        refine ⟨ds, k1, ?_, k3⟩
        simp only
        rw [show o + l.toNat * t.size + j * t.size = o + (l.toNat + j) * t.size by rw [Nat.add_mul]; omega]
        exact k2
theorem run_slice_str [Tabs] {st : TypeId} (ht : tyOk P st .str = true) {xs ys : Bytes} {x : Value} (r : CellRel h S w m (.pv .str xs) x) {lo hi : Option Value} {l q : Int}
    (hl : BoundIs lo 0 l) (hq : BoundIs hi xs.length q) (hs : sub xs l q = some ys) : ∃ v', (∀ w2, (Instr.sliceAt st x lo hi none).run P w2 = .ok v' w2) ∧ VRel h S w m (.one (.pv .str ys)) v' := by
  obtain ⟨h0, h1, h2, rfl⟩ := sub_some hs
  obtain ⟨dd, hd, ho⟩ := tyOk_desc ht
  cases dd <;> (try cases ho)
  obtain ⟨rfl, hlen⟩ := inv_str r
  have hsz : (ByteArray.mk ⟨xs⟩).size = xs.length := by simp [ByteArray.size]
  refine ⟨.string ⟨⟨(xs.take q.toNat).drop l.toNat⟩⟩, fun w2 => ?_, pv_str (by simp; omega)⟩
  simp only [Instr.sliceAt, Sem.run_bind, run_underlying hd, Result.andThen_ok, Instr.slice, Option.isSome_none, Bool.false_eq_true, if_false, hsz, run_sliceBounds hl hq h0 h1 h2 (Nat.le_refl _), Sem.run_pure, extract_mk]
theorem pure_run [Tabs] (hT : ∀ p ∈ E.T, tyOk P p.1 p.2 = true) (M : Mem h S w m B M0) (hg : ∀ id o, get id = some o → h id ≠ none → h id = some o) {d : Nat} {o : Oper} {ρ : Operand → Value} {ev : Operand → AVal} (hev : ∀ x ∈ o.op.operands, VRel h S w m (ev x) (ρ x)) {v : AVal} {os : AHeap} (e : (aQ E ev get d o.op).gives v os) (hp : pureOp o.op = true) :
    os = [] ∧ ∃ v', (∀ w2, (execOp ρ o).run P w2 = .ok (.value v') w2) ∧ VRel h S w m v v' := by
  have ty : ∀ {t : TypeId} {u : Ty}, look E.T t = some u → tyOk P t u = true := fun hl => hT _ (look_mem hl)
  obtain ⟨odst, op, oty, opos, oafter, oguard⟩ := o
  simp only at e hev hp
  unfold execOp
  cases op with
  | move x =>
    obtain ⟨rfl, rfl⟩ := e
    exact ⟨rfl, ρ x, fun _ => rfl, hev x (by simp [Op.operands])⟩
  | slice t x lo hi mx =>
    cases mx with
    | some mx => cases hp
    | none =>
      simp only [aQ] at e
      have hx := hev x (by simp [Op.operands])
      have hlo : ∀ y, lo = some y → VRel h S w m (ev y) (ρ y) := fun y hy => hev y (by simp [Op.operands, hy])
      have hhi : ∀ y, hi = some y → VRel h S w m (ev y) (ρ y) := fun y hy => hev y (by simp [Op.operands, hy])
      split at e
      · rename_i t' t1 xs hl hxs
        rw [hxs] at hx
        cases hu : decide (t1 = t') with
        | false => simp only [hu] at e; exact e.elim
        | true =>
          simp only [hu, cond_true] at e
          have hu := of_decide_eq_true hu
          subst hu
          split at e
          · rename_i l r hbl hbr
            obtain ⟨ys, hys, hv⟩ := e
            simp only [Prod.mk.injEq] at hv
            obtain ⟨rfl, rfl⟩ := hv
            obtain ⟨v', h1, h2⟩ := run_slice_pv (P := P) (h := h) (m := m) (ty hl) hx (bound_is hlo hbl) (bound_is hhi hbr) hys
            exact ⟨rfl, v', fun w2 => by simp [h1 w2], h2⟩
          · exact e.elim
      · rename_i xs hl hxs
        rw [hxs] at hx
        split at e
        · rename_i l r hbl hbr
          obtain ⟨ys, hys, hv⟩ := e
          simp only [Prod.mk.injEq] at hv
          obtain ⟨rfl, rfl⟩ := hv
          obtain ⟨v', h1, h2⟩ := run_slice_str (P := P) (h := h) (m := m) (ty hl) hx (bound_is hlo hbl) (bound_is hhi hbr) hys
          exact ⟨rfl, v', fun w2 => by simp [h1 w2], h2⟩
        · exact e.elim
      · rename_i t' id hl hxs
        rw [hxs] at hx
        split at e
        · rename_i dp t xs ho
          have hne : h id ≠ none := by obtain ⟨⟨_, _, _, hh⟩, _⟩ := hx; rw [hh]; simp
          have ho' := hg id _ ho hne
          cases hu : (decide (t = t') && E.win.any (Nat.beq d)) with
          | false => simp only [hu] at e; exact e.elim
          | true =>
            simp only [hu, cond_true] at e
            simp only [Bool.and_eq_true, decide_eq_true_eq] at hu
            obtain ⟨rfl, _⟩ := hu
            split at e
            · rename_i l r hbl hbr
              obtain ⟨hc, rfl, rfl⟩ := e
              simp only [Bool.and_eq_true, decide_eq_true_eq] at hc
              obtain ⟨v', q1, q2⟩ := q_slice_os (P := P) M (ty hl) ho' hx (bound_is hlo hbl) (bound_is hhi hbr) hc.1 hc.2.1 hc.2.2
              exact ⟨rfl, v', fun w2 => by simp [q1 w2], q2⟩
            · exact e.elim
        · exact e.elim
      · exact e.elim
  | _ => cases hp
end
end Go.Ab
