/-
  All operations that turn no object, in one statement.
-/
import Derived.Test.YtlhplhjibadplaaXApp0
import Derived.Laws.BytesString
namespace Go.Ab
open Go Go.RowKit

section
variable {P : Program} {E : Env} {h get : HGet} {S : Blk} {w : World} {m : OMap} {B : Nat} {M0 : Blk}

/-- the operation runs to a value, and what it leaves -/
def QRuns (P : Program) (h : HGet) (S : Blk) (w : World) (m : OMap) (B : Nat) (M0 : Blk) (d : Nat) (v : AVal) (os : AHeap) (x : Sem Next) : Prop :=
  ∃ v' w' S' m', x.run P w = .ok (.value v') w' ∧ QPost h S w m B M0 d v os v' w' S' m'

theorem QOk.runs {d : Nat} {v : AVal} {os : AHeap} {x : Sem Value} (q : QOk P h S w m B M0 d v os x) : QRuns P h S w m B M0 d v os (do pure (.value (← x))) := by
  obtain ⟨v', w', S', m', hx, hp⟩ := q
  exact ⟨v', w', S', m', by simp [hx], hp⟩

theorem bound_is [Tabs] {ev : Operand → AVal} {ρ : Operand → Value} {dflt n : Int} {o : Option Operand} (hev : ∀ x, o = some x → VRel h S w m (ev x) (ρ x)) (e : bound ev dflt o = some n) : BoundIs (o.map ρ) dflt n := by
  cases o with
  | none => simp only [bound, Option.some.injEq] at e; exact e.symm
  | some x =>
    have hr := hev x rfl
    simp only [bound, intOp] at e
    split at e
    · rename_i k hk
      simp only [Option.some.injEq] at e
      subst e
      rw [hk] at hr
      exact (inv_int (h := h) (m := m) hr).1
    · cases e

theorem parts_rel {ev : Operand → AVal} {ρ : Operand → Value} {ps : Array (Nat × Operand)} (hev : ∀ p ∈ ps.toList, VRel h S w m (ev p.2) (ρ p.2)) :
    ∀ (k i : Nat) (a : AVal), (ps.toList.map fun p => (p.1, ev p.2))[k]? = some (i, a) → ∃ v, (ps.map fun (i, x) => (i, ρ x))[k]? = some (i, v) ∧ VRel h S w m a v := by
  intro k i a hk
  rw [List.getElem?_map] at hk
  cases hp : ps.toList[k]? with
  | none => rw [hp] at hk; cases hk
  | some p =>
    rw [hp] at hk
    simp only [Option.map_some, Option.some.injEq, Prod.mk.injEq] at hk
    obtain ⟨rfl, rfl⟩ := hk
    refine ⟨ρ p.2, ?_, hev p (List.mem_of_getElem? hp)⟩
    have : ps[k]? = some p := by simpa using hp
    simp [this]

theorem map_one {α β : Type} {f : α → β} {l : List α} {x : β} (e : l.map f = [x]) : ∃ a, l = [a] ∧ f a = x := by
  match l, e with
  | [a], e => exact ⟨a, rfl, by simpa using e⟩
theorem map_two {α β : Type} {f : α → β} {l : List α} {x y : β} (e : l.map f = [x, y]) : ∃ a b, l = [a, b] ∧ f a = x ∧ f b = y := by
  match l, e with
  | [a, b], e => exact ⟨a, b, rfl, by simpa using e⟩

theorem foldl_push : ∀ (l : List Int) (b : Bytes), l.foldl (fun (r : ByteArray) n => r.push (UInt8.ofNat n.toNat)) ⟨⟨b⟩⟩ = ⟨⟨b ++ toStr l⟩⟩
  | [], b => by simp [toStr]
  | n :: l, b => by
    have e : (ByteArray.mk ⟨b⟩).push (UInt8.ofNat n.toNat) = ⟨⟨b ++ [UInt8.ofNat n.toNat]⟩⟩ := by
      simp [ByteArray.push]
    rw [List.foldl_cons, e, foldl_push l]
    simp [toStr]

theorem q_toStr [Tabs] (M : Mem h S w m B M0) (hg : ∀ id o, get id = some o → h id ≠ none → h id = some o) (d : Nat) {src dst : TypeId} (hs : tyOk P src (.slice (.int .u8)) = true) (hd : tyOk P dst .str = true) {c : ACell} {x : Value} {xs : List Int}
    (e : cellToG get (.slice (.int .u8)) c = some xs) (r : CellRel h S w m c x) : QOk P h S w m B M0 d (.one (.pv .str (toStr xs))) [] (convert src dst x) := by
  obtain ⟨te, i, z, hd1, hi, _⟩ := slice_ty hs
  obtain ⟨d2, hd2, ho2⟩ := tyOk_desc hd
  have e2 : d2 = .string := by cases d2 <;> (try cases ho2); rfl
  subst e2
  obtain ⟨d1', hd1', ho1⟩ := tyOk_desc hs
  have e1 : d1' = .slice te := Option.some.inj (hd1'.symm.trans hd1)
  subst e1
  have hrep := cellTo_rep M hg (t := .slice (.int .u8)) rfl e r
  obtain ⟨hl, hr⟩ := hrep
  have hte : P.underlying te = some (.int .u8) := by
    simp only [descOk] at ho1
    cases hi' : P.info? te with
    | none => rw [hi'] at ho1; cases ho1
    | some i' =>
      rw [hi'] at ho1
      simp only [Bool.and_eq_true] at ho1
      have h5 := ho1.2
      unfold elemOk at h5
      simp only at h5
      split at h5
      · rename_i k' hk
        rw [hk, ← of_decide_eq_true h5]
      · cases h5
  refine QOk.same M d (v' := .string ⟨⟨toStr xs⟩⟩) ?_ (pv_str (by simpa [toStr] using hl))
  rcases hr with ⟨hx, hnil⟩ | ⟨a, cap, hx, hc, hb, he⟩
  · simp only [List.cons.injEq, and_true] at hx
    subst hx; subst hnil
    rw [run_convert_bytes_string w src dst te none 0 0 hd1 hte hd2]
    simp [Conv.bytesToString, toStr]
    rfl
  · simp only [List.cons.injEq, and_true] at hx
    subst hx
    rw [run_convert_bytes_string w src dst te _ _ _ hd1 hte hd2]
    rw [run_bytesToString w a _ cap xs ?_]
    · rw [show ByteArray.empty = ⟨⟨[]⟩⟩ from rfl, foldl_push]
      simp
    · have := run_loadCells_list (P := P) (w := w) a (xs.map (Value.int .u8)) ?_
      · simpa using this
      · intro j v hj
        rw [List.getElem?_map] at hj
        cases hxj : xs[j]? with
        | none => rw [hxj] at hj; cases hj
        | some n =>
          rw [hxj] at hj
          simp only [Option.map_some, Option.some.injEq] at hj
          subst hj
          obtain ⟨ds, h1, h2, h3⟩ := he j n hxj
          have hds : ds = [.int .u8 n] := h3.1
          subst hds
          have := h2 0 _ rfl
          rcases hb with hb | hb
          · rw [hb] at hxj; simp at hxj
          · have ea : a.add j = ⟨a.block, a.off + j * 1 + 0, none⟩ := by
              obtain ⟨b, o, sp⟩ := a
              have : sp = none := hb.1
              subst this
              rw [add_none]
              simp
            rw [ea]
            exact this

theorem q_buildSlice0 [Tabs] (M : Mem h S w m B M0) (hB : B ≤ w.heap.size) (d : Nat) {t : TypeId} {u : Ty} (ht : tyOk P t (.slice u) = true) {vl : Array (Nat × Value)} (hvl : vl.size = 0) : QOk P h S w m B M0 d (.one .nils) [] (Instr.buildSlice t 0 vl) := by
  have hvl : vl = #[] := Array.eq_empty_of_size_eq_zero hvl
  subst hvl
  obtain ⟨te, i, z, hu, hi, hs, hpos, hz, hzz, hby⟩ := slice_ty ht
  refine ⟨.slice (some ⟨w.heap.size, 0, none⟩) 0 0, w.alloc (.cells #[] te), S, m, ?_, QPost.grown M hB d (Grow.alloc w #[] te) ⟨_, rfl⟩⟩
  simp [Instr.buildSlice, run_underlying hu, sizeOf, typeInfo, hi, Instr.fill, newRow, newObj]
  have h0 : Array.map (fun _ => (default : Value)) (Array.range 0) = #[] := Array.eq_empty_of_size_eq_zero (by simp)
  rw [h0]
  rfl

theorem q_appendNil [Tabs] (M : Mem h S w m B M0) (hB : B ≤ w.heap.size) (hg : ∀ id o, get id = some o → h id ≠ none → h id = some o) {d : Nat} (hfr : ∀ id, d * 16 ≤ id → id ≤ d * 16 + 15 → h id = none) {st oty : TypeId} {t : Ty} (ht : tyOk P st (.slice t) = true) {cx : ACell} {ys : List t.den}
    (hs : srcOf get t cx = some ys) (hle : ys.length ≤ lim) (hi : t.leads = true → idsOf [cx] = []) {x y : Value} (hx : CellRel h S w m .nils x) (hy : CellRel h S w m cx y) :
    QOk P h S w m B M0 d (.one (.os (d * 16))) [(d * 16, .arr (!t.leads || cx.isNils) t ys)] (Builtin.append_ #[st, st] oty #[x, y]) := by
  obtain ⟨te, i, z, hu, hinf, hsz, hpos, hz, hzz, hby⟩ := slice_ty ht
  have hzs : z.cells.size = t.size := by
    obtain ⟨p', hp', _, hrep, _⟩ := isZ_spec (S := S) (w := w) (h := h) (m := m) t _ _ hzz
    rw [List.append_nil] at hp'
    rw [← hp'] at hrep
    simpa using hrep.len
  obtain ⟨o, rfl⟩ : ∃ o : Option Addr, x = .slice o 0 0 := hx
  have hrep : Rep (Plus m h S (idsOf [cx])) w (.slice t) [y] ys := cellTo_rep M hg rfl hs hy
  have rows := hrep.rows
  generalize hdp : (!t.leads || cx.isNils) = dp
  have own : dp = true → ∀ (i : Nat) u, ys[i]? = some u → t.leads = false := fun h i u hi => by
    subst hdp
    cases hl : t.leads with
    | false => rfl
    | true =>
      rw [hl] at h
      cases cx with
      | nils => cases (Option.some.inj hs : ([] : List t.den) = ys); simp at hi
      | _ => cases h
  have hEl : ∀ (i : Nat) u ds, ys[i]? = some u → Rep (Plus m h S (idsOf [cx])) w t ds u → El S w dp t ds u (fun _ => False) := fun i u ds hi' r => by
    cases dp with
    | true => exact Rep.own_plain (own rfl i u hi') r
    | false =>
      refine ⟨?_, fun _ h => h⟩
      cases hl : t.leads with
      | false => exact Rep.any_leads hl r
      | true =>
        have := hi hl
        rw [this] at r
        exact r.mono (fun q hq => hq.elim (fun h => h) fun ⟨_, h, _⟩ => by cases h) (fun _ _ => rfl) (Nat.le_refl _)
  obtain ⟨v', w', F', hrun, g1, g2, g3, g4, g5, g6, g7, g8⟩ := append_arr (P := P) (ty := oty) hu hinf hsz hz hzs hby (S := S) (D := dp) (v := .slice o 0 0) (x := y) (xs := []) (F := fun _ => False) (.inl ⟨⟨_, rfl⟩, rfl, fun _ h => h⟩) rows
    hEl (by simpa using hle) (fun q hq => ⟨M.lt q hq, fun h => h⟩)
  rw [List.nil_append] at g7
  exact ⟨v', w', S, _, hrun, QPost.newArr M hB hfr ⟨g3, g4, g5, g1, fun q hq => g2 q hq fun h => h, fun a _ => g6 a⟩ g7 fun q hq => (g8 q hq).resolve_left fun h => h⟩

theorem aQ_sound [Tabs] (hT : ∀ p ∈ E.T, tyOk P p.1 p.2 = true) (M : Mem h S w m B M0) (hB : B ≤ w.heap.size) (hg : ∀ id o, get id = some o → h id ≠ none → h id = some o) {d : Nat} (hfr : ∀ id, d * 16 ≤ id → id ≤ d * 16 + 15 → h id = none)
    {o : Oper} {ρ : Operand → Value} {ev : Operand → AVal} (hev : ∀ x ∈ o.op.operands, VRel h S w m (ev x) (ρ x)) {v : AVal} {os : AHeap} (e : (aQ E ev get d o.op).gives v os) : QRuns P h S w m B M0 d v os (execOp ρ o) := by
  have ty : ∀ {t : TypeId} {u : Ty}, look E.T t = some u → tyOk P t u = true := fun hl => hT _ (look_mem hl)
  obtain ⟨odst, op, oty, opos, oafter, oguard⟩ := o
  simp only at e hev
  unfold execOp
  cases op with
  | move x =>
    obtain ⟨rfl, rfl⟩ := e
    exact ⟨ρ x, w, S, m, rfl, QPost.same M d (hev x (by simp [Op.operands]))⟩
  | assign x =>
    obtain ⟨rfl, rfl⟩ := e
    exact ⟨ρ x, w, S, m, rfl, QPost.same M d (hev x (by simp [Op.operands]))⟩
  | alloc t =>
    simp only [aQ] at e
    cases hl : look E.T t with
    | none => rw [hl] at e; exact e.elim
    | some u =>
      rw [hl] at e
      obtain ⟨rfl, rfl⟩ := e
      exact (q_alloc M hB hfr (ty hl)).runs
  | box t x =>
    simp only [aQ] at e
    have hx := hev x (by simp [Op.operands])
    cases hl : look E.T t with
    | none => rw [hl] at e; exact e.elim
    | some u =>
      rw [hl] at e
      cases hs : ((ev x).solid && Nat.beq (ev x).cells.length u.size) with
      | false => simp only [hs] at e; exact e.elim
      | true =>
        simp only [hs, cond_true] at e
        rw [Bool.and_eq_true] at hs
        cases hr : E.ro.any (Nat.beq d) with
        | false =>
          simp only [hr, cond_false] at e
          obtain ⟨rfl, rfl⟩ := e
          exact (q_box M hB hfr hx hs.1).runs
        | true =>
          simp only [hr, cond_true] at e
          split at e
          · rename_i y hi hy
            obtain ⟨rfl, rfl⟩ := e
            exact (q_roBox M hB hg hx hs.1 (Nat.eq_of_beq_eq_true hs.2) hi hy).runs
          · exact e.elim
  | build t ps =>
    simp only [aQ] at e
    cases hl : lookS E.T t with
    | none => rw [hl] at e; exact e.elim
    | some u =>
      rw [hl] at e
      simp only at e
      cases hf : fillParts u (zcells u) (ps.toList.map fun p => (p.1, ev p.2)) with
      | none => rw [hf] at e; exact e.elim
      | some cs =>
        rw [hf] at e
        cases ha : u.isAgg with
        | false => simp only [ha] at e; exact e.elim
        | true =>
          simp only [ha, cond_true] at e
          obtain ⟨rfl, rfl⟩ := e
          exact (q_build M d (ty (lookS_spec hl).1) (lookS_spec hl).2 ha hf (by simp) (parts_rel fun p hp => hev p.2 (by simp only [Op.operands]; simp; exact ⟨p.1, by simpa using hp⟩))).runs
  | buildSlice t n ps =>
    simp only [aQ] at e
    split at e
    · rename_i u hl
      cases hb : (Nat.beq ps.size n && Nat.ble (n * u.size) 16777216) with
      | false => simp only [hb] at e; exact e.elim
      | true =>
        simp only [hb, cond_true] at e
        rw [Bool.and_eq_true] at hb
        cases hn0 : Nat.beq n 0 with
        | true =>
          simp only [hn0, cond_true] at e
          obtain ⟨rfl, rfl⟩ := e
          have := Nat.eq_of_beq_eq_true hn0
          subst this
          have := q_buildSlice0 M hB d (ty hl) (vl := ps.map fun (i, x) => (i, ρ x)) (by rw [Array.size_map]; exact Nat.eq_of_beq_eq_true hb.1)
          exact this.runs
        | false =>
        simp only [hn0, cond_false] at e
        split at e
        · rename_i xs hi hx
          cases hro : E.ro.any (Nat.beq d) with
          | true =>
            rw [hro] at e
            obtain ⟨rfl, rfl⟩ := e
            have := q_roSlice (n := n) M hB hg (ty hl) hx (by simp; exact Nat.eq_of_beq_eq_true hb.1) (vl := ps.map fun (i, x) => (i, ρ x)) (by simp) (Nat.le_of_ble_eq_true hb.2)
              (parts_rel fun p hp => hev p.2 (by simp only [Op.operands]; simp; exact ⟨p.1, by simpa using hp⟩)) (by simpa [List.flatMap_map] using hi) (d := d)
            exact this.runs
          | false =>
          rw [hro] at e
          obtain ⟨rfl, rfl⟩ := e
          have := q_buildSlice (n := n) M hB hg hfr (ty hl) hx (by simp; exact Nat.eq_of_beq_eq_true hb.1) (vl := ps.map fun (i, x) => (i, ρ x)) (by simp) (Nat.le_of_ble_eq_true hb.2)
            (parts_rel fun p hp => hev p.2 (by simp only [Op.operands]; simp; exact ⟨p.1, by simpa using hp⟩)) (by simpa [List.flatMap_map] using hi)
          simp only [List.flatMap_map] at this
          exact this.runs
        · exact e.elim
    · exact e.elim
  | load t a =>
    simp only [aQ] at e
    have ha := hev a (by simp [Op.operands])
    split at e
    · rename_i u c hl hc
      rw [hc] at ha
      unfold aLoad at e
      split at e
      · rename_i u' x
        split at e
        · rename_i y hy
          obtain ⟨rfl, rfl⟩ := cast?_some hy
          obtain ⟨rfl, rfl⟩ := e
          exact (q_load_pc M d (ty hl) ha).runs
        · exact e.elim
      · rename_i id off
        split at e
        · rename_i cs ho
          cases hb : Nat.ble (off + u.size) cs.length with
          | false => simp only [hb] at e; exact e.elim
          | true =>
            simp only [hb, cond_true] at e
            obtain ⟨rfl, rfl⟩ := e
            have hne : h id ≠ none := by obtain ⟨⟨cs', hh⟩, _⟩ := ha; exact heap_ne hh
            exact (q_load_op M d (ty hl) ha (hg id _ ho hne) (Nat.le_of_ble_eq_true hb)).runs
        · exact e.elim
      · rename_i id i off
        split at e
        · rename_i dp el xs ho
          have hne : h id ≠ none := by obtain ⟨⟨_, _, _, hh, _⟩, _⟩ := ha; exact heap_ne hh
          have ho' := hg id _ ho hne
          cases hb : Nat.ble (off + u.size) el.size with
          | false => simp only [hb] at e; exact e.elim
          | true =>
            simp only [hb, cond_true] at e
            cases hp : (!dp || plainIn (((flat el el.zero).drop off).take u.size)) with
            | true =>
              simp only [hp, cond_true] at e
              obtain ⟨y, hy, hv⟩ := e
              simp only [Prod.mk.injEq] at hv
              obtain ⟨rfl, rfl⟩ := hv
              exact (q_load_oe M d (ty hl) ha ho' (Nat.le_of_ble_eq_true hb) hy hp).runs
            | false =>
              simp only [hp, cond_false] at e
              have hdp : dp = true := by cases dp <;> simp_all
              subst hdp
              split at e
              · rename_i u1 z u2 hz
                cases hu : decide (u1 = u2) with
                | false => simp only [hu] at e; exact e.elim
                | true =>
                  simp only [hu, cond_true] at e
                  have hu := of_decide_eq_true hu
                  subst hu
                  obtain ⟨y, hy, hv⟩ := e
                  simp only [Prod.mk.injEq] at hv
                  obtain ⟨rfl, rfl⟩ := hv
                  exact (q_load_sb M d (ty hl) ha ho' (Nat.le_of_ble_eq_true hb) hy hz).runs
              · exact e.elim
        · exact e.elim
      · exact e.elim
    · exact e.elim
  | binOp bop t x y t' =>
    simp only [aQ] at e
    have hx := hev x (by simp [Op.operands])
    have hy := hev y (by simp [Op.operands])
    split at e
    · rename_i a b ha hb
      rw [ha] at hx
      rw [hb] at hy
      have := q_bin (ox := x) (oy := y) M d (xT := t) (fun htb => by
        split at htb
        · rename_i hl; exact ty hl
        · cases htb) e hx hy
      exact this.runs
    · exact e.elim
  | unOp uop t x =>
    simp only [aQ] at e
    have hx := hev x (by simp [Op.operands])
    split at e
    · rename_i a ha
      rw [ha] at hx
      exact (q_un M d e hx).runs
    · exact e.elim
  | makeSlice t l c =>
    simp only [aQ] at e
    have h1 := hev l (by simp [Op.operands])
    have h2 := hev c (by simp [Op.operands])
    split at e
    · rename_i u n k hl hn hk
      rw [hn] at h1
      rw [hk] at h2
      obtain ⟨hc, rfl, rfl⟩ := e
      simp only [Bool.and_eq_true, decide_eq_true_eq] at hc
      obtain ⟨e1, _⟩ := inv_int (h := h) (S := S) (w := w) (m := m) h1
      obtain ⟨e2, _⟩ := inv_int (h := h) (S := S) (w := w) (m := m) h2
      simp only [e1, e2]
      exact (q_makeSlice M hB hfr (ty hl) hc.1.1 hc.1.2 hc.2).runs
    · exact e.elim
  | slice t x lo hi mx =>
    cases mx with
    | some mx =>
      cases hi with
      | none => simp only [aQ] at e; exact e.elim
      | some hi =>
      simp only [aQ] at e
      have hx := hev x (by simp [Op.operands])
      have hlo : ∀ y, lo = some y → VRel h S w m (ev y) (ρ y) := fun y hy => hev y (by simp [Op.operands, hy])
      have hhi : VRel h S w m (ev hi) (ρ hi) := hev hi (by simp [Op.operands])
      have hmx : VRel h S w m (ev mx) (ρ mx) := hev mx (by simp [Op.operands])
      split at e
      · rename_i t' t1 xs l r n hl hxs hbl hbr hbm
        rw [hxs] at hx
        cases hu : (decide (t1 = t') && (decide (l = 0) && decide (r = 0) && decide (n = 0))) with
        | false => simp only [hu] at e; exact e.elim
        | true =>
          simp only [hu, cond_true] at e
          simp only [Bool.and_eq_true, decide_eq_true_eq] at hu
          obtain ⟨rfl, ⟨rfl, rfl⟩, rfl⟩ := hu
          obtain ⟨rfl, rfl⟩ := e
          have e1 : ρ hi = .int .i64 0 := bound_is (dflt := 0) (o := some hi) (fun y hy => by cases hy; exact hhi) (by simpa [bound] using hbr)
          have e2 : ρ mx = .int .i64 0 := bound_is (dflt := 0) (o := some mx) (fun y hy => by cases hy; exact hmx) (by simpa [bound] using hbm)
          have q := q_slice_zero M hB hfr (ty hl) hx (bound_is hlo hbl)
          simp only [Option.map_some, e1, e2]
          exact q.runs
      · exact e.elim
    | none =>
      simp only [aQ] at e
      have hx := hev x (by simp [Op.operands])
      have hlo : ∀ y, lo = some y → VRel h S w m (ev y) (ρ y) := fun y hy => hev y (by simp [Op.operands, hy])
      have hhi : ∀ y, hi = some y → VRel h S w m (ev y) (ρ y) := fun y hy => hev y (by simp [Op.operands, hy])
      split at e
      · rename_i t' t1 xs hl hxs
        rw [hxs] at hx
        cases hu : decide (t1 = t') with
        | false => simp only [hu] at e; exact e.elim
        | true =>
          simp only [hu, cond_true] at e
          have hu := of_decide_eq_true hu
          subst hu
          split at e
          · rename_i l r hbl hbr
            obtain ⟨ys, hys, hv⟩ := e
            simp only [Prod.mk.injEq] at hv
            obtain ⟨rfl, rfl⟩ := hv
            exact (q_slice_pv M d (ty hl) hx (bound_is hlo hbl) (bound_is hhi hbr) hys).runs
          · exact e.elim
      · rename_i xs hl hxs
        rw [hxs] at hx
        split at e
        · rename_i l r hbl hbr
          obtain ⟨ys, hys, hv⟩ := e
          simp only [Prod.mk.injEq] at hv
          obtain ⟨rfl, rfl⟩ := hv
          exact (q_slice_str M d (ty hl) hx (bound_is hlo hbl) (bound_is hhi hbr) hys).runs
        · exact e.elim
      · exact e.elim
  | fieldAddr t a f =>
    simp only [aQ] at e
    have ha := hev a (by simp [Op.operands])
    split at e
    · rename_i u c hl hc
      rw [hc] at ha
      cases hf : fieldAt u f with
      | none => rw [hf] at e; exact e.elim
      | some p =>
        rw [hf] at e
        refine (q_fieldAddr M d (ty (lookS_spec hl).1) (lookS_spec hl).2 hf ha ?_).runs
        cases c <;> exact e
    · exact e.elim
  | field t x f =>
    simp only [aQ] at e
    have hx := hev x (by simp [Op.operands])
    split at e
    · rename_i u cs hl hc
      rw [hc] at hx
      split at e
      · rename_i p hf
        cases hb : Nat.ble (p.1 + p.2.size) cs.length with
        | false => simp only [hb] at e; exact e.elim
        | true =>
          simp only [hb, cond_true] at e
          obtain ⟨rfl, rfl⟩ := e
          exact (q_field M d (ty (lookS_spec hl).1) (lookS_spec hl).2 hf hx (Nat.le_of_ble_eq_true hb)).runs
      · exact e.elim
    · exact e.elim
  | indexAddr t x i =>
    simp only [aQ] at e
    have hx := hev x (by simp [Op.operands])
    have hi := hev i (by simp [Op.operands])
    split at e
    · rename_i t' t1 xs k n hl hxs hn
      rw [hxs] at hx
      rw [hn] at hi
      cases hu : decide (t1 = t') with
      | false => simp only [hu] at e; exact e.elim
      | true =>
        simp only [hu, cond_true] at e
        have hu := of_decide_eq_true hu
        subst hu
        obtain ⟨y, hy, hv⟩ := e
        simp only [Prod.mk.injEq] at hv
        obtain ⟨rfl, rfl⟩ := hv
        have := (q_index_pv (P := P) (k := k) M d (ty hl) hx hy).runs
        rw [← (inv_int (h := h) (S := S) (w := w) (m := m) hi).1] at this
        exact this
    · rename_i t' id k n hl hxs hn
      rw [hxs] at hx
      rw [hn] at hi
      split at e
      · rename_i dp t1 xs ho
        cases hu : decide (t1 = t') with
        | false => simp only [hu] at e; exact e.elim
        | true =>
          simp only [hu, cond_true] at e
          have hu := of_decide_eq_true hu
          subst hu
          obtain ⟨hc, rfl, rfl⟩ := e
          simp only [Bool.and_eq_true, decide_eq_true_eq] at hc
          have hne : h id ≠ none := by obtain ⟨⟨_, _, _, hh⟩, _⟩ := hx; exact heap_ne hh
          have := (q_index_os (P := P) (k := k) M d (ty hl) hx (hg id _ ho hne) hc.1 hc.2).runs
          rw [← (inv_int (h := h) (S := S) (w := w) (m := m) hi).1] at this
          exact this
      · exact e.elim
    · rename_i t' id i1 off e1 y1 k n hl hxs hn
      rw [hxs] at hx
      rw [hn] at hi
      split at e
      · rename_i u z hf
        cases hu : decide (u = t') with
        | false => simp only [hu] at e; exact e.elim
        | true =>
          simp only [hu, cond_true] at e
          have hu := of_decide_eq_true hu
          subst hu
          obtain ⟨hc, rfl, rfl⟩ := e
          simp only [Bool.and_eq_true, decide_eq_true_eq] at hc
          have := (q_index_sb (P := P) (k := k) M d (ty hl) hx hf hc.1 hc.2).runs
          rw [← (inv_int (h := h) (S := S) (w := w) (m := m) hi).1] at this
          exact this
      · exact e.elim
    · rename_i u id off k n hl hxs hn
      rw [hxs] at hx
      rw [hn] at hi
      split at e
      · rename_i p hp
        cases hb : decide (0 ≤ n) && decide (n < p.1) with
        | false => rw [hb] at e; exact e.elim
        | true =>
          rw [hb] at e
          simp only [cond_true] at e
          obtain ⟨rfl, rfl⟩ := e
          simp only [Bool.and_eq_true, decide_eq_true_eq] at hb
          have := (q_index_arr (P := P) (k := k) M d (ty hl) hp hx hb.1 hb.2).runs
          rw [← (inv_int (h := h) (S := S) (w := w) (m := m) hi).1] at this
          exact this
      · exact e.elim
    · exact e.elim
  | index t x i =>
    simp only [aQ] at e
    have hx := hev x (by simp [Op.operands])
    have hi := hev i (by simp [Op.operands])
    split at e
    · rename_i xs k n hl hxs hn
      rw [hxs] at hx
      rw [hn] at hi
      obtain ⟨y, hy, hv⟩ := e
      simp only [Prod.mk.injEq] at hv
      obtain ⟨rfl, rfl⟩ := hv
      have := (q_index_str (P := P) (k := k) M d (ty hl) hx hy).runs
      rw [← (inv_int (h := h) (S := S) (w := w) (m := m) hi).1] at this
      exact this
    · exact e.elim
  | extract x i =>
    simp only [aQ] at e
    have hx := hev x (by simp [Op.operands])
    split at e
    · rename_i l hl
      rw [hl] at hx
      split at e
      · rename_i p hp
        obtain ⟨rfl, rfl⟩ := e
        exact (q_extract M d hx hp).runs
      · exact e.elim
    · exact e.elim
  | makeFunc fn first captured =>
    simp only [aQ] at e
    split at e
    · rename_i g caps h1 h2
      obtain ⟨rfl, rfl⟩ := e
      refine ⟨.func (.func g) #[] (captured.map ρ), w, S, m, ?_, QPost.same M d ⟨_, rfl, ?_⟩⟩
      · have hf : first = #[] := by rw [← Array.toArray_toList (xs := first), h1]
        subst hf
        simp [Instr.makeFunc]
      · rw [Array.toList_map]
        have : ∀ (l : List Operand) (caps : List Cap), pcsOf (l.map ev) = some caps → (∀ x ∈ l, VRel h S w m (ev x) (ρ x)) → CapsRel S w caps (l.map ρ) := by
          intro l
          induction l with
          | nil => intro caps e _; cases e; rfl
          | cons x l ih =>
            intro caps e hx
            simp only [List.map_cons] at e
            cases hc : ev x with
            | one c =>
              rw [hc] at e
              cases c with
              | pc t y =>
                simp only [pcsOf, Option.bind_eq_some_iff, Option.some.injEq] at e
                obtain ⟨l', e1, rfl⟩ := e
                have h0 := hx x (by simp)
                rw [hc] at h0
                exact ⟨ρ x, l.map ρ, rfl, h0, ih l' e1 fun y hy => hx y (by simp [hy])⟩
              | _ => cases e
            | _ => rw [hc] at e; cases e
        exact this captured.toList caps h2 fun x hx => hev x (by simp [Op.operands]; exact .inr (Array.mem_toList_iff.1 hx))
    · exact e.elim
  | convert src dst x =>
    simp only [aQ] at e
    split at e
    · rename_i k0 k k1 n h1 h2 h3
      obtain ⟨rfl, rfl⟩ := e
      have hx := hev x (by simp [Op.operands])
      rw [h3] at hx
      obtain ⟨_, hv, hw⟩ := hx
      have hv : ρ x = .int k1 n := by simpa using hv
      obtain ⟨d1, hd1, ho1⟩ := tyOk_desc (ty h1)
      obtain ⟨d2, hd2, ho2⟩ := tyOk_desc (ty h2)
      have int_of : ∀ {dd : TypeDesc} {kk : IntKind}, descOk P dd (.int kk) = true → dd = .int kk := fun {dd kk} h => by
        cases dd <;> simp [descOk, Ty.isAgg] at h
        subst h; rfl
      have e2 : d2 = .int k := int_of ho2
      have e1 : ∃ kk, d1 = .int kk := ⟨_, int_of ho1⟩
      obtain ⟨kk, rfl⟩ := e1
      subst e2
      refine ⟨.int k (k.wrap n), w, S, m, ?_, QPost.same M d (pv_int (wfI_wrap k n))⟩
      simp only [hv]
      simp [convert, run_underlying hd1, run_underlying hd2, Conv.intToInt]
    · rename_i c h1 h2 h3
      split at e
      · rename_i xs hxs
        obtain ⟨rfl, rfl⟩ := e
        have hx := hev x (by simp [Op.operands])
        rw [h3] at hx
        exact (q_toStr M hg d (ty h1) (ty h2) hxs hx).runs
      · exact e.elim
    · exact e.elim
  | nilCheck x =>
    simp only [aQ] at e
    have hx := hev x (by simp [Op.operands])
    have keep : ∀ (c : ACell), VRel h S w m (.one c) (ρ x) → (∃ a, ρ x = .pointer (some a)) → QRuns P h S w m B M0 d (.one c) [] (execOp ρ ⟨odst, .nilCheck x, oty, opos, oafter, oguard⟩) := by
      intro c hc ⟨a, ha⟩
      refine ⟨.pointer (some a), w, S, m, ?_, QPost.same M d (ha ▸ hc)⟩
      simp only [execOp, ha]
      rfl
    split at e
    · rename_i id off hc
      obtain ⟨rfl, rfl⟩ := e
      rw [hc] at hx
      exact keep _ hx (by obtain ⟨_, _, b, _, _, h3⟩ := hx; exact ⟨_, h3⟩)
    · rename_i id i off hc
      obtain ⟨rfl, rfl⟩ := e
      rw [hc] at hx
      exact keep _ hx (by obtain ⟨_, _, _, _, _, _, _, h3⟩ := hx; exact ⟨_, h3⟩)
    · rename_i t y hc
      obtain ⟨rfl, rfl⟩ := e
      rw [hc] at hx
      exact keep _ hx (by obtain ⟨_, _, _, h3, _⟩ := hx; exact ⟨_, h3⟩)
    · exact e.elim
  | call c =>
    simp only [aQ] at e
    obtain ⟨callee, args, argTypes⟩ := c
    have harg : ∀ x ∈ args, VRel h S w m (ev x) (ρ x) := fun x hx => hev x (by simp [Op.operands, Call.operands, hx])
    cases callee with
    | value f => exact e.elim
    | invoke r n => exact e.elim
    | builtin b =>
      obtain ⟨args⟩ := args
      cases b <;> simp only at e <;> (try exact e.elim)
      · -- append
        split at e
        · rename_i st st' cx hts has
          obtain rfl : argTypes = #[st, st'] := Array.ext' hts
          obtain ⟨a, b, rfl, ha, hb⟩ := map_two has
          have h1 := harg a (by simp)
          have h2 := harg b (by simp)
          rw [ha] at h1
          rw [hb] at h2
          split at e
          · rename_i t hl
            cases hc : (Nat.beq st st' && !(t.leads && !(idsOf [cx]).isEmpty)) with
            | false => rw [hc] at e; exact e.elim
            | true =>
              rw [hc] at e
              simp only [cond_true] at e
              simp only [Bool.and_eq_true, Bool.not_eq_true'] at hc
              have := Nat.eq_of_beq_eq_true hc.1
              subst this
              cases hs : srcOf get t cx with
              | none => rw [hs] at e; exact e.elim
              | some ys =>
                rw [hs] at e
                obtain ⟨hle, rfl, rfl⟩ := e
                obtain ⟨v', w', S', m', q1, q2⟩ := q_appendNil (oty := oty) M hB hg hfr (ty hl) hs (of_decide_eq_true hle) (by
                  intro hlt
                  have := hc.2
                  rw [hlt] at this
                  simpa using this) h1 h2
                refine ⟨v', w', S', m', ?_, q2⟩
                simp [resolve, invoke, builtin, q1]
          · exact e.elim
        · exact e.elim
      · -- len
        split at e
        · rename_i t a hts has
          obtain rfl : argTypes = #[t] := Array.ext' hts
          obtain ⟨x, rfl, hxa⟩ := map_one has
          · have hx := harg x (by simp)
            rw [hxa] at hx
            cases hl : look E.T t with
            | none => rw [hl] at e; exact e.elim
            | some u =>
              rw [hl] at e
              simp only at e
              cases hn : aLen get u a with
              | none => rw [hn] at e; exact e.elim
              | some n =>
                rw [hn] at e
                obtain ⟨rfl, rfl⟩ := e
                obtain ⟨v', w', S', m', h1, h2⟩ := q_len (ty := oty) M hg d (ty hl) hx hn
                refine ⟨v', w', S', m', ?_, h2⟩
                simp [resolve, invoke, builtin, h1]
        · exact e.elim
      · -- max
        split at e
        · rename_i j x j' y has
          obtain ⟨a, b, rfl, ha, hb⟩ := map_two has
          · have h1 := harg a (by simp)
            have h2 := harg b (by simp)
            rw [ha] at h1
            rw [hb] at h2
            obtain ⟨e1, w1⟩ := inv_int (h := h) (S := S) (w := w) (m := m) h1
            obtain ⟨e2, w2⟩ := inv_int (h := h) (S := S) (w := w) (m := m) h2
            cases hj : decide (j = j') with
            | false => simp only [hj] at e; exact e.elim
            | true =>
              simp only [hj, cond_true] at e
              have hj := of_decide_eq_true hj
              subst hj
              obtain ⟨rfl, rfl⟩ := e
              obtain ⟨v', w', S', m', h1, h2⟩ := q_max (P := P) (ts := argTypes) (ty := oty) M d w1 w2
              refine ⟨v', w', S', m', ?_, h2⟩
              simp [resolve, invoke, builtin, e1, e2, h1]
        · exact e.elim
      · -- min
        split at e
        · rename_i j x j' y has
          obtain ⟨a, b, rfl, ha, hb⟩ := map_two has
          · have h1 := harg a (by simp)
            have h2 := harg b (by simp)
            rw [ha] at h1
            rw [hb] at h2
            obtain ⟨e1, w1⟩ := inv_int (h := h) (S := S) (w := w) (m := m) h1
            obtain ⟨e2, w2⟩ := inv_int (h := h) (S := S) (w := w) (m := m) h2
            cases hj : decide (j = j') with
            | false => simp only [hj] at e; exact e.elim
            | true =>
              simp only [hj, cond_true] at e
              have hj := of_decide_eq_true hj
              subst hj
              obtain ⟨rfl, rfl⟩ := e
              obtain ⟨v', w', S', m', h1, h2⟩ := q_min (P := P) (ts := argTypes) (ty := oty) M d w1 w2
              refine ⟨v', w', S', m', ?_, h2⟩
              simp [resolve, invoke, builtin, e1, e2, h1]
        · exact e.elim
  | _ => simp only [aQ] at e; exact e.elim
end
end Go.Ab
