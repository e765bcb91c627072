/-
  A stretch of quiet operations in a region that Go may run in another order.
-/
import Derived.Test.YtffmiefhnbkcbaaGreatXPure
import Derived.Orders
namespace Go.Ab
open Go Go.RowKit
section
variable {P : Program} {E : Env} {S : Blk} {w w0 : World} {m : OMap} {B : Nat} {M0 : Blk}
theorem quiet_wp [Tabs] (hE : Good P E) (hB0 : B ≤ w0.heap.size) {s1 s : AS} {a : Act} (R : Rel w0 B M0 S m s a w) {o : Oper} {v : AVal} {os : AHeap} (q : Quiet E s1 o v os) (hev : ∀ x ∈ o.op.operands, s1.ev x = s.ev x)
    (hg : ∀ id x, s1.h.get id = some x → s.h.get id ≠ none → s.h.get id = some x) (hc : Clear s (o.dst.getD 0)) {next : Act → World → Prop} {Q : Exit → Act → World → Prop}
    (K : ∀ v' w' S' m', Rel w0 B M0 S' m' (ap s (o, v, os)) (a.put o.dst v') w' → Wider s.h.get (ap s (o, v, os)).h.get S S' w w' m m' → (∀ b, S' b → S b ∨ B ≤ b ∨ M0 b) → next (a.put o.dst v') w') : o.wp P a w next Q := by
  have hB : B ≤ w.heap.size := Nat.le_trans hB0 R.frm.size
  have fin : ∀ {v' w' S' m'}, QPost s.h.get S w m B M0 (o.dst.getD 0) v os v' w' S' m' → next (a.put o.dst v') w' := fun {v' w' S' m'} qp => by
    have M := qp.moved R hB s.t
    refine K v' w' S' m' (M.2.1.put M.1 o.dst) ?_ (qp.fresh_blocks hB)
    rw [ap_h]
    exact M.2.2
  rcases q with q | ⟨c, f, g, caps, C, x, y, z, ho, hcal, hf, hl, hv, hle, hx, hy, hz, hn, rfl, rfl⟩
  · obtain ⟨v', w', S', m', hx, qp⟩ := aQ_sound hE.T hE.ins.2.2.2 R.mem hB hg hc (ρ := a.eval) (fun x hx => by rw [hev x hx]; exact R.ev x) q
    exact wp_value hx (fin qp)
  · obtain ⟨hS, hfn⟩ := hE.G _ hl
    have inops : ∀ x, x = f ∨ x ∈ c.args.toList → x ∈ o.op.operands := fun x hx => by
      rw [ho]
      simp only [Op.operands, Call.operands, hcal]
      rcases hx with rfl | hx
      · simp
      · exact Array.mem_append.2 (.inr (Array.mem_toList_iff.1 hx))
    have hval := R.ev f
    rw [← hev f (inops f (.inl rfl)), hf] at hval
    obtain ⟨ccs, hval, hcaps⟩ := hval
    have rel : ∀ (i : Nat) (p : AVal) (u : Value), (callVals s1.ev c.args.toList caps)[i]? = some p → (c.args.toList.map a.eval ++ ccs.toList)[i]? = some u → VRel s.h.get S w m p u :=
      callVals_rel (fun q hq => by rw [hev q (inops q (.inr hq))]; exact R.ev q) hcaps
    have hcall := call_quiet hS (R.frm.tabs hB fun _ h => h.elim) R.mem R.mem hB hc hv hg (us := c.args.toList.map a.eval ++ ccs.toList) (callVals_len hcaps) rel hle hx hy hz hn
    have hrun := run_call_fn (ty := o.type) (ρ := a.eval) hfn hcal hval w
    unfold Oper.wp
    have hex : (execOp a.eval o).run P w = .ok (.enter g (c.args.map a.eval ++ ccs)) w := by
      rw [← hrun]
      obtain ⟨odst, op, oty, opos, oafter, oguard⟩ := o
      simp only at ho
      subst ho
      rfl
    rw [hex, Oper.upon_enter]
    have hm : (c.args.toList.map a.eval ++ ccs.toList).toArray = c.args.map a.eval ++ ccs := by
      rw [← Array.toList_map, ← Array.toList_append, Array.toArray_toList]
    rw [hm] at hcall
    refine Calls.mono hcall fun ending w' hk => ?_
    obtain ⟨v', S', m', rfl, qp⟩ := hk
    exact fin qp
theorem ancOf_bit {A : List Nat} {u : Nat} : ∀ (l : List Edge) (m0 : Nat), Nat.testBit (l.foldl (fun m e => bif Region.binds .any e then m ||| 2 ^ e.on ||| A.getD e.on 0 else m) m0) u = true → Nat.testBit m0 u = true ∨ ∃ e ∈ l, Region.binds .any e = true ∧ (u = e.on ∨ Nat.testBit (A.getD e.on 0) u = true)
  | [], _, h => .inl h
  | e :: l, m0, h => by
    simp only [List.foldl_cons] at h
    rcases ancOf_bit l _ h with h | ⟨e', h1, h2⟩
    · cases hb : Region.binds .any e with
      | false => rw [hb] at h; exact .inl h
      | true =>
        rw [hb] at h
        simp only [cond_true, Nat.testBit_or, Bool.or_eq_true, Nat.testBit_two_pow, decide_eq_true_eq] at h
        rcases h with (h | h) | h
        · exact .inl h
        · exact .inr ⟨e, List.mem_cons_self, hb, .inl h.symm⟩
        · exact .inr ⟨e, List.mem_cons_self, hb, .inr h⟩
    · exact .inr ⟨e', List.mem_cons_of_mem _ h1, h2⟩
theorem ancOk_spec {A : List Nat} {ops : List Oper} (h : ancOk A ops = true) {k : Nat} {o : Oper} (hk : ops[k]? = some o) : A.getD k 0 = ancOf A o ∧ ∀ e ∈ o.after.toList, Region.binds .any e = true → e.on < k := by
  unfold ancOk at h
  simp only [Bool.and_eq_true, List.all_eq_true] at h
  have := h.2 (o, k) (List.mem_zipIdx_iff_getElem?.2 hk)
  refine ⟨Nat.eq_of_beq_eq_true this.1, fun e he hb => ?_⟩
  have h2 := this.2 e he
  rw [hb] at h2
  exact Nat.lt_of_succ_le (by simpa [Nat.blt] using h2)
def Closed (ops : Array Oper) (listed : Array Bool) : Prop := ∀ (k : Nat) (o : Oper), ops[k]? = some o → listed.getD k false = true → ∀ e ∈ o.after.toList, Region.binds .any e = true → listed.getD e.on false = true
theorem Closed.anc [Tabs] {A : List Nat} {ops : Array Oper} (hA : ancOk A ops.toList = true) {listed : Array Bool} (hc : Closed ops listed) : ∀ (k u : Nat), (∀ o, ops[k]? = some o → ∀ e ∈ o.after.toList, Region.binds .any e = true → listed.getD e.on false = true) → Nat.testBit (A.getD k 0) u = true → listed.getD u false = true := by
  intro k
  induction k using Nat.strongRecOn with
  | _ k ih =>
    intro u hd hb
    cases ho : ops[k]? with
    | none =>
      have hl : A.length = ops.toList.length := by
        unfold ancOk at hA
        simp only [Bool.and_eq_true] at hA
        exact Nat.eq_of_beq_eq_true hA.1
      have : A.getD k 0 = 0 := by
        rw [List.getD_eq_getElem?_getD, List.getElem?_eq_none]
        · rfl
        · rw [hl]
          have := Array.getElem?_eq_none_iff.1 ho
          simpa using this
      rw [this] at hb
      simp at hb
    | some o =>
      have sp := ancOk_spec hA (k := k) (o := o) (by simpa using ho)
      rw [sp.1] at hb
      rcases ancOf_bit _ _ hb with h | ⟨e, he, hbd, h⟩
      · simp at h
      · have hl := hd o ho e he hbd
        rcases h with rfl | h
        · exact hl
        · exact ih e.on (sp.2 e he hbd) u (fun o' ho' e' he' hb' => hc e.on o' ho' hl e' he' hb') h
theorem barAt_spec {A : List Nat} {i k u : Nat} (h : barAt A i = true) (hk : k < A.length) (hik : i ≤ k) (hu : u < i) : Nat.testBit (A.getD k 0) u = true := by
  unfold barAt at h
  rw [List.all_eq_true] at h
  have hm : A.getD k 0 ∈ A.drop i := by
    rw [List.getD_eq_getElem?_getD, List.getElem?_eq_getElem hk, Option.getD_some]
    rw [List.mem_iff_getElem?]
    exact ⟨k - i, by rw [List.getElem?_drop, Nat.add_sub_cancel' hik, List.getElem?_eq_getElem hk]⟩
  have := Nat.eq_of_beq_eq_true (h _ hm)
  have h2 : Nat.testBit (A.getD k 0 &&& (2 ^ i - 1)) u = Nat.testBit (2 ^ i - 1) u := by rw [this]
  rw [Nat.testBit_and, Nat.testBit_two_pow_sub_one] at h2
  simpa [hu] using h2
theorem nodupB_dst : ∀ {g : List Oper}, nodupB (g.filterMap (·.dst)) = true → ∀ (j k : Nat) (o o' : Oper) (t : Nat), g[j]? = some o → g[k]? = some o' → o.dst = some t → o'.dst = some t → j = k
  | [], _, j, _, _, _, _, h, _, _, _ => by simp at h
  | p :: g, hn, j, k, o, o', t, hj, hk, h1, h2 => by
    have tail : nodupB (g.filterMap (·.dst)) = true := by
      cases hp : p.dst with
      | none => rw [List.filterMap_cons, hp] at hn; exact hn
      | some d => rw [List.filterMap_cons, hp] at hn; simp only [nodupB, Bool.and_eq_true] at hn; exact hn.2
    have head : ∀ (i : Nat) (q : Oper), g[i]? = some q → p.dst = some t → q.dst = some t → False := fun i q hi hp hq => by
      rw [List.filterMap_cons, hp] at hn
      simp only [nodupB, Bool.and_eq_true, Bool.not_eq_true', List.any_eq_false] at hn
      refine hn.1 t (List.mem_filterMap.2 ⟨q, List.mem_of_getElem? hi, hq⟩) ?_
      simp
    cases j with
    | zero =>
      simp only [List.getElem?_cons_zero, Option.some.injEq] at hj
      subst hj
      cases k with
      | zero => rfl
      | succ k => exact (head k o' (by simpa using hk) h1 h2).elim
    | succ j =>
      cases k with
      | zero =>
        simp only [List.getElem?_cons_zero, Option.some.injEq] at hk
        subst hk
        exact (head j o (by simpa using hj) h2 h1).elim
      | succ k => rw [nodupB_dst tail j k o o' t (by simpa using hj) (by simpa using hk) h1 h2]
def cnt (L : Nat → Bool) : Nat → Nat
  | 0 => 0
  | n + 1 => cnt L n + (if L n then 0 else 1)
theorem cnt_false : ∀ n, cnt (fun _ => false) n = n
  | 0 => rfl
  | n + 1 => by simp [cnt, cnt_false n]
theorem cnt_zero {L : Nat → Bool} : ∀ {n : Nat}, cnt L n = 0 → ∀ k, k < n → L k = true
  | n + 1, h, k, hk => by
    simp only [cnt] at h
    by_cases e : k = n
    · subst e
      cases hL : L k with
      | true => rfl
      | false => simp [hL] at h
    · exact cnt_zero (n := n) (by omega) k (by omega)
theorem cnt_pos [Tabs] {L : Nat → Bool} : ∀ {n c : Nat}, cnt L n = c + 1 → ∃ k, k < n ∧ L k = false ∧ ∀ j, j < k → L j = true
  | n + 1, c, h => by
    simp only [cnt] at h
    cases hc : cnt L n with
    | zero =>
      refine ⟨n, Nat.lt_succ_self n, ?_, fun j hj => cnt_zero hc j hj⟩
      cases hL : L n with
      | false => rfl
      | true => simp [hc, hL] at h
    | succ c' =>
      obtain ⟨k, h1, h2, h3⟩ := cnt_pos hc
      exact ⟨k, by omega, h2, h3⟩
theorem cnt_add {L L' : Nat → Bool} {k : Nat} (h0 : L k = false) (h1 : ∀ j, L' j = (L j || decide (j = k))) : ∀ {n : Nat}, k < n → cnt L' n + 1 = cnt L n
  | n + 1, hk => by
    simp only [cnt]
    by_cases e : k = n
    · subst e
      have : ∀ i, i ≤ k → cnt L' i = cnt L i := fun i => by
        induction i with
        | zero => intro _; rfl
        | succ i ih =>
          intro hi
          simp only [cnt]
          rw [ih (by omega), h1 i]
          have : ¬ i = k := by omega
          simp [this]
      rw [this k (Nat.le_refl _), h1 k, h0]
      simp
    · have := cnt_add h0 h1 (n := n) (by omega)
      have hn : L' n = L n := by rw [h1 n]; have : ¬ n = k := fun h => e h.symm; simp [this]
      rw [hn]
      omega
structure Shift [Tabs] (w0 : World) (B : Nat) (M0 S : Blk) (m : OMap) (s : AS) (a : Act) (w : World) (ds : List Nat) (s' : AS) (a' : Act) (w' : World) (S' : Blk) (m' : OMap) : Prop where
  rel : Rel w0 B M0 S' m' s' a' w'
  ext : Ext B M0 S S' w w'
  t : s.t ≤ s'.t
  wide : s'.t = s.t → Wider s.h.get s'.h.get S S' w w' m m'
  keep : ∀ t, t ∉ ds → a'.tmps.getD t undef = a.tmps.getD t undef
  len : a'.tmps.size = a.tmps.size
def dstsL (g : List Oper) : List Nat := g.filterMap (·.dst)
def UpTo (n i : Nat) (listed : Array Bool) : Prop := listed.size = n ∧ ∀ k, k < n → listed[k]? = some (decide (k < i))
def GuardOn (ops : Array Oper) (a : Act) (g : Nat × Bool) (l : List Nat) : Prop := ∃ gd, (ops[g.1]?).bind (·.dst) = some gd ∧ gd ∉ l ∧ a.tmps.getD gd undef = .bool g.2
theorem getD_bool {a : Array Value} {t : Nat} {b : Bool} (h : a.getD t undef = .bool b) : a[t]? = some (.bool b) := by
  rw [Array.getD_eq_getD_getElem?] at h
  cases e : a[t]? with
  | none => rw [e] at h; cases h
  | some v => rw [e] at h; simp at h; rw [h]
theorem GuardOn.wanted [Tabs] {ops : Array Oper} {a : Act} {g : Nat × Bool} {l : List Nat} (h : GuardOn ops a g l) {o : Oper} (ho : o.guard = some g) : Region.wanted o (yielded ops a.tmps) = true := by
  obtain ⟨gd, h1, _, h3⟩ := h
  have : yielded ops a.tmps g.1 = some g.2 := by
    unfold yielded
    rw [h1]
    simp [getD_bool h3]
  unfold Region.wanted
  rw [ho]
  obtain ⟨i, b⟩ := g
  simp only at this ⊢
  rw [this]
  simp
theorem GuardOn.keep {ops : Array Oper} {a a' : Act} {g : Nat × Bool} {l : List Nat} (h : GuardOn ops a g l) (hk : ∀ t, t ∉ l → a'.tmps.getD t undef = a.tmps.getD t undef) : GuardOn ops a' g l := by
  obtain ⟨gd, h1, h2, h3⟩ := h
  exact ⟨gd, h1, h2, (hk gd h2).trans h3⟩
theorem gEq_spec {a b : Nat × Bool} (h : gEq a b = true) : a = b := by
  unfold gEq at h
  simp only [Bool.and_eq_true, beq_iff_eq] at h
  exact Prod.ext (Nat.eq_of_beq_eq_true h.1) h.2
structure SegOk (A : List Nat) (i : Nat) (g : List Oper) : Prop where
  one : ∀ (j k : Nat) (o o' : Oper) (t : Nat), g[j]? = some o → g[k]? = some o' → o.dst = some t → o'.dst = some t → j = k
  guard : ∀ (j : Nat) (o : Oper), g[j]? = some o → o.guard = segGuard g
  order : ∀ (j k : Nat) (o o' : Oper) (t : Nat), g[j]? = some o → g[k]? = some o' → o'.dst = some t → .tmp t ∈ o.op.operands → (k < j → Nat.testBit (A.getD (i + j) 0) (i + k) = true) ∧ (j < k → Nat.testBit (A.getD (i + k) 0) (i + j) = true)
theorem segOk_spec [Tabs] {A : List Nat} {i : Nat} {g : List Oper} (h : segOk A i g = true) (h1 : g.length ≠ 1) : SegOk A i g := by
  have hh : (lateOk A i (lateSplit g) && (nodupB (g.filterMap (·.dst)) && g.zipIdx.all fun p =>
    (match segGuard g, p.1.guard with | none, none => true | some g, some g' => gEq g g' | _, _ => false) &&
    g.zipIdx.all fun q => match q.1.dst with
      | none => true
      | some t => !(tmpsIn p.1).any (Nat.beq t) || (bif Nat.blt q.2 p.2 then Nat.testBit (A.getD (i + p.2) 0) (i + q.2) else bif Nat.blt p.2 q.2 then Nat.testBit (A.getD (i + q.2) 0) (i + p.2) else true))) = true := by
    unfold segOk at h
    split at h
    · exact absurd rfl h1
    · exact h
  rw [Bool.and_eq_true] at hh
  replace hh := hh.2
  simp only [Bool.and_eq_true, List.all_eq_true] at hh
  obtain ⟨h2, h3⟩ := hh
  refine ⟨nodupB_dst h2, fun j o hj => ?_, fun j k o o' t hj hk ht hm => ?_⟩
  · have := (h3 (o, j) (List.mem_zipIdx_iff_getElem?.2 hj)).1
    simp only at this
    split at this
    · rename_i e1 e2; rw [e1, e2]
    · rename_i g1 g2 e1 e2; rw [e1, e2, gEq_spec this]
    · cases this
  · have := (h3 (o, j) (List.mem_zipIdx_iff_getElem?.2 hj)).2 (o', k) (List.mem_zipIdx_iff_getElem?.2 hk)
    simp only [ht] at this
    have hin : (tmpsIn o).any (Nat.beq t) = true := by
      rw [List.any_eq_true]
      exact ⟨t, List.mem_filterMap.2 ⟨.tmp t, Array.mem_toList_iff.2 hm, rfl⟩, by simp⟩
    rw [hin] at this
    simp only [Bool.not_true, Bool.false_or] at this
    have blt : ∀ {x y : Nat}, x < y → Nat.blt x y = true := fun {x y} h => by simp [Nat.blt]; omega
    have nblt : ∀ {x y : Nat}, ¬ x < y → Nat.blt x y = false := fun {x y} h => by
      cases e : Nat.blt x y with
      | false => rfl
      | true => exact absurd (Nat.lt_of_succ_le (by simpa [Nat.blt] using e)) h
    refine ⟨fun hlt => ?_, fun hlt => ?_⟩
    · rw [blt hlt] at this; exact this
    · rw [nblt (by omega : ¬ k < j), blt hlt] at this; exact this
theorem allDst_spec {g : List Oper} (h : allDst g = true) : ∀ (j : Nat) (o : Oper), g[j]? = some o → o.dst ≠ none := fun j o hj e => by
  have := List.all_eq_true.1 h o (List.mem_of_getElem? hj)
  simp only [e] at this
  cases this
theorem segOk_late {A : List Nat} {i : Nat} {g : List Oper} (h : segOk A i g = true) (h1 : g.length ≠ 1) : lateOk A i (lateSplit g) = true := by
  unfold segOk at h
  split at h
  · exact absurd rfl h1
  · exact (Bool.and_eq_true_iff.1 h).1
theorem subSt_congr : ∀ (l : Tr) (L L' : Nat → Bool) (s : AS), (∀ j, j < l.length → L j = L' j) → subSt L l s = subSt L' l s
  | [], _, _, _, _ => rfl
  | p :: r, L, L', s, h => by
    simp only [subSt]
    rw [h 0 (by simp)]
    exact subSt_congr r _ _ _ fun j hj => h (j + 1) (by simp; omega)
theorem any_walk [Tabs] {ops : Array Oper} {Q : Exit → Act → World → Prop} {A : List Nat} (hA : ancOk A ops.toList = true) {pre g rest : List Oper} (hs : ops.toList = pre ++ (g ++ rest)) (hb : barAt A (pre.length + g.length) = true) (Inv : (Nat → Bool) → Act → World → Prop)
    (step : ∀ (L L' : Nat → Bool) (k : Nat) (o : Oper) (a : Act) (w : World) (next : Act → World → Prop), g[k]? = some o → L k = false → (∀ j, L' j = (L j || decide (j = k))) → (∀ i, i < g.length → Nat.testBit (A.getD (pre.length + k) 0) (pre.length + i) = true → L i = true) →
      (∀ i, i < g.length → Nat.testBit (A.getD (pre.length + i) 0) (pre.length + k) = true → L i = false) → Inv L a w → (∀ a' w', Inv L' a' w' → next a' w') → if Region.wanted o (yielded ops a.tmps) then o.wp P a w next Q else next (a.put o.dst undef) w)
    (fin : ∀ L a w listed, (∀ k, k < g.length → L k = true) → Inv L a w → UpTo ops.size (pre.length + g.length) listed → wpAny P .any ops Q rest.length listed a w)
    {a : Act} {w : World} (h0 : Inv (fun _ => false) a w) {listed : Array Bool} (hl : UpTo ops.size pre.length listed) : wpAny P .any ops Q (g.length + rest.length) listed a w := by
  have opsat : ∀ {k : Nat}, k < g.length → ops[pre.length + k]? = g[k]? := fun {k} hk => by
    rw [← Array.getElem?_toList, hs, List.getElem?_append_right (by omega), Nat.add_sub_cancel_left, List.getElem?_append_left hk]
  have opsize : ops.size = pre.length + (g.length + rest.length) := by rw [← Array.length_toList, hs]; simp
  have alen : A.length = ops.size := by
    unfold ancOk at hA
    simp only [Bool.and_eq_true] at hA
    rw [← Array.length_toList]; exact Nat.eq_of_beq_eq_true hA.1
  suffices key : ∀ (n : Nat) (L : Nat → Bool) (lst : Array Bool) (a' : Act) (w' : World), cnt L g.length = n → lst.size = ops.size → (∀ k, k < pre.length → lst[k]? = some true) → (∀ k, k < g.length → lst[pre.length + k]? = some (L k)) → (∀ k, pre.length + g.length ≤ k → k < ops.size → lst[k]? = some false) →
      Closed ops lst → Inv L a' w' → wpAny P .any ops Q (n + rest.length) lst a' w' by
    refine key g.length (fun _ => false) listed a w (cnt_false _) hl.1 (fun k hk => ?_) (fun k hk => ?_) (fun k h1 h2 => ?_) (fun k o hk hlk e he hbd => ?_) h0
    · rw [hl.2 k (by omega)]; simp [hk]
    · rw [hl.2 _ (by omega)]; simp
    · rw [hl.2 k h2]; simp; omega
    · have hks : k < ops.size := (Array.getElem?_eq_some_iff.1 hk).1
      rw [Array.getD_eq_getD_getElem?, hl.2 k hks] at hlk
      simp only [Option.getD_some, decide_eq_true_eq] at hlk
      have := (ancOk_spec hA (k := k) (o := o) (by simpa using hk)).2 e he hbd
      rw [Array.getD_eq_getD_getElem?, hl.2 _ (by omega)]
      simp; omega
  intro n
  induction n with
  | zero =>
    intro L lst a' w' hc hsz h1 h2 h3 hcl I1
    rw [Nat.zero_add]
    refine fin L a' w' lst (cnt_zero hc) I1 ⟨hsz, fun k hk => ?_⟩
    by_cases c1 : k < pre.length
    · rw [h1 k c1]; simp; omega
    · by_cases c2 : k < pre.length + g.length
      · have := h2 (k - pre.length) (by omega)
        rw [Nat.add_sub_cancel' (by omega)] at this
        rw [this, cnt_zero hc _ (by omega)]; simp [c2]
      · rw [h3 k (by omega) hk]; simp [c2]
  | succ n ih =>
    intro L lst a' w' hc hsz h1 h2 h3 hcl I1
    have getL : ∀ {k : Nat}, k < g.length → ∀ d, lst.getD (pre.length + k) d = L k := fun {k} hk d => by
      rw [Array.getD_eq_getD_getElem?, h2 k hk]; rfl
    rw [Nat.add_right_comm]
    refine ⟨fun hr => ?_, fun j hj => ?_⟩
    · obtain ⟨k, hk, hLk, hmin⟩ := cnt_pos hc
      have : pre.length + k ∈ Region.ready .any ops lst := by
        rw [mem_ready]
        refine ⟨by rw [getL hk]; exact hLk, ?_⟩
        obtain ⟨o, hgo⟩ : ∃ o, g[k]? = some o := ⟨g[k], by simp [hk]⟩
        refine ⟨o, (opsat hk).trans hgo, fun e he hbd => ?_⟩
        have hlt := (ancOk_spec hA (k := pre.length + k) (o := o) (by rw [Array.getElem?_toList]; exact (opsat hk).trans hgo)).2 e (by simpa using he) hbd
        by_cases c1 : e.on < pre.length
        · rw [Array.getD_eq_getD_getElem?, h1 _ c1]; rfl
        · have := hmin (e.on - pre.length) (by omega)
          have h5 := getL (k := e.on - pre.length) (by omega) false
          rw [Nat.add_sub_cancel' (by omega)] at h5
          rw [h5, this]
      rw [hr] at this
      cases this
    · rw [mem_ready] at hj
      obtain ⟨hj0, o, hjo, hjr⟩ := hj
      have hjs : j < ops.size := (Array.getElem?_eq_some_iff.1 hjo).1
      have anc : ∀ u, Nat.testBit (A.getD j 0) u = true → lst.getD u false = true := fun u hu =>
        hcl.anc hA j u (fun o' ho' e he hbd => by rw [hjo] at ho'; cases ho'; exact hjr e (by simpa using he) hbd) hu
      have hj1 : ¬ j < pre.length := fun h => by
        rw [Array.getD_eq_getD_getElem?, h1 j h] at hj0; cases hj0
      have hj2 : j < pre.length + g.length := by
        refine Nat.lt_of_not_le fun h => ?_
        obtain ⟨k, hk, hLk, _⟩ := cnt_pos hc
        have := anc (pre.length + k) (barAt_spec hb (by omega) h (by omega))
        rw [getL hk, hLk] at this
        cases this
      obtain ⟨k, rfl⟩ : ∃ k, j = pre.length + k := ⟨j - pre.length, by omega⟩
      have hk : k < g.length := by omega
      have hLk : L k = false := by rw [← getL hk true]; exact hj0
      have hgo : g[k]? = some o := (opsat hk).symm.trans hjo
      have st := step L (fun i => L i || decide (i = k)) k o a' w' (wpAny P .any ops Q (n + rest.length) (lst.setIfInBounds (pre.length + k) true)) hgo hLk (fun _ => rfl)
        (fun i hi hbit => by have := anc _ hbit; rw [getL hi] at this; exact this)
        (fun i hil hbit => by
          cases hLi : L i with
          | false => rfl
          | true =>
            obtain ⟨o', hi⟩ : ∃ o', g[i]? = some o' := ⟨g[i], by simp [hil]⟩
            have hoi : ops[pre.length + i]? = some o' := (opsat hil).trans hi
            have := hcl.anc hA (pre.length + i) (pre.length + k) (fun o2 ho2 e he hbd => hcl _ o2 ho2 (by rw [getL hil]; exact hLi) e he hbd) hbit
            rw [getL hk, hLk] at this
            cases this) I1
        (fun a2 w2 I2 => by
          have hcnt := cnt_add (L := L) (L' := fun i => L i || decide (i = k)) hLk (fun _ => rfl) hk
          refine ih (fun i => L i || decide (i = k)) _ _ _ (by omega) (by simp [hsz]) (fun i hi => ?_) (fun i hi => ?_) (fun i hi1 hi2 => ?_) ?_ I2
          · rw [Array.getElem?_setIfInBounds_ne (by omega)]; exact h1 i hi
          · by_cases e : i = k
            · subst e; rw [Array.getElem?_setIfInBounds_self_of_lt (by omega)]; simp
            · rw [Array.getElem?_setIfInBounds_ne (by omega), h2 i hi]; simp [e]
          · rw [Array.getElem?_setIfInBounds_ne (by omega)]; exact h3 i hi1 hi2
          · intro i o' hio hil e he hbd
            by_cases e' : i = pre.length + k
            · subst e'
              rw [hjo] at hio
              cases hio
              exact getD_set_true (hjr e (by simpa using he) hbd)
            · rw [getD_set_ne false (fun h => e' h.symm)] at hil
              exact getD_set_true (hcl i o' hio hil e he hbd))
      unfold wpOp
      simp only [hjo]
      cases hw : Region.wanted o (yielded ops a'.tmps) with
      | true => rw [hw] at st; rw [if_pos rfl] at st ⊢; exact .inl st
      | false => rw [hw] at st; rw [if_neg (by simp)] at st ⊢; exact st
theorem any_seg [Tabs] (hE : Good P E) (hB0 : B ≤ w0.heap.size) {ops : Array Oper} {Q : Exit → Act → World → Prop} {A : List Nat} (hA : ancOk A ops.toList = true) {pre g rest : List Oper} (hs : ops.toList = pre ++ (g ++ rest)) (ho : SegOk A pre.length g) (hod : ∀ (j : Nat) (o : Oper), g[j]? = some o → o.dst ≠ none) (hb : barAt A (pre.length + g.length) = true)
    {s : AS} {a : Act} (R : Rel w0 B M0 S m s a w) (hgd : ∀ g', segGuard g = some g' → GuardOn ops a g' (dstsL g)) {R' : Type} {k : AS → Option R'} {r : R'} (e : runQ E g s k = some r)
    (K : ∀ s' a' w' S' m' listed, k s' = some r → Shift w0 B M0 S m s a w (dstsL g) s' a' w' S' m' → UpTo ops.size (pre.length + g.length) listed → wpAny P .any ops Q rest.length listed a' w')
    {listed : Array Bool} (hl : UpTo ops.size pre.length listed) : wpAny P .any ops Q (g.length + rest.length) listed a w := by
  obtain ⟨l, lg, lk, lq⟩ := runQ_trace e
  have at_ : ∀ {j : Nat} {p : Oper × AVal × AHeap}, l[j]? = some p → g[j]? = some p.1 := fun {j p} hj => by rw [← lg, List.getElem?_map, hj]; rfl
  have of_ : ∀ {j : Nat} {o : Oper}, g[j]? = some o → ∃ v os, l[j]? = some (o, v, os) := fun {j o} hj => by
    rw [← lg, List.getElem?_map] at hj
    cases hp : l[j]? with
    | none => rw [hp] at hj; cases hj
    | some p => rw [hp] at hj; simp at hj; subst hj; exact ⟨p.2.1, p.2.2, rfl⟩
  have llen : l.length = g.length := by rw [← lg]; simp
  have Ap : Apart l := ⟨fun j p hj => hod j p.1 (at_ hj), fun j k p q t hj hk h1 h2 => ho.one j k p.1 q.1 t (at_ hj) (at_ hk) h1 h2, fun j p hj => by
    obtain ⟨o, v, os⟩ := p
    exact (lq j o v os hj).1.small⟩
  have clear0 : ∀ (j : Nat) (p : Oper × AVal × AHeap), l[j]? = some p → ∀ (id d : Nat), p.1.dst.getD 0 = d → d * 16 ≤ id → id ≤ d * 16 + 15 → ∀ L : Nat → Bool, L j = false → (subSt L l s).h.get id = none := fun j p hj id d0 i0 i1 i2 L hL => by
    obtain ⟨o, v, os⟩ := p
    have c := (lq j o v os hj).2 id (i0 ▸ i1) (i0 ▸ i2)
    rw [← c]
    refine subSt_h id l L _ s s (fun i q hq hqd => ?_) rfl
    have sm := Ap.small i q hq id hqd
    have : i = j := by
      cases e1 : q.1.dst with
      | none => exact absurd e1 (Ap.dst i q hq)
      | some d =>
        cases e2 : o.dst with
        | none => exact absurd e2 (Ap.dst j _ hj)
        | some d' =>
          simp only [e1, e2, Option.getD_some] at sm i0
          have i3 : @Eq Nat d' d0 := i0
          have : d = d' := by
            rcases Nat.lt_trichotomy d d' with h | h | h
            · omega
            · exact h
            · omega
          subst this
          exact Ap.one i j q _ d hq hj e1 e2
    subst this
    simp [hL]
  refine any_walk hA hs hb (fun L a' w' => ∃ S' m', Rel w0 B M0 S' m' (subSt L l s) a' w' ∧ Wider s.h.get (subSt L l s).h.get S S' w w' m m' ∧ (∀ t, t ∉ dstsL g → a'.tmps.getD t undef = a.tmps.getD t undef) ∧ ∀ b, S' b → S b ∨ B ≤ b ∨ M0 b) ?_ ?_ ?_ hl
  · intro L L' k o a' w' next hgo hLk hL' hanc hdes ⟨S', m', R1, W1, k1, n1⟩ hnext
    obtain ⟨v, os, hlk⟩ := of_ hgo
    have hwant : Region.wanted o (yielded ops a'.tmps) = true := by
      have hgu := ho.guard k o hgo
      cases hg' : segGuard g with
      | none => unfold Region.wanted; rw [hgu, hg']
      | some g' => exact ((hgd g' hg').keep k1).wanted (hgu.trans hg')
    rw [if_pos hwant]
    have hother : ∀ (i : Nat) (o' : Oper) (t : Nat), g[i]? = some o' → o'.dst = some t → .tmp t ∈ o.op.operands → decide (i < k) = L i := fun i o' t hi ht hm => by
      have hord := ho.order k i o o' t hgo hi ht hm
      have hil : i < g.length := (List.getElem?_eq_some_iff.1 hi).1
      rcases Nat.lt_trichotomy i k with hik | hik | hik
      · have := hanc i hil (hord.1 hik)
        simp [hik, this]
      · subst hik; simp [hLk]
      · rw [hdes i hil (hord.2 hik)]; simp; omega
    refine quiet_wp hE hB0 R1 (lq k o v os hlk).1 (fun x hx => ?_) (fun id x h5 h6 => ?_) (fun id h5 h6 => clear0 k _ hlk id _ rfl h5 h6 L hLk) (fun v' w1 S1 m1 R2 W2 n2 => ?_)
    · cases x with
      | tmp t => exact subSt_ρ t l _ L s s (fun i p hp hpd => hother i p.1 t (at_ hp) hpd hx) rfl rfl
      | _ => rfl
    · exact subSt_agree Ap (fun i p hp id hid => by
        have sm := Ap.small i p hp id hid
        have := clear0 i p hp id _ rfl sm.1 sm.2 (fun _ => false) rfl
        rw [subSt_none l _ _ fun _ => rfl] at this
        exact this) _ L id x h5 h6
    · have hadd := subSt_add Ap (L := L) (L' := L') hlk hLk hL' s
      have hget : (ap (subSt L l s) (o, v, os)).h.get = (subSt L' l s).h.get := funext hadd.h
      refine hnext _ _ ⟨S1, m1, R2.same hadd, by rw [← hget]; exact W1.trans W2, fun t ht => ?_, fun b hb => (n2 b hb).elim (fun h => n1 b h) .inr⟩
      have hdst : o.dst ≠ some t := fun hd => ht (List.mem_filterMap.2 ⟨o, List.mem_of_getElem? hgo, hd⟩)
      rw [← k1 t ht]
      exact Act.eval_put (a := a') (dst := o.dst) (v := v') (x := .tmp t) (fun d hd hx => hdst (by cases hx; exact hd))
  · intro L a' w' lst hall ⟨S', m', R1, W1, k1, n1⟩ hup
    have hst : subSt L l s = subSt (fun _ => true) l s := subSt_congr l _ _ s fun j hj => hall j (by omega)
    exact K _ a' w' S' m' lst lk ⟨by rw [← hst]; exact R1, W1.ext n1, Nat.le_of_eq (subSt_t _ _ _).symm, fun _ => by rw [← hst]; exact W1, k1, by rw [R1.size, subSt_len, R.size]⟩ hup
  · have h0 := subSt_none l (fun _ => false) s fun _ => rfl
    exact ⟨S, m, by rw [h0]; exact R, by rw [h0]; exact Wider.refl _ _ _ _, fun _ _ => rfl, fun _ h => .inl h⟩
theorem yielded_put {ops : Array Oper} {a : Act} {o : Oper} {g : Nat × Bool} (h : yielded ops a.tmps g.1 ≠ some g.2) : yielded ops (a.put o.dst undef).tmps g.1 ≠ some g.2 := by
  unfold yielded at h ⊢
  cases hg : (ops[g.1]?).bind (·.dst) with
  | none => simp
  | some gd =>
    rw [hg] at h
    simp only [Option.bind_some] at h ⊢
    cases hd : o.dst with
    | none => exact h
    | some d =>
      simp only [Act.put]
      rw [Array.getElem?_setIfInBounds]
      by_cases e : d = gd
      · rw [if_pos e]
        have : ∀ (b : Bool), (if d < a.tmps.size then some undef else none) ≠ some (Value.bool b) := fun b hb => by
          split at hb <;> cases hb
        split
        · rename_i b hb; exact absurd hb (this b)
        · simp
      · rw [if_neg e]; exact h
theorem any_skip [Tabs] {ops : Array Oper} {Q : Exit → Act → World → Prop} {A : List Nat} (hA : ancOk A ops.toList = true) {pre g rest : List Oper} (hs : ops.toList = pre ++ (g ++ rest)) (hgu : ∀ (j : Nat) (o : Oper), g[j]? = some o → o.guard = segGuard g) (hb : barAt A (pre.length + g.length) = true)
    {a : Act} {g' : Nat × Bool} (hg : segGuard g = some g') (hy : yielded ops a.tmps g'.1 ≠ some g'.2)
    (K : ∀ a' listed, (∀ t, t ∉ dstsL g → a'.tmps.getD t undef = a.tmps.getD t undef) → (∀ t, t ∈ dstsL g → a'.tmps.getD t undef = undef) → a'.tmps.size = a.tmps.size → a'.defers = a.defers → UpTo ops.size (pre.length + g.length) listed → wpAny P .any ops Q rest.length listed a' w)
    {listed : Array Bool} (hl : UpTo ops.size pre.length listed) : wpAny P .any ops Q (g.length + rest.length) listed a w := by
  refine any_walk hA hs hb (fun L a' w' => w' = w ∧ (∀ t, t ∉ dstsL g → a'.tmps.getD t undef = a.tmps.getD t undef) ∧ (∀ (k : Nat) (o : Oper) (t : Nat), g[k]? = some o → L k = true → o.dst = some t → a'.tmps.getD t undef = undef) ∧ a'.tmps.size = a.tmps.size ∧ a'.defers = a.defers ∧ yielded ops a'.tmps g'.1 ≠ some g'.2) ?_ ?_ ?_ hl
  · rintro L L' k o a' w' next hgo hLk hL' _ _ ⟨rfl, k1, k2, k3, k4, k5⟩ hnext
    have hwant : Region.wanted o (yielded ops a'.tmps) = false := by
      unfold Region.wanted
      rw [hgu k o hgo, hg]
      simpa using k5
    rw [hwant, if_neg (by simp)]
    have hput : ∀ t, (a'.put o.dst undef).tmps.getD t undef = if o.dst = some t then undef else a'.tmps.getD t undef := fun t => by
      cases hd : o.dst with
      | none => simp [Act.put]
      | some d =>
        simp only [Act.put, Array.getD_eq_getD_getElem?, Array.getElem?_setIfInBounds]
        by_cases e : d = t
        · subst e
          by_cases h : d < a'.tmps.size <;> simp [h]
        · simp [e]
    refine hnext _ _ ⟨rfl, fun t ht => ?_, fun i o' t hi hLi ht => ?_, by rw [← k3]; cases o.dst <;> simp [Act.put], by rw [← k4]; cases o.dst <;> rfl, yielded_put k5⟩
    · have hdst : o.dst ≠ some t := fun hd => ht (List.mem_filterMap.2 ⟨o, List.mem_of_getElem? hgo, hd⟩)
      rw [hput, if_neg hdst]; exact k1 t ht
    · rw [hput]
      split
      · rfl
      · rename_i hne
        refine k2 i o' t hi ?_ ht
        rw [hL' i] at hLi
        by_cases e : i = k
        · subst e
          rw [hgo] at hi
          cases hi
          exact absurd ht hne
        · simpa [e] using hLi
  · rintro L a' w' lst hall ⟨rfl, k1, k2, k3, k4, _⟩ hup
    refine K a' lst k1 (fun t ht => ?_) k3 k4 hup
    obtain ⟨o, ho, hd⟩ := List.mem_filterMap.1 ht
    obtain ⟨k, hk⟩ := List.mem_iff_getElem?.1 ho
    exact k2 k o t hk (hall k (List.getElem?_eq_some_iff.1 hk).1) hd
  · exact ⟨rfl, fun _ _ => rfl, fun _ _ _ _ h _ => absurd h (by simp), rfl, rfl, hy⟩
theorem any_one [Tabs] {ops : Array Oper} {Q : Exit → Act → World → Prop} {A : List Nat} (hA : ancOk A ops.toList = true) {pre rest : List Oper} {o : Oper} (hs : ops.toList = pre ++ ([o] ++ rest)) (hb : barAt A (pre.length + 1) = true) {a : Act} {K : Act → World → Prop}
    (h : if Region.wanted o (yielded ops a.tmps) then o.wp P a w K Q else K (a.put o.dst undef) w) (hK : ∀ a' w' listed, K a' w' → UpTo ops.size (pre.length + 1) listed → wpAny P .any ops Q rest.length listed a' w')
    {listed : Array Bool} (hl : UpTo ops.size pre.length listed) : wpAny P .any ops Q (1 + rest.length) listed a w := by
  refine any_walk (g := [o]) hA hs hb (fun L a' w' => (L 0 = false ∧ a' = a ∧ w' = w) ∨ (L 0 = true ∧ K a' w')) ?_ ?_ (.inl ⟨rfl, rfl, rfl⟩) hl
  · rintro L L' k o' a' w' next hgo hLk hL' _ _ hI hnext
    have hk : k = 0 := by
      have := (List.getElem?_eq_some_iff.1 hgo).1
      simpa using this
    subst hk
    simp only [List.getElem?_cons_zero, Option.some.injEq] at hgo
    subst hgo
    rcases hI with ⟨_, rfl, rfl⟩ | ⟨h1, _⟩
    · have h1 : L' 0 = true := by rw [hL']; simp
      split
      · rename_i hw
        rw [if_pos hw] at h
        exact Oper.wp_mono (fun a2 w2 h2 => hnext a2 w2 (.inr ⟨h1, h2⟩)) h
      · rename_i hw
        rw [if_neg hw] at h
        exact hnext _ _ (.inr ⟨h1, h⟩)
    · rw [hLk] at h1; cases h1
  · rintro L a' w' lst hall hI hup
    rcases hI with ⟨h1, _⟩ | ⟨_, h2⟩
    · rw [hall 0 (by simp)] at h1; cases h1
    · exact hK a' w' lst h2 hup
end
end Go.Ab
