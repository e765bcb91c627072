/-
  Views of an own slice: an inner slice that grows in its place, an element of an inner slice that is written over.
-/
import Derived.Test.YtkemmodgpafkmaaGreatDoorXBox
namespace Go.Ab
open Go Go.RowKit
section
variable {P : Program} {E : Env} {S : Blk} {w w' w0 : World} {m : OMap} {B : Nat} {M0 : Blk}
theorem own_replace [Tabs] {e u : Ty} {y : e.den} {ds : List Value} {F : Blk} {off : Nat} {z : List u.den} {v0 : Value} (ho : Own w e ds y F) (hf : (flat e y)[off]? = some (.pv (.slice u) z)) (hv0 : ds[off]? = some v0) :
    ∃ G0 : Blk, Own w (.slice u) [v0] z G0 ∧ (∀ q, G0 q → F q) ∧ ∀ {w' : World} {y1 : e.den} {z1 : List u.den} {v1 : Value} {G1 : Blk}, (∀ q, F q → ¬ G0 q → w'.heap[q]? = w.heap[q]?) → Own w' (.slice u) [v1] z1 G1 → (∀ q, G1 q → G0 q ∨ ¬ F q) → innerSet e y off u z1 = some y1 →
      ∃ F1, Own w' e (ds.take off ++ [v1] ++ ds.drop (off + 1)) y1 F1 ∧ (∀ q, F1 q → F q ∨ G1 q) ∧ ∀ q, G1 q → F1 q := by
  have hlen := ho.len
  have hoff : off < e.size := by have := (List.getElem?_eq_some_iff.1 hf).1; rw [flat_length] at this; exact this
  have hfl := flat_length e y
  obtain ⟨Fp, p1, p2, p3⟩ := own_flat ho
  obtain ⟨u', z', hp, ho'⟩ := p1 off _ v0 hf hv0
  cases hp
  refine ⟨Fp off, ho', fun q hq => p3 off q hq, fun {w' y1 z1 v1 G1} hsame h1 hG1 hy => ⟨fun q => ∃ i, i < e.size ∧ (if i = off then G1 q else Fp i q), ?_, fun q ⟨i, hi, hq⟩ => ?_, fun q hq => ⟨off, hoff, by rw [if_pos rfl]; exact hq⟩⟩⟩
  · refine own_each (Fs := fun i q => if i = off then G1 q else Fp i q) hy (by simp; omega) (by simp; omega) (fun j c v uu zz hj hv ha hz => ?_) (fun j1 j2 q h1 h2 => ?_)
    · have e1 := split_get (flat e y) [ACell.pv (.slice u) z1] off j (by simp; omega)
      have e2 := split_get ds [v1] off j (by simp; omega)
      simp only [List.length_cons, List.length_nil, Nat.zero_add] at e1 e2
      rw [e1] at hj
      rw [e2] at hv
      by_cases hjo : j = off
      · subst hjo
        rw [if_neg (by omega), if_pos (by omega), Nat.sub_self] at hj hv
        simp at hj hv
        subst hj
        subst hv
        obtain ⟨k1, k2⟩ := cast?_some (show cast? (t := .slice u) uu z1 = some zz from hz)
        subst k1
        cases k2
        simp only [if_true]
        exact h1
      · have hj' : (flat e y)[j]? = some c := by
          by_cases h : j < off
          · rw [if_pos h] at hj; exact hj
          · rw [if_neg h, if_neg (by omega)] at hj; exact hj
        have hv' : ds[j]? = some v := by
          by_cases h : j < off
          · rw [if_pos h] at hv; exact hv
          · rw [if_neg h, if_neg (by omega)] at hv; exact hv
        obtain ⟨u3, z3, rfl, ho3⟩ := p1 j c v hj' hv'
        obtain ⟨k1, k2⟩ := cast?_some (show cast? uu z3 = some zz from hz)
        subst k1
        cases k2
        simp only [if_neg hjo]
        exact Own.mono (fun q hq => hsame q (p3 j q hq) fun h => hjo (p2 j off q hq h)) ho3
    · by_cases o1 : j1 = off
      · by_cases o2 : j2 = off
        · omega
        · rw [if_pos o1] at h1; rw [if_neg o2] at h2
          rcases hG1 q h1 with h | h
          · exact absurd (p2 j2 off q h2 h) o2
          · exact absurd (p3 j2 q h2) h
      · by_cases o2 : j2 = off
        · rw [if_neg o1] at h1; rw [if_pos o2] at h2
          rcases hG1 q h2 with h | h
          · exact absurd (p2 j1 off q h1 h) o1
          · exact absurd (p3 j1 q h1) h
        · rw [if_neg o1] at h1; rw [if_neg o2] at h2
          exact p2 j1 j2 q h1 h2
  · by_cases hio : i = off
    · rw [if_pos hio] at hq; exact .inr hq
    · rw [if_neg hio] at hq; exact .inl (p3 i q hq)
theorem gather_flat [Tabs] {get : HGet} : ∀ (t : Ty) (x : t.den), gatherG get t (flat t x) = some x
  | .unit, _ => rfl
  | .pair a b, x => by
    have h := flat_length a x.1
    simp only [flat, gatherG]
    rw [List.take_left' h, List.drop_left' h, gather_flat a x.1, gather_flat b x.2]
    rfl
  | .bool, x => by simp [flat, gatherG, cellToG, cast?]
  | .int k, x => by simp [flat, gatherG, cellToG, cast?]
  | .str, x => by simp [flat, gatherG, cellToG, cast?]
  | .raw, x => by simp [flat, gatherG, cellToG, cast?]
  | .slice t, x => by simp [flat, gatherG, cellToG, cast?]
theorem innerSet_same [Tabs] {e u : Ty} {y : e.den} {off : Nat} {z : List u.den} (hf : (flat e y)[off]? = some (.pv (.slice u) z)) : innerSet e y off u z = some y := by
  unfold innerSet
  have hoff := (List.getElem?_eq_some_iff.1 hf).1
  have h2 := (List.getElem?_eq_some_iff.1 hf).2
  have : (flat e y).take off ++ [ACell.pv (.slice u) z] ++ (flat e y).drop (off + 1) = flat e y := by
    rw [← h2, List.append_assoc, List.singleton_append, ← List.drop_eq_getElem_cons hoff, List.take_append_drop]
  rw [this]
  exact gather_flat _ _
theorem Rel.turnInner [Tabs] {s : AS} {a : Act} (R : Rel w0 B M0 S m s a w) (hB : B ≤ w.heap.size) {id i off : Nat} {e u : Ty} {xs : List e.den} {y : e.den} {z : List u.den} (ho : s.h.get id = some (.arr true e xs)) (hi : xs[i]? = some y) (hf : (flat e y)[off]? = some (.pv (.slice u) z))
    {c : OC} (hc : m id = some c) {g n cap : Nat} (hv : c.v = .slice (some ⟨g, 0, none⟩) n cap) {v0 : Value} (hcell : w.cell? ⟨g, i * e.size + off, none⟩ = some v0) :
    ∃ G0 : Blk, Own w (.slice u) [v0] z G0 ∧ (∀ q, G0 q → c.F q ∧ q ≠ g) ∧ ∀ {w' : World} {y1 : e.den} {z1 : List u.den} {G1 : Blk}, w'.heap.size = w.heap.size → (∀ q, ¬ G0 q → w'.heap[q]? = w.heap[q]?) → w'.os = w.os → w'.tape = w.tape → w'.output = w.output → (∀ a, w'.frozen? a = w.frozen? a) →
      Own w' (.slice u) [v0] z1 G1 → (∀ q, G1 q → G0 q) → innerSet e y off u z1 = some y1 →
      ∃ m' F', Rel w0 B M0 S m' (s.updA id (.arr true e (xs.set i y1))) a w' ∧ (∀ j, j ≠ id → m' j = m j) ∧ m' id = some ⟨c.v, F', e⟩ ∧ (∀ q, G1 q → F' q) ∧ (∀ q, S q → w'.heap[q]? = w.heap[q]?) := by
  obtain ⟨c', hc', he, hr⟩ := R.mem.obj id _ ho
  obtain rfl : c' = c := Option.some.inj (hc'.symm.trans hc)
  rcases hr with ⟨_, rfl, _⟩ | ⟨g', cap', cur, te, Fs, k1, k2, k3, k4, k5, k6, k7, k8, k9⟩
  · simp at hi
  have hv0 := hv
  rw [k1] at hv
  simp only [Value.slice.injEq, Option.some.injEq, Addr.mk.injEq] at hv
  obtain ⟨⟨rfl, _⟩, rfl, rfl⟩ := hv
  have hilt : i < xs.length := (List.getElem?_eq_some_iff.1 hi).1
  have hoff : off < e.size := by have := (List.getElem?_eq_some_iff.1 hf).1; rw [flat_length] at this; exact this
  have hseg : ((cur.toList.drop (i * e.size)).take e.size)[off]? = some v0 := by
    rw [seg_get, if_pos hoff]
    rw [cell_of_row w g' (i * e.size + off) cur te (0, 0) k2] at hcell
    simpa using hcell
  obtain ⟨G0, q1, q2, q3⟩ := own_replace (k6 i y hi) hf hseg
  have inF : ∀ q, G0 q → c'.F q := fun q hq => (k9 q).2 (.inr ⟨i, hilt, q2 q hq⟩)
  have gnot : ¬ G0 g' := fun h => k8 i hilt (q2 g' h)
  refine ⟨G0, q1, fun q hq => ⟨inF q hq, fun e => gnot (e ▸ hq)⟩, fun {w' y1 z1 G1} hsz hsame hos ht hu hz h1 hG1 hy => ?_⟩
  obtain ⟨F1, f1, f2, f2'⟩ := q3 (fun q _ hq => hsame q hq) h1 (fun q hq => .inl (hG1 q hq)) hy
  have hds : ((cur.toList.drop (i * e.size)).take e.size).take off ++ [v0] ++ ((cur.toList.drop (i * e.size)).take e.size).drop (off + 1) = (cur.toList.drop (i * e.size)).take e.size := by
    have hlt := (List.getElem?_eq_some_iff.1 hseg).1
    have h2 := (List.getElem?_eq_some_iff.1 hseg).2
    rw [← h2, List.append_assoc, List.singleton_append, ← List.drop_eq_getElem_cons hlt, List.take_append_drop]
  rw [hds] at f1
  have f3 : ∀ q, F1 q → Fs i q := fun q hq => (f2 q hq).elim (fun h => h) fun h => q2 q (hG1 q h)
  let Fk : Nat → Blk := fun k q => if k = i then F1 q else Fs k q
  have FkIn : ∀ k q, Fk k q → Fs k q := fun k q hq => by
    by_cases hki : k = i
    · have hq' : F1 q := by have := hq; simp only [Fk, if_pos hki] at this; exact this
      subst hki
      exact f3 q hq'
    · have hq' : Fs k q := by have := hq; simp only [Fk, if_neg hki] at this; exact this
      exact hq'
  have hArr : ArrRel S w' true e c'.v (xs.set i y1) (fun q => q = g' ∨ ∃ k, k < xs.length ∧ Fk k q) := by
    refine .inr ⟨g', cap', cur, te, Fk, by rw [k1]; simp, (hsame g' gnot).trans k2, k3, by simpa using k4, k5, fun k x hk => ?_, fun k j q hk hj h1 h2 => ?_, fun k hk h => ?_, fun q => by rw [List.length_set]⟩
    · have hkl : k < xs.length := by have := (List.getElem?_eq_some_iff.1 hk).1; simpa using this
      by_cases hki : k = i
      · subst hki
        rw [List.getElem?_set_self hilt] at hk
        cases hk
        have e5 : Fk k = F1 := by funext q; simp [Fk]
        show El S w' true e _ _ (Fk k)
        rw [e5]
        exact f1
      · rw [List.getElem?_set_ne (fun e => hki e.symm)] at hk
        have e5 : Fk k = Fs k := by funext q; simp [Fk, hki]
        show El S w' true e _ _ (Fk k)
        rw [e5]
        exact Own.mono (fun q hq => hsame q fun h => hki (k7 k i q hkl hilt hq (q2 q h))) (k6 k x hk)
    · rw [List.length_set] at hk hj
      exact k7 k j q hk hj (FkIn k q h1) (FkIn j q h2)
    · rw [List.length_set] at hk
      exact k8 k hk (FkIn k g' h)
  obtain ⟨m', R', n1, n2⟩ := R.turnArr (d' := true) hB ho (by simp) hc hsz (fun q hq => hsame q fun h => hq (inF q h)) hos ht hu (fun a _ => hz a) hArr (fun q hq => by
    rcases hq with rfl | ⟨k, hk, hq⟩
    · exact (k9 q).2 (.inl rfl)
    · exact (k9 q).2 (.inr ⟨k, hk, FkIn k q hq⟩))
  exact ⟨m', _, R', n1, n2, fun q hq => .inr ⟨i, hilt, by simp only [Fk, if_true]; exact f2' q hq⟩, fun q hq => hsame q fun h => (R.mem.apart id c' (heap_ne ho) hc q (inF q h)).1 hq⟩
theorem plain_any [Tabs] {t : Ty} (hl : t.leads = false) {w w' : World} {ds : List Value} {x : t.den} {F : Blk} (h : Own w t ds x F) : Own w' t ds x (fun _ => False) :=
  Rep.own_plain (T := fun _ => True) hl (Rep.any_leads hl (Own.rep (S := fun _ => True) h fun _ _ => trivial))
theorem append_two [Tabs] {st te : TypeId} {i : TypeInfo} {z : Value} {t : Ty} {ty : TypeId} {T : Blk} (ht : P.underlying st = some (.slice te)) (hi : P.info? te = some i) (hs : i.size = t.size) (hz : i.zero = some z) (hzs : z.cells.size = t.size) (hby : i.bytes ≤ 32768) (hp : t.leads = false)
    {v x : Value} {xs ys : List t.den} {F : Blk} (hr : ArrRel S w true t v xs F)
    (hx : ∃ (a : Addr) (cap : Nat) (news : List Value), x = .slice (some a) ys.length cap ∧ news.length = ys.length * t.size ∧ (∀ j u, news[j]? = some u → w.cell? (a.add j) = some u) ∧ (∀ u ∈ news, u.oneCell' = true) ∧ ∀ i y, ys[i]? = some y → Rep T w t ((news.drop (i * t.size)).take t.size) y)
    (hne : 0 < ys.length) (hl : xs.length + ys.length ≤ lim) :
    (∃ (g cap : Nat) (cur ncur : Array Value) (te' : TypeId), v = .slice (some ⟨g, 0, none⟩) xs.length cap ∧ F g ∧ w.heap[g]? = some (.cells cur te' (0, 0)) ∧ xs.length + ys.length ≤ cap ∧
      (Builtin.append_ #[st, st] ty #[v, x]).run P w = .ok (.slice (some ⟨g, 0, none⟩) (xs.length + ys.length) cap) (w.setRow g ncur) ∧ ArrRel S (w.setRow g ncur) true t v xs F ∧
      ∀ k y, ys[k]? = some y → Own (w.setRow g ncur) t ((ncur.toList.drop ((xs.length + k) * t.size)).take t.size) y (fun _ => False)) ∨
    ∃ v' w' F', (Builtin.append_ #[st, st] ty #[v, x]).run P w = .ok v' w' ∧ Grow w w' ∧ ArrRel S w' true t v' (xs ++ ys) F' ∧ ∀ q, F' q → w.heap.size ≤ q ∧ q < w'.heap.size := by
  obtain ⟨a, c, news, rfl, n1, n2, n3, n4⟩ := hx
  have hlim : (lim : Int) = 4294967296 := rfl
  have hlimN : (lim : Nat) = 4294967296 := rfl
  have hlm : xs.length + ys.length ≤ maxLen := by unfold maxLen; omega
  have hbytes : (xs.length + ys.length) * i.bytes ≤ 140737488355328 := by
    have : (xs.length + ys.length) * i.bytes ≤ 4294967296 * 32768 := Nat.mul_le_mul (by omega) hby
    omega
  have newOwn : ∀ {w2 : World} (k : Nat) (y : t.den), ys[k]? = some y → Own w2 t ((news.drop (k * t.size)).take t.size) y (fun _ => False) := fun k y hk => Rep.own_plain (T := fun _ => True) hp (Rep.any_leads hp (n4 k y hk))
  have fresh : ∀ (A : List Value) (old : Nat), A.length = xs.length * t.size → (∀ (w2 : World) i x, xs[i]? = some x → Own w2 t ((A.drop (i * t.size)).take t.size) x (fun _ => False)) →
      (Builtin.append_ #[st, st] ty #[v, .slice (some a) ys.length c]).run P w = .ok (.slice (some ⟨w.heap.size, 0, none⟩) (xs.length + ys.length) (grownCap w (xs.length + ys.length) old te)) (w.drew.alloc (.cells (A.toArray ++ news.toArray ++ Builtin.zeroCells z.cells (grownCap w (xs.length + ys.length) old te - (xs.length + ys.length))) te)) →
      ∃ v' w' F', (Builtin.append_ #[st, st] ty #[v, .slice (some a) ys.length c]).run P w = .ok v' w' ∧ Grow w w' ∧ ArrRel S w' true t v' (xs ++ ys) F' ∧ ∀ q, F' q → w.heap.size ≤ q ∧ q < w'.heap.size := by
    intro A old hA hown hrun
    have hge := grownCap_ge w (xs.length + ys.length) old te
    have hcm := grownCap_le_maxLen w (xs.length + ys.length) old te hlm
    generalize grownCap w (xs.length + ys.length) old te = nc at *
    refine ⟨_, _, _, hrun, ⟨rfl, rfl, rfl, by rw [size_new]; omega, fun q hq => (Grow.alloc w.drew _ te).block q hq, fun a _ => frozen_new w _ te a⟩, arr_joinX (S := S) (D := true) (A := A) (N := news) (Fs := fun _ _ => False) (Gs := fun _ _ => False) (heap_new w _ te) ?_ hge hcm hA ?_ (fun k y hk => hown _ k y hk) (fun k y hk => newOwn k y hk)
      (fun _ _ _ _ _ h => h.elim) (fun _ _ h => h) (fun _ _ _ _ _ h => h.elim) (fun _ _ h => h) (fun _ _ _ _ _ h => h.elim), fun q hq => ?_⟩
    · simp only [Array.size_append, List.size_toArray, size_zeroCells, hzs, hA, n1]
      rw [← Nat.add_mul, ← Nat.add_mul]
      congr 1
      omega
    · simp only [Array.toList_append, List.append_assoc]
      rw [← List.append_assoc]
      have : (A ++ news).length = (xs.length + ys.length) * t.size := by rw [List.length_append, hA, n1, Nat.add_mul]
      rw [← this]
      exact List.take_left
    · rcases hq with rfl | ⟨k, hk, hF⟩ | ⟨k, hk, hF⟩
      · exact ⟨Nat.le_refl _, by rw [size_new]; omega⟩
      · exact hF.elim
      · exact hF.elim
  rcases hr with ⟨⟨o, rfl⟩, rfl, hF⟩ | ⟨g, cap, cur, te', Fs, rfl, k2, k3, k4, k5, k6, k7, k8, k9⟩
  · right
    simp only [List.length_nil, Nat.zero_add] at hlm hbytes hl
    cases o with
    | none =>
      have hrun := run_append_nil (P := P) w st ty te i z ht hi hz a ys.length c news (by rw [n1, hs]) n2 hne (by unfold maxLen at hlm; omega) (by omega)
      refine fresh [] 0 (by simp) (fun _ i x h => by simp at h) ?_
      simp only [List.length_nil, Nat.zero_add, Array.empty_append] at hrun ⊢
      exact hrun
    | some b =>
      have hrun := run_append_grow (P := P) w st ty te i z ht hi hz b 0 0 [] (by simp) (fun j v h => by simp at h) a ys.length c news (by rw [n1, hs]) n2 (by omega) (by unfold maxLen at hlm; omega) (growslice_fits (by omega) (by simpa using hbytes))
      refine fresh [] 0 (by simp) (fun _ i x h => by simp at h) ?_
      simp only [List.length_nil, Nat.zero_add, Array.empty_append] at hrun ⊢
      exact hrun
  · have holdlen : (cur.toList.take (xs.length * t.size)).length = xs.length * t.size := by
      have hc : cur.toList.length = cap * t.size := by rw [← k3]; exact Array.length_toList
      rw [List.length_take, hc]
      exact Nat.min_eq_left (Nat.mul_le_mul_right _ k4)
    by_cases hroom : xs.length + ys.length ≤ cap
    · left
      have hfit : xs.length * i.size + news.length ≤ cur.size := by rw [n1, hs, k3, ← Nat.add_mul]; exact Nat.mul_le_mul_right _ hroom
      have hrun := append_room (P := P) (ty := ty) ht hi k2 (sLen := xs.length) (sCap := cap) (x := .slice (some a) ys.length c) rfl (run_firstCells_some (P := P) w i.size ys.length a ys.length c news (by rw [n1, hs]) n2) n3 hroom hfit
      rw [hs] at hrun hfit
      have hgF : F g := (k9 g).2 (.inl rfl)
      generalize hnew : (cur.toList.take (xs.length * t.size) ++ news ++ cur.toList.drop (xs.length * t.size + news.length)).toArray = ncur at hrun
      have hnl : ncur.toList = cur.toList.take (xs.length * t.size) ++ news ++ cur.toList.drop (xs.length * t.size + news.length) := by rw [← hnew]
      have hcut : ncur.toList.take ((xs.length + ys.length) * t.size) = cur.toList.take (xs.length * t.size) ++ news := by
        rw [hnl]
        have : (cur.toList.take (xs.length * t.size) ++ news).length = (xs.length + ys.length) * t.size := by rw [List.length_append, holdlen, n1, Nat.add_mul]
        rw [← this]
        exact List.take_left
      have hns : ncur.size = cur.size := by
        rw [← Array.length_toList, hnl, ← Array.length_toList]
        simp only [List.length_append, List.length_take, List.length_drop, Array.length_toList]
        omega
      refine ⟨g, cap, cur, ncur, te', rfl, hgF, k2, hroom, hrun, .inr ⟨g, cap, ncur, te', Fs, rfl, setRow_heap w g cur ncur te' _ k2, by rw [hns, k3], k4, k5, fun k y hk => ?_, k7, k8, k9⟩, fun k y hk => ?_⟩
      · have hlt := (List.getElem?_eq_some_iff.1 hk).1
        have e1 : (ncur.toList.drop (k * t.size)).take t.size = (cur.toList.drop (k * t.size)).take t.size := by
          rw [seg_of_take hcut (show k < xs.length + ys.length by omega), seg_append holdlen, if_pos hlt, ← seg_of_take rfl hlt]
        rw [e1]
        exact Own.mono (fun q hq => setRow_other w g q ncur fun e => k8 k hlt (e ▸ hq)) (k6 k y hk)
      · have hlt := (List.getElem?_eq_some_iff.1 hk).1
        rw [seg_of_take hcut (show xs.length + k < xs.length + ys.length by omega), seg_append holdlen, if_neg (by omega), show xs.length + k - xs.length = k by omega]
        exact newOwn k y hk
    · right
      have hcells : ∀ j v, (cur.toList.take (xs.length * t.size))[j]? = some v → w.cell? ((⟨g, 0, none⟩ : Addr).add j) = some v := fun j v hj => by
        rw [add_none, Nat.zero_add, cell_of_row w g j cur te' (0, 0) k2]
        rw [List.getElem?_take] at hj
        split at hj
        · simpa using hj
        · cases hj
      have hrun := run_append_grow (P := P) w st ty te i z ht hi hz ⟨g, 0, none⟩ xs.length cap (cur.toList.take (xs.length * t.size)) (by rw [holdlen, hs]) hcells a ys.length c news (by rw [n1, hs]) n2 (by omega) (by unfold maxLen at hlm; omega) (growslice_fits (by omega) hbytes)
      refine fresh _ cap holdlen (fun w2 k y hk => ?_) hrun
      have hlt := (List.getElem?_eq_some_iff.1 hk).1
      rw [← seg_of_take rfl hlt]
      exact plain_any hp (k6 k y hk)
theorem kills_arr [Tabs] : ∀ (l : List (Nat × AObj)) (s : AS) (j : Nat) {d : Bool} {e : Ty} {xs : List e.den}, s.h.get j = some (.arr d e xs) → (l.foldl (fun s p => s.kill p.1) s).h.get j ≠ none → (l.foldl (fun s p => s.kill p.1) s).h.get j = some (.arr d e xs)
  | [], _, _, _, _, _, h, _ => h
  | p :: l, s, j, d, e, xs, h, hn => by
    refine kills_arr l (s.kill p.1) j ?_ hn
    have h1 := kills_ne l (s.kill p.1) j hn
    rw [get_kill] at h1 ⊢
    split at h1
    · exact absurd rfl h1
    · rename_i e1; rw [if_neg e1, h]; rfl
theorem fresh_arr [Tabs] {s : AS} {d0 j : Nat} {d : Bool} {e : Ty} {xs : List e.den} (h : s.h.get j = some (.arr d e xs)) (hn : (s.fresh d0).h.get j ≠ none) : (s.fresh d0).h.get j = some (.arr d e xs) := kills_arr _ s j h hn
theorem set_same {α : Type} {xs : List α} {i : Nat} {y : α} (h : xs[i]? = some y) : xs.set i y = xs := by
  obtain ⟨hi, rfl⟩ := List.getElem?_eq_some_iff.1 h
  exact List.set_getElem_self hi
theorem aAppSb_sound [Tabs] (hT : ∀ p ∈ E.T, tyOk P p.1 p.2 = true) (hB0 : B ≤ w0.heap.size) {s : AS} {a : Act} (R : Rel w0 B M0 S m s a w) {o : Oper} {c : Call} (ho : o.op = .call c) (hc : c.callee = .builtin .append) {st : TypeId} {x y : Operand} (ht : c.argTypes.toList = [st, st]) (ha : c.args.toList = [x, y]) {id i off : Nat} {el : Ty} {y0 : el.den} {cy : ACell}
    (hx : s.ev x = .one (.sb id i off el y0)) (hy : s.ev y = .one cy) {R' : Type} {k : AVal → AS → Option R'} {r : R'} (e : aAppSb E s (o.dst.getD 0) st id i off el y0 cy k = some r)
    {next : Act → World → Prop} {Q : Exit → Act → World → Prop} (K : ∀ v s' v' w' S' m', k v s' = some r → Moved w0 B M0 S m s a w v s' v' w' S' m' → next (a.put o.dst v') w') : o.wp P a w next Q := by
  have hB : B ≤ w.heap.size := Nat.le_trans hB0 R.frm.size
  have hrx := R.ev x
  rw [hx] at hrx
  have hry := R.ev y
  rw [hy] at hry
  obtain ⟨xs, u, z, oc, g, cap, _, f1, f2, f3, f4, f5, f6, _, _⟩ := sb_part R.mem hrx
  unfold aAppSb at e
  rw [f1, f3] at e
  cases hlook : look E.T st with
  | none => rw [hlook] at e; cases e
  | some tt =>
  rw [hlook] at e
  cases tt with
  | slice t =>
    simp only at e
    split at e
    · rename_i zs ys hcast hsrc
      obtain ⟨hty, hzz⟩ := cast?_some hcast
      have hty' : t = u := by cases hty; rfl
      subst hty'
      cases hzz
      cases hcond : (t.leads || List.isEmpty ys) with
      | true => rw [hcond] at e; cases e
      | false =>
      rw [hcond] at e
      simp only [cond_false] at e
      simp only [Bool.or_eq_false_iff] at hcond
      obtain ⟨hl, hemp⟩ := hcond
      have hne : 0 < ys.length := by cases ys with
        | nil => cases hemp
        | cons _ _ => simp
      split at e
      rotate_left
      · cases e
      rename_i e2 xs2 h1
      cases hle : decide (List.length z + List.length ys ≤ lim) with
      | false => rw [hle] at e; cases e
      | true =>
      rw [hle] at e
      simp only [cond_true] at e
      have hle := of_decide_eq_true hle
      obtain ⟨R1, hfr⟩ := R.fresh (o.dst.getD 0)
      have tle := (fresh_t s (o.dst.getD 0)).1
      have ho1 := fresh_arr (d0 := o.dst.getD 0) f1 (heap_ne h1)
      generalize s.fresh (o.dst.getD 0) = s1 at *
      obtain ⟨ea, eb⟩ := bothSame_spec e
      have tyo := hT _ (look_mem hlook)
      obtain ⟨te, ti, zv, hu, hi, hsz, hpos, hz, hzz, hby⟩ := slice_ty tyo
      have hzs : zv.cells.size = t.size := by
        obtain ⟨p', hp', _, hrep, _⟩ := isZ_spec (S := S) (w := w) (h := s.h.get) (m := m) t _ _ hzz
        rw [List.append_nil] at hp'
        rw [← hp'] at hrep
        simpa using hrep.len
      have hrep : Rep (Plus m s.h.get S (idsOf [cy])) w (.slice t) [a.eval y] ys := cellTo_rep R.mem (fun _ _ h _ => h) rfl hsrc hry
      have rows := hrep.rows.resolve_left fun h => by rw [h.2] at hne; simp at hne
      have sem : ∀ {w' : World} {v' : Value}, (Builtin.append_ #[st, st] o.type #[a.eval x, a.eval y]).run P w = .ok v' w' → next (a.put o.dst v') w' → o.wp P a w next Q := fun {w' v'} hr hnext => by
        have h1 : c.argTypes = #[st, st] := by rw [← Array.toArray_toList (xs := c.argTypes), ht]
        have h2 : c.args = #[x, y] := by rw [← Array.toArray_toList (xs := c.args), ha]
        unfold Oper.wp execOp
        simp only [ho, resolve, invoke, builtin, Sem.run_bind, Sem.run_pure, Result.andThen_ok, hc, h1, h2, List.map_toArray, List.map_cons, List.map_nil, hr]
        exact hnext
      obtain ⟨G0, hown, hG0, turn⟩ := R1.turnInner hB ho1 f2 f3 f4 f5 f6
      obtain ⟨v0, hv0, harr⟩ := hown
      simp only [List.cons.injEq, and_true] at hv0
      rcases append_two (P := P) (S := S) (ty := o.type) hu hi hsz hz hzs hby hl harr rows hne hle with ⟨g2, cap2, cur, ncur, te', q1, q2, q3, q4, q5, q6, q7⟩ | ⟨v', w', F', q1, q2, q3, q4⟩
      · rw [← hv0] at q5
        have gne : g ≠ g2 := fun h => (hG0 g2 q2).2 h.symm
        obtain ⟨m', F', R2, n1, n2, n3, n4⟩ := turn (w' := w.setRow g2 ncur) (y1 := y0) (z1 := z) (G1 := G0) (size_setRow g2 ncur) (fun q hq => setRow_other w g2 q ncur fun h => hq (h ▸ q2)) rfl rfl rfl (frozen_setRow q3) ⟨v0, by rw [hv0], q6⟩ (fun _ h => h) (innerSet_same f3)
        rw [set_same f2] at R2
        refine sem q5 (K _ _ _ _ S m' ea ⟨⟨_, updA_get s1 id _ ho1, rfl, _, n2, xs, z, rfl, f2, f3, g, xs.length, cap, g2, z.length, cap2, ncur, te', f5, ?_, n3 g2 q2, rfl, q4, setRow_heap w g2 cur ncur te' _ q3, q7⟩, R2, ⟨fun _ h => h, by rw [size_setRow]; exact Nat.le_refl _, n4, fun _ h => .inl h⟩, Nat.le_trans tle (Nat.le_succ _), fun et => ?_⟩)
        · rw [World.cell?_of_block (w := w) (setRow_other w g2 g ncur gne), f6, hv0, q1]
        · simp only [AS.updA] at et
          omega
      · rw [← hv0] at q1
        obtain ⟨m', R3, hm3, _⟩ := R1.born (n := s1.t + 1) hB (hfr (o.dst.getD 0 * 16) (Nat.le_refl _) (by omega)) q2 q3 q4
        refine sem q1 (K _ _ v' w' S m' eb ⟨⟨⟨true, t, z ++ ys, by simp [AHeap.get]⟩, _, hm3, rfl⟩, R3, ⟨fun _ h => h, q2.size, fun q hq => q2.block q (R.mem.lt q hq), fun _ h => .inl h⟩, by show s.t ≤ _ + 1; omega, fun et => ?_⟩)
        have : s1.t + 1 = s.t := et
        omega
    · cases e
  | _ => cases e
theorem reads_get {w : World} {g o : Nat} {ds : List Value} (h : ReadsAt w g o ds) {j : Nat} (hj : j < ds.length) {v : Value} (hv : w.cell? ⟨g, o + j, none⟩ = some v) : ds[j]? = some v := by
  have h1 : ds[j]? = some ds[j] := List.getElem?_eq_getElem hj
  have := h j _ h1
  rw [hv] at this
  rw [h1, ← Option.some.inj this]
theorem aStoreApp_sound [Tabs] (hT : ∀ p ∈ E.T, tyOk P p.1 p.2 = true) (hB0 : B ≤ w0.heap.size) {s : AS} {a : Act} (R : Rel w0 B M0 S m s a w) {o : Oper} {t : TypeId} {x y : Operand} (ho : o.op = .store t x y) {u : Ty} (hu : look E.T t = some (.slice u)) {id i off : Nat} {el : Ty} {y0 : el.den} {ys : List u.den}
    (hc : s.ev x = .one (.oe id i off)) (hv : s.ev y = .one (.vw id (.app i off el y0 u ys))) {R' : Type} {k : AS → Option R'} {r : R'} (e : aStoreApp s id i off el y0 u ys k = some r)
    {next : Act → World → Prop} {Q : Exit → Act → World → Prop} (K : ∀ s' v' w' S' m', k s' = some r → Moved w0 B M0 S m s a w (.one .und) s' v' w' S' m' → next (a.put o.dst v') w') : o.wp P a w next Q := by
  have hB : B ≤ w.heap.size := Nat.le_trans hB0 R.frm.size
  have ty := hT _ (look_mem hu)
  have hx := R.ev x
  rw [hc] at hx
  have hy := R.ev y
  rw [hv] at hy
  have runs : ∀ (ad : Addr) (w' : World), a.eval x = .pointer (some ad) → (a.eval y).cells.size = (Ty.slice u).size → (storeCells ad (a.eval y).cells.toList).run P w = .ok () w' → (execOp a.eval o).run P w = .ok .skip w' := fun ad w' h1 h2 h3 => by
    obtain ⟨odst, op, oty, opos, oafter, oguard⟩ := o
    simp only at ho
    subst ho
    simp [execOp, Instr.storeAt, Instr.sureAddr, h1, storeVar, run_sizeOf_ty ty, h2, h3]
  obtain ⟨o, f1, _, c, f2, xs, z, f3, f4, f5, g, n, cap, g2, n2, cap2, cur, te, f6, f7, f8, f9, f10, f11, f12⟩ := hy
  cases f3
  obtain ⟨_, c', gg, nn, ccap, h1, h2, hp⟩ := hx
  obtain rfl : c = c' := Option.some.inj (f2.symm.trans h1)
  rw [f6] at h2
  simp only [Value.slice.injEq, Option.some.injEq, Addr.mk.injEq] at h2
  obtain ⟨⟨rfl, _⟩, rfl, rfl⟩ := h2
  obtain ⟨c', hc', he, hrel⟩ := R.mem.obj id _ f1
  obtain rfl : c = c' := Option.some.inj (f2.symm.trans hc')
  rw [he] at hp
  have hi : i < xs.length := (List.getElem?_eq_some_iff.1 f4).1
  have hoff : off < el.size := by have := (List.getElem?_eq_some_iff.1 f5).1; rw [flat_length] at this; exact this
  unfold aStoreApp at e
  rw [f1, f5] at e
  have hcz : cast? (t := .slice u) (.slice u) z = some z := by simp [cast?]
  simp only [hcz] at e
  split at e
  rotate_left
  · cases e
  rename_i y1 hin
  have hcy : cast? (t := el) el y1 = some y1 := by simp [cast?]
  simp only [hcy] at e
  have hcells : (a.eval y).cells = #[a.eval y] := by rw [f9]; rfl
  obtain ⟨w', hst, hsz, hstay, m3, R3⟩ := R.storeArrX (P := P) (y := y1) (us := [a.eval y]) hB f1 hi (fun v hv => by simp at hv; rw [hv, f9]; rfl) hoff f2 f6 (Orphan.empty s.h.get S w m B M0) (fun ds x0 G hx0 hEl hG hds => by
    rw [f4] at hx0
    cases hx0
    have hv0 := reads_get hds (by rw [Own.len hEl]; exact hoff) f7
    obtain ⟨G0, q1, q2, q3⟩ := own_replace hEl f5 hv0
    suffices hO : Own w (.slice u) [a.eval y] (z ++ ys) G0 by
      obtain ⟨F1, k1, k2, _⟩ := q3 (w' := w) (y1 := y1) (z1 := z ++ ys) (v1 := a.eval y) (G1 := G0) (fun _ _ _ => rfl) hO (fun _ h => .inl h) hin
      exact ⟨F1, fun q hq => .inl ((k2 q hq).elim (fun h => h) (q2 q)), k1⟩
    · obtain ⟨v0, e0, harr⟩ := q1
      simp only [List.cons.injEq, and_true] at e0
      subst e0
      refine ⟨_, rfl, ?_⟩
      rcases harr with ⟨⟨oo, h0⟩, hz, hF⟩ | ⟨g', cap', cur', te', Fs, j1, j2, j3, j4, j5, j6, j7, j8, j9⟩
      · simp only [Value.slice.injEq] at h0
        obtain ⟨_, rfl, rfl⟩ := h0
        have : ys = [] := List.eq_nil_of_length_eq_zero (by omega)
        subst this
        subst hz
        exact .inl ⟨⟨some ⟨g2, 0, none⟩, by rw [f9]; simp⟩, rfl, hF⟩
      · simp only [Value.slice.injEq, Option.some.injEq, Addr.mk.injEq] at j1
        obtain ⟨⟨rfl, _⟩, rfl, rfl⟩ := j1
        rw [f11] at j2
        simp only [Option.some.injEq, Obj.cells.injEq] at j2
        obtain ⟨rfl, rfl, _⟩ := j2
        refine .inr ⟨g2, cap2, cur, te, fun k q => k < z.length ∧ Fs k q, by rw [f9, List.length_append], f11, j3, by rw [List.length_append]; exact f10, j5, fun k v hk => ?_, fun k j q hk hj h1 h2 => ?_, fun k hk h => j8 k h.1 h.2, fun q => ?_⟩
        · by_cases hlt : k < z.length
          · rw [List.getElem?_append_left hlt] at hk
            have e5 : (fun q => k < z.length ∧ Fs k q) = Fs k := by funext q; simp [hlt]
            show Own w u _ _ (fun q => k < z.length ∧ Fs k q)
            rw [e5]
            exact j6 k v hk
          · rw [List.getElem?_append_right (by omega)] at hk
            have e5 : (fun q => k < z.length ∧ Fs k q) = fun _ => False := by funext q; simp [hlt]
            show Own w u _ _ (fun q => k < z.length ∧ Fs k q)
            rw [e5]
            have := f12 _ v hk
            rwa [show z.length + (k - z.length) = k by omega] at this
        · exact j7 k j q h1.1 h2.1 h1.2 h2.2
        · rw [j9]
          refine or_congr Iff.rfl ⟨fun ⟨k, hk, hq⟩ => ⟨k, by rw [List.length_append]; omega, hk, hq⟩, fun ⟨k, _, hk, hq⟩ => ⟨k, hk, hq⟩⟩)
  refine wp_skip_op (runs _ w' hp (by rw [hcells]; rfl) (by rw [hcells]; exact hst)) (K _ undef w' S m3 e ⟨trivial, R3, ⟨fun _ h => h, hsz, hstay, fun _ h => .inl h⟩, Nat.le_succ _, fun et => ?_⟩)
  simp [AS.updA] at et
theorem aStoreSame_sound [Tabs] (hT : ∀ p ∈ E.T, tyOk P p.1 p.2 = true) (hB0 : B ≤ w0.heap.size) {s : AS} {a : Act} (R : Rel w0 B M0 S m s a w) {o : Oper} {t : TypeId} {x y : Operand} (ho : o.op = .store t x y) {u : Ty} (hu : look E.T t = some u) (hsz : u.size = 1) {id i off : Nat} {el : Ty} {y0 : el.den}
    (hc : s.ev x = .one (.oe id i off)) (hv : s.ev y = .one (.sb id i off el y0)) {R' : Type} {k : AS → Option R'} {r : R'} (e : aStoreSame s id k = some r)
    {next : Act → World → Prop} {Q : Exit → Act → World → Prop} (K : ∀ s' v' w' S' m', k s' = some r → Moved w0 B M0 S m s a w (.one .und) s' v' w' S' m' → next (a.put o.dst v') w') : o.wp P a w next Q := by
  have hB : B ≤ w.heap.size := Nat.le_trans hB0 R.frm.size
  have ty := hT _ (look_mem hu)
  have hx := R.ev x
  rw [hc] at hx
  have hy := R.ev y
  rw [hv] at hy
  have runs : ∀ (ad : Addr) (w' : World), a.eval x = .pointer (some ad) → (a.eval y).cells.size = u.size → (storeCells ad (a.eval y).cells.toList).run P w = .ok () w' → (execOp a.eval o).run P w = .ok .skip w' := fun ad w' h1 h2 h3 => by
    obtain ⟨odst, op, oty, opos, oafter, oguard⟩ := o
    simp only at ho
    subst ho
    simp [execOp, Instr.storeAt, Instr.sureAddr, h1, storeVar, run_sizeOf_ty ty, h2, h3]
  obtain ⟨d, xs, f1, f4, rfl, ⟨u2, z, f5⟩, c, g, n, cap, f2, f6, f7⟩ := hy
  obtain ⟨_, c', gg, nn, ccap, h1, h2, hp⟩ := hx
  obtain rfl : c = c' := Option.some.inj (f2.symm.trans h1)
  rw [f6] at h2
  simp only [Value.slice.injEq, Option.some.injEq, Addr.mk.injEq] at h2
  obtain ⟨⟨rfl, _⟩, rfl, rfl⟩ := h2
  obtain ⟨c', hc', he, hrel⟩ := R.mem.obj id _ f1
  obtain rfl : c = c' := Option.some.inj (f2.symm.trans hc')
  rw [he] at hp
  have hi : i < xs.length := (List.getElem?_eq_some_iff.1 f4).1
  have hoff : off < el.size := by have := (List.getElem?_eq_some_iff.1 f5).1; rw [flat_length] at this; exact this
  unfold aStoreSame at e
  rw [f1] at e
  simp only at e
  obtain ⟨ov, on, oc, hov⟩ : ∃ (ov : Option Addr) (on oc : Nat), a.eval y = .slice ov on oc := by
    rcases hrel with ⟨_, rfl, _⟩ | ⟨g', cap', cur, te, Fs, k1, k2, k3, k4, k5, k6, k7, k8, k9⟩
    · simp at hi
    · rw [f6] at k1
      simp only [Value.slice.injEq, Option.some.injEq, Addr.mk.injEq] at k1
      obtain ⟨⟨rfl, _⟩, _, _⟩ := k1
      have hO : Own w el _ y0 (Fs i) := k6 i y0 f4
      have hv0 := reads_get (reads_of_cells k2 (i * el.size) el.size) (by rw [Own.len hO]; exact hoff) f7
      obtain ⟨G0, q1, _, _⟩ := own_replace hO f5 hv0
      obtain ⟨v0, e0, harr⟩ := q1
      simp only [List.cons.injEq, and_true] at e0
      subst e0
      rcases harr with ⟨⟨oo, h0⟩, _, _⟩ | ⟨g', cap', cur', te', Fs, j1, _⟩
      · exact ⟨_, _, _, h0⟩
      · exact ⟨_, _, _, j1⟩
  have hcells : (a.eval y).cells = #[a.eval y] := by rw [hov]; rfl
  obtain ⟨w', hst, hsz2, hstay, m3, R3⟩ := R.storeArrX (P := P) (y := y0) (us := [a.eval y]) hB f1 hi (fun v hv => by simp at hv; rw [hv, hov]; rfl) hoff f2 f6 (Orphan.empty s.h.get S w m B M0) (fun ds x0 G hx0 hEl hG hds => by
    rw [f4] at hx0
    cases hx0
    have hv0 := reads_get hds (by rw [Own.len hEl]; exact hoff) f7
    refine ⟨G, fun q hq => .inl hq, ?_⟩
    have e1 : ds.take off ++ [a.eval y] ++ ds.drop (off + [a.eval y].length) = ds := by
      obtain ⟨hl, e0⟩ := List.getElem?_eq_some_iff.1 hv0
      rw [← e0, List.length_singleton, List.append_assoc, List.singleton_append, List.getElem_cons_drop hl, List.take_append_drop]
    rw [e1]
    exact hEl)
  have e2 : xs.set i y0 = xs := by
    obtain ⟨hl, e0⟩ := List.getElem?_eq_some_iff.1 f4
    rw [← e0]
    exact List.set_getElem_self hl
  rw [e2] at R3
  refine wp_skip_op (runs _ w' hp (by rw [hcells, hsz]; rfl) (by rw [hcells]; exact hst)) (K _ undef w' S m3 e ⟨trivial, R3, ⟨fun _ h => h, hsz2, hstay, fun _ h => .inl h⟩, Nat.le_succ _, fun et => ?_⟩)
  simp [AS.updA] at et
theorem aStoreInn_sound [Tabs] (hT : ∀ p ∈ E.T, tyOk P p.1 p.2 = true) (hB0 : B ≤ w0.heap.size) {s : AS} {a : Act} (R : Rel w0 B M0 S m s a w) {o : Oper} {t : TypeId} {x y : Operand} (ho : o.op = .store t x y) {u : Ty} (hu : look E.T t = some u) {id i off j : Nat} {el : Ty} {y0 : el.den}
    (hc : s.ev x = .one (.vw id (.inn i off el y0 j))) {R' : Type} {k : AS → Option R'} {r : R'} (e : aStoreInn s u id i off el y0 j (s.ev y) k = some r)
    {next : Act → World → Prop} {Q : Exit → Act → World → Prop} (K : ∀ s' v' w' S' m', k s' = some r → Moved w0 B M0 S m s a w (.one .und) s' v' w' S' m' → next (a.put o.dst v') w') : o.wp P a w next Q := by
  have hB : B ≤ w.heap.size := Nat.le_trans hB0 R.frm.size
  have ty := hT _ (look_mem hu)
  have hx := R.ev x
  rw [hc] at hx
  have hy := R.ev y
  have runs : ∀ (ad : Addr) (w' : World), a.eval x = .pointer (some ad) → (a.eval y).cells.size = u.size → (storeCells ad (a.eval y).cells.toList).run P w = .ok () w' → (execOp a.eval o).run P w = .ok .skip w' := fun ad w' h1 h2 h3 => by
    obtain ⟨odst, op, oty, opos, oafter, oguard⟩ := o
    simp only at ho
    subst ho
    simp [execOp, Instr.storeAt, Instr.sureAddr, h1, storeVar, run_sizeOf_ty ty, h2, h3]
  obtain ⟨o, f1, _, c, f2, xs, u2, z, f3, f4, f5, hj, g, n, cap, g2, n2, cap2, f6, f7, f8⟩ := hx
  cases f3
  unfold aStoreInn at e
  rw [f1, f5] at e
  simp only at e
  cases hcond : (u2.leads || (u2.isAgg || !(decide (u2 = u) && (s.ev y).fits u2))) with
  | true => rw [hcond] at e; cases e
  | false =>
  rw [hcond] at e
  simp only [cond_false] at e
  simp only [Bool.or_eq_false_iff, Bool.not_eq_false', Bool.and_eq_true, decide_eq_true_eq] at hcond
  obtain ⟨hl, hag, rfl, hfit⟩ := hcond
  split at e
  rotate_left
  · cases e
  rename_i xv hgat
  split at e
  rotate_left
  · cases e
  rename_i y1 hin
  have hcy : cast? (t := el) el y1 = some y1 := by simp [cast?]
  simp only [hcy] at e
  have hs1 := size_one hag
  have hfit' := hfit
  unfold AVal.fits at hfit
  simp only [Bool.and_eq_true] at hfit
  have hcells := hy.cells hfit.1.1 R.mem
  have hlen : (s.ev y).cells.length = u2.size := Nat.eq_of_beq_eq_true hfit.1.2
  have hsz2 : (a.eval y).cells.toList.length = u2.size := hcells.1.symm.trans hlen
  have hnew : ∀ w2, Own w2 u2 (a.eval y).cells.toList xv (fun _ => False) := fun w2 => by
    rw [hs1] at hlen hsz2
    obtain ⟨cy, hcy⟩ := List.length_eq_one_iff.1 hlen
    obtain ⟨vy, hvy⟩ := List.length_eq_one_iff.1 hsz2
    rw [hcy, hvy] at hcells
    rw [hcy] at hgat
    rw [hvy]
    have hr := hcells.2.2 0 cy vy rfl rfl
    have hct : cellToG s.h.get u2 cy = some xv := by
      cases u2 with
      | slice t => cases hl
      | unit => cases hag
      | pair _ _ => cases hag
      | _ => exact hgat
    have := cellTo_rep R.mem (fun _ _ h _ => h) hag hct hr
    exact Rep.own_plain (T := fun _ => True) hl (Rep.any_leads hl this)
  have hi : i < xs.length := (List.getElem?_eq_some_iff.1 f4).1
  obtain ⟨G0, hown, hG0, turn⟩ := R.turnInner hB f1 f4 f5 f2 f6 f7
  obtain ⟨v0, e0, harr⟩ := hown
  simp only [List.cons.injEq, and_true] at e0
  subst e0
  rcases harr with ⟨_, rfl, _⟩ | ⟨g', cap', cur, te, Fs, j1, j2, j3, j4, j5, j6, j7, j8, j9⟩
  · simp at hj
  simp only [Value.slice.injEq, Option.some.injEq, Addr.mk.injEq] at j1
  obtain ⟨⟨rfl, _⟩, rfl, rfl⟩ := j1
  have hg2 : G0 g2 := (j9 g2).2 (.inl rfl)
  have hsj : (j + 1) * u2.size ≤ cur.size := by rw [j3]; exact Nat.mul_le_mul_right _ (by omega)
  have hsj' := hsj
  rw [Nat.add_mul, Nat.one_mul] at hsj'
  have hst := run_storeCells_at P g2 (j * u2.size) te (a.eval y).cells.toList 0 cur w j2 (by rw [hsz2]; omega) hcells.2.1
  simp only [Nat.add_zero] at hst
  generalize hnew2 : (cur.toList.take (j * u2.size) ++ (a.eval y).cells.toList ++ cur.toList.drop (j * u2.size + (a.eval y).cells.toList.length)).toArray = ncur at hst
  have hnl : ncur.toList = cur.toList.take (j * u2.size) ++ (a.eval y).cells.toList ++ cur.toList.drop (j * u2.size + (a.eval y).cells.toList.length) := by rw [← hnew2]
  have hns : ncur.size = cur.size := by
    rw [← Array.length_toList, hnl, ← Array.length_toList]
    simp only [List.length_append, List.length_take, List.length_drop, Array.length_toList]
    rw [Array.length_toList] at hsz2
    omega
  obtain ⟨m', F', R2, n1, _, _, n4⟩ := turn (w' := w.setRow g2 ncur) (y1 := y1) (z1 := List.set z j xv) (G1 := fun q => q = g2 ∨ ∃ k, k < z.length ∧ (k ≠ j ∧ Fs k q)) (size_setRow g2 ncur) (fun q hq => setRow_other w g2 q ncur fun h => hq (h ▸ hg2)) rfl rfl rfl (frozen_setRow j2)
    ⟨_, rfl, .inr ⟨g2, cap2, ncur, te, fun k q => k ≠ j ∧ Fs k q, by rw [List.length_set], setRow_heap w g2 cur ncur te _ j2, by rw [hns, j3], by rw [List.length_set]; exact j4, j5, fun k v hk => by
      have hkl : k < z.length := by have := (List.getElem?_eq_some_iff.1 hk).1; rwa [List.length_set] at this
      have hu := seg_upd cur.toList (a.eval y).cells.toList u2.size j 0 k (by rw [hsz2]; omega) (by simpa using hsj)
      rw [Nat.add_zero] at hu
      rw [hnl, hu]
      by_cases hkj : k = j
      · subst hkj
        rw [List.getElem?_set_self hkl] at hk
        cases hk
        rw [if_pos rfl, List.take_zero, List.nil_append, List.drop_eq_nil_of_le (by rw [hsz2]; simp; omega), List.append_nil]
        have e5 : (fun q => k ≠ k ∧ Fs k q) = fun _ => False := by funext q; simp
        show Own _ u2 _ _ (fun q => k ≠ k ∧ Fs k q)
        rw [e5]
        exact hnew _
      · rw [List.getElem?_set_ne (fun e => hkj e.symm)] at hk
        rw [if_neg hkj]
        have e5 : (fun q => k ≠ j ∧ Fs k q) = Fs k := by funext q; simp [hkj]
        show Own _ u2 _ _ (fun q => k ≠ j ∧ Fs k q)
        rw [e5]
        exact Own.mono (fun q hq => setRow_other w g2 q ncur fun h => j8 k hkl (h ▸ hq)) (j6 k v hk), fun k l q hk hl h1 h2 => by
      rw [List.length_set] at hk hl
      exact j7 k l q hk hl h1.2 h2.2, fun k hk h => by rw [List.length_set] at hk; exact j8 k hk h.2, fun q => by rw [List.length_set]⟩⟩
    (fun q hq => (j9 q).2 (hq.imp (fun h => h) fun ⟨k, hk, h⟩ => ⟨k, hk, h.2⟩)) hin
  refine wp_skip_op (runs _ _ f8 (by rw [← Array.length_toList]; exact hsz2) hst) (K _ undef _ S m' e ⟨trivial, R2, ⟨fun _ h => h, by rw [size_setRow]; exact Nat.le_refl _, n4, fun _ h => .inl h⟩, Nat.le_succ _, fun et => ?_⟩)
  simp [AS.updA] at et
theorem stSel_cases (c : ACell) (v : AVal) : (∃ (id i off : Nat) (e : Ty) (y : e.den) (j : Nat), c = .vw id (.inn i off e y j) ∧ stSel c v = .inn id i off e y j) ∨
    (∃ (id i off : Nat) (e : Ty) (y : e.den) (u : Ty) (ys : List u.den) (i2 : Nat), c = .oe id i off ∧ v = .one (.vw id (.app i2 off e y u ys)) ∧ stSel c v = .app id i off e y u ys i2) ∨
    (∃ (id i off : Nat) (e : Ty) (y : e.den) (i2 : Nat), c = .oe id i off ∧ v = .one (.sb id i2 off e y) ∧ stSel c v = .same id i off e y i2) ∨ stSel c v = .plain := by
  cases c with
  | vw id k =>
    cases k with
    | inn i off e y j => exact .inl ⟨id, i, off, e, y, j, rfl, rfl⟩
    | _ => exact .inr (.inr (.inr rfl))
  | oe id i off =>
    cases v with
    | one cc =>
      cases cc with
      | vw id' k =>
        cases k with
        | app i' off' e y u ys =>
          cases hb : (Nat.beq id id' && Nat.beq off off') with
          | true =>
            have hb' := hb
            simp only [Bool.and_eq_true] at hb
            obtain ⟨h1, h3⟩ := hb
            have h1 := Nat.eq_of_beq_eq_true h1
            have h3 := Nat.eq_of_beq_eq_true h3
            subst h1
            subst h3
            exact .inr (.inl ⟨id, i, off, e, y, u, ys, i', rfl, rfl, by simp only [stSel, hb', cond_true]⟩)
          | false => exact .inr (.inr (.inr (by simp only [stSel, hb, cond_false])))
        | _ => exact .inr (.inr (.inr rfl))
      | sb id' i' off' e y =>
        cases hb : (Nat.beq id id' && Nat.beq off off') with
        | true =>
          have hb' := hb
          simp only [Bool.and_eq_true] at hb
          obtain ⟨h1, h3⟩ := hb
          have h1 := Nat.eq_of_beq_eq_true h1
          have h3 := Nat.eq_of_beq_eq_true h3
          subst h1
          subst h3
          exact .inr (.inr (.inl ⟨id, i, off, e, y, i', rfl, rfl, by simp only [stSel, hb', cond_true]⟩))
        | false => exact .inr (.inr (.inr (by simp only [stSel, hb, cond_false])))
      | _ => exact .inr (.inr (.inr rfl))
    | _ => exact .inr (.inr (.inr rfl))
  | _ => exact .inr (.inr (.inr rfl))
theorem shLoad_spec {s s1 : AS} {d : Nat} {x : Operand} (h : shLoad E s d x = some s1) : ∃ (id : Nat) (d : Bool) (e : Ty) (xs : List e.den), s.h.get id = some (.arr d e xs) ∧ s1 = s.updA id (.arr false e xs) := by
  unfold shLoad at h
  cases hb : E.sh.any (Nat.beq d) with
  | false => rw [hb] at h; cases h
  | true =>
    rw [hb] at h
    simp only [cond_true] at h
    split at h
    · split at h
      · rename_i hg
        exact ⟨_, _, _, _, hg, (Option.some.inj h).symm⟩
      · cases h
    · split at h
      · rename_i hg
        exact ⟨_, _, _, _, hg, (Option.some.inj h).symm⟩
      · cases h
    · cases h
end
end Go.Ab
