/-
  append, where the shorter slice may be used as well.
-/
import Derived.Test.YtkemmodgpafkmaaGreatDoorXWin
import Derived.Test.YtkemmodgpafkmaaGreatDoorXView
namespace Go.Ab
open Go Go.RowKit
section
variable {P : Program} {E : Env} {S : Blk} {w w' w0 : World} {m : OMap} {B : Nat} {M0 : Blk}
theorem front_mapC (id n : Nat) (v : AVal) : v.front id n = v.mapC (ACell.front id n) := by cases v <;> rfl
theorem frontO_mapC (id n : Nat) (o : AObj) : o.front id n = o.mapC (ACell.front id n) := by cases o <;> rfl
theorem append_front [Tabs] {st te : TypeId} {i : TypeInfo} {z : Value} {t : Ty} {ty : TypeId} {T : Blk} (ht : P.underlying st = some (.slice te)) (hi : P.info? te = some i) (hs : i.size = t.size) (hz : i.zero = some z) (hzs : z.cells.size = t.size) (hby : i.bytes ≤ 32768)
    {v x : Value} {xs ys : List t.den} {F : Blk} (hr : ArrRel S w false t v xs F) (hS : ∀ q, S q → q < w.heap.size ∧ ¬ F q) (hTS : ∀ q, T q → S q)
    (hx : ∃ (a : Addr) (cap : Nat) (news : List Value), x = .slice (some a) ys.length cap ∧ news.length = ys.length * t.size ∧ (∀ j u, news[j]? = some u → w.cell? (a.add j) = some u) ∧ (∀ u ∈ news, u.oneCell' = true) ∧ ∀ i y, ys[i]? = some y → Rep T w t ((news.drop (i * t.size)).take t.size) y)
    (hne : 0 < ys.length) (hl : xs.length + ys.length ≤ lim) :
    (∃ (g cap : Nat) (cur ncur : Array Value) (te' : TypeId), v = .slice (some ⟨g, 0, none⟩) xs.length cap ∧ F g ∧ w.heap[g]? = some (.cells cur te' (0, 0)) ∧
      (Builtin.append_ #[st, st] ty #[v, x]).run P w = .ok (.slice (some ⟨g, 0, none⟩) (xs.length + ys.length) cap) (w.setRow g ncur) ∧ ArrRel S (w.setRow g ncur) false t (.slice (some ⟨g, 0, none⟩) (xs.length + ys.length) cap) (xs ++ ys) (fun q => q = g)) ∨
    ∃ v' w' F', (Builtin.append_ #[st, st] ty #[v, x]).run P w = .ok v' w' ∧ Grow w w' ∧ ArrRel S w' false t v' (xs ++ ys) F' ∧ ∀ q, F' q → w.heap.size ≤ q ∧ q < w'.heap.size := by
  obtain ⟨a, c, news, rfl, n1, n2, n3, n4⟩ := hx
  have hlim : (lim : Int) = 4294967296 := rfl
  have hlimN : (lim : Nat) = 4294967296 := rfl
  have hlm : xs.length + ys.length ≤ maxLen := by unfold maxLen; omega
  have hbytes : (xs.length + ys.length) * i.bytes ≤ 140737488355328 := by
    have : (xs.length + ys.length) * i.bytes ≤ 4294967296 * 32768 := Nat.mul_le_mul (by omega) hby
    omega
  have stay : ∀ {w2 : World}, (∀ q, S q → w2.heap[q]? = w.heap[q]?) → w.heap.size ≤ w2.heap.size → ∀ (ds : List Value) (y : t.den), Rep S w t ds y → El S w2 false t ds y (fun _ => False) := fun hw hz ds y r => ⟨r.mono (fun _ h => h) hw hz, fun _ h => h⟩
  have newEl : ∀ {w2 : World}, (∀ q, S q → w2.heap[q]? = w.heap[q]?) → w.heap.size ≤ w2.heap.size → ∀ (k : Nat) (y : t.den), ys[k]? = some y → El S w2 false t ((news.drop (k * t.size)).take t.size) y (fun _ => False) := fun hw hz k y hk => stay hw hz _ _ ((n4 k y hk).mono hTS (fun _ _ => rfl) (Nat.le_refl _))
  have fresh : ∀ (A : List Value) (old : Nat), A.length = xs.length * t.size → (∀ i x, xs[i]? = some x → Rep S w t ((A.drop (i * t.size)).take t.size) x) →
      (Builtin.append_ #[st, st] ty #[v, .slice (some a) ys.length c]).run P w = .ok (.slice (some ⟨w.heap.size, 0, none⟩) (xs.length + ys.length) (grownCap w (xs.length + ys.length) old te)) (w.drew.alloc (.cells (A.toArray ++ news.toArray ++ Builtin.zeroCells z.cells (grownCap w (xs.length + ys.length) old te - (xs.length + ys.length))) te)) →
      ∃ v' w' F', (Builtin.append_ #[st, st] ty #[v, .slice (some a) ys.length c]).run P w = .ok v' w' ∧ Grow w w' ∧ ArrRel S w' false t v' (xs ++ ys) F' ∧ ∀ q, F' q → w.heap.size ≤ q ∧ q < w'.heap.size := by
    intro A old hA hown hrun
    have hge := grownCap_ge w (xs.length + ys.length) old te
    have hcm := grownCap_le_maxLen w (xs.length + ys.length) old te hlm
    generalize grownCap w (xs.length + ys.length) old te = nc at *
    have hw2 : ∀ (cs : Array Value) q, S q → (w.drew.alloc (.cells cs te)).heap[q]? = w.heap[q]? := fun cs q hq => (Grow.alloc w.drew cs te).block q (hS q hq).1
    have hz2 : ∀ (cs : Array Value), w.heap.size ≤ (w.drew.alloc (.cells cs te)).heap.size := fun cs => by rw [size_new]; omega
    refine ⟨_, _, _, hrun, ⟨rfl, rfl, rfl, by rw [size_new]; omega, fun q hq => (Grow.alloc w.drew _ te).block q hq, fun a _ => frozen_new w _ te a⟩, arr_joinX (S := S) (D := false) (A := A) (N := news) (Fs := fun _ _ => False) (Gs := fun _ _ => False) (heap_new w _ te) ?_ hge hcm hA ?_ (fun k y hk => stay (hw2 _) (hz2 _) _ _ (hown k y hk)) (fun k y hk => newEl (hw2 _) (hz2 _) k y hk)
      (fun _ _ _ _ _ h => h.elim) (fun _ _ h => h) (fun _ _ _ _ _ h => h.elim) (fun _ _ h => h) (fun _ _ _ _ _ h => h.elim), fun q hq => ?_⟩
    · simp only [Array.size_append, List.size_toArray, size_zeroCells, hzs, hA, n1]
      rw [← Nat.add_mul, ← Nat.add_mul]
      congr 1
      omega
    · simp only [Array.toList_append, List.append_assoc]
      rw [← List.append_assoc]
      have : (A ++ news).length = (xs.length + ys.length) * t.size := by rw [List.length_append, hA, n1, Nat.add_mul]
      rw [← this]
      exact List.take_left
    · rcases hq with rfl | ⟨k, hk, hF⟩ | ⟨k, hk, hF⟩
      · exact ⟨Nat.le_refl _, by rw [size_new]; omega⟩
      · exact hF.elim
      · exact hF.elim
  rcases hr with ⟨⟨o, rfl⟩, rfl, hF⟩ | ⟨g, cap, cur, te', Fs, rfl, k2, k3, k4, k5, k6, k7, k8, k9⟩
  · right
    simp only [List.length_nil, Nat.zero_add] at hlm hbytes hl
    cases o with
    | none =>
      have hrun := run_append_nil (P := P) w st ty te i z ht hi hz a ys.length c news (by rw [n1, hs]) n2 hne (by unfold maxLen at hlm; omega) (by omega)
      refine fresh [] 0 (by simp) (fun i x h => by simp at h) ?_
      simp only [List.length_nil, Nat.zero_add, Array.empty_append] at hrun ⊢
      exact hrun
    | some b =>
      have hrun := run_append_grow (P := P) w st ty te i z ht hi hz b 0 0 [] (by simp) (fun j v h => by simp at h) a ys.length c news (by rw [n1, hs]) n2 (by omega) (by unfold maxLen at hlm; omega) (growslice_fits (by omega) (by simpa using hbytes))
      refine fresh [] 0 (by simp) (fun i x h => by simp at h) ?_
      simp only [List.length_nil, Nat.zero_add, Array.empty_append] at hrun ⊢
      exact hrun
  · have holdlen : (cur.toList.take (xs.length * t.size)).length = xs.length * t.size := by
      have hc : cur.toList.length = cap * t.size := by rw [← k3]; exact Array.length_toList
      rw [List.length_take, hc]
      exact Nat.min_eq_left (Nat.mul_le_mul_right _ k4)
    have hgF : F g := (k9 g).2 (.inl rfl)
    by_cases hroom : xs.length + ys.length ≤ cap
    · left
      have hfit : xs.length * i.size + news.length ≤ cur.size := by rw [n1, hs, k3, ← Nat.add_mul]; exact Nat.mul_le_mul_right _ hroom
      have hrun := append_room (P := P) (ty := ty) ht hi k2 (sLen := xs.length) (sCap := cap) (x := .slice (some a) ys.length c) rfl (run_firstCells_some (P := P) w i.size ys.length a ys.length c news (by rw [n1, hs]) n2) n3 hroom hfit
      rw [hs] at hrun hfit
      generalize hnew : (cur.toList.take (xs.length * t.size) ++ news ++ cur.toList.drop (xs.length * t.size + news.length)).toArray = ncur at hrun
      have hnl : ncur.toList = cur.toList.take (xs.length * t.size) ++ news ++ cur.toList.drop (xs.length * t.size + news.length) := by rw [← hnew]
      have hcut : ncur.toList.take ((xs.length + ys.length) * t.size) = cur.toList.take (xs.length * t.size) ++ news := by
        rw [hnl]
        have : (cur.toList.take (xs.length * t.size) ++ news).length = (xs.length + ys.length) * t.size := by rw [List.length_append, holdlen, n1, Nat.add_mul]
        rw [← this]
        exact List.take_left
      have hns : ncur.size = cur.size := by
        rw [← Array.length_toList, hnl, ← Array.length_toList]
        simp only [List.length_append, List.length_take, List.length_drop, Array.length_toList]
        omega
      have hw2 : ∀ q, S q → (w.setRow g ncur).heap[q]? = w.heap[q]? := fun q hq => setRow_other w g q ncur fun e => (hS q hq).2 (e ▸ hgF)
      have hz2 : w.heap.size ≤ (w.setRow g ncur).heap.size := by rw [size_setRow]; exact Nat.le_refl _
      refine ⟨g, cap, cur, ncur, te', rfl, hgF, k2, hrun, ?_⟩
      have := arr_joinX (S := S) (w := w.setRow g ncur) (D := false) (A := cur.toList.take (xs.length * t.size)) (N := news) (Fs := fun _ _ => False) (Gs := fun _ _ => False) (setRow_heap w g cur ncur te' _ k2) (by rw [hns, k3]) hroom k5 holdlen hcut (fun k y hk => ?_) (fun k y hk => newEl hw2 hz2 k y hk)
        (fun _ _ _ _ _ h => h.elim) (fun _ _ h => h) (fun _ _ _ _ _ h => h.elim) (fun _ _ h => h) (fun _ _ _ _ _ h => h.elim)
      · have e : (fun b => b = g ∨ (∃ i, i < xs.length ∧ False) ∨ ∃ i, i < ys.length ∧ False) = fun q => q = g := funext fun q => propext ⟨fun h => by rcases h with h | ⟨_, _, h⟩ | ⟨_, _, h⟩ <;> first | exact h | exact h.elim, .inl⟩
        rw [e] at this
        exact this
      · have hlt := (List.getElem?_eq_some_iff.1 hk).1
        rw [← seg_of_take rfl hlt]
        exact stay hw2 hz2 _ _ (k6 k y hk).1
    · right
      have hcells : ∀ j v, (cur.toList.take (xs.length * t.size))[j]? = some v → w.cell? ((⟨g, 0, none⟩ : Addr).add j) = some v := fun j v hj => by
        rw [add_none, Nat.zero_add, cell_of_row w g j cur te' (0, 0) k2]
        rw [List.getElem?_take] at hj
        split at hj
        · simpa using hj
        · cases hj
      have hrun := run_append_grow (P := P) w st ty te i z ht hi hz ⟨g, 0, none⟩ xs.length cap (cur.toList.take (xs.length * t.size)) (by rw [holdlen, hs]) hcells a ys.length c news (by rw [n1, hs]) n2 (by omega) (by unfold maxLen at hlm; omega) (growslice_fits (by omega) hbytes)
      refine fresh _ cap holdlen (fun k y hk => ?_) hrun
      have hlt := (List.getElem?_eq_some_iff.1 hk).1
      rw [← seg_of_take rfl hlt]
      exact (k6 k y hk).1
theorem Rel.front [Tabs] {s : AS} {a : Act} (R : Rel w0 B M0 S m s a w) (hB : B ≤ w.heap.size) {id : Nat} {d : Bool} {t : Ty} {xs zs : List t.den} (ho : s.h.get id = some (.arr d t xs)) {c : OC} (hc : m id = some c) {d' : Bool} {g cap : Nat} {F' : Blk} (hv : c.v = .slice (some ⟨g, 0, none⟩) xs.length cap) (hle : xs.length ≤ zs.length)
    (hsz : w.heap.size ≤ w'.heap.size) (hrest : ∀ q, q < w.heap.size → ¬ c.F q → w'.heap[q]? = w.heap[q]?) (hos : w'.os = w.os) (ht : w'.tape = w.tape) (hu : w'.output = w.output) (hz : ∀ a : Addr, a.block < w.heap.size → w'.frozen? a = w.frozen? a)
    (hrel : ArrRel S w' d' t (.slice (some ⟨g, 0, none⟩) zs.length cap) zs F') (hF' : ∀ q, F' q → c.F q ∨ (w.heap.size ≤ q ∧ q < w'.heap.size)) :
    ∃ m', Rel w0 B M0 S m' (s.front id xs.length (.arr d' t zs)) a w' ∧ (∀ q, S q → w'.heap[q]? = w.heap[q]?) ∧ m' id = some ⟨.slice (some ⟨g, 0, none⟩) zs.length cap, F', t⟩ ∧ (s.front id xs.length (.arr d' t zs)).h.get id = some (.arr d' t zs) := by
  let m' : OMap := fun j => if j = id then some ⟨.slice (some ⟨g, 0, none⟩) zs.length cap, F', t⟩ else m j
  have T : Turn s.h.get S w w' m m' id c := ⟨heap_ne ho, hc, hsz, hrest, fun j hj => if_neg hj⟩
  have hget : ∀ j, (s.front id xs.length (.arr d' t zs)).h.get j = if j = id then some (.arr d' t zs) else (s.h.get j).map (AObj.mapC (ACell.front id xs.length)) := by
    intro j
    have e : (s.front id xs.length (.arr d' t zs)).h = s.h.map fun p => (p.1, bif Nat.beq p.1 id then AObj.arr d' t zs else p.2.front id xs.length) := by
      show (s.h.map fun p => bif Nat.beq p.1 id then (p.1, _) else (p.1, p.2.front id xs.length)) = _
      congr 1
      funext p
      cases Nat.beq p.1 id <;> rfl
    rw [e, get_mapK (fun q o => bif Nat.beq q id then AObj.arr d' t zs else o.front id xs.length)]
    by_cases hj : j = id
    · subst hj; rw [ho]; simp
    · rw [if_neg hj]
      cases s.h.get j with
      | none => rfl
      | some o => simp only [Option.map_some, beq_false hj, cond_false, frontO_mapC]
  have hh : ∀ j, j ≠ id → (s.front id xs.length (.arr d' t zs)).h.get j = (s.h.get j).map (AObj.mapC (ACell.front id xs.length)) := fun j hj => by rw [hget j, if_neg hj]
  have F : Carry s.h.get (s.front id xs.length (.arr d' t zs)).h.get S S w w' m m' (ACell.front id xs.length) := by
    refine carry_turn T R.mem hh (fun c hr => ?_) (fun x v hr r => ?_)
    · cases c with
      | os j => simp only [ACell.front, ACell.refs] at hr ⊢; rw [hr]; exact .inl rfl
      | op j o => exact .inl rfl
      | oe j i o => simp only [ACell.front, ACell.refs] at hr ⊢; rw [hr]; exact .inl rfl
      | sb j i o e y => simp only [ACell.front, ACell.refs] at hr ⊢; rw [hr]; exact .inl rfl
      | vw j k => simp only [ACell.front, ACell.refs] at hr ⊢; rw [hr]; exact .inl rfl
      | _ => exact .inl rfl
    · cases x with
      | os j =>
        have := Nat.eq_of_beq_eq_true hr
        subst this
        simp only [ACell.front, Nat.beq_refl, cond_true]
        obtain ⟨_, c1, h1, h2⟩ := r
        obtain rfl : c1 = c := Option.some.inj (h1.symm.trans hc)
        refine ⟨_, by rw [hget j, if_pos rfl], rfl, _, if_pos rfl, d', t, zs, rfl, Nat.zero_le _, hle, .inr ⟨g, cap, ⟨g, 0, none⟩, rfl, ?_, fun _ => by rw [Nat.zero_mul]⟩⟩
        rw [h2, hv, Nat.sub_zero, Nat.sub_zero]
      | op j o => have := Nat.eq_of_beq_eq_true hr; subst this; obtain ⟨⟨_, hx⟩, _⟩ := r; rw [ho] at hx; cases hx
      | oe j i o => simp only [ACell.front, ACell.refs] at hr ⊢; rw [hr]; trivial
      | sb j i o e y => simp only [ACell.front, ACell.refs] at hr ⊢; rw [hr]; trivial
      | vw j k => simp only [ACell.front, ACell.refs] at hr ⊢; rw [hr]; trivial
      | _ => cases hr
  refine ⟨m', ⟨mem_turnX (Orphan.empty s.h.get S w m B M0) (c' := ⟨.slice (some ⟨g, 0, none⟩) zs.length cap, F', t⟩) (o' := .arr d' t zs) T R.mem hB F hh (by rw [hget id, if_pos rfl]) (if_pos rfl) ⟨rfl, hrel⟩ (fun q hq => (hF' q hq).imp (fun h => h) .inr), frm_turn T R.mem hB R.frm hos ht hu hz, ?_, ?_, R.defers⟩, T.stay R.mem, if_pos rfl, by rw [hget id, if_pos rfl]⟩
  · have := tmps_carry F R.tmps rfl
    have e2 : (s.front id xs.length (.arr d' t zs)).ρ = s.ρ.map (AVal.mapC (ACell.front id xs.length)) := congrArg (fun f => s.ρ.map f) (funext (front_mapC id xs.length))
    rw [e2]
    exact this
  · rw [R.size]; simp [AS.front]
theorem growId_spec {d : Nat} {c : ACell} {id : Nat} (h : growId E d c = some id) : c = .os id := by
  unfold growId at h
  cases hb : E.grow.any (Nat.beq d) with
  | false => rw [hb] at h; cases h
  | true =>
    rw [hb] at h
    simp only [cond_true] at h
    split at h
    · cases h; rfl
    · cases h
theorem aGrow_spec {s : AS} {d st id : Nat} {x : ACell} {R' : Type} {k : AVal → AS → Option R'} {r : R'} (e : aGrow E s d st id x k = some r) :
    ∃ (t : Ty) (ys zs : List t.den) (dd : Bool), look E.T st = some (.slice t) ∧ noSb [x] = true ∧ srcOf s.h.get t x = some ys ∧ ((s.frzAll (osIn [x])).fresh d).h.get id = some (.arr dd t zs) ∧ (Nat.ble 100000 id && Nat.ble id 199999) = false ∧ 0 < ys.length ∧ zs.length + ys.length ≤ lim ∧
      k (.one (.os id)) ((((s.frzAll (osIn [x])).fresh d).updA id (.arr false t zs)).front id zs.length (.arr false t (zs ++ ys))) = some r ∧
      k (.one (.os (d * 16))) { ρ := (((s.frzAll (osIn [x])).fresh d).updA id (.arr false t zs)).ρ, h := (d * 16, .arr false t (zs ++ ys)) :: (((s.frzAll (osIn [x])).fresh d).updA id (.arr false t zs)).h, t := (((s.frzAll (osIn [x])).fresh d).updA id (.arr false t zs)).t + 1 } = some r := by
  unfold aGrow at e
  split at e
  · rename_i t hl hn
    split at e
    · rename_i ys hy
      simp only at e
      split at e
      · rename_i dd el zs hg
        cases hb : ((Nat.ble 100000 id && Nat.ble id 199999) || List.isEmpty ys) with
        | true => rw [hb] at e; cases e
        | false =>
          rw [hb] at e
          simp only [cond_false] at e
          split at e
          · rename_i xs hcast
            obtain ⟨hty, hxs⟩ := cast?_some hcast
            have hty' : el = t := by cases hty; rfl
            subst hty'
            cases hxs
            cases hle : decide (zs.length + ys.length ≤ lim) with
            | false => rw [hle] at e; cases e
            | true =>
              rw [hle] at e
              simp only [cond_true] at e
              simp only [Bool.or_eq_false_iff] at hb
              obtain ⟨e1, e2⟩ := bothSame_spec e
              exact ⟨_, ys, zs, dd, hl, hn, hy, hg, hb.1, by cases ys with | nil => cases hb.2 | cons _ _ => simp, of_decide_eq_true hle, e1, e2⟩
          · cases e
      · cases e
    · cases e
  · cases e
theorem aGrow_t [Tabs] {s : AS} {d st id : Nat} {x : ACell} {R' : Type} {k : AVal → AS → Option R'} {r : R'} (e : aGrow E s d st id x k = some r) : ∃ v s', k v s' = some r ∧ s.t < s'.t := by
  obtain ⟨t, ys, zs, dd, _, _, _, _, _, _, _, hk, _⟩ := aGrow_spec e
  refine ⟨_, _, hk, ?_⟩
  have h1 := (frzAll_t (osIn [x]) s).1
  have h2 := (fresh_t (s.frzAll (osIn [x])) d).1
  show s.t < ((s.frzAll (osIn [x])).fresh d).t + 1 + 1
  omega
theorem aGrow_sound [Tabs] (hT : ∀ p ∈ E.T, tyOk P p.1 p.2 = true) (hB0 : B ≤ w0.heap.size) {s : AS} {a : Act} (R : Rel w0 B M0 S m s a w) {o : Oper} {c : Call} (ho : o.op = .call c) (hc : c.callee = .builtin .append) {st : TypeId} {x y : Operand} (ht : c.argTypes.toList = [st, st]) (ha : c.args.toList = [x, y]) {id : Nat} {cy : ACell}
    (hx : s.ev x = .one (.os id)) (hy : s.ev y = .one cy) {R' : Type} {k : AVal → AS → Option R'} {r : R'} (e : aGrow E s (o.dst.getD 0) st id cy k = some r)
    {next : Act → World → Prop} {Q : Exit → Act → World → Prop} (K : ∀ v s' v' w' S' m', k v s' = some r → Moved w0 B M0 S m s a w v s' v' w' S' m' → next (a.put o.dst v') w') : o.wp P a w next Q := by
  have hB : B ≤ w.heap.size := Nat.le_trans hB0 R.frm.size
  obtain ⟨t, ys, zs, dd, hlook, hn, hsrc, hg, hrg, hne, hle, ka, kb⟩ := aGrow_spec e
  have hrx := R.ev x
  rw [hx] at hrx
  have hry := R.ev y
  rw [hy] at hry
  have tyo := hT _ (look_mem hlook)
  obtain ⟨te, ti, zv, hu, hi, hsz, hpos, hz, hzz, hby⟩ := slice_ty tyo
  have hzs : zv.cells.size = t.size := by
    obtain ⟨p', hp', _, hrep, _⟩ := isZ_spec (S := S) (w := w) (h := s.h.get) (m := m) t _ _ hzz
    rw [List.append_nil] at hp'
    rw [← hp'] at hrep
    simpa using hrep.len
  have hrep : Rep (Plus m s.h.get S (idsOf [cy])) w (.slice t) [a.eval y] ys := cellTo_rep R.mem (fun _ _ h _ => h) rfl hsrc hry
  have rows := hrep.rows.resolve_left fun h => by rw [h.2] at hne; simp at hne
  obtain ⟨S1, b1, b2, R1, b4, _⟩ := R.frzAll_in (osIn [cy])
  have hsub : ∀ q, Plus m s.h.get S (idsOf [cy]) q → S1 q := fun q hq => by
    rw [noSb_ids hn] at hq
    rcases hq with hq | ⟨j, hj, _, oc, hoc, hF⟩
    · exact b1 q hq
    · obtain ⟨d2, t2, xs2, h2⟩ := cell_in hsrc j hj
      exact b4 j hj d2 t2 xs2 oc h2 hoc q hF
  obtain ⟨R2, hfr⟩ := R1.fresh (o.dst.getD 0)
  have tle : s.t ≤ ((s.frzAll (osIn [cy])).fresh (o.dst.getD 0)).t := Nat.le_trans (frzAll_t (osIn [cy]) s).1 (fresh_t (s.frzAll (osIn [cy])) (o.dst.getD 0)).1
  generalize (s.frzAll (osIn [cy])).fresh (o.dst.getD 0) = s1 at *
  obtain ⟨_, oc, hm, hv⟩ := hrx
  obtain ⟨S2, m2, c2, p1, p2, R3, p3, _⟩ := R2.shallowArr hg
  obtain ⟨q1, q2, _⟩ := p3 oc hm
  have hg2 : (s1.updA id (.arr false t zs)).h.get id = some (.arr false t zs) := by rw [AS.updA, get_updA, if_pos rfl, hg]; rfl
  obtain ⟨c3, hm3, _, hrel⟩ := R3.mem.obj id _ hg2
  obtain rfl : c3 = c2 := Option.some.inj (hm3.symm.trans q1)
  rw [q2] at hrel
  have sem : ∀ {w' : World} {v' : Value}, (Builtin.append_ #[st, st] o.type #[a.eval x, a.eval y]).run P w = .ok v' w' → next (a.put o.dst v') w' → o.wp P a w next Q := fun {w' v'} hr hnext => by
    have h1 : c.argTypes = #[st, st] := by rw [← Array.toArray_toList (xs := c.argTypes), ht]
    have h2 : c.args = #[x, y] := by rw [← Array.toArray_toList (xs := c.args), ha]
    unfold Oper.wp execOp
    simp only [ho, resolve, invoke, builtin, Sem.run_bind, Sem.run_pure, Result.andThen_ok, hc, h1, h2, List.map_toArray, List.map_cons, List.map_nil, hr]
    exact hnext
  have hSF : ∀ q, S2 q → q < w.heap.size ∧ ¬ c3.F q := fun q hq => ⟨R3.mem.lt q hq, fun hF => (R3.mem.apart id c3 (heap_ne hg2) hm3 q hF).1 hq⟩
  have e1 : ∀ q, S q → S2 q := fun q hq => p1 q (b1 q hq)
  have e2 : ∀ q, S2 q → S q ∨ B ≤ q ∨ M0 q := fun q hq => (p2 q hq).elim (fun h => b2 q h) .inr
  rcases append_front (P := P) (ty := o.type) hu hi hsz hz hzs hby hrel hSF (fun q hq => p1 q (hsub q hq)) rows hne hle with ⟨g, cap, cur, ncur, te', f1, f2, f3, f4, f5⟩ | ⟨v', w', F', f1, f2, f3, f4⟩
  · rw [← hv] at f4
    have hlen : zs.length + ys.length = (zs ++ ys).length := by simp
    rw [hlen] at f4 f5
    obtain ⟨m', R4, hst, hm4, hg4⟩ := R3.front (zs := zs ++ ys) hB hg2 hm3 (by rw [q2]; exact f1) (by simp) (w' := w.setRow g ncur) (by rw [size_setRow]; exact Nat.le_refl _) (fun q _ hq => setRow_other w g q ncur fun h => hq (h ▸ f2)) rfl rfl rfl (fun a _ => frozen_setRow f3 a) f5 (fun q hq => .inl (by rw [hq]; exact f2))
    refine sem f4 (K _ _ _ (w.setRow g ncur) S2 m' ka ⟨⟨⟨false, t, zs ++ ys, hg4⟩, _, hm4, rfl⟩, R4, ⟨e1, by rw [size_setRow]; exact Nat.le_refl _, fun q hq => hst q (e1 q hq), e2⟩, by show s.t ≤ s1.t + 1 + 1; omega, fun et => ?_⟩)
    have : s1.t + 1 + 1 = s.t := et
    omega
  · rw [← hv] at f1
    have hfr2 : (s1.updA id (.arr false t zs)).h.get (o.dst.getD 0 * 16) = none := by
      have hn0 := hfr (o.dst.getD 0 * 16) (Nat.le_refl _) (by omega)
      have hne2 : o.dst.getD 0 * 16 ≠ id := fun h => by rw [h, hg] at hn0; cases hn0
      rw [AS.updA, get_updA, if_neg hne2, hn0]; rfl
    obtain ⟨m', R4, hm4, _⟩ := R3.born (n := (s1.updA id (.arr false t zs)).t + 1) hB hfr2 f2 f3 f4
    refine sem f1 (K _ _ v' w' S2 m' kb ⟨⟨⟨false, t, zs ++ ys, by simp [AHeap.get]⟩, _, hm4, rfl⟩, R4, ⟨e1, f2.size, fun q hq => f2.block q (R.mem.lt q hq), e2⟩, by show s.t ≤ s1.t + 1 + 1; omega, fun et => ?_⟩)
    have : s1.t + 1 + 1 = s.t := et
    omega
end
end Go.Ab
