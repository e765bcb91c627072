/-
  AcceptParcels: the two sides do alike.
-/
import Derived.Test.YtlalabdgkkfjpaaRPlain9
namespace Go.Proofs.Ytlalabdgkkfjpaa.Sh
open Go Go.Ab
set_option maxRecDepth 100000

def keepIf (t : GParcel → Bool) (o : List GParcel) (x : GParcel) : List GParcel := bif t x then o ++ [x] else o
theorem keep_all {t : GParcel → Bool} : ∀ (l o : List GParcel), (∀ x ∈ l, t x = true) → l.foldl (keepIf t) o = o ++ l
  | [], o, _ => by simp
  | x :: l, o, h => by
    simp only [List.foldl_cons]
    rw [keepIf, h x (by simp), cond_true, keep_all l _ (fun y hy => h y (List.mem_cons_of_mem _ hy))]
    simp
theorem keep_none {t : GParcel → Bool} : ∀ (l o : List GParcel), (∀ x ∈ l, t x = false) → l.foldl (keepIf t) o = o
  | [], o, _ => rfl
  | x :: l, o, h => by
    simp only [List.foldl_cons]
    rw [keepIf, h x (by simp), cond_false, keep_none l _ (fun y hy => h y (List.mem_cons_of_mem _ hy))]
theorem keep_len (t : GParcel → Bool) (o : List GParcel) (x : GParcel) {n : Nat} (h : o.length ≤ n) : (keepIf t o x).length ≤ n + 1 := by
  unfold keepIf
  cases t x with
  | true => simp; omega
  | false => simp; omega

structure Apart (m : Int) (ps : List GParcel) : Prop where
  lo : ∀ x ∈ ps.take (spot m ps), x.1 < m
  hi : ∀ x ∈ ps.drop (spot m ps), m < x.1
theorem apart_of {T : Nat} {ps : List GParcel} (hc : ∀ j, j < ps.length → Cond T ps j) {m : Int} (hno : ∀ j, j < ps.length → (P ps j).1 ≠ m) : Apart m ps := by
  have hs := spot_le m ps
  refine ⟨fun x hx => ?_, fun x hx => ?_⟩
  · obtain ⟨j, hj, rfl⟩ := List.getElem_of_mem hx
    rw [List.length_take] at hj
    rw [List.getElem_take]
    exact spot_lt m ps j _ (by simp [show j < ps.length by omega]) (by omega)
  · obtain ⟨j, hj, rfl⟩ := List.getElem_of_mem hx
    rw [List.length_drop] at hj
    rw [List.getElem_drop]
    have h0 : spot m ps < ps.length := by omega
    have h1 := spot_ge m ps (ps[spot m ps]) (by simp [h0])
    have h2 := sorted_P hc j (spot m ps) (by omega)
    have h3 := hno (spot m ps + j) (by omega)
    rw [P_eq h0, P_eq (by omega)] at h2
    rw [P_eq (by omega)] at h3
    omega
theorem keep_lo {m : Int} {ps : List GParcel} (h : Apart m ps) : ps.foldl (keepIf fun x => decide (x.1 < m)) [] = ps.take (spot m ps) := by
  conv => lhs; rw [← List.take_append_drop (spot m ps) ps]
  rw [List.foldl_append, keep_all _ _ (fun x hx => decide_eq_true (h.lo x hx)), keep_none _ _ (fun x hx => decide_eq_false (by have := h.hi x hx; omega))]
  simp
theorem keep_hi {m : Int} {ps : List GParcel} (h : Apart m ps) (o : List GParcel) : ps.foldl (keepIf fun x => decide (m < x.1)) o = o ++ ps.drop (spot m ps) := by
  conv => lhs; rw [← List.take_append_drop (spot m ps) ps]
  rw [List.foldl_append, keep_none (ps.take (spot m ps)) o (fun x hx => decide_eq_false (by have := h.lo x hx; omega)), keep_all (ps.drop (spot m ps)) o (fun x hx => decide_eq_true (h.hi x hx))]

theorem news_succ (m k a b t : Int) (n : Nat) : news m k a b t (n + 1) = news m k a b t n ++ [mkNew m k a b t n] := by
  unfold news
  rw [List.range_succ, List.map_append]
  rfl
theorem push_news (m k a b t : Int) : ∀ (n : Nat) (o : List GParcel), (List.range n).foldl (fun o d => o ++ [mkNew m k a b t d]) o = o ++ news m k a b t n
  | 0, o => by simp [news]
  | n + 1, o => by
    rw [List.range_succ, List.foldl_append, push_news m k a b t n o, news_succ]
    simp
theorem ins_placed {ps : List GParcel} {s : Nat} (hs : s ≤ ps.length) (m k a b t : Int) (n : Nat) : insV (placed ps s (news m k a b t n)) ((s : Int) + (n : Int)) (mkNew m k a b t n) = placed ps s (news m k a b t (n + 1)) := by
  unfold insV placed
  have e : ((s : Int) + (n : Int)).toNat = (ps.take s ++ news m k a b t n).length := by rw [List.length_append, List.length_take, news_len]; omega
  rw [e, List.take_left, List.drop_left, news_succ]
  simp
theorem ins_fold {ps : List GParcel} {s : Nat} (hs : s ≤ ps.length) (m k a b t : Int) : ∀ n : Nat, (List.range n).foldl (fun (l : List GParcel) (d : Nat) => insV l ((s : Int) + (d : Int)) (mkNew m k a b t d)) ps = placed ps s (news m k a b t n)
  | 0 => by simp [placed, news]
  | n + 1 => by
    rw [List.range_succ, List.foldl_append, ins_fold hs m k a b t n]
    exact ins_placed hs m k a b t n

theorem one_loop' {τ ρ : Type} {n : Nat} {f : τ → Option (τ ⊕ ρ)} {a : τ} {y : ρ} (R : Nat → τ → Prop) (h0 : R 0 a) (step : ∀ i a, i < n → R i a → ∃ a', f a = some (.inl a') ∧ R (i + 1) a') (fin : ∀ a, R n a → f a = some (.inr y)) : loopE f a = some y := by
  obtain ⟨z, h1, h2⟩ := one_loop (n := n) (f := f) R (fun z => z = y) (fun i a hi h => .inl (step i a hi h)) (fun a h => ⟨y, fin a h, rfl⟩) n 0 a (by omega) h0
  rw [h1, h2]

/-- may a message be accepted? -/
def okAcc (w : GNetwork) (m a b k : Int) : Bool := inB m 1 999 && (inB a 0 ((w.1.1.length : Int) - 1) && (inB b 0 ((w.1.1.length : Int) - 1) && (inB k 1 9 && (!(w.2.2.2.1.any fun x => decide (x.1 = m)) && !decide (40 < (w.2.2.2.1.length : Int) + k)))))
def accW (w : GNetwork) (m a b k : Int) : GNetwork := (w.1, w.2.1, w.2.2.1, placed w.2.2.2.1 (spot m w.2.2.2.1) (news m k a b w.2.2.1 k.toNat), ())
def accepted (w : GNetwork) (m a b k : Int) : GNetwork × Bool := bif okAcc w m a b k then (accW w m a b k, true) else (zeroW, false)

theorem none_of {ps : List GParcel} {m : Int} (h : (ps.any fun x => decide (x.1 = m)) = false) : ∀ j, j < ps.length → (P ps j).1 ≠ m := fun j hj e => by
  rw [List.any_eq_false] at h
  have := h (ps[j]) (List.getElem_mem hj)
  rw [P_eq hj] at e
  simp [e] at this

theorem s_acc {w : GNetwork} (hw : SmallW w) (hn : isNw w = true) (m a b k : Int) : s_nwAccept w m a b k = some (accepted w m a b k) := by
  obtain ⟨h1, h2, h3, h4, h5, h6⟩ := isNw_parts hn
  have hc := cond_iff.2 h6
  have hT := (net_sz h1).1
  unfold s_nwAccept accepted okAcc
  rw [w64_of (x := (w.1.1.length : Int) - 1) (by omega) (by omega)]
  simp only [l1In_eq, Option.bind_some]
  cases hm : inB m 1 999 with
  | false => rfl
  | true =>
  cases ha : inB a 0 ((w.1.1.length : Int) - 1) with
  | false => rfl
  | true =>
  cases hb : inB b 0 ((w.1.1.length : Int) - 1) with
  | false => rfl
  | true =>
  cases hk : inB k 1 9 with
  | false => rfl
  | true =>
  have hk2 := hk
  simp only [inB, Bool.and_eq_true, decide_eq_true_eq] at hk2
  rw [w64_of (x := (w.2.2.2.1.length : Int) + k) (by omega) (by omega)]
  simp only [Bool.not_true, cond_false, Option.bind_some]
  have hfind : (s_nwFind w m 0).bind (fun r8 => some (decide (0 ≤ r8))) = some (w.2.2.2.1.any fun x => decide (x.1 = m)) := by
    rw [s_find w hw.fine, ← any_of_cond hc m, ← find_or (fun x : GParcel => decide (x.1 = m) && decide (x.2.1 = 0)) w.2.2.2.1 0]
    cases firstAt (fun x : GParcel => decide (x.1 = m) && decide (x.2.1 = 0)) w.2.2.2.1 0 with
    | none => rfl
    | some i => simp only [Option.bind_some, Option.isSome_some]; rw [dec_t (by omega : (0 : Int) ≤ (i : Int))]
  rw [hfind]
  simp only [Option.bind_some]
  cases hany : (w.2.2.2.1.any fun x => decide (x.1 = m)) with
  | true => rfl
  | false =>
  simp only [cond_false, Option.bind_some]
  by_cases h40 : 40 < (w.2.2.2.1.length : Int) + k
  · rw [dec_t h40]; rfl
  rw [dec_f h40]
  simp only [cond_false, s_own hw, Option.bind_some]
  have hap := apart_of hc (none_of hany)
  obtain ⟨n, rfl⟩ : ∃ n : Nat, k = (n : Int) := ⟨k.toNat, by omega⟩
  refine bind_eq (fold_loop (l := w.2.2.2.1) (fun (o : List GParcel) (i : Int) => (([] : List GLink), ([] : List GLink), ([] : List GLink), (0 : Int), ([] : List GParcel), w.1.1, w.1.2.1, w.2.1, w.2.2.1, o, i)) (keepIf fun x => decide (x.1 < m)) (fun o => (([] : List GLink), ([] : List GLink), ([] : List GLink), (0 : Int), ([] : List GParcel), w.1.1, w.1.2.1, w.2.1, w.2.2.1, o)) (fun i s => s.length ≤ i) [] (by simp) ?_ ?_).1 ?_
  · intro s i x hx hi hI
    refine ⟨?_, keep_len _ _ _ hI⟩
    simp only [idx_get, hx, Option.bind_some, at_lt hi, cond_true, lim_ok (n := s.length + [x].length) (by simp; omega), w64_of (x := (i : Int) + 1) (by omega) (by omega), keepIf]
    cases decide (x.1 < m) <;> rfl
  · intro s hI
    simp only [dec_f (by omega : ¬ (w.2.2.2.1.length : Int) < (w.2.2.2.1.length : Int)), cond_false]
  rw [keep_lo hap]
  have htl : (w.2.2.2.1.take (spot m w.2.2.2.1)).length ≤ 40 := by rw [List.length_take]; omega
  refine bind_eq (fold_at (n := n) (fun (o : List GParcel) (i : Int) => (([] : List GLink), ([] : List GLink), ([] : List GLink), (0 : Int), ([] : List GParcel), w.1.1, w.1.2.1, w.2.1, w.2.2.1, o, i)) (fun o d => o ++ [mkNew m (n : Int) a b w.2.2.1 d]) (fun o => (([] : List GLink), ([] : List GLink), ([] : List GLink), (0 : Int), ([] : List GParcel), w.1.1, w.1.2.1, w.2.1, w.2.2.1, o)) (fun i s => s.length ≤ 40 + i) (w.2.2.2.1.take (spot m w.2.2.2.1)) (by simpa using htl) ?_ ?_).1 ?_
  · intro s i hi hI
    refine ⟨?_, by simp only [List.length_append, List.length_singleton]; omega⟩
    simp only [dec_t (by omega : (i : Int) < (n : Int)), cond_true, lim_ok (n := s.length + [(m, (i : Int), (n : Int), a, b, w.2.2.1, ())].length) (by simp; omega), w64_of (x := (i : Int) + 1) (by omega) (by omega)]
    rfl
  · intro s hI
    simp only [dec_f (by omega : ¬ (n : Int) < (n : Int)), cond_false]
  rw [push_news]
  refine bind_eq (fold_loop (l := w.2.2.2.1) (fun (o : List GParcel) (i : Int) => (([] : List GLink), ([] : List GLink), ([] : List GLink), (0 : Int), ([] : List GParcel), w.1.1, w.1.2.1, w.2.1, w.2.2.1, o, i)) (keepIf fun x => decide (m < x.1)) (fun o => (([] : List GLink), ([] : List GLink), ([] : List GLink), (0 : Int), ([] : List GParcel), w.1.1, w.1.2.1, w.2.1, w.2.2.1, o)) (fun i s => s.length ≤ 49 + i) (w.2.2.2.1.take (spot m w.2.2.2.1) ++ news m (n : Int) a b w.2.2.1 n) (by simp only [List.length_append, news_len]; omega) ?_ ?_).1 ?_
  · intro s i x hx hi hI
    refine ⟨?_, by have := keep_len (fun x => decide (m < x.1)) s x hI; omega⟩
    simp only [idx_get, hx, Option.bind_some, at_lt hi, cond_true, lim_ok (n := s.length + [x].length) (by simp; omega), w64_of (x := (i : Int) + 1) (by omega) (by omega), keepIf]
    cases decide (m < x.1) <;> rfl
  · intro s hI
    simp only [dec_f (by omega : ¬ (w.2.2.2.1.length : Int) < (w.2.2.2.1.length : Int)), cond_false]
  rw [keep_hi hap]
  rfl

theorem i_any {ps : List GParcel} (hl : ps.length ≤ maxLen) (a : GAct) : slices_ContainsFunc_Parcel_141 ps (a, ()) = some (ps.any fun x => decide (x.1 = a.2.1)) := by
  unfold slices_ContainsFunc_Parcel_141 slices_IndexFunc_Parcel_141
  rw [find_loop (l := ps) (fun x => decide (x.1 = a.2.1)) ?_ ?_]
  · rw [← find_or (fun x : GParcel => decide (x.1 = a.2.1)) ps 0]
    cases firstAt (fun x : GParcel => decide (x.1 = a.2.1)) ps 0 with
    | none => rfl
    | some i => simp only [Option.bind_some, Option.isSome_some]; rw [dec_t (by omega : (0 : Int) ≤ (i : Int))]
  · intro i x hx hi
    simp only [idx_get, hx, Option.bind_some, at_lt hi, up hl hi, cond_true, i_actOn_2]
    cases decide (x.1 = a.2.1) <;> rfl
  · simp

theorem nw_acc {w : GNetwork} (hn : isNw w = true) {m a b k : Int} (hk : 1 ≤ k ∧ k ≤ 9) (hno : (w.2.2.2.1.any fun x => decide (x.1 = m)) = false) : isNw (accW w m a b k) = (inB m 1 999 && (inB a 0 ((w.1.1.length : Int) - 1) && (inB b 0 ((w.1.1.length : Int) - 1) && !decide (40 < (w.2.2.2.1.length : Int) + k)))) := by
  obtain ⟨h1, h2, h3, h4, h5, h6⟩ := isNw_parts hn
  have hc := cond_iff.2 h6
  have hs := spot_le m w.2.2.2.1
  obtain ⟨n, rfl⟩ : ∃ n : Nat, k = (n : Int) := ⟨k.toNat, by omega⟩
  have hlen : (accW w m a b (n : Int)).2.2.2.1.length = w.2.2.2.1.length + n := by
    show (placed _ _ (news m (n : Int) a b w.2.2.1 ((n : Int).toNat))).length = _
    rw [placed_len hs, news_len]
    rfl
  rw [Bool.eq_iff_iff]
  simp only [Bool.and_eq_true, Bool.not_eq_true', decide_eq_false_iff_not, inB, decide_eq_true_eq]
  constructor
  · intro h
    obtain ⟨g1, g2, g3, g4, g5, g6⟩ := isNw_parts h
    have hc2 := cond_iff.2 g6
    have c := (hc2 (spot m w.2.2.2.1) (by rw [hlen]; omega)).al
    have e : P (accW w m a b (n : Int)).2.2.2.1 (spot m w.2.2.2.1) = mkNew m (n : Int) a b w.2.2.1 0 := by
      show P (placed _ _ (news m (n : Int) a b w.2.2.1 ((n : Int).toNat))) _ = _
      rw [placed_get hs, if_neg (by omega), if_pos (by rw [news_len]; simp only [Int.toNat_natCast]; omega), Nat.sub_self, news_P _ _ _ _ _ (by simp only [Int.toNat_natCast]; omega)]
    rw [e] at c
    have cm := c.m; have ca := c.a; have ct := c.t
    have em : (mkNew m (n : Int) a b w.2.2.1 0).1 = m := rfl
    have ea : (mkNew m (n : Int) a b w.2.2.1 0).2.2.2.1 = a := rfl
    have eb : (mkNew m (n : Int) a b w.2.2.1 0).2.2.2.2.1 = b := rfl
    have eT : (accW w m a b (n : Int)).1.1.length = w.1.1.length := rfl
    rw [em] at cm; rw [ea, eT] at ca; rw [eb, eT] at ct
    rw [hlen] at g5
    omega
  · rintro ⟨hm, ha, hb, h40⟩
    have hg := groups_placed hc (m := m) (a := a) (b := b) (t := w.2.2.1) (n := n) (by omega) hm (by omega) (by omega) (by omega) (none_of hno)
    have hg2 := cond_iff.1 hg
    unfold isNw at hn ⊢
    simp only [Bool.and_eq_true, decide_eq_true_eq] at hn ⊢
    refine ⟨hn.1, hn.2.1, hn.2.2.1, by rw [hlen]; omega, ?_⟩
    unfold groupsB
    have : Groups (accW w m a b (n : Int)).1.1.length (accW w m a b (n : Int)).2.2.2.1 0 0 := hg2
    simp [this]

theorem small_acc {w : GNetwork} (hw : SmallW w) (h5 : w.2.2.2.1.length ≤ 40) {m a b k : Int} (hk : 1 ≤ k ∧ k ≤ 9) : SmallW (accW w m a b k) := by
  refine ⟨hw.n, hw.f, ?_⟩
  show (placed _ _ (news m k a b w.2.2.1 k.toNat)).length ≤ _
  rw [placed_len (spot_le m _), news_len]
  omega

theorem i_acc {w : GNetwork} (hw : SmallW w) (hn : isNw w = true) (x : GAct) (hx : x.1 = 1) : i_actOn w x = some (accepted w x.2.1 x.2.2.1 x.2.2.2.1 x.2.2.2.2.1) := by
  obtain ⟨h1, h2, h3, h4, h5, h6⟩ := isNw_parts hn
  have hc := cond_iff.2 h6
  obtain ⟨x0, m, a, b, k, u⟩ := x
  simp only at hx
  subst hx
  unfold i_actOn accepted okAcc
  rw [cloneNw hw]
  simp only [Option.bind_some]
  rw [i_find hw.fine.p, i_any hw.fine.p]
  simp only [eq_self, decide_true, cond_true, Option.bind_some, within_eq]
  cases hany : (w.2.2.2.1.any fun x => decide (x.1 = m)) with
  | true =>
    cases inB m 1 999 <;> cases inB a 0 ((w.1.1.length : Int) - 1) <;> cases inB b 0 ((w.1.1.length : Int) - 1) <;> cases inB k 1 9 <;> rfl
  | false =>
  cases hk : inB k 1 9 with
  | false =>
    cases inB m 1 999 <;> cases inB a 0 ((w.1.1.length : Int) - 1) <;> cases inB b 0 ((w.1.1.length : Int) - 1) <;> rfl
  | true =>
  have hk2 := hk
  simp only [inB, Bool.and_eq_true, decide_eq_true_eq] at hk2
  have hacc := nw_acc hn (m := m) (a := a) (b := b) (k := k) hk2 hany
  have hsm := small_acc hw h5 (m := m) (a := a) (b := b) hk2
  have hs := spot_le m w.2.2.2.1
  simp only [cond_false, Option.bind_some, Bool.not_true, Bool.not_false, Bool.true_and]
  obtain ⟨n, rfl⟩ : ∃ n : Nat, k = (n : Int) := ⟨k.toNat, by omega⟩
  refine bind_eq (one_loop' (n := spot m w.2.2.2.1) (y := (([] : List GLink), ([] : List GLink), ([] : List GLink), (0 : Int), ([] : List GParcel), w.1.1, w.1.2.1, w.2.1, w.2.2.1, w.2.2.2.1, ((spot m w.2.2.2.1 : Nat) : Int))) (fun (i : Nat) st => st = (([] : List GLink), ([] : List GLink), ([] : List GLink), (0 : Int), ([] : List GParcel), w.1.1, w.1.2.1, w.2.1, w.2.2.1, w.2.2.2.1, (i : Int))) rfl ?_ ?_) ?_
  · intro i st hi hst
    subst hst
    have hil : i < w.2.2.2.1.length := by omega
    have hlt := spot_lt m w.2.2.2.1 i _ (get_P hil) hi
    refine ⟨_, ?_, rfl⟩
    simp only [at_lt hil, dec_t (by omega : (0 : Int) ≤ (i : Int)), cond_true, Bool.and_self, Int.toNat_natCast, get_P hil, Option.bind_some, dec_t hlt, w64_of (x := (i : Int) + 1) (by omega) (by omega)]
    rfl
  · intro st hst
    subst hst
    by_cases hl : spot m w.2.2.2.1 < w.2.2.2.1.length
    · have hge := spot_ge m w.2.2.2.1 _ (get_P hl)
      simp only [at_lt hl, dec_t (by omega : (0 : Int) ≤ ((spot m w.2.2.2.1 : Nat) : Int)), cond_true, Bool.and_self, Int.toNat_natCast, get_P hl, Option.bind_some, dec_f hge, cond_false]
    · simp only [dec_f (by omega : ¬ ((spot m w.2.2.2.1 : Nat) : Int) < (w.2.2.2.1.length : Int)), cond_false, Option.bind_some]
  refine bind_eq (fold_at (n := n) (fun (o : List GParcel) (i : Int) => (([] : List GLink), ([] : List GLink), ([] : List GLink), (0 : Int), ([] : List GParcel), w.1.1, w.1.2.1, w.2.1, w.2.2.1, o, i)) (fun o d => insV o ((spot m w.2.2.2.1 : Int) + (d : Int)) (mkNew m (n : Int) a b w.2.2.1 d)) (fun o => (([] : List GLink), ([] : List GLink), ([] : List GLink), (0 : Int), ([] : List GParcel), w.1.1, w.1.2.1, w.2.1, w.2.2.1, o)) (fun i s => s.length = w.2.2.2.1.length + i) w.2.2.2.1 (by simp) ?_ ?_).1 ?_
  · intro s i hi hI
    have e1 : w64 (((spot m w.2.2.2.1 : Nat) : Int) + (i : Int)) = ((spot m w.2.2.2.1 : Nat) : Int) + (i : Int) := w64_of (by omega) (by omega)
    refine ⟨?_, ?_⟩
    · simp only [dec_t (by omega : (i : Int) < (n : Int)), cond_true, e1, dec_t (by omega : 0 ≤ ((spot m w.2.2.2.1 : Nat) : Int) + (i : Int)), dec_t (by omega : ((spot m w.2.2.2.1 : Nat) : Int) + (i : Int) ≤ (s.length : Int)), dec_t (by omega : s.length ≤ 999999), Bool.and_self, w64_of (x := (i : Int) + 1) (by omega) (by omega)]
      rfl
    · unfold insV
      simp only [List.length_append, List.length_cons, List.length_take, List.length_drop]
      omega
  · intro s hI
    simp only [dec_f (by omega : ¬ (n : Int) < (n : Int)), cond_false]
  rw [ins_fold hs]
  have hb := i_isNw hsm.fine
  rw [hacc] at hb
  refine bind_eq (x := (inB m 1 999 && (inB a 0 ((w.1.1.length : Int) - 1) && (inB b 0 ((w.1.1.length : Int) - 1) && !decide (40 < (w.2.2.2.1.length : Int) + (n : Int)))))) hb ?_
  cases inB m 1 999 <;> cases inB a 0 ((w.1.1.length : Int) - 1) <;> cases inB b 0 ((w.1.1.length : Int) - 1) <;> cases decide (40 < (w.2.2.2.1.length : Int) + (n : Int)) <;> rfl

theorem acc_small {w : GNetwork} (hw : SmallW w) (hn : isNw w = true) (m a b k : Int) : SmallW (accepted w m a b k).1 := by
  obtain ⟨h1, h2, h3, h4, h5, h6⟩ := isNw_parts hn
  unfold accepted
  cases h : okAcc w m a b k with
  | false => exact zero_small
  | true =>
    unfold okAcc at h
    simp only [Bool.and_eq_true, inB, decide_eq_true_eq] at h
    exact small_acc hw h5 h.2.2.2.1

theorem s_act_acc {w : GNetwork} (hw : SmallW w) (hn : isNw w = true) (x : GAct) (hx : x.1 = 1) : s_nwAct w x = some (accepted w x.2.1 x.2.2.1 x.2.2.2.1 x.2.2.2.2.1) := by
  unfold s_nwAct
  rw [dec_t hx, s_acc hw hn]
  rfl

theorem acc_same {w : GNetwork} (hs : SmallW w) (m a b k : Int) : ∃ v c, s_AcceptParcels w m a b k = some (v, c) ∧ i_AcceptParcels w m a b k = some (v, c) ∧ SmallW v := by
  unfold s_AcceptParcels i_AcceptParcels s_nwAsked
  rw [s_isNw hs.fine, i_isNw hs.fine]
  simp only [Option.bind_some]
  cases hn : isNw w with
  | false => exact ⟨zeroW, false, rfl, rfl, zero_small⟩
  | true =>
    simp only [Bool.not_true, cond_false]
    rw [s_act_acc hs hn _ rfl, i_acc hs hn _ rfl]
    exact ⟨_, _, rfl, rfl, acc_small hs hn _ _ _ _⟩

/-- FnExactAcceptParcels -/
theorem plain_AcceptParcels (w : GNetwork) (m a b k : Int) (hw : FineW w) : l_FnExactAcceptParcels w m a b k = some true := by
  unfold l_FnExactAcceptParcels
  obtain ⟨r, hr, h2⟩ := szNetwork hw
  rw [hr]
  simp only [Option.bind_some]
  by_cases h3 : r < 0
  · rw [dec_t h3]; rfl
  rw [dec_f h3]
  have hs : SmallW w := h2.resolve_left h3
  obtain ⟨v, c, e1, e2, hv⟩ := acc_same hs m a b k
  have hc := cntW_le hv
  have hcw := cntW_le hs
  have hm := heldNetwork hv (k := 1) (by omega) (by omega)
  have hm3 : ∀ q : Int, l_heldNetwork ((markedW v 1).1, (markedW v 1).2.1, v.2.2.1, (markedW v 1).2.2.2) 1 = l_heldNetwork (markedW v 1) 1 := fun _ => rfl
  simp only [toNetwork hs, e1, e2, eqNetwork hv.fine, eqNetwork hw, Option.bind_some, cond_false, Bool.not_true, bne_self_eq_false, markNetwork hs (k := 1) (by omega) (by omega), dec_f (by omega : ¬ (1 + (cntW w : Int)) < 0),
    markNetwork hv (k := 1) (by omega) (by omega), hm3 0, hm, dec_f (by omega : ¬ (1 + (cntW v : Int)) < 0), decide_true]
end Go.Proofs.Ytlalabdgkkfjpaa.Sh
