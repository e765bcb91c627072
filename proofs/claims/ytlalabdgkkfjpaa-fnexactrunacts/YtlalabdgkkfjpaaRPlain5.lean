/-
  Networks in plain Lean: WhereIs, NewNetwork, AllowedPasses.
-/
import Derived.Test.YtlalabdgkkfjpaaRPlain4
namespace Go.Ab
/-- a loop over a list that folds -/
theorem fold_loop {α σ τ ρ : Type} {l : List α} {f : τ → Option (τ ⊕ ρ)} (mk : σ → Int → τ) (g : σ → α → σ) (fin : σ → ρ) (I : Nat → σ → Prop) (s0 : σ) (h0 : I 0 s0)
    (hf : ∀ s (i : Nat) x, l[i]? = some x → i < l.length → I i s → f (mk s i) = some (.inl (mk (g s x) ((i : Int) + 1))) ∧ I (i + 1) (g s x)) (hend : ∀ s, I l.length s → f (mk s l.length) = some (.inr (fin s))) :
    loopE f (mk s0 0) = some (fin (l.foldl g s0)) ∧ I l.length (l.foldl g s0) := by
  have main : ∀ (r pre : List α) (s : σ), l = pre ++ r → I pre.length s → loopE f (mk s pre.length) = some (fin (r.foldl g s)) ∧ I l.length (r.foldl g s) := by
    intro r
    induction r with
    | nil =>
      intro pre s e hI
      rw [List.append_nil] at e
      subst e
      exact ⟨loopE_done (hend s hI), hI⟩
    | cons x r ih =>
      intro pre s e hI
      have hx : l[pre.length]? = some x := by rw [e]; simp
      have hlt : pre.length < l.length := by rw [e]; simp
      obtain ⟨h1, h2⟩ := hf s pre.length x hx hlt hI
      rw [loopE_step h1]
      have := ih (pre ++ [x]) (g s x) (by rw [e]; simp) (by simpa using h2)
      simpa using this
  exact main l [] s0 rfl h0
/-- a loop over places that folds -/
theorem fold_at {σ τ ρ : Type} {n : Nat} {f : τ → Option (τ ⊕ ρ)} (mk : σ → Int → τ) (g : σ → Nat → σ) (fin : σ → ρ) (I : Nat → σ → Prop) (s0 : σ) (h0 : I 0 s0)
    (hf : ∀ s (i : Nat), i < n → I i s → f (mk s i) = some (.inl (mk (g s i) ((i : Int) + 1))) ∧ I (i + 1) (g s i)) (hend : ∀ s, I n s → f (mk s n) = some (.inr (fin s))) :
    loopE f (mk s0 0) = some (fin ((List.range n).foldl g s0)) ∧ I n ((List.range n).foldl g s0) := by
  have := fold_loop (l := List.range n) (f := f) mk g fin I s0 h0 (fun s i x hx hi hI => by
    rw [List.length_range] at hi
    rw [List.getElem?_range hi] at hx
    cases hx
    exact hf s _ hi hI) (fun s hI => by rw [List.length_range] at hI ⊢; exact hend s hI)
  rw [List.length_range] at this
  exact this
theorem bothSame_self {R : Type} (a : Option R) : bothSame a a = a := by unfold bothSame; simp
end Go.Ab
namespace Go.Proofs.Ytlalabdgkkfjpaa.Sh
open Go Go.Ab Go.Proofs

theorem lim_ok {n : Nat} (h : n ≤ 4194304) : decide (n ≤ lim) = true := by unfold lim; exact decide_eq_true (by omega)

/-- the messages' places -/
def fire (t : GParcel → Bool) (v : GParcel → Int) (out : List Int) (x : GParcel) : List Int := bif t x then out ++ [v x] else out
theorem fire_len (t : GParcel → Bool) (v : GParcel → Int) : ∀ (l : List GParcel) (out : List Int), (l.foldl (fire t v) out).length ≤ out.length + l.length
  | [], out => by simp
  | x :: l, out => by
    have := fire_len t v l (fire t v out x)
    have h2 : (fire t v out x).length ≤ out.length + 1 := by unfold fire; cases t x <;> simp
    simp only [List.foldl_cons, List.length_cons]
    omega
theorem fire_pos (t : GParcel → Bool) (v : GParcel → Int) : ∀ (l : List GParcel) (out : List Int), 0 < (l.foldl (fire t v) out).length ↔ (0 < out.length ∨ ∃ x ∈ l, t x = true)
  | [], out => by simp
  | x :: l, out => by
    have := fire_pos t v l (fire t v out x)
    simp only [List.foldl_cons, this]
    unfold fire
    cases h : t x with
    | true => simp [h]
    | false => simp [h]

theorem find_or (t : GParcel → Bool) : ∀ (l : List GParcel) (k : Nat), (firstAt t l k).isSome = l.any t
  | [], _ => rfl
  | x :: l, k => by
    simp only [firstAt, List.any_cons]
    cases t x with
    | true => rfl
    | false => exact find_or t l (k + 1)

theorem s_find (w : GNetwork) (hw : FineW w) (m p : Int) : s_nwFind w m p = some (match firstAt (fun x : GParcel => decide (x.1 = m) && decide (x.2.1 = p)) w.2.2.2.1 0 with | some i => (i : Int) | none => -1) := by
  unfold s_nwFind
  rw [find_loop (l := w.2.2.2.1) (fun x : GParcel => decide (x.1 = m) && decide (x.2.1 = p)) ?_ ?_]
  · cases firstAt (fun x : GParcel => decide (x.1 = m) && decide (x.2.1 = p)) w.2.2.2.1 0 <;> rfl
  · intro i x hx hi
    simp only [idx_get, hx, Option.bind_some, at_lt hi, up hw.p hi, cond_true]
    cases decide (x.1 = m) <;> cases decide (x.2.1 = p) <;> rfl
  · simp

theorem any_of_cond {T : Nat} {ps : List GParcel} (hc : ∀ j, j < ps.length → Cond T ps j) (m : Int) : (ps.any fun x : GParcel => decide (x.1 = m) && decide (x.2.1 = 0)) = ps.any fun x : GParcel => decide (x.1 = m) := by
  rw [Bool.eq_iff_iff]
  simp only [List.any_eq_true, Bool.and_eq_true, decide_eq_true_eq]
  constructor
  · rintro ⟨x, hx, h1, _⟩; exact ⟨x, hx, h1⟩
  · rintro ⟨x, hx, h1⟩
    obtain ⟨i, hi, rfl⟩ := List.getElem_of_mem hx
    have c := hc i hi
    have e : P ps i = ps[i] := by unfold P; simp [hi]
    have h2 := c.lo; have h3 := c.al.p
    have hq := c.q
    have hj : i - (P ps i).2.1.toNat < ps.length := by omega
    have e2 : P ps (i - (P ps i).2.1.toNat) = ps[i - (P ps i).2.1.toNat] := by unfold P; rw [List.getD_eq_getElem?_getD, List.getElem?_eq_getElem (by simpa [P] using hj)]; rfl
    exact ⟨_, List.getElem_mem hj, by rw [← e2, hq.1, e, h1], by rw [← e2, hq.2.1]⟩

open Classical in
theorem isNw_groups {w : GNetwork} (h : isNw w = true) : Groups w.1.1.length w.2.2.2.1 0 0 ∧ w.2.2.2.1.length ≤ 40 := by
  unfold isNw groupsB at h
  simp only [Bool.and_eq_true, decide_eq_true_eq] at h
  exact ⟨h.2.2.2.2, by omega⟩

theorem where_loop (w : GNetwork) (hl : w.2.2.2.1.length ≤ 40) (m : Int) {f : List Int × Int → Option ((List Int × Int) ⊕ List Int)}
    (hf : ∀ out (i : Nat), f (out, (i : Int)) = (bif (decide ((i : Int) < (w.2.2.2.1.length : Int))) then
          (idx w.2.2.2.1 (i : Int)).bind fun e6 =>
          bif (decide (e6.1 = m)) then
            bif decide (List.length out + List.length [e6.2.2.2.1] ≤ lim) then
              some (.inl ((out ++ [e6.2.2.2.1]), (w64 ((i : Int) + 1))))
            else
              none
          else
            some (.inl (out, (w64 ((i : Int) + 1))))
        else
          some (.inr out))) : loopE f ([], 0) = some (w.2.2.2.1.foldl (fire (fun x => decide (x.1 = m)) (fun x => x.2.2.2.1)) []) := by
  refine (fold_loop (l := w.2.2.2.1) (f := f) Prod.mk (fire (fun x => decide (x.1 = m)) (fun x => x.2.2.2.1)) (fun s => s) (fun i s => s.length ≤ i) [] (by simp) ?_ ?_).1
  · intro s i x hx hi hI
    rw [hf]
    have e := lim_ok (n := s.length + [x.2.2.2.1].length) (by simp; omega)
    simp only [idx_get, hx, Option.bind_some, at_lt hi, cond_true, e, fire, w64_of (x := (i : Int) + 1) (by omega) (by omega)]
    cases decide (x.1 = m) <;> simp <;> omega
  · intro s hI
    rw [hf]
    simp

theorem s_where {w : GNetwork} (hw : FineW w) (m : Int) : ∃ v b, s_WhereIs w m = some (v, b) ∧ i_WhereIs w m = some (v, b) ∧ v.length ≤ 1048576 := by
  unfold s_WhereIs i_WhereIs
  rw [s_isNw hw, i_isNw hw]
  simp only [Option.bind_some]
  cases hn : isNw w with
  | false => exact ⟨[], false, rfl, rfl, by simp⟩
  | true =>
  obtain ⟨hg, hl⟩ := isNw_groups hn
  rw [s_find w hw]
  simp only [Bool.not_true, cond_false, Option.bind_some]
  rw [where_loop w hl m (fun out i => rfl)]
  have hany := any_of_cond (cond_iff.2 hg) m
  rw [← find_or _ _ 0] at hany
  have hlen := fire_len (fun x => decide (x.1 = m)) (fun x => x.2.2.2.1) w.2.2.2.1 []
  have hpos := fire_pos (fun x => decide (x.1 = m)) (fun x => x.2.2.2.1) w.2.2.2.1 []
  generalize w.2.2.2.1.foldl (fire (fun x => decide (x.1 = m)) (fun x => x.2.2.2.1)) [] = out at *
  simp only [List.length_nil, Nat.zero_add, Nat.lt_irrefl, false_or] at hlen hpos
  have hpos2 : 0 < out.length ↔ w.2.2.2.1.any (fun x => decide (x.1 = m)) = true := by rw [hpos]; simp
  cases hf : firstAt (fun x : GParcel => decide (x.1 = m) && decide (x.2.1 = 0)) w.2.2.2.1 0 with
  | none =>
    rw [hf] at hany
    rw [← hany] at hpos2
    simp at hpos2
    subst hpos2
    exact ⟨[], false, rfl, rfl, by simp⟩
  | some k =>
    rw [hf] at hany
    rw [← hany] at hpos2
    have h3 : 0 < out.length := hpos2.2 rfl
    simp only [Option.bind_some]
    rw [dec_f (by omega : ¬ (k : Int) < 0), dec_t (by omega : (0 : Int) < (out.length : Int))]
    exact ⟨out, true, rfl, rfl, by omega⟩

/-- FnExactWhereIs -/
theorem plain_WhereIs (w : GNetwork) (m : Int) (hw : FineW w) : l_FnExactWhereIs w m = some true := by
  unfold l_FnExactWhereIs
  obtain ⟨r, hr, h2⟩ := szNetwork hw
  rw [hr]
  simp only [Option.bind_some]
  by_cases h3 : r < 0
  · rw [dec_t h3]; rfl
  rw [dec_f h3]
  have hs : SmallW w := h2.resolve_left h3
  obtain ⟨v, b, e1, e2, hv⟩ := s_where hw m
  have hc := cntW_le hs
  simp only [toNetwork hs, eqNetwork hw, e1, e2, eqIntS (big hv), markNetwork hs (k := 1) (by omega) (by omega), markIntS hv (k := 1) (by omega) (by omega), heldIntS hv (k := 1) (by omega) (by omega), Option.bind_some, cond_false, Bool.not_true, bne_self_eq_false,
    dec_f (by omega : ¬ (1 + (cntW w : Int)) < 0), dec_f (by omega : ¬ (1 + (v.length : Int)) < 0), decide_true]

theorem cloneTower {l : List GLink} (h : l.length ≤ 1048576) : slices_Clone_Tower l = some l := by
  unfold slices_Clone_Tower
  have e := lim_ok (n := l.length) (by omega)
  cases l with
  | nil => simp [bothSame_self, lim]
  | cons x l => simp only [List.isEmpty_cons, cond_false, e, cond_true]
theorem cloneLink {l : List GLink} (h : l.length ≤ 1048576) : slices_Clone_Link l = some l := cloneTower h
theorem cloneFog {l : List GLink} (h : l.length ≤ 1048576) : slices_Clone_Fog l = some l := cloneTower h
theorem cloneNet {n : GNet} (h : SmallN n) : i_cloneNet n = some n := by
  unfold i_cloneNet
  simp only [cloneTower h.t, cloneLink h.l, Option.bind_some]
theorem s_own {w : GNetwork} (h : SmallW w) : s_nwOwn w = some w := by
  unfold s_nwOwn s_neOwn
  have := h.n.t; have := h.n.l; have := h.f; have := h.p
  simp only [lim_ok (n := w.1.1.length) (by omega), lim_ok (n := w.1.2.1.length) (by omega), lim_ok (n := w.2.1.length) (by omega), lim_ok (n := w.2.2.2.1.length) (by omega), cond_true, Option.bind_some]

theorem isNw_new (n : GNet) (f : List GLink) : isNw (n, f, 0, [], ()) = (isNet n && areFogs n.2.1.length f) := by
  unfold isNw groupsB
  have : Groups n.1.length [] 0 0 := Groups.nil
  simp [this, inB]
def zeroW : GNetwork := (([], [], ()), [], 0, [], ())
theorem new_same {n : GNet} {f : List GLink} (hn : SmallN n) (hf : f.length ≤ 1048576) : s_NewNetwork n f = some (bif isNet n && areFogs n.2.1.length f then ((n, f, 0, [], ()), true) else (zeroW, false)) ∧ i_NewNetwork n f = some (bif isNet n && areFogs n.2.1.length f then ((n, f, 0, [], ()), true) else (zeroW, false)) := by
  unfold s_NewNetwork i_NewNetwork
  have hw : SmallW (n, f, 0, [], ()) := ⟨hn, hf, by simp⟩
  rw [s_isNw hw.fine, isNw_new, i_isNet hn.fine, s_own hw, cloneNet hn, cloneFog hf]
  simp only [Option.bind_some]
  rw [i_areFogsX hn.fine (big hf)]
  cases isNet n <;> cases areFogs n.2.1.length f <;> exact ⟨rfl, rfl⟩

/-- FnExactNewNetwork -/
theorem plain_NewNetwork (n : GNet) (f : List GLink) (hn : FineN n) (hf : f.length ≤ maxLen) : l_FnExactNewNetwork n f = some true := by
  unfold l_FnExactNewNetwork
  obtain ⟨r, hr, h2⟩ := szNet (left := 1048576) hn (by omega) (by omega)
  rw [hr]
  simp only [Option.bind_some]
  by_cases h3 : r < 0
  · rw [dec_t h3]; rfl
  rw [dec_f h3]
  obtain ⟨hs, hr1, hr2⟩ := h2.resolve_left h3
  obtain ⟨r', hr', h2'⟩ := szFogS (a := f) (left := r) hf hr1 hr2
  rw [hr']
  simp only [Option.bind_some, cond_false]
  by_cases h3 : r' < 0
  · rw [dec_t h3]; rfl
  rw [dec_f h3]
  obtain ⟨hfs, _, _⟩ := h2'.resolve_left h3
  obtain ⟨e1, e2⟩ := new_same hs hfs
  have key : ∃ v b, (bif isNet n && areFogs n.2.1.length f then ((n, f, 0, [], ()), true) else (zeroW, false)) = (v, b) ∧ SmallW v := by
    cases isNet n && areFogs n.2.1.length f with
    | true => exact ⟨_, _, rfl, hs, hfs, by simp⟩
    | false => exact ⟨_, _, rfl, ⟨by simp [zeroW], by simp [zeroW]⟩, by simp [zeroW], by simp [zeroW]⟩
  obtain ⟨v, b, ek, hv⟩ := key
  rw [ek] at e1 e2
  have hc := cntW_le hv
  have hcn := cntN_le hs
  have hm := heldNetwork hv (k := 1) (by omega) (by omega)
  have hm3 : ∀ q : Int, l_heldNetwork ((markedW v 1).1, (markedW v 1).2.1, v.2.2.1, (markedW v 1).2.2.2) 1 = l_heldNetwork (markedW v 1) 1 := fun _ => rfl
  simp only [toNet hs, toFogS hfs, e1, e2, eqNetwork hv.fine, eqNet hn, eqFogS hf, Option.bind_some, cond_false, Bool.not_true, bne_self_eq_false, markNet hs (k := 1) (by omega) (by omega), markFogS hfs (k := 1 + (cntN n : Int)) (by omega) (by omega),
    dec_f (by omega : ¬ (1 + (cntN n : Int) + ((3 * f.length : Nat) : Int)) < 0), markNetwork hv (k := 1) (by omega) (by omega), hm3 0, hm, dec_f (by omega : ¬ (1 + (cntW v : Int)) < 0), decide_true]
end Go.Proofs.Ytlalabdgkkfjpaa.Sh
