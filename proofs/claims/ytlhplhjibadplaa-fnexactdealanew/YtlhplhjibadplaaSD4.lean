/-
  Books dealt anew: the law.
-/
import Derived.Test.YtlhplhjibadplaaSD3
namespace Go.Proofs.Ytlhplhjibadplaa.Sh.D
open Go Go.Ab
open Q (Fine Small at_lt up no_lt inB i_same)

theorem eqIntS {l : List Int} (h : l.length ≤ maxLen) : l_eqIntS l l = some true := by
  have : l_eqIntS l l = slices_Equal_int l l := rfl
  rw [this, i_same h]
  simp

/-- what is given of a book -/
theorem szIntS {a : List Int} {left : Int} (h : a.length ≤ maxLen) (h0 : 0 ≤ left) (h1 : left ≤ 1048576) : ∃ r, l_szIntS a left = some r ∧ (r < 0 ∨ (a.length ≤ 1048576 ∧ 0 ≤ r ∧ r ≤ 1048576)) := by
  unfold l_szIntS
  unfold maxLen at h
  rw [w64_of (by omega) (by omega)]
  by_cases h2 : left - a.length < 0
  · rw [decide_eq_true h2]; exact ⟨_, rfl, .inl (by decide)⟩
  · rw [decide_eq_false h2]; exact ⟨_, rfl, .inr ⟨by omega, by omega, by omega⟩⟩
theorem szPhrase {x : GPhrase} {left : Int} (ht : x.1.length ≤ maxLen) (h : x.2.1.length ≤ maxLen) (h0 : 0 ≤ left) (h1 : left ≤ 1048576) : ∃ r, l_szPhrase x left = some r ∧ (r < 0 ∨ (x.2.1.length ≤ 1048576 ∧ 0 ≤ r ∧ r ≤ 1048576)) := by
  unfold l_szPhrase
  unfold maxLen at ht
  rw [w64_of (by omega) (by omega)]
  by_cases h2 : left - x.1.length < 0
  · rw [decide_eq_true h2]; exact ⟨_, rfl, .inl (by decide)⟩
  · rw [decide_eq_false h2]
    obtain ⟨r, hr, h3⟩ := szIntS (left := left - x.1.length) h (by omega) (by omega)
    simp only [cond_false, hr, Option.bind_some]
    rcases h3 with h3 | h3
    · rw [decide_eq_true h3]; exact ⟨_, rfl, .inl (by decide)⟩
    · rw [show decide (r < 0) = false from decide_eq_false (by omega)]; exact ⟨_, rfl, .inr h3⟩
theorem sz_res : ∀ (l : List GPhrase) (s : Int) (i : Nat), (∀ x ∈ l, x.1.length ≤ maxLen ∧ x.2.1.length ≤ maxLen) → 0 ≤ s → s ≤ 1048576 →
    ∃ z, forRes (fun s _ x => (l_szPhrase x s).bind fun r4 => some (bif decide (r4 < 0) then .inr (.inr (-1)) else .inl r4)) (fun s => (.inl s : Int ⊕ Int)) s i l = some z ∧ (z = .inr (-1) ∨ ∃ s', z = .inl s' ∧ ∀ x ∈ l, x.2.1.length ≤ 1048576)
  | [], s, i, _, _, _ => ⟨_, rfl, .inr ⟨s, rfl, fun x h => by cases h⟩⟩
  | x :: l, s, i, h, h0, h1 => by
    obtain ⟨r, hr, h3⟩ := szPhrase (h x (by simp)).1 (h x (by simp)).2 h0 h1
    simp only [forRes, hr, Option.bind_some]
    rcases h3 with h3 | ⟨h3, h4, h5⟩
    · rw [decide_eq_true h3]; exact ⟨_, rfl, .inl rfl⟩
    · rw [show decide (r < 0) = false from decide_eq_false (by omega)]
      obtain ⟨z, hz, h6⟩ := sz_res l r (i + 1) (fun y hy => h y (List.mem_cons_of_mem _ hy)) h4 h5
      refine ⟨z, hz, h6.imp id fun ⟨s', e, h7⟩ => ⟨s', e, fun y hy => ?_⟩⟩
      rcases List.mem_cons.1 hy with rfl | hy
      · exact h3
      · exact h7 y hy
theorem szBook {b : GBook} (h : Fine b) : ∃ r, l_szBook b 1048576 = some r ∧ (r < 0 ∨ Small b) := by
  unfold l_szBook l_szPhraseS
  have hm := h.len
  unfold maxLen at hm
  rw [w64_of (x := 1048576 - (b.1.length : Int)) (by omega) (by omega)]
  by_cases h2 : (1048576 : Int) - b.1.length < 0
  · rw [decide_eq_true h2]; exact ⟨_, rfl, .inl (by decide)⟩
  · rw [decide_eq_false h2]
    simp only [cond_false]
    rw [for_loop (a := b.1) Prod.mk (fun s _ x => (l_szPhrase x s).bind fun r4 => some (bif decide (r4 < 0) then .inr (.inr (-1)) else .inl r4)) (fun s => (.inl s : Int ⊕ Int)) (1048576 - (b.1.length : Int)) ?_ ?_ ?_]
    · obtain ⟨z, hz, h3⟩ := sz_res b.1 (1048576 - (b.1.length : Int)) 0 (fun x hx => ⟨h.text x hx, h.sig x hx⟩) (by omega) (by omega)
      rw [hz]
      rcases h3 with rfl | ⟨s', rfl, h4⟩
      · exact ⟨_, rfl, .inl (by decide)⟩
      · simp only [Option.bind_some]
        cases decide (s' < 0) with
        | true => exact ⟨_, rfl, .inl (by decide)⟩
        | false => exact ⟨_, rfl, .inr ⟨by omega, h4⟩⟩
    · rfl
    · intro s i x hi hx
      simp only [idx_get, hx, Option.bind_some, at_lt hi, up h.len hi, cond_true]
      cases l_szPhrase x s with
      | none => rfl
      | some r => simp only [Option.bind_some]; cases decide (r < 0) <;> rfl
    · intro s; simp

theorem toIntS {l : List Int} (h : l.length ≤ 1048576) : l_toIntS l = some l := by
  unfold l_toIntS
  rw [copy_guard h, cond_true, copy_loop (fun x => x) h ?_ ?_]
  · simp
  · intro out i x hx hi
    simp only [idx_get, hx, Option.bind_some, at_lt hi, cond_true]
  · intro out; simp
theorem toPhrase {x : GPhrase} (h : x.2.1.length ≤ 1048576) : l_toPhrase x = some x := by
  unfold l_toPhrase
  rw [toIntS h]
  rfl
theorem toBook {b : GBook} (h : Small b) : l_toBook b = some b := by
  unfold l_toBook l_toPhraseS
  rw [copy_guard h.len, cond_true, copy_loop (fun x => x) h.len ?_ ?_]
  · simp
  · intro out i x hx hi
    simp only [idx_get, hx, Option.bind_some, at_lt hi, cond_true, toPhrase (h.sig x (List.mem_of_getElem? hx))]
  · intro out; simp
theorem eqPhrase {x : GPhrase} (h : x.2.1.length ≤ maxLen) : l_eqPhrase x x = some true := by
  unfold l_eqPhrase
  simp [eqIntS h]
theorem eqBook {b : GBook} (h : Fine b) : l_eqBook b b = some true := by
  unfold l_eqBook l_eqPhraseS
  simp only [decide_true, Bool.not_true, cond_false]
  rw [all_loop (l := b.1) (fun _ => true) false ?_ ?_]
  · have : (b.1.all fun _ => true) = true := by simp
    rw [this]
    rfl
  · intro i x hx hi
    simp only [idx_get, hx, Option.bind_some, at_lt hi, up h.len hi, eqPhrase (h.sig x (List.mem_of_getElem? hx))]
    rfl
  · simp

def wrInt (_ : Int) (k : Int) : Int × Int := (k, k + 1)
theorem markIntS {l : List Int} {k : Int} (h : l.length ≤ 1048576) (h0 : 0 ≤ k) (h1 : k ≤ 1000000000000000) : l_markIntS l k = some (marked wrInt l k, k + (l.length : Int)) := by
  unfold l_markIntS
  have := mark_loop wrInt (fun _ => 1) (B := 9000000000000000000) (f := fun (st2 : (List Int) × Int × Int) => (
      bif (decide (st2.2.2 < (st2.1.length : Int))) then
        bif decide (0 ≤ st2.2.2) && decide (st2.2.2 < (st2.1.length : Int)) then
          some (.inl ((st2.1.set (Int.toNat st2.2.2) st2.2.1), (w64 (st2.2.1 + 1)), (w64 (st2.2.2 + 1))))
        else
          none
      else
        some (.inr (st2.1, st2.2.1)) : Option (((List Int) × Int × Int) ⊕ (((List Int) × Int))))) (fun _ _ => rfl) (fun l k => by simp) l [] k
    (fun x _ pre suf k h0 hB hl => by
      have h1 : (pre.length : Int) < (pre ++ x :: suf).length := by simp; omega
      have h2 : pre.length < 4194304 := by simp at hl; omega
      simp only [set_mid, h1, decide_true, cond_true]
      rw [w64_of (x := k + 1) (by omega) (by omega), w64_of (x := (pre.length : Int) + 1) (by omega) (by omega)]
      simp [wrInt]) h0 (by rw [total_const]; omega) (by simpa using (by omega : l.length ≤ 4194304))
  simp only [List.nil_append, List.length_nil] at this
  rw [show ((0 : Nat) : Int) = 0 from rfl] at this
  rw [this, total_const]
  simp

theorem heldIntS {l : List Int} {k : Int} (h : l.length ≤ 1048576) (h0 : 0 ≤ k) (h1 : k ≤ 1000000000000000) : l_heldIntS (marked wrInt l k) k = some (k + (l.length : Int)) := by
  unfold l_heldIntS
  have hml := marked_len wrInt l k
  rw [for_loop (a := marked wrInt l k) Prod.mk (fun (k : Int) _ x => some (bif decide (x = k) && decide (k ≤ 9000000000000000000) then .inl (w64 (k + 1)) else (bif (!decide (x = k)) then .inr (.inr (-1)) else .inl (w64 (k + 1))))) (fun k => .inl k) k ?_ ?_ ?_]
  · have := held_res wrInt (fun _ => 1) (fun (k : Int) _ x => some (bif decide (x = k) && decide (k ≤ 9000000000000000000) then .inl (w64 (k + 1)) else (bif (!decide (x = k)) then .inr (.inr (-1)) else .inl (w64 (k + 1))))) (fun _ _ => rfl) (B := 9000000000000000000) l k 0 (fun x _ k i h0 hB => by
      have hB' : k + 1 ≤ 9000000000000000000 := by simpa using hB
      simp only [wrInt, decide_true, Bool.true_and]
      rw [show decide (k ≤ 9000000000000000000) = true from decide_eq_true (by omega), w64_of (by omega) (by omega)]
      rfl) h0 (by rw [total_const]; omega)
    rw [this, total_const]
    simp
  · rfl
  · intro k i x hi hx
    simp only [idx_get, hx, Option.bind_some]
    rw [show decide ((i : Int) < (marked wrInt l _).length) = true from decide_eq_true (by omega), w64_of (x := (i : Int) + 1) (by omega) (by omega)]
    cases decide (x = k) <;> cases decide (k ≤ 9000000000000000000) <;> rfl
  · intro k; simp

theorem digits : ∀ (n : Nat) (k : Int) (b : Bytes), 0 ≤ k → k ≤ 9223372036854775807 → k < 10 ^ n → b.length + n ≤ 1000 → ∃ t, loopE (fun (st2 : Int × Bytes) => (
        bif (decide (0 < st2.1)) then
          bif decide (List.length (toStr [(IntKind.u8.wrap (w64 (48 + (Int.tmod st2.1 10))))]) + List.length st2.2 ≤ lim) then
            some (.inl ((w64 (Int.tdiv st2.1 10)), ((toStr [(IntKind.u8.wrap (w64 (48 + (Int.tmod st2.1 10))))]) ++ st2.2)))
          else
            none
        else
          some (.inr st2.2) : Option ((Int × Bytes) ⊕ (Bytes)))) (k, b) = some t ∧ t.length ≤ 1000
  | 0, k, b, h0, hbig, h1, hb => by
    have : k = 0 := by simp at h1; omega
    subst this
    exact ⟨b, loopE_done rfl, by omega⟩
  | n + 1, k, b, h0, hbig, h1, hb => by
    by_cases hk : 0 < k
    · have hlim : lim = 4294967296 := rfl
      have hp : (10 : Int) ^ (n + 1) = 10 * 10 ^ n := by rw [Int.pow_succ, Int.mul_comm]
      have e : Int.tdiv k 10 = k / 10 := Int.tdiv_eq_ediv_of_nonneg h0
      have hd : k / 10 < 10 ^ n := by omega
      · obtain ⟨t, ht, htl⟩ := digits n (k / 10) (toStr [(IntKind.u8.wrap (w64 (48 + (Int.tmod k 10))))] ++ b) (by omega) (by omega) hd (by simp [toStr]; omega)
        refine ⟨t, ?_, htl⟩
        rw [loopE_step (a' := (k / 10, toStr [(IntKind.u8.wrap (w64 (48 + (Int.tmod k 10))))] ++ b))]
        · exact ht
        · simp only [decide_eq_true hk, cond_true]
          rw [show decide (List.length (toStr [(IntKind.u8.wrap (w64 (48 + (Int.tmod k 10))))]) + b.length ≤ lim) = true from decide_eq_true (by simp [toStr]; omega), cond_true, e, w64_of (x := k / 10) (by omega) (by omega)]
    · have : k = 0 := by omega
      subst this
      exact ⟨b, loopE_done rfl, by omega⟩
theorem markText {k : Int} (h0 : 0 ≤ k) (h1 : k ≤ 1000000000000000) : ∃ t, l_markText k = some t ∧ t.length ≤ 2000 := by
  unfold l_markText
  by_cases h : k ≤ 0
  · rw [decide_eq_true h]; exact ⟨_, rfl, by simp⟩
  · rw [decide_eq_false h]
    obtain ⟨t, ht, hl⟩ := digits 16 k [] h0 (by omega) (by omega) (by simp)
    have hlim : lim = 4294967296 := rfl
    simp only [cond_false, ht, Option.bind_some]
    rw [show decide (List.length ([109] : Bytes) + t.length ≤ lim) = true from decide_eq_true (by simp; omega)]
    exact ⟨_, rfl, by simp; omega⟩


noncomputable def wrP (x : GPhrase) (k : Int) : GPhrase × Int := (((l_markText k).getD [], marked wrInt x.2.1 (k + 1), ()), k + 1 + (x.2.1.length : Int))
def cntP (x : GPhrase) : Nat := 1 + x.2.1.length
theorem total_le : ∀ l : List GPhrase, (∀ x ∈ l, x.2.1.length ≤ 1048576) → total cntP l ≤ 1048577 * l.length
  | [], _ => Nat.le_refl _
  | x :: r, h => by
    have h1 := h x (by simp)
    have h2 := total_le r fun y hy => h y (List.mem_cons_of_mem _ hy)
    simp only [total, cntP, List.length_cons]
    omega
theorem markBook {b : GBook} (h : Small b) : l_markBook b 1 = some ((marked wrP b.1 1, ()), 1 + (total cntP b.1 : Int)) := by
  have hl := h.len
  have ht := total_le b.1 h.sig
  unfold l_markBook l_markPhraseS
  have := mark_loop wrP cntP (B := 100000000000000) (f := (fun (st2 : (List GPhrase) × Int × Int) => (
      bif (decide (st2.2.2 < (st2.1.length : Int))) then
        (l_markText st2.2.1).bind fun r3 =>
        bif decide (0 ≤ st2.2.2) && decide (st2.2.2 < (st2.1.length : Int)) then
          (st2.1[(Int.toNat st2.2.2)]?).bind fun e4 =>
          bif decide (0 ≤ st2.2.2) && decide (st2.2.2 < ((st2.1.set (Int.toNat st2.2.2) (r3, e4.2)).length : Int)) then
            ((st2.1.set (Int.toNat st2.2.2) (r3, e4.2))[(Int.toNat st2.2.2)]?).bind fun e5 =>
            (l_markIntS e5.2.1 (w64 (st2.2.1 + 1))).bind fun r6 =>
            some (.inl (((st2.1.set (Int.toNat st2.2.2) (r3, e4.2)).set (Int.toNat st2.2.2) (e5.1, r6.1, ())), r6.2, (w64 (st2.2.2 + 1))))
          else
            none
        else
          none
      else
        some (.inr (st2.1, st2.2.1)) : Option (((List GPhrase) × Int × Int) ⊕ (((List GPhrase) × Int)))))) (fun x k => by simp [wrP, cntP]; omega) (fun l k => by simp) b.1 [] 1
    (fun x hx pre suf k h0 hB hl => by
      have hxs := h.sig x hx
      have hlt : (pre.length : Int) < (pre ++ x :: suf).length := by simp; omega
      have h2 : pre.length < 4194304 := by simp at hl; omega
      have hc : k + cntP x ≤ 100000000000000 := hB
      have hm := markIntS (l := x.2.1) (k := k + 1) hxs (by omega) (by unfold cntP at hc; omega)
      have gm : (pre ++ x :: suf)[Int.toNat (pre.length : Int)]? = some x := get_mid pre x suf
      obtain ⟨t, htk, _⟩ := markText (k := k) h0 (by omega)
      have hw : wrP x k = ((t, marked wrInt x.2.1 (k + 1), ()), k + 1 + (x.2.1.length : Int)) := by unfold wrP; rw [htk]; rfl
      simp only [hw, hlt, decide_true, cond_true, htk, Option.bind_some, gm, set_mid, Bool.and_true, dec_t (show (0 : Int) ≤ (pre.length : Int) by omega)]
      rw [dec_t (show (pre.length : Int) < ((pre ++ (t, x.2) :: suf).length : Int) by simp; omega)]
      simp only [cond_true, get_mid, Option.bind_some]
      rw [w64_of (x := k + 1) (by omega) (by omega), hm]
      simp only [Option.bind_some, set_mid]
      rw [w64_of (x := (pre.length : Int) + 1) (by omega) (by omega)]
      rfl) (by decide) (by omega) (by simpa using (by omega : b.1.length ≤ 4194304))
  simp only [List.nil_append, List.length_nil] at this
  rw [show ((0 : Nat) : Int) = 0 from rfl] at this
  rw [this]
  rfl
theorem heldBook {b : GBook} (h : Small b) : l_heldBook (marked wrP b.1 1, ()) 1 = some (1 + (total cntP b.1 : Int)) := by
  have hl := h.len
  have ht := total_le b.1 h.sig
  have hml := marked_len wrP b.1 1
  unfold l_heldBook l_heldPhraseS
  rw [for_loop (a := marked wrP b.1 1) Prod.mk (fun (k : Int) _ x => (l_markText k).bind fun r4 => bif (!decide (x.1 = r4)) then some (.inr (.inr (-1))) else (l_heldIntS x.2.1 (w64 (k + 1))).bind fun r6 => bif (decide (r6 < 0)) then some (.inr (.inr (-1))) else some (.inl r6)) (fun k => .inl k) 1 ?_ ?_ ?_]
  · have := held_res wrP cntP (fun (k : Int) _ x => (l_markText k).bind fun r4 => bif (!decide (x.1 = r4)) then some (.inr (.inr (-1))) else (l_heldIntS x.2.1 (w64 (k + 1))).bind fun r6 => bif (decide (r6 < 0)) then some (.inr (.inr (-1))) else some (.inl r6)) (fun x k => by simp [wrP, cntP]; omega) (B := 100000000000000) b.1 1 0 (fun x hx k i h0 hB => by
      have hxs := h.sig x hx
      have hc : k + cntP x ≤ 100000000000000 := hB
      unfold cntP at hc
      have hh := heldIntS (l := x.2.1) (k := k + 1) hxs (by omega) (by omega)
      obtain ⟨t, htk, _⟩ := markText (k := k) h0 (by omega)
      have hw : wrP x k = ((t, marked wrInt x.2.1 (k + 1), ()), k + 1 + (x.2.1.length : Int)) := by unfold wrP; rw [htk]; rfl
      simp only [hw, htk, Option.bind_some, decide_true, Bool.not_true, cond_false]
      rw [w64_of (x := k + 1) (by omega) (by omega), hh]
      simp only [Option.bind_some, dec_f (show ¬ k + 1 + (x.2.1.length : Int) < 0 by omega), cond_false, cntP]
      congr 2
      omega) (by decide) (by omega)
    rw [this]
    simp only [Option.bind_some, dec_f (show ¬ (1 : Int) + (total cntP b.1 : Int) < 0 by omega), cond_false]
  · rfl
  · intro k i x hi hx
    simp only [idx_get, hx, Option.bind_some]
    rw [show decide ((i : Int) < (marked wrP b.1 1).length) = true from decide_eq_true (by omega), w64_of (x := (i : Int) + 1) (by omega) (by omega)]
    simp only [cond_true]
    cases l_markText k with
    | none => rfl
    | some t =>
      simp only [Option.bind_some]
      cases decide (x.1 = t) with
      | false => rfl
      | true =>
        simp only [Bool.not_true, cond_false]
        cases l_heldIntS x.2.1 (w64 (k + 1)) with
        | none => rfl
        | some r => simp only [Option.bind_some]; cases decide (r < 0) <;> rfl
  · intro k; simp
end Go.Proofs.Ytlhplhjibadplaa.Sh.D
namespace Go.Proofs.Ytlhplhjibadplaa.Sh
open Go Go.Ab D
open Q (Fine Small)

theorem plain_DealAnew (b : GBook) (w : List Int) (hb : Fine b) : l_FnExactDealAnew b w = some true := by
  unfold l_FnExactDealAnew
  by_cases hw : 1048576 < w.length
  · rw [dec_t (show (1048576 : Int) < (w.length : Int) by omega)]; rfl
  · rw [dec_f (show ¬ (1048576 : Int) < (w.length : Int) by omega)]
    obtain ⟨r, hr, h1⟩ := szBook hb
    simp only [cond_false, hr, Option.bind_some]
    by_cases hneg : r < 0
    · rw [dec_t hneg]; rfl
    · rw [dec_f hneg]
      have hs := h1.resolve_left hneg
      have hwl : w.length ≤ 1048576 := by omega
      have hwm : w.length ≤ maxLen := by unfold maxLen; omega
      obtain ⟨g, f, e1, e2, hg, hgf⟩ : ∃ g f, s_DealAnew b w = some (g, f) ∧ i_DealAnew b w = some (g, f) ∧ Small g ∧ Fine g := by
        rcases deal_same hb hwl with ⟨_, e1, e2⟩ | ⟨ha, o, cm, _, _, _, _, e1, e2⟩
        · exact ⟨_, _, e1, e2, ⟨by simp, fun x hx => by cases hx⟩, ⟨by simp, (fun x hx => by cases hx), fun x hx => by cases hx⟩⟩
        · have hl := dealt_len b o cm b.1 0
          have hsg := dealt_sig (b := b) (o := o) (N := 1048576) hs.sig cm b.1 0 hs.sig
          refine ⟨_, _, e1, e2, ⟨by rw [hl]; exact hs.len, hsg⟩, ⟨by rw [hl]; exact hb.len, ?_, fun x hx => by have := hsg x hx; unfold maxLen; omega⟩⟩
          intro x hx
          exact dealt_txt (b := b) (o := o) cm b.1 0 hb.text x hx
      have mi := markIntS (l := w) (k := 1 + (total cntP b.1 : Int)) hwl (by omega) (by have := total_le b.1 hs.sig; have := hs.len; omega)
      simp only [cond_false, toBook hs, toIntS hwl, Option.bind_some, e1, e2, eqBook hgf, eqBook hb, eqIntS hwm, Bool.not_true, bne_self_eq_false, markBook hs, mi, dec_f (show ¬ (1 + (total cntP b.1 : Int) + (w.length : Int)) < 0 by omega), markBook hg, heldBook hg,
        dec_f (show ¬ (1 + (total cntP g.1 : Int)) < 0 by omega), decide_true]
end Go.Proofs.Ytlhplhjibadplaa.Sh
