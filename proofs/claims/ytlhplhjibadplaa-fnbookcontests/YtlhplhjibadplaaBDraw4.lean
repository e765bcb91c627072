/-
  The draws of a book and of letters.
-/
import Derived.Test.YtlhplhjibadplaaBDraw
import Derived.Test.YtlhplhjibadplaaBQ4
namespace Go.Proofs.Ytlhplhjibadplaa.Sh
open Go Go.Ab
set_option maxRecDepth 100000

/-- a loop with a falling measure -/
theorem meas_loop {σ ρ : Type} {f : σ → Option (σ ⊕ ρ)} (I : Nat → σ → Prop) (Q : ρ → Prop) (step : ∀ n s, I n s → (∃ r, f s = some (.inr r) ∧ Q r) ∨ (∃ m s', m < n ∧ f s = some (.inl s') ∧ I m s')) : ∀ n s, I n s → ∃ r, loopE f s = some r ∧ Q r := by
  intro n
  induction n using Nat.strongRecOn with
  | ind n ih =>
    intro s h
    rcases step n s h with ⟨r, h1, h2⟩ | ⟨m, s', h1, h2, h3⟩
    · exact ⟨r, loopE_done h1, h2⟩
    · obtain ⟨r, a, b⟩ := ih m h1 s' h3
      exact ⟨r, (loopE_step h2).trans a, b⟩

/-- the dice, some bytes on -/
def On (c : Gl1Cur) (k : Nat) (d : Gl1Cur) : Prop := ∃ j, j ≤ k ∧ d = N j c
theorem On.refl (c : Gl1Cur) : On c 0 c := ⟨0, Nat.le_refl _, rfl⟩
theorem On.ok {c d : Gl1Cur} {k : Nat} (h : On c k d) (hc : Ok c) (hb : c.2.1 + (k : Int) ≤ 2305843009213693952) : Ok d := by
  obtain ⟨j, hj, rfl⟩ := h
  exact N_ok hc (by omega)
theorem On.at_ {c d : Gl1Cur} {k : Nat} (h : On c k d) : d.2.1 ≤ c.2.1 + (k : Int) := by
  obtain ⟨j, hj, rfl⟩ := h
  rw [N_at]; omega
theorem On.trans {c d e : Gl1Cur} {j k : Nat} (h : On c j d) (g : On d k e) : On c (j + k) e := by
  obtain ⟨a, ha, rfl⟩ := h
  obtain ⟨b, hb, rfl⟩ := g
  exact ⟨a + b, by omega, by rw [N_add]⟩
theorem On.mono {c d : Gl1Cur} {j k : Nat} (h : On c j d) (hk : j ≤ k) : On c k d := by
  obtain ⟨a, ha, rfl⟩ := h
  exact ⟨a, by omega, rfl⟩

/-- a draw -/
def Dr {α : Type} (m : Option (Gl1Cur × α)) (c : Gl1Cur) (k : Nat) (Q : α → Prop) : Prop := ∃ d v, m = some (d, v) ∧ On c k d ∧ Q v
theorem Goes.dr {α : Type} {m : Option (Gl1Cur × α)} {c : Gl1Cur} {k : Nat} {Q : α → Prop} (h : Goes m c k Q) : Dr m c k Q := by
  obtain ⟨j, v, e, hj, hv⟩ := h
  exact ⟨N j c, v, e, ⟨j, hj, rfl⟩, hv⟩
theorem dr_pick {c : Gl1Cur} (h : Ok c) (hb : c.2.1 + 2 ≤ 2305843009213693952) {n : Int} (hn : 0 < n) : Dr (s_l1Cur_pick c n) c 2 (fun v => 0 ≤ v ∧ v < n) := (go_pick h hb hn).dr
theorem dr_among {c : Gl1Cur} (h : Ok c) (hb : c.2.1 + 2 ≤ 2305843009213693952) {l : List Int} (hn : l ≠ []) : Dr (s_l1Cur_among c l) c 2 (fun v => v ∈ l) := (go_among h hb hn).dr
theorem dr_one {c : Gl1Cur} (h : Ok c) (hb : c.2.1 + 2 ≤ 2305843009213693952) {n : Int} (hn : 0 < n) : Dr (s_l1Cur_one c n) c 2 (fun _ => True) := by
  obtain ⟨d, v, e, h1, _⟩ := dr_pick h hb hn
  unfold s_l1Cur_one
  exact ⟨d, decide (v = 0), by rw [e]; rfl, h1, trivial⟩
theorem dr_of {c : Gl1Cur} (h : Ok c) (hb : c.2.1 + 2 ≤ 2305843009213693952) {l : List Bytes} (hn : l ≠ []) : Dr (s_l1Cur_of c l) c 2 (fun v => v ∈ l) := by
  have hl : 0 < l.length := List.length_pos_iff.2 hn
  obtain ⟨d, v, e, h1, h2, h3⟩ := dr_pick h hb (n := (l.length : Int)) (by omega)
  unfold s_l1Cur_of
  have hv2 : v.toNat < l.length := by omega
  refine ⟨d, l[v.toNat], ?_, h1, List.getElem_mem _⟩
  rw [e]
  simp only [Option.bind_some]
  unfold idx
  rw [if_neg (by omega), List.getElem?_eq_getElem hv2]
  rfl

/-- what is drawn of a book -/
def PhOk (x : GPhrase) : Prop := x.1.length ≤ 100 ∧ 1 ≤ x.2.1.length ∧ x.2.1.length ≤ 100
structure BkOk (l : List GPhrase) (n : Nat) : Prop where
  len : l.length ≤ n
  all : ∀ x ∈ l, PhOk x
theorem BkOk.fine {l : List GPhrase} {n : Nat} (h : BkOk l n) (hn : n ≤ 1000) : Q.Fine (l, ()) := ⟨by have := h.len; unfold maxLen; show l.length ≤ _; omega, fun x hx => by have := (h.all x hx).1; unfold maxLen; omega, fun x hx => by have := (h.all x hx).2.2; unfold maxLen; omega⟩
theorem BkOk.add {l : List GPhrase} {n : Nat} (h : BkOk l n) {x : GPhrase} (hx : PhOk x) : BkOk (l ++ [x]) (n + 1) := ⟨by have := h.len; simp; omega, fun y hy => by
  rcases List.mem_append.1 hy with hy | hy
  · exact h.all y hy
  · rw [List.mem_singleton.1 hy]; exact hx⟩
theorem BkOk.set {l : List GPhrase} {n i : Nat} (h : BkOk l n) {x : GPhrase} (hx : PhOk x) : BkOk (l.set i x) n := ⟨by simp; exact h.len, fun y hy => by
  rcases List.mem_or_eq_of_mem_set hy with hy | hy
  · exact h.all y hy
  · rw [hy]; exact hx⟩
theorem limA {l : List GPhrase} {x : GPhrase} (h : l.length ≤ 1000) : decide (List.length l + List.length [x] ≤ lim) = true := by unfold lim; rw [List.length_singleton]; exact decide_eq_true (by omega)
theorem limI {l : List Int} {x : Int} (h : l.length ≤ 1000) : decide (List.length l + List.length [x] ≤ lim) = true := by unfold lim; rw [List.length_singleton]; exact decide_eq_true (by omega)

/-- the signals of one phrase -/
theorem sig_loop {c0 : Gl1Cur} (hc : Ok c0) {m : Int} (hm : 0 < m) {f : (List Int) × Int × Int × (List GPhrase) × (List GPhrase) × Bytes × (List Int) × Int × (List Bytes) → Option (((List Int) × Int × Int × (List GPhrase) × (List GPhrase) × Bytes × (List Int) × Int × (List Bytes)) ⊕ ((List Int) × Int × Int × (List GPhrase) × (List GPhrase) × Bytes × (List Int) × (List Bytes)))}
    (hf : f = fun st12 => bif (decide (0 < st12.2.2.2.2.2.2.2.1)) then
                        (s_l1Cur_pick (st12.1, st12.2.1, st12.2.2.1, ()) m).bind fun r13 =>
                        bif decide (List.length st12.2.2.2.2.2.2.1 + List.length [(w64 (1 + r13.2))] ≤ lim) then
                          some (.inl (r13.1.1, r13.1.2.1, r13.1.2.2.1, st12.2.2.2.1, st12.2.2.2.2.1, st12.2.2.2.2.2.1, (st12.2.2.2.2.2.2.1 ++ [(w64 (1 + r13.2))]), (w64 (st12.2.2.2.2.2.2.2.1 - 1)), st12.2.2.2.2.2.2.2.2))
                        else
                          none
                      else
                        some (.inr (st12.1, st12.2.1, st12.2.2.1, st12.2.2.2.1, st12.2.2.2.2.1, st12.2.2.2.2.2.1, st12.2.2.2.2.2.2.1, st12.2.2.2.2.2.2.2.2)))
    {n : Nat} (hn : n ≤ 90) (hb : c0.2.1 + 2 * (n : Int) ≤ 2305843009213693952) (a b : List GPhrase) (t : Bytes) (T : List Bytes) :
    ∃ d l, loopE f (c0.1, c0.2.1, c0.2.2.1, a, b, t, [], (n : Int), T) = some (d.1, d.2.1, d.2.2.1, a, b, t, l, T) ∧ On c0 (2 * n) d ∧ l.length = n := by
  obtain ⟨r, h1, d, l, h2, h3, h4⟩ := meas_loop (f := f) (fun k st => ∃ d l, st = (d.1, d.2.1, d.2.2.1, a, b, t, l, (k : Int), T) ∧ k + l.length = n ∧ On c0 (2 * l.length) d) (fun r => ∃ d l, r = (d.1, d.2.1, d.2.2.1, a, b, t, l, T) ∧ On c0 (2 * n) d ∧ l.length = n) (fun k st ⟨d, l, e, hk, hd⟩ => by
    subst e
    rw [hf]
    cases k with
    | zero =>
      left
      have : l.length = n := by omega
      exact ⟨_, rfl, d, l, rfl, this ▸ hd, this⟩
    | succ k =>
      right
      have od := hd.ok hc (by omega)
      have ob := hd.at_
      obtain ⟨d2, v, e2, h2, h3⟩ := dr_pick od (by omega) hm
      refine ⟨k, (d2.1, d2.2.1, d2.2.2.1, a, b, t, l ++ [w64 (1 + v)], (k : Int), T), by omega, ?_, d2, l ++ [w64 (1 + v)], rfl, by simp; omega, (hd.trans h2).mono (by simp; omega)⟩
      have e3 : s_l1Cur_pick (d.1, d.2.1, d.2.2.1, ()) m = some (d2, v) := e2
      have : w64 (((k + 1 : Nat) : Int) - 1) = (k : Int) := by rw [w64_of (by omega) (by omega)]; omega
      simp only [dec_t (by omega : (0 : Int) < ((k + 1 : Nat) : Int)), cond_true, e3, Option.bind_some, limI (l := l) (x := w64 (1 + v)) (by omega), this]) n _ ⟨c0, [], rfl, by simp, On.refl c0⟩
  exact ⟨d, l, by rw [h1, h2], h3, h4⟩
end Go.Proofs.Ytlhplhjibadplaa.Sh
