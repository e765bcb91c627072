/-
  The statement on networks: what the function of its law comes to.
-/
import Derived.Test.YtlalabdgkkfjpaaND5
namespace Go.Proofs.Ytlalabdgkkfjpaa.Sh
open Go Go.Ab Go.Proofs
set_option maxRecDepth 100000
theorem fire_eq (t : GParcel → Bool) (v : GParcel → Int) : ∀ (l : List GParcel) (out : List Int), l.foldl (fire t v) out = out ++ (l.filter t).map v
  | [], out => by simp
  | x :: l, out => by
    rw [List.foldl_cons, fire_eq t v l]
    unfold fire
    cases h : t x with
    | true => simp [h]
    | false => simp [h]
theorem look_loop {σ ρ : Type} {n : Nat} (hn : n ≤ 1000000000) {f : σ → Option (σ ⊕ ρ)} (mk : Int → σ) {r : ρ} (step : ∀ i : Nat, i < n → f (mk (i : Int)) = some (.inl (mk (w64 ((i : Int) + 1))))) (fin : f (mk (n : Int)) = some (.inr r)) : loopE f (mk 0) = some r := by
  have : To (loopE f (mk 0)) (fun x => x = r) := by
    refine To.loop (fun k st => ∃ i : Nat, st = mk (i : Int) ∧ i + k = n) (n := n) ⟨0, rfl, by omega⟩ ?_
    rintro k st ⟨i, rfl, hi⟩
    by_cases h : i < n
    · rw [step i h]
      refine .ret (.on (k - 1) (by omega) ⟨i + 1, ?_, by omega⟩)
      rw [w64_of (by omega) (by omega)]; rfl
    · have : i = n := by omega
      subst this
      rw [fin]
      exact .ret (.end_ rfl)
  obtain ⟨x, e, rfl⟩ := this
  exact e
theorem big_eq (code more : List Int) : ∃ b, l_big code more = some b ∧ (b = false → code.length ≤ 1048576 ∧ more.length ≤ 1048576) := by
  unfold l_big
  by_cases h : 1048576 < (code.length : Int)
  · rw [dec_t h]; exact ⟨true, rfl, fun h => by cases h⟩
  · rw [dec_f h, w64_of (by omega) (by omega)]
    refine ⟨_, rfl, fun hb => ?_⟩
    have := of_decide_eq_false hb
    omega
theorem bytes_of {l : List Int} (h : good (.slice (.int .u8)) l) : ∀ b ∈ l, 0 ≤ b ∧ b ≤ 255 := fun b hb => by
  have := h.2 b hb
  have h2 : wfI .u8 b := this
  simp [wfI, Lit.wf, IntKind.min, IntKind.max, IntKind.signed, IntKind.bits] at h2
  omega
end Go.Proofs.Ytlalabdgkkfjpaa.Sh
