/-
  What letters cost: PriceOfLetters.
-/
import Derived.Test.YtmiadogpbadniaaQPlain3
namespace Go.Proofs.Ytmiadogpbadniaa.Sh
open Go Go.Ab Go.Proofs

theorem price_some (p : GPrice) : ∃ v, i_IsPrice p = some v ∧ s_pcPrice p = some v := by
  have e : s_pcPrice p = i_IsPrice p := rfl
  rw [e]
  unfold i_IsPrice
  simp only [within_eq, Option.bind_some]
  cases inB p.1 0 10000 <;> cases inB p.2.1 0 100 <;> cases inB p.2.2.1 0 1000 <;> exact ⟨_, rfl, rfl⟩
theorem sent_some (x : GSent) : ∃ v, i_isSent x = some v ∧ s_pcSent x = some v := by
  have e : s_pcSent x = i_isSent x := rfl
  rw [e]
  unfold i_isSent
  simp only [within_eq, Option.bind_some]
  cases inB x.1 1 72 <;> cases inB x.2.1 1 16 <;> exact ⟨_, rfl, rfl⟩
theorem cost_some (p : GPrice) (x : GSent) : ∃ v, i_priceOf p x = some v ∧ s_pcCost p x = some v := by
  have e : s_pcCost p x = i_priceOf p x := rfl
  rw [e]
  unfold i_priceOf
  cases x.2.2.1 <;> exact ⟨_, rfl, rfl⟩

theorem letters_same {b : GBook} (hb : Fine b) {s : Bytes} (hs : s.length ≤ maxLen) (p : GPrice) (t : Int) : ∃ v, s_PriceOfLetters p b s t = some v ∧ i_PriceOfLetters p b s t = some v := by
  unfold s_PriceOfLetters i_PriceOfLetters
  obtain ⟨n, ok, e1, e2, _, _⟩ := least_same hb hs
  obtain ⟨v, v1, v2⟩ := price_some p
  obtain ⟨u, u1, u2⟩ := sent_some (n, t, false, 0, ())
  obtain ⟨c, c1, c2⟩ := cost_some p (n, t, false, 0, ())
  simp only [e1, e2, v1, v2, u1, u2, c1, c2, Option.bind_some]
  cases ok <;> cases v <;> cases u <;> exact ⟨_, rfl, rfl⟩

/-- FnExactPriceOfLetters -/
theorem plain_PriceOfLetters (p : GPrice) (b : GBook) (s : Bytes) (t : Int) (hb : Fine b) (hs : s.length ≤ maxLen) : l_FnExactPriceOfLetters p b s t = some true := by
  unfold l_FnExactPriceOfLetters
  cases decide (1048576 < (s.length : Int)) with
  | true => rfl
  | false =>
  obtain ⟨r, hr, h2⟩ := szBook2 hb (left := 1048576) (by omega) (by omega)
  rw [hr]
  simp only [Option.bind_some]
  rcases h2 with h2 | ⟨h2, h3, h4⟩
  · rw [decide_eq_true h2]; rfl
  rw [show decide (r < 0) = false from decide_eq_false (by omega)]
  obtain ⟨v, e1, e2⟩ := letters_same hb hs p t
  have hp : l_toPrice p = some p := rfl
  simp only [hp, toBook h2, eqBook hb, Option.bind_some, cond_false, e1, e2]
  simp
end Go.Proofs.Ytmiadogpbadniaa.Sh
