/-
  What the laws ask of networks: equal ones are found equal; what passes, what arrives, what comes next.
-/
import Derived.Test.YtlalabdgkkfjpaaND4
namespace Go.Proofs.Ytlalabdgkkfjpaa.Sh
open Go Go.Ab Go.Proofs
set_option maxRecDepth 100000
theorem same_loop {n : Nat} (hn : n ≤ 1000000000) {f : Int → Option (Int ⊕ (Unit ⊕ Bool))} (step : ∀ i : Nat, i < n → f (i : Int) = some (.inl (w64 ((i : Int) + 1)))) (fin : f (n : Int) = some (.inr (.inl ()))) : loopE f 0 = some (.inl ()) := by
  have : To (loopE f 0) (fun r => r = .inl ()) := by
    refine To.loop (fun k st => ∃ i : Nat, st = (i : Int) ∧ i + k = n) (n := n) ⟨0, rfl, by omega⟩ ?_
    rintro k st ⟨i, rfl, hi⟩
    by_cases h : i < n
    · rw [step i h]
      refine .ret (.on (k - 1) (by omega) ⟨i + 1, ?_, by omega⟩)
      rw [w64_of (by omega) (by omega)]; omega
    · have : i = n := by omega
      subst this
      rw [fin]
      exact .ret (.end_ rfl)
  obtain ⟨r, e, rfl⟩ := this
  exact e
theorem sameInts_self {l : List Int} (h : l.length ≤ 1048576) : l_sameInts l l = some true := by
  unfold l_sameInts
  simp only [decide_true, Bool.not_true, cond_false]
  rw [same_loop (n := l.length) (by omega) (fun i hi => by simp [at_lt hi, idx_get, hi]) (by simp)]
  rfl
theorem pSameNet_self {n : GNet} (h : SmallN n) : l_pSameNet n n = some true := by
  have h1 := h.t; have h2 := h.l
  unfold l_pSameNet
  simp only [decide_true, Bool.not_true, cond_false, Option.bind_some]
  rw [same_loop (n := n.1.length) (by omega) (fun i hi => by simp [at_lt hi, idx_get, hi]) (by simp)]
  simp only [Option.bind_some]
  rw [same_loop (n := n.2.1.length) (by omega) (fun i hi => by simp [at_lt hi, idx_get, hi]) (by simp)]
  rfl
theorem pSameFogs_self {l : List GLink} (h : l.length ≤ 1048576) : l_pSameFogs l l = some true := by
  unfold l_pSameFogs
  simp only [decide_true, Bool.not_true, cond_false]
  rw [same_loop (n := l.length) (by omega) (fun i hi => by simp [at_lt hi, idx_get, hi]) (by simp)]
  rfl
theorem pSame_self {w : GNetwork} (h : SmallW w) : l_pSameNetwork w w = some true := by
  have h1 := h.p
  unfold l_pSameNetwork
  rw [pSameNet_self h.n]
  simp only [Option.bind_some, Bool.not_true, cond_false, pSameFogs_self h.f, decide_true]
  rw [same_loop (n := w.2.2.2.1.length) (by omega) (fun i hi => by simp [at_lt hi, idx_get, hi]) (by simp)]
  rfl
theorem acc_eq {w : GNetwork} (hs : SmallW w) (m a b k : Int) : s_AcceptParcels w m a b k = some (bif isNw w then accepted w m a b k else (zeroW, false)) ∧ i_AcceptParcels w m a b k = some (bif isNw w then accepted w m a b k else (zeroW, false)) := by
  unfold s_AcceptParcels i_AcceptParcels s_nwAsked
  rw [s_isNw hs.fine, i_isNw hs.fine]
  simp only [Option.bind_some]
  cases hn : isNw w with
  | false => exact ⟨rfl, rfl⟩
  | true =>
    simp only [Bool.not_true, cond_false]
    rw [s_act_acc hs hn _ rfl, i_acc hs hn _ rfl]
    exact ⟨rfl, rfl⟩
end Go.Proofs.Ytlalabdgkkfjpaa.Sh
