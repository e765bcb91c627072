/-
  Networks in plain Lean: the laws' helpers.
-/
import Derived.Test.YtlalabdgkkfjpaaXLaw
import Derived.Test.YtlalabdgkkfjpaaRFns
namespace Go.Proofs.Ytlalabdgkkfjpaa.Sh
open Go Go.Ab Go.Proofs

def inB (n lo hi : Int) : Bool := decide (lo ≤ n) && decide (n ≤ hi)
theorem l1In_eq (n lo hi : Int) : s_l1In n lo hi = some (inB n lo hi) := by
  unfold s_l1In inB
  cases decide (lo ≤ n) <;> rfl
theorem within_eq (n lo hi : Int) : i_within n lo hi = some (inB n lo hi) := by
  unfold i_within inB
  cases decide (lo ≤ n) <;> rfl

theorem at_lt {n i : Nat} (hi : i < n) : decide ((i : Int) < (n : Int)) = true := decide_eq_true (by omega)
theorem up {n i : Nat} (hn : n ≤ maxLen) (hi : i < n) : w64 ((i : Int) + 1) = (i : Int) + 1 := by unfold maxLen at hn; exact w64_of (by omega) (by omega)
theorem prevI {α : Type} {l : List α} (h : l.length ≤ maxLen) {i : Nat} (hi : i < l.length) (h0 : 0 < i) : idx l (w64 ((i : Int) - 1)) = some (l[i - 1]'(by omega)) := by
  unfold maxLen at h
  rw [w64_of (by omega) (by omega), show (i : Int) - 1 = ((i - 1 : Nat) : Int) by omega, idx_get]
  simp [show i - 1 < l.length by omega]
theorem bind_eq {α β : Type} {a : Option α} {x : α} {f : α → Option β} {r : Option β} (h : a = some x) (h2 : f x = r) : a.bind f = r := by rw [h]; exact h2

def wr3 (_ : GLink) (k : Int) : GLink × Int := ((k, k + 1, k + 1 + 1, ()), k + 1 + 1 + 1)
def hd3 (k : Int) (_ : Nat) (x : GLink) : Option (Int ⊕ (Int ⊕ Int)) := bif (!decide (x.1 = k)) then some (.inr (.inr (-1))) else bif (!decide (x.2.1 = (w64 (k + 1)))) then some (.inr (.inr (-1))) else bif (!decide (x.2.2.1 = (w64 ((w64 (k + 1)) + 1)))) then some (.inr (.inr (-1))) else some (.inl (w64 ((w64 ((w64 (k + 1)) + 1)) + 1)))
theorem szTowerS {a : List GLink} {left : Int} (h : a.length ≤ maxLen) (h0 : 0 ≤ left) (h1 : left ≤ 1048576) : ∃ r, l_szTowerS a left = some r ∧ (r < 0 ∨ (a.length ≤ 1048576 ∧ 0 ≤ r ∧ r ≤ 1048576)) := by
  unfold l_szTowerS
  unfold maxLen at h
  rw [w64_of (by omega) (by omega)]
  by_cases h2 : left - a.length < 0
  · rw [decide_eq_true h2]; exact ⟨_, rfl, .inl (by decide)⟩
  · rw [decide_eq_false h2]; exact ⟨_, rfl, .inr ⟨by omega, by omega, by omega⟩⟩
theorem toTower (x : GLink) : l_toTower x = some x := rfl
theorem toTowerS {l : List GLink} (h : l.length ≤ 1048576) : l_toTowerS l = some l := by
  unfold l_toTowerS
  rw [copy_guard h, cond_true, copy_loop (fun x => x) h ?_ ?_]
  · simp
  · intro out i x hx hi
    simp only [idx_get, hx, Option.bind_some, at_lt hi, cond_true, toTower]
  · intro out; simp
theorem eqTower (x : GLink) : l_eqTower x x = some true := by
  unfold l_eqTower
  simp only [decide_true, Bool.not_true, cond_false]
theorem eqTowerS {l : List GLink} (h : l.length ≤ maxLen) : l_eqTowerS l l = some true := by
  unfold l_eqTowerS
  simp only [decide_true, Bool.not_true, cond_false]
  rw [all_loop (l := l) (fun _ => true) false ?_ ?_]
  · have : (l.all fun _ => true) = true := by simp
    rw [this]
    rfl
  · intro i x hx hi
    simp only [idx_get, hx, Option.bind_some, at_lt hi, up h hi, eqTower]
    rfl
  · simp
theorem markTowerS {l : List GLink} {k : Int} (h : l.length ≤ 1048576) (h0 : 0 ≤ k) (h1 : k ≤ 1000000000000000) : l_markTowerS l k = some (marked wr3 l k, k + ((3 * l.length : Nat) : Int)) := by
  unfold l_markTowerS
  refine bind_eq (mark_loop wr3 (fun _ => 3) (B := 9000000000000000000) (fun _ _ => by simp [wr3]; try omega) ?_ l [] k ?_ h0 ?_ (by simpa using (by omega : l.length ≤ 4194304))) ?_
  · intro l k
    simp only [show decide ((l.length : Int) < (l.length : Int)) = false from decide_eq_false (by omega), cond_false]
  · intro x _ pre suf k h0 hB hl
    simp only [List.length_append, List.length_cons] at hl
    have e0 : w64 (k + 1) = k + 1 := w64_of (by omega) (by omega)
    have e1 : w64 (k + 1 + 1) = k + 1 + 1 := w64_of (by omega) (by omega)
    have e2 : w64 (k + 1 + 1 + 1) = k + 1 + 1 + 1 := w64_of (by omega) (by omega)
    have g : decide (0 ≤ (pre.length : Int)) = true := decide_eq_true (by omega)
    have g2 : ∀ y : GLink, decide ((pre.length : Int) < ((pre ++ y :: suf).length : Int)) = true := fun y => by simp; omega
    have eu : w64 ((pre.length : Int) + 1) = (pre.length : Int) + 1 := w64_of (by omega) (by omega)
    simp only [g, g2, get_mid, set_mid, cond_true, Bool.and_self, Option.bind_some, e0, e1, e2, eu, wr3]
  · rw [total_const]; omega
  · simp only [List.nil_append, total_const]
theorem heldTowerS {l : List GLink} {k : Int} (h : l.length ≤ 1048576) (h0 : 0 ≤ k) (h1 : k ≤ 1000000000000000) : l_heldTowerS (marked wr3 l k) k = some (k + ((3 * l.length : Nat) : Int)) := by
  unfold l_heldTowerS
  have hml := marked_len wr3 l k
  refine bind_eq ((for_loop (a := marked wr3 l k) Prod.mk hd3 (fun k => (.inl k : Int ⊕ Int)) k rfl ?_ ?_).trans (held_res wr3 (fun _ => 3) hd3 (fun _ _ => by simp [wr3]; try omega) (B := 9000000000000000000) l k 0 ?_ h0 (by rw [total_const]; omega))) ?_
  · intro s i x hi hx
    simp only [idx_get, hx, Option.bind_some, at_lt hi, cond_true, hd3, w64_of (x := (i : Int) + 1) (by omega) (by omega)]
    cases decide (x.1 = s) <;>  cases decide (x.2.1 = (w64 (s + 1))) <;>  cases decide (x.2.2.1 = (w64 ((w64 (s + 1)) + 1))) <;> rfl
  · intro s
    simp
  · intro x _ k i h0 hB
    have e0 : w64 (k + 1) = k + 1 := w64_of (by omega) (by omega)
    have e1 : w64 (k + 1 + 1) = k + 1 + 1 := w64_of (by omega) (by omega)
    have e2 : w64 (k + 1 + 1 + 1) = k + 1 + 1 + 1 := w64_of (by omega) (by omega)
    simp only [hd3, wr3, e0, e1, e2, decide_true, Bool.not_true, cond_false]
    simp; try omega
  · simp only [total_const]
theorem szLinkS {a : List GLink} {left : Int} (h : a.length ≤ maxLen) (h0 : 0 ≤ left) (h1 : left ≤ 1048576) : ∃ r, l_szLinkS a left = some r ∧ (r < 0 ∨ (a.length ≤ 1048576 ∧ 0 ≤ r ∧ r ≤ 1048576)) := by
  unfold l_szLinkS
  unfold maxLen at h
  rw [w64_of (by omega) (by omega)]
  by_cases h2 : left - a.length < 0
  · rw [decide_eq_true h2]; exact ⟨_, rfl, .inl (by decide)⟩
  · rw [decide_eq_false h2]; exact ⟨_, rfl, .inr ⟨by omega, by omega, by omega⟩⟩
theorem toLink (x : GLink) : l_toLink x = some x := rfl
theorem toLinkS {l : List GLink} (h : l.length ≤ 1048576) : l_toLinkS l = some l := by
  unfold l_toLinkS
  rw [copy_guard h, cond_true, copy_loop (fun x => x) h ?_ ?_]
  · simp
  · intro out i x hx hi
    simp only [idx_get, hx, Option.bind_some, at_lt hi, cond_true, toLink]
  · intro out; simp
theorem eqLink (x : GLink) : l_eqLink x x = some true := by
  unfold l_eqLink
  simp only [decide_true, Bool.not_true, cond_false]
theorem eqLinkS {l : List GLink} (h : l.length ≤ maxLen) : l_eqLinkS l l = some true := by
  unfold l_eqLinkS
  simp only [decide_true, Bool.not_true, cond_false]
  rw [all_loop (l := l) (fun _ => true) false ?_ ?_]
  · have : (l.all fun _ => true) = true := by simp
    rw [this]
    rfl
  · intro i x hx hi
    simp only [idx_get, hx, Option.bind_some, at_lt hi, up h hi, eqLink]
    rfl
  · simp
theorem markLinkS {l : List GLink} {k : Int} (h : l.length ≤ 1048576) (h0 : 0 ≤ k) (h1 : k ≤ 1000000000000000) : l_markLinkS l k = some (marked wr3 l k, k + ((3 * l.length : Nat) : Int)) := by
  unfold l_markLinkS
  refine bind_eq (mark_loop wr3 (fun _ => 3) (B := 9000000000000000000) (fun _ _ => by simp [wr3]; try omega) ?_ l [] k ?_ h0 ?_ (by simpa using (by omega : l.length ≤ 4194304))) ?_
  · intro l k
    simp only [show decide ((l.length : Int) < (l.length : Int)) = false from decide_eq_false (by omega), cond_false]
  · intro x _ pre suf k h0 hB hl
    simp only [List.length_append, List.length_cons] at hl
    have e0 : w64 (k + 1) = k + 1 := w64_of (by omega) (by omega)
    have e1 : w64 (k + 1 + 1) = k + 1 + 1 := w64_of (by omega) (by omega)
    have e2 : w64 (k + 1 + 1 + 1) = k + 1 + 1 + 1 := w64_of (by omega) (by omega)
    have g : decide (0 ≤ (pre.length : Int)) = true := decide_eq_true (by omega)
    have g2 : ∀ y : GLink, decide ((pre.length : Int) < ((pre ++ y :: suf).length : Int)) = true := fun y => by simp; omega
    have eu : w64 ((pre.length : Int) + 1) = (pre.length : Int) + 1 := w64_of (by omega) (by omega)
    simp only [g, g2, get_mid, set_mid, cond_true, Bool.and_self, Option.bind_some, e0, e1, e2, eu, wr3]
  · rw [total_const]; omega
  · simp only [List.nil_append, total_const]
theorem heldLinkS {l : List GLink} {k : Int} (h : l.length ≤ 1048576) (h0 : 0 ≤ k) (h1 : k ≤ 1000000000000000) : l_heldLinkS (marked wr3 l k) k = some (k + ((3 * l.length : Nat) : Int)) := by
  unfold l_heldLinkS
  have hml := marked_len wr3 l k
  refine bind_eq ((for_loop (a := marked wr3 l k) Prod.mk hd3 (fun k => (.inl k : Int ⊕ Int)) k rfl ?_ ?_).trans (held_res wr3 (fun _ => 3) hd3 (fun _ _ => by simp [wr3]; try omega) (B := 9000000000000000000) l k 0 ?_ h0 (by rw [total_const]; omega))) ?_
  · intro s i x hi hx
    simp only [idx_get, hx, Option.bind_some, at_lt hi, cond_true, hd3, w64_of (x := (i : Int) + 1) (by omega) (by omega)]
    cases decide (x.1 = s) <;>  cases decide (x.2.1 = (w64 (s + 1))) <;>  cases decide (x.2.2.1 = (w64 ((w64 (s + 1)) + 1))) <;> rfl
  · intro s
    simp
  · intro x _ k i h0 hB
    have e0 : w64 (k + 1) = k + 1 := w64_of (by omega) (by omega)
    have e1 : w64 (k + 1 + 1) = k + 1 + 1 := w64_of (by omega) (by omega)
    have e2 : w64 (k + 1 + 1 + 1) = k + 1 + 1 + 1 := w64_of (by omega) (by omega)
    simp only [hd3, wr3, e0, e1, e2, decide_true, Bool.not_true, cond_false]
    simp; try omega
  · simp only [total_const]
theorem szFogS {a : List GLink} {left : Int} (h : a.length ≤ maxLen) (h0 : 0 ≤ left) (h1 : left ≤ 1048576) : ∃ r, l_szFogS a left = some r ∧ (r < 0 ∨ (a.length ≤ 1048576 ∧ 0 ≤ r ∧ r ≤ 1048576)) := by
  unfold l_szFogS
  unfold maxLen at h
  rw [w64_of (by omega) (by omega)]
  by_cases h2 : left - a.length < 0
  · rw [decide_eq_true h2]; exact ⟨_, rfl, .inl (by decide)⟩
  · rw [decide_eq_false h2]; exact ⟨_, rfl, .inr ⟨by omega, by omega, by omega⟩⟩
theorem toFog (x : GLink) : l_toFog x = some x := rfl
theorem toFogS {l : List GLink} (h : l.length ≤ 1048576) : l_toFogS l = some l := by
  unfold l_toFogS
  rw [copy_guard h, cond_true, copy_loop (fun x => x) h ?_ ?_]
  · simp
  · intro out i x hx hi
    simp only [idx_get, hx, Option.bind_some, at_lt hi, cond_true, toFog]
  · intro out; simp
theorem eqFog (x : GLink) : l_eqFog x x = some true := by
  unfold l_eqFog
  simp only [decide_true, Bool.not_true, cond_false]
theorem eqFogS {l : List GLink} (h : l.length ≤ maxLen) : l_eqFogS l l = some true := by
  unfold l_eqFogS
  simp only [decide_true, Bool.not_true, cond_false]
  rw [all_loop (l := l) (fun _ => true) false ?_ ?_]
  · have : (l.all fun _ => true) = true := by simp
    rw [this]
    rfl
  · intro i x hx hi
    simp only [idx_get, hx, Option.bind_some, at_lt hi, up h hi, eqFog]
    rfl
  · simp
theorem markFogS {l : List GLink} {k : Int} (h : l.length ≤ 1048576) (h0 : 0 ≤ k) (h1 : k ≤ 1000000000000000) : l_markFogS l k = some (marked wr3 l k, k + ((3 * l.length : Nat) : Int)) := by
  unfold l_markFogS
  refine bind_eq (mark_loop wr3 (fun _ => 3) (B := 9000000000000000000) (fun _ _ => by simp [wr3]; try omega) ?_ l [] k ?_ h0 ?_ (by simpa using (by omega : l.length ≤ 4194304))) ?_
  · intro l k
    simp only [show decide ((l.length : Int) < (l.length : Int)) = false from decide_eq_false (by omega), cond_false]
  · intro x _ pre suf k h0 hB hl
    simp only [List.length_append, List.length_cons] at hl
    have e0 : w64 (k + 1) = k + 1 := w64_of (by omega) (by omega)
    have e1 : w64 (k + 1 + 1) = k + 1 + 1 := w64_of (by omega) (by omega)
    have e2 : w64 (k + 1 + 1 + 1) = k + 1 + 1 + 1 := w64_of (by omega) (by omega)
    have g : decide (0 ≤ (pre.length : Int)) = true := decide_eq_true (by omega)
    have g2 : ∀ y : GLink, decide ((pre.length : Int) < ((pre ++ y :: suf).length : Int)) = true := fun y => by simp; omega
    have eu : w64 ((pre.length : Int) + 1) = (pre.length : Int) + 1 := w64_of (by omega) (by omega)
    simp only [g, g2, get_mid, set_mid, cond_true, Bool.and_self, Option.bind_some, e0, e1, e2, eu, wr3]
  · rw [total_const]; omega
  · simp only [List.nil_append, total_const]
theorem heldFogS {l : List GLink} {k : Int} (h : l.length ≤ 1048576) (h0 : 0 ≤ k) (h1 : k ≤ 1000000000000000) : l_heldFogS (marked wr3 l k) k = some (k + ((3 * l.length : Nat) : Int)) := by
  unfold l_heldFogS
  have hml := marked_len wr3 l k
  refine bind_eq ((for_loop (a := marked wr3 l k) Prod.mk hd3 (fun k => (.inl k : Int ⊕ Int)) k rfl ?_ ?_).trans (held_res wr3 (fun _ => 3) hd3 (fun _ _ => by simp [wr3]; try omega) (B := 9000000000000000000) l k 0 ?_ h0 (by rw [total_const]; omega))) ?_
  · intro s i x hi hx
    simp only [idx_get, hx, Option.bind_some, at_lt hi, cond_true, hd3, w64_of (x := (i : Int) + 1) (by omega) (by omega)]
    cases decide (x.1 = s) <;>  cases decide (x.2.1 = (w64 (s + 1))) <;>  cases decide (x.2.2.1 = (w64 ((w64 (s + 1)) + 1))) <;> rfl
  · intro s
    simp
  · intro x _ k i h0 hB
    have e0 : w64 (k + 1) = k + 1 := w64_of (by omega) (by omega)
    have e1 : w64 (k + 1 + 1) = k + 1 + 1 := w64_of (by omega) (by omega)
    have e2 : w64 (k + 1 + 1 + 1) = k + 1 + 1 + 1 := w64_of (by omega) (by omega)
    simp only [hd3, wr3, e0, e1, e2, decide_true, Bool.not_true, cond_false]
    simp; try omega
  · simp only [total_const]
def wr6 (_ : GParcel) (k : Int) : GParcel × Int := ((k, k + 1, k + 1 + 1, k + 1 + 1 + 1, k + 1 + 1 + 1 + 1, k + 1 + 1 + 1 + 1 + 1, ()), k + 1 + 1 + 1 + 1 + 1 + 1)
def hd6 (k : Int) (_ : Nat) (x : GParcel) : Option (Int ⊕ (Int ⊕ Int)) := bif (!decide (x.1 = k)) then some (.inr (.inr (-1))) else bif (!decide (x.2.1 = (w64 (k + 1)))) then some (.inr (.inr (-1))) else bif (!decide (x.2.2.1 = (w64 ((w64 (k + 1)) + 1)))) then some (.inr (.inr (-1))) else bif (!decide (x.2.2.2.1 = (w64 ((w64 ((w64 (k + 1)) + 1)) + 1)))) then some (.inr (.inr (-1))) else bif (!decide (x.2.2.2.2.1 = (w64 ((w64 ((w64 ((w64 (k + 1)) + 1)) + 1)) + 1)))) then some (.inr (.inr (-1))) else bif (!decide (x.2.2.2.2.2.1 = (w64 ((w64 ((w64 ((w64 ((w64 (k + 1)) + 1)) + 1)) + 1)) + 1)))) then some (.inr (.inr (-1))) else some (.inl (w64 ((w64 ((w64 ((w64 ((w64 ((w64 (k + 1)) + 1)) + 1)) + 1)) + 1)) + 1)))
theorem szParcelS {a : List GParcel} {left : Int} (h : a.length ≤ maxLen) (h0 : 0 ≤ left) (h1 : left ≤ 1048576) : ∃ r, l_szParcelS a left = some r ∧ (r < 0 ∨ (a.length ≤ 1048576 ∧ 0 ≤ r ∧ r ≤ 1048576)) := by
  unfold l_szParcelS
  unfold maxLen at h
  rw [w64_of (by omega) (by omega)]
  by_cases h2 : left - a.length < 0
  · rw [decide_eq_true h2]; exact ⟨_, rfl, .inl (by decide)⟩
  · rw [decide_eq_false h2]; exact ⟨_, rfl, .inr ⟨by omega, by omega, by omega⟩⟩
theorem toParcel (x : GParcel) : l_toParcel x = some x := rfl
theorem toParcelS {l : List GParcel} (h : l.length ≤ 1048576) : l_toParcelS l = some l := by
  unfold l_toParcelS
  rw [copy_guard h, cond_true, copy_loop (fun x => x) h ?_ ?_]
  · simp
  · intro out i x hx hi
    simp only [idx_get, hx, Option.bind_some, at_lt hi, cond_true, toParcel]
  · intro out; simp
theorem eqParcel (x : GParcel) : l_eqParcel x x = some true := by
  unfold l_eqParcel
  simp only [decide_true, Bool.not_true, cond_false]
theorem eqParcelS {l : List GParcel} (h : l.length ≤ maxLen) : l_eqParcelS l l = some true := by
  unfold l_eqParcelS
  simp only [decide_true, Bool.not_true, cond_false]
  rw [all_loop (l := l) (fun _ => true) false ?_ ?_]
  · have : (l.all fun _ => true) = true := by simp
    rw [this]
    rfl
  · intro i x hx hi
    simp only [idx_get, hx, Option.bind_some, at_lt hi, up h hi, eqParcel]
    rfl
  · simp
theorem markParcelS {l : List GParcel} {k : Int} (h : l.length ≤ 1048576) (h0 : 0 ≤ k) (h1 : k ≤ 1000000000000000) : l_markParcelS l k = some (marked wr6 l k, k + ((6 * l.length : Nat) : Int)) := by
  unfold l_markParcelS
  refine bind_eq (mark_loop wr6 (fun _ => 6) (B := 9000000000000000000) (fun _ _ => by simp [wr6]; try omega) ?_ l [] k ?_ h0 ?_ (by simpa using (by omega : l.length ≤ 4194304))) ?_
  · intro l k
    simp only [show decide ((l.length : Int) < (l.length : Int)) = false from decide_eq_false (by omega), cond_false]
  · intro x _ pre suf k h0 hB hl
    simp only [List.length_append, List.length_cons] at hl
    have e0 : w64 (k + 1) = k + 1 := w64_of (by omega) (by omega)
    have e1 : w64 (k + 1 + 1) = k + 1 + 1 := w64_of (by omega) (by omega)
    have e2 : w64 (k + 1 + 1 + 1) = k + 1 + 1 + 1 := w64_of (by omega) (by omega)
    have e3 : w64 (k + 1 + 1 + 1 + 1) = k + 1 + 1 + 1 + 1 := w64_of (by omega) (by omega)
    have e4 : w64 (k + 1 + 1 + 1 + 1 + 1) = k + 1 + 1 + 1 + 1 + 1 := w64_of (by omega) (by omega)
    have e5 : w64 (k + 1 + 1 + 1 + 1 + 1 + 1) = k + 1 + 1 + 1 + 1 + 1 + 1 := w64_of (by omega) (by omega)
    have g : decide (0 ≤ (pre.length : Int)) = true := decide_eq_true (by omega)
    have g2 : ∀ y : GParcel, decide ((pre.length : Int) < ((pre ++ y :: suf).length : Int)) = true := fun y => by simp; omega
    have eu : w64 ((pre.length : Int) + 1) = (pre.length : Int) + 1 := w64_of (by omega) (by omega)
    simp only [g, g2, get_mid, set_mid, cond_true, Bool.and_self, Option.bind_some, e0, e1, e2, e3, e4, e5, eu, wr6]
  · rw [total_const]; omega
  · simp only [List.nil_append, total_const]
theorem heldParcelS {l : List GParcel} {k : Int} (h : l.length ≤ 1048576) (h0 : 0 ≤ k) (h1 : k ≤ 1000000000000000) : l_heldParcelS (marked wr6 l k) k = some (k + ((6 * l.length : Nat) : Int)) := by
  unfold l_heldParcelS
  have hml := marked_len wr6 l k
  refine bind_eq ((for_loop (a := marked wr6 l k) Prod.mk hd6 (fun k => (.inl k : Int ⊕ Int)) k rfl ?_ ?_).trans (held_res wr6 (fun _ => 6) hd6 (fun _ _ => by simp [wr6]; try omega) (B := 9000000000000000000) l k 0 ?_ h0 (by rw [total_const]; omega))) ?_
  · intro s i x hi hx
    simp only [idx_get, hx, Option.bind_some, at_lt hi, cond_true, hd6, w64_of (x := (i : Int) + 1) (by omega) (by omega)]
    cases decide (x.1 = s) <;>  cases decide (x.2.1 = (w64 (s + 1))) <;>  cases decide (x.2.2.1 = (w64 ((w64 (s + 1)) + 1))) <;>  cases decide (x.2.2.2.1 = (w64 ((w64 ((w64 (s + 1)) + 1)) + 1))) <;>  cases decide (x.2.2.2.2.1 = (w64 ((w64 ((w64 ((w64 (s + 1)) + 1)) + 1)) + 1))) <;>  cases decide (x.2.2.2.2.2.1 = (w64 ((w64 ((w64 ((w64 ((w64 (s + 1)) + 1)) + 1)) + 1)) + 1))) <;> rfl
  · intro s
    simp
  · intro x _ k i h0 hB
    have e0 : w64 (k + 1) = k + 1 := w64_of (by omega) (by omega)
    have e1 : w64 (k + 1 + 1) = k + 1 + 1 := w64_of (by omega) (by omega)
    have e2 : w64 (k + 1 + 1 + 1) = k + 1 + 1 + 1 := w64_of (by omega) (by omega)
    have e3 : w64 (k + 1 + 1 + 1 + 1) = k + 1 + 1 + 1 + 1 := w64_of (by omega) (by omega)
    have e4 : w64 (k + 1 + 1 + 1 + 1 + 1) = k + 1 + 1 + 1 + 1 + 1 := w64_of (by omega) (by omega)
    have e5 : w64 (k + 1 + 1 + 1 + 1 + 1 + 1) = k + 1 + 1 + 1 + 1 + 1 + 1 := w64_of (by omega) (by omega)
    simp only [hd6, wr6, e0, e1, e2, e3, e4, e5, decide_true, Bool.not_true, cond_false]
    simp; try omega
  · simp only [total_const]
end Go.Proofs.Ytlalabdgkkfjpaa.Sh
