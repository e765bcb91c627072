/-
  AcceptParcels: a message is put in its place.
-/
import Derived.Test.YtlalabdgkkfjpaaRPlain8
namespace Go.Proofs.Ytlalabdgkkfjpaa.Sh
open Go Go.Ab
set_option maxRecDepth 100000

/-! the place of a message -/
def spot (m : Int) : List GParcel → Nat
  | [] => 0
  | x :: l => bif decide (x.1 < m) then spot m l + 1 else 0
theorem spot_le (m : Int) : ∀ l : List GParcel, spot m l ≤ l.length
  | [] => Nat.le_refl _
  | x :: l => by
    unfold spot
    cases decide (x.1 < m) with
    | true => simp only [cond_true, List.length_cons]; have := spot_le m l; omega
    | false => simp
theorem spot_lt (m : Int) : ∀ (l : List GParcel) (j : Nat) (x : GParcel), l[j]? = some x → j < spot m l → x.1 < m
  | [], j, x, h, _ => by simp at h
  | y :: l, j, x, h, hj => by
    unfold spot at hj
    cases hy : decide (y.1 < m) with
    | false => rw [hy] at hj; simp at hj
    | true =>
      rw [hy] at hj
      simp only [cond_true] at hj
      cases j with
      | zero => simp at h; subst h; exact of_decide_eq_true hy
      | succ j => exact spot_lt m l j x (by simpa using h) (by omega)
theorem spot_ge (m : Int) : ∀ (l : List GParcel) (x : GParcel), l[spot m l]? = some x → ¬ x.1 < m
  | [], x, h => by simp at h
  | y :: l, x, h => by
    unfold spot at h
    cases hy : decide (y.1 < m) with
    | false => rw [hy] at h; simp at h; subst h; exact of_decide_eq_false hy
    | true =>
      rw [hy] at h
      simp only [cond_true] at h
      exact spot_ge m l x (by simpa using h)

theorem sorted_P {T : Nat} {ps : List GParcel} (hc : ∀ j, j < ps.length → Cond T ps j) : ∀ (d i : Nat), i + d < ps.length → (P ps i).1 ≤ (P ps (i + d)).1
  | 0, i, _ => Int.le_refl _
  | d + 1, i, h => by
    have h1 := sorted_P hc d i (by omega)
    have h2 := (hc (i + (d + 1)) h).bf (by omega)
    rw [show i + (d + 1) - 1 = i + d by omega] at h2
    omega

def mkNew (m k a b t : Int) (d : Nat) : GParcel := (m, (d : Int), k, a, b, t, ())
def news (m k a b t : Int) (n : Nat) : List GParcel := (List.range n).map (mkNew m k a b t)
def placed (ps : List GParcel) (at_ : Nat) (N : List GParcel) : List GParcel := ps.take at_ ++ N ++ ps.drop at_

theorem P_eq {ps : List GParcel} {j : Nat} (h : j < ps.length) : P ps j = ps[j] := by unfold P; simp [h]
theorem P_out {ps : List GParcel} {j : Nat} (h : ps.length ≤ j) : (P ps j).1 = 0 := by unfold P; rw [List.getD_eq_getElem?_getD, List.getElem?_eq_none h]; rfl
theorem placed_get {ps N : List GParcel} {at_ : Nat} (h : at_ ≤ ps.length) (j : Nat) : P (placed ps at_ N) j = if j < at_ then P ps j else if j < at_ + N.length then P N (j - at_) else P ps (j - N.length) := by
  unfold P placed
  simp only [List.getD_eq_getElem?_getD]
  have hl : (ps.take at_).length = at_ := by rw [List.length_take]; omega
  split
  · rename_i h1
    rw [List.append_assoc, List.getElem?_append_left (by omega), List.getElem?_take_of_lt h1]
  · rename_i h1
    split
    · rename_i h2
      rw [List.append_assoc, List.getElem?_append_right (by omega), List.getElem?_append_left (by omega), hl]
    · rename_i h2
      rw [List.getElem?_append_right (by rw [List.length_append]; omega), List.length_append, hl, List.getElem?_drop]
      rw [show at_ + (j - (at_ + N.length)) = j - N.length by omega]
theorem placed_len {ps N : List GParcel} {at_ : Nat} (h : at_ ≤ ps.length) : (placed ps at_ N).length = ps.length + N.length := by
  unfold placed
  simp only [List.length_append, List.length_take, List.length_drop]
  omega
theorem news_len (m k a b t : Int) (n : Nat) : (news m k a b t n).length = n := by simp [news]
theorem news_P (m k a b t : Int) {n d : Nat} (h : d < n) : P (news m k a b t n) d = mkNew m k a b t d := by
  unfold P news
  rw [List.getD_eq_getElem?_getD, List.getElem?_map, List.getElem?_range h]
  rfl

theorem groups_placed {T : Nat} {ps : List GParcel} (hc : ∀ j, j < ps.length → Cond T ps j) {m a b t : Int} {n : Nat} (hn : 1 ≤ n ∧ n ≤ 9) (hm : 1 ≤ m ∧ m ≤ 999) (ha : 0 ≤ a ∧ a < (T : Int)) (hb : 0 ≤ b ∧ b < (T : Int)) (ht : 0 ≤ t ∧ t ≤ 20000)
    (hno : ∀ j, j < ps.length → (P ps j).1 ≠ m) : ∀ j, j < (placed ps (spot m ps) (news m (n : Int) a b t n)).length → Cond T (placed ps (spot m ps) (news m (n : Int) a b t n)) j := by
  have hs := spot_le m ps
  have lo : ∀ j, j < spot m ps → (P ps j).1 < m := fun j hj => by
    have h : j < ps.length := by omega
    rw [P_eq h]
    exact spot_lt m ps j _ (by simp [h]) hj
  have hi : ∀ j, spot m ps ≤ j → j < ps.length → m < (P ps j).1 := fun j hj hl => by
    have h0 : spot m ps < ps.length := by omega
    have h1 := spot_ge m ps (ps[spot m ps]) (by simp [h0])
    have h2 := sorted_P hc (j - spot m ps) (spot m ps) (by omega)
    rw [show spot m ps + (j - spot m ps) = j by omega, P_eq h0] at h2
    have := hno j hl
    omega
  generalize spot m ps = s at *
  have hlen : (placed ps s (news m (n : Int) a b t n)).length = ps.length + n := by rw [placed_len hs, news_len]
  have get : ∀ j, P (placed ps s (news m (n : Int) a b t n)) j = if j < s then P ps j else if j < s + n then mkNew m (n : Int) a b t (j - s) else P ps (j - n) := fun j => by
    rw [placed_get hs, news_len]
    split
    · rfl
    · split
      · rw [news_P m (n : Int) a b t (by omega)]
      · rfl
  intro j hj
  rw [hlen] at hj
  by_cases z1 : j < s
  · have c := hc j (by omega)
    have e : P (placed ps s (news m (n : Int) a b t n)) j = P ps j := by rw [get, if_pos z1]
    have al := c.al; have clo := c.lo; have chi := c.hi; have cq := c.q; have cbf := c.bf; have cnx := c.nx; have cen := c.en
    have hlo := lo j z1
    refine ⟨by rw [e]; exact al, by rw [e]; exact clo, by rw [e, hlen]; omega, ?_, ?_, ?_, ?_⟩
    · rw [e, get, if_pos (by omega)]; exact cq
    · rw [e]
      intro h0
      rw [get, if_pos (by omega)]
      exact cbf h0
    · rw [e]
      intro h1
      have h2 := cnx h1
      rw [get]
      by_cases h3 : j + 1 < s
      · rw [if_pos h3]; exact h2
      · exfalso
        have h4 : j + 1 = s := by omega
        by_cases h5 : j + 1 < ps.length
        · have := hi (j + 1) (by omega) h5; omega
        · have := P_out (ps := ps) (j := j + 1) (by omega); have := al.m; omega
    · rw [e]
      intro h1 _
      rw [get]
      by_cases h3 : j + 1 < s
      · rw [if_pos h3]; exact cen h1 (by omega)
      · rw [if_neg h3, if_pos (by omega)]; exact hlo
  · by_cases z2 : j < s + n
    · have e : P (placed ps s (news m (n : Int) a b t n)) j = mkNew m (n : Int) a b t (j - s) := by rw [get, if_neg z1, if_pos z2]
      have ep : (mkNew m (n : Int) a b t (j - s)).2.1 = ((j - s : Nat) : Int) := rfl
      have ek : (mkNew m (n : Int) a b t (j - s)).2.2.1 = (n : Int) := rfl
      have em : (mkNew m (n : Int) a b t (j - s)).1 = m := rfl
      refine ⟨by rw [e]; exact ⟨hm, ⟨by rw [ek]; omega, by rw [ek]; omega⟩, ⟨by rw [ep]; omega, by rw [ep, ek]; omega⟩, ha, hb, ht⟩, by rw [e, ep]; omega, by rw [e, ep, ek, hlen]; omega, ?_, ?_, ?_, ?_⟩
      · rw [e, ep]
        have h0 : j - ((j - s : Nat) : Int).toNat = s := by rw [Int.toNat_natCast]; omega
        rw [h0, get, if_neg (by omega), if_pos (by omega)]
        exact ⟨rfl, by show ((s - s : Nat) : Int) = 0; omega, rfl, rfl⟩
      · rw [e]
        intro h0
        rw [get]
        by_cases h1 : j = s
        · rw [if_pos (by omega)]; exact .inl (lo (j - 1) (by omega))
        · rw [if_neg (by omega), if_pos (by omega)]
          exact .inr ⟨rfl, by rw [ep]; omega⟩
      · rw [e, ep, ek, em]
        intro h1
        rw [get, if_neg (by omega), if_pos (by omega)]
        rfl
      · rw [e, ep, ek, em]
        intro h1 h2
        rw [hlen] at h2
        rw [get, if_neg (by omega), if_neg (by omega)]
        exact hi _ (by omega) (by omega)
    · have c := hc (j - n) (by omega)
      have e : P (placed ps s (news m (n : Int) a b t n)) j = P ps (j - n) := by rw [get, if_neg z1, if_neg z2]
      have al := c.al; have clo := c.lo; have chi := c.hi; have cq := c.q; have cbf := c.bf; have cnx := c.nx; have cen := c.en
      have hhi := hi (j - n) (by omega) (by omega)
      have p0 := al.p
      have hst : s ≤ j - n - (P ps (j - n)).2.1.toNat := by
        by_cases h : s ≤ j - n - (P ps (j - n)).2.1.toNat
        · exact h
        · exfalso
          have := lo (j - n - (P ps (j - n)).2.1.toNat) (by omega)
          omega
      refine ⟨by rw [e]; exact al, by rw [e]; omega, by rw [e, hlen]; omega, ?_, ?_, ?_, ?_⟩
      · rw [e, get, if_neg (by omega), if_neg (by omega)]
        rw [show j - (P ps (j - n)).2.1.toNat - n = j - n - (P ps (j - n)).2.1.toNat by omega]
        exact cq
      · rw [e]
        intro h0
        rw [get, if_neg (by omega)]
        by_cases h1 : j - 1 < s + n
        · rw [if_pos h1]; exact .inl hhi
        · rw [if_neg h1, show j - 1 - n = j - n - 1 by omega]
          exact cbf (by omega)
      · rw [e]
        intro h1
        rw [get, if_neg (by omega), if_neg (by omega), show j + 1 - n = j - n + 1 by omega]
        exact cnx h1
      · rw [e]
        intro h1 h2
        rw [hlen] at h2
        rw [get, if_neg (by omega), if_neg (by omega), show j + 1 - n = j - n + 1 by omega]
        exact cen h1 (by omega)
end Go.Proofs.Ytlalabdgkkfjpaa.Sh
