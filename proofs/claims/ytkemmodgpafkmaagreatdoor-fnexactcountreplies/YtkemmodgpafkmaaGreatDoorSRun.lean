/-
  RunLines: the replies of a script, a line each, by a strings.Builder.
-/
import Derived.Test.YtkemmodgpafkmaaGreatDoorSFns
namespace Go.Proofs.YtkemmodgpafkmaaGreatDoor.Sh
open Go Go.Ab Go.Proofs Go.Shelf Go.RowKit Go.Lib
theorem bld_start (W : World) (o : Obj) : Lib.IsBuilderF 76 5 (W.heap.size + 1) (W.heap.size + 1) (Lib.byteCells []) ((W.alloc o).alloc (.cells #[.pointer none, .slice none 0 0] 76)) := by
  refine .inl ⟨Nat.le_refl _, .slice none 0 0, ?_, ⟨rfl, .inl ⟨rfl, rfl⟩⟩, by simp [Value.ownBlock]⟩
  show ((W.heap.push _).push _)[W.heap.size + 1]? = _
  rw [show W.heap.size + 1 = (W.heap.push o).size by simp]
  exact Array.getElem?_push_size
set_option maxHeartbeats 4000000 in
set_option maxRecDepth 100000 in
theorem run_bad (x : ByteArray) (w : World) (K : World → Prop) (hR : Calls Tryz.prog 47 #[.string x] w fun e w' => (∃ (p0 p1 p2 p3 p6 p7 p8 p9 : Option Addr) (n0 n1 n2 n3 n6 n7 n8 n9 k0 k1 k2 k3 k6 k7 k8 k9 : Nat) (z4 z5 : Int), e = .returned (.tuple #[.agg #[.slice p0 n0 k0, .slice p1 n1 k1, .slice p2 n2 k2, .slice p3 n3 k3, .int .i64 z4, .int .i64 z5, .slice p6 n6 k6, .slice p7 n7 k7, .slice p8 n8 k8, .slice p9 n9 k9], .bool false])) ∧ K w') :
    Calls Tryz.prog 11 #[.string x] w fun e w' => e = .returned (.string ⟨⟨[]⟩⟩) ∧ ∃ W, K W ∧ Below W.heap.size W w' := by
  go_enter Tryz.func11, Tryz.ntmps11
  go_wp2_with (go_at_call 47; refine hR.mono ?_; rintro e w' ⟨⟨p0, p1, p2, p3, p6, p7, p8, p9, n0, n1, n2, n3, n6, n7, n8, n9, k0, k1, k2, k3, k6, k7, k8, k9, z4, z5, rfl⟩, hK⟩)
  go_ret
  exact ⟨rfl, _, hK, below_one _ _⟩
set_option maxHeartbeats 4000000 in
set_option maxRecDepth 100000 in
theorem run_nil (x : ByteArray) (w : World) (K : World → Prop) (hR : Calls Tryz.prog 47 #[.string x] w fun e w' => (∃ (p0 p1 p2 p3 p6 p7 p8 p9 : Option Addr) (n0 n1 n2 n3 n6 n7 n8 k0 k1 k2 k3 k6 k7 k8 k9 : Nat) (z4 z5 : Int), e = .returned (.tuple #[.agg #[.slice p0 n0 k0, .slice p1 n1 k1, .slice p2 n2 k2, .slice p3 n3 k3, .int .i64 z4, .int .i64 z5, .slice p6 n6 k6, .slice p7 n7 k7, .slice p8 n8 k8, .slice p9 0 k9], .bool true])) ∧ K w') :
    Calls Tryz.prog 11 #[.string x] w fun e w' => e = .returned (.string ⟨⟨[]⟩⟩) ∧ ∃ W, K W ∧ Below W.heap.size W w' := by
  go_enter Tryz.func11, Tryz.ntmps11
  go_wp2_with (go_at_call 47; refine hR.mono ?_; rintro e W ⟨⟨p0, p1, p2, p3, p6, p7, p8, p9, n0, n1, n2, n3, n6, n7, n8, k0, k1, k2, k3, k6, k7, k8, k9, z4, z5, rfl⟩, hK⟩)
  refine wp_loop_rounds 1 ?_
  rw [rounds_succ]
  have HC := Lib.hid (Builder_String_any_f (W.heap.size + 1) (W.heap.size + 1) [] _ (bld_start W (.cells #[.slice p0 n0 k0, .slice p1 n1 k1, .slice p2 n2 k2, .slice p3 n3 k3, .int .i64 z4, .int .i64 z5, .slice p6 n6 k6, .slice p7 n7 k7, .slice p8 n8 k8, .slice p9 0 k9] 71)) (by rw [size_alloc, size_alloc]; omega))
  go_wp2_with (go_at_call 49; refine HC.out.mono ?_; rintro e w' ⟨rfl, hb⟩)
  go_ret
  exact ⟨rfl, _, hK, ((below_one W _).trans ((below_one (W.alloc _) _).mono (by rw [size_alloc]; omega))).trans (hb.2.mono (Nat.le_succ _))⟩
set_option maxHeartbeats 4000000 in
set_option maxRecDepth 100000 in
theorem run_all (x : ByteArray) (w : World) (n : Nat) (nm : Nat → Bytes) (hn : n ≤ 999999) (hnm : ∀ i, i < n → (nm i).length ≤ 999999999) (ht : (accT (fun i => nm i ++ [10]) n).length ≤ 140737488355328) (K : World → Prop) (hR : Calls Tryz.prog 47 #[.string x] w fun e W => (∃ (p0 p1 p2 p3 p6 p7 p8 : Option Addr) (n0 n1 n2 n3 n6 n7 n8 k0 k1 k2 k3 k6 k7 k8 k9 : Nat) (z4 z5 : Int) (g : Nat), e = .returned (.tuple #[.agg #[.slice p0 n0 k0, .slice p1 n1 k1, .slice p2 n2 k2, .slice p3 n3 k3, .int .i64 z4, .int .i64 z5, .slice p6 n6 k6, .slice p7 n7 k7, .slice p8 n8 k8, .slice (some ⟨g, 0, none⟩) n k9], .bool true]) ∧ g < W.heap.size ∧ ∀ i, i < n → W.cell? ⟨g, i, none⟩ = some (.string ⟨⟨nm i⟩⟩)) ∧ K W) :
    Calls Tryz.prog 11 #[.string x] w fun e w' => e = .returned (.string ⟨⟨accT (fun i => nm i ++ [10]) n⟩⟩) ∧ ∃ W, K W ∧ Below W.heap.size W w' := by
  go_enter Tryz.func11, Tryz.ntmps11
  go_wp2_with (go_at_call 47; refine hR.mono ?_; rintro e W ⟨⟨p0, p1, p2, p3, p6, p7, p8, n0, n1, n2, n3, n6, n7, n8, k0, k1, k2, k3, k6, k7, k8, k9, z4, z5, g, rfl, hg, hl⟩, hK⟩)
  have H0 := Lib.hid hl
  have HN := Lib.hid hnm
  have HK := Lib.hid hK
  clear hl hnm hK hR
  go_loopg [18] n (fun gg s18 wr => ∃ (i : Nat), s18 = .int .i64 i ∧ i ≤ n ∧ n - i ≤ gg ∧ Hid (Lib.IsBuilderF 76 5 (W.heap.size + 1) (W.heap.size + 1) (Lib.byteCells (accT (fun i => nm i ++ [10]) i)) wr) ∧ Hid (Below (W.heap.size + 1) (W.alloc (.cells #[.slice p0 n0 k0, .slice p1 n1 k1, .slice p2 n2 k2, .slice p3 n3 k3, .int .i64 z4, .int .i64 z5, .slice p6 n6 k6, .slice p7 n7 k7, .slice p8 n8 k8, .slice (some ⟨g, 0, none⟩) n k9] 71)) wr))
  case atStart => exact ⟨0, rfl, Nat.zero_le n, Nat.le_refl _, Lib.hid (bld_start W _), Lib.hid (Below.alloc (Below.refl _ _) (Nat.le_of_eq (size_alloc _ _).symm) _)⟩
  case round =>
    obtain ⟨i, rfl, hin, hgg, hB, hL⟩ := hrel
    have hsz : W.heap.size + 1 ≤ wr.heap.size := by have := hL.out.size; rwa [size_alloc] at this
    have old : ∀ q, q < W.heap.size → wr.heap[q]? = W.heap[q]? := fun q hq => (hL.out.block q (by omega)).trans ((below_one W _).block q hq)
    by_cases hlt : i < n
    · have hltz : (i : Int) < (n : Int) := by omega
      have c0 := (World.cell?_of_block (a := ⟨g, i, none⟩) (old g hg)).trans (H0.out i hlt)
      have hlen : (ByteArray.mk ⟨nm i⟩).size ≤ 999999999 := HN.out i hlt
      have HC := Lib.hid (write_w (W.heap.size + 1) (W.heap.size + 1) (Lib.byteCells (accT (fun i => nm i ++ [10]) i)) ⟨⟨nm i ++ [10]⟩⟩ wr hB.out (by have := accT_le (fun i => nm i ++ [10]) (i + 1) (n - (i + 1)); rw [show i + 1 + (n - (i + 1)) = n by omega] at this; have h2 : (accT (fun i => nm i ++ [10]) (i + 1)).length = (accT (fun i => nm i ++ [10]) i).length + (nm i ++ [10]).length := List.length_append; have h3 : (ByteArray.mk ⟨nm i ++ [10]⟩).size = (nm i ++ [10]).length := rfl; rw [Lib.byteCells_length]; omega) hsz)
      have hap : (ByteArray.mk ⟨nm i⟩ ++ ByteArray.mk #[10]) = ByteArray.mk ⟨nm i ++ [10]⟩ := append_mk (nm i) [10]
      have HX : Hid (nm i ++ [10] = (ByteArray.mk ⟨nm i ++ [10]⟩).data.toList) := Lib.hid rfl
      generalize hy : ByteArray.mk ⟨nm i ++ [10]⟩ = y at HC hap HX
      generalize hz : ByteArray.mk ⟨nm i⟩ = z at c0 hap hlen
      clear hy hz
      go_wp2_with (first | (go_at_call 48; rw [hap]; refine HC.out.mono ?_; rintro e w' ⟨rfl, hb⟩) | (go_at_call 48; refine HC.out.mono ?_; rintro e w' ⟨rfl, hb⟩))
      have HB := Lib.hid hb
      clear hb HC
      go_roundg (n - (i + 1))
      case measure => omega
      case rel => exact ⟨i + 1, by go_num, by omega, Nat.le_refl _, Lib.hid (.inr (by have := HB.out.1; rw [Lib.strCells_eq, ← HX.out, ← Lib.byteCells_append] at this; exact this)), Lib.hid (hL.out.trans HB.out.2)⟩
    · obtain rfl : i = n := by omega
      have hltz : ¬ (i : Int) < (i : Int) := by omega
      have HC := Lib.hid (Builder_String_any_f (W.heap.size + 1) (W.heap.size + 1) (accT (fun i => nm i ++ [10]) i) wr hB.out hsz)
      go_wp2_with (go_at_call 49; refine HC.out.mono ?_; rintro e w' ⟨rfl, hb⟩)
      go_ret
      exact ⟨rfl, _, HK.out, (below_one W _).trans ((hL.out.trans hb.2).mono (Nat.le_succ _))⟩
theorem own_slice {w : World} {t : Ty} {cs : List Value} {x : List t.den} {F : Blk} (h : Own w (.slice t) cs x F) : ∃ p n k, cs = [.slice p n k] := by
  obtain ⟨v, rfl, h⟩ := h
  rcases h with ⟨⟨a, rfl⟩, _⟩ | ⟨g, cap, _, _, _, rfl, _⟩
  · exact ⟨_, _, _, rfl⟩
  · exact ⟨_, _, _, rfl⟩
def linesT (l : List Bytes) : Bytes := l.flatMap fun x => x ++ [10]
noncomputable def runLinesF (s : Bytes) : Option Bytes :=
  (i_runScript s).bind fun r =>
    if r.2 = false then some [] else
    if r.1.2.2.2.2.2.2.1.length ≤ 999999 ∧ (∀ x ∈ r.1.2.2.2.2.2.2.1, x.length ≤ 999999999) ∧ (linesT r.1.2.2.2.2.2.2.1).length ≤ 140737488355328 then some (linesT r.1.2.2.2.2.2.2.1) else none
theorem accT_lines (l : List Bytes) : accT (fun i => (l[i]?.getD []) ++ [10]) l.length = linesT l := by
  rw [accT_range]
  have e : (List.range l.length).map (fun i => l[i]?.getD []) = l := by
    apply List.ext_getElem?
    intro i
    by_cases h : i < l.length <;> simp [h]
  unfold linesT
  conv => rhs; rw [← e]
  rw [List.flatMap_map]
theorem runLinesSound : Sound Tryz.prog 11 ⟨[.val .str], [.val .str], fun x => runLinesF x⟩ := by
  intro w args x r S Ms hT hS hargs hMs hr
  have hargs0 := hargs
  obtain ⟨v1, r1, rfl, ⟨d1, rfl, k1⟩, rfl, hMs0⟩ := hargs
  obtain ⟨rfl, l1⟩ := k1
  change Bytes at x
  have hr : runLinesF x = some r := hr
  unfold runLinesF at hr
  cases hq : i_runScript x with
  | none => rw [hq] at hr; cases hr
  | some q =>
    rw [hq, Option.bind_some] at hr
    have hS47 := S47 w [.string ⟨⟨x⟩⟩] x q S Ms hT hS hargs0 hMs hq
    obtain ⟨st, b⟩ := q
    obtain ⟨⟨q0, q1, _⟩, q2, ⟨q3, _⟩, ⟨q4, q5, q6, _⟩, q7, q8, ls, _⟩ := st
    simp only at hr
    have key : Calls Tryz.prog 47 #[.string ⟨⟨x⟩⟩] w fun e W => ∃ v9 G9, (∃ (p0 p1 p2 p3 p6 p7 p8 : Option Addr) (n0 n1 n2 n3 n6 n7 n8 k0 k1 k2 k3 k6 k7 k8 : Nat) (z4 z5 : Int), e = .returned (.tuple #[.agg #[.slice p0 n0 k0, .slice p1 n1 k1, .slice p2 n2 k2, .slice p3 n3 k3, .int .i64 z4, .int .i64 z5, .slice p6 n6 k6, .slice p7 n7 k7, .slice p8 n8 k8, v9], .bool b])) ∧ Own W (.slice .str) [v9] ls G9 ∧ Old w W := by
      refine hS47.mono fun e W hk => ?_
      obtain ⟨vs, S', FM, FR, rfl, g1, g2, g3, ⟨g4, g5⟩, g6, g7⟩ := hk
      obtain ⟨va, ra, G, H, rfl, ⟨ds, rfl, ho⟩, ⟨vb, rb, rfl, ⟨ds2, rfl, rfl⟩, rfl, _⟩, _⟩ := g5
      obtain ⟨_, _, _, _, rfl, ⟨_, _, _, _, rfl, ha, ⟨_, _, _, _, rfl, hb, ⟨rfl, _⟩, _⟩, _⟩, ⟨_, _, _, _, rfl, hc, ⟨_, _, _, _, rfl, ⟨_, _, _, _, rfl, hd, ⟨rfl, _⟩, _⟩, ⟨_, _, _, _, rfl, ⟨_, _, _, _, rfl, ⟨⟨rfl, _⟩, _⟩, ⟨_, _, _, _, rfl, ⟨⟨rfl, _⟩, _⟩, ⟨_, _, _, _, rfl, he, ⟨rfl, _⟩, _⟩, _⟩, _⟩, ⟨_, _, _, _, rfl, hf, ⟨_, _, _, _, rfl, hg, ⟨_, _, _, G9, rfl, hl, ⟨rfl, _⟩, _⟩, _⟩, _⟩, _⟩, _⟩, _⟩, _⟩ := ho
      obtain ⟨p0, n0, k0, rfl⟩ := own_slice ha
      obtain ⟨p1, n1, k1, rfl⟩ := own_slice hb
      obtain ⟨p2, n2, k2, rfl⟩ := own_slice hc
      obtain ⟨p3, n3, k3, rfl⟩ := own_slice hd
      obtain ⟨p6, n6, k6, rfl⟩ := own_slice he
      obtain ⟨p7, n7, k7, rfl⟩ := own_slice hf
      obtain ⟨p8, n8, k8, rfl⟩ := own_slice hg
      obtain ⟨v9, rfl, hl'⟩ := hl
      exact ⟨v9, _, ⟨p0, p1, p2, p3, p6, p7, p8, n0, n1, n2, n3, n6, n7, n8, k0, k1, k2, k3, k6, k7, k8, _, _, rfl⟩, ⟨v9, rfl, hl'⟩, ⟨g1.os, g1.tape, g1.output, g1.size, fun q hq _ => g1.block q hq (hMs0 q), g1.fz⟩⟩
    have fin : ∀ y : Bytes, y = r → y.length ≤ 140737488355328 → (Calls Tryz.prog 11 #[.string ⟨⟨x⟩⟩] w fun e w' => e = .returned (.string ⟨⟨y⟩⟩) ∧ ∃ W, Old w W ∧ Below W.heap.size W w') → Calls Tryz.prog 11 #[.string ⟨⟨x⟩⟩] w fun e w' => ∃ (vs : List Value) (S' FM FR : Blk), e = .returned (retV vs) ∧ Past w w' Ms ∧
        (∀ q, S q → S' q) ∧ (∀ q, S' q → S q ∨ (w.heap.size ≤ q ∧ q < w'.heap.size)) ∧
        ((∀ q, ¬ FM q) ∧ ResRel S' w' [.val .str] vs r FR) ∧ (∀ q, FM q → (Ms q ∨ w.heap.size ≤ q) ∧ q < w'.heap.size ∧ ¬ S' q) ∧ (∀ q, FR q → w.heap.size ≤ q ∧ q < w'.heap.size ∧ ¬ S' q ∧ ¬ FM q) := fun y hy hlen hc => by
      subst hy
      refine Calls.mono hc ?_
      rintro e w' ⟨rfl, W, hp, hb⟩
      have ho := Old.trans hp (Past.of_below hb _)
      exact str_post hS ⟨ho.os, ho.tape, ho.output, ho.size, fun q hq _ => ho.block q hq fun h => h, ho.fz⟩ (y := y) (Nat.le_trans hlen (by decide))
    cases b with
    | false =>
      rw [if_pos rfl] at hr
      injection hr with hr
      refine fin [] hr (Nat.zero_le _) (run_bad _ _ (Old w) (key.mono fun e W hk => ?_))
      obtain ⟨v9, G9, ⟨p0, p1, p2, p3, p6, p7, p8, n0, n1, n2, n3, n6, n7, n8, k0, k1, k2, k3, k6, k7, k8, z4, z5, rfl⟩, hl, hp⟩ := hk
      obtain ⟨p9, n9, k9, h9⟩ := own_slice hl
      cases h9
      exact ⟨⟨_, _, _, _, _, _, _, _, _, _, _, _, _, _, _, _, _, _, _, _, _, _, _, _, _, _, rfl⟩, hp⟩
    | true =>
      rw [if_neg (by decide)] at hr
      split at hr
      rotate_left
      · cases hr
      rename_i hc
      obtain ⟨c1, c2, c3⟩ := hc
      injection hr with hr
      by_cases hls : ls = []
      · subst hls
        refine fin [] hr (Nat.zero_le _) (run_nil _ _ (Old w) (key.mono fun e W hk => ?_))
        obtain ⟨v9, G9, ⟨p0, p1, p2, p3, p6, p7, p8, n0, n1, n2, n3, n6, n7, n8, k0, k1, k2, k3, k6, k7, k8, z4, z5, rfl⟩, ⟨v, hv, hl⟩, hp⟩ := hk
        cases hv
        rcases hl with ⟨⟨a, rfl⟩, _⟩ | ⟨g, cap, _, _, _, rfl, _⟩
        · exact ⟨⟨_, _, _, _, _, _, _, _, _, _, _, _, _, _, _, _, _, _, _, _, _, _, _, _, _, rfl⟩, hp⟩
        · exact ⟨⟨_, _, _, _, _, _, _, _, _, _, _, _, _, _, _, _, _, _, _, _, _, _, _, _, _, rfl⟩, hp⟩
      · have hget : ∀ i, i < ls.length → ∃ y, ls[i]? = some y ∧ ls[i]?.getD [] = y := fun i hi => ⟨ls[i], List.getElem?_eq_getElem hi, by rw [List.getElem?_eq_getElem hi]; rfl⟩
        have := run_all ⟨⟨x⟩⟩ w ls.length (fun i => ls[i]?.getD []) c1 (fun i hi => by
          obtain ⟨y, h1, h2⟩ := hget i hi
          show (ls[i]?.getD []).length ≤ _
          rw [h2]
          exact c2 y (List.mem_of_getElem? h1)) (by rw [accT_lines]; exact c3) (Old w) (key.mono fun e W hk => by
            obtain ⟨v9, G9, ⟨p0, p1, p2, p3, p6, p7, p8, n0, n1, n2, n3, n6, n7, n8, k0, k1, k2, k3, k6, k7, k8, z4, z5, rfl⟩, ⟨v, hv, hl⟩, hp⟩ := hk
            cases hv
            rcases hl with ⟨_, h, _⟩ | ⟨g, cap, cur, te, Fs, rfl, h2, h3, h4, h5, h6, _⟩
            · exact absurd h hls
            · refine ⟨⟨_, _, _, _, _, _, _, _, _, _, _, _, _, _, _, _, _, _, _, _, _, _, _, _, g, rfl, Ab.lt_of_heap h2, fun i hi => ?_⟩, hp⟩
              obtain ⟨y, g1, g2⟩ := hget i hi
              have hy := h6 i y g1
              obtain ⟨⟨hy, _⟩, _⟩ := hy
              rw [g2]
              unfold World.cell?
              rw [h2]
              simp only [Ty.size, Nat.mul_one] at hy
              have : cur[i]? = some (.string ⟨⟨y⟩⟩) := by
                have e := congrArg (fun l => l[0]?) hy
                simpa using e
              simpa using this)
        rw [accT_lines] at this
        exact fin _ hr c3 this
end Go.Proofs.YtkemmodgpafkmaaGreatDoor.Sh
