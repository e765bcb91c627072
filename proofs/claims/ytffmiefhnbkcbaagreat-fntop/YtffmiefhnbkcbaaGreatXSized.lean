/-
  Laws of two texts of bytes: the last step, where the statement's own reach bounds the lengths.
-/
import Derived.Test.YtffmiefhnbkcbaaGreatXLift
import Derived.SizedLaws
namespace Go.Ab
open Go Go.RowKit Go.ChangeShapes Go.WideShapes
section
variable {H : Type} {enc : TypeId × Value → H} {P : Program}
theorem byte_len [Tabs] {W : World} {base : Nat} {spare : Nat → Bool} {held : Bool} {fuel : Nat} {t e : TypeId} {v : Value} {d : DataW H} {p : List MemPlace} {x : List Int} {S : Blk} (hu : P.underlying t = some (.slice e))
    (h1 : DataW.trod enc P W base spare held fuel t v.cells.toList = some (d, p)) (hx : VTy S W (.slice (.int .u8)) v x) : x = [] ∨ ∃ elems rest, d = .slice elems rest ∧ x.length = elems.length := by
  obtain ⟨ds, rfl, hr⟩ := hx
  obtain ⟨_, h | ⟨a, cap, h, _⟩⟩ := hr
  · exact .inl h.2
  · subst h
    rcases DataW.trod_slice hu h1 with ⟨h, _⟩ | ⟨a', len, cap', elems, rest, n, _, h2, h3, _, _, _, h4, _⟩
    · cases h
    · right
      cases h3
      refine ⟨_, _, rfl, ?_⟩
      have h5 : (Value.slice (some a) x.length cap).cells.toList = [.slice (some a) x.length cap] := rfl
      have h6 : [Value.slice (some a) x.length cap] = [Value.slice (some a') len cap'] := h5.symm.trans h2
      simp only [List.cons.injEq, Value.slice.injEq, and_true] at h6
      rw [List.length_map, h4]
      exact h6.2.1
theorem law_calls2 [Tabs] {f : FuncId} {fn : Func} {g : dens (PK.tys [.val (.slice (.int .u8)), .val (.slice (.int .u8))]) → Option (dens (PK.mtys [.val (.slice (.int .u8)), .val (.slice (.int .u8))] (RK.tys [.val .bool])))} (hC : Sound P f ⟨[.val (.slice (.int .u8)), .val (.slice (.int .u8))], [.val .bool], g⟩) {s : ChangeSpec} {bk : DataW H → Nat} (hb : Bulky bk) (n : Nat)
    (hd : deepAll P n fn.params.toList [.val (.slice (.int .u8)), .val (.slice (.int .u8))] = true) {tb t1 t2 e1 e2 : TypeId} (hps : fn.params.toList = [t1, t2]) (hu1 : P.underlying t1 = some (.slice e1)) (hu2 : P.underlying t2 = some (.slice e2)) (hb1 : P.bytesOf e1 = 1) (hb2 : P.bytesOf e2 = 1)
    (hres : fn.resultTypes = #[tb]) (htb : P.underlying tb = some .bool) (hvars : s.vars = []) (hs : ∀ ds : List (DataW H), fn.params.toList.length = ds.length → s.fn H ds = ⟨[.lit (.bool true)], ds, []⟩)
    (plain : ∀ x, goods [.val (.slice (.int .u8)), .val (.slice (.int .u8))] x → List.length (α := Int) x.1 ≤ 140737488355328 → List.length (α := Int) x.2 ≤ 140737488355328 → ∃ r, g x = some r ∧ midV [.val (.slice (.int .u8)), .val (.slice (.int .u8))] r = some true) {apart fresh handsOn again : Bool} {W : World} {base : Nat} {args : Array Value} {ds gs : List (DataW H)} {before : List MemPlace}
    (hval : ∀ (j : Nat) t v, fn.params[j]? = some t → args[j]? = some v → Value.okWide P W .any base t v) (hW : DataW.Whole enc P fn.params.toList s.vars apart W args.toList ds gs before) {vt : List TypeId} (hwt : (DataW.weightsEach P (fn.params.toList ++ vt) (ds ++ gs)).all (· ≤ reachBytes) = true) (hT : TabOk W W.heap.size (fun _ => False)) :
    Calls P f args W fun e W' => ∃ v, e = .returned v ∧ s.post enc P fn apart fresh handsOn again W args v W' := by
  have hW' := hW
  obtain ⟨p, q, hA0, hV, rfl, hfz, hnd⟩ := hW
  have hA : DataW.TrodAll enc P W 0 (fun _ => true) true fn.params.toList args.toList ds p := hA0
  rw [hvars] at hV
  obtain ⟨rfl, rfl⟩ := trodVars_none hV
  obtain ⟨x, hx, hbx⟩ := open_args hb hd hA fun j t v ht hv => hval j t v (by simpa using ht) (by simpa using hv)
  have hlen : List.length (α := Int) x.1 ≤ 140737488355328 ∧ List.length (α := Int) x.2 ≤ 140737488355328 := by
    have hA2 := hA
    rw [hps] at hA2
    obtain ⟨v1, r1, ea, hx1, v2, r2, eb, hx2, ec, _⟩ := hx
    subst ec
    subst eb
    rw [ea] at hA2
    match ds, hA2, hwt with
    | [d1, d2], h, hwt =>
      obtain ⟨p1, q1, ⟨fu1, h1⟩, ⟨p2, q2, ⟨fu2, h2⟩, _⟩, _⟩ := h
      have hr : reachBytes = 140737488351232 := rfl
      rw [List.append_nil, hps] at hwt
      constructor
      · rcases byte_len hu1 h1 hx1 with h | ⟨elems, rest, hdd, hl⟩
        · have h' : x.1 = [] := h
          rw [h']; simp
        · have := sized_slice hwt (j := 0) (t := t1) rfl (by rw [hdd]; rfl) hu1
          rw [hb1, Nat.mul_one] at this
          have hl' : List.length (α := Int) x.1 = elems.length := hl
          omega
      · rcases byte_len hu2 h2 hx2 with h | ⟨elems, rest, hdd, hl⟩
        · have h' : x.2 = [] := h
          rw [h']; simp
        · have := sized_slice hwt (j := 1) (t := t2) rfl (by rw [hdd]; rfl) hu2
          rw [hb2, Nat.mul_one] at this
          have hl' : List.length (α := Int) x.2 = elems.length := hl
          omega
  obtain ⟨r, hr, hm⟩ := plain x (hx.goods rfl) hlen.1 hlen.2
  have call := hC W args.toList x r (Old W) (fun _ => False) hT (fun _ h => h) hx (fun _ h => h.elim) hr
  have e : args.toList.toArray = args := by simp
  rw [e] at call
  refine Calls.mono call fun e W' k => ?_
  obtain ⟨vs, S', FM, FR, rfl, past, _, _, out, _, _⟩ := k
  have res := out_val rfl hm out
  obtain ⟨v, r', rfl, ⟨ds', e', k'⟩, rfl, _⟩ := res
  have k'' : ds' = [.bool true] := k'
  subst k''
  subst e'
  refine ⟨.bool true, rfl, ?_⟩
  have hs := hs ds (trodAll_length hA).symm
  have hlt := DataW.TrodAll.lt hA
  have hsame : ∀ p' ∈ p, W.sameAt W' p' := fun p' hp' => same_of_block (past.block p'.block (hlt p' hp') fun h => h)
  refine post_of_same_old (pa := p) (pv := []) hW' (fun b sp hd' => ?_) (fun sp hsp => ?_) (fun sp _ => ?_) rfl (keptBut_past past _) past.fz ?_
  · rw [List.append_nil, hs, hres]
    exact trodAll_mk1 (shut_bool htb true)
  · rw [List.append_nil, hs]
    simp only [List.append_nil] at hsp
    exact trodAll_stays (deepAll_deep hd) hA hsame hsp
  · rw [List.append_nil, hs, hvars]; exact rfl
  · exact ok_one hres rfl (okWide_bool_mk htb true)
end
end Go.Ab
