/-
  A number put into a rising list: the list itself, or a new one.
-/
import Derived.Test.YtkemmodgpafkmaaGreatDoorXLift
import Derived.Test.YtkemmodgpafkmaaGreatDoorSITI
import Derived.Test.YtkemmodgpafkmaaGreatDoorChecked
import Derived.KernelRfl
namespace Go.Proofs.YtkemmodgpafkmaaGreatDoor.Sh
open Go Go.Ab Go.Proofs
set_option maxRecDepth 100000
theorem mixedP : Tryz.prog.follows .mixedOrders = true := by kernel_rfl
noncomputable def putAt (p_l : List Int) (p_n : Int) : Option Int := loopE (fun (st2 : Int) => (
      (bif (decide (st2 < (p_l.length : Int))) then
          (idx p_l st2).bind fun e3 =>
          some (decide (e3 < p_n))
        else
          some false).bind fun c4 =>
      bif c4 then
        some (.inl (w64 (st2 + 1)))
      else
        some (.inr st2) : Option ((Int) ⊕ (Int)))) 0
noncomputable def putSame (p_l : List Int) (p_n : Int) : Option Bool :=
  (putAt p_l p_n).bind fun o5 =>
  (bif (decide (o5 < (p_l.length : Int))) then
      (idx p_l o5).bind fun e6 =>
      some (decide (e6 = p_n))
    else
      some false).bind fun c7 => some c7
noncomputable def putNew (p_l : List Int) (p_n : Int) : Option (List Int) :=
  (putAt p_l p_n).bind fun o5 =>
  (bif (decide (o5 < (p_l.length : Int))) then
      (idx p_l o5).bind fun e6 =>
      some (decide (e6 = p_n))
    else
      some false).bind fun c7 =>
  bif c7 then
    none
  else
    (sub p_l 0 o5).bind fun l8 =>
    bif decide (List.length l8 ≤ lim) then
      bif decide (List.length l8 + List.length [p_n] ≤ lim) then
        (sub p_l o5 (p_l.length : Int)).bind fun l9 =>
        bif decide (List.length (l8 ++ [p_n]) + List.length l9 ≤ lim) then
          some ((l8 ++ [p_n]) ++ l9)
        else
          none
      else
        none
    else
      none
noncomputable def PutS : SelFn := ⟨{ ps := [.val (.slice (.int .i64)), .val (.int .i64)], rs := [.own (.slice (.int .i64))], fn := fun x => putNew x.1 x.2 }, fun x => putSame x.1 x.2⟩
noncomputable def EPut : Env := { T := [(3, (.int .i64)), (26, (.slice (.int .i64)))], G := [], ro := [], loops := [(2, { keep := [0, 1, 26, 27, 28, 29, 30, 31], live := [.tv 5 (.int .i64)], outs := [(.exit 0, [.tv 5 (.int .i64)])] })], joins := [] }
theorem put_eq : ∀ x, afun EPut Tryz.f51 PutS.C.ps PutS.C.rs x = PutS.C.fn x := fun x => by kernel_rfl
theorem put_good : Go.Ab.Good Tryz.prog EPut := ⟨good_T (by kernel_rfl), good_nil, mixedP, ins_nil⟩
theorem put_sound : Sound Tryz.prog 51 PutS.C := fun_sound (E := EPut) put_good Tryz.func51 rfl put_eq
noncomputable def cutSeq : Code → Code × Code
  | .seq a b => (a, b)
  | c => (c, .skip)
noncomputable def bodyOf (fn : Func) : Code := fn.body.getD .skip
noncomputable def c0 : Code := (cutSeq (bodyOf Tryz.f51)).1
noncomputable def r0 : Code := (cutSeq (bodyOf Tryz.f51)).2
noncomputable def c1 : Code := (cutSeq r0).1
noncomputable def r1 : Code := (cutSeq r0).2
noncomputable def c2 : Code := (cutSeq r1).1
noncomputable def r2 : Code := (cutSeq r1).2
noncomputable def c3 : Code := (cutSeq (cutSeq r2).1).1
noncomputable def r3 : Code := (cutSeq r2).2
noncomputable def o33 : Oper := { dst := some 33, op := .move (.tmp 0), type := 26, pos := "l1_signal.go:148", after := #[], guard := none }
noncomputable def o4 : Oper := { dst := some 4, op := .assign (.tmp 33), type := 26, pos := "l1_signal.go:148", after := #[⟨0, .data⟩, ⟨0, .phase⟩], guard := none }
theorem put_body : Tryz.f51.body = some (.seq c0 (.seq c1 (.seq c2 (.seq (.seq c3 (.cond (.tmp 32) (.seq (.region 5 #[o33, o4] false) .ret) .skip)) r3)))) := by kernel_rfl
noncomputable def k3 : AExit → AS → Option Bool := fun e s => match e with
  | .normal => AVal.bool? (s.ev (.tmp 32))
  | _ => none
noncomputable def k2 : AExit → AS → Option Bool := fun e s => match e with
  | .normal => aexec EPut c3 s k3
  | _ => none
noncomputable def k1 : AExit → AS → Option Bool := fun e s => match e with
  | .normal => aexec EPut c2 s k2
  | _ => none
noncomputable def k0 : AExit → AS → Option Bool := fun e s => match e with
  | .normal => aexec EPut c1 s k1
  | _ => none
theorem put_pre (x : dens (PK.tys PutS.C.ps)) : aexec EPut c0 { ρ := (initVals PutS.C.ps x 0).1 ++ List.replicate (Tryz.f51.ntmps - (initVals PutS.C.ps x 0).1.length) (.one .und), h := [], t := 0 } k0 = putSame x.1 x.2 := by kernel_rfl
theorem put_keep : (!(Go.Ab.dstsOf c0).any (Nat.beq 0) && (!(Go.Ab.dstsOf c1).any (Nat.beq 0) && (!(Go.Ab.dstsOf c2).any (Nat.beq 0) && !(Go.Ab.dstsOf c3).any (Nat.beq 0)))) = true := by kernel_rfl
theorem not_in {l : List Nat} (h : l.any (Nat.beq 0) = false) : 0 ∉ l := fun hm => by
  have := List.any_eq_false.1 h 0 hm
  simp at this
theorem put_same (w : World) (v : Value) (us : List Value) (x : dens (PK.tys PutS.C.ps)) (S : Blk) (hT : TabOk w w.heap.size (fun _ => False)) (hS : ∀ q, S q → q < w.heap.size) (hargs : ArgsRel S w PutS.C.ps (v :: us) x (fun _ => False)) (hr : PutS.same x = some true) :
    Calls Tryz.prog 51 (v :: us).toArray w fun e w' => e = .returned v ∧ Grow w w' := by
  have hr : putSame x.1 x.2 = some true := hr
  rw [← put_pre] at hr
  obtain ⟨i1, i2, i3, i4⟩ := init_val (ps := PutS.C.ps) (x := x) 0 rfl hargs
  generalize hin : initVals PutS.C.ps x 0 = iv at *
  obtain ⟨vs, h⟩ := iv
  simp only at i1 i2 i4 hr
  subst i1
  obtain ⟨us2, hus⟩ : ∃ l, l = v :: us := ⟨_, rfl⟩
  rw [← hus] at i2 i4 ⊢
  let a0 : Act := { tmps := us2.toArray ++ Array.replicate (Tryz.f51.ntmps - us2.toArray.size) undef, defers := [] }
  have R0 : Rel w w.heap.size (fun _ => False) S (fun _ => none) { ρ := vs ++ List.replicate (Tryz.f51.ntmps - vs.length) (.one .und), h := [], t := 0 } a0 w := by
    refine ⟨{ obj := fun id o (e : none = some o) => (nomatch e), dis := fun i j c d _ hi => absurd rfl hi, apart := fun i c hi => absurd rfl hi, lt := hS }, ⟨rfl, rfl, rfl, Nat.le_refl _, fun _ _ _ => rfl, fun _ _ => rfl, fun p hp => ⟨(hT p hp).1, fun h => h, (hT p hp).2.2⟩⟩, fun i => ?_, by simp [a0, i2], rfl⟩
    by_cases hi : i < vs.length
    · have h1 : (vs ++ List.replicate (Tryz.f51.ntmps - vs.length) (AVal.one .und)).getD i (.one .und) = vs[i] := by
        rw [List.getD_eq_getElem?_getD, List.getElem?_append_left hi]; simp [hi]
      have h2 : a0.tmps.getD i undef = us2[i]'(by omega) := by
        show (us2.toArray ++ Array.replicate _ undef).getD i undef = _
        rw [Array.getD_eq_getD_getElem?, Array.getElem?_append_left (by simp; omega)]
        simp [show i < us2.length by omega]
      show VRel _ _ _ _ ((vs ++ List.replicate (Tryz.f51.ntmps - vs.length) (AVal.one .und)).getD i (.one .und)) _
      rw [h1, h2]
      exact i4 i _ _ (by simp [hi]) (by simp [show i < us2.length by omega])
    · have h1 : (vs ++ List.replicate (Tryz.f51.ntmps - vs.length) (AVal.one .und)).getD i (.one .und) = .one .und := by
        rw [List.getD_eq_getElem?_getD, List.getElem?_append_right (by omega), List.getElem?_replicate]
        split <;> rfl
      show VRel _ _ _ _ ((vs ++ List.replicate (Tryz.f51.ntmps - vs.length) (AVal.one .und)).getD i (.one .und)) _
      rw [h1]; exact trivial
  have hk := put_keep
  simp only [Bool.and_eq_true, Bool.not_eq_true'] at hk
  obtain ⟨n0, n1, n2, n3⟩ := hk
  have t0 : a0.tmps.getD 0 undef = v := by
    show (us2.toArray ++ Array.replicate _ undef).getD 0 undef = v
    rw [Array.getD_eq_getD_getElem?, Array.getElem?_append_left (by rw [hus]; simp), hus]
    simp
  have hlen : a0.tmps.size = 48 := by
    show (us2.toArray ++ Array.replicate (Tryz.f51.ntmps - us2.toArray.size) undef).size = 48
    have h48 : Tryz.f51.ntmps = 48 := by kernel_rfl
    have h2 : us2.length = 2 := by
      rw [← i2]
      have : vs = (initVals PutS.C.ps x 0).1 := by rw [hin]
      rw [this]; rfl
    simp only [Array.size_append, List.size_toArray, Array.size_replicate, h48, h2]
  refine calls_of_wp Tryz.func51 put_body (wp_seq (aexec_sound put_good (Nat.le_refl _) c0 R0 hr fun e s1 a1 w1 S1 m1 h1 G1 => ?_))
  cases e with
  | exit i => cases h1
  | ret => cases h1
  | normal =>
  refine wp_seq (aexec_sound put_good (Nat.le_refl _) c1 G1.rel (k := k1) h1 fun e s2 a2 w2 S2 m2 h2 G2 => ?_)
  cases e with
  | exit i => cases h2
  | ret => cases h2
  | normal =>
  refine wp_seq (aexec_sound put_good (Nat.le_refl _) c2 G2.rel (k := k2) h2 fun e s3 a3 w3 S3 m3 h3 G3 => ?_)
  cases e with
  | exit i => cases h3
  | ret => cases h3
  | normal =>
  refine wp_seq (wp_seq (aexec_sound put_good (Nat.le_refl _) c3 G3.rel (k := k3) h3 fun e s4 a4 w4 S4 m4 h4 G4 => ?_))
  cases e with
  | exit i => cases h4
  | ret => cases h4
  | normal =>
  have hb := ev_bool? G4.rel h4
  have t4 : a4.tmps.getD 0 undef = v := by rw [G4.keep 0 (not_in n3), G3.keep 0 (not_in n2), G2.keep 0 (not_in n1), G1.keep 0 (not_in n0), t0]
  have l4 : a4.tmps.size = 48 := by rw [G4.len, G3.len, G2.len, G1.len, hlen]
  have fr := G4.rel.frm
  refine wp_cond_true hb (wp_seq (wp_region_list ?_))
  refine wpList_plain rfl fun K hK => wp_value (v' := v) (w' := w4) ?_ (hK _ _ ?_)
  · simp [o33, execOp, Act.eval, t4]
  refine wpList_plain rfl fun K hK => wp_value (v' := v) (w' := w4) ?_ (hK _ _ (wpList_nil ?_))
  · simp [o33, o4, execOp, Act.eval, Act.put, l4]
  refine wp_ret ⟨G4.rel.defers, v, ?_, rfl, ⟨fr.os, fr.tape, fr.output, fr.size, fun q hq => fr.block q hq fun h => h, fr.fz⟩⟩
  simp [results, o33, o4, Act.put, l4]
theorem sel_PutS : SelOk Tryz.prog 51 PutS := ⟨put_sound, put_same⟩
end Go.Proofs.YtkemmodgpafkmaaGreatDoor.Sh
namespace Go.Proofs.YtkemmodgpafkmaaGreatDoor.Sh
open Go Go.Ab Go.Proofs
abbrev TTick : Ty := .pair (.int .i64) (.pair (.int .i64) (.pair (.slice (.int .i64)) (.pair (.int .i64) .unit)))
theorem insOk212 : InsOk Tryz.prog 212 T3 := YtkemmodgpafkmaaGreatDoor.IL.insOk
theorem insOk197 : InsOk Tryz.prog 197 TPhr := YtkemmodgpafkmaaGreatDoor.IP.insOk
theorem insOk270 : InsOk Tryz.prog 270 TTick := YtkemmodgpafkmaaGreatDoor.IT.insOk
end Go.Proofs.YtkemmodgpafkmaaGreatDoor.Sh
