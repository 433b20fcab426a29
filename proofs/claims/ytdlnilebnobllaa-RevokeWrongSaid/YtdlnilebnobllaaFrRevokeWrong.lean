/- 'RevokeWrong' returns true for every input and leaves its arguments as they were: the row and its card. No condition besides the row's own. -/
import Derived.Test.YtdlnilebnobllaaRvWg
import Derived.Test.YtdlnilebnobllaaFrS
namespace Go.Proofs.Ytdlnilebnobllaa.revokeWrongFr
open Go.ChangeShapes Go.WideShapes Go.ChangeAt Go.RowKit
set_option linter.unusedVariables false

set_option maxRecDepth 100000 in
theorem contract (H : Type) (enc : TypeId × Value → H) (W : World) (base : Nat) (args : Array Value) (ds gs : List (DataW H)) (before : List MemPlace)
    (hval : ∀ (j : Nat) t v, Try.f10.params[j]? = some t → args[j]? = some v → Value.okWide Try.prog W .any base t v)
    (hW : DataW.Whole enc Try.prog Try.f10.params.toList Rows.revokeWrongSpec.vars false W args.toList ds gs before)
    (hsz0 : (DataW.weightsEach Try.prog (Try.f10.params.toList ++ (OpenSpec.ofChange Rows.revokeWrongSpec).bare.plain.varTypes Try.prog) (ds ++ gs)).all (· ≤ reachBytes) = true)
    (hL : laidMetH Try.prog Rows.revokeWrongRow.laid W) :
    Calls Try.prog 10 args W fun e W' => ∃ v, e = .returned v ∧ Rows.revokeWrongSpec.post enc Try.prog Try.f10 false true false false W args v W' := by
  have hW' := hW
  obtain ⟨p, q, hA0, hV, rfl, hfz, hnd⟩ := hW
  have hA : DataW.TrodAll enc Try.prog W 0 (fun _ => true) true Try.f10.params.toList args.toList ds p := hA0
  have hsz : (DataW.weightsEach Try.prog (Try.f10.params.toList ++ []) (ds ++ gs)).all (· ≤ reachBytes) = true := hsz0
  rw [Try.params10] at hA hval hsz
  obtain ⟨v0, vs0, d0, ds0, p0, q0, hargs, rfl, rfl, h0, r0⟩ := trodAll_cons hA
  obtain ⟨v1, vs1, d1, ds1, p1, q1, rfl, rfl, rfl, h1, r1⟩ := trodAll_cons r0
  obtain ⟨v2, vs2, d2, ds2, p2, q2, rfl, rfl, rfl, h2, r2⟩ := trodAll_cons r1
  obtain ⟨rfl, rfl, rfl⟩ := trodAll_nil r2
  obtain rfl : args = #[v0, v1, v2] := by cases args; simp_all
  obtain ⟨rfl, rfl⟩ := trodVars_none hV
  have k0 := h0
  have lt0 : ∀ x ∈ p0, x.block < W.heap.size := by obtain ⟨m, hm⟩ := k0; exact DataW.trod_lt m _ _ _ hm
  obtain ⟨cs, ys, n, rfl, hcs, hd, hpp, hyl, hf⟩ := open_fields Try.underlying36 (by kernel_rfl) (by kernel_rfl) (hval 0 36 v0 rfl rfl) h0
  obtain ⟨c0, z0, hc0, hy0, t0⟩ := hf 0 _ rfl
  obtain ⟨c1, z1, hc1, hy1, t1⟩ := hf 1 _ rfl
  obtain ⟨c2, z2, hc2, hy2, t2⟩ := hf 2 _ rfl
  obtain ⟨c3, z3, hc3, hy3, t3⟩ := hf 3 _ rfl
  obtain ⟨c4, z4, hc4, hy4, t4⟩ := hf 4 _ rfl
  obtain ⟨c5, z5, hc5, hy5, t5⟩ := hf 5 _ rfl
  obtain ⟨s0, e0, -, ww0⟩ := DataW.trod_int Try.underlying5 t0
  obtain rfl := (List.cons.inj e0).1
  obtain ⟨n0, rfl, bb0⟩ := nat_u8 ww0
  obtain ⟨s1, e1, -, ww1⟩ := DataW.trod_int Try.underlying5 t1
  obtain rfl := (List.cons.inj e1).1
  obtain ⟨n1, rfl, bb1⟩ := nat_u8 ww1
  obtain ⟨s2, e2, -, ww2⟩ := DataW.trod_int Try.underlying5 t2
  obtain rfl := (List.cons.inj e2).1
  obtain ⟨n2, rfl, bb2⟩ := nat_u8 ww2
  obtain ⟨s3, e3, -, ww3⟩ := DataW.trod_int Try.underlying5 t3
  obtain rfl := (List.cons.inj e3).1
  obtain ⟨n3, rfl, bb3⟩ := nat_u8 ww3
  obtain ⟨a4, l4, p4', g4, rfl, hz4⟩ := slice_open t4 (fun elems spare h => by
    have hsp := sized_parts hsz (j := 0) rfl (by rw [hd]; rfl) Try.underlying36
    have := sized_slice hsp (j := 4) (t := 25) (e := 5) rfl (by rw [List.getElem?_map, hy4]; exact congrArg some h) Try.underlying25
    rw [bytes_u8] at this; simpa [reachBytes] using this)
  obtain ⟨a5, l5, p5', g5, rfl, hz5⟩ := slice_open t5 (fun elems spare h => by
    have hsp := sized_parts hsz (j := 0) rfl (by rw [hd]; rfl) Try.underlying36
    have := sized_slice hsp (j := 5) (t := 25) (e := 5) rfl (by rw [List.getElem?_map, hy5]; exact congrArg some h) Try.underlying25
    rw [bytes_u8] at this; simpa [reachBytes] using this)
  have hcsE : cs = #[.int .u8 (n0 : Int), .int .u8 (n1 : Int), .int .u8 (n2 : Int), .int .u8 (n3 : Int), .slice a4 l4 p4', .slice a5 l5 p5'] := by
    obtain ⟨l⟩ := cs
    match l, hcs with
    | [_, _, _, _, _, _], _ =>
      simp at hc0 hc1 hc2 hc3 hc4 hc5
      rw [hc0, hc1, hc2, hc3, hc4, hc5]
  subst hcsE
  obtain ⟨x1, rfl, rfl, rfl, w1⟩ := open_int Try.underlying3 (hval 1 3 v1 rfl rfl) h1
  have b1 : -9223372036854775808 ≤ x1 ∧ x1 ≤ 9223372036854775807 := by have h := w1; have e0 : IntKind.i64.min = -9223372036854775808 := (by decide); have e1 : IntKind.i64.max = 9223372036854775807 := (by decide); simp [Lit.wf] at h; omega
  obtain ⟨x2, rfl, rfl, rfl, w2⟩ := open_int Try.underlying5 (hval 2 5 v2 rfl rfl) h2
  obtain ⟨y2, rfl, b2⟩ := nat_u8 w2
  refine (law_RevokeWrong ⟨n0, n1, n2, n3, g4, g5⟩ a4 l4 p4' a5 l5 p5' x1 y2 W hz4 hz5 bb0 bb1 bb2 b1 b2).mono fun e W' ⟨he, bel⟩ => ?_
  subst he
  exact ⟨_, rfl, _, _, _, [], _, [], hW', trodAll_mk1 (shut_bool Try.underlying4 _), (trodAll_cons_mk (Below.trod laidOut (by kernel_rfl) (of_decide_eq_true (by kernel_rfl)) k0 bel lt0) (trodAll_cons_mk (shut_int Try.underlying3 w1) (trodAll_cons_mk (shut_int Try.underlying5 w2) trodAll_mk0))), rfl, bel.frame _, fun h => by cases h⟩

theorem laid_met (os : Os) : laidMet Try.prog Rows.revokeWrongRow.laid ((World.holding Try.prog os ⟨#[], #[], []⟩).forCall (fun _ _ => 0) ⟨#[], #[.agg #[.int .u8 0, .int .u8 0, .int .u8 0, .int .u8 0, .slice none 0 0, .slice none 0 0], .int .i64 0, .int .u8 0], []⟩).memory :=
  laidMet_of_run' 8 (by kernel_rfl) (by kernel_rfl)
theorem reads (os : Os) {H : Type} (enc : TypeId × Value → H) : ∃ places, DataW.whole enc Try.prog ((World.holding Try.prog os ⟨#[], #[], []⟩).forCall (fun _ _ => 0) ⟨#[], #[.agg #[.int .u8 0, .int .u8 0, .int .u8 0, .int .u8 0, .slice none 0 0, .slice none 0 0], .int .i64 0, .int .u8 0], []⟩).memory Try.f10.params.toList Rows.revokeWrongSpec.vars false (#[.agg #[.int .u8 0, .int .u8 0, .int .u8 0, .int .u8 0, .slice none 0 0, .slice none 0 0], .int .i64 0, .int .u8 0] : Array Value).toList 8 = some ([.agg [.lit (.int .u8 0), .lit (.int .u8 0), .lit (.int .u8 0), .lit (.int .u8 0), .nil, .nil], .lit (.int .i64 0), .lit (.int .u8 0)], [], places) :=
  ⟨[], by kernel_rfl⟩
set_option maxRecDepth 100000 in
theorem lifted (os : Os) (started : os.Started) (H : Type) (enc : TypeId × Value → H) (F : Stop.Interp) :
    ReturnsInHanded {} Try.checked os 10 .any ((OpenSpec.ofChange Rows.revokeWrongSpec).preRow enc Try.prog Try.f10 Rows.revokeWrongRow.domain false Rows.revokeWrongRow.laid) (((OpenSpec.ofChange Rows.revokeWrongSpec).at F).post enc Try.prog Try.f10 false true false false) := by
  obtain ⟨places, hx⟩ := reads os enc
  refine returnsInHanded_of_row (C := Try.checked) (s := OpenSpec.ofChange Rows.revokeWrongSpec) own started (by kernel_rfl) Try.func10
    (witness_row_at (enc := enc) (C := Try.checked) false (World.holding Try.prog os ⟨#[], #[], []⟩) #[.agg #[.int .u8 0, .int .u8 0, .int .u8 0, .int .u8 0, .slice none 0 0, .slice none 0 0], .int .i64 0, .int .u8 0] rfl (by kernel_rfl) (by kernel_rfl) (by kernel_rfl)
      (OpenSpec.preRow_of_cond 8 hx (by kernel_rfl) (fun k hk => by cases hk) (by kernel_rfl) (laid_met os))) ?_
  intro W base args ds gs before hval hW _ _ hsz hL _ _
  exact contract H enc W base args ds gs before hval hW hsz hL
theorem said : Rows.RevokeWrongSaid :=
  OpenClaim.holds_of_cond 10 Try.f10 rfl rfl rfl rfl rfl rfl rfl ⟨rfl, rfl, rfl, rfl, rfl⟩ rfl rfl rfl rfl rfl (by kernel_rfl) Try.func10 (by kernel_rfl)
    (of_decide_eq_true (by kernel_rfl)) (by unfold Func.isWrapper; first | (rw [if_pos (by decide +kernel)]; kernel_rfl) | (rw [if_neg (by decide +kernel)]; exact ⟨rfl, rfl⟩))
    (fun os started H enc _ F => by rw [OpenClaim.pre_eq_preRow]; exact lifted os started H enc F)
end Go.Proofs.Ytdlnilebnobllaa.revokeWrongFr
