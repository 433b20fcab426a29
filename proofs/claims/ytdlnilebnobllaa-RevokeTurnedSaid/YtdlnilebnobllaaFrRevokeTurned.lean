/- 'RevokeTurned' returns true for every input and leaves its arguments as they were: the row and its card. No condition besides the row's own. -/
import Derived.Test.YtdlnilebnobllaaRvTu
import Derived.Test.YtdlnilebnobllaaFrS
namespace Go.Proofs.Ytdlnilebnobllaa.revokeTurnedFr
open Go.ChangeShapes Go.WideShapes Go.ChangeAt Go.RowKit
set_option linter.unusedVariables false

set_option maxRecDepth 100000 in
theorem contract (H : Type) (enc : TypeId × Value → H) (W : World) (base : Nat) (args : Array Value) (ds gs : List (DataW H)) (before : List MemPlace)
    (hval : ∀ (j : Nat) t v, Try.f8.params[j]? = some t → args[j]? = some v → Value.okWide Try.prog W .any base t v)
    (hW : DataW.Whole enc Try.prog Try.f8.params.toList Rows.revokeTurnedSpec.vars false W args.toList ds gs before)
    (hsz0 : (DataW.weightsEach Try.prog (Try.f8.params.toList ++ (OpenSpec.ofChange Rows.revokeTurnedSpec).bare.plain.varTypes Try.prog) (ds ++ gs)).all (· ≤ reachBytes) = true)
    (hL : laidMetH Try.prog Rows.revokeTurnedRow.laid W) :
    Calls Try.prog 8 args W fun e W' => ∃ v, e = .returned v ∧ Rows.revokeTurnedSpec.post enc Try.prog Try.f8 false true false false W args v W' := by
  have hW' := hW
  obtain ⟨p, q, hA0, hV, rfl, hfz, hnd⟩ := hW
  have hA : DataW.TrodAll enc Try.prog W 0 (fun _ => true) true Try.f8.params.toList args.toList ds p := hA0
  have hsz : (DataW.weightsEach Try.prog (Try.f8.params.toList ++ []) (ds ++ gs)).all (· ≤ reachBytes) = true := hsz0
  rw [Try.params8] at hA hval hsz
  obtain ⟨v0, vs0, d0, ds0, p0, q0, hargs, rfl, rfl, h0, r0⟩ := trodAll_cons hA
  obtain ⟨rfl, rfl, rfl⟩ := trodAll_nil r0
  obtain rfl : args = #[v0] := by cases args; simp_all
  obtain ⟨rfl, rfl⟩ := trodVars_none hV
  have k0 := h0
  have lt0 : ∀ x ∈ p0, x.block < W.heap.size := by obtain ⟨m, hm⟩ := k0; exact DataW.trod_lt m _ _ _ hm
  obtain ⟨cs, ys, n, rfl, hcs, hd, hpp, hyl, hf⟩ := open_fields Try.underlying36 (by kernel_rfl) (by kernel_rfl) (hval 0 36 v0 rfl rfl) h0
  obtain ⟨c0, y0, hc0, hy0, t0⟩ := hf 0 _ rfl
  obtain ⟨c1, y1, hc1, hy1, t1⟩ := hf 1 _ rfl
  obtain ⟨c2, y2, hc2, hy2, t2⟩ := hf 2 _ rfl
  obtain ⟨c3, y3, hc3, hy3, t3⟩ := hf 3 _ rfl
  obtain ⟨c4, y4, hc4, hy4, t4⟩ := hf 4 _ rfl
  obtain ⟨c5, y5, hc5, hy5, t5⟩ := hf 5 _ rfl
  obtain ⟨x0, e0, -, w0⟩ := DataW.trod_int Try.underlying5 t0
  obtain rfl := (List.cons.inj e0).1
  obtain ⟨n0, rfl, b0⟩ := nat_u8 w0
  obtain ⟨x1, e1, -, w1⟩ := DataW.trod_int Try.underlying5 t1
  obtain rfl := (List.cons.inj e1).1
  obtain ⟨n1, rfl, b1⟩ := nat_u8 w1
  obtain ⟨x2, e2, -, w2⟩ := DataW.trod_int Try.underlying5 t2
  obtain rfl := (List.cons.inj e2).1
  obtain ⟨n2, rfl, b2⟩ := nat_u8 w2
  obtain ⟨x3, e3, -, w3⟩ := DataW.trod_int Try.underlying5 t3
  obtain rfl := (List.cons.inj e3).1
  obtain ⟨n3, rfl, b3⟩ := nat_u8 w3
  obtain ⟨a4, l4, p4', z4, rfl, hz4⟩ := slice_open t4 (fun elems spare h => by
    have hsp := sized_parts hsz (j := 0) rfl (by rw [hd]; rfl) Try.underlying36
    have := sized_slice hsp (j := 4) (t := 25) (e := 5) rfl (by rw [List.getElem?_map, hy4]; exact congrArg some h) Try.underlying25
    rw [bytes_u8] at this; simpa [reachBytes] using this)
  obtain ⟨a5, l5, p5', z5, rfl, hz5⟩ := slice_open t5 (fun elems spare h => by
    have hsp := sized_parts hsz (j := 0) rfl (by rw [hd]; rfl) Try.underlying36
    have := sized_slice hsp (j := 5) (t := 25) (e := 5) rfl (by rw [List.getElem?_map, hy5]; exact congrArg some h) Try.underlying25
    rw [bytes_u8] at this; simpa [reachBytes] using this)
  have hcsE : cs = #[.int .u8 (n0 : Int), .int .u8 (n1 : Int), .int .u8 (n2 : Int), .int .u8 (n3 : Int), .slice a4 l4 p4', .slice a5 l5 p5'] := by
    obtain ⟨l⟩ := cs
    match l, hcs with
    | [_, _, _, _, _, _], _ =>
      simp at hc0 hc1 hc2 hc3 hc4 hc5
      rw [hc0, hc1, hc2, hc3, hc4, hc5]
  subst hcsE
  refine (law_RevokeTurned ⟨n0, n1, n2, n3, z4, z5⟩ a4 l4 p4' a5 l5 p5' W hz4 hz5 b0 b1 b2).mono fun e W' ⟨he, bel⟩ => ?_
  subst he
  exact ⟨_, rfl, _, _, _, [], _, [], hW', trodAll_mk1 (shut_bool Try.underlying4 _), (trodAll_cons_mk (Below.trod laidOut (by kernel_rfl) (of_decide_eq_true (by kernel_rfl)) k0 bel lt0) trodAll_mk0), rfl, bel.frame _, fun h => by cases h⟩

theorem laid_met (os : Os) : laidMet Try.prog Rows.revokeTurnedRow.laid ((World.holding Try.prog os ⟨#[], #[], []⟩).forCall (fun _ _ => 0) ⟨#[], #[.agg #[.int .u8 0, .int .u8 0, .int .u8 0, .int .u8 0, .slice none 0 0, .slice none 0 0]], []⟩).memory :=
  laidMet_of_run' 8 (by kernel_rfl) (by kernel_rfl)
theorem reads (os : Os) {H : Type} (enc : TypeId × Value → H) : ∃ places, DataW.whole enc Try.prog ((World.holding Try.prog os ⟨#[], #[], []⟩).forCall (fun _ _ => 0) ⟨#[], #[.agg #[.int .u8 0, .int .u8 0, .int .u8 0, .int .u8 0, .slice none 0 0, .slice none 0 0]], []⟩).memory Try.f8.params.toList Rows.revokeTurnedSpec.vars false (#[.agg #[.int .u8 0, .int .u8 0, .int .u8 0, .int .u8 0, .slice none 0 0, .slice none 0 0]] : Array Value).toList 8 = some ([.agg [.lit (.int .u8 0), .lit (.int .u8 0), .lit (.int .u8 0), .lit (.int .u8 0), .nil, .nil]], [], places) :=
  ⟨[], by kernel_rfl⟩
set_option maxRecDepth 100000 in
theorem lifted (os : Os) (started : os.Started) (H : Type) (enc : TypeId × Value → H) (F : Stop.Interp) :
    ReturnsInHanded {} Try.checked os 8 .any ((OpenSpec.ofChange Rows.revokeTurnedSpec).preRow enc Try.prog Try.f8 Rows.revokeTurnedRow.domain false Rows.revokeTurnedRow.laid) (((OpenSpec.ofChange Rows.revokeTurnedSpec).at F).post enc Try.prog Try.f8 false true false false) := by
  obtain ⟨places, hx⟩ := reads os enc
  refine returnsInHanded_of_row (C := Try.checked) (s := OpenSpec.ofChange Rows.revokeTurnedSpec) own started (by kernel_rfl) Try.func8
    (witness_row_at (enc := enc) (C := Try.checked) false (World.holding Try.prog os ⟨#[], #[], []⟩) #[.agg #[.int .u8 0, .int .u8 0, .int .u8 0, .int .u8 0, .slice none 0 0, .slice none 0 0]] rfl (by kernel_rfl) (by kernel_rfl) (by kernel_rfl)
      (OpenSpec.preRow_of_cond 8 hx (by kernel_rfl) (fun k hk => by cases hk) (by kernel_rfl) (laid_met os))) ?_
  intro W base args ds gs before hval hW _ _ hsz hL _ _
  exact contract H enc W base args ds gs before hval hW hsz hL
theorem said : Rows.RevokeTurnedSaid :=
  OpenClaim.holds_of_cond 8 Try.f8 rfl rfl rfl rfl rfl rfl rfl ⟨rfl, rfl, rfl, rfl, rfl⟩ rfl rfl rfl rfl rfl (by kernel_rfl) Try.func8 (by kernel_rfl)
    (of_decide_eq_true (by kernel_rfl)) (by unfold Func.isWrapper; first | (rw [if_pos (by decide +kernel)]; kernel_rfl) | (rw [if_neg (by decide +kernel)]; exact ⟨rfl, rfl⟩))
    (fun os started H enc _ F => by rw [OpenClaim.pre_eq_preRow]; exact lifted os started H enc F)
end Go.Proofs.Ytdlnilebnobllaa.revokeTurnedFr
