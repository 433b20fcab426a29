/- DmT, DmU, DmW in one text. -/
import Derived.Test.YtnbillhodbcfbaaDoorMDma
import Derived.Test.YtnbillhodbcfbaaDoorMDmt
import Derived.Test.YtnbillhodbcfbaaDoorMLow
import Derived.BigQuiet
import Derived.Test.YtnbillhodbcfbaaDoorMRel
import Derived.Laws.CopyOwn

/- Tables of package dummy over this seat's program: turn, suit, beats, sideOf, better, worst, can. -/
namespace Go.Proofs.YtnbillhodbcfbaaDoor
open Go.RowKit Go.Sort Go.Shelf

/-- a table as its cells -/
abbrev tbA (t : Tb) : Array Value := #[.int .u64 (t.h 0 : Int), .int .u64 (t.h 1 : Int), .int .u64 (t.h 2 : Int), .int .u64 (t.h 3 : Int), .int .u8 (t.ld : Int), .int .u8 (t.cs.length : Int), .int .u8 (t.cs.getD 0 0 : Int), .int .u8 (t.cs.getD 1 0 : Int), .int .u8 (t.cs.getD 2 0 : Int), .int .u8 (t.cs.getD 3 0 : Int)]
structure TbOk (t : Tb) : Prop where
  pk : Pk t
  ld : t.ld < 4
  c52 : ∀ x ∈ t.cs, x < 52
  w64 : ∀ s, W64 (t.h s)
theorem TbOk.getD {t : Tb} (h : TbOk t) (i : Nat) : t.cs.getD i 0 < 52 := by
  rw [List.getD_eq_getElem?_getD]
  rcases e : t.cs[i]? with _ | x
  · exact (by decide : (0 : Nat) < 52)
  · exact h.c52 x (List.mem_of_getElem? e)
theorem tbA_h (t : Tb) (s : Nat) (hs : s < 4) : (tbA t)[s]? = some (.int .u64 (t.h s : Int)) := by
  rcases (show s = 0 ∨ s = 1 ∨ s = 2 ∨ s = 3 by omega) with rfl | rfl | rfl | rfl <;> rfl
theorem tbA_c (t : Tb) (s : Nat) (hs : s < 4) : (tbA t)[6 + s]? = some (.int .u8 (t.cs.getD s 0 : Int)) := by
  rcases (show s = 0 ∨ s = 1 ∨ s = 2 ∨ s = 3 by omega) with rfl | rfl | rfl | rfl <;> rfl
theorem dm_turn (t : Tb) (h : TbOk t) (w : World) : Calls Tryd.prog 65 #[.agg (tbA t)] w fun e w' => e = .returned (.int .u8 (t.turn : Int)) ∧ Below w.heap.size w w' := by
  have h1 := h.ld
  have h2 := h.pk.2
  have HT : Hid (((t.ld : Int) + (t.cs.length : Int)) % 4 = ((t.turn : Nat) : Int)) := Lib.hid (by unfold Tb.turn; omega)
  have HB := Lib.hid ((Below.refl w.heap.size w).alloc (Nat.le_refl _) (.cells (tbA t) 76))
  go_enter Tryd.func65, Tryd.ntmps65
  go_wp2_with fail
  go_ret
  exact ⟨congrArg (fun x => Ending.returned (Value.int .u8 x)) HT.out, HB.out⟩
theorem dm_beats (tr c b : Nat) (ht : tr < 256) (hc : c < 256) (hb : b < 256) (w : World) : Calls Tryd.prog 69 #[.int .u8 (c : Int), .int .u8 (b : Int), .int .u8 (tr : Int)] w fun e w' => e = .returned (.bool (beatsB tr c b)) ∧ w = w' := by
  unfold beatsB
  have h1 : (c : Int) / 13 = ((c / 13 : Nat) : Int) := by omega
  have h2 : (b : Int) / 13 = ((b / 13 : Nat) : Int) := by omega
  generalize c / 13 = x at *
  generalize b / 13 = y at *
  by_cases e : x = y
  · subst e
    have e1 : ((x : Int) == (x : Int)) = true := by simp
    rw [if_pos rfl]
    by_cases g : b < c
    · have g1 : decide ((b : Int) < (c : Int)) = true := by simp; omega
      rw [decide_eq_true g]
      go_enter Tryd.func69, Tryd.ntmps69
      go_wp2_with fail
      go_ret
      exact ⟨rfl, rfl⟩
    · have g1 : decide ((b : Int) < (c : Int)) = false := by simp; omega
      rw [decide_eq_false g]
      go_enter Tryd.func69, Tryd.ntmps69
      go_wp2_with fail
      go_ret
      exact ⟨rfl, rfl⟩
  · have e1 : ((x : Int) == (y : Int)) = false := by simp; omega
    rw [if_neg e]
    by_cases g : x = tr
    · have g1 : ((x : Int) == (tr : Int)) = true := by simp; omega
      rw [decide_eq_true g]
      go_enter Tryd.func69, Tryd.ntmps69
      go_wp2_with fail
      go_ret
      exact ⟨rfl, rfl⟩
    · have g1 : ((x : Int) == (tr : Int)) = false := by simp; omega
      rw [decide_eq_false g]
      go_enter Tryd.func69, Tryd.ntmps69
      go_wp2_with fail
      go_ret
      exact ⟨rfl, rfl⟩
/-- all cards of a suit -/
def suitM (q : Nat) : Nat := 8191 * 2 ^ (13 * q)
theorem suitM_bit {q c : Nat} : (suitM q).testBit c = decide (c / 13 = q) := by
  unfold suitM
  rw [Nat.mul_comm, show (8191 : Nat) = 2 ^ 13 - 1 from rfl, Nat.testBit_two_pow_mul, Nat.testBit_two_pow_sub_one]
  by_cases h : 13 * q ≤ c
  · rw [decide_eq_true (show c ≥ 13 * q from h), Bool.true_and, decide_eq_decide]; omega
  · rw [decide_eq_false (show ¬ c ≥ 13 * q from h), Bool.false_and, eq_comm, decide_eq_false_iff_not]; omega
theorem dm_suit (q : Nat) (hq : q < 4) (w : World) : Calls Tryd.prog 68 #[.int .u8 (q : Int)] w fun e w' => e = .returned (.int .u64 ((suitM q : Nat) : Int)) ∧ w = w' := by
  rcases (show q = 0 ∨ q = 1 ∨ q = 2 ∨ q = 3 by omega) with rfl | rfl | rfl | rfl
  all_goals
    go_enter Tryd.func68, Tryd.ntmps68
    go_wp2
    go_ret
    exact ⟨rfl, rfl⟩
theorem dm_sideOf (s : Nat) (hs : s < 256) (w : World) : Calls Tryd.prog 86 #[.int .u8 (s : Int)] w fun e w' => e = .returned (.int .u8 ((s % 2 : Nat) : Int)) ∧ w = w' := by
  have H : Hid ((s : Int) % 2 = ((s % 2 : Nat) : Int)) := Lib.hid (by omega)
  go_enter Tryd.func86, Tryd.ntmps86
  go_wp2
  go_ret
  exact ⟨congrArg (fun x => Ending.returned (Value.int .u8 x)) H.out, rfl⟩
theorem dm_worst (s : Nat) (hs : s < 2) (w : World) : Calls Tryd.prog 88 #[.int .u8 (s : Int)] w fun e w' => e = .returned (.int .i64 (if s = 0 then -1 else 7)) ∧ w = w' := by
  rcases (show s = 0 ∨ s = 1 by omega) with rfl | rfl
  all_goals
    go_enter Tryd.func88, Tryd.ntmps88
    go_wp2
    go_ret
    exact ⟨rfl, rfl⟩
end Go.Proofs.YtnbillhodbcfbaaDoor

/- Tables of package dummy over this seat's program: can, put. -/
namespace Go.Proofs.YtnbillhodbcfbaaDoor
open Go.RowKit Go.Sort Go.Shelf

/-- the cards that can be played -/
def canM (t : Tb) : Nat := if t.cs.length = 0 then t.h t.turn else if land (t.h t.turn) (suitM (t.cs.getD 0 0 / 13)) = 0 then t.h t.turn else land (t.h t.turn) (suitM (t.cs.getD 0 0 / 13))
theorem canM_bit (t : Tb) (c : Nat) : (canM t).testBit c = t.legal c := by
  have hsub : land (t.h t.turn) (suitM (t.cs.getD 0 0 / 13)) = 0 ↔ ∀ x, (t.h t.turn).testBit x = true → x / 13 ≠ t.cs.getD 0 0 / 13 := by
    constructor
    · intro h x hx e
      have := congrArg (fun m => m.testBit x) h
      simp only [testBit_land, suitM_bit, hx, decide_eq_true e, Nat.zero_testBit] at this
      cases this
    · intro h
      apply Nat.eq_of_testBit_eq
      intro x
      rw [testBit_land, suitM_bit, Nat.zero_testBit]
      cases hx : (t.h t.turn).testBit x
      · rfl
      · rw [decide_eq_false (h x hx)]; rfl
  rw [Bool.eq_iff_iff, legal_iff]
  unfold canM
  rcases hcs : t.cs with _ | ⟨d, ds⟩
  · simp
  · rw [hcs] at hsub
    have e0 : (d :: ds).getD 0 0 = d := rfl
    simp only [List.length_cons, Nat.add_one_ne_zero, if_false, e0, List.getElem?_cons_zero, Option.some.injEq, forall_eq'] at hsub ⊢
    by_cases h : land (t.h t.turn) (suitM (d / 13)) = 0
    · rw [if_pos h]
      have h2 := hsub.1 h
      exact ⟨fun hb => ⟨hb, .inr h2⟩, fun hb => hb.1⟩
    · rw [if_neg h, testBit_land, suitM_bit, Bool.and_eq_true, decide_eq_true_eq]
      refine and_congr_right fun hb => ⟨fun e => .inl e, fun e => e.resolve_right fun h2 => h (hsub.2 h2)⟩
theorem suitM_w64 {q : Nat} (hq : q < 4) : W64 (suitM q) := by
  unfold W64 suitM
  rcases (show q = 0 ∨ q = 1 ∨ q = 2 ∨ q = 3 by omega) with rfl | rfl | rfl | rfl <;> decide
theorem canM_w64 {t : Tb} (h : TbOk t) : W64 (canM t) := by
  unfold canM
  split
  · exact h.w64 _
  · split
    · exact h.w64 _
    · exact W64.land (h.w64 _)
set_option maxHeartbeats 1000000 in
theorem dm_can (t : Tb) (h : TbOk t) (w : World) : Calls Tryd.prog 39 #[.agg (tbA t)] w fun e w' => e = .returned (.int .u64 ((canM t : Nat) : Int)) ∧ Below w.heap.size w w' := by
  have h2 := h.pk.2
  have htl := t.turn_lt
  have hti : (t.turn : Int) < 4 := by omega
  have HK := Lib.hid h
  have HR := Lib.hid (Row.new w 76 (tbA t))
  have HB := Lib.hid ((Below.refl w.heap.size w).alloc (Nat.le_refl _) (.cells (tbA t) 76))
  go_enter Tryd.func39, Tryd.ntmps39
  go_wp2_with fail
  refine (dm_turn t HK.out _).mono ?_
  rintro e w1 ⟨rfl, hb1⟩
  have HB1 := Lib.hid (HB.out.trans (hb1.mono HB.out.size))
  have HR1 := Lib.hid (HR.out.later hb1)
  have ch := (HR1.out.cell t.turn).trans (tbA_h t _ htl)
  have cl := HR1.out.cell 5
  have c0 := HR1.out.cell 6
  simp only [List.getElem?_toArray, List.getElem?_cons_zero, List.getElem?_cons_succ] at cl c0
  have HCM : Hid (∀ m, t.h t.turn = m → canM t = if t.cs.length = 0 then m else if land m (suitM (t.cs.getD 0 0 / 13)) = 0 then m else land m (suitM (t.cs.getD 0 0 / 13))) := Lib.hid (by rintro m rfl; rfl)
  have hmw := HK.out.w64 t.turn
  have hc52 := HK.out.getD 0
  clear hb1 HR HB
  obtain ⟨m, hm⟩ : ∃ m, t.h t.turn = m := ⟨_, rfl⟩
  have HCM := Lib.hid (HCM.out m hm)
  rw [hm] at ch hmw
  clear hm
  obtain ⟨c, hc⟩ : ∃ c, t.cs.getD 0 0 = c := ⟨_, rfl⟩
  rw [hc] at c0 HCM hc52
  clear hc
  obtain ⟨n, hn⟩ : ∃ n, t.cs.length = n := ⟨_, rfl⟩
  rw [hn] at cl HCM h2
  have hq : (c : Int) / 13 = ((c / 13 : Nat) : Int) := by omega
  have hq4 : c / 13 < 4 := by omega
  obtain ⟨q, hqq⟩ : ∃ q, c / 13 = q := ⟨_, rfl⟩
  have hq' : (c : Int) / 13 = (q : Int) := by omega
  rw [hqq] at hq4 HCM
  clear hq hqq
  rcases Nat.eq_zero_or_pos n with h0 | h0
  · subst h0
    rw [if_pos rfl] at HCM
    simp only [show ((0 : Nat) : Int) = 0 from rfl] at cl
    go_wp2_with fail
    go_ret
    exact ⟨by rw [HCM.out]; rfl, HB1.out⟩
  · have hd : decide ((0 : Int) < (n : Int)) = true := by simp; omega
    rw [if_neg (by omega)] at HCM
    obtain ⟨m2, hm2⟩ : ∃ m2, land m (suitM q) = m2 := ⟨_, rfl⟩
    have hand : Op.intBits .and .u64 (m : Int) ((suitM q : Nat) : Int) = pure (.int .u64 (m2 : Int)) := by rw [← hm2]; exact run_and64 m (suitM q) hmw (suitM_w64 hq4)
    rw [hm2] at HCM
    clear hm2
    by_cases hz : m2 = 0
    · rw [if_pos hz] at HCM
      have hz2 : ((m2 : Int) != 0) = false := by simp; omega
      clear hz
      go_wp2_with (go_at_call 68; refine (dm_suit q hq4 _).mono ?_; rintro e w2 ⟨rfl, rfl⟩)
      go_ret
      exact ⟨by rw [HCM.out]; rfl, HB1.out⟩
    · rw [if_neg hz] at HCM
      have hz2 : ((m2 : Int) != 0) = true := by rw [bne_iff_ne]; omega
      clear hz
      go_wp2_with (go_at_call 68; refine (dm_suit q hq4 _).mono ?_; rintro e w2 ⟨rfl, rfl⟩)
      go_ret
      exact ⟨by rw [HCM.out]; rfl, HB1.out⟩
/-- what a table's block holds while a card goes in -/
theorem tbA_put (t : Tb) (c : Nat) (hlen : t.cs.length < 4) (hs : t.turn < 4) : (((tbA t).setIfInBounds t.turn (.int .u64 ((landn (t.h t.turn) (shl1 c) : Nat) : Int))).setIfInBounds (6 + t.cs.length) (.int .u8 (c : Int))).setIfInBounds 5 (.int .u8 ((t.cs.length + 1 : Nat) : Int)) = tbA (t.push c) := by
  have hl : (t.push c).cs.length = t.cs.length + 1 := by show (t.cs ++ [c]).length = _; simp
  have hg : ∀ i, (t.push c).cs.getD i 0 = if i = t.cs.length then c else t.cs.getD i 0 := fun i => by
    show (t.cs ++ [c]).getD i 0 = _
    rw [List.getD_eq_getElem?_getD, List.getD_eq_getElem?_getD]
    by_cases e : i < t.cs.length
    · rw [List.getElem?_append_left e, if_neg (by omega)]
    · by_cases e2 : i = t.cs.length
      · rw [if_pos e2, List.getElem?_append_right (by omega), e2, Nat.sub_self]; rfl
      · rw [if_neg e2, List.getElem?_append_right (by omega), List.getElem?_eq_none (by simp; omega), List.getElem?_eq_none (by omega)]
  have hh : ∀ s, (t.push c).h s = if s = t.turn then landn (t.h s) (shl1 c) else t.h s := fun s => rfl
  unfold tbA
  rw [hl, hg, hg, hg, hg, hh, hh, hh, hh]
  generalize t.turn = s at *
  generalize t.cs.length = n at *
  rcases (show s = 0 ∨ s = 1 ∨ s = 2 ∨ s = 3 by omega) with rfl | rfl | rfl | rfl <;> rcases (show n = 0 ∨ n = 1 ∨ n = 2 ∨ n = 3 by omega) with rfl | rfl | rfl | rfl <;> simp [Tb.push]
end Go.Proofs.YtnbillhodbcfbaaDoor

/- Regions that draw their order, whose operations have fixed values and of which one writes. No program in sight. -/
namespace Go.Proofs.YtnbillhodbcfbaaDoor
open Go.RowKit Go.Sort

section
variable {P : Program} {o : Oper} {ρ : Operand → Value} {w : World}
theorem exec_load_row (ty : TypeId) (x : Operand) (ho : o.op = .load ty x) (g : Nat) (hx : ρ x = .pointer (some ⟨g, 0, none⟩)) {t : TypeId} {cs : Array Value} {d : TypeDesc} (hg : Row w g t cs)
    (hu : P.underlying ty = some d) (hd : (match d with | .struct _ | .array _ _ => true | _ => false) = true) (hi : (P.info? ty).map (·.size) = some cs.size) : (execOp ρ o).run P w = .ok (.value (.agg cs)) w := by
  unfold execOp
  simp only [ho, hx, Instr.loadAt, Instr.sureAddr, Sem.run_bind, Sem.run_pure, Result.andThen_ok, run_loadVar_row w g t ty cs (0, 0) d hg hu hd hi]
theorem exec_store_row (ty : TypeId) (x y : Operand) (ho : o.op = .store ty x y) (g : Nat) (cells : Array Value) (hx : ρ x = .pointer (some ⟨g, 0, none⟩)) (hy : ρ y = .agg cells)
    {t : TypeId} {old : Array Value} (hg : Row w g t old) (hi : (P.info? ty).map (·.size) = some cells.size) (hold : old.size = cells.size) (h1 : cells.all (·.oneCell') = true) : (execOp ρ o).run P w = .ok .skip (w.setRow g cells) := by
  unfold execOp
  simp only [ho, hx, hy, Instr.storeAt, Instr.sureAddr, Sem.run_bind, Sem.run_pure, Result.andThen_ok, run_storeVar_row w g t ty old cells hg hi hold h1]
theorem ok_skip {w' : World} {R : Value → World → Prop} (h : (execOp ρ o).run P w = .ok .skip w') (hr : R undef w') : OpOk P o ρ w R := by
  unfold OpOk; rw [h]; exact hr
end
theorem Done.same (f : Done) (i : Nat) (v : Value) : f.set i v i = some v := by unfold Done.set; rw [if_pos rfl]
theorem Done.other (f : Done) {i j : Nat} (v : Value) (h : j ≠ i) : f.set i v j = f j := by unfold Done.set; rw [if_neg h]
/-- the values are those of the list, as far as they are there; H says how the world is, ahead of operation s and behind it -/
structure FV (vals : List Value) (s : Nat) (H : Bool → World → Prop) (f : Done) (W : World) : Prop where
  st : H (f s).isSome W
  val : ∀ j v x, f j = some v → vals[j]? = some x → v = x
theorem FV.start (vals : List Value) (s : Nat) {H : Bool → World → Prop} {W : World} (h : H false W) : FV vals s H (fun _ => none) W := ⟨h, fun _ _ _ h => by cases h⟩
theorem FV.pure {vals : List Value} {s : Nat} {H : Bool → World → Prop} {f : Done} {W W' : World} (h : FV vals s H f W) (i : Nat) (v : Value) (hi : i ≠ s) (hv : vals[i]? = some v) (hW : ∀ b, H b W → H b W') : FV vals s H (f.set i v) W' := by
  refine ⟨by rw [Done.other f v hi.symm]; exact hW _ h.st, fun j u x hj hx => ?_⟩
  by_cases e : j = i
  · subst e
    rw [Done.same] at hj
    rw [hv] at hx
    exact (Option.some.inj hj).symm.trans (Option.some.inj hx)
  · rw [Done.other f v e] at hj
    exact h.val j u x hj hx
theorem FV.write {vals : List Value} {s : Nat} {H : Bool → World → Prop} {f : Done} {W W' : World} (h : FV vals s H f W) (v : Value) (hv : vals[s]? = some v) (hf : f s = none) (hW : H false W → H true W') : FV vals s H (f.set s v) W' := by
  refine ⟨by rw [Done.same]; exact hW (by have := h.st; rwa [hf] at this), fun j u x hj hx => ?_⟩
  by_cases e : j = s
  · subst e
    rw [Done.same] at hj
    rw [hv] at hx
    exact (Option.some.inj hj).symm.trans (Option.some.inj hx)
  · rw [Done.other f v e] at hj
    exact h.val j u x hj hx
end Go.Proofs.YtnbillhodbcfbaaDoor
