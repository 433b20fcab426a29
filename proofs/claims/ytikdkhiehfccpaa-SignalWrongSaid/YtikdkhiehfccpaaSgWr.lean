/- SignalWrong over this seat's program: the body. -/
import Derived.Test.YtikdkhiehfccpaaSgS
import Derived.Test.YtikdkhiehfccpaaMSgq
namespace Go.Proofs.Ytikdkhiehfccpaa
open Go.RowKit Go.Sort Go.Shelf Cnt

theorem bad_rule (ls : List Rl) (x : Rl) (h : (namedB x.s && rightV x.rs) = false) : rightS (ls ++ [x]) = false := by
  unfold rightS
  rw [List.all_append]
  simp [h]
theorem law41_rep (k : Nat) (r : Rg) : List.replicate (k + 1) r = List.replicate k r ++ [r] := List.replicate_succ'
theorem make_claims (w1 : World) : ∃ arr : Array Value, (Instr.makeSlice 24 (.int .i64 21) (.int .i64 21)).run Try.prog w1 = .ok (.slice (some ⟨w1.heap.size, 0, none⟩) 21 21) (w1.alloc (.cells arr 29)) ∧
    ∀ i, i < 21 → arr[i * 4]? = some (.int .i64 0) ∧ arr[i * 4 + 1]? = some (.int .i64 0) ∧ arr[i * 4 + 2]? = some (.int .i64 0) ∧ arr[i * 4 + 3]? = some (.slice none 0 0) := by
  have h : (Try.prog.info? 29).map (fun i => (i.zero, i.size, i.bytes)) = some (some (.agg #[.int .i64 0, .int .i64 0, .int .i64 0, .slice none 0 0]), 4, 48) := by kernel_rfl
  obtain ⟨i, hq, h0, h1, h2⟩ := info_parts h
  have hr := run_makeSlice (P := Try.prog) w1 24 29 i _ Try.underlying24 hq h0 .i64 .i64 21 21 (by omega) (by omega) (by rw [h1]; simp) (by rw [h2]; decide) (by omega)
  refine ⟨_, hr, fun j hj => ?_⟩
  rw [h1]
  have hc : (Value.agg #[Value.int .i64 0, .int .i64 0, .int .i64 0, .slice none 0 0]).cells = [.int .i64 0, .int .i64 0, .int .i64 0, .slice none 0 0].toArray := by simp [Value.cells]
  rw [hc]
  have hl : ∀ q, q < 4 → (madeCells [Value.int .i64 0, .int .i64 0, .int .i64 0, .slice none 0 0].toArray (Int.toNat 21 * 4))[j * 4 + q]? = [Value.int .i64 0, .int .i64 0, .int .i64 0, .slice none 0 0][q]? := fun q hq => by
    have hlt : j * 4 + q < 84 := by omega
    have hm : (j * 4 + q) % 4 = q := by omega
    unfold madeCells
    simp [hlt, hm]
    rcases (show q = 0 ∨ q = 1 ∨ q = 2 ∨ q = 3 by omega) with rfl | rfl | rfl | rfl <;> rfl
  exact ⟨hl 0 (by decide), hl 1 (by decide), hl 2 (by decide), hl 3 (by decide)⟩
set_option maxHeartbeats 4000000 in
set_option maxRecDepth 10000 in
theorem law_SignalWrong (ax : Option Addr) (lx cx : Nat) (css : List (List Cd)) (az : Option Addr) (lz cz : Nat) (ss : List Nat) (n : Int) (w : World)
    (hx : Cdss w ax lx css) (hlx : lx ≤ cx) (hss : Byt w az lz ss) (_ : lz ≤ cz) (hn : -9223372036854775808 ≤ n ∧ n ≤ 9223372036854775807) :
    Calls Try.prog 9 #[.slice ax lx cx, .slice az lz cz, .int .i64 n] w fun e w' => e = .returned (.bool true) ∧ Below w.heap.size w w' := by
  have hlen := hx.length
  have hsm := hx.small
  have HX := Lib.hid (hx.take (min lx 4) (by omega))
  have HS := Lib.hid hss
  clear hx hss
  have HM : Hid (mn (lx : Int) 4 = ((min lx 4 : Nat) : Int)) := Lib.hid (by unfold mn; split <;> omega)
  have hml : min lx 4 ≤ lx := by omega
  have hmc : min lx 4 ≤ cx := by omega
  have hmci : ((min lx 4 : Nat) : Int) ≤ (cx : Int) := by omega
  generalize min lx 4 = m at *
  have KL := Lib.hid (made41_right (css.take m) ss)
  have LL := Lib.hid (made41_len (css.take m) ss)
  generalize hmd : made41 (css.take m) ss = ls at *
  go_enter Try.func9, Try.ntmps9
  go_wp2_with (refine wpList_min rfl (.tmp 41) (.const (.int .i64 4)) _ _ rfl (lx : Int) 4 rfl rfl ?_; rw [HM.out])
  refine (law41_Made ax m cx (css.take m) az lz cz ss _ HX.out hmc HS.out).mono ?_
  rintro e w1 ⟨⟨v1, ps, rfl, hv1, hps⟩, hb1⟩
  rw [hmd] at hps
  have hpl : ps.length ≤ 5 := by have := LL.out; rw [← hps, rlsOf_len] at this; exact this
  obtain ⟨a1, c1, rfl, hl1⟩ := hv1.lsm (by omega)
  have HP1 := Lib.hid (And.intro hps hpl)
  have HL1 := Lib.hid hl1
  have HB1 := Lib.hid hb1
  clear hv1 hl1 hb1 hmd hps hpl hml hmc hmci hlen hsm HM HX HS
  go_wp2_with fail
  refine (law_points 0 40 _).mono ?_
  rintro e w2 ⟨rfl, hb2⟩
  have hr3 := rc_new w2 (rgP 0 40)
  have hb3 : Below w1.heap.size w1 (w2.alloc (.cells (rgP 0 40).arr 73)) := hb2.trans (((Below.refl _ _).alloc (Nat.le_refl _) _).mono hb2.size)
  have HB3 := Lib.hid hb3
  have HR3 := Lib.hid hr3
  clear hb3 hr3 hb2
  go_wp2_with fail
  generalize hw3 : w2.alloc (.cells (rgP 0 40).arr 73) = w3 at *
  generalize w2.heap.size = bf at *
  clear hw3
  go_loopw [9, 48] (fun v i wr => ∃ (k : Nat), k ≤ 21 ∧ i = .int .i64 (k : Int) ∧ OwnR wr w3.heap.size v (List.replicate k (rgP 0 40)) ∧ RgC wr (some ⟨bf, 0, none⟩) 1 [rgP 0 40] ∧ Below w3.heap.size w3 wr) (fun _ i _ => 21 - (intOf i).toNat)
  case atStart => exact ⟨0, by omega, rfl, OwnR.nil _ _, HR3.out, Below.refl _ _⟩
  case round =>
    obtain ⟨k, hk, rfl, ho, hr, hb⟩ := hrel
    have HO := Lib.hid ho
    have HR := Lib.hid hr
    have HB := Lib.hid hb
    clear ho hr hb
    by_cases hlt : k < 21
    · have hd : decide ((k : Int) < 21) = true := by simp; omega
      have hki : (k : Int) < 21 := by omega
      go_wp2_with (refine appR rfl (.tmp 50) (.tmp 51) rfl w3.heap.size _ (List.replicate k (rgP 0 40)) [rgP 0 40] rfl HO.out ⟨bf, 0, none⟩ 1 1 rfl HR.out.rgs (by rw [List.length_replicate]; omega) HB.out.size ?_; intro v' w' h1 h2 h3 h4; have HV := Lib.hid h1; have HB2 := Lib.hid (HB.out.trans h2); have HR2 : Hid (RgC w' (some ⟨bf, 0, none⟩) 1 [rgP 0 40]) := Lib.hid (HR3.out.below HB2.out); clear h1 h2 h3 h4)
      exact ⟨⟨k + 1, by omega, by simp, by rw [law41_rep]; exact HV.out, HR2.out, HB2.out⟩, by simp [intOf]; omega⟩
    · obtain rfl : k = 21 := by omega
      simp only [show ((21 : Nat) : Int) = 21 from rfl]
      have hv := HO.out.rgs (by rw [List.length_replicate]; omega)
      rw [List.length_replicate] at hv
      obtain ⟨aL, cL, rfl, hRL, hcL, hnL⟩ := hv
      have HRL : Hid (RgC wr aL cL (List.replicate 21 (rgP 0 40))) := Lib.hid ⟨by rw [List.length_replicate]; exact hRL, by rw [List.length_replicate]; exact hcL, hnL⟩
      have HBw := Lib.hid (HB3.out.trans (HB.out.mono HB3.out.size))
      have HL1w := Lib.hid (HL1.out.below HBw.out)
      have HB1w := Lib.hid (HB1.out.trans (HBw.out.mono HB1.out.size))
      clear hRL hcL hnL HO HB HB3 HBw HL1 HB1
      go_wp2_with (first | refine wpList_min rfl (.tmp 54) (.const (.int .i64 0)) _ _ rfl n 0 rfl rfl ?_ | refine wpList_max rfl (.tmp 58) (.const (.int .i64 10)) _ _ rfl n 10 rfl rfl ?_)
      have HMN : Hid (mn n 0 ≤ 0) := Lib.hid (by unfold mn; split <;> omega)
      have HMX : Hid (10 ≤ mx n 10) := Lib.hid (by unfold mx; split <;> omega)
      refine (law_points 5 4 _).mono ?_
      rintro e w5 ⟨rfl, hb5⟩
      have hb6 : Below w5.heap.size w5 ((w5.alloc (.cells (rgP 5 4).arr 73)).alloc (.cells #[.slice (some ⟨bf, 0, none⟩) 1 1, .int .i64 (mn n 0), .slice (some ⟨bf, 0, none⟩) 1 1, .int .i64 (mx n 10), .slice (some ⟨w5.heap.size, 0, none⟩) 1 1, .int .i64 1, .slice aL 21 cL, .int .i64 1] 63)) := ((Below.refl _ _).alloc (Nat.le_refl _) _).alloc (by simp) _
      have hr6 : Row ((w5.alloc (.cells (rgP 5 4).arr 73)).alloc (.cells #[.slice (some ⟨bf, 0, none⟩) 1 1, .int .i64 (mn n 0), .slice (some ⟨bf, 0, none⟩) 1 1, .int .i64 (mx n 10), .slice (some ⟨w5.heap.size, 0, none⟩) 1 1, .int .i64 1, .slice aL 21 cL, .int .i64 1] 63)) (w5.heap.size + 1) 63 #[.slice (some ⟨bf, 0, none⟩) 1 1, .int .i64 (mn n 0), .slice (some ⟨bf, 0, none⟩) 1 1, .int .i64 (mx n 10), .slice (some ⟨w5.heap.size, 0, none⟩) 1 1, .int .i64 1, .slice aL 21 cL, .int .i64 1] := Row.new1 _ _ _ _
      have HRX : Hid (RgC ((w5.alloc (.cells (rgP 5 4).arr 73)).alloc (.cells #[.slice (some ⟨bf, 0, none⟩) 1 1, .int .i64 (mn n 0), .slice (some ⟨bf, 0, none⟩) 1 1, .int .i64 (mx n 10), .slice (some ⟨w5.heap.size, 0, none⟩) 1 1, .int .i64 1, .slice aL 21 cL, .int .i64 1] 63)) (some ⟨w5.heap.size, 0, none⟩) 1 [rgP 5 4]) := Lib.hid ((rc_new w5 (rgP 5 4)).below ((Below.refl _ _).alloc (Nat.le_refl _) _))
      have hb56 := hb5.trans (hb6.mono hb5.size)
      have HRL6 := Lib.hid (HRL.out.below hb56)
      have HRF6 := Lib.hid (HR.out.below hb56)
      have HL6 := Lib.hid (HL1w.out.below hb56)
      have HB6 := Lib.hid (HB1w.out.trans (hb56.mono HB1w.out.size))
      have HR6 := Lib.hid hr6
      clear hb5 hb6 hr6 hb56 HRL HR HL1w HB1w HR3
      go_wp2_with fail
      generalize hW6 : ((w5.alloc (.cells (rgP 5 4).arr 73)).alloc (.cells #[.slice (some ⟨bf, 0, none⟩) 1 1, .int .i64 (mn n 0), .slice (some ⟨bf, 0, none⟩) 1 1, .int .i64 (mx n 10), .slice (some ⟨w5.heap.size, 0, none⟩) 1 1, .int .i64 1, .slice aL 21 cL, .int .i64 1] 63)) = w6 at *
      clear hW6
      obtain ⟨b4, hb4⟩ : ∃ b4, w5.heap.size + 1 = b4 := ⟨_, rfl⟩
      rw [hb4] at HR6 ⊢
      clear hb4
      generalize w5.heap.size = b5 at *
      have HQ : Hid (∀ (k : Nat) (p : PL), ([(⟨[rgP 0 40], mn n 0⟩, some ⟨bf, 0, none⟩, 1), (⟨[rgP 0 40], mx n 10⟩, some ⟨bf, 0, none⟩, 1), (⟨[rgP 5 4], 1⟩, some ⟨b5, 0, none⟩, 1), (⟨List.replicate 21 (rgP 0 40), 1⟩, aL, cL)] : List PL)[k]? = some p →
          w6.cell? ⟨b4, k * 2, none⟩ = some (.slice p.2.1 p.1.rs.length p.2.2) ∧ w6.cell? ⟨b4, k * 2 + 1, none⟩ = some (.int .i64 p.1.s) ∧ RgC w6 p.2.1 p.2.2 p.1.rs ∧ (namedB p.1.s && rightV p.1.rs) = false ∧ p.1.rs ≠ []) := Lib.hid fun k p hp => by
        match k, hp with
        | 0, hp =>
          obtain rfl := Option.some.inj hp
          exact ⟨HR6.out.cell 0, HR6.out.cell 1, HRF6.out, by have := HMN.out; unfold namedB; simp; omega, by simp⟩
        | 1, hp =>
          obtain rfl := Option.some.inj hp
          exact ⟨HR6.out.cell 2, HR6.out.cell 3, HRF6.out, by have := HMX.out; unfold namedB; simp; omega, by simp⟩
        | 2, hp =>
          obtain rfl := Option.some.inj hp
          exact ⟨HR6.out.cell 4, HR6.out.cell 5, HRX.out, (by decide : (namedB 1 && rightV [rgP 5 4]) = false), by simp⟩
        | 3, hp =>
          obtain rfl := Option.some.inj hp
          exact ⟨by rw [List.length_replicate]; exact HR6.out.cell 6, HR6.out.cell 7, HRL6.out, by simp [rightV], by simp⟩
        | k + 4, hp => simp at hp
      have HK4 : Hid (∀ k, k < 4 → ∃ p : PL, ([(⟨[rgP 0 40], mn n 0⟩, some ⟨bf, 0, none⟩, 1), (⟨[rgP 0 40], mx n 10⟩, some ⟨bf, 0, none⟩, 1), (⟨[rgP 5 4], 1⟩, some ⟨b5, 0, none⟩, 1), (⟨List.replicate 21 (rgP 0 40), 1⟩, aL, cL)] : List PL)[k]? = some p) := Lib.hid fun k hk => ⟨_, List.getElem?_eq_getElem (by simpa using hk)⟩
      have HLT4 := Lib.hid HR6.out.lt
      clear HR6 HRX HRF6 HMN HMX
      generalize ([(⟨[rgP 0 40], mn n 0⟩, some ⟨bf, 0, none⟩, 1), (⟨[rgP 0 40], mx n 10⟩, some ⟨bf, 0, none⟩, 1), (⟨[rgP 5 4], 1⟩, some ⟨b5, 0, none⟩, 1), (⟨List.replicate 21 (rgP 0 40), 1⟩, aL, cL)] : List PL) = q4 at *
      go_loopw [69] (fun i wr => ∃ (k : Nat), k ≤ 4 ∧ i = .int .i64 (k : Int) ∧ Below w6.heap.size w6 wr) (fun i _ => 4 - (intOf i).toNat)
      case atStart => exact ⟨0, by omega, rfl, Below.refl _ _⟩
      case round =>
        obtain ⟨k, hk, rfl, hb⟩ := hrel
        have HBr := Lib.hid hb
        clear hb
        by_cases hlt : k < 4
        · have hd : decide ((k : Int) < 4) = true := by simp; omega
          have hki : (k : Int) < 4 := by omega
          obtain ⟨⟨⟨rs, s⟩, ai, ci⟩, hp⟩ := HK4.out k hlt
          obtain ⟨q1, q2, q3, q4', q5⟩ := HQ.out k _ hp
          simp only at q1 q2 q3 q4' q5
          have e0 := (HBr.out.cell (p := ⟨b4, k * 2, none⟩) HLT4.out).trans q1
          have e1 := (HBr.out.cell (p := ⟨b4, k * 2 + 1, none⟩) HLT4.out).trans q2
          have HRx := Lib.hid (q3.below HBr.out)
          have HBAD := Lib.hid (bad_rule ls ⟨rs, s⟩ q4')
          have HNR := Lib.hid q5
          clear q1 q2 q3 q4' q5 hp
          go_wp2_with fail
          have hb7 : Below w6.heap.size w6 (wr.alloc (.cells #[.slice ai rs.length ci, .int .i64 s] 63)) := HBr.out.alloc HBr.out.size _
          have ht7 : Row (wr.alloc (.cells #[.slice ai rs.length ci, .int .i64 s] 63)) wr.heap.size 63 #[.slice ai rs.length ci, .int .i64 s] := Row.new _ _ _
          have hx7 := HRx.out.below ((Below.refl _ _).alloc (Nat.le_refl _) (.cells #[.slice ai rs.length ci, .int .i64 s] 63))
          generalize hw7 : wr.alloc (.cells #[.slice ai rs.length ci, .int .i64 s] 63) = w7 at *
          clear hw7
          have HB7 := Lib.hid hb7
          have HT7 := Lib.hid ht7
          have HX7 := Lib.hid hx7
          have HL7 := Lib.hid (HL6.out.below hb7)
          clear hb7 ht7 hx7
          generalize wr.heap.size = b11 at *
          have HOI : Hid (∀ (j : Nat) (ms : List Rl) (m : Nat), ([.own [] 2, .eq (.slice a1 ps.length c1), .own ls 5, .eq (.agg #[.slice ai rs.length ci, .int .i64 s]), .pr _ (keeps_row (fun g => .slice (some ⟨g, 0, none⟩) 1 1) w7.heap.size 63 #[.slice ai rs.length ci, .int .i64 s]), .own (ls ++ [⟨rs, s⟩]) 6, .own (ls ++ [⟨rs, s⟩]) 1000] : List SpL)[j]? = some (.own ms m) → (j = 0 ∧ m = 2) ∨ (j = 2 ∧ m = 5) ∨ (j = 5 ∧ m = 6) ∨ (j = 6 ∧ m = 1000)) := Lib.hid (by
            intro j ms m h
            rcases j with _ | _ | _ | _ | _ | _ | _ | _
            all_goals (simp at h; try (simp [← h.2])))
          refine wp_region_reliesG (FG w7 [.own [] 2, .eq (.slice a1 ps.length c1), .own ls 5, .eq (.agg #[.slice ai rs.length ci, .int .i64 s]), .pr _ (keeps_row (fun g => .slice (some ⟨g, 0, none⟩) 1 1) w7.heap.size 63 #[.slice ai rs.length ci, .int .i64 s]), .own (ls ++ [⟨rs, s⟩]) 6, .own (ls ++ [⟨rs, s⟩]) 1000]) (by kernel_rfl) (by kernel_rfl) (by kernel_rfl) (by kernel_rfl) (fg_start _ _) ?obls ?fini
          case obls =>
            refine ⟨?_, ?_, ?_, ?_, ?_, ?_, ?_, trivial⟩
            · -- 0
              rintro ρ f w' ⟨row, hF⟩ hfi hw hcl hf
              refine ok_value (v := .slice (some ⟨w'.heap.size, 0, none⟩) 0 0) (w' := w'.alloc (.cells #[] 63)) (by simp [execOp, go_sem]) (hF.turn 0 [] 2 _ rfl (grownBy_below ((Below.refl _ _).alloc (Nat.le_refl _) _) _) (.inr ⟨_, rfl, Nat.le_refl _⟩) ⟨[], rfl, OwnL.made0 w' _ hF.below.size, rfl, by simp⟩ ?_)
              intro j ms m h
              have n2 := none_of hcl hfi (j := 2) (by decide)
              have n5 := none_of hcl n2 (j := 5) (by decide)
              have n6 := none_of hcl n5 (j := 6) (by decide)
              obtain ⟨rfl, rfl⟩ | ⟨rfl, rfl⟩ | ⟨rfl, rfl⟩ | ⟨rfl, rfl⟩ := HOI.out j ms m h
              · exact .inl rfl
              · exact .inr (.inr (.inl n2))
              · exact .inr (.inr (.inl n5))
              · exact .inr (.inr (.inl n6))
            · -- 1
              rintro ρ f w' ⟨row, hF⟩ hfi hw hcl hf
              have f7 : ρ (.tmp 7) = .slice a1 ps.length c1 := hf.1 7 (by simp [Op.operands])
              exact ok_value (v := .slice a1 ps.length c1) (w' := w') (by simp [execOp, f7]) (hF.step 1 (.eq _) _ rfl (Below.refl _ _) rfl)
            · -- 2
              rintro ρ f w' ⟨row, hF⟩ hfi hw hcl hf
              have hu := hf.1 73 (by simp [Op.operands, Call.operands])
              have hou := hF.each 0 (.own [] 2) _ rfl hu hfi
              have f74 : ρ (.tmp 74) = .slice a1 ps.length c1 := hF.each 1 (.eq _) _ rfl (hf.1 74 (by simp [Op.operands, Call.operands]))
              have hL := HL7.out.below hF.below
              refine ok_appL (.tmp 73) (.tmp 74) rfl w7.heap.size _ [] ls row rfl hou a1 ps.length c1 f74 ps HP1.out.1 rfl hL.nil (fun ad had j x hx => hL.cells j x hx ad had) hL.rg (fun p hp hr ad had e => by have h1 := (HL7.out.rg p hp).old hr ad had; have h2 := (hF.lt _ e).1; omega) (by have := HP1.out.2; simp; omega) hF.below.size fun v w2 row' ho hg hr => hF.turn 2 ls 5 v rfl hg hr ho ?_
              intro j ms m h
              have n5 := none_of hcl hfi (j := 5) (by decide)
              have n6 := none_of hcl n5 (j := 6) (by decide)
              obtain ⟨rfl, rfl⟩ | ⟨rfl, rfl⟩ | ⟨rfl, rfl⟩ | ⟨rfl, rfl⟩ := HOI.out j ms m h
              · exact .inr (.inl rfl)
              · exact .inl rfl
              · exact .inr (.inr (.inl n5))
              · exact .inr (.inr (.inl n6))
            · -- 3
              rintro ρ f w' ⟨row, hF⟩ hfi hw hcl hf
              have f11 : ρ (.tmp 11) = .pointer (some ⟨b11, 0, none⟩) := hf.1 11 (by simp [Op.operands])
              have ht := HT7.out.later hF.below
              have d0 := ht.cell 0
              have d1 := ht.cell 1
              simp only [List.getElem?_toArray, List.getElem?_cons_zero, List.getElem?_cons_succ] at d0 d1
              refine ok_value (v := .agg #[.slice ai rs.length ci, .int .i64 s]) (w' := w') ?_ (hF.step 3 (.eq _) _ rfl (Below.refl _ _) rfl)
              simp [execOp, f11, go_sem, d0, d1]
            · -- 4
              rintro ρ f w' ⟨row, hF⟩ hfi hw hcl hf
              have f76 : ρ (.tmp 76) = .agg #[.slice ai rs.length ci, .int .i64 s] := hF.each 3 (.eq _) _ rfl (hf.1 76 (by simp [Op.operands]))
              refine ok_value (v := .slice (some ⟨w'.heap.size, 0, none⟩) 1 1) (w' := w'.alloc (.cells #[.slice ai rs.length ci, .int .i64 s] 63)) ?_ (hF.step 4 (.pr _ (keeps_row (fun g => .slice (some ⟨g, 0, none⟩) 1 1) w7.heap.size 63 #[.slice ai rs.length ci, .int .i64 s])) _ rfl ((Below.refl _ _).alloc (Nat.le_refl _) _) ⟨w'.heap.size, rfl, Row.new _ _ _, fun e => by have := (hF.lt _ e).2; omega, hF.below.size⟩)
              simp [execOp, f76, go_sem]
            · -- 5
              rintro ρ f w' ⟨row, hF⟩ hfi hw hcl hf
              have hu := hf.1 75 (by simp [Op.operands, Call.operands])
              have hou := hF.each 2 (.own ls 5) _ rfl hu hfi
              obtain ⟨g, f77, hrow, hne, -⟩ := hF.each 4 (.pr _ (keeps_row (fun g => .slice (some ⟨g, 0, none⟩) 1 1) w7.heap.size 63 #[.slice ai rs.length ci, .int .i64 s])) _ rfl (hf.1 77 (by simp [Op.operands, Call.operands]))
              have hX := HX7.out.below hF.below
              refine ok_appL (.tmp 75) (.tmp 77) rfl w7.heap.size _ ls [⟨rs, s⟩] row rfl hou (some ⟨g, 0, none⟩) 1 1 f77 [(⟨rs, s⟩, ai, ci)] rfl rfl (fun e => by cases e) (fun ad had j x hx => row_src (l := [.slice ai rs.length ci, .int .i64 s]) hrow j x hx ad had) (fun p hp => by rcases List.mem_singleton.1 hp with rfl; exact hX) (fun p hp hr ad had e => by rcases List.mem_singleton.1 hp with rfl; have h1 := HX7.out.old hr ad had; have h2 := (hF.lt _ e).1; omega) (by have h1 := HP1.out.1; have h2 := HP1.out.2; rw [← h1, rlsOf_len]; omega) hF.below.size fun v w2 row' ho hg hr => hF.turn 5 (ls ++ [⟨rs, s⟩]) 6 v rfl hg hr ho ?_
              intro j ms m h
              have n6 := none_of hcl hfi (j := 6) (by decide)
              obtain ⟨rfl, rfl⟩ | ⟨rfl, rfl⟩ | ⟨rfl, rfl⟩ | ⟨rfl, rfl⟩ := HOI.out j ms m h
              · exact .inr (.inr (.inr (hw 2 (by decide))))
              · exact .inr (.inl rfl)
              · exact .inl rfl
              · exact .inr (.inr (.inl n6))
            · -- 6
              rintro ρ f w' ⟨row, hF⟩ hfi hw hcl hf
              have hu := hf.1 78 (by simp [Op.operands])
              have hou := hF.each 5 (.own (ls ++ [⟨rs, s⟩]) 6) _ rfl hu hfi
              refine ok_value (v := ρ (.tmp 78)) (w' := w') (by simp [execOp]) (hF.step 6 (.own (ls ++ [⟨rs, s⟩]) 1000) _ rfl (Below.refl _ _) (fun _ => hou))
          case fini =>
            rintro vs w8 hlen ⟨row, hF⟩
            have hl0 : vs.length = 7 := hlen
            clear hlen
            obtain ⟨v0, t0, rfl, hl1⟩ := uncons hl0
            obtain ⟨v1, t1, rfl, hl2⟩ := uncons hl1
            obtain ⟨v2, t2, rfl, hl3⟩ := uncons hl2
            obtain ⟨v3, t3, rfl, hl4⟩ := uncons hl3
            obtain ⟨v4, t4, rfl, hl5⟩ := uncons hl4
            obtain ⟨v5, t5, rfl, hl6⟩ := uncons hl5
            obtain ⟨v6, t6, rfl, hl7⟩ := uncons hl6
            obtain rfl := List.eq_nil_of_length_eq_zero hl7
            clear hl0 hl1 hl2 hl3 hl4 hl5 hl6 hl7
            obtain ⟨ps8, hp8, hO8, -, -⟩ := hF.each 6 (.own (ls ++ [⟨rs, s⟩]) 1000) v6 rfl rfl rfl
            have hB8 := hF.below
            clear hF
            simp only [putAll, List.zip_cons_cons, List.zip_nil_right, List.foldl_cons, List.foldl_nil]
            simp only [Act.put, List.setIfInBounds_toArray, List.set_cons_succ, List.set_cons_zero]
            have hl8 : (rlsOf ps8).length = ps8.length := rlsOf_len ps8
            have hk8 : ps8.length ≤ 6 := by
              have h1 := HP1.out.1
              have h2 := HP1.out.2
              rw [hp8] at hl8
              rw [← hl8, List.length_append, ← h1, rlsOf_len]
              simp; omega
            obtain ⟨a8, c8, rfl, hL8⟩ := hO8.lsm (by omega)
            have hr8 := hL8.rls
            rw [hp8] at hr8
            have HLG : Hid (lgOk 7 1 (ls ++ [⟨rs, s⟩]) = false) := Lib.hid (by unfold lgOk; rw [HBAD.out, Bool.and_false])
            have HTD : Hid (tdV 7 1 (ls ++ [⟨rs, s⟩]) 1 [] = (0, 0, 2)) := Lib.hid (by unfold tdV tdOk; rw [HLG.out]; rfl)
            have HCK : Hid (ckOk 7 1 (ls ++ [⟨rs, s⟩]) [] = false) := Lib.hid (by unfold ckOk; rw [HLG.out]; rfl)
            generalize ls ++ [⟨rs, s⟩] = bad at *
            generalize ps8.length = k8 at *
            have H78 := Lib.hid (HB7.out.trans (hB8.mono HB7.out.size))
            have HR8 := Lib.hid hr8
            have h7 : W64 7 := by unfold W64; decide
            clear hr8 hL8 hO8 hB8 hp8 hl8 hk8 HOI HX7 HT7 HL7 HRx HNR e0 e1
            go_wp2_with fail
            refine (sg_CountsV 7 1 a8 k8 c8 bad h7 _ HR8.out).mono ?_
            rw [HLG.out]
            rintro e w9 ⟨⟨a9, c9, rfl, -⟩, hb9⟩
            simp only [show resN 10 false = 0 from rfl, show okE false = 2 from rfl]
            have HR9 := Lib.hid (HR8.out.below (Nat.le_refl _) hb9)
            have H79 := Lib.hid (H78.out.trans (hb9.mono H78.out.size))
            clear hb9 H78 HR8
            go_wp2_with fail
            refine (sg_ToldV 7 1 a8 k8 c8 bad 1 none 0 0 [] h7 _ HR9.out (Rgs.nil _)).mono ?_
            rw [HTD.out]
            rintro e w10 ⟨rfl, hb10⟩
            have HR10 := Lib.hid (HR9.out.below (Nat.le_refl _) hb10)
            have H710 := Lib.hid (H79.out.trans (hb10.mono H79.out.size))
            clear hb10 H79 HR9
            go_wp2_with fail
            refine (sg_CheckV 7 1 a8 k8 c8 bad none 0 0 [] h7 _ HR10.out (Cms.nil _)).mono ?_
            rw [HCK.out]
            rintro e w11 ⟨⟨v11, rfl, -⟩, hb11⟩
            simp only [show okE false = 2 from rfl]
            have HR11 := Lib.hid (HR10.out.below (Nat.le_refl _) hb11)
            have H711 := Lib.hid (H710.out.trans (hb11.mono H710.out.size))
            clear hb11 H710 HR10
            go_wp2_with fail
            refine (sg_Right a8 k8 c8 bad _ HR11.out).mono ?_
            rw [HBAD.out]
            rintro e w12 ⟨rfl, hb12⟩
            have H712 := Lib.hid (H711.out.trans (hb12.mono H711.out.size))
            clear hb12 H711 HR11
            go_wp2_with fail
            exact ⟨⟨k + 1, by omega, by simp, H712.out⟩, by simp [intOf]; omega⟩
        · obtain rfl : k = 4 := by omega
          simp only [show ((4 : Nat) : Int) = 4 from rfl]
          have HL9 := Lib.hid (HL6.out.below HBr.out)
          have HRL9 := Lib.hid (HRL6.out.below HBr.out)
          have HB9 := Lib.hid (HB6.out.trans (HBr.out.mono HB6.out.size))
          have M0 : Hid (mn n 0 ≤ 0) := Lib.hid (by unfold mn; split <;> omega)
          have M1 : Hid (mn n (-1) ≤ -1) := Lib.hid (by unfold mn; split <;> omega)
          have X10 : Hid (10 ≤ mx n 10) := Lib.hid (by unfold mx; split <;> omega)
          have X1001 : Hid (1001 ≤ mx n 1001) := Lib.hid (by unfold mx; split <;> omega)
          have X14 : Hid (14 ≤ mx n 14) := Lib.hid (by unfold mx; split <;> omega)
          clear HL6 HRL6 HB6 HBr HQ HK4 HLT4
          go_wp2_with (first | refine wpList_min rfl (.tmp 112) (.const (.int .i64 0)) _ _ rfl n 0 rfl rfl ?_ | refine wpList_max rfl (.tmp 115) (.const (.int .i64 10)) _ _ rfl n 10 rfl rfl ?_ | refine wpList_min rfl (.tmp 118) (.const (.int .i64 (-1))) _ _ rfl n (-1) rfl rfl ?_ | refine wpList_max rfl (.tmp 121) (.const (.int .i64 1001)) _ _ rfl n 1001 rfl rfl ?_)
          have hb9 : Below wr.heap.size wr (wr.alloc (.cells #[.int .i64 (mn n 0), .int .i64 0, .int .i64 0, .slice none 0 0, .int .i64 (mx n 10), .int .i64 0, .int .i64 0, .slice none 0 0, .int .i64 1, .int .i64 (mn n (-1)), .int .i64 0, .slice none 0 0, .int .i64 1, .int .i64 0, .int .i64 (mx n 1001), .slice none 0 0, .int .i64 1, .int .i64 6, .int .i64 5, .slice none 0 0, .int .i64 1, .int .i64 0, .int .i64 0, .slice aL 21 cL] 29)) := (Below.refl _ _).alloc (Nat.le_refl _) _
          have hr9 : Row (wr.alloc (.cells #[.int .i64 (mn n 0), .int .i64 0, .int .i64 0, .slice none 0 0, .int .i64 (mx n 10), .int .i64 0, .int .i64 0, .slice none 0 0, .int .i64 1, .int .i64 (mn n (-1)), .int .i64 0, .slice none 0 0, .int .i64 1, .int .i64 0, .int .i64 (mx n 1001), .slice none 0 0, .int .i64 1, .int .i64 6, .int .i64 5, .slice none 0 0, .int .i64 1, .int .i64 0, .int .i64 0, .slice aL 21 cL] 29)) wr.heap.size 29 #[.int .i64 (mn n 0), .int .i64 0, .int .i64 0, .slice none 0 0, .int .i64 (mx n 10), .int .i64 0, .int .i64 0, .slice none 0 0, .int .i64 1, .int .i64 (mn n (-1)), .int .i64 0, .slice none 0 0, .int .i64 1, .int .i64 0, .int .i64 (mx n 1001), .slice none 0 0, .int .i64 1, .int .i64 6, .int .i64 5, .slice none 0 0, .int .i64 1, .int .i64 0, .int .i64 0, .slice aL 21 cL] := Row.new _ _ _
          generalize hw9 : wr.alloc (.cells #[.int .i64 (mn n 0), .int .i64 0, .int .i64 0, .slice none 0 0, .int .i64 (mx n 10), .int .i64 0, .int .i64 0, .slice none 0 0, .int .i64 1, .int .i64 (mn n (-1)), .int .i64 0, .slice none 0 0, .int .i64 1, .int .i64 0, .int .i64 (mx n 1001), .slice none 0 0, .int .i64 1, .int .i64 6, .int .i64 5, .slice none 0 0, .int .i64 1, .int .i64 0, .int .i64 0, .slice aL 21 cL] 29) = w9 at *
          clear hw9
          have HL9 := Lib.hid (HL9.out.below hb9)
          have HRL9 := Lib.hid (HRL9.out.below hb9)
          have HB9 := Lib.hid (HB9.out.trans (hb9.mono HB9.out.size))
          have HR9 := Lib.hid hr9
          clear hb9 hr9
          generalize wr.heap.size = b6 at *
          have hcn : ∀ w', RgC w' none 0 [] := fun w' => ⟨Rgs.nil _, Nat.le_refl _, fun _ => rfl⟩
          have HQ : Hid (∀ (k : Nat) (p : Cm × Option Addr × Nat), ([(⟨mn n 0, 0, 0, []⟩, none, 0), (⟨mx n 10, 0, 0, []⟩, none, 0), (⟨1, mn n (-1), 0, []⟩, none, 0), (⟨1, 0, mx n 1001, []⟩, none, 0), (⟨1, 6, 5, []⟩, none, 0), (⟨1, 0, 0, List.replicate 21 (rgP 0 40)⟩, aL, cL)] : List (Cm × Option Addr × Nat))[k]? = some p →
              w9.cell? ⟨b6, k * 4, none⟩ = some (.int .i64 p.1.s) ∧ w9.cell? ⟨b6, k * 4 + 1, none⟩ = some (.int .i64 p.1.lo) ∧ w9.cell? ⟨b6, k * 4 + 2, none⟩ = some (.int .i64 p.1.hi) ∧ w9.cell? ⟨b6, k * 4 + 3, none⟩ = some (.slice p.2.1 p.1.rs.length p.2.2) ∧ RgC w9 p.2.1 p.2.2 p.1.rs ∧ p.1.ok = false) := Lib.hid fun k p hp => by
            match k, hp with
            | 0, hp =>
              obtain rfl := Option.some.inj hp
              exact ⟨HR9.out.cell 0, HR9.out.cell 1, HR9.out.cell 2, HR9.out.cell 3, hcn _, by have := M0.out; unfold Cm.ok namedB; simp; omega⟩
            | 1, hp =>
              obtain rfl := Option.some.inj hp
              exact ⟨HR9.out.cell 4, HR9.out.cell 5, HR9.out.cell 6, HR9.out.cell 7, hcn _, by have := X10.out; unfold Cm.ok namedB; simp; omega⟩
            | 2, hp =>
              obtain rfl := Option.some.inj hp
              exact ⟨HR9.out.cell 8, HR9.out.cell 9, HR9.out.cell 10, HR9.out.cell 11, hcn _, by have := M1.out; unfold Cm.ok namedB; simp; omega⟩
            | 3, hp =>
              obtain rfl := Option.some.inj hp
              exact ⟨HR9.out.cell 12, HR9.out.cell 13, HR9.out.cell 14, HR9.out.cell 15, hcn _, by have := X1001.out; unfold Cm.ok namedB; simp; omega⟩
            | 4, hp =>
              obtain rfl := Option.some.inj hp
              exact ⟨HR9.out.cell 16, HR9.out.cell 17, HR9.out.cell 18, HR9.out.cell 19, hcn _, rfl⟩
            | 5, hp =>
              obtain rfl := Option.some.inj hp
              exact ⟨HR9.out.cell 20, HR9.out.cell 21, HR9.out.cell 22, by rw [List.length_replicate]; exact HR9.out.cell 23, HRL9.out, by unfold Cm.ok; simp [rightV]⟩
            | k + 6, hp => simp at hp
          have HK6 : Hid (∀ k, k < 6 → ∃ p, ([(⟨mn n 0, 0, 0, []⟩, none, 0), (⟨mx n 10, 0, 0, []⟩, none, 0), (⟨1, mn n (-1), 0, []⟩, none, 0), (⟨1, 0, mx n 1001, []⟩, none, 0), (⟨1, 6, 5, []⟩, none, 0), (⟨1, 0, 0, List.replicate 21 (rgP 0 40)⟩, aL, cL)] : List (Cm × Option Addr × Nat))[k]? = some p) := Lib.hid fun k hk => ⟨_, List.getElem?_eq_getElem (by simpa using hk)⟩
          have HLT6 := Lib.hid HR9.out.lt
          clear HR9 M0 X10 X1001 hcn
          generalize ([(⟨mn n 0, 0, 0, []⟩, none, 0), (⟨mx n 10, 0, 0, []⟩, none, 0), (⟨1, mn n (-1), 0, []⟩, none, 0), (⟨1, 0, mx n 1001, []⟩, none, 0), (⟨1, 6, 5, []⟩, none, 0), (⟨1, 0, 0, List.replicate 21 (rgP 0 40)⟩, aL, cL)] : List (Cm × Option Addr × Nat)) = q6 at *
          have M1 := M1
          have X10 : Hid (10 ≤ mx n 10) := Lib.hid (by unfold mx; split <;> omega)
          have h7 : W64 7 := by unfold W64; decide
          have HLG : Hid (lgOk 7 1 ls = true) := Lib.hid (by unfold lgOk; rw [KL.out]; rfl)
          go_loopw [129] (fun i w10 => ∃ (k : Nat), k ≤ 6 ∧ i = .int .i64 (k : Int) ∧ Below w9.heap.size w9 w10) (fun i _ => 6 - (intOf i).toNat)
          case atStart => exact ⟨0, by omega, rfl, Below.refl _ _⟩
          case round =>
            obtain ⟨k, hk, rfl, hb⟩ := hrel
            have HBr := Lib.hid hb
            clear hb
            by_cases hlt : k < 6
            · have hd : decide ((k : Int) < 6) = true := by simp; omega
              have hki : (k : Int) < 6 := by omega
              obtain ⟨⟨⟨s, lo, hi, rs⟩, ai, ci⟩, hp⟩ := HK6.out k hlt
              obtain ⟨q1, q2, q3, q4, q5, q6'⟩ := HQ.out k _ hp
              simp only at q1 q2 q3 q4 q5 q6'
              have e0 := (HBr.out.cell (p := ⟨b6, k * 4, none⟩) HLT6.out).trans q1
              have e1 := (HBr.out.cell (p := ⟨b6, k * 4 + 1, none⟩) HLT6.out).trans q2
              have e2 := (HBr.out.cell (p := ⟨b6, k * 4 + 2, none⟩) HLT6.out).trans q3
              have e3 := (HBr.out.cell (p := ⟨b6, k * 4 + 3, none⟩) HLT6.out).trans q4
              have HRx := Lib.hid (q5.below HBr.out)
              have HAN : Hid (annV [⟨s, lo, hi, rs⟩] = false) := Lib.hid (ann_bad (k := 0) rfl q6')
              have HCK : Hid (ckOk 7 1 ls [⟨s, lo, hi, rs⟩] = false) := Lib.hid (by unfold ckOk; rw [HAN.out, Bool.and_false])
              clear q1 q2 q3 q4 q5 q6' hp
              go_wp2_with fail
              have hb2 : Below wr.heap.size wr ((wr.alloc (.cells #[.int .i64 s, .int .i64 lo, .int .i64 hi, .slice ai rs.length ci] 29)).alloc (.cells #[.int .i64 s, .int .i64 lo, .int .i64 hi, .slice ai rs.length ci] 29)) := ((Below.refl _ _).alloc (Nat.le_refl _) _).alloc (by simp) _
              have hq : Row ((wr.alloc (.cells #[.int .i64 s, .int .i64 lo, .int .i64 hi, .slice ai rs.length ci] 29)).alloc (.cells #[.int .i64 s, .int .i64 lo, .int .i64 hi, .slice ai rs.length ci] 29)) wr.heap.size 29 #[.int .i64 s, .int .i64 lo, .int .i64 hi, .slice ai rs.length ci] := (Row.new wr _ _).alloc _
              have hp2 : Row ((wr.alloc (.cells #[.int .i64 s, .int .i64 lo, .int .i64 hi, .slice ai rs.length ci] 29)).alloc (.cells #[.int .i64 s, .int .i64 lo, .int .i64 hi, .slice ai rs.length ci] 29)) (wr.heap.size + 1) 29 #[.int .i64 s, .int .i64 lo, .int .i64 hi, .slice ai rs.length ci] := Row.new1 _ _ _ _
              have hx2 := HRx.out.below hb2
              have hc2 := cms_row hp2 [⟨s, lo, hi, rs⟩] (fun i x hx => by
                match i, hx with
                | 0, hx => obtain rfl := Option.some.inj hx; exact ⟨ai, ci, rfl, rfl, rfl, rfl, hx2⟩
                | i + 1, hx => simp at hx) (by simp)
              have hl2 := HL9.out.below (HBr.out.trans (hb2.mono HBr.out.size))
              refine (sg_CheckV 7 1 a1 ps.length c1 ls (some ⟨wr.heap.size + 1, 0, none⟩) 1 1 [⟨s, lo, hi, rs⟩] h7 _ (HP1.out.1 ▸ hl2.rls) hc2).mono ?_
              rw [HCK.out]
              rintro e w11 ⟨⟨v11, rfl, -⟩, hb11⟩
              simp only [show okE false = 2 from rfl]
              have hq11 := hq.later hb11
              have HX11 := Lib.hid (hx2.below hb11)
              have HB11 := Lib.hid ((HBr.out.trans (hb2.mono HBr.out.size)).trans (hb11.mono (HBr.out.trans (hb2.mono HBr.out.size)).size))
              have d0 := hq11.cell 0
              have d1 := hq11.cell 1
              have d2 := hq11.cell 2
              have d3 := hq11.cell 3
              simp only [List.getElem?_toArray, List.getElem?_cons_zero, List.getElem?_cons_succ] at d0 d1 d2 d3
              clear hb2 hq hp2 hx2 hc2 hl2 hb11 hq11 e0 e1 e2 e3
              go_wp2_with fail
              have hb12 : Below w11.heap.size w11 (w11.alloc (.cells #[.int .i64 s, .int .i64 lo, .int .i64 hi, .slice ai rs.length ci] 29)) := (Below.refl _ _).alloc (Nat.le_refl _) _
              have hx12 := HX11.out.below hb12
              have hc12 := cms_row (Row.new w11 29 #[.int .i64 s, .int .i64 lo, .int .i64 hi, .slice ai rs.length ci]) [⟨s, lo, hi, rs⟩] (fun i x hx => by
                match i, hx with
                | 0, hx => obtain rfl := Option.some.inj hx; exact ⟨ai, ci, rfl, rfl, rfl, rfl, hx12⟩
                | i + 1, hx => simp at hx) (by simp)
              refine (sg_Announced (some ⟨w11.heap.size, 0, none⟩) 1 1 [⟨s, lo, hi, rs⟩] _ hc12).mono ?_
              rw [HAN.out]
              rintro e w13 ⟨rfl, hb13⟩
              have h1 := HB11.out.trans (hb12.mono HB11.out.size)
              have HB13 := Lib.hid (h1.trans (hb13.mono h1.size))
              clear hb12 hx12 hc12 hb13 h1 d0 d1 d2 d3
              go_wp2_with fail
              exact ⟨⟨k + 1, by omega, by simp, HB13.out⟩, by simp [intOf]; omega⟩
            · obtain rfl : k = 6 := by omega
              simp only [show ((6 : Nat) : Int) = 6 from rfl]
              obtain ⟨arr, hmk, harr⟩ := make_claims wr
              have HARR := Lib.hid harr
              clear harr
              have hb14 : Below wr.heap.size wr (wr.alloc (.cells arr 29)) := (Below.refl _ _).alloc (Nat.le_refl _) _
              have hL14 := HL9.out.below (HBr.out.trans (hb14.mono HBr.out.size))
              have hC14 : Cms (wr.alloc (.cells arr 29)) (some ⟨wr.heap.size, 0, none⟩) 21 (List.replicate 21 ⟨0, 0, 0, []⟩) := by
                have := cms_row (Row.new wr 29 arr) (List.replicate 21 ⟨0, 0, 0, []⟩) (fun i x hx => by
                  have hi : i < 21 := by have := (List.getElem?_eq_some_iff.1 hx).1; simpa using this
                  have hxe := List.eq_of_mem_replicate (List.mem_of_getElem? hx)
                  subst hxe
                  obtain ⟨k0, k1, k2, k3⟩ := HARR.out i hi
                  exact ⟨none, 0, k0, k1, k2, k3, ⟨Rgs.nil _, Nat.le_refl _, fun _ => rfl⟩⟩) (by simp)
                rw [List.length_replicate] at this
                exact this
              have HCK : Hid (ckOk 7 1 ls (List.replicate 21 ⟨0, 0, 0, []⟩) = false) := Lib.hid (by unfold ckOk; rw [ann_long (by simp), Bool.and_false])
              go_wp2_with fail
              refine (sg_CheckV 7 1 a1 ps.length c1 ls (some ⟨wr.heap.size, 0, none⟩) 21 21 (List.replicate 21 ⟨0, 0, 0, []⟩) h7 _ (HP1.out.1 ▸ hL14.rls) hC14).mono ?_
              rw [HCK.out]
              rintro e w15 ⟨⟨v15, rfl, -⟩, hb15⟩
              simp only [show okE false = 2 from rfl]
              have HR15 : Hid (Rls w15 a1 ps.length ls) := Lib.hid (HP1.out.1 ▸ (hL14.below hb15).rls)
              have hbb := HBr.out.trans (hb14.mono HBr.out.size)
              have hb915 := hbb.trans (hb15.mono hbb.size)
              have HLg15 := Lib.hid (HRL9.out.below hb915)
              have HB15 := Lib.hid (HB9.out.trans (hb915.mono HB9.out.size))
              clear hb14 hL14 hC14 hb15 hbb hb915 hmk HCK HARR HL9 HB9 HRL9 HBr HQ HK6 HLT6
              generalize ps.length = pl at *
              have hW52 : W64 4503599627370496 := by unfold W64; decide
              have HG1 : Hid (lgOk 4503599627370496 1 ls = false) := Lib.hid rfl
              go_wp2_with fail
              refine (sg_CountsV 4503599627370496 1 a1 pl c1 ls hW52 _ HR15.out).mono ?_
              rw [HG1.out]
              rintro e w16 ⟨⟨a16, c16, rfl, -⟩, hb16⟩
              simp only [show resN 10 false = 0 from rfl, show okE false = 2 from rfl]
              have HR16 := Lib.hid (HR15.out.below (Nat.le_refl _) hb16)
              have HLg16 := Lib.hid (HLg15.out.below hb16)
              have HB16 := Lib.hid (HB15.out.trans (hb16.mono HB15.out.size))
              clear hb16 HR15 HLg15 HB15
              have HG2 : Hid (lgOk 7 (mx n 14) ls = false) := Lib.hid (by have := X14.out; unfold lgOk legalB; simp; omega)
              go_wp2_with (refine wpList_max rfl (.tmp 160) (.const (.int .i64 14)) _ _ rfl n 14 rfl rfl ?_)
              refine (sg_CountsV 7 (mx n 14) a1 pl c1 ls h7 _ HR16.out).mono ?_
              rw [HG2.out]
              rintro e w17 ⟨⟨a17, c17, rfl, -⟩, hb17⟩
              simp only [show resN 10 false = 0 from rfl, show okE false = 2 from rfl]
              have HR17 := Lib.hid (HR16.out.below (Nat.le_refl _) hb17)
              have HLg17 := Lib.hid (HLg16.out.below hb17)
              have HB17 := Lib.hid (HB16.out.trans (hb17.mono HB16.out.size))
              clear hb17 HR16 HLg16 HB16
              have HG3 : Hid (tdV 7 1 ls (mx n 10) [] = (0, 0, 2)) := Lib.hid (by
                unfold tdV
                rw [if_neg]
                have := X10.out
                unfold tdOk namedB
                simp; omega)
              go_wp2_with (refine wpList_max rfl (.tmp 168) (.const (.int .i64 10)) _ _ rfl n 10 rfl rfl ?_)
              refine (sg_ToldV 7 1 a1 pl c1 ls (mx n 10) none 0 0 [] h7 _ HR17.out (Rgs.nil _)).mono ?_
              rw [HG3.out]
              rintro e w18 ⟨rfl, hb18⟩
              have HR18 := Lib.hid (HR17.out.below (Nat.le_refl _) hb18)
              have HLg18 := Lib.hid (HLg17.out.below hb18)
              have HB18 := Lib.hid (HB17.out.trans (hb18.mono HB17.out.size))
              clear hb18 HR17 HLg17 HB17
              have HG4 : Hid (tdV 7 1 ls (mn n (-1)) [] = (0, 0, 2)) := Lib.hid (by
                unfold tdV
                rw [if_neg]
                have : mn n (-1) ≤ -1 := by unfold mn; split <;> omega
                unfold tdOk namedB
                simp; omega)
              go_wp2_with (refine wpList_min rfl (.tmp 176) (.const (.int .i64 (-1))) _ _ rfl n (-1) rfl rfl ?_)
              refine (sg_ToldV 7 1 a1 pl c1 ls (mn n (-1)) none 0 0 [] h7 _ HR18.out (Rgs.nil _)).mono ?_
              rw [HG4.out]
              rintro e w19 ⟨rfl, hb19⟩
              have HR19 := Lib.hid (HR18.out.below (Nat.le_refl _) hb19)
              have HLg19 := Lib.hid (HLg18.out.below hb19)
              have HB19 := Lib.hid (HB18.out.trans (hb19.mono HB18.out.size))
              clear hb19 HR18 HLg18 HB18
              have HG5 : Hid (tdV 7 1 ls 0 (List.replicate 21 (rgP 0 40)) = (0, 0, 2)) := Lib.hid (by
                unfold tdV
                rw [if_neg]
                unfold tdOk
                simp [rightV])
              have hlg := HLg19.out.rgs
              rw [List.length_replicate] at hlg
              have HLg := Lib.hid hlg
              clear hlg
              go_wp2_with fail
              refine (sg_ToldV 7 1 a1 pl c1 ls 0 aL 21 cL (List.replicate 21 (rgP 0 40)) h7 _ HR19.out HLg.out).mono ?_
              rw [HG5.out]
              rintro e w20 ⟨rfl, hb20⟩
              have HB20 := Lib.hid (HB19.out.trans (hb20.mono HB19.out.size))
              clear hb20 HR19 HLg19 HB19
              go_wp2_with fail
              refine (law41_awake _).mono ?_
              rintro e w21 ⟨rfl, hb21⟩
              have HB21 := Lib.hid (HB20.out.trans (hb21.mono HB20.out.size))
              clear hb21
              go_wp2_with fail
              go_ret
              exact ⟨rfl, HB21.out⟩
end Go.Proofs.Ytikdkhiehfccpaa
