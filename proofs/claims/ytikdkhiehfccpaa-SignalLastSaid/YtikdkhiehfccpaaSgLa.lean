/- SignalLast over this seat's program: the body (regions of appends printed by genlast.py). -/
import Derived.Test.YtikdkhiehfccpaaSgS
import Derived.Test.YtikdkhiehfccpaaSgT
namespace Go.Proofs.Ytikdkhiehfccpaa
open Go.RowKit Go.Sort Go.Shelf Cnt

set_option linter.unusedSimpArgs false
set_option maxHeartbeats 20000000 in
set_option maxRecDepth 10000 in
theorem law_SignalLast (left : Nat) (n : Nat) (ax : Option Addr) (lx cx : Nat) (css : List (List Cd)) (az : Option Addr) (lz cz : Nat) (ss : List Nat) (at0 : Nat) (w : World)
    (hleft : W64 left) (hn : n < 256) (hx : Cdss w ax lx css) (hlx : lx ≤ cx) (hss : Byt w az lz ss) (_ : lz ≤ cz) (hat : at0 < 256) :
    Calls Try.prog 6 #[.int .u64 (left : Int), .int .u8 (n : Int), .slice ax lx cx, .slice az lz cz, .int .u8 (at0 : Int)] w fun e w' => e = .returned (.bool true) ∧ Below w.heap.size w w' := by
  have hlen := hx.length
  have hsm := hx.small
  have HX := Lib.hid (hx.take (min lx 4) (by omega))
  have HS := Lib.hid hss
  clear hx hss
  have hpk := bits_pk left hleft
  have HLL := Lib.hid (pk_lt left)
  generalize pk left = L at *
  have hnn : (n : Int) % 14 = ((n % 14 : Nat) : Int) := by omega
  have HNN := Lib.hid (show n % 14 ≤ 13 by omega)
  generalize n % 14 = nn at *
  have HM : Hid (mn (lx : Int) 4 = ((min lx 4 : Nat) : Int)) := Lib.hid (by unfold mn; split <;> omega)
  have hml : min lx 4 ≤ lx := by omega
  have hm4 : min lx 4 ≤ 4 := by omega
  have hmc : min lx 4 ≤ cx := by omega
  have hmci : ((min lx 4 : Nat) : Int) ≤ (cx : Int) := by omega
  generalize min lx 4 = m at *
  obtain ⟨hsg, hrn, hal⟩ := mdL_facts4 (css.take m) ss (by rw [List.length_take]; omega)
  have KS := Lib.hid hsg
  have KR := Lib.hid (And.intro hal hrn)
  have LLn := Lib.hid (made41_len (css.take m) ss)
  clear hsg hrn hal
  generalize hmd : made41 (css.take m) ss = ls at *
  go_enter Try.func6, Try.ntmps6
  go_wp2_with (refine wpList_min rfl (.tmp 34) (.const (.int .i64 4)) _ _ rfl (lx : Int) 4 rfl rfl ?_; rw [HM.out])
  refine (law41_Made ax m cx (css.take m) az lz cz ss _ HX.out hmc HS.out).mono ?_
  rintro e w1 ⟨⟨v1, ps, rfl, hv1, hps⟩, hb1⟩
  rw [hmd] at hps
  have hpl : ps.length ≤ 5 := by have := LLn.out; rw [← hps, rlsOf_len] at this; exact this
  obtain ⟨a1, c1, rfl, hl1⟩ := hv1.lsm (by omega)
  have HP1 := Lib.hid (And.intro hps hpl)
  have HL1 := Lib.hid hl1
  have HB1 := Lib.hid hb1
  clear hv1 hl1 hb1 hmd hps hpl hml hm4 hmc hmci hlen hsm HM HX HS
  go_wp2_with fail
  refine (law_points 0 40 _).mono ?_
  rintro e w2 ⟨rfl, hb2⟩
  have hb5 : Below w1.heap.size w1 ((w2.alloc (.cells (rgP 0 40).arr 73)).alloc (.cells #[.slice (some ⟨w2.heap.size, 0, none⟩) 1 1, .int .i64 9] 63)) := (hb2.alloc hb2.size _).alloc (by have := hb2.size; simp; omega) _
  have ht5 : Row ((w2.alloc (.cells (rgP 0 40).arr 73)).alloc (.cells #[.slice (some ⟨w2.heap.size, 0, none⟩) 1 1, .int .i64 9] 63)) (w2.heap.size + 1) 63 #[.slice (some ⟨w2.heap.size, 0, none⟩) 1 1, .int .i64 9] := Row.new1 _ _ _ _
  have hx5 : RgC ((w2.alloc (.cells (rgP 0 40).arr 73)).alloc (.cells #[.slice (some ⟨w2.heap.size, 0, none⟩) 1 1, .int .i64 9] 63)) (some ⟨w2.heap.size, 0, none⟩) 1 [rgP 0 40] := (rc_new w2 (rgP 0 40)).below ((Below.refl _ _).alloc (Nat.le_refl _) _)
  go_wp2_with fail
  generalize hw5 : ((w2.alloc (.cells (rgP 0 40).arr 73)).alloc (.cells #[.slice (some ⟨w2.heap.size, 0, none⟩) 1 1, .int .i64 9] 63)) = w5 at *
  clear hw5 hb2
  have HB5 := Lib.hid hb5
  have HT5 := Lib.hid ht5
  have HX5 := Lib.hid hx5
  have HL5 := Lib.hid (HL1.out.below hb5)
  clear hb5 ht5 hx5
  obtain ⟨b13, hb13⟩ : ∃ b, w2.heap.size + 1 = b := ⟨_, rfl⟩
  rw [hb13] at HT5 ⊢
  clear hb13
  generalize w2.heap.size = bF at *
  have HRT : Hid (rightS (ls ++ [fullR 9]) = true) := Lib.hid (right_app KR.out.1 KR.out.2 rfl (by decide))
  obtain ⟨fA, HfA⟩ : ∃ f, Hid (cnV L (nn : Int) (ls ++ [fullR 9]) = f) := ⟨_, Lib.hid rfl⟩
  have HOI : Hid (∀ (j : Nat) (ms : List Rl) (m : Nat), ([.eq (.int .u64 (L : Int)), .eq (.int .i64 (nn : Int)), .own [] 4, .eq (.slice a1 ps.length c1), .own (ls) 7, .eq (.agg #[.slice (some ⟨bF, 0, none⟩) 1 1, .int .i64 9]), .pr _ (keeps_row (fun g => .slice (some ⟨g, 0, none⟩) 1 1) w5.heap.size 63 #[.slice (some ⟨bF, 0, none⟩) 1 1, .int .i64 9]), .own (ls ++ [fullR 9]) 8, .pr _ (keeps_row (fun g => .tuple #[.slice (some ⟨g, 0, none⟩) 10 10, .int .i64 0]) w5.heap.size 3 (tab 10 fA)), .pr _ (keeps_row (fun g => .tuple #[.slice (some ⟨g, 0, none⟩) 10 10, .int .i64 0]) w5.heap.size 3 (tab 10 fA)), .pr _ (keeps_row (fun g => .slice (some ⟨g, 0, none⟩) 10 10) w5.heap.size 3 (tab 10 fA)), .eq (.int .i64 0), .pr _ (keeps_row (fun g => .slice (some ⟨g, 0, none⟩) 10 10) w5.heap.size 3 (tab 10 fA)), .eq (.int .i64 0)] : List SpL)[j]? = some (.own ms m) → (j = 2 ∧ m = 4) ∨ (j = 4 ∧ m = 7) ∨ (j = 7 ∧ m = 8)) := Lib.hid (by
    intro j ms m h
    rcases j with _ | _ | _ | _ | _ | _ | _ | _ | _ | _ | _ | _ | _ | _ | _
    all_goals (simp at h; try (simp [← h.2])))
  refine wp_region_reliesG (FG w5 [.eq (.int .u64 (L : Int)), .eq (.int .i64 (nn : Int)), .own [] 4, .eq (.slice a1 ps.length c1), .own (ls) 7, .eq (.agg #[.slice (some ⟨bF, 0, none⟩) 1 1, .int .i64 9]), .pr _ (keeps_row (fun g => .slice (some ⟨g, 0, none⟩) 1 1) w5.heap.size 63 #[.slice (some ⟨bF, 0, none⟩) 1 1, .int .i64 9]), .own (ls ++ [fullR 9]) 8, .pr _ (keeps_row (fun g => .tuple #[.slice (some ⟨g, 0, none⟩) 10 10, .int .i64 0]) w5.heap.size 3 (tab 10 fA)), .pr _ (keeps_row (fun g => .tuple #[.slice (some ⟨g, 0, none⟩) 10 10, .int .i64 0]) w5.heap.size 3 (tab 10 fA)), .pr _ (keeps_row (fun g => .slice (some ⟨g, 0, none⟩) 10 10) w5.heap.size 3 (tab 10 fA)), .eq (.int .i64 0), .pr _ (keeps_row (fun g => .slice (some ⟨g, 0, none⟩) 10 10) w5.heap.size 3 (tab 10 fA)), .eq (.int .i64 0)]) (by kernel_rfl) (by kernel_rfl) (by kernel_rfl) (by kernel_rfl) (fg_start _ _) ?obls ?fini
  case obls =>
    refine ⟨?_, ?_, ?_, ?_, ?_, ?_, ?_, ?_, ?_, ?_, ?_, ?_, ?_, ?_, trivial⟩
    · -- 0
      rintro ρ f w' ⟨row, hF⟩ hfi hw hcl hf
      have f0 : ρ (.tmp 0) = .int .u64 (L : Int) := hf.1 0 (by simp [Op.operands])
      exact ok_value (v := .int .u64 (L : Int)) (w' := w') (by simp [execOp, f0]) (hF.step 0 (.eq _) _ rfl (Below.refl _ _) rfl)
    · -- 1
      rintro ρ f w' ⟨row, hF⟩ hfi hw hcl hf
      have f11 : ρ (.tmp 11) = .int .i64 (nn : Int) := hf.1 11 (by simp [Op.operands])
      exact ok_value (v := .int .i64 (nn : Int)) (w' := w') (by simp [execOp, f11]) (hF.step 1 (.eq _) _ rfl (Below.refl _ _) rfl)
    · -- 2
      rintro ρ f w' ⟨row, hF⟩ hfi hw hcl hf
      refine ok_value (v := .slice (some ⟨w'.heap.size, 0, none⟩) 0 0) (w' := w'.alloc (.cells #[] 63)) (by simp [execOp, go_sem]) (hF.turn 2 [] 4 _ rfl (grownBy_below ((Below.refl _ _).alloc (Nat.le_refl _) _) _) (.inr ⟨_, rfl, Nat.le_refl _⟩) ⟨[], rfl, OwnL.made0 w' _ hF.below.size, rfl, by simp⟩ ?_)
      intro j ms m h
      have n4 := none_of hcl hfi (j := 4) (by decide)
      have n7 := none_of hcl n4 (j := 7) (by decide)
      obtain ⟨rfl, rfl⟩ | ⟨rfl, rfl⟩ | ⟨rfl, rfl⟩ := HOI.out j ms m h
      · exact .inl rfl
      · exact .inr (.inr (.inl n4))
      · exact .inr (.inr (.inl n7))
    · -- 3
      rintro ρ f w' ⟨row, hF⟩ hfi hw hcl hf
      have f12 : ρ (.tmp 12) = .slice a1 ps.length c1 := hf.1 12 (by simp [Op.operands])
      exact ok_value (v := .slice a1 ps.length c1) (w' := w') (by simp [execOp, f12]) (hF.step 3 (.eq _) _ rfl (Below.refl _ _) rfl)
    · -- 4
      rintro ρ f w' ⟨row, hF⟩ hfi hw hcl hf
      have hu := hf.1 45 (by simp [Op.operands, Call.operands])
      have hou := hF.each 2 (.own [] 4) _ rfl hu hfi
      have f46 : ρ (.tmp 46) = .slice a1 ps.length c1 := hF.each 3 (.eq _) _ rfl (hf.1 46 (by simp [Op.operands, Call.operands]))
      have hL := HL5.out.below hF.below
      refine ok_appL (.tmp 45) (.tmp 46) rfl w5.heap.size _ ([]) (ls) row rfl hou a1 ps.length c1 f46 (ps) HP1.out.1 rfl hL.nil (fun ad had j x hx => hL.cells j x hx ad had) hL.rg (fun p hp hr ad had e => by have h1 := (HL5.out.rg p hp).old hr ad had; have h2 := (hF.lt _ e).1; omega) (by have := HP1.out.2; simp; omega) hF.below.size fun v w2 row' ho hg hr => hF.turn 4 (ls) 7 v rfl hg hr ho ?_
      intro j ms m h
      have n7 := none_of hcl hfi (j := 7) (by decide)
      obtain ⟨rfl, rfl⟩ | ⟨rfl, rfl⟩ | ⟨rfl, rfl⟩ := HOI.out j ms m h
      · exact .inr (.inl rfl)
      · exact .inl rfl
      · exact .inr (.inr (.inl n7))
    · -- 5
      rintro ρ f w' ⟨row, hF⟩ hfi hw hcl hf
      have f13 : ρ (.tmp 13) = .pointer (some ⟨b13, 0, none⟩) := hf.1 13 (by simp [Op.operands])
      have ht := HT5.out.later hF.below
      have d0 := ht.cell 0
      have d1 := ht.cell 1
      simp only [List.getElem?_toArray, List.getElem?_cons_zero, List.getElem?_cons_succ] at d0 d1
      refine ok_value (v := .agg #[.slice (some ⟨bF, 0, none⟩) 1 1, .int .i64 9]) (w' := w') ?_ (hF.step 5 (.eq _) _ rfl (Below.refl _ _) rfl)
      simp [execOp, f13, go_sem, d0, d1]
    · -- 6
      rintro ρ f w' ⟨row, hF⟩ hfi hw hcl hf
      have f48 : ρ (.tmp 48) = .agg #[.slice (some ⟨bF, 0, none⟩) 1 1, .int .i64 9] := hF.each 5 (.eq _) _ rfl (hf.1 48 (by simp [Op.operands]))
      refine ok_value (v := .slice (some ⟨w'.heap.size, 0, none⟩) 1 1) (w' := w'.alloc (.cells #[.slice (some ⟨bF, 0, none⟩) 1 1, .int .i64 9] 63)) ?_ (hF.step 6 (.pr _ (keeps_row (fun g => .slice (some ⟨g, 0, none⟩) 1 1) w5.heap.size 63 #[.slice (some ⟨bF, 0, none⟩) 1 1, .int .i64 9])) _ rfl ((Below.refl _ _).alloc (Nat.le_refl _) _) ⟨w'.heap.size, rfl, Row.new _ _ _, fun e => by have := (hF.lt _ e).2; omega, hF.below.size⟩)
      simp [execOp, f48, go_sem]
    · -- 7
      rintro ρ f w' ⟨row, hF⟩ hfi hw hcl hf
      have hu := hf.1 47 (by simp [Op.operands, Call.operands])
      have hou := hF.each 4 (.own (ls) 7) _ rfl hu hfi
      obtain ⟨g, f49, hrow, hne, -⟩ := hF.each 6 (.pr _ (keeps_row (fun g => .slice (some ⟨g, 0, none⟩) 1 1) w5.heap.size 63 #[.slice (some ⟨bF, 0, none⟩) 1 1, .int .i64 9])) _ rfl (hf.1 49 (by simp [Op.operands, Call.operands]))
      have hX := HX5.out.below hF.below
      refine ok_appL (.tmp 47) (.tmp 49) rfl w5.heap.size _ (ls) ([fullR 9]) row rfl hou (some ⟨g, 0, none⟩) 1 1 f49 ([(fullR 9, some ⟨bF, 0, none⟩, 1)]) rfl rfl (fun e => by cases e) (fun ad had j x hx => row_src (l := [.slice (some ⟨bF, 0, none⟩) 1 1, .int .i64 9]) hrow j x hx ad had) (fun p hp => by rcases List.mem_singleton.1 hp with rfl; exact hX) (fun p hp hr ad had e => by rcases List.mem_singleton.1 hp with rfl; have h1 := HX5.out.old hr ad had; have h2 := (hF.lt _ e).1; omega) (by have := LLn.out; simp; omega) hF.below.size fun v w2 row' ho hg hr => hF.turn 7 (ls ++ [fullR 9]) 8 v rfl hg hr ho ?_
      intro j ms m h
      obtain ⟨rfl, rfl⟩ | ⟨rfl, rfl⟩ | ⟨rfl, rfl⟩ := HOI.out j ms m h
      · exact .inr (.inr (.inr (hw 4 (by decide))))
      · exact .inr (.inl rfl)
      · exact .inl rfl
    · -- 8
      rintro ρ f w' ⟨row, hF⟩ hfi hw hcl hf
      have f43 : ρ (.tmp 43) = .int .u64 (L : Int) := hF.each 0 (.eq _) _ rfl (hf.1 43 (by simp [Op.operands, Call.operands]))
      have f44 : ρ (.tmp 44) = .int .i64 (nn : Int) := hF.each 1 (.eq _) _ rfl (hf.1 44 (by simp [Op.operands, Call.operands]))
      have hu := hf.1 50 (by simp [Op.operands, Call.operands])
      obtain ⟨ps8, hp8, hO8, hrow8, -⟩ := hF.each 7 (.own (ls ++ [fullR 9]) 8) _ rfl hu hfi
      have hk8 : ps8.length ≤ 7 := by rw [← rlsOf_len ps8, hp8]; have := LLn.out; simp; omega
      obtain ⟨a8, c8, f50, hL8⟩ := hO8.lsm (by omega)
      have hr8 := hL8.rls
      rw [hp8] at hr8
      exact ok_call (f := 21) (args := #[.int .u64 (L : Int), .int .i64 (nn : Int), .slice a8 ps8.length c8]) (by simp [execOp, f43, f44, f50, hf.2.2.2, go_sem]) ((sg_Counts_yes L nn HLL.out HNN.out a8 ps8.length c8 (ls ++ [fullR 9]) w' hr8 HRT.out).mono fun e w2 ⟨⟨g, he, hge, hrow⟩, hb⟩ => ⟨_, he, hF.step 8 (.pr _ (keeps_row (fun g => .tuple #[.slice (some ⟨g, 0, none⟩) 10 10, .int .i64 0]) w5.heap.size 3 (tab 10 fA))) _ rfl hb ⟨g, rfl, (by rw [← HfA.out]; exact hrow), fun e2 => by have := (hF.lt _ e2).2; omega, Nat.le_trans hF.below.size hge⟩⟩)
    · -- 9
      rintro ρ f w' ⟨row, hF⟩ hfi hw hcl hf
      obtain ⟨g, f51, hrow, hne, hge⟩ := hF.each 8 (.pr _ (keeps_row (fun g => .tuple #[.slice (some ⟨g, 0, none⟩) 10 10, .int .i64 0]) w5.heap.size 3 (tab 10 fA))) _ rfl (hf.1 51 (by simp [Op.operands]))
      refine ok_value (v := .tuple #[.slice (some ⟨g, 0, none⟩) 10 10, .int .i64 0]) (w' := w') ?_ (hF.step 9 (.pr _ (keeps_row (fun g => .tuple #[.slice (some ⟨g, 0, none⟩) 10 10, .int .i64 0]) w5.heap.size 3 (tab 10 fA))) _ rfl (Below.refl _ _) ⟨g, rfl, hrow, hne, hge⟩)
      simp [execOp, f51, hf.2.1, go_sem]
    · -- 10
      rintro ρ f w' ⟨row, hF⟩ hfi hw hcl hf
      obtain ⟨g, f42, hrow, hne, hge⟩ := hF.each 9 (.pr _ (keeps_row (fun g => .tuple #[.slice (some ⟨g, 0, none⟩) 10 10, .int .i64 0]) w5.heap.size 3 (tab 10 fA))) _ rfl (hf.1 42 (by simp [Op.operands]))
      refine ok_value (v := .slice (some ⟨g, 0, none⟩) 10 10) (w' := w') ?_ (hF.step 10 (.pr _ (keeps_row (fun g => .slice (some ⟨g, 0, none⟩) 10 10) w5.heap.size 3 (tab 10 fA))) _ rfl (Below.refl _ _) ⟨g, rfl, hrow, hne, hge⟩)
      simp [execOp, f42, hf.2.1, go_sem]
    · -- 11
      rintro ρ f w' ⟨row, hF⟩ hfi hw hcl hf
      obtain ⟨g, f42, hrow, hne, hge⟩ := hF.each 9 (.pr _ (keeps_row (fun g => .tuple #[.slice (some ⟨g, 0, none⟩) 10 10, .int .i64 0]) w5.heap.size 3 (tab 10 fA))) _ rfl (hf.1 42 (by simp [Op.operands]))
      refine ok_value (v := .int .i64 0) (w' := w') ?_ (hF.step 11 (.eq _) _ rfl (Below.refl _ _) rfl)
      simp [execOp, f42, go_sem]
    · -- 12
      rintro ρ f w' ⟨row, hF⟩ hfi hw hcl hf
      obtain ⟨g, f52, hrow, hne, hge⟩ := hF.each 10 (.pr _ (keeps_row (fun g => .slice (some ⟨g, 0, none⟩) 10 10) w5.heap.size 3 (tab 10 fA))) _ rfl (hf.1 52 (by simp [Op.operands]))
      refine ok_value (v := .slice (some ⟨g, 0, none⟩) 10 10) (w' := w') ?_ (hF.step 12 (.pr _ (keeps_row (fun g => .slice (some ⟨g, 0, none⟩) 10 10) w5.heap.size 3 (tab 10 fA))) _ rfl (Below.refl _ _) ⟨g, rfl, hrow, hne, hge⟩)
      simp [execOp, f52, hf.2.1, go_sem]
    · -- 13
      rintro ρ f w' ⟨row, hF⟩ hfi hw hcl hf
      have f53 : ρ (.tmp 53) = .int .i64 0 := hF.each 11 (.eq _) _ rfl (hf.1 53 (by simp [Op.operands]))
      exact ok_value (v := .int .i64 0) (w' := w') (by simp [execOp, f53]) (hF.step 13 (.eq _) _ rfl (Below.refl _ _) rfl)
  case fini =>
    rintro vs w6 hlen ⟨row, hF⟩
    have hl0 : vs.length = 14 := hlen
    clear hlen
    obtain ⟨v0, t0, rfl, hl1⟩ := uncons hl0
    clear hl0
    obtain ⟨v1, t1, rfl, hl2⟩ := uncons hl1
    clear hl1
    obtain ⟨v2, t2, rfl, hl3⟩ := uncons hl2
    clear hl2
    obtain ⟨v3, t3, rfl, hl4⟩ := uncons hl3
    clear hl3
    obtain ⟨v4, t4, rfl, hl5⟩ := uncons hl4
    clear hl4
    obtain ⟨v5, t5, rfl, hl6⟩ := uncons hl5
    clear hl5
    obtain ⟨v6, t6, rfl, hl7⟩ := uncons hl6
    clear hl6
    obtain ⟨v7, t7, rfl, hl8⟩ := uncons hl7
    clear hl7
    obtain ⟨v8, t8, rfl, hl9⟩ := uncons hl8
    clear hl8
    obtain ⟨v9, t9, rfl, hl10⟩ := uncons hl9
    clear hl9
    obtain ⟨v10, t10, rfl, hl11⟩ := uncons hl10
    clear hl10
    obtain ⟨v11, t11, rfl, hl12⟩ := uncons hl11
    clear hl11
    obtain ⟨v12, t12, rfl, hl13⟩ := uncons hl12
    clear hl12
    obtain ⟨v13, t13, rfl, hl14⟩ := uncons hl13
    clear hl13
    obtain rfl := List.eq_nil_of_length_eq_zero hl14
    clear hl14
    obtain ⟨gA, eA, hrA, -, -⟩ := hF.each 12 (.pr _ (keeps_row (fun g => .slice (some ⟨g, 0, none⟩) 10 10) w5.heap.size 3 (tab 10 fA))) v12 rfl rfl
    have zA : v13 = .int .i64 0 := hF.each 13 (.eq (.int .i64 0)) v13 rfl rfl
    subst eA zA
    have hBA := hF.below
    clear hF HOI
    simp only [putAll, List.zip_cons_cons, List.zip_nil_right, List.foldl_cons, List.foldl_nil]
    simp only [Act.put, List.setIfInBounds_toArray, List.set_cons_succ, List.set_cons_zero]
    have HB6 := Lib.hid (HB5.out.trans (hBA.mono HB5.out.size))
    have HL6 := Lib.hid (HL5.out.below hBA)
    have HT6 := Lib.hid (HT5.out.later hBA)
    have HX6 := Lib.hid (HX5.out.below hBA)
    have HA6 := Lib.hid hrA
    clear hBA hrA HB5 HL5 HT5 HX5 HRT
    have HRT : Hid (rightS (ls ++ [fullR 9, fullR 1]) = true) := Lib.hid (right_app KR.out.1 KR.out.2 rfl (by decide))
    go_wp2_with fail
    obtain ⟨fB, HfB⟩ : ∃ f, Hid (cnV L (nn : Int) (ls ++ [fullR 9, fullR 1]) = f) := ⟨_, Lib.hid rfl⟩
    have HOI : Hid (∀ (j : Nat) (ms : List Rl) (m : Nat), ([.eq (.int .u64 (L : Int)), .eq (.int .i64 (nn : Int)), .own [] 4, .eq (.slice a1 ps.length c1), .own (ls) 10, .eq (.agg #[.slice (some ⟨bF, 0, none⟩) 1 1, .int .i64 9]), .eq ((rgP 0 40).v), .pr _ (keeps_row (fun g => .slice (some ⟨g, 0, none⟩) 1 1) w6.heap.size 73 (rgP 0 40).arr), .pr _ (keeps_row (fun g => .agg #[.slice (some ⟨g, 0, none⟩) 1 1, .int .i64 1]) w6.heap.size 73 (rgP 0 40).arr), .pr _ (keeps_two w6.heap.size bF), .own (ls ++ [fullR 9, fullR 1]) 11, .pr _ (keeps_row (fun g => .tuple #[.slice (some ⟨g, 0, none⟩) 10 10, .int .i64 0]) w6.heap.size 3 (tab 10 fB)), .pr _ (keeps_row (fun g => .tuple #[.slice (some ⟨g, 0, none⟩) 10 10, .int .i64 0]) w6.heap.size 3 (tab 10 fB)), .pr _ (keeps_row (fun g => .slice (some ⟨g, 0, none⟩) 10 10) w6.heap.size 3 (tab 10 fB)), .eq (.int .i64 0), .pr _ (keeps_row (fun g => .slice (some ⟨g, 0, none⟩) 10 10) w6.heap.size 3 (tab 10 fB)), .eq (.int .i64 0)] : List SpL)[j]? = some (.own ms m) → (j = 2 ∧ m = 4) ∨ (j = 4 ∧ m = 10) ∨ (j = 10 ∧ m = 11)) := Lib.hid (by
      intro j ms m h
      rcases j with _ | _ | _ | _ | _ | _ | _ | _ | _ | _ | _ | _ | _ | _ | _ | _ | _ | _
      all_goals (simp at h; try (simp [← h.2])))
    refine wp_region_reliesG (FG w6 [.eq (.int .u64 (L : Int)), .eq (.int .i64 (nn : Int)), .own [] 4, .eq (.slice a1 ps.length c1), .own (ls) 10, .eq (.agg #[.slice (some ⟨bF, 0, none⟩) 1 1, .int .i64 9]), .eq ((rgP 0 40).v), .pr _ (keeps_row (fun g => .slice (some ⟨g, 0, none⟩) 1 1) w6.heap.size 73 (rgP 0 40).arr), .pr _ (keeps_row (fun g => .agg #[.slice (some ⟨g, 0, none⟩) 1 1, .int .i64 1]) w6.heap.size 73 (rgP 0 40).arr), .pr _ (keeps_two w6.heap.size bF), .own (ls ++ [fullR 9, fullR 1]) 11, .pr _ (keeps_row (fun g => .tuple #[.slice (some ⟨g, 0, none⟩) 10 10, .int .i64 0]) w6.heap.size 3 (tab 10 fB)), .pr _ (keeps_row (fun g => .tuple #[.slice (some ⟨g, 0, none⟩) 10 10, .int .i64 0]) w6.heap.size 3 (tab 10 fB)), .pr _ (keeps_row (fun g => .slice (some ⟨g, 0, none⟩) 10 10) w6.heap.size 3 (tab 10 fB)), .eq (.int .i64 0), .pr _ (keeps_row (fun g => .slice (some ⟨g, 0, none⟩) 10 10) w6.heap.size 3 (tab 10 fB)), .eq (.int .i64 0)]) (by kernel_rfl) (by kernel_rfl) (by kernel_rfl) (by kernel_rfl) (fg_start _ _) ?obls ?fini
    case obls =>
      refine ⟨?_, ?_, ?_, ?_, ?_, ?_, ?_, ?_, ?_, ?_, ?_, ?_, ?_, ?_, ?_, ?_, ?_, trivial⟩
      · -- 0
        rintro ρ f w' ⟨row, hF⟩ hfi hw hcl hf
        have f0 : ρ (.tmp 0) = .int .u64 (L : Int) := hf.1 0 (by simp [Op.operands])
        exact ok_value (v := .int .u64 (L : Int)) (w' := w') (by simp [execOp, f0]) (hF.step 0 (.eq _) _ rfl (Below.refl _ _) rfl)
      · -- 1
        rintro ρ f w' ⟨row, hF⟩ hfi hw hcl hf
        have f11 : ρ (.tmp 11) = .int .i64 (nn : Int) := hf.1 11 (by simp [Op.operands])
        exact ok_value (v := .int .i64 (nn : Int)) (w' := w') (by simp [execOp, f11]) (hF.step 1 (.eq _) _ rfl (Below.refl _ _) rfl)
      · -- 2
        rintro ρ f w' ⟨row, hF⟩ hfi hw hcl hf
        refine ok_value (v := .slice (some ⟨w'.heap.size, 0, none⟩) 0 0) (w' := w'.alloc (.cells #[] 63)) (by simp [execOp, go_sem]) (hF.turn 2 [] 4 _ rfl (grownBy_below ((Below.refl _ _).alloc (Nat.le_refl _) _) _) (.inr ⟨_, rfl, Nat.le_refl _⟩) ⟨[], rfl, OwnL.made0 w' _ hF.below.size, rfl, by simp⟩ ?_)
        intro j ms m h
        have n4 := none_of hcl hfi (j := 4) (by decide)
        have n10 := none_of hcl n4 (j := 10) (by decide)
        obtain ⟨rfl, rfl⟩ | ⟨rfl, rfl⟩ | ⟨rfl, rfl⟩ := HOI.out j ms m h
        · exact .inl rfl
        · exact .inr (.inr (.inl n4))
        · exact .inr (.inr (.inl n10))
      · -- 3
        rintro ρ f w' ⟨row, hF⟩ hfi hw hcl hf
        have f12 : ρ (.tmp 12) = .slice a1 ps.length c1 := hf.1 12 (by simp [Op.operands])
        exact ok_value (v := .slice a1 ps.length c1) (w' := w') (by simp [execOp, f12]) (hF.step 3 (.eq _) _ rfl (Below.refl _ _) rfl)
      · -- 4
        rintro ρ f w' ⟨row, hF⟩ hfi hw hcl hf
        have hu := hf.1 57 (by simp [Op.operands, Call.operands])
        have hou := hF.each 2 (.own [] 4) _ rfl hu hfi
        have f58 : ρ (.tmp 58) = .slice a1 ps.length c1 := hF.each 3 (.eq _) _ rfl (hf.1 58 (by simp [Op.operands, Call.operands]))
        have hL := HL6.out.below hF.below
        refine ok_appL (.tmp 57) (.tmp 58) rfl w6.heap.size _ ([]) (ls) row rfl hou a1 ps.length c1 f58 (ps) HP1.out.1 rfl hL.nil (fun ad had j x hx => hL.cells j x hx ad had) hL.rg (fun p hp hr ad had e => by have h1 := (HL6.out.rg p hp).old hr ad had; have h2 := (hF.lt _ e).1; omega) (by have := HP1.out.2; simp; omega) hF.below.size fun v w2 row' ho hg hr => hF.turn 4 (ls) 10 v rfl hg hr ho ?_
        intro j ms m h
        have n10 := none_of hcl hfi (j := 10) (by decide)
        obtain ⟨rfl, rfl⟩ | ⟨rfl, rfl⟩ | ⟨rfl, rfl⟩ := HOI.out j ms m h
        · exact .inr (.inl rfl)
        · exact .inl rfl
        · exact .inr (.inr (.inl n10))
      · -- 5
        rintro ρ f w' ⟨row, hF⟩ hfi hw hcl hf
        have f13 : ρ (.tmp 13) = .pointer (some ⟨b13, 0, none⟩) := hf.1 13 (by simp [Op.operands])
        have ht := HT6.out.later hF.below
        have d0 := ht.cell 0
        have d1 := ht.cell 1
        simp only [List.getElem?_toArray, List.getElem?_cons_zero, List.getElem?_cons_succ] at d0 d1
        refine ok_value (v := .agg #[.slice (some ⟨bF, 0, none⟩) 1 1, .int .i64 9]) (w' := w') ?_ (hF.step 5 (.eq _) _ rfl (Below.refl _ _) rfl)
        simp [execOp, f13, go_sem, d0, d1]
      · -- 6
        rintro ρ f w' ⟨row, hF⟩ hfi hw hcl hf
        exact ok_call (f := 25) (args := #[.int .i64 0, .int .i64 40]) (by simp [execOp, hf.2.1, hf.2.2.2, go_sem]) ((law_points 0 40 _).mono fun e w2 ⟨he, hb⟩ => ⟨_, he, hF.step 6 (.eq _) _ rfl hb rfl⟩)
      · -- 7
        rintro ρ f w' ⟨row, hF⟩ hfi hw hcl hf
        have f61 : ρ (.tmp 61) = (rgP 0 40).v := hF.each 6 (.eq _) _ rfl (hf.1 61 (by simp [Op.operands]))
        refine ok_value (v := .slice (some ⟨w'.heap.size, 0, none⟩) 1 1) (w' := w'.alloc (.cells (rgP 0 40).arr 73)) ?_ (hF.step 7 (.pr _ (keeps_row (fun g => .slice (some ⟨g, 0, none⟩) 1 1) w6.heap.size 73 (rgP 0 40).arr)) _ rfl ((Below.refl _ _).alloc (Nat.le_refl _) _) ⟨w'.heap.size, rfl, Row.new _ _ _, fun e => by have := (hF.lt _ e).2; omega, hF.below.size⟩)
        simp [execOp, f61, go_sem]
      · -- 8
        rintro ρ f w' ⟨row, hF⟩ hfi hw hcl hf
        obtain ⟨g, f62, hrow, hne, hge⟩ := hF.each 7 (.pr _ (keeps_row (fun g => .slice (some ⟨g, 0, none⟩) 1 1) w6.heap.size 73 (rgP 0 40).arr)) _ rfl (hf.1 62 (by simp [Op.operands]))
        refine ok_value (v := .agg #[.slice (some ⟨g, 0, none⟩) 1 1, .int .i64 1]) (w' := w') ?_ (hF.step 8 (.pr _ (keeps_row (fun g => .agg #[.slice (some ⟨g, 0, none⟩) 1 1, .int .i64 1]) w6.heap.size 73 (rgP 0 40).arr)) _ rfl (Below.refl _ _) ⟨g, rfl, hrow, hne, hge⟩)
        simp [execOp, f62, hf.2.1, go_sem]
      · -- 9
        rintro ρ f w' ⟨row, hF⟩ hfi hw hcl hf
        have f60 : ρ (.tmp 60) = .agg #[.slice (some ⟨bF, 0, none⟩) 1 1, .int .i64 9] := hF.each 5 (.eq _) _ rfl (hf.1 60 (by simp [Op.operands]))
        obtain ⟨g2, f63, hrow, hne, hge⟩ := hF.each 8 (.pr _ (keeps_row (fun g => .agg #[.slice (some ⟨g, 0, none⟩) 1 1, .int .i64 1]) w6.heap.size 73 (rgP 0 40).arr)) _ rfl (hf.1 63 (by simp [Op.operands]))
        have hb2 : Below w'.heap.size w' (w'.alloc (.cells #[.slice (some ⟨bF, 0, none⟩) 1 1, .int .i64 9, .slice (some ⟨g2, 0, none⟩) 1 1, .int .i64 1] 63)) := (Below.refl _ _).alloc (Nat.le_refl _) _
        refine ok_value (v := .slice (some ⟨w'.heap.size, 0, none⟩) 2 2) (w' := w'.alloc (.cells #[.slice (some ⟨bF, 0, none⟩) 1 1, .int .i64 9, .slice (some ⟨g2, 0, none⟩) 1 1, .int .i64 1] 63)) ?_ (hF.step 9 (.pr _ (keeps_two w6.heap.size bF)) _ rfl hb2 ⟨w'.heap.size, g2, rfl, Row.new _ _ _, hrow.later hb2, (fun e => by have := (hF.lt _ e).2; omega), hne, hge⟩)
        simp [execOp, f60, f63, go_sem]
      · -- 10
        rintro ρ f w' ⟨row, hF⟩ hfi hw hcl hf
        have hu := hf.1 59 (by simp [Op.operands, Call.operands])
        have hou := hF.each 4 (.own (ls) 10) _ rfl hu hfi
        obtain ⟨g, g2, f64, hrow, hrow2, hne, hne2, -⟩ := hF.each 9 (.pr _ (keeps_two w6.heap.size bF)) _ rfl (hf.1 64 (by simp [Op.operands, Call.operands]))
        have hX := HX6.out.below hF.below
        have hY := rc_row hrow2
        refine ok_appL (.tmp 59) (.tmp 64) rfl w6.heap.size _ (ls) ([fullR 9, fullR 1]) row rfl hou (some ⟨g, 0, none⟩) 2 2 f64 ([(fullR 9, some ⟨bF, 0, none⟩, 1), (fullR 1, some ⟨g2, 0, none⟩, 1)]) rfl rfl (fun e => by cases e) (fun ad had j x hx => row_src (l := [.slice (some ⟨bF, 0, none⟩) 1 1, .int .i64 9, .slice (some ⟨g2, 0, none⟩) 1 1, .int .i64 1]) hrow j x hx ad had) (fun p hp => by rcases List.mem_cons.1 hp with rfl | hp; exact hX; rcases List.mem_singleton.1 hp with rfl; exact hY) (fun p hp hr ad had e => by rcases List.mem_cons.1 hp with rfl | hp; (have h1 := HX6.out.old hr ad had; have h2 := (hF.lt _ e).1; omega); rcases List.mem_singleton.1 hp with rfl; obtain rfl := Option.some.inj had; exact hne2 e) (by have := LLn.out; simp; omega) hF.below.size fun v w2 row' ho hg hr => hF.turn 10 (ls ++ [fullR 9, fullR 1]) 11 v rfl hg hr ho ?_
        intro j ms m h
        obtain ⟨rfl, rfl⟩ | ⟨rfl, rfl⟩ | ⟨rfl, rfl⟩ := HOI.out j ms m h
        · exact .inr (.inr (.inr (hw 4 (by decide))))
        · exact .inr (.inl rfl)
        · exact .inl rfl
      · -- 11
        rintro ρ f w' ⟨row, hF⟩ hfi hw hcl hf
        have f55 : ρ (.tmp 55) = .int .u64 (L : Int) := hF.each 0 (.eq _) _ rfl (hf.1 55 (by simp [Op.operands, Call.operands]))
        have f56 : ρ (.tmp 56) = .int .i64 (nn : Int) := hF.each 1 (.eq _) _ rfl (hf.1 56 (by simp [Op.operands, Call.operands]))
        have hu := hf.1 65 (by simp [Op.operands, Call.operands])
        obtain ⟨ps8, hp8, hO8, hrow8, -⟩ := hF.each 10 (.own (ls ++ [fullR 9, fullR 1]) 11) _ rfl hu hfi
        have hk8 : ps8.length ≤ 7 := by rw [← rlsOf_len ps8, hp8]; have := LLn.out; simp; omega
        obtain ⟨a8, c8, f65, hL8⟩ := hO8.lsm (by omega)
        have hr8 := hL8.rls
        rw [hp8] at hr8
        exact ok_call (f := 21) (args := #[.int .u64 (L : Int), .int .i64 (nn : Int), .slice a8 ps8.length c8]) (by simp [execOp, f55, f56, f65, hf.2.2.2, go_sem]) ((sg_Counts_yes L nn HLL.out HNN.out a8 ps8.length c8 (ls ++ [fullR 9, fullR 1]) w' hr8 HRT.out).mono fun e w2 ⟨⟨g, he, hge, hrow⟩, hb⟩ => ⟨_, he, hF.step 11 (.pr _ (keeps_row (fun g => .tuple #[.slice (some ⟨g, 0, none⟩) 10 10, .int .i64 0]) w6.heap.size 3 (tab 10 fB))) _ rfl hb ⟨g, rfl, (by rw [← HfB.out]; exact hrow), fun e2 => by have := (hF.lt _ e2).2; omega, Nat.le_trans hF.below.size hge⟩⟩)
      · -- 12
        rintro ρ f w' ⟨row, hF⟩ hfi hw hcl hf
        obtain ⟨g, f66, hrow, hne, hge⟩ := hF.each 11 (.pr _ (keeps_row (fun g => .tuple #[.slice (some ⟨g, 0, none⟩) 10 10, .int .i64 0]) w6.heap.size 3 (tab 10 fB))) _ rfl (hf.1 66 (by simp [Op.operands]))
        refine ok_value (v := .tuple #[.slice (some ⟨g, 0, none⟩) 10 10, .int .i64 0]) (w' := w') ?_ (hF.step 12 (.pr _ (keeps_row (fun g => .tuple #[.slice (some ⟨g, 0, none⟩) 10 10, .int .i64 0]) w6.heap.size 3 (tab 10 fB))) _ rfl (Below.refl _ _) ⟨g, rfl, hrow, hne, hge⟩)
        simp [execOp, f66, hf.2.1, go_sem]
      · -- 13
        rintro ρ f w' ⟨row, hF⟩ hfi hw hcl hf
        obtain ⟨g, f54, hrow, hne, hge⟩ := hF.each 12 (.pr _ (keeps_row (fun g => .tuple #[.slice (some ⟨g, 0, none⟩) 10 10, .int .i64 0]) w6.heap.size 3 (tab 10 fB))) _ rfl (hf.1 54 (by simp [Op.operands]))
        refine ok_value (v := .slice (some ⟨g, 0, none⟩) 10 10) (w' := w') ?_ (hF.step 13 (.pr _ (keeps_row (fun g => .slice (some ⟨g, 0, none⟩) 10 10) w6.heap.size 3 (tab 10 fB))) _ rfl (Below.refl _ _) ⟨g, rfl, hrow, hne, hge⟩)
        simp [execOp, f54, hf.2.1, go_sem]
      · -- 14
        rintro ρ f w' ⟨row, hF⟩ hfi hw hcl hf
        obtain ⟨g, f54, hrow, hne, hge⟩ := hF.each 12 (.pr _ (keeps_row (fun g => .tuple #[.slice (some ⟨g, 0, none⟩) 10 10, .int .i64 0]) w6.heap.size 3 (tab 10 fB))) _ rfl (hf.1 54 (by simp [Op.operands]))
        refine ok_value (v := .int .i64 0) (w' := w') ?_ (hF.step 14 (.eq _) _ rfl (Below.refl _ _) rfl)
        simp [execOp, f54, go_sem]
      · -- 15
        rintro ρ f w' ⟨row, hF⟩ hfi hw hcl hf
        obtain ⟨g, f67, hrow, hne, hge⟩ := hF.each 13 (.pr _ (keeps_row (fun g => .slice (some ⟨g, 0, none⟩) 10 10) w6.heap.size 3 (tab 10 fB))) _ rfl (hf.1 67 (by simp [Op.operands]))
        refine ok_value (v := .slice (some ⟨g, 0, none⟩) 10 10) (w' := w') ?_ (hF.step 15 (.pr _ (keeps_row (fun g => .slice (some ⟨g, 0, none⟩) 10 10) w6.heap.size 3 (tab 10 fB))) _ rfl (Below.refl _ _) ⟨g, rfl, hrow, hne, hge⟩)
        simp [execOp, f67, hf.2.1, go_sem]
      · -- 16
        rintro ρ f w' ⟨row, hF⟩ hfi hw hcl hf
        have f68 : ρ (.tmp 68) = .int .i64 0 := hF.each 14 (.eq _) _ rfl (hf.1 68 (by simp [Op.operands]))
        exact ok_value (v := .int .i64 0) (w' := w') (by simp [execOp, f68]) (hF.step 16 (.eq _) _ rfl (Below.refl _ _) rfl)
    case fini =>
      rintro vs w7 hlen ⟨row, hF⟩
      have hl0 : vs.length = 17 := hlen
      clear hlen
      obtain ⟨v0, t0, rfl, hl1⟩ := uncons hl0
      clear hl0
      obtain ⟨v1, t1, rfl, hl2⟩ := uncons hl1
      clear hl1
      obtain ⟨v2, t2, rfl, hl3⟩ := uncons hl2
      clear hl2
      obtain ⟨v3, t3, rfl, hl4⟩ := uncons hl3
      clear hl3
      obtain ⟨v4, t4, rfl, hl5⟩ := uncons hl4
      clear hl4
      obtain ⟨v5, t5, rfl, hl6⟩ := uncons hl5
      clear hl5
      obtain ⟨v6, t6, rfl, hl7⟩ := uncons hl6
      clear hl6
      obtain ⟨v7, t7, rfl, hl8⟩ := uncons hl7
      clear hl7
      obtain ⟨v8, t8, rfl, hl9⟩ := uncons hl8
      clear hl8
      obtain ⟨v9, t9, rfl, hl10⟩ := uncons hl9
      clear hl9
      obtain ⟨v10, t10, rfl, hl11⟩ := uncons hl10
      clear hl10
      obtain ⟨v11, t11, rfl, hl12⟩ := uncons hl11
      clear hl11
      obtain ⟨v12, t12, rfl, hl13⟩ := uncons hl12
      clear hl12
      obtain ⟨v13, t13, rfl, hl14⟩ := uncons hl13
      clear hl13
      obtain ⟨v14, t14, rfl, hl15⟩ := uncons hl14
      clear hl14
      obtain ⟨v15, t15, rfl, hl16⟩ := uncons hl15
      clear hl15
      obtain ⟨v16, t16, rfl, hl17⟩ := uncons hl16
      clear hl16
      obtain rfl := List.eq_nil_of_length_eq_zero hl17
      clear hl17
      obtain ⟨gB, eB, hrB, -, -⟩ := hF.each 15 (.pr _ (keeps_row (fun g => .slice (some ⟨g, 0, none⟩) 10 10) w6.heap.size 3 (tab 10 fB))) v15 rfl rfl
      have zB : v16 = .int .i64 0 := hF.each 16 (.eq (.int .i64 0)) v16 rfl rfl
      subst eB zB
      have hBB := hF.below
      clear hF HOI
      simp only [putAll, List.zip_cons_cons, List.zip_nil_right, List.foldl_cons, List.foldl_nil]
      simp only [Act.put, List.setIfInBounds_toArray, List.set_cons_succ, List.set_cons_zero]
      have HB9 := Lib.hid (HB6.out.trans (hBB.mono HB6.out.size))
      have HL9 := Lib.hid (HL6.out.below hBB)
      have HA9 := Lib.hid (HA6.out.later hBB)
      have HBb9 := Lib.hid hrB
      have hpl5 := HP1.out.2
      clear hBB hrB HB6 HL6 HT6 HX6 HA6 HRT
      go_wp2_with fail
      obtain ⟨k, hk, hkl⟩ : ∃ k : Nat, (at0 : Int) % ((ps.length : Int) + 1) = (k : Int) ∧ k ≤ ps.length := ⟨at0 % (ps.length + 1), by simp, by have := Nat.mod_lt at0 (show 0 < ps.length + 1 by omega); omega⟩
      rw [hk]
      clear hk
      have HK := Lib.hid hkl
      have hki : (k : Int) ≤ (ps.length : Int) := by omega
      have hkc : (k : Int) ≤ (c1 : Int) := by have := HL9.out.cap; omega
      have hlc : ps.length ≤ c1 := HL9.out.cap
      have HRT : Hid (rightS (ls.take k ++ [⟨[], 8⟩] ++ ls.drop k) = true) := Lib.hid (right_ins KR.out.1 KR.out.2 k)
      obtain ⟨fC, HfC⟩ : ∃ f, Hid (cnV L (nn : Int) (ls.take k ++ [⟨[], 8⟩] ++ ls.drop k) = f) := ⟨_, Lib.hid rfl⟩
      have HOI : Hid (∀ (j : Nat) (ms : List Rl) (m : Nat), ([.eq (.int .u64 (L : Int)), .eq (.int .i64 (nn : Int)), .own [] 6, .eq (.slice a1 ps.length c1), .eq (.int .i64 (k : Int)), .eq (.slice a1 k c1), .own (ls.take k) 9, .eq (.agg #[.slice none 0 0, .int .i64 8]), .pr _ (keeps_row (fun g => .slice (some ⟨g, 0, none⟩) 1 1) w7.heap.size 63 #[.slice none 0 0, .int .i64 8]), .own (ls.take k ++ [⟨[], 8⟩]) 13, .eq (.slice a1 ps.length c1), .eq (.int .i64 (k : Int)), .eq (.slice (if c1 = k then a1 else Option.map (fun ad => ad.add (k * 2)) a1) (ps.length - k) (c1 - k)), .own (ls.take k ++ [⟨[], 8⟩] ++ ls.drop k) 14, .pr _ (keeps_row (fun g => .tuple #[.slice (some ⟨g, 0, none⟩) 10 10, .int .i64 0]) w7.heap.size 3 (tab 10 fC)), .pr _ (keeps_row (fun g => .tuple #[.slice (some ⟨g, 0, none⟩) 10 10, .int .i64 0]) w7.heap.size 3 (tab 10 fC)), .pr _ (keeps_row (fun g => .slice (some ⟨g, 0, none⟩) 10 10) w7.heap.size 3 (tab 10 fC)), .eq (.int .i64 0), .pr _ (keeps_row (fun g => .slice (some ⟨g, 0, none⟩) 10 10) w7.heap.size 3 (tab 10 fC)), .eq (.int .i64 0)] : List SpL)[j]? = some (.own ms m) → (j = 2 ∧ m = 6) ∨ (j = 6 ∧ m = 9) ∨ (j = 9 ∧ m = 13) ∨ (j = 13 ∧ m = 14)) := Lib.hid (by
        intro j ms m h
        rcases j with _ | _ | _ | _ | _ | _ | _ | _ | _ | _ | _ | _ | _ | _ | _ | _ | _ | _ | _ | _ | _
        all_goals (simp at h; try (simp [← h.2])))
      refine wp_region_reliesG (FG w7 [.eq (.int .u64 (L : Int)), .eq (.int .i64 (nn : Int)), .own [] 6, .eq (.slice a1 ps.length c1), .eq (.int .i64 (k : Int)), .eq (.slice a1 k c1), .own (ls.take k) 9, .eq (.agg #[.slice none 0 0, .int .i64 8]), .pr _ (keeps_row (fun g => .slice (some ⟨g, 0, none⟩) 1 1) w7.heap.size 63 #[.slice none 0 0, .int .i64 8]), .own (ls.take k ++ [⟨[], 8⟩]) 13, .eq (.slice a1 ps.length c1), .eq (.int .i64 (k : Int)), .eq (.slice (if c1 = k then a1 else Option.map (fun ad => ad.add (k * 2)) a1) (ps.length - k) (c1 - k)), .own (ls.take k ++ [⟨[], 8⟩] ++ ls.drop k) 14, .pr _ (keeps_row (fun g => .tuple #[.slice (some ⟨g, 0, none⟩) 10 10, .int .i64 0]) w7.heap.size 3 (tab 10 fC)), .pr _ (keeps_row (fun g => .tuple #[.slice (some ⟨g, 0, none⟩) 10 10, .int .i64 0]) w7.heap.size 3 (tab 10 fC)), .pr _ (keeps_row (fun g => .slice (some ⟨g, 0, none⟩) 10 10) w7.heap.size 3 (tab 10 fC)), .eq (.int .i64 0), .pr _ (keeps_row (fun g => .slice (some ⟨g, 0, none⟩) 10 10) w7.heap.size 3 (tab 10 fC)), .eq (.int .i64 0)]) (by kernel_rfl) (by kernel_rfl) (by kernel_rfl) (by kernel_rfl) (fg_start _ _) ?obls ?fini
      case obls =>
        refine ⟨?_, ?_, ?_, ?_, ?_, ?_, ?_, ?_, ?_, ?_, ?_, ?_, ?_, ?_, ?_, ?_, ?_, ?_, ?_, ?_, trivial⟩
        · -- 0
          rintro ρ f w' ⟨row, hF⟩ hfi hw hcl hf
          have f0 : ρ (.tmp 0) = .int .u64 (L : Int) := hf.1 0 (by simp [Op.operands])
          exact ok_value (v := .int .u64 (L : Int)) (w' := w') (by simp [execOp, f0]) (hF.step 0 (.eq _) _ rfl (Below.refl _ _) rfl)
        · -- 1
          rintro ρ f w' ⟨row, hF⟩ hfi hw hcl hf
          have f11 : ρ (.tmp 11) = .int .i64 (nn : Int) := hf.1 11 (by simp [Op.operands])
          exact ok_value (v := .int .i64 (nn : Int)) (w' := w') (by simp [execOp, f11]) (hF.step 1 (.eq _) _ rfl (Below.refl _ _) rfl)
        · -- 2
          rintro ρ f w' ⟨row, hF⟩ hfi hw hcl hf
          refine ok_value (v := .slice (some ⟨w'.heap.size, 0, none⟩) 0 0) (w' := w'.alloc (.cells #[] 63)) (by simp [execOp, go_sem]) (hF.turn 2 [] 6 _ rfl (grownBy_below ((Below.refl _ _).alloc (Nat.le_refl _) _) _) (.inr ⟨_, rfl, Nat.le_refl _⟩) ⟨[], rfl, OwnL.made0 w' _ hF.below.size, rfl, by simp⟩ ?_)
          intro j ms m h
          have n6 := none_of hcl hfi (j := 6) (by decide)
          have n9 := none_of hcl n6 (j := 9) (by decide)
          have n13 := none_of hcl n9 (j := 13) (by decide)
          obtain ⟨rfl, rfl⟩ | ⟨rfl, rfl⟩ | ⟨rfl, rfl⟩ | ⟨rfl, rfl⟩ := HOI.out j ms m h
          · exact .inl rfl
          · exact .inr (.inr (.inl n6))
          · exact .inr (.inr (.inl n9))
          · exact .inr (.inr (.inl n13))
        · -- 3
          rintro ρ f w' ⟨row, hF⟩ hfi hw hcl hf
          have f12 : ρ (.tmp 12) = .slice a1 ps.length c1 := hf.1 12 (by simp [Op.operands])
          exact ok_value (v := .slice a1 ps.length c1) (w' := w') (by simp [execOp, f12]) (hF.step 3 (.eq _) _ rfl (Below.refl _ _) rfl)
        · -- 4
          rintro ρ f w' ⟨row, hF⟩ hfi hw hcl hf
          have f18 : ρ (.tmp 18) = .int .i64 (k : Int) := hf.1 18 (by simp [Op.operands])
          exact ok_value (v := .int .i64 (k : Int)) (w' := w') (by simp [execOp, f18]) (hF.step 4 (.eq _) _ rfl (Below.refl _ _) rfl)
        · -- 5
          rintro ρ f w' ⟨row, hF⟩ hfi hw hcl hf
          have f79 : ρ (.tmp 79) = .slice a1 ps.length c1 := hF.each 3 (.eq _) _ rfl (hf.1 79 (by simp [Op.operands]))
          have f80 : ρ (.tmp 80) = .int .i64 (k : Int) := hF.each 4 (.eq _) _ rfl (hf.1 80 (by simp [Op.operands]))
          refine ok_value (v := .slice a1 k c1) (w' := w') ?_ (hF.step 5 (.eq _) _ rfl (Below.refl _ _) rfl)
          simp [execOp, f79, f80, hf.2.1, go_sem]
          try (intro h; omega)
        · -- 6
          rintro ρ f w' ⟨row, hF⟩ hfi hw hcl hf
          have hu := hf.1 78 (by simp [Op.operands, Call.operands])
          have hou := hF.each 2 (.own [] 6) _ rfl hu hfi
          have f81 : ρ (.tmp 81) = .slice a1 k c1 := hF.each 5 (.eq _) _ rfl (hf.1 81 (by simp [Op.operands, Call.operands]))
          have hL := HL9.out.below hF.below
          refine ok_appL (.tmp 78) (.tmp 81) rfl w7.heap.size _ ([]) (ls.take k) row rfl hou a1 k c1 f81 (ps.take k) (by rw [← HP1.out.1]; exact rls_take ps k) (by rw [List.length_take]; have := HK.out; omega) (fun e => ⟨by have := (hL.nil e).1; have := HK.out; omega, (hL.nil e).2⟩) (hL.take k) (fun p hp => hL.rg p (List.mem_of_mem_take hp)) (fun p hp hr ad had e => by have h1 := (HL9.out.rg p (List.mem_of_mem_take hp)).old hr ad had; have h2 := (hF.lt _ e).1; omega) (by have := HP1.out.2; have := HK.out; simp; omega) hF.below.size fun v w2 row' ho hg hr => hF.turn 6 (ls.take k) 9 v rfl hg hr ho ?_
          intro j ms m h
          have n9 := none_of hcl hfi (j := 9) (by decide)
          have n13 := none_of hcl n9 (j := 13) (by decide)
          obtain ⟨rfl, rfl⟩ | ⟨rfl, rfl⟩ | ⟨rfl, rfl⟩ | ⟨rfl, rfl⟩ := HOI.out j ms m h
          · exact .inr (.inl rfl)
          · exact .inl rfl
          · exact .inr (.inr (.inl n9))
          · exact .inr (.inr (.inl n13))
        · -- 7
          rintro ρ f w' ⟨row, hF⟩ hfi hw hcl hf
          refine ok_value (v := .agg #[.slice none 0 0, .int .i64 8]) (w' := w') ?_ (hF.step 7 (.eq _) _ rfl (Below.refl _ _) rfl)
          simp [execOp, hf.2.1, go_sem]
        · -- 8
          rintro ρ f w' ⟨row, hF⟩ hfi hw hcl hf
          have f83 : ρ (.tmp 83) = .agg #[.slice none 0 0, .int .i64 8] := hF.each 7 (.eq _) _ rfl (hf.1 83 (by simp [Op.operands]))
          refine ok_value (v := .slice (some ⟨w'.heap.size, 0, none⟩) 1 1) (w' := w'.alloc (.cells #[.slice none 0 0, .int .i64 8] 63)) ?_ (hF.step 8 (.pr _ (keeps_row (fun g => .slice (some ⟨g, 0, none⟩) 1 1) w7.heap.size 63 #[.slice none 0 0, .int .i64 8])) _ rfl ((Below.refl _ _).alloc (Nat.le_refl _) _) ⟨w'.heap.size, rfl, Row.new _ _ _, fun e => by have := (hF.lt _ e).2; omega, hF.below.size⟩)
          simp [execOp, f83, go_sem]
        · -- 9
          rintro ρ f w' ⟨row, hF⟩ hfi hw hcl hf
          have hu := hf.1 82 (by simp [Op.operands, Call.operands])
          have hou := hF.each 6 (.own (ls.take k) 9) _ rfl hu hfi
          obtain ⟨g, f84, hrow, hne, -⟩ := hF.each 8 (.pr _ (keeps_row (fun g => .slice (some ⟨g, 0, none⟩) 1 1) w7.heap.size 63 #[.slice none 0 0, .int .i64 8])) _ rfl (hf.1 84 (by simp [Op.operands, Call.operands]))
          refine ok_appL (.tmp 82) (.tmp 84) rfl w7.heap.size _ (ls.take k) ([⟨[], 8⟩]) row rfl hou (some ⟨g, 0, none⟩) 1 1 f84 ([(⟨[], 8⟩, none, 0)]) rfl rfl (fun e => by cases e) (fun ad had j x hx => row_src (l := [.slice none 0 0, .int .i64 8]) hrow j x hx ad had) (fun p hp => by rcases List.mem_singleton.1 hp with rfl; exact ⟨Rgs.nil _, Nat.le_refl _, fun _ => rfl⟩) (fun p hp hr => by rcases List.mem_singleton.1 hp with rfl; exact absurd rfl hr) (by have := LLn.out; simp; omega) hF.below.size fun v w2 row' ho hg hr => hF.turn 9 (ls.take k ++ [⟨[], 8⟩]) 13 v rfl hg hr ho ?_
          intro j ms m h
          have n13 := none_of hcl hfi (j := 13) (by decide)
          obtain ⟨rfl, rfl⟩ | ⟨rfl, rfl⟩ | ⟨rfl, rfl⟩ | ⟨rfl, rfl⟩ := HOI.out j ms m h
          · exact .inr (.inr (.inr (hw 6 (by decide))))
          · exact .inr (.inl rfl)
          · exact .inl rfl
          · exact .inr (.inr (.inl n13))
        · -- 10
          rintro ρ f w' ⟨row, hF⟩ hfi hw hcl hf
          have f12 : ρ (.tmp 12) = .slice a1 ps.length c1 := hf.1 12 (by simp [Op.operands])
          exact ok_value (v := .slice a1 ps.length c1) (w' := w') (by simp [execOp, f12]) (hF.step 10 (.eq _) _ rfl (Below.refl _ _) rfl)
        · -- 11
          rintro ρ f w' ⟨row, hF⟩ hfi hw hcl hf
          have f18 : ρ (.tmp 18) = .int .i64 (k : Int) := hf.1 18 (by simp [Op.operands])
          exact ok_value (v := .int .i64 (k : Int)) (w' := w') (by simp [execOp, f18]) (hF.step 11 (.eq _) _ rfl (Below.refl _ _) rfl)
        · -- 12
          rintro ρ f w' ⟨row, hF⟩ hfi hw hcl hf
          have f86 : ρ (.tmp 86) = .slice a1 ps.length c1 := hF.each 10 (.eq _) _ rfl (hf.1 86 (by simp [Op.operands]))
          have f87 : ρ (.tmp 87) = .int .i64 (k : Int) := hF.each 11 (.eq _) _ rfl (hf.1 87 (by simp [Op.operands]))
          refine ok_value (v := .slice (if c1 = k then a1 else Option.map (fun ad => ad.add (k * 2)) a1) (ps.length - k) (c1 - k)) (w' := w') ?_ (hF.step 12 (.eq _) _ rfl (Below.refl _ _) rfl)
          simp [execOp, f86, f87, hf.2.1, go_sem]
          intro h; omega
        · -- 13
          rintro ρ f w' ⟨row, hF⟩ hfi hw hcl hf
          have hu := hf.1 85 (by simp [Op.operands, Call.operands])
          have hou := hF.each 9 (.own (ls.take k ++ [⟨[], 8⟩]) 13) _ rfl hu hfi
          have f88 : ρ (.tmp 88) = .slice (if c1 = k then a1 else Option.map (fun ad => ad.add (k * 2)) a1) (ps.length - k) (c1 - k) := hF.each 12 (.eq _) _ rfl (hf.1 88 (by simp [Op.operands, Call.operands]))
          have hL := HL9.out.below hF.below
          refine ok_appL (.tmp 85) (.tmp 88) rfl w7.heap.size _ (ls.take k ++ [⟨[], 8⟩]) (ls.drop k) row rfl hou (if c1 = k then a1 else Option.map (fun ad => ad.add (k * 2)) a1) (ps.length - k) (c1 - k) f88 (ps.drop k) (by rw [← HP1.out.1]; exact rls_drop ps k) (by rw [List.length_drop]) (fun e => by have e2 : a1 = none := (by split at e <;> (cases a1 <;> first | rfl | cases e)); have := hL.nil e2; omega) (hL.dropC k HK.out) (fun p hp => hL.rg p (List.mem_of_mem_drop hp)) (fun p hp hr ad had e => by have h1 := (HL9.out.rg p (List.mem_of_mem_drop hp)).old hr ad had; have h2 := (hF.lt _ e).1; omega) (by have := LLn.out; have := HP1.out.2; simp; omega) hF.below.size fun v w2 row' ho hg hr => hF.turn 13 (ls.take k ++ [⟨[], 8⟩] ++ ls.drop k) 14 v rfl hg hr ho ?_
          intro j ms m h
          obtain ⟨rfl, rfl⟩ | ⟨rfl, rfl⟩ | ⟨rfl, rfl⟩ | ⟨rfl, rfl⟩ := HOI.out j ms m h
          · exact .inr (.inr (.inr (hcl 9 (hw 9 (by decide)) 6 (by decide))))
          · exact .inr (.inr (.inr (hw 9 (by decide))))
          · exact .inr (.inl rfl)
          · exact .inl rfl
        · -- 14
          rintro ρ f w' ⟨row, hF⟩ hfi hw hcl hf
          have f76 : ρ (.tmp 76) = .int .u64 (L : Int) := hF.each 0 (.eq _) _ rfl (hf.1 76 (by simp [Op.operands, Call.operands]))
          have f77 : ρ (.tmp 77) = .int .i64 (nn : Int) := hF.each 1 (.eq _) _ rfl (hf.1 77 (by simp [Op.operands, Call.operands]))
          have hu := hf.1 89 (by simp [Op.operands, Call.operands])
          obtain ⟨ps8, hp8, hO8, hrow8, -⟩ := hF.each 13 (.own (ls.take k ++ [⟨[], 8⟩] ++ ls.drop k) 14) _ rfl hu hfi
          have hk8 : ps8.length ≤ 7 := by rw [← rlsOf_len ps8, hp8]; have := LLn.out; simp; omega
          obtain ⟨a8, c8, f89, hL8⟩ := hO8.lsm (by omega)
          have hr8 := hL8.rls
          rw [hp8] at hr8
          exact ok_call (f := 21) (args := #[.int .u64 (L : Int), .int .i64 (nn : Int), .slice a8 ps8.length c8]) (by simp [execOp, f76, f77, f89, hf.2.2.2, go_sem]) ((sg_Counts_yes L nn HLL.out HNN.out a8 ps8.length c8 (ls.take k ++ [⟨[], 8⟩] ++ ls.drop k) w' hr8 HRT.out).mono fun e w2 ⟨⟨g, he, hge, hrow⟩, hb⟩ => ⟨_, he, hF.step 14 (.pr _ (keeps_row (fun g => .tuple #[.slice (some ⟨g, 0, none⟩) 10 10, .int .i64 0]) w7.heap.size 3 (tab 10 fC))) _ rfl hb ⟨g, rfl, (by rw [← HfC.out]; exact hrow), fun e2 => by have := (hF.lt _ e2).2; omega, Nat.le_trans hF.below.size hge⟩⟩)
        · -- 15
          rintro ρ f w' ⟨row, hF⟩ hfi hw hcl hf
          obtain ⟨g, f90, hrow, hne, hge⟩ := hF.each 14 (.pr _ (keeps_row (fun g => .tuple #[.slice (some ⟨g, 0, none⟩) 10 10, .int .i64 0]) w7.heap.size 3 (tab 10 fC))) _ rfl (hf.1 90 (by simp [Op.operands]))
          refine ok_value (v := .tuple #[.slice (some ⟨g, 0, none⟩) 10 10, .int .i64 0]) (w' := w') ?_ (hF.step 15 (.pr _ (keeps_row (fun g => .tuple #[.slice (some ⟨g, 0, none⟩) 10 10, .int .i64 0]) w7.heap.size 3 (tab 10 fC))) _ rfl (Below.refl _ _) ⟨g, rfl, hrow, hne, hge⟩)
          simp [execOp, f90, hf.2.1, go_sem]
        · -- 16
          rintro ρ f w' ⟨row, hF⟩ hfi hw hcl hf
          obtain ⟨g, f75, hrow, hne, hge⟩ := hF.each 15 (.pr _ (keeps_row (fun g => .tuple #[.slice (some ⟨g, 0, none⟩) 10 10, .int .i64 0]) w7.heap.size 3 (tab 10 fC))) _ rfl (hf.1 75 (by simp [Op.operands]))
          refine ok_value (v := .slice (some ⟨g, 0, none⟩) 10 10) (w' := w') ?_ (hF.step 16 (.pr _ (keeps_row (fun g => .slice (some ⟨g, 0, none⟩) 10 10) w7.heap.size 3 (tab 10 fC))) _ rfl (Below.refl _ _) ⟨g, rfl, hrow, hne, hge⟩)
          simp [execOp, f75, hf.2.1, go_sem]
        · -- 17
          rintro ρ f w' ⟨row, hF⟩ hfi hw hcl hf
          obtain ⟨g, f75, hrow, hne, hge⟩ := hF.each 15 (.pr _ (keeps_row (fun g => .tuple #[.slice (some ⟨g, 0, none⟩) 10 10, .int .i64 0]) w7.heap.size 3 (tab 10 fC))) _ rfl (hf.1 75 (by simp [Op.operands]))
          refine ok_value (v := .int .i64 0) (w' := w') ?_ (hF.step 17 (.eq _) _ rfl (Below.refl _ _) rfl)
          simp [execOp, f75, go_sem]
        · -- 18
          rintro ρ f w' ⟨row, hF⟩ hfi hw hcl hf
          obtain ⟨g, f91, hrow, hne, hge⟩ := hF.each 16 (.pr _ (keeps_row (fun g => .slice (some ⟨g, 0, none⟩) 10 10) w7.heap.size 3 (tab 10 fC))) _ rfl (hf.1 91 (by simp [Op.operands]))
          refine ok_value (v := .slice (some ⟨g, 0, none⟩) 10 10) (w' := w') ?_ (hF.step 18 (.pr _ (keeps_row (fun g => .slice (some ⟨g, 0, none⟩) 10 10) w7.heap.size 3 (tab 10 fC))) _ rfl (Below.refl _ _) ⟨g, rfl, hrow, hne, hge⟩)
          simp [execOp, f91, hf.2.1, go_sem]
        · -- 19
          rintro ρ f w' ⟨row, hF⟩ hfi hw hcl hf
          have f92 : ρ (.tmp 92) = .int .i64 0 := hF.each 17 (.eq _) _ rfl (hf.1 92 (by simp [Op.operands]))
          exact ok_value (v := .int .i64 0) (w' := w') (by simp [execOp, f92]) (hF.step 19 (.eq _) _ rfl (Below.refl _ _) rfl)
      case fini =>
        rintro vs w10 hlen ⟨row, hF⟩
        have hl0 : vs.length = 20 := hlen
        clear hlen
        obtain ⟨v0, t0, rfl, hl1⟩ := uncons hl0
        clear hl0
        obtain ⟨v1, t1, rfl, hl2⟩ := uncons hl1
        clear hl1
        obtain ⟨v2, t2, rfl, hl3⟩ := uncons hl2
        clear hl2
        obtain ⟨v3, t3, rfl, hl4⟩ := uncons hl3
        clear hl3
        obtain ⟨v4, t4, rfl, hl5⟩ := uncons hl4
        clear hl4
        obtain ⟨v5, t5, rfl, hl6⟩ := uncons hl5
        clear hl5
        obtain ⟨v6, t6, rfl, hl7⟩ := uncons hl6
        clear hl6
        obtain ⟨v7, t7, rfl, hl8⟩ := uncons hl7
        clear hl7
        obtain ⟨v8, t8, rfl, hl9⟩ := uncons hl8
        clear hl8
        obtain ⟨v9, t9, rfl, hl10⟩ := uncons hl9
        clear hl9
        obtain ⟨v10, t10, rfl, hl11⟩ := uncons hl10
        clear hl10
        obtain ⟨v11, t11, rfl, hl12⟩ := uncons hl11
        clear hl11
        obtain ⟨v12, t12, rfl, hl13⟩ := uncons hl12
        clear hl12
        obtain ⟨v13, t13, rfl, hl14⟩ := uncons hl13
        clear hl13
        obtain ⟨v14, t14, rfl, hl15⟩ := uncons hl14
        clear hl14
        obtain ⟨v15, t15, rfl, hl16⟩ := uncons hl15
        clear hl15
        obtain ⟨v16, t16, rfl, hl17⟩ := uncons hl16
        clear hl16
        obtain ⟨v17, t17, rfl, hl18⟩ := uncons hl17
        clear hl17
        obtain ⟨v18, t18, rfl, hl19⟩ := uncons hl18
        clear hl18
        obtain ⟨v19, t19, rfl, hl20⟩ := uncons hl19
        clear hl19
        obtain rfl := List.eq_nil_of_length_eq_zero hl20
        clear hl20
        obtain ⟨gC, eC, hrC, -, -⟩ := hF.each 18 (.pr _ (keeps_row (fun g => .slice (some ⟨g, 0, none⟩) 10 10) w7.heap.size 3 (tab 10 fC))) v18 rfl rfl
        have zC : v19 = .int .i64 0 := hF.each 19 (.eq (.int .i64 0)) v19 rfl rfl
        subst eC zC
        have hBC := hF.below
        clear hF HOI
        simp only [putAll, List.zip_cons_cons, List.zip_nil_right, List.foldl_cons, List.foldl_nil]
        simp only [Act.put, List.setIfInBounds_toArray, List.set_cons_succ, List.set_cons_zero]
        have HB10 := Lib.hid (HB9.out.trans (hBC.mono HB9.out.size))
        have HL10 := Lib.hid (HL9.out.below hBC)
        have HA10 := Lib.hid (HA9.out.later hBC)
        have HBb10 := Lib.hid (HBb9.out.later hBC)
        have HC10 := Lib.hid hrC
        have HRD : Hid (rightS ls = true) := Lib.hid (by
          have h1 := KR.out.1
          have h2 := KR.out.2
          unfold rightS
          rw [h1]; simp; omega)
        obtain ⟨fD, HfD⟩ : ∃ f, Hid (cnV L (nn : Int) ls = f) := ⟨_, Lib.hid rfl⟩
        have F0 : Hid (fA 0 = 0) := Lib.hid (by rw [← HfA.out]; exact last_zero HLL.out nn KS.out)
        have F9 : Hid (fA 9 = fD 0) := Lib.hid (by rw [← HfA.out, ← HfD.out]; exact last_nine HLL.out nn KS.out)
        have FM : Hid (∀ j, 0 < j → j < 9 → fA j = fD j) := Lib.hid fun j h1 h2 => by rw [← HfA.out, ← HfD.out]; exact last_mid HLL.out nn j h1 h2
        have FB : Hid (∀ j, fB j = fA j) := Lib.hid fun j => by rw [← HfB.out, ← HfA.out]; exact last_more HLL.out nn ls j
        have FC : Hid (∀ j, fC j = fD j) := Lib.hid fun j => by
          have := none_more L nn (ls.take k) (ls.drop k) 8 j
          rw [List.take_append_drop] at this
          rw [← HfC.out, ← HfD.out]; exact this
        have FT : Hid (sumN 10 fD = chs (pop L) nn) := Lib.hid (by
          have h1 := gv_sum (deck L) nn QT ls HRD.out
          have h2 : fD = fun s : Nat => gvC (deck L) nn QT ls (s : Int) := by rw [← HfD.out]; unfold cnV; rw [Int.toNat_natCast]
          rw [h2, h1, cnt_true, deck_pop HLL.out])
        have FP : Hid (∀ j, j ≤ 10 → sumN j fD ≤ 4503599627370496) := Lib.hid fun j hj => by rw [← HfD.out]; exact gv_part L (nn : Int) ls HRD.out j hj
        clear hBC hrC HB9 HL9 HA9 HBb9 HRT HK hki hkc hlc hkl KS KR LLn
        go_wp2_with fail
        refine (sg_Counts_yes L nn HLL.out HNN.out a1 ps.length c1 ls _ (HP1.out.1 ▸ HL10.out.rls) HRD.out).mono ?_
        rintro e w11 ⟨⟨gD, rfl, -, hrD⟩, hb11⟩
        rw [HfD.out] at hrD
        have HB11 := Lib.hid ((HB1.out.trans (HB10.out.mono HB1.out.size)).trans (hb11.mono (HB1.out.trans (HB10.out.mono HB1.out.size)).size))
        have HA11 := Lib.hid (HA10.out.later hb11)
        have HBb11 := Lib.hid (HBb10.out.later hb11)
        have HC11 := Lib.hid (HC10.out.later hb11)
        have HD11 := Lib.hid hrD
        clear hb11 hrD HB10 HA10 HBb10 HC10 HL10
        go_wp2_with fail
        refine (ag_TotalOk L (nn : Int) HLL.out (by omega) (by have := HNN.out; omega) _).mono ?_
        rintro e w' ⟨rfl, rfl⟩
        rw [Int.toNat_natCast, ← FT.out]
        have c0 := (HA11.out.cell 0).trans (tab_get 10 fA 0 (by decide))
        have c9 := (HA11.out.cell 9).trans (tab_get 10 fA 9 (by decide))
        have d0 := (HD11.out.cell 0).trans (tab_get 10 fD 0 (by decide))
        rw [F0.out] at c0
        rw [F9.out] at c9
        have rc0 := fun dd os => cell_regrown c0 dd os
        have rc9 := fun dd os => cell_regrown c9 dd os
        have rd0 := fun dd os => cell_regrown d0 dd os
        have HN10 := Lib.hid (FP.out 10 (Nat.le_refl _))
        obtain ⟨tot, HTot⟩ : ∃ t, Hid (sumN 10 fD = t) := ⟨_, Lib.hid rfl⟩
        rw [HTot.out]
        obtain ⟨z, hz⟩ : ∃ z, fD 0 = z := ⟨_, rfl⟩
        rw [hz] at c9 d0 rc9 rd0
        clear hz
        go_wp2_with fail
        refine wp_region_quiet_below (by kernel_rfl) (by kernel_rfl) ?_
        repeat (first | go_big_quiet_step (fail) | quiet_step (fail))
        refine wpQuiet_nil ?_
        rintro _ ⟨p, rfl⟩
        have hb12 := below_regrown w11 p.d p.os
        have HB12 := Lib.hid (HB11.out.trans (hb12.mono HB11.out.size))
        have HA12 := Lib.hid (HA11.out.later hb12)
        have HBb12 := Lib.hid (HBb11.out.later hb12)
        have HC12 := Lib.hid (HC11.out.later hb12)
        have HD12 := Lib.hid (HD11.out.later hb12)
        generalize grow (redrawn w11 p.d) p.os = w12 at *
        clear hb12 rc0 rc9 rd0 c0 c9 d0 HA11 HBb11 HC11 HD11 HB11
        go_wp2_with fail
        go_loopw [25, 153] (fun t i wr => ∃ (k : Nat), k ≤ 10 ∧ i = .int .i64 (k : Int) ∧ t = .int .i64 ((sumN k fD : Nat) : Int) ∧ Below w12.heap.size w12 wr) (fun _ i _ => 10 - (intOf i).toNat)
        case atStart => exact ⟨0, by omega, rfl, rfl, Below.refl _ _⟩
        case round =>
          obtain ⟨j, hj, rfl, rfl, hb⟩ := hrel
          have HBr := Lib.hid hb
          clear hb
          by_cases hlt : j < 10
          · have hd : decide ((j : Int) < 10) = true := by simp; omega
            have hji : (j : Int) < 10 := by omega
            have ca := ((HA12.out.later HBr.out).cell j).trans (tab_get 10 fA j hlt)
            have cb := ((HBb12.out.later HBr.out).cell j).trans (tab_get 10 fB j hlt)
            have cc := ((HC12.out.later HBr.out).cell j).trans (tab_get 10 fC j hlt)
            have cd := ((HD12.out.later HBr.out).cell j).trans (tab_get 10 fD j hlt)
            rw [FB.out j] at cb
            rw [FC.out j] at cc
            have hsum : sumN (j + 1) fD = sumN j fD + fD j := rfl
            have hle := FP.out (j + 1) (by omega)
            rw [hsum] at hle
            have HSM := Lib.hid hsum
            clear hsum
            have hmid := FM.out j
            obtain ⟨sj, hsj⟩ : ∃ s, sumN j fD = s := ⟨_, rfl⟩
            rw [hsj] at HSM hle ⊢
            obtain ⟨x, hx⟩ : ∃ x, fA j = x := ⟨_, rfl⟩
            obtain ⟨y, hy⟩ : ∃ y, fD j = y := ⟨_, rfl⟩
            rw [hx] at ca cb hmid
            rw [hy] at cc cd hmid HSM hle
            clear hx hy hsj
            have ra := fun dd os => cell_regrown ca dd os
            have rb := fun dd os => cell_regrown cb dd os
            have rc := fun dd os => cell_regrown cc dd os
            have rd := fun dd os => cell_regrown cd dd os
            rcases (show j < 1 ∨ (0 < j ∧ j < 9) ∨ 8 < j by omega) with h0 | ⟨h1, h2⟩ | h9
            · have g0 : decide ((0 : Int) < (j : Int)) = false := by simp; omega
              have g1 : decide (0 < j) = false := by simp; omega
              have g2 : ¬ 0 < j := by omega
              clear hmid
              go_wp2_with fail
              refine wp_region_quiet_below (by kernel_rfl) (by kernel_rfl) ?_
              repeat (first | go_big_quiet_step (fail) | quiet_step (fail))
              refine wpQuiet_nil ?_
              rintro _ ⟨p, rfl⟩
              have hb := below_regrown wr p.d p.os
              have HB13 := Lib.hid (HBr.out.trans (hb.mono HBr.out.size))
              have cd2 := rd p.d p.os
              generalize grow (redrawn wr p.d) p.os = wa at *
              clear hb ra rb rc rd ca cb cc cd
              go_wp2_with fail
              exact ⟨⟨j + 1, by omega, by simp, by rw [HSM.out]; simp, HB13.out⟩, by simp [intOf]; omega⟩
            · have g0 : decide ((0 : Int) < (j : Int)) = true := by simp; omega
              have g9 : decide ((j : Int) < 9) = true := by simp; omega
              obtain rfl := hmid h1 h2
              clear hmid
              go_wp2_with fail
              refine wp_region_quiet_below (by kernel_rfl) (by kernel_rfl) ?_
              repeat (first | go_big_quiet_step (fail) | quiet_step (fail))
              refine wpQuiet_nil ?_
              rintro _ ⟨p, rfl⟩
              have hb := below_regrown wr p.d p.os
              have HB13 := Lib.hid (HBr.out.trans (hb.mono HBr.out.size))
              have cd2 := rd p.d p.os
              generalize grow (redrawn wr p.d) p.os = wa at *
              clear hb ra rb rc rd ca cb cc cd
              go_wp2_with fail
              exact ⟨⟨j + 1, by omega, by simp, by rw [HSM.out]; simp, HB13.out⟩, by simp [intOf]; omega⟩
            · have g0 : decide ((0 : Int) < (j : Int)) = true := by simp; omega
              have g9 : decide ((j : Int) < 9) = false := by simp; omega
              have g1 : 0 < j := by omega
              have g2 : ¬ (j : Int) < 9 := by omega
              clear hmid
              go_wp2_with fail
              refine wp_region_quiet_below (by kernel_rfl) (by kernel_rfl) ?_
              repeat (first | go_big_quiet_step (fail) | quiet_step (fail))
              refine wpQuiet_nil ?_
              rintro _ ⟨p, rfl⟩
              have hb := below_regrown wr p.d p.os
              have HB13 := Lib.hid (HBr.out.trans (hb.mono HBr.out.size))
              have cd2 := rd p.d p.os
              generalize grow (redrawn wr p.d) p.os = wa at *
              clear hb ra rb rc rd ca cb cc cd
              go_wp2_with fail
              exact ⟨⟨j + 1, by omega, by simp, by rw [HSM.out]; simp, HB13.out⟩, by simp [intOf]; omega⟩
          · obtain rfl : j = 10 := by omega
            simp only [show ((10 : Nat) : Int) = 10 from rfl]
            rw [HTot.out]
            go_wp2_with fail
            refine (law41_awake _).mono ?_
            rintro e w14 ⟨rfl, hb14⟩
            have h1 := HB12.out.trans (HBr.out.mono HB12.out.size)
            have HB14 := Lib.hid (h1.trans (hb14.mono h1.size))
            clear hb14 h1
            go_wp2_with fail
            go_ret
            exact ⟨rfl, HB14.out⟩
end Go.Proofs.Ytikdkhiehfccpaa
