/- Contracts of State, Turn, suits, leads, over this seat's program. -/
import Derived.Test.YtgnlmodaekfhfaaDoorLdE
import Derived.Laws.Tables
import Derived.Laws.CopyOwn
namespace Go.Proofs.YtgnlmodaekfhfaaDoor
open Go.RowKit Go.Shelf Go.Sort

theorem results_cell1 {P : Program} {fn : Func} {p : Tmp} {ty : TypeId} (h : fn.results = #[.cell p ty]) (tmps : Array Value) (w : World) (g : Nat) (t : TypeId) (cs : Array Value) (fr : Nat × Nat) (d : TypeDesc)
    (hp : tmps.getD p undef = .pointer (some ⟨g, 0, none⟩)) (hg : w.heap[g]? = some (.cells cs t fr))
    (hu : P.underlying ty = some d) (hd : (match d with | .struct _ | .array _ _ => true | _ => false) = true) (hi : (P.info? ty).map (·.size) = some cs.size) :
    (results fn tmps).run P w = .ok (.agg cs) w := by
  have hp' : tmps[p]?.getD undef = .pointer (some ⟨g, 0, none⟩) := by simpa using hp
  simp [results, h, hp', asAddr, run_loadVar_row w g t ty cs fr d hg hu hd hi]
abbrev zst : Array Value := #[.int .u64 0, .int .u64 0, .int .u64 0, .int .u64 0, .int .u64 0, .int .u64 0, .int .u64 0, .int .u64 0, .int .u8 0, .int .u8 0, .int .u8 0, .int .u8 0, .int .u8 0, .int .u8 0, .int .u8 0, .int .u8 0, .int .u8 0, .int .u8 0, .bool false, .bool false, .int .u8 0, .int .u8 0, .int .u8 0, .int .u8 0]
/-- made by New -/
abbrev St.md (s : St) : Prop := s.same St.zero = false
theorem ld_madeT {w : World} {B : Nat} {s : St} (hm : s.md) (h : TblAt w B s) :
    Calls Tryd.prog 29 #[.pointer (some ⟨B, 0, none⟩)] w fun e w' => e = .returned (.bool true) ∧ w = w' := by
  have := ld_made h
  rw [show s.same St.zero = false from hm] at this
  exact this
theorem ld_State {w : World} {B : Nat} {s : St} (hm : s.md) (h : TblAt w B s) :
    Calls Tryd.prog 19 #[.pointer (some ⟨B, 0, none⟩)] w fun e w' => e = .returned (.agg s.cells) ∧ Below w.heap.size w w' := by
  obtain ⟨SA, hSA⟩ : ∃ SA, SA = s.cells := ⟨_, rfl⟩
  have hs24 : SA.size = 24 := by rw [hSA]; rfl
  have hone : Hid (SA.all (·.oneCell') = true) := Lib.hid (by rw [hSA]; simp [Value.oneCell'])
  have HR0 : Hid (Row w B 62 SA) := Lib.hid (by rw [hSA]; exact h)
  have HZ : Hid ((Tryd.prog.info? 45).map (·.size) = some SA.size) := Lib.hid (by rw [hs24]; exact size_st)
  have HM := Lib.hid (ld_madeT hm h)
  have HN := Lib.hid (Row.new w 45 zst)
  have HB := Lib.hid ((Below.refl w.heap.size w).alloc (Nat.le_refl _) (.cells zst 45))
  rw [← hSA]
  have HS24 := Lib.hid hs24
  clear hSA hs24
  go_enter Tryd.func19, Tryd.ntmps19
  go_upto_region 1 with fail
  obtain ⟨w1, hw1⟩ : ∃ w1, w1 = w.alloc (.cells zst 45) := ⟨_, rfl⟩
  change Code.wp _ _ _ _ (w.alloc (.cells zst 45))
  rw [← hw1] at HN HB ⊢
  have HR1 := Lib.hid (HR0.out.below HR0.out.lt HB.out)
  have HM1 := Lib.hid (ld_madeT hm (h.below h.lt HB.out))
  clear hw1
  go_wp2_with (first
    | (go_at_call 29; refine HM1.out.mono ?_; rintro e w' ⟨rfl, rfl⟩)
    | refine wpList_load_row rfl 45 (.tmp 9) rfl B rfl 62 SA (0, 0) _ HR1.out Tryd.underlying45 rfl HZ.out ?_
    | refine wpList_store_row rfl 45 (.tmp 2) (.tmp 10) rfl w.heap.size SA rfl rfl 45 _ HN.out HZ.out (by rw [HS24.out]; rfl) hone.out ?_)
  refine bodyPost_ret (v := .agg SA) (results_cell1 Tryd.results19 _ _ w.heap.size _ SA (0, 0) _ rfl (setRow_heap _ _ _ _ _ _ HN.out) Tryd.underlying45 rfl HZ.out) rfl ⟨rfl, below_setRow HB.out (Nat.le_refl _) _⟩
theorem eq_deal0 (h : Nat → Nat) (w : World) : Sem.run Tryd.prog (Op.equalIn 10000 29 (.agg #[.int .u64 (h 0 : Int), .int .u64 (h 1 : Int), .int .u64 (h 2 : Int), .int .u64 (h 3 : Int)]) (.agg #[.int .u64 0, .int .u64 0, .int .u64 0, .int .u64 0])) w = .ok (h 0 == 0 && h 1 == 0 && h 2 == 0 && h 3 == 0) w := eq_deal14 9998 h (fun _ => 0) w
theorem ld_Turn {w : World} {B : Nat} {s : St} (hs : s.ok) (hm : s.md) (h : TblAt w B s) :
    Calls Tryd.prog 26 #[.pointer (some ⟨B, 0, none⟩)] w fun e w' => e = .returned (.tuple #[.int .u8 (s.turnV.1 : Int), .int .i64 (s.turnV.2 : Int)]) ∧ Below w.heap.size w w' := by
  have HM := Lib.hid (ld_madeT hm h)
  have HT := Lib.hid (ld_turn hs h)
  have c18 := h.cell 18
  have c0 := h.cell 0
  have c1 := h.cell 1
  have c2 := h.cell 2
  have c3 := h.cell 3
  simp only [List.getElem?_toArray, List.getElem?_cons_zero, List.getElem?_cons_succ] at c0 c1 c2 c3 c18
  have hq : ∀ w, Sem.run Tryd.prog (Op.equalIn 10000 29 (.agg #[.int .u64 (s.h 0 : Int), .int .u64 (s.h 1 : Int), .int .u64 (s.h 2 : Int), .int .u64 (s.h 3 : Int)]) (.agg #[.int .u64 0, .int .u64 0, .int .u64 0, .int .u64 0])) w = .ok s.over w := eq_deal0 s.h
  unfold St.turnV
  cases hp : s.pend <;> cases ho : s.over
  all_goals
    rw [ho] at hq
    rw [hp] at c18
    go_enter Tryd.func26, Tryd.ntmps26
    go_wp2_with (first
      | (go_at_call 29; refine HM.out.mono ?_; rintro e w' ⟨rfl, rfl⟩)
      | (go_at_call 30; refine HT.out.mono ?_; rintro e w' ⟨rfl, hb⟩))
    go_ret2
    first | exact ⟨rfl, hb⟩ | exact ⟨rfl, Below.refl _ _⟩
theorem bit8_ne (set k : Nat) (hs : set < 256) : (bits .and .u8 ((set : Int) / 2 ^ k) 1 != 0) = set.testBit k := by
  have e : ((set : Int) / 2 ^ k) = ((set / 2 ^ k : Nat) : Int) := by simp
  have hl : set / 2 ^ k < 256 := Nat.lt_of_le_of_lt (Nat.div_le_self _ _) hs
  have h := run_and8 (set / 2 ^ k) 1 hl (by decide)
  rw [intBits_and] at h
  injection h with h
  injection h with _ h
  rw [e, show (1 : Int) = ((1 : Nat) : Int) from rfl, h, show (0 : Int) = ((0 : Nat) : Int) from rfl, bne_cast]
  rw [Nat.testBit, Nat.shiftRight_eq_div_pow, Nat.and_comm]
theorem ld_suits (set : Nat) (hs : set < 256) (w : World) :
    Calls Tryd.prog 35 #[.int .u8 (set : Int)] w fun e w' => e = .returned (.int .u64 (suitsM set : Int)) ∧ w = w' := by
  have hbit := fun k => bit8_ne set k hs
  go_enter Tryd.func35, Tryd.ntmps35
  go_wp2_with fail
  go_loopw [3, 5] (fun m i wr => ∃ k : Nat, k ≤ 4 ∧ i = .int .i64 (k : Int) ∧ m = .int .u64 (suitsTo set k : Int) ∧ wr = w) (fun _ i _ => 4 - (intOf i).toNat)
  case atStart => exact ⟨0, by omega, rfl, rfl, rfl⟩
  case round =>
    obtain ⟨k, hk, rfl, rfl, rfl⟩ := hrel
    by_cases hlt : k < 4
    · have hbk := hbit k
      clear hbit
      have hw := w64_52 (suitsTo_lt set k (by omega))
      have hw2 := w64_52 (sm_lt hlt)
      have hor : bits .or .u64 (suitsTo set k : Int) (IntKind.u64.wrap (8191 * 2 ^ (13 * k))) = ((lor (suitsTo set k) (sm k) : Nat) : Int) := by
        have e : IntKind.u64.wrap (8191 * 2 ^ (13 * k)) = (sm k : Int) := by
          rcases (show k = 0 ∨ k = 1 ∨ k = 2 ∨ k = 3 by omega) with rfl | rfl | rfl | rfl <;> rfl
        have h := run_or64 (suitsTo set k) (sm k) hw hw2
        rw [intBits_or] at h
        injection h with h
        injection h with _ h
        rw [e, h]
      have HOR := Lib.hid hor
      clear hor
      cases hb : set.testBit k
      · rw [hb] at hbk
        go_wp2_with fail
        go_roundw
        case rel =>
          refine ⟨k + 1, by omega, by go_num, ?_, trivial⟩
          rw [suitsTo, if_neg (by rw [hb]; decide)]
        case measure => simp [intOf]; omega
      · rw [hb] at hbk
        go_wp2_with fail
        go_roundw
        case rel =>
          refine ⟨k + 1, by omega, by go_num, ?_, trivial⟩
          rw [suitsTo, if_pos hb, ← HOR.out]
        case measure => simp [intOf]; omega
    · have hk4 : k = 4 := by omega
      subst hk4
      go_wp2_with fail
      go_ret
      exact ⟨rfl, rfl⟩
theorem ne_zero_cast (x : Nat) : (((x : Int)) != 0) = (x != 0) := bne_cast x 0
theorem ld_leads (hand must nt : Nat) (hh : W64 hand) (hm : must < 256) (hn : nt < 256) (w : World) :
    Calls Tryd.prog 33 #[.int .u64 (hand : Int), .int .u8 (must : Int), .int .u8 (nt : Int)] w fun e w' => e = .returned (.int .u64 (leadsV hand must nt : Int)) ∧ w = w' := by
  have H1 := Lib.hid (ld_suits must hm w)
  have H2 := Lib.hid (ld_suits nt hn w)
  unfold leadsV
  have hm6 := w64_52 (suitsM_lt must)
  have hn6 := w64_52 (suitsM_lt nt)
  generalize suitsM must = a at *
  generalize suitsM nt = b at *
  have t1 := ne_zero_cast (land hand a)
  have t2 := ne_zero_cast (landn hand b)
  by_cases h1 : land hand a ≠ 0
  · rw [if_pos h1]
    rw [(bne_iff_ne (a := land hand a) (b := 0)).2 h1] at t1
    clear h1 t2
    go_enter Tryd.func33, Tryd.ntmps33
    go_wp2_with (go_at_call 35; refine H1.out.mono ?_; rintro e w' ⟨rfl, rfl⟩)
    go_ret
    exact ⟨rfl, rfl⟩
  · rw [if_neg h1]
    have h1' : (land hand a != 0) = false := by simpa using h1
    rw [h1'] at t1
    clear h1 h1'
    by_cases h2 : landn hand b ≠ 0
    · rw [if_pos h2]
      rw [(bne_iff_ne (a := landn hand b) (b := 0)).2 h2] at t2
      clear h2
      go_enter Tryd.func33, Tryd.ntmps33
      go_wp2_with (go_at_call 35; first | (with_reducible refine H1.out.mono ?_; rintro e w' ⟨rfl, rfl⟩) | (with_reducible refine H2.out.mono ?_; rintro e w' ⟨rfl, rfl⟩))
      go_ret
      exact ⟨rfl, rfl⟩
    · rw [if_neg h2]
      have h2' : (landn hand b != 0) = false := by simpa using h2
      rw [h2'] at t2
      clear h2 h2'
      go_enter Tryd.func33, Tryd.ntmps33
      go_wp2_with (go_at_call 35; first | (with_reducible refine H1.out.mono ?_; rintro e w' ⟨rfl, rfl⟩) | (with_reducible refine H2.out.mono ?_; rintro e w' ⟨rfl, rfl⟩))
      go_ret
      exact ⟨rfl, rfl⟩
end Go.Proofs.YtgnlmodaekfhfaaDoor
