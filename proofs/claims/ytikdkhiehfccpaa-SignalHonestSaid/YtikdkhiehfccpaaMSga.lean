/- SgA, SgB, SgBj in one text. -/
import Derived.Test.YtikdkhiehfccpaaSgP

/- Rules in memory; contracts of signal.named, signal.Right, signal.Of over this seat's program. -/
namespace Go.Proofs.Ytikdkhiehfccpaa
open Go.RowKit Go.Sort Go.Shelf Cnt

/-- a slice of ranges that lies in a cell -/
structure RgC (w : World) (ai : Option Addr) (ci : Nat) (rs : List Rg) : Prop where
  rgs : Rgs w ai rs.length rs
  cap : rs.length ≤ ci
  nil : ai = none → ci = 0
theorem RgC.below {w w' : World} {ai : Option Addr} {ci : Nat} {rs : List Rg} (h : RgC w ai ci rs) (hb : Below w.heap.size w w') : RgC w' ai ci rs := ⟨h.rgs.below (Nat.le_refl _) hb, h.cap, h.nil⟩
/-- a slice of rules that reads as the list ls in the world w -/
structure Rls (w : World) (a : Option Addr) (len : Nat) (ls : List Rl) : Prop where
  length : ls.length = len
  small : len ≤ 14073748835123
  cells : len = 0 ∨ ∃ b off, a = some ⟨b, off, none⟩ ∧ b < w.heap.size ∧ ∀ i x, ls[i]? = some x → ∃ ai ci, w.cell? ⟨b, off + i * 2, none⟩ = some (.slice ai x.rs.length ci) ∧ w.cell? ⟨b, off + i * 2 + 1, none⟩ = some (.int .i64 x.s) ∧ RgC w ai ci x.rs
theorem Rls.below {w w' : World} {a : Option Addr} {len : Nat} {ls : List Rl} (h : Rls w a len ls) {B : Nat} (hB : w.heap.size ≤ B) (hb : Below B w w') : Rls w' a len ls := by
  refine ⟨h.length, h.small, ?_⟩
  rcases h.cells with h | ⟨b, off, ha, hlt, hc⟩
  · exact .inl h
  · refine .inr ⟨b, off, ha, Nat.lt_of_lt_of_le hlt hb.size, fun i x hx => ?_⟩
    obtain ⟨ai, ci, h1, h2, h3⟩ := hc i x hx
    exact ⟨ai, ci, (hb.cell (p := ⟨b, _, none⟩) (Nat.lt_of_lt_of_le hlt hB)).trans h1, (hb.cell (p := ⟨b, _, none⟩) (Nat.lt_of_lt_of_le hlt hB)).trans h2, h3.below (hb.mono hB)⟩
theorem Rls.at {w : World} {a : Option Addr} {len : Nat} {ls : List Rl} (h : Rls w a len ls) {k : Nat} (hk : k < len) :
    ∃ b off x ai ci, a = some ⟨b, off, none⟩ ∧ ls[k]? = some x ∧ w.cell? ⟨b, off + k * 2, none⟩ = some (.slice ai x.rs.length ci) ∧ w.cell? ⟨b, off + k * 2 + 1, none⟩ = some (.int .i64 x.s) ∧ RgC w ai ci x.rs := by
  rcases h.cells with h0 | ⟨b, off, ha, _, hc⟩
  · omega
  · have hx : ls[k]? = some (ls[k]'(by have := h.length; omega)) := List.getElem?_eq_getElem _
    obtain ⟨ai, ci, h1, h2, h3⟩ := hc k _ hx
    exact ⟨b, off, _, ai, ci, ha, hx, h1, h2, h3⟩
theorem Rls.nil (w : World) : Rls w none 0 [] := ⟨rfl, by decide, .inl rfl⟩
abbrev Rl.arr (x : Rl) (ai : Option Addr) (ci : Nat) : Array Value := #[.slice ai x.rs.length ci, .int .i64 x.s]
theorem size63 : (Try.prog.info? 63).map (·.size) = some 2 := by kernel_rfl

theorem sg_named (s : Int) (w : World) : Calls Try.prog 42 #[.int .i64 s] w fun e w' => e = .returned (.bool (namedB s)) ∧ w = w' := by
  unfold namedB
  by_cases h1 : 1 ≤ s <;> by_cases h2 : s ≤ 9
  all_goals
    simp only [h1, h2]
    go_enter Try.func42, Try.ntmps42
    go_wp2
    go_ret
    exact ⟨rfl, rfl⟩
/-- the first rules are right -/
def okTo (ls : List Rl) (k : Nat) : Bool := (ls.take k).all (fun x => namedB x.s && rightV x.rs)
theorem okTo_succ {ls : List Rl} {k : Nat} {x : Rl} (h : ls[k]? = some x) : okTo ls (k + 1) = (okTo ls k && (namedB x.s && rightV x.rs)) := by
  unfold okTo
  rw [take_snoc h, List.all_append]
  simp
theorem rgN_succ {ls : List Rl} {k : Nat} {x : Rl} (h : ls[k]? = some x) : rgN (ls.take (k + 1)) = rgN (ls.take k) + x.rs.length := by rw [take_snoc h, rgN_snoc]
theorem rightS_bad {ls : List Rl} {k : Nat} {x : Rl} (hx : ls[k]? = some x) (h : (namedB x.s && rightV x.rs) = false) : rightS ls = false := by
  unfold rightS
  have : ls.all (fun x => namedB x.s && rightV x.rs) = false := by
    rw [List.all_eq_false]
    exact ⟨x, List.mem_of_getElem? hx, by rw [h]; decide⟩
  rw [this]; rfl
theorem rightS_many {ls : List Rl} {k : Nat} (h : 20 < rgN (ls.take k)) : rightS ls = false := by
  unfold rightS
  have := rgN_take ls k
  rw [decide_eq_false (show ¬ rgN ls ≤ 20 by omega), Bool.and_false]
set_option maxHeartbeats 1000000 in
theorem sg_Right (a : Option Addr) (la ca : Nat) (ls : List Rl) (w : World) (ha : Rls w a la ls) :
    Calls Try.prog 31 #[.slice a la ca] w fun e w' => e = .returned (.bool (rightS ls)) ∧ Below w.heap.size w w' := by
  have HA := Lib.hid ha
  have hsm := ha.small
  clear ha
  go_enter Try.func31, Try.ntmps31
  go_wp2_with fail
  go_loopw [3, 5, 8] (fun n _ i wr => ∃ (k : Nat), k ≤ la ∧ i = .int .i64 (k : Int) ∧ n = .int .i64 ((rgN (ls.take k) : Nat) : Int) ∧ rgN (ls.take k) ≤ 20 ∧ okTo ls k = true ∧ Below w.heap.size w wr) (fun _ _ i _ => la - (intOf i).toNat)
  case atStart => exact ⟨0, by omega, rfl, rfl, by simp [rgN, allR], rfl, Below.refl _ _⟩
  case round =>
    obtain ⟨k, hk, rfl, rfl, h20, hok, hB⟩ := hrel
    by_cases hlt : k < la
    · obtain ⟨b, off, x, ai, ci, rfl, hx, c0, c1, hR⟩ := (HA.out.below (Nat.le_refl _) hB).at hlt
      have hd : decide ((k : Int) < (la : Int)) = true := by simp; omega
      have HX := Lib.hid hx
      have HN := Lib.hid (rgN_succ hx)
      have HOK := Lib.hid (okTo_succ hx)
      have HB := Lib.hid hB
      have HR := Lib.hid hR
      have hw : Below wr.heap.size wr (wr.alloc (.cells (x.arr ai ci) 63)) := (Below.refl _ _).alloc (Nat.le_refl _) _
      have HR1 := Lib.hid (hR.below hw)
      have HB1 := Lib.hid (hB.trans (hw.mono hB.size))
      clear hx hB hR hw
      generalize rgN (ls.take k) = n at *
      cases hn : namedB x.s
      · have HF := Lib.hid (rightS_bad HX.out (by rw [hn]; rfl))
        go_wp2_with (go_at_call 42; refine (sg_named x.s _).mono ?_; rintro e w' ⟨rfl, rfl⟩; rw [hn])
        go_ret
        exact ⟨by rw [HF.out]; rfl, HB1.out⟩
      · go_wp2_with (go_at_call 42; refine (sg_named x.s _).mono ?_; rintro e w' ⟨rfl, rfl⟩; rw [hn])
        refine (ag_Right ai x.rs.length ci x.rs _ HR1.out.rgs).mono ?_
        rintro e w2 ⟨rfl, hb2⟩
        have HRW := Lib.hid ((Row.new wr 63 (x.arr ai ci)).later hb2)
        have HB2 := Lib.hid (HB1.out.trans (hb2.mono HB1.out.size))
        clear hb2 HB1 HR1
        cases hr : rightV x.rs
        · have HF := Lib.hid (rightS_bad HX.out (by rw [hr, Bool.and_false]))
          go_wp2_with fail
          go_ret
          exact ⟨by rw [HF.out]; rfl, HB2.out⟩
        · have hl20 : x.rs.length ≤ 20 := (right_and _ hr).1
          have c2 := HRW.out.cell 0
          simp only [List.getElem?_toArray, List.getElem?_cons_zero] at c2
          by_cases hm : 20 < n + x.rs.length
          · have hdm : decide ((20 : Int) < (n : Int) + (x.rs.length : Int)) = true := by simp; omega
            have HF : Hid (rightS ls = false) := Lib.hid (rightS_many (k := k + 1) (by rw [HN.out]; exact hm))
            generalize x.rs.length = lx at *
            go_wp2_with fail
            go_ret
            exact ⟨by rw [HF.out]; rfl, HB2.out⟩
          · have hdm : decide ((20 : Int) < (n : Int) + (x.rs.length : Int)) = false := by simp; omega
            have HO2 : Hid (okTo ls (k + 1) = true) := Lib.hid (by rw [HOK.out, hok, hn, hr]; rfl)
            generalize x.rs.length = lx at *
            go_wp2_with fail
            exact ⟨⟨k + 1, by omega, by simp, by rw [HN.out]; simp, by rw [HN.out]; omega, HO2.out, HB2.out⟩, by simp [intOf]; omega⟩
    · obtain rfl : k = la := by omega
      have hd : decide ((k : Int) < (k : Int)) = false := by simp
      have HT : Hid (rightS ls = true) := Lib.hid (by
        unfold okTo at hok
        rw [List.take_of_length_le (by have := HA.out.length; omega)] at hok h20
        unfold rightS
        rw [hok, decide_eq_true h20]; rfl)
      have HB := Lib.hid hB
      clear hB
      go_wp2_with fail
      go_ret
      exact ⟨by rw [HT.out]; rfl, HB.out⟩
theorem of_take {h : Nat} {ls : List Rl} {k : Nat} {x : Rl} (hx : ls[k]? = some x) (hno : (ls.take k).all (fun y => !fitsV y.rs h) = true) (hf : fitsV x.rs h = true) : ofV ls h = x.s := by
  induction ls generalizing k with
  | nil => simp at hx
  | cons y ys ih =>
    cases k with
    | zero =>
      simp at hx
      subst hx
      show (if fitsV y.rs h then y.s else ofV ys h) = y.s
      rw [hf]; rfl
    | succ k =>
      rw [List.take_succ_cons, List.all_cons, Bool.and_eq_true] at hno
      show (if fitsV y.rs h then y.s else ofV ys h) = x.s
      rw [show fitsV y.rs h = false by simpa using hno.1]
      exact ih (by simpa using hx) hno.2
theorem of_none {h : Nat} {ls : List Rl} (hno : ls.all (fun y => !fitsV y.rs h) = true) : ofV ls h = 0 := by
  induction ls with
  | nil => rfl
  | cons y ys ih =>
    rw [List.all_cons, Bool.and_eq_true] at hno
    show (if fitsV y.rs h then y.s else ofV ys h) = 0
    rw [show fitsV y.rs h = false by simpa using hno.1]
    exact ih hno.2
theorem no_succ {h : Nat} {ls : List Rl} {k : Nat} {x : Rl} (hx : ls[k]? = some x) (hno : (ls.take k).all (fun y => !fitsV y.rs h) = true) (hf : fitsV x.rs h = false) : (ls.take (k + 1)).all (fun y => !fitsV y.rs h) = true := by
  rw [take_snoc hx, List.all_append, hno]
  simp [hf]
set_option maxHeartbeats 1000000 in
theorem sg_Of (a : Option Addr) (la ca : Nat) (ls : List Rl) (h : Nat) (hh : W64 h) (w : World) (ha : Rls w a la ls) :
    Calls Try.prog 23 #[.slice a la ca, .int .u64 (h : Int)] w fun e w' => e = .returned (.int .i64 (ofV ls h)) ∧ Below w.heap.size w w' := by
  have HA := Lib.hid ha
  have hsm := ha.small
  have HH := Lib.hid hh
  clear ha hh
  go_enter Try.func23, Try.ntmps23
  go_wp2_with fail
  go_loopw [6, 9] (fun _ i wr => ∃ (k : Nat), k ≤ la ∧ i = .int .i64 (k : Int) ∧ (ls.take k).all (fun y => !fitsV y.rs h) = true ∧ Below w.heap.size w wr) (fun _ i _ => la - (intOf i).toNat)
  case atStart => exact ⟨0, by omega, rfl, rfl, Below.refl _ _⟩
  case round =>
    obtain ⟨k, hk, rfl, hno, hB⟩ := hrel
    by_cases hlt : k < la
    · obtain ⟨b, off, x, ai, ci, rfl, hx, c0, c1, hR⟩ := (HA.out.below (Nat.le_refl _) hB).at hlt
      have hd : decide ((k : Int) < (la : Int)) = true := by simp; omega
      have HX := Lib.hid hx
      have HNO := Lib.hid hno
      have hw : Below wr.heap.size wr (wr.alloc (.cells (x.arr ai ci) 63)) := (Below.refl _ _).alloc (Nat.le_refl _) _
      have HR1 := Lib.hid (hR.below hw)
      have HB1 := Lib.hid (hB.trans (hw.mono hB.size))
      clear hx hB hR hw hno
      go_wp2_with fail
      refine (ag_Fits ai x.rs.length ci x.rs h HH.out _ HR1.out.rgs).mono ?_
      rintro e w2 ⟨rfl, hb2⟩
      have HRW := Lib.hid ((Row.new wr 63 (x.arr ai ci)).later hb2)
      have HB2 := Lib.hid (HB1.out.trans (hb2.mono HB1.out.size))
      clear hb2 HB1 HR1
      have c2 := HRW.out.cell 1
      simp only [List.getElem?_toArray, List.getElem?_cons_zero, List.getElem?_cons_succ] at c2
      cases hf : fitsV x.rs h
      · have HF := Lib.hid (no_succ HX.out HNO.out hf)
        clear hf
        go_wp2_with fail
        exact ⟨⟨k + 1, by omega, by simp, HF.out, HB2.out⟩, by simp [intOf]; omega⟩
      · have HF := Lib.hid (of_take HX.out HNO.out hf)
        clear hf
        go_wp2_with fail
        go_ret
        exact ⟨by rw [HF.out]; rfl, HB2.out⟩
    · obtain rfl : k = la := by omega
      have hd : decide ((k : Int) < (k : Int)) = false := by simp
      have HT : Hid (ofV ls h = 0) := Lib.hid (of_none (by rw [List.take_of_length_le (by have := HA.out.length; omega)] at hno; exact hno))
      have HB := Lib.hid hB
      clear hB hno
      go_wp2_with fail
      go_ret
      exact ⟨by rw [HT.out]; rfl, HB.out⟩
end Go.Proofs.Ytikdkhiehfccpaa

/- Contracts of signal.counter, signal.joint, their closures, and signal.gives over this seat's program. -/
namespace Go.Proofs.Ytikdkhiehfccpaa
open Go.RowKit Go.Sort Go.Shelf Cnt

/-- the running number while the rules are gone through -/
def gvN (ds : List Ft) (nn : Nat) (Q : (Nat → Nat) → Nat → Bool) (ls : List Rl) (s : Int) (k : Nat) : Nat := if s = 0 then 0 else gvC ds nn Q (ls.take k) s
theorem gvN_start (ds : List Ft) (nn : Nat) (Q : (Nat → Nat) → Nat → Bool) (ls : List Rl) (s : Int) : gvN ds nn Q ls s 0 = 0 := by
  unfold gvN
  split
  · rfl
  · exact gv_nil ds nn Q s (by assumption)
theorem gvN_same {ds : List Ft} {nn : Nat} {Q : (Nat → Nat) → Nat → Bool} {ls : List Rl} {s : Int} {k : Nat} {x : Rl} (hx : ls[k]? = some x) (h : x.s ≠ s) : gvN ds nn Q ls s (k + 1) = gvN ds nn Q ls s k := by
  unfold gvN
  split
  · rfl
  · rw [take_snoc hx]; exact gv_same ds nn Q _ x s (by assumption) h
theorem gvN_step {ds : List Ft} {nn : Nat} {Q : (Nat → Nat) → Nat → Bool} {ls : List Rl} {s : Int} {k : Nat} {x : Rl} (hx : ls[k]? = some x) (h1 : 1 ≤ x.s) (h : x.s = s) : gvN ds nn Q ls s (k + 1) + ftC2 ds nn Q (allR (ls.take k)) = gvN ds nn Q ls s k + ftC2 ds nn Q (allR (ls.take (k + 1))) := by
  unfold gvN
  rw [if_neg (by omega), if_neg (by omega), take_snoc hx]
  exact gv_step ds nn Q _ x s (by omega) h
theorem own_rc {w : World} {base : Nat} {v : Value} {rs : List Rg} (h : OwnR w base v rs) (hl : rs.length ≤ 100000) : ∃ a c, v = .slice a rs.length c ∧ Rgs w a rs.length rs := by
  obtain ⟨a, c, h1, h2, -, -⟩ := h.rgs hl
  exact ⟨a, c, h1, h2⟩
set_option maxHeartbeats 2000000 in
theorem sg_givesC (ds : List Ft) (nn : Nat) (Q : (Nat → Nat) → Nat → Bool) (hbd : ∀ q, cntF ds nn q ≤ 4503599627370496) (bl bn : Nat) (a : Option Addr) (la ca : Nat) (ls : List Rl) (s : Int) (A : Nat) (hAb : A ≤ 4503599627370496) (hA : s = 0 → A = cntF ds nn Q) (w : World) (ha : Rls w a la ls) (hok : rightS ls = true)
    (hf : ∀ W, Below w.heap.size w W → ∀ ad m c rs, Rgs W ad m rs → rightV rs = true → Calls Try.prog 61 #[.slice ad m c, .pointer (some ⟨bl, 0, none⟩), .pointer (some ⟨bn, 0, none⟩)] W fun e W' => e = .returned (.int .i64 ((ftC2 ds nn Q rs : Nat) : Int)) ∧ Below W.heap.size W W') :
    Calls Try.prog 36 #[.slice a la ca, .int .i64 s, .int .i64 (A : Int), .func (.func 61) #[] #[.pointer (some ⟨bl, 0, none⟩), .pointer (some ⟨bn, 0, none⟩)]] w fun e w' => e = .returned (.int .i64 ((gvC ds nn Q ls s : Nat) : Int)) ∧ Below w.heap.size w w' := by
  have HA := Lib.hid ha
  have HF := Lib.hid hf
  have HOK := Lib.hid hok
  have hsm := ha.small
  have HZ := Lib.hid fun h => gv_zero ds nn Q ls h
  have HAB := Lib.hid hAb
  have HAA := Lib.hid hA
  clear ha hf hok hAb hA
  go_enter Try.func36, Try.ntmps36
  go_wp2_with fail
  go_loopw [9, 10, 11, 13, 14, 17] (fun n ins v _ _ i wr => ∃ (k : Nat) (b : Bool), k ≤ la ∧ i = .int .i64 (k : Int) ∧ ins = .bool b ∧ n = .int .i64 ((gvN ds nn Q ls s k : Int) - (if b then (ftC2 ds nn Q (allR (ls.take k)) : Int) else 0)) ∧ (s = 0 → b = false) ∧ OwnR wr w.heap.size v (allR (ls.take k)) ∧ Below w.heap.size w wr) (fun _ _ _ _ _ i _ => la - (intOf i).toNat)
  case atStart => exact ⟨0, false, by omega, rfl, rfl, by rw [gvN_start]; rfl, fun _ => rfl, OwnR.nil _ _, Below.refl _ _⟩
  case round =>
    obtain ⟨k, b, hk, rfl, rfl, rfl, hs0, hO, hB⟩ := hrel
    by_cases hlt : k < la
    · obtain ⟨bb, off, x, ai, ci, rfl, hx, c0, c1, hR⟩ := (HA.out.below (Nat.le_refl _) hB).at hlt
      have hd : decide ((k : Int) < (la : Int)) = true := by simp; omega
      have HXS := Lib.hid (right_at HOK.out hx)
      have HRA := Lib.hid (right_allR HOK.out k)
      have HTK : Hid (allR (ls.take (k + 1)) = allR (ls.take k) ++ x.rs) := Lib.hid (by rw [take_snoc hx, allR_snoc])
      have HLN : Hid ((allR (ls.take k)).length + x.rs.length ≤ 20) := Lib.hid (by
        have h1 := rgN_take ls (k + 1)
        have h2 := right_rgN HOK.out
        rw [rgN_succ hx] at h1
        unfold rgN at *
        omega)
      have HS0 := Lib.hid hs0
      have HSAME := Lib.hid fun h => gvN_same (ds := ds) (nn := nn) (Q := Q) (s := s) hx h
      have HSTEP := Lib.hid fun h => gvN_step (ds := ds) (nn := nn) (Q := Q) (s := s) hx HXS.out.1 h
      have hw : Below wr.heap.size wr (wr.alloc (.cells (x.arr ai ci) 63)) := (Below.refl _ _).alloc (Nat.le_refl _) _
      have HR1 := Lib.hid (hR.below hw)
      have HB1 := Lib.hid (hB.trans (hw.mono hB.size))
      have HO1 := Lib.hid (hO.later hw)
      obtain ⟨av, cv, rfl, hav⟩ := own_rc hO (by have := HLN.out; omega)
      have HAV1 := Lib.hid (hav.below (Nat.le_refl _) hw)
      have bN : gvN ds nn Q ls s k ≤ 4503599627370496 := by
        unfold gvN; split
        · omega
        · exact hbd _
      have bF : ftC2 ds nn Q (allR (ls.take k)) ≤ 4503599627370496 := hbd _
      have bN1 : gvN ds nn Q ls s (k + 1) ≤ 4503599627370496 := by
        unfold gvN; split
        · omega
        · exact hbd _
      have bF1 : ftC2 ds nn Q (allR (ls.take (k + 1))) ≤ 4503599627370496 := hbd _
      obtain ⟨N, HNK⟩ : ∃ n, Hid (gvN ds nn Q ls s k = n) := ⟨_, Lib.hid rfl⟩
      obtain ⟨F, HFK⟩ : ∃ n, Hid (ftC2 ds nn Q (allR (ls.take k)) = n) := ⟨_, Lib.hid rfl⟩
      obtain ⟨N1, HNK1⟩ : ∃ n, Hid (gvN ds nn Q ls s (k + 1) = n) := ⟨_, Lib.hid rfl⟩
      obtain ⟨F1, HFK1⟩ : ∃ n, Hid (ftC2 ds nn Q (allR (ls.take (k + 1))) = n) := ⟨_, Lib.hid rfl⟩
      rw [HNK.out] at bN HSAME HSTEP
      rw [HFK.out] at bF HSTEP
      rw [HNK1.out] at bN1 HSAME HSTEP
      rw [HFK1.out] at bF1 HSTEP
      rw [HNK.out, HFK.out]
      clear hx hB hO hR hw hav hs0
      rcases Nat.eq_zero_or_pos x.rs.length with h0 | h0
      · have hF1 : F1 = F := by
          rw [← HFK1.out, ← HFK.out, HTK.out, List.eq_nil_of_length_eq_zero h0, List.append_nil]
        have hN1 : N1 = N := by
          by_cases he : x.s = s
          · have := HSTEP.out he; omega
          · exact HSAME.out he
        have HT2 : Hid (allR (ls.take (k + 1)) = allR (ls.take k)) := Lib.hid (by rw [HTK.out, List.eq_nil_of_length_eq_zero h0, List.append_nil])
        have HEE := Lib.hid (And.intro hN1 hF1)
        rw [h0] at c0
        have e0 : x.arr ai ci = #[.slice ai 0 ci, .int .i64 x.s] := by unfold Rl.arr; rw [h0]
        rw [e0] at HB1 HO1
        clear hF1 hN1 h0 e0
        go_wp2_with fail
        exact ⟨⟨k + 1, b, by omega, by simp, rfl, by rw [HNK1.out, HFK1.out, HEE.out.1, HEE.out.2], HS0.out, by rw [HT2.out]; exact HO1.out, HB1.out⟩, by simp [intOf]; omega⟩
      · have hne : ((x.rs.length : Int) == 0) = false := beq_eq_false_iff_ne.2 (by omega)
        by_cases he : x.s = s
        · have hse : (x.s == s) = true := by simp [he]
          have HST := Lib.hid (HSTEP.out he)
          have HE := Lib.hid he
          have HS0' : Hid (¬ s = 0) := Lib.hid (by have := HXS.out; omega)
          clear HS0 HSTEP HSAME he
          have HS0 := HS0'
          clear HS0'
          rcases b with _ | _
          · simp only [Bool.false_eq_true, if_false, Int.sub_zero]
            go_wp2_with fail
            refine (HF.out _ HB1.out av (allR (ls.take k)).length cv (allR (ls.take k)) HAV1.out HRA.out).mono ?_
            rintro e w2 ⟨rfl, hb2⟩
            have HRz := Lib.hid ((Row.new wr 63 (x.arr ai ci)).later hb2)
            have HOz := Lib.hid (HO1.out.later hb2)
            have HBz := Lib.hid (HB1.out.trans (hb2.mono HB1.out.size))
            have HCz := Lib.hid (HR1.out.below hb2)
            have c2 := HRz.out.cell 0
            simp only [List.getElem?_toArray, List.getElem?_cons_zero] at c2
            clear hb2 HB1 HR1 HO1 HAV1
            rw [HFK.out]
            go_wp2_with (refine appRn rfl (.tmp 51) (.tmp 53) rfl w.heap.size (.slice av (allR (ls.take k)).length cv) (allR (ls.take k)) x.rs rfl HOz.out ai x.rs.length ci rfl HCz.out.rgs HCz.out.nil (by have := HLN.out; omega) HBz.out.size ?_; intro v' w7 h1 h2 h3 h4; have HB7 := Lib.hid (HBz.out.trans h2); have HO7 := Lib.hid h1; clear h1 h2 h3 h4)
            exact ⟨⟨k + 1, true, by omega, by simp, rfl, by rw [HNK1.out, HFK1.out]; have := HST.out; simp; omega, fun h => absurd h HS0.out, by rw [HTK.out]; exact HO7.out, HB7.out⟩, by simp [intOf]; omega⟩
          · simp only [if_true]
            have HRz := Lib.hid (Row.new wr 63 (x.arr ai ci))
            have HOz := HO1
            have HBz := HB1
            have HCz := HR1
            go_wp2_with (refine appRn rfl (.tmp 51) (.tmp 53) rfl w.heap.size (.slice av (allR (ls.take k)).length cv) (allR (ls.take k)) x.rs rfl HOz.out ai x.rs.length ci rfl HCz.out.rgs HCz.out.nil (by have := HLN.out; omega) HBz.out.size ?_; intro v' w7 h1 h2 h3 h4; have HB7 := Lib.hid (HBz.out.trans h2); have HO7 := Lib.hid h1; clear h1 h2 h3 h4)
            exact ⟨⟨k + 1, true, by omega, by simp, rfl, by rw [HNK1.out, HFK1.out]; have := HST.out; simp; omega, fun h => absurd h HS0.out, by rw [HTK.out]; exact HO7.out, HB7.out⟩, by simp [intOf]; omega⟩
        · have hse : (x.s == s) = false := by simp [he]
          have HST := Lib.hid (HSAME.out he)
          clear HSTEP HSAME he
          rcases b with _ | _
          · simp only [Bool.false_eq_true, if_false, Int.sub_zero]
            have HRz := Lib.hid (Row.new wr 63 (x.arr ai ci))
            have HOz := HO1
            have HBz := HB1
            have HCz := HR1
            go_wp2_with (refine appRn rfl (.tmp 51) (.tmp 53) rfl w.heap.size (.slice av (allR (ls.take k)).length cv) (allR (ls.take k)) x.rs rfl HOz.out ai x.rs.length ci rfl HCz.out.rgs HCz.out.nil (by have := HLN.out; omega) HBz.out.size ?_; intro v' w7 h1 h2 h3 h4; have HB7 := Lib.hid (HBz.out.trans h2); have HO7 := Lib.hid h1; clear h1 h2 h3 h4)
            exact ⟨⟨k + 1, false, by omega, by simp, rfl, by rw [HNK1.out]; have := HST.out; simp; omega, fun _ => rfl, by rw [HTK.out]; exact HO7.out, HB7.out⟩, by simp [intOf]; omega⟩
          · simp only [if_true]
            go_wp2_with fail
            refine (HF.out _ HB1.out av (allR (ls.take k)).length cv (allR (ls.take k)) HAV1.out HRA.out).mono ?_
            rintro e w2 ⟨rfl, hb2⟩
            have HRz := Lib.hid ((Row.new wr 63 (x.arr ai ci)).later hb2)
            have HOz := Lib.hid (HO1.out.later hb2)
            have HBz := Lib.hid (HB1.out.trans (hb2.mono HB1.out.size))
            have HCz := Lib.hid (HR1.out.below hb2)
            have c2 := HRz.out.cell 0
            simp only [List.getElem?_toArray, List.getElem?_cons_zero] at c2
            clear hb2 HB1 HR1 HO1 HAV1
            rw [HFK.out]
            go_wp2_with (refine appRn rfl (.tmp 51) (.tmp 53) rfl w.heap.size (.slice av (allR (ls.take k)).length cv) (allR (ls.take k)) x.rs rfl HOz.out ai x.rs.length ci rfl HCz.out.rgs HCz.out.nil (by have := HLN.out; omega) HBz.out.size ?_; intro v' w7 h1 h2 h3 h4; have HB7 := Lib.hid (HBz.out.trans h2); have HO7 := Lib.hid h1; clear h1 h2 h3 h4)
            exact ⟨⟨k + 1, false, by omega, by simp, rfl, by rw [HNK1.out]; have := HST.out; simp; omega, fun _ => rfl, by rw [HTK.out]; exact HO7.out, HB7.out⟩, by simp [intOf]; omega⟩
    · obtain rfl : k = la := by omega
      have hd : decide ((k : Int) < (k : Int)) = false := by simp
      have hall : ls.take k = ls := List.take_of_length_le (by have := HA.out.length; omega)
      have bN : gvN ds nn Q ls s k ≤ 4503599627370496 := by
        unfold gvN; split
        · omega
        · exact hbd _
      have bF : ftC2 ds nn Q (allR (ls.take k)) ≤ 4503599627370496 := hbd _
      have HRA := Lib.hid (right_allR HOK.out k)
      have HLN : Hid ((allR (ls.take k)).length ≤ 20) := Lib.hid (by
        have h1 := rgN_take ls k
        have h2 := right_rgN HOK.out
        unfold rgN at *
        omega)
      have HNV : Hid (s ≠ 0 → gvN ds nn Q ls s k = gvC ds nn Q ls s) := Lib.hid fun h => by unfold gvN; rw [if_neg h, hall]
      have HZZ : Hid (s = 0 → gvC ds nn Q ls s + ftC2 ds nn Q (allR (ls.take k)) = A) := Lib.hid fun h => by
        rw [HAA.out h, h, hall]
        refine HZ.out fun x hx => ?_
        obtain ⟨i, hi⟩ := List.getElem?_of_mem hx
        have := right_at HOK.out hi
        omega
      have hAB := HAB.out
      obtain ⟨av, cv, rfl, hav⟩ := own_rc hO (by have := HLN.out; omega)
      have HAV := Lib.hid hav
      have HB := Lib.hid hB
      obtain ⟨N, HNK⟩ : ∃ n, Hid (gvN ds nn Q ls s k = n) := ⟨_, Lib.hid rfl⟩
      obtain ⟨F, HFK⟩ : ∃ n, Hid (ftC2 ds nn Q (allR (ls.take k)) = n) := ⟨_, Lib.hid rfl⟩
      rw [HNK.out] at bN HNV
      rw [HFK.out] at bF HZZ
      rw [HNK.out, HFK.out]
      have HS0 := Lib.hid hs0
      clear hO hav hB hall hs0
      by_cases h0 : s = 0
      · have hbz := HS0.out h0
        subst hbz
        have hz : (s == 0) = true := by simp [h0]
        have HZ2 := Lib.hid (HZZ.out h0)
        clear HNV HZZ HS0 h0
        simp only [Bool.false_eq_true, if_false, Int.sub_zero]
        go_wp2_with fail
        refine (HF.out _ HB.out av (allR (ls.take k)).length cv (allR (ls.take k)) HAV.out HRA.out).mono ?_
        rintro e w2 ⟨rfl, hb2⟩
        rw [HFK.out]
        have HB2 := Lib.hid (HB.out.trans (hb2.mono HB.out.size))
        clear hb2 HB HAV
        go_wp2_with fail
        go_ret
        have hz2 : ((gvC ds nn Q ls s : Nat) : Int) = (A : Int) - (F : Int) := by have := HZ2.out; omega
        exact ⟨by rw [hz2]; rfl, HB2.out⟩
      · have hz : (s == 0) = false := by simp [h0]
        have HN2 := Lib.hid (HNV.out h0)
        clear HNV HZZ HS0 h0
        rcases b with _ | _
        · simp only [Bool.false_eq_true, if_false, Int.sub_zero]
          go_wp2_with fail
          go_ret
          exact ⟨by rw [← HN2.out]; rfl, HB.out⟩
        · simp only [if_true]
          go_wp2_with fail
          refine (HF.out _ HB.out av (allR (ls.take k)).length cv (allR (ls.take k)) HAV.out HRA.out).mono ?_
          rintro e w2 ⟨rfl, hb2⟩
          rw [HFK.out]
          have HB2 := Lib.hid (HB.out.trans (hb2.mono HB.out.size))
          clear hb2 HB HAV
          go_wp2_with fail
          go_ret
          exact ⟨by rw [← HN2.out]; rfl, HB2.out⟩
end Go.Proofs.Ytikdkhiehfccpaa

/- signal.gives with joint's closure over this seat's program. -/
namespace Go.Proofs.Ytikdkhiehfccpaa
open Go.RowKit Go.Sort Go.Shelf Cnt

set_option maxHeartbeats 2000000 in
theorem sg_givesJ (ds : List Ft) (nn : Nat) (Q : (Nat → Nat) → Nat → Bool) (hbd : ∀ q, cntF ds nn q ≤ 4503599627370496) (bl bn ba : Nat) (a : Option Addr) (la ca : Nat) (ls : List Rl) (s : Int) (A : Nat) (hAb : A ≤ 4503599627370496) (hA : s = 0 → A = cntF ds nn Q) (w : World) (ha : Rls w a la ls) (hok : rightS ls = true)
    (hf : ∀ W, Below w.heap.size w W → ∀ ad m c rs, Rgs W ad m rs → rightV rs = true → Calls Try.prog 54 #[.slice ad m c, .pointer (some ⟨bl, 0, none⟩), .pointer (some ⟨bn, 0, none⟩), .pointer (some ⟨ba, 0, none⟩)] W fun e W' => e = .returned (.int .i64 ((ftC2 ds nn Q rs : Nat) : Int)) ∧ Below W.heap.size W W') :
    Calls Try.prog 36 #[.slice a la ca, .int .i64 s, .int .i64 (A : Int), .func (.func 54) #[] #[.pointer (some ⟨bl, 0, none⟩), .pointer (some ⟨bn, 0, none⟩), .pointer (some ⟨ba, 0, none⟩)]] w fun e w' => e = .returned (.int .i64 ((gvC ds nn Q ls s : Nat) : Int)) ∧ Below w.heap.size w w' := by
  have HA := Lib.hid ha
  have HF := Lib.hid hf
  have HOK := Lib.hid hok
  have hsm := ha.small
  have HZ := Lib.hid fun h => gv_zero ds nn Q ls h
  have HAB := Lib.hid hAb
  have HAA := Lib.hid hA
  clear ha hf hok hAb hA
  go_enter Try.func36, Try.ntmps36
  go_wp2_with fail
  go_loopw [9, 10, 11, 13, 14, 17] (fun n ins v _ _ i wr => ∃ (k : Nat) (b : Bool), k ≤ la ∧ i = .int .i64 (k : Int) ∧ ins = .bool b ∧ n = .int .i64 ((gvN ds nn Q ls s k : Int) - (if b then (ftC2 ds nn Q (allR (ls.take k)) : Int) else 0)) ∧ (s = 0 → b = false) ∧ OwnR wr w.heap.size v (allR (ls.take k)) ∧ Below w.heap.size w wr) (fun _ _ _ _ _ i _ => la - (intOf i).toNat)
  case atStart => exact ⟨0, false, by omega, rfl, rfl, by rw [gvN_start]; rfl, fun _ => rfl, OwnR.nil _ _, Below.refl _ _⟩
  case round =>
    obtain ⟨k, b, hk, rfl, rfl, rfl, hs0, hO, hB⟩ := hrel
    by_cases hlt : k < la
    · obtain ⟨bb, off, x, ai, ci, rfl, hx, c0, c1, hR⟩ := (HA.out.below (Nat.le_refl _) hB).at hlt
      have hd : decide ((k : Int) < (la : Int)) = true := by simp; omega
      have HXS := Lib.hid (right_at HOK.out hx)
      have HRA := Lib.hid (right_allR HOK.out k)
      have HTK : Hid (allR (ls.take (k + 1)) = allR (ls.take k) ++ x.rs) := Lib.hid (by rw [take_snoc hx, allR_snoc])
      have HLN : Hid ((allR (ls.take k)).length + x.rs.length ≤ 20) := Lib.hid (by
        have h1 := rgN_take ls (k + 1)
        have h2 := right_rgN HOK.out
        rw [rgN_succ hx] at h1
        unfold rgN at *
        omega)
      have HS0 := Lib.hid hs0
      have HSAME := Lib.hid fun h => gvN_same (ds := ds) (nn := nn) (Q := Q) (s := s) hx h
      have HSTEP := Lib.hid fun h => gvN_step (ds := ds) (nn := nn) (Q := Q) (s := s) hx HXS.out.1 h
      have hw : Below wr.heap.size wr (wr.alloc (.cells (x.arr ai ci) 63)) := (Below.refl _ _).alloc (Nat.le_refl _) _
      have HR1 := Lib.hid (hR.below hw)
      have HB1 := Lib.hid (hB.trans (hw.mono hB.size))
      have HO1 := Lib.hid (hO.later hw)
      obtain ⟨av, cv, rfl, hav⟩ := own_rc hO (by have := HLN.out; omega)
      have HAV1 := Lib.hid (hav.below (Nat.le_refl _) hw)
      have bN : gvN ds nn Q ls s k ≤ 4503599627370496 := by
        unfold gvN; split
        · omega
        · exact hbd _
      have bF : ftC2 ds nn Q (allR (ls.take k)) ≤ 4503599627370496 := hbd _
      have bN1 : gvN ds nn Q ls s (k + 1) ≤ 4503599627370496 := by
        unfold gvN; split
        · omega
        · exact hbd _
      have bF1 : ftC2 ds nn Q (allR (ls.take (k + 1))) ≤ 4503599627370496 := hbd _
      obtain ⟨N, HNK⟩ : ∃ n, Hid (gvN ds nn Q ls s k = n) := ⟨_, Lib.hid rfl⟩
      obtain ⟨F, HFK⟩ : ∃ n, Hid (ftC2 ds nn Q (allR (ls.take k)) = n) := ⟨_, Lib.hid rfl⟩
      obtain ⟨N1, HNK1⟩ : ∃ n, Hid (gvN ds nn Q ls s (k + 1) = n) := ⟨_, Lib.hid rfl⟩
      obtain ⟨F1, HFK1⟩ : ∃ n, Hid (ftC2 ds nn Q (allR (ls.take (k + 1))) = n) := ⟨_, Lib.hid rfl⟩
      rw [HNK.out] at bN HSAME HSTEP
      rw [HFK.out] at bF HSTEP
      rw [HNK1.out] at bN1 HSAME HSTEP
      rw [HFK1.out] at bF1 HSTEP
      rw [HNK.out, HFK.out]
      clear hx hB hO hR hw hav hs0
      rcases Nat.eq_zero_or_pos x.rs.length with h0 | h0
      · have hF1 : F1 = F := by
          rw [← HFK1.out, ← HFK.out, HTK.out, List.eq_nil_of_length_eq_zero h0, List.append_nil]
        have hN1 : N1 = N := by
          by_cases he : x.s = s
          · have := HSTEP.out he; omega
          · exact HSAME.out he
        have HT2 : Hid (allR (ls.take (k + 1)) = allR (ls.take k)) := Lib.hid (by rw [HTK.out, List.eq_nil_of_length_eq_zero h0, List.append_nil])
        have HEE := Lib.hid (And.intro hN1 hF1)
        rw [h0] at c0
        have e0 : x.arr ai ci = #[.slice ai 0 ci, .int .i64 x.s] := by unfold Rl.arr; rw [h0]
        rw [e0] at HB1 HO1
        clear hF1 hN1 h0 e0
        go_wp2_with fail
        exact ⟨⟨k + 1, b, by omega, by simp, rfl, by rw [HNK1.out, HFK1.out, HEE.out.1, HEE.out.2], HS0.out, by rw [HT2.out]; exact HO1.out, HB1.out⟩, by simp [intOf]; omega⟩
      · have hne : ((x.rs.length : Int) == 0) = false := beq_eq_false_iff_ne.2 (by omega)
        by_cases he : x.s = s
        · have hse : (x.s == s) = true := by simp [he]
          have HST := Lib.hid (HSTEP.out he)
          have HE := Lib.hid he
          have HS0' : Hid (¬ s = 0) := Lib.hid (by have := HXS.out; omega)
          clear HS0 HSTEP HSAME he
          have HS0 := HS0'
          clear HS0'
          rcases b with _ | _
          · simp only [Bool.false_eq_true, if_false, Int.sub_zero]
            go_wp2_with fail
            refine (HF.out _ HB1.out av (allR (ls.take k)).length cv (allR (ls.take k)) HAV1.out HRA.out).mono ?_
            rintro e w2 ⟨rfl, hb2⟩
            have HRz := Lib.hid ((Row.new wr 63 (x.arr ai ci)).later hb2)
            have HOz := Lib.hid (HO1.out.later hb2)
            have HBz := Lib.hid (HB1.out.trans (hb2.mono HB1.out.size))
            have HCz := Lib.hid (HR1.out.below hb2)
            have c2 := HRz.out.cell 0
            simp only [List.getElem?_toArray, List.getElem?_cons_zero] at c2
            clear hb2 HB1 HR1 HO1 HAV1
            rw [HFK.out]
            go_wp2_with (refine appRn rfl (.tmp 51) (.tmp 53) rfl w.heap.size (.slice av (allR (ls.take k)).length cv) (allR (ls.take k)) x.rs rfl HOz.out ai x.rs.length ci rfl HCz.out.rgs HCz.out.nil (by have := HLN.out; omega) HBz.out.size ?_; intro v' w7 h1 h2 h3 h4; have HB7 := Lib.hid (HBz.out.trans h2); have HO7 := Lib.hid h1; clear h1 h2 h3 h4)
            exact ⟨⟨k + 1, true, by omega, by simp, rfl, by rw [HNK1.out, HFK1.out]; have := HST.out; simp; omega, fun h => absurd h HS0.out, by rw [HTK.out]; exact HO7.out, HB7.out⟩, by simp [intOf]; omega⟩
          · simp only [if_true]
            have HRz := Lib.hid (Row.new wr 63 (x.arr ai ci))
            have HOz := HO1
            have HBz := HB1
            have HCz := HR1
            go_wp2_with (refine appRn rfl (.tmp 51) (.tmp 53) rfl w.heap.size (.slice av (allR (ls.take k)).length cv) (allR (ls.take k)) x.rs rfl HOz.out ai x.rs.length ci rfl HCz.out.rgs HCz.out.nil (by have := HLN.out; omega) HBz.out.size ?_; intro v' w7 h1 h2 h3 h4; have HB7 := Lib.hid (HBz.out.trans h2); have HO7 := Lib.hid h1; clear h1 h2 h3 h4)
            exact ⟨⟨k + 1, true, by omega, by simp, rfl, by rw [HNK1.out, HFK1.out]; have := HST.out; simp; omega, fun h => absurd h HS0.out, by rw [HTK.out]; exact HO7.out, HB7.out⟩, by simp [intOf]; omega⟩
        · have hse : (x.s == s) = false := by simp [he]
          have HST := Lib.hid (HSAME.out he)
          clear HSTEP HSAME he
          rcases b with _ | _
          · simp only [Bool.false_eq_true, if_false, Int.sub_zero]
            have HRz := Lib.hid (Row.new wr 63 (x.arr ai ci))
            have HOz := HO1
            have HBz := HB1
            have HCz := HR1
            go_wp2_with (refine appRn rfl (.tmp 51) (.tmp 53) rfl w.heap.size (.slice av (allR (ls.take k)).length cv) (allR (ls.take k)) x.rs rfl HOz.out ai x.rs.length ci rfl HCz.out.rgs HCz.out.nil (by have := HLN.out; omega) HBz.out.size ?_; intro v' w7 h1 h2 h3 h4; have HB7 := Lib.hid (HBz.out.trans h2); have HO7 := Lib.hid h1; clear h1 h2 h3 h4)
            exact ⟨⟨k + 1, false, by omega, by simp, rfl, by rw [HNK1.out]; have := HST.out; simp; omega, fun _ => rfl, by rw [HTK.out]; exact HO7.out, HB7.out⟩, by simp [intOf]; omega⟩
          · simp only [if_true]
            go_wp2_with fail
            refine (HF.out _ HB1.out av (allR (ls.take k)).length cv (allR (ls.take k)) HAV1.out HRA.out).mono ?_
            rintro e w2 ⟨rfl, hb2⟩
            have HRz := Lib.hid ((Row.new wr 63 (x.arr ai ci)).later hb2)
            have HOz := Lib.hid (HO1.out.later hb2)
            have HBz := Lib.hid (HB1.out.trans (hb2.mono HB1.out.size))
            have HCz := Lib.hid (HR1.out.below hb2)
            have c2 := HRz.out.cell 0
            simp only [List.getElem?_toArray, List.getElem?_cons_zero] at c2
            clear hb2 HB1 HR1 HO1 HAV1
            rw [HFK.out]
            go_wp2_with (refine appRn rfl (.tmp 51) (.tmp 53) rfl w.heap.size (.slice av (allR (ls.take k)).length cv) (allR (ls.take k)) x.rs rfl HOz.out ai x.rs.length ci rfl HCz.out.rgs HCz.out.nil (by have := HLN.out; omega) HBz.out.size ?_; intro v' w7 h1 h2 h3 h4; have HB7 := Lib.hid (HBz.out.trans h2); have HO7 := Lib.hid h1; clear h1 h2 h3 h4)
            exact ⟨⟨k + 1, false, by omega, by simp, rfl, by rw [HNK1.out]; have := HST.out; simp; omega, fun _ => rfl, by rw [HTK.out]; exact HO7.out, HB7.out⟩, by simp [intOf]; omega⟩
    · obtain rfl : k = la := by omega
      have hd : decide ((k : Int) < (k : Int)) = false := by simp
      have hall : ls.take k = ls := List.take_of_length_le (by have := HA.out.length; omega)
      have bN : gvN ds nn Q ls s k ≤ 4503599627370496 := by
        unfold gvN; split
        · omega
        · exact hbd _
      have bF : ftC2 ds nn Q (allR (ls.take k)) ≤ 4503599627370496 := hbd _
      have HRA := Lib.hid (right_allR HOK.out k)
      have HLN : Hid ((allR (ls.take k)).length ≤ 20) := Lib.hid (by
        have h1 := rgN_take ls k
        have h2 := right_rgN HOK.out
        unfold rgN at *
        omega)
      have HNV : Hid (s ≠ 0 → gvN ds nn Q ls s k = gvC ds nn Q ls s) := Lib.hid fun h => by unfold gvN; rw [if_neg h, hall]
      have HZZ : Hid (s = 0 → gvC ds nn Q ls s + ftC2 ds nn Q (allR (ls.take k)) = A) := Lib.hid fun h => by
        rw [HAA.out h, h, hall]
        refine HZ.out fun x hx => ?_
        obtain ⟨i, hi⟩ := List.getElem?_of_mem hx
        have := right_at HOK.out hi
        omega
      have hAB := HAB.out
      obtain ⟨av, cv, rfl, hav⟩ := own_rc hO (by have := HLN.out; omega)
      have HAV := Lib.hid hav
      have HB := Lib.hid hB
      obtain ⟨N, HNK⟩ : ∃ n, Hid (gvN ds nn Q ls s k = n) := ⟨_, Lib.hid rfl⟩
      obtain ⟨F, HFK⟩ : ∃ n, Hid (ftC2 ds nn Q (allR (ls.take k)) = n) := ⟨_, Lib.hid rfl⟩
      rw [HNK.out] at bN HNV
      rw [HFK.out] at bF HZZ
      rw [HNK.out, HFK.out]
      have HS0 := Lib.hid hs0
      clear hO hav hB hall hs0
      by_cases h0 : s = 0
      · have hbz := HS0.out h0
        subst hbz
        have hz : (s == 0) = true := by simp [h0]
        have HZ2 := Lib.hid (HZZ.out h0)
        clear HNV HZZ HS0 h0
        simp only [Bool.false_eq_true, if_false, Int.sub_zero]
        go_wp2_with fail
        refine (HF.out _ HB.out av (allR (ls.take k)).length cv (allR (ls.take k)) HAV.out HRA.out).mono ?_
        rintro e w2 ⟨rfl, hb2⟩
        rw [HFK.out]
        have HB2 := Lib.hid (HB.out.trans (hb2.mono HB.out.size))
        clear hb2 HB HAV
        go_wp2_with fail
        go_ret
        have hz2 : ((gvC ds nn Q ls s : Nat) : Int) = (A : Int) - (F : Int) := by have := HZ2.out; omega
        exact ⟨by rw [hz2]; rfl, HB2.out⟩
      · have hz : (s == 0) = false := by simp [h0]
        have HN2 := Lib.hid (HNV.out h0)
        clear HNV HZZ HS0 h0
        rcases b with _ | _
        · simp only [Bool.false_eq_true, if_false, Int.sub_zero]
          go_wp2_with fail
          go_ret
          exact ⟨by rw [← HN2.out]; rfl, HB.out⟩
        · simp only [if_true]
          go_wp2_with fail
          refine (HF.out _ HB.out av (allR (ls.take k)).length cv (allR (ls.take k)) HAV.out HRA.out).mono ?_
          rintro e w2 ⟨rfl, hb2⟩
          rw [HFK.out]
          have HB2 := Lib.hid (HB.out.trans (hb2.mono HB.out.size))
          clear hb2 HB HAV
          go_wp2_with fail
          go_ret
          exact ⟨by rw [← HN2.out]; rfl, HB2.out⟩
end Go.Proofs.Ytikdkhiehfccpaa
