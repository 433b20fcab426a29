/- SgJ, SgK in one text. -/
import Derived.Test.YtikdkhiehfccpaaSgI

/- signal.Check for all arguments; rules in new blocks; finesselaw41.points, Example over this seat's program. -/
namespace Go.Proofs.Ytikdkhiehfccpaa
open Go.RowKit Go.Sort Go.Shelf Cnt

def ckOk (left : Nat) (n : Int) (ls : List Rl) (cs : List Cm) : Bool := lgOk left n ls && annV cs
def ckL (left : Nat) (n : Int) (ls : List Rl) (cs : List Cm) : List Fl := if ckOk left n ls cs then checkL (cnV left n ls) (fun c => gvC (deck left) n.toNat (fitP c.rs) ls c.s) (cntF (deck left) n.toNat QT) cs else []
theorem sg_Check_no (left : Nat) (n : Int) (a : Option Addr) (la ca : Nat) (ls : List Rl) (b : Option Addr) (lb cb : Nat) (cs : List Cm) (hleft : W64 left) (w : World) (ha : Rls w a la ls) (hb : Cms w b lb cs) (hno : ckOk left n ls cs = false) :
    Calls Try.prog 14 #[.int .u64 (left : Int), .int .i64 n, .slice a la ca, .slice b lb cb] w fun e w' => e = .returned (.tuple #[.slice none 0 0, .int .i64 2]) ∧ Below w.heap.size w w' := by
  have HA := Lib.hid ha
  have HC := Lib.hid hb
  have HLG := Lib.hid fun w' h => sg_CountsV left n a la ca ls hleft w' h
  clear ha hleft hb
  cases hl : lgOk left n ls
  · rw [hl] at HLG
    go_enter Try.func14, Try.ntmps14
    go_wp2_with fail
    refine (HLG.out _ HA.out).mono ?_
    rintro e w1 ⟨⟨a1, c1, rfl, -⟩, hb1⟩
    have HB1 := Lib.hid hb1
    clear hb1
    simp only [show okE false = 2 from rfl]
    go_wp2_with fail
    go_ret2
    exact ⟨rfl, HB1.out⟩
  · have han : annV cs = false := by
      unfold ckOk at hno
      rw [hl] at hno
      simpa using hno
    have HAN := Lib.hid han
    rw [hl] at HLG
    clear han hno hl
    go_enter Try.func14, Try.ntmps14
    go_wp2_with fail
    refine (HLG.out _ HA.out).mono ?_
    rintro e w1 ⟨⟨a1, c1, rfl, -⟩, hb1⟩
    have HB1 := Lib.hid hb1
    clear hb1
    simp only [show okE true = 0 from rfl]
    go_wp2_with fail
    refine (sg_Announced b lb cb cs _ (HC.out.below (Nat.le_refl _) HB1.out)).mono ?_
    rintro e w2 ⟨rfl, hb2⟩
    rw [HAN.out]
    have HB2 := Lib.hid (HB1.out.trans (hb2.mono HB1.out.size))
    clear hb2
    go_wp2_with fail
    go_ret2
    exact ⟨rfl, HB2.out⟩
theorem sg_CheckV (left : Nat) (n : Int) (a : Option Addr) (la ca : Nat) (ls : List Rl) (b : Option Addr) (lb cb : Nat) (cs : List Cm) (hleft : W64 left) (w : World) (ha : Rls w a la ls) (hb : Cms w b lb cs) :
    Calls Try.prog 14 #[.int .u64 (left : Int), .int .i64 n, .slice a la ca, .slice b lb cb] w fun e w' =>
      (∃ v, e = .returned (.tuple #[v, .int .i64 (okE (ckOk left n ls cs))]) ∧ OwnF w' w.heap.size v (ckL left n ls cs)) ∧ Below w.heap.size w w' := by
  unfold ckL
  cases h : ckOk left n ls cs
  · refine (sg_Check_no left n a la ca ls b lb cb cs hleft w ha hb h).mono ?_
    rintro e w' ⟨rfl, hb⟩
    exact ⟨⟨_, rfl, Owns.nil encF_len _ _⟩, hb⟩
  · obtain ⟨nn, rfl, h1, h2, h3⟩ := lg_parts (Bool.and_eq_true_iff.1 h).1
    exact sg_Check_yes left nn h2 h1 a la ca ls b lb cb cs w ha h3 hb (Bool.and_eq_true_iff.1 h).2
/-- one range of points -/
def rgP (f t : Int) : Rg := ⟨f, t, 0, 13, 0, 13, 0, 13, 0, 13⟩
theorem law_points (f t : Int) (w : World) : Calls Try.prog 25 #[.int .i64 f, .int .i64 t] w fun e w' => e = .returned (rgP f t).v ∧ Below w.heap.size w w' := by
  go_enter Try.func25, Try.ntmps25
  go_wp2
  refine bodyPost_ret (results_cell_row (p := 4) rfl _ _ w.heap.size _ (rgP f t).arr (0, 0) _ rfl (Row.new w _ _) Try.underlying73 rfl (by rw [size39]; rfl)) rfl ⟨rfl, (Below.refl _ _).alloc (Nat.le_refl _) _⟩
/-- one range, one slice, in a block of its own -/
theorem rc_new (w : World) (r : Rg) : RgC (w.alloc (.cells r.arr 73)) (some ⟨w.heap.size, 0, none⟩) 1 [r] := ⟨rgs_new1 w r, by simp, fun h => by cases h⟩
def exL : List Rl := [⟨[rgP 8 8], 1⟩, ⟨[rgP 4 40], 2⟩]
set_option maxHeartbeats 1000000 in
theorem law_Example (w : World) : Calls Try.prog 35 #[] w fun e w' => (∃ b, e = .returned (.tuple #[.int .u64 2252624548081665, .slice (some ⟨b, 0, none⟩) 2 2]) ∧ Rls w' (some ⟨b, 0, none⟩) 2 exL) ∧ Below w.heap.size w w' := by
  go_enter Try.func35, Try.ntmps35
  go_wp2_with fail
  refine (law_points 8 8 _).mono ?_
  rintro e w1 ⟨rfl, hb1⟩
  have HB1 := Lib.hid hb1
  have HR1 := Lib.hid (rc_new w1 (rgP 8 8))
  have hb2 : Below w1.heap.size w1 (w1.alloc (.cells (rgP 8 8).arr 73)) := (Below.refl _ _).alloc (Nat.le_refl _) _
  have HB2 := Lib.hid (HB1.out.trans (hb2.mono HB1.out.size))
  clear hb1 hb2
  go_wp2_with fail
  refine (law_points 4 40 _).mono ?_
  rintro e w3 ⟨rfl, hb3⟩
  have HR3 := Lib.hid (HR1.out.below hb3)
  have HB3 := Lib.hid (HB2.out.trans (hb3.mono HB2.out.size))
  have HR4 := Lib.hid (rc_new w3 (rgP 4 40))
  have hb4 : Below w3.heap.size w3 (w3.alloc (.cells (rgP 4 40).arr 73)) := (Below.refl _ _).alloc (Nat.le_refl _) _
  have HR5 := Lib.hid (HR3.out.below hb4)
  have HB4 := Lib.hid (HB3.out.trans (hb4.mono HB3.out.size))
  clear hb3 hb4 HB1 HB2 HR1 HR3
  go_wp2_with fail
  have hb6 : Below (w3.alloc (.cells (rgP 4 40).arr 73)).heap.size (w3.alloc (.cells (rgP 4 40).arr 73)) ((w3.alloc (.cells (rgP 4 40).arr 73)).alloc (.cells #[.slice (some ⟨w1.heap.size, 0, none⟩) 1 1, .int .i64 1, .slice (some ⟨w3.heap.size, 0, none⟩) 1 1, .int .i64 2] 63)) := (Below.refl _ _).alloc (Nat.le_refl _) _
  have hr6 : Row ((w3.alloc (.cells (rgP 4 40).arr 73)).alloc (.cells #[.slice (some ⟨w1.heap.size, 0, none⟩) 1 1, .int .i64 1, .slice (some ⟨w3.heap.size, 0, none⟩) 1 1, .int .i64 2] 63)) (w3.heap.size + 1) 63 #[.slice (some ⟨w1.heap.size, 0, none⟩) 1 1, .int .i64 1, .slice (some ⟨w3.heap.size, 0, none⟩) 1 1, .int .i64 2] := Row.new1 _ _ _ _
  go_ret2
  refine ⟨⟨_, rfl, rfl, by decide, .inr ⟨_, 0, rfl, hr6.lt, fun i x hx => ?_⟩⟩, HB4.out.trans (hb6.mono HB4.out.size)⟩
  match i, hx with
  | 0, hx =>
    obtain rfl := Option.some.inj hx
    exact ⟨_, 1, hr6.cell 0, hr6.cell 1, HR5.out.below hb6⟩
  | 1, hx =>
    obtain rfl := Option.some.inj hx
    exact ⟨_, 1, hr6.cell 2, hr6.cell 3, HR4.out.below hb6⟩
  | i + 2, hx => simp [exL] at hx
/-- a fault in a slice -/
theorem fl_at {w : World} {base g n cap : Nat} {fs : List Fl} (h : OwnF w base (.slice (some ⟨g, 0, none⟩) n cap) fs) {k : Nat} {x : Fl} (hx : fs[k]? = some x) : w.cell? ⟨g, k * 4, none⟩ = some (.int .i64 x.c) ∧ w.cell? ⟨g, k * 4 + 1, none⟩ = some (.int .i64 x.s) ∧ w.cell? ⟨g, k * 4 + 2, none⟩ = some (.int .u8 (x.k : Int)) ∧ w.cell? ⟨g, k * 4 + 3, none⟩ = some (.int .i64 x.h) :=
  ⟨h.cell k 0 (by decide) hx, h.cell k 1 (by decide) hx, h.cell k 2 (by decide) hx, h.cell k 3 (by decide) hx⟩
abbrev exLeft : Nat := 2252624548081665
def exOne : Cm := ⟨1, 200, 220, [rgP 8 40]⟩
def exTwo : Cm := ⟨2, 600, 1000, [rgP 4 4]⟩
theorem ex_counts : cnV exLeft 2 exL 0 = 6 ∧ cnV exLeft 2 exL 1 = 6 ∧ cnV exLeft 2 exL 2 = 16 := by decide +kernel
theorem ex_check1 : ckL exLeft 2 exL [exOne, exTwo] = [⟨1, 2, 2, 16⟩] := by kernel_rfl
theorem ex_check2 : ckL exLeft 2 exL [exOne] = [⟨-1, 2, 4, 16⟩] := by kernel_rfl
theorem ex_of : ofV exL 4097 = 2 ∧ ofV exL 3 = 0 := by decide +kernel
theorem ex_ok : lgOk exLeft 2 exL = true ∧ ckOk exLeft 2 exL [exOne, exTwo] = true ∧ ckOk exLeft 2 exL [exOne] = true := by decide +kernel
end Go.Proofs.Ytikdkhiehfccpaa

/- finesselaw41.awake over this seat's program. -/
namespace Go.Proofs.Ytikdkhiehfccpaa
open Go.RowKit Go.Sort Go.Shelf Cnt

/-- claims in a block -/
theorem cms_row {w : World} {b : Nat} {T : TypeId} {c : Array Value} (hr : Row w b T c) (cs : List Cm) (h : ∀ i x, cs[i]? = some x → ∃ ai ci, c[i * 4]? = some (.int .i64 x.s) ∧ c[i * 4 + 1]? = some (.int .i64 x.lo) ∧ c[i * 4 + 2]? = some (.int .i64 x.hi) ∧ c[i * 4 + 3]? = some (.slice ai x.rs.length ci) ∧ RgC w ai ci x.rs) (hl : cs.length ≤ 1000) : Cms w (some ⟨b, 0, none⟩) cs.length cs :=
  ⟨rfl, by omega, .inr ⟨b, 0, rfl, hr.lt, fun i x hx => by
    obtain ⟨ai, ci, h1, h2, h3, h4, h5⟩ := h i x hx
    simp only [Nat.zero_add]
    exact ⟨ai, ci, (hr.cell _).trans h1, (hr.cell _).trans h2, (hr.cell _).trans h3, (hr.cell _).trans h4, h5⟩⟩⟩
set_option maxHeartbeats 2000000 in
set_option maxRecDepth 5000 in
theorem law41_awake (w : World) : Calls Try.prog 11 #[] w fun e w' => e = .returned (.bool true) ∧ Below w.heap.size w w' := by
  have HW : W64 exLeft := by unfold W64; decide
  go_enter Try.func11, Try.ntmps11
  go_wp2_with fail
  refine (law_Example _).mono ?_
  rintro e w1 ⟨⟨b, rfl, hr⟩, hb1⟩
  have HB1 := Lib.hid hb1
  have HR1 := Lib.hid hr
  clear hb1 hr
  go_wp2_with fail
  refine (sg_CountsV exLeft 2 (some ⟨b, 0, none⟩) 2 2 exL HW _ HR1.out).mono ?_
  rw [ex_ok.1]
  rintro e w2 ⟨⟨a1, c1, rfl, hi⟩, hb2⟩
  have HB2 := Lib.hid (HB1.out.trans (hb2.mono HB1.out.size))
  have HR2 := Lib.hid (HR1.out.below (Nat.le_refl _) hb2)
  have HI2 := Lib.hid hi
  clear hb2 hi HB1 HR1
  simp only [show resN 10 true = 10 from rfl, show okE true = 0 from rfl]
  go_wp2_with fail
  refine (law_points 8 40 _).mono ?_
  rintro e w3 ⟨rfl, hb3⟩
  have HB3 := Lib.hid (HB2.out.trans (hb3.mono HB2.out.size))
  have HR3 := Lib.hid (HR2.out.below (Nat.le_refl _) hb3)
  have HI3 := Lib.hid (HI2.out.later hb3)
  have HC3 := Lib.hid (rc_new w3 (rgP 8 40))
  clear hb3 HB2 HR2 HI2
  go_wp2_with fail
  refine (law_points 4 4 _).mono ?_
  rintro e w5 ⟨rfl, hb5⟩
  have hb4 : Below w3.heap.size w3 ((w3.alloc (.cells (rgP 8 40).arr 73)).alloc (.cells #[.int .i64 1, .int .i64 200, .int .i64 220, .slice (some ⟨w3.heap.size, 0, none⟩) 1 1] 29)) := ((Below.refl _ _).alloc (Nat.le_refl _) _).alloc (by simp) _
  have hr4 : Row ((w3.alloc (.cells (rgP 8 40).arr 73)).alloc (.cells #[.int .i64 1, .int .i64 200, .int .i64 220, .slice (some ⟨w3.heap.size, 0, none⟩) 1 1] 29)) (w3.heap.size + 1) 29 #[.int .i64 1, .int .i64 200, .int .i64 220, .slice (some ⟨w3.heap.size, 0, none⟩) 1 1] := Row.new1 _ _ _ _
  have hc4 : RgC ((w3.alloc (.cells (rgP 8 40).arr 73)).alloc (.cells #[.int .i64 1, .int .i64 200, .int .i64 220, .slice (some ⟨w3.heap.size, 0, none⟩) 1 1] 29)) (some ⟨w3.heap.size, 0, none⟩) 1 [rgP 8 40] := HC3.out.below ((Below.refl _ _).alloc (Nat.le_refl _) _)
  have hb45 := hb4.trans (hb5.mono (by simp; omega))
  have HB5 := Lib.hid (HB3.out.trans (hb45.mono HB3.out.size))
  have HR5 := Lib.hid (HR3.out.below (Nat.le_refl _) hb45)
  have HI5 := Lib.hid (HI3.out.later hb45)
  have HC5 := Lib.hid (hc4.below hb5)
  have HQ5 := Lib.hid (hr4.later hb5)
  have hlt : w3.heap.size + 1 < w5.heap.size := (hr4.later hb5).lt
  clear hb4 hr4 hc4 hb45 hb5 HB3 HR3 HI3 HC3
  generalize w3.heap.size = b3 at *
  have hb6 : Below w5.heap.size w5 ((w5.alloc (.cells (rgP 4 4).arr 73)).alloc (.cells #[.int .i64 2, .int .i64 600, .int .i64 1000, .slice (some ⟨w5.heap.size, 0, none⟩) 1 1] 29)) := ((Below.refl _ _).alloc (Nat.le_refl _) _).alloc (by simp) _
  have HB6 := Lib.hid (HB5.out.trans (hb6.mono HB5.out.size))
  have HR6 := Lib.hid (HR5.out.below (Nat.le_refl _) hb6)
  have HI6 := Lib.hid (HI5.out.later hb6)
  have HC6 := Lib.hid (HC5.out.below hb6)
  have HQ6 := Lib.hid (HQ5.out.later hb6)
  have HD6 : Hid (RgC ((w5.alloc (.cells (rgP 4 4).arr 73)).alloc (.cells #[.int .i64 2, .int .i64 600, .int .i64 1000, .slice (some ⟨w5.heap.size, 0, none⟩) 1 1] 29)) (some ⟨w5.heap.size, 0, none⟩) 1 [rgP 4 4]) := Lib.hid ((rc_new w5 (rgP 4 4)).below ((Below.refl _ _).alloc (Nat.le_refl _) _))
  have HP6 : Hid (Row ((w5.alloc (.cells (rgP 4 4).arr 73)).alloc (.cells #[.int .i64 2, .int .i64 600, .int .i64 1000, .slice (some ⟨w5.heap.size, 0, none⟩) 1 1] 29)) (w5.heap.size + 1) 29 #[.int .i64 2, .int .i64 600, .int .i64 1000, .slice (some ⟨w5.heap.size, 0, none⟩) 1 1]) := Lib.hid (Row.new1 _ _ _ _)
  clear hb6 HB5 HR5 HI5 HC5 HQ5
  have hb7 : Below ((w5.alloc (.cells (rgP 4 4).arr 73)).alloc (.cells #[.int .i64 2, .int .i64 600, .int .i64 1000, .slice (some ⟨w5.heap.size, 0, none⟩) 1 1] 29)).heap.size ((w5.alloc (.cells (rgP 4 4).arr 73)).alloc (.cells #[.int .i64 2, .int .i64 600, .int .i64 1000, .slice (some ⟨w5.heap.size, 0, none⟩) 1 1] 29)) (((w5.alloc (.cells (rgP 4 4).arr 73)).alloc (.cells #[.int .i64 2, .int .i64 600, .int .i64 1000, .slice (some ⟨w5.heap.size, 0, none⟩) 1 1] 29)).alloc (.cells #[.int .i64 1, .int .i64 200, .int .i64 220, .slice (some ⟨b3, 0, none⟩) 1 1, .int .i64 2, .int .i64 600, .int .i64 1000, .slice (some ⟨w5.heap.size, 0, none⟩) 1 1] 29)) := (Below.refl _ _).alloc (Nat.le_refl _) _
  have HB7 := Lib.hid (HB6.out.trans (hb7.mono HB6.out.size))
  have HR7 := Lib.hid (HR6.out.below (Nat.le_refl _) hb7)
  have HI7 := Lib.hid (HI6.out.later hb7)
  have HQ7 := Lib.hid (HQ6.out.later hb7)
  have HC7 := Lib.hid (HC6.out.below hb7)
  have HD7 := Lib.hid (HD6.out.below hb7)
  have HS7 : Hid (Row (((w5.alloc (.cells (rgP 4 4).arr 73)).alloc (.cells #[.int .i64 2, .int .i64 600, .int .i64 1000, .slice (some ⟨w5.heap.size, 0, none⟩) 1 1] 29)).alloc (.cells #[.int .i64 1, .int .i64 200, .int .i64 220, .slice (some ⟨b3, 0, none⟩) 1 1, .int .i64 2, .int .i64 600, .int .i64 1000, .slice (some ⟨w5.heap.size, 0, none⟩) 1 1] 29)) (w5.heap.size + 1 + 1) 29 #[.int .i64 1, .int .i64 200, .int .i64 220, .slice (some ⟨b3, 0, none⟩) 1 1, .int .i64 2, .int .i64 600, .int .i64 1000, .slice (some ⟨w5.heap.size, 0, none⟩) 1 1]) := Lib.hid (Row.new2 _ _ _ _ _)
  have HM7 : Hid (Cms (((w5.alloc (.cells (rgP 4 4).arr 73)).alloc (.cells #[.int .i64 2, .int .i64 600, .int .i64 1000, .slice (some ⟨w5.heap.size, 0, none⟩) 1 1] 29)).alloc (.cells #[.int .i64 1, .int .i64 200, .int .i64 220, .slice (some ⟨b3, 0, none⟩) 1 1, .int .i64 2, .int .i64 600, .int .i64 1000, .slice (some ⟨w5.heap.size, 0, none⟩) 1 1] 29)) (some ⟨w5.heap.size + 1 + 1, 0, none⟩) 2 [exOne, exTwo]) := Lib.hid (cms_row HS7.out [exOne, exTwo] (fun i x hx => by
    match i, hx with
    | 0, hx => obtain rfl := Option.some.inj hx; exact ⟨_, 1, rfl, rfl, rfl, rfl, HC7.out⟩
    | 1, hx => obtain rfl := Option.some.inj hx; exact ⟨_, 1, rfl, rfl, rfl, rfl, HD7.out⟩
    | i + 2, hx => simp at hx) (by decide))
  clear hb7
  have q0 := HQ6.out.cell 0
  have q1 := HQ6.out.cell 1
  have q2 := HQ6.out.cell 2
  have q3 := HQ6.out.cell 3
  simp only [List.getElem?_toArray, List.getElem?_cons_zero, List.getElem?_cons_succ] at q0 q1 q2 q3
  go_wp2_with fail
  refine (sg_CheckV exLeft 2 (some ⟨b, 0, none⟩) 2 2 exL (some ⟨w5.heap.size + 1 + 1, 0, none⟩) 2 2 [exOne, exTwo] HW _ HR7.out HM7.out).mono ?_
  rw [ex_ok.2.1, ex_check1]
  rintro e w8 ⟨⟨v8, rfl, hv8⟩, hb8⟩
  have hbase : (((w5.alloc (.cells (rgP 4 4).arr 73)).alloc (.cells #[.int .i64 2, .int .i64 600, .int .i64 1000, .slice (some ⟨w5.heap.size, 0, none⟩) 1 1] 29)).alloc (.cells #[.int .i64 1, .int .i64 200, .int .i64 220, .slice (some ⟨b3, 0, none⟩) 1 1, .int .i64 2, .int .i64 600, .int .i64 1000, .slice (some ⟨w5.heap.size, 0, none⟩) 1 1] 29)).heap.size = w5.heap.size + 3 := by simp
  rw [hbase] at hv8
  rcases hv8.form with ⟨-, h⟩ | ⟨g8, c8, rfl, -, -, -, -⟩
  · cases h
  simp only [show okE true = 0 from rfl, List.length_singleton]
  have HB8 := Lib.hid (HB7.out.trans (hb8.mono HB7.out.size))
  have HR8 := Lib.hid (HR7.out.below (Nat.le_refl _) hb8)
  have HI8 := Lib.hid (HI7.out.later hb8)
  have HQ8 := Lib.hid (HQ7.out.later hb8)
  have HC8 := Lib.hid (HC7.out.below hb8)
  have HV8 := Lib.hid hv8
  clear hb8 hv8 hbase HB7 HR7 HI7 HQ7 HC7 HD7 HS7 HM7 HB6 HR6 HI6 HC6 HQ6 HD6 HP6 q0 q1 q2 q3 hlt
  have q0 := HQ8.out.cell 0
  have q1 := HQ8.out.cell 1
  have q2 := HQ8.out.cell 2
  have q3 := HQ8.out.cell 3
  simp only [List.getElem?_toArray, List.getElem?_cons_zero, List.getElem?_cons_succ] at q0 q1 q2 q3
  have hb9 : Below w8.heap.size w8 (w8.alloc (.cells #[.int .i64 1, .int .i64 200, .int .i64 220, .slice (some ⟨b3, 0, none⟩) 1 1] 29)) := (Below.refl _ _).alloc (Nat.le_refl _) _
  have hs9 : Row (w8.alloc (.cells #[.int .i64 1, .int .i64 200, .int .i64 220, .slice (some ⟨b3, 0, none⟩) 1 1] 29)) w8.heap.size 29 #[.int .i64 1, .int .i64 200, .int .i64 220, .slice (some ⟨b3, 0, none⟩) 1 1] := Row.new _ _ _
  have HB9 := Lib.hid (HB8.out.trans (hb9.mono HB8.out.size))
  have HR9 := Lib.hid (HR8.out.below (Nat.le_refl _) hb9)
  have HI9 := Lib.hid (HI8.out.later hb9)
  have HV9 := Lib.hid (HV8.out.below hb9)
  have HC9 := HC8.out.below hb9
  have HM9 := Lib.hid (cms_row hs9 [exOne] (fun i x hx => by
    match i, hx with
    | 0, hx => obtain rfl := Option.some.inj hx; exact ⟨_, 1, rfl, rfl, rfl, rfl, HC9⟩
    | i + 1, hx => simp at hx) (by decide))
  clear hb9 hs9 HC9
  go_wp2_with fail
  refine (sg_CheckV exLeft 2 (some ⟨b, 0, none⟩) 2 2 exL (some ⟨w8.heap.size, 0, none⟩) 1 1 [exOne] HW _ HR9.out HM9.out).mono ?_
  rw [ex_ok.2.2, ex_check2]
  rintro e w10 ⟨⟨v10, rfl, hv10⟩, hb10⟩
  rcases hv10.form with ⟨-, h⟩ | ⟨g10, c10, rfl, -, -, -, -⟩
  · cases h
  simp only [show okE true = 0 from rfl, List.length_singleton]
  have HB10 := Lib.hid (HB9.out.trans (hb10.mono HB9.out.size))
  have HR10 := Lib.hid (HR9.out.below (Nat.le_refl _) hb10)
  have hi10 := HI9.out.later hb10
  have hv9 := HV9.out.below hb10
  obtain ⟨d0, d1, d2, d3⟩ := fl_at hv9 (k := 0) rfl
  obtain ⟨k0, k1, k2, k3⟩ := fl_at hv10 (k := 0) rfl
  simp only [Nat.zero_mul, Nat.zero_add] at d0 d1 d2 d3 k0 k1 k2 k3
  rcases hi10.cells with h | ⟨bi, rfl, -, hic⟩
  · exact absurd h (by decide)
  have i0 := hic 0 (by decide)
  have i1 := hic 1 (by decide)
  have i2 := hic 2 (by decide)
  rw [ex_counts.1] at i0
  rw [ex_counts.2.1] at i1
  rw [ex_counts.2.2] at i2
  have E1 : ∀ w', Sem.run Try.prog (Op.equalIn 10000 46 (.agg #[.int .i64 1, .int .i64 2, .int .u8 2, .int .i64 16]) (.agg #[.int .i64 1, .int .i64 2, .int .u8 2, .int .i64 16])) w' = .ok true w' := fun w' => by kernel_rfl
  have E2 : ∀ w', Sem.run Try.prog (Op.equalIn 10000 46 (.agg #[.int .i64 (-1), .int .i64 2, .int .u8 4, .int .i64 16]) (.agg #[.int .i64 (-1), .int .i64 2, .int .u8 4, .int .i64 16])) w' = .ok true w' := fun w' => by kernel_rfl
  clear hb10 hv10 hv9 hi10 hic HB9 HR9 HI9 HV9 HM9 HB8 HR8 HI8 HQ8 HC8 HV8 q0 q1 q2 q3
  have O1 := Lib.hid fun w' h => sg_Of (some ⟨b, 0, none⟩) 2 2 exL 4097 (by unfold W64; decide) w' h
  have O2 := Lib.hid fun w' h => sg_Of (some ⟨b, 0, none⟩) 2 2 exL 3 (by unfold W64; decide) w' h
  rw [ex_of.1] at O1
  rw [ex_of.2] at O2
  go_wp2_with fail
  refine (O1.out _ HR10.out).mono ?_
  rintro e w11 ⟨rfl, hb11⟩
  have HB11 := Lib.hid (HB10.out.trans (hb11.mono HB10.out.size))
  have HR11 := Lib.hid (HR10.out.below (Nat.le_refl _) hb11)
  clear hb11 HB10 HR10
  go_wp2_with fail
  refine (O2.out _ HR11.out).mono ?_
  rintro e w12 ⟨rfl, hb12⟩
  have HB12 := Lib.hid (HB11.out.trans (hb12.mono HB11.out.size))
  clear hb12
  go_wp2_with fail
  go_ret
  exact ⟨rfl, HB12.out⟩
end Go.Proofs.Ytikdkhiehfccpaa
