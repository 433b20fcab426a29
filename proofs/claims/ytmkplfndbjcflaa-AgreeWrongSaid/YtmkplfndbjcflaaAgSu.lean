/- AgreeSuits over this seat's program: the body. -/
import Derived.Test.YtmkplfndbjcflaaAgWo
import Derived.Test.YtmkplfndbjcflaaAgZm
import Derived.Test.YtmkplfndbjcflaaPlF
namespace Go.Proofs.Ytmkplfndbjcflaa
open Go.RowKit Go.Sort Go.Shelf Cnt

/-- a suit's cards put at another suit -/
def shlN (x c : Nat) : Nat := x * 2 ^ c
theorem testBit_shlN (x c i : Nat) : (shlN x c).testBit i = (decide (c ≤ i) && x.testBit (i - c)) := by
  unfold shlN
  rw [Nat.testBit_mul_two_pow]
theorem shlN_lt {x t : Nat} (hx : x < 8192) (ht : t < 4) : shlN x (13 * t) < 4503599627370496 := by
  unfold shlN
  have h : 2 ^ (13 * t) ≤ 2 ^ 39 := Nat.pow_le_pow_right (by decide) (by omega)
  calc x * 2 ^ (13 * t) ≤ x * 2 ^ 39 := Nat.mul_le_mul_left _ h
    _ < 4503599627370496 := by omega
/-- the mask after the first s suits -/
def turnTo (L k : Nat) : Nat → Nat
  | 0 => 0
  | s + 1 => lor (turnTo L k s) (shlN (scards L s) (13 * ((s + k) % 4)))
theorem turnTo_lt (L k : Nat) : ∀ s, turnTo L k s < 4503599627370496
  | 0 => Nat.zero_lt_succ _
  | s + 1 => Nat.or_lt_two_pow (n := 52) (turnTo_lt L k s) (shlN_lt (scards_lt L s) (by omega))
theorem scards_bit0 (h s j : Nat) (hj : 13 ≤ j) : (scards h s).testBit j = false := by
  unfold scards
  rw [testBit_land, show (8191 : Nat) = 2 ^ 13 - 1 by decide, Nat.testBit_two_pow_sub_one, decide_eq_false (by omega), Bool.and_false]
theorem turnTo_bit (L k t i : Nat) (ht : t < 4) (hi : i < 13) : ∀ s, s ≤ 4 → (turnTo L k s).testBit (13 * t + i) = (List.range s).any fun j => decide ((j + k) % 4 = t) && (scards L j).testBit i
  | 0, _ => by simp [turnTo]
  | s + 1, hs => by
    rw [List.range_succ, List.any_append, ← turnTo_bit L k t i ht hi s (by omega)]
    show (lor _ _).testBit _ = _
    rw [testBit_lor, testBit_shlN]
    congr 1
    simp only [List.any_cons, List.any_nil, Bool.or_false]
    by_cases h : (s + k) % 4 = t
    · rw [h, decide_eq_true (by omega), show 13 * t + i - 13 * t = i by omega]; simp
    · rw [decide_eq_false h, Bool.false_and]
      by_cases h2 : 13 * ((s + k) % 4) ≤ 13 * t + i
      · rw [scards_bit0 _ _ _ (by omega), Bool.and_false]
      · rw [decide_eq_false h2, Bool.false_and]
theorem scards_ext {x y : Nat} {s t : Nat} (h : ∀ i, i < 13 → x.testBit (13 * s + i) = y.testBit (13 * t + i)) : scards x s = scards y t := by
  apply Nat.eq_of_testBit_eq
  intro i
  by_cases hi : i < 13
  · rw [scards_bit _ _ _ hi, scards_bit _ _ _ hi, h i hi]
  · rw [scards_bit0 _ _ _ (by omega), scards_bit0 _ _ _ (by omega)]
theorem turn_suit (L k s : Nat) (hs : s < 4) : scards (turnTo L k 4) ((s + k) % 4) = scards L s := by
  refine scards_ext fun i hi => ?_
  rw [turnTo_bit L k _ i (by omega) hi 4 (by omega), ← scards_bit L s i hi]
  have h4 : List.range 4 = [0, 1, 2, 3] := rfl
  rw [h4]
  simp only [List.any_cons, List.any_nil, Bool.or_false]
  have : s = 0 ∨ s = 1 ∨ s = 2 ∨ s = 3 := by omega
  have e : ∀ j, j < 4 → (decide ((j + k) % 4 = (s + k) % 4)) = decide (j = s) := fun j hj => by rw [decide_eq_decide]; omega
  rw [e 0 (by decide), e 1 (by decide), e 2 (by decide), e 3 (by decide)]
  rcases this with rfl | rfl | rfl | rfl <;> simp
theorem turn_val (L k s : Nat) (hL : W64 L) : bits .or .u64 ((turnTo L k s : Nat) : Int) (IntKind.u64.wrap (bits .and .u64 ((L : Int) / 2 ^ (13 * s)) 8191 * 2 ^ (13 * ((s + k) % 4)))) = ((turnTo L k (s + 1) : Nat) : Int) := by
  have e1 : (L : Int) / 2 ^ (13 * s) = ((shr L (13 * s) : Nat) : Int) := by unfold shr; rw [Nat.shiftRight_eq_div_pow]; simp
  have e2 : bits .and .u64 ((shr L (13 * s) : Nat) : Int) 8191 = ((scards L s : Nat) : Int) := by
    rw [show (8191 : Int) = ((8191 : Nat) : Int) from rfl, bits_and_nat _ _ hL.shr (by unfold W64; decide)]
    rfl
  have hlt := shlN_lt (t := (s + k) % 4) (scards_lt L s) (by omega)
  have e3 : ((scards L s : Nat) : Int) * 2 ^ (13 * ((s + k) % 4)) = ((shlN (scards L s) (13 * ((s + k) % 4)) : Nat) : Int) := by unfold shlN; simp
  rw [e1, e2, e3, wrap_u64 _ (by unfold W64; omega), bits_or_nat _ _ (by have := turnTo_lt L k s; unfold W64; omega) (by unfold W64; omega)]
  rfl
/-- the cells of a range whose first s suits are turned -/
def Rg.turnC (k : Nat) (r : Rg) (s j : Nat) : Int := if j < 2 then r.cell j else if ((j - 2) / 2 + 4 - k) % 4 < s then r.cell (2 + 2 * (((j - 2) / 2 + 4 - k) % 4) + (j - 2) % 2) else r.cell j
theorem turnC_zero (k : Nat) (r : Rg) (j : Nat) : r.turnC k 0 j = r.cell j := by
  unfold Rg.turnC
  split
  · rfl
  · rw [if_neg (by omega)]
theorem turnC_four (k : Nat) (hk : k < 4) (r : Rg) (j : Nat) (hj : j < 10) : r.turnC k 4 j = (r.rotK k).cell j := by
  have h1 : k = 0 ∨ k = 1 ∨ k = 2 ∨ k = 3 := by omega
  have h2 : j = 0 ∨ j = 1 ∨ j = 2 ∨ j = 3 ∨ j = 4 ∨ j = 5 ∨ j = 6 ∨ j = 7 ∨ j = 8 ∨ j = 9 := by omega
  rcases h1 with rfl | rfl | rfl | rfl <;> rcases h2 with rfl | rfl | rfl | rfl | rfl | rfl | rfl | rfl | rfl | rfl <;> rfl
theorem turnC_step (k : Nat) (hk : k < 4) (r : Rg) (s j : Nat) (hs : s < 4) (hj : j < 10) : r.turnC k (s + 1) j = if j = 2 + (s + k) % 4 * 2 then r.cell (2 + s * 2) else if j = 2 + (s + k) % 4 * 2 + 1 then r.cell (2 + s * 2 + 1) else r.turnC k s j := by
  have h1 : k = 0 ∨ k = 1 ∨ k = 2 ∨ k = 3 := by omega
  have h2 : j = 0 ∨ j = 1 ∨ j = 2 ∨ j = 3 ∨ j = 4 ∨ j = 5 ∨ j = 6 ∨ j = 7 ∨ j = 8 ∨ j = 9 := by omega
  have h3 : s = 0 ∨ s = 1 ∨ s = 2 ∨ s = 3 := by omega
  rcases h1 with rfl | rfl | rfl | rfl <;> rcases h3 with rfl | rfl | rfl | rfl <;> rcases h2 with rfl | rfl | rfl | rfl | rfl | rfl | rfl | rfl | rfl | rfl <;> rfl

/-- a slice of ranges in a block of its own, by its cells -/
def MR (w : World) (base : Nat) (a : Option Addr) (n : Nat) (F : Nat → Nat → Int) : Prop :=
  n = 0 ∨ ∃ g cur, a = some ⟨g, 0, none⟩ ∧ base ≤ g ∧ Row w g 39 cur ∧ n * 10 ≤ cur.size ∧ ∀ i j, i < n → j < 10 → cur[i * 10 + j]? = some (.int .i64 (F i j))
theorem OwnR.mr {w : World} {base : Nat} {v : Value} {rs : List Rg} (h : OwnR w base v rs) : ∃ a cap, v = .slice a rs.length cap ∧ rs.length ≤ cap ∧ MR w base a rs.length (fun i j => match rs[i]? with | some r => r.cell j | none => 0) := by
  rcases h.2 with ⟨rfl, h0⟩ | ⟨g, cap, cur, rfl, hb, hg, hn, -, hsz, htk⟩
  · rw [h0]
    exact ⟨none, 0, rfl, Nat.le_refl _, .inl rfl⟩
  · refine ⟨some ⟨g, 0, none⟩, cap, rfl, hn, .inr ⟨g, cur, rfl, hb, hg, by rw [hsz]; exact Nat.mul_le_mul_right _ hn, fun i j hi hj => ?_⟩⟩
    obtain ⟨r, hr⟩ : ∃ r, rs[i]? = some r := ⟨_, List.getElem?_eq_getElem hi⟩
    have h1 := flatR_get rs i j r hr hj
    rw [← htk, List.getElem?_take_of_lt (by omega)] at h1
    simp only [hr]
    simpa using h1
theorem MR.congr {w : World} {base : Nat} {a : Option Addr} {n : Nat} {F G : Nat → Nat → Int} (h : MR w base a n F) (e : ∀ i j, i < n → j < 10 → F i j = G i j) : MR w base a n G := by
  rcases h with h | ⟨g, cur, h1, h2, h3, h4, h5⟩
  · exact .inl h
  · exact .inr ⟨g, cur, h1, h2, h3, h4, fun i j hi hj => by rw [h5 i j hi hj, e i j hi hj]⟩
theorem MR.later {w w' : World} {base : Nat} {a : Option Addr} {n : Nat} {F : Nat → Nat → Int} (h : MR w base a n F) (hb : Below w.heap.size w w') : MR w' base a n F := by
  rcases h with h | ⟨g, cur, h1, h2, h3, h4, h5⟩
  · exact .inl h
  · exact .inr ⟨g, cur, h1, h2, h3.later hb, h4, h5⟩
theorem MR.rgs {w : World} {base : Nat} {a : Option Addr} {F : Nat → Nat → Int} {rs : List Rg} (hn : rs.length ≤ 100000) (h : MR w base a rs.length F) (e : ∀ i j r, rs[i]? = some r → j < 10 → F i j = r.cell j) : Rgs w a rs.length rs := by
  rcases h with h | ⟨g, cur, h1, h2, h3, h4, h5⟩
  · exact ⟨rfl, by omega, .inl h⟩
  · refine ⟨rfl, by omega, .inr ⟨g, 0, h1, h3.lt, fun i r hr j hj => ?_⟩⟩
    have hi : i < rs.length := (List.getElem?_eq_some_iff.1 hr).1
    rw [h3.cell, Nat.zero_add, h5 i j hi hj, e i j r hr hj]
/-- the cells while the suits are turned: the ranges before i are done, of range i the first s suits -/
def stC (A : List Rg) (k i' s' i j : Nat) : Int := match A[i]? with | some r => if i < i' then r.turnC k 4 j else if i = i' then r.turnC k s' j else r.cell j | none => 0
theorem stC_next (A : List Rg) (k i' i j : Nat) : stC A k i' 4 i j = stC A k (i' + 1) 0 i j := by
  unfold stC
  cases A[i]? with
  | none => rfl
  | some r =>
    simp only
    by_cases h : i < i'
    · rw [if_pos h, if_pos (by omega)]
    · rw [if_neg h]
      by_cases h2 : i = i'
      · rw [if_pos h2, if_pos (by omega)]
      · rw [if_neg h2, if_neg (by omega)]
        by_cases h3 : i = i' + 1
        · rw [if_pos h3, turnC_zero]
        · rw [if_neg h3]
theorem stC_step (A : List Rg) (k i' s : Nat) (r : Rg) (hr : A[i']? = some r) (hk : k < 4) (hs : s < 4) (i j : Nat) (hj : j < 10) : stC A k i' (s + 1) i j = if i = i' ∧ j = 2 + (s + k) % 4 * 2 then r.cell (2 + s * 2) else if i = i' ∧ j = 2 + (s + k) % 4 * 2 + 1 then r.cell (2 + s * 2 + 1) else stC A k i' s i j := by
  unfold stC
  by_cases h2 : i = i'
  · subst h2
    rw [hr]
    simp only [Nat.lt_irrefl, if_false, if_true, true_and]
    exact turnC_step k hk r s j hs hj
  · simp only [h2, false_and, if_false]
theorem MR.put {w : World} {base : Nat} {n : Nat} {F F' : Nat → Nat → Int} {g i' o : Nat} {x y : Int} {cur : Array Value} (hg : Row w g 39 cur) (hb : base ≤ g) (hsz : n * 10 ≤ cur.size) (hc : ∀ i j, i < n → j < 10 → cur[i * 10 + j]? = some (.int .i64 (F i j)))
    (hi : i' < n) (ho : o + 2 ≤ 10) (e : ∀ i j, i < n → j < 10 → F' i j = if i = i' ∧ j = o then x else if i = i' ∧ j = o + 1 then y else F i j) : MR (w.setRow g (putAt cur (i' * 10 + o) [.int .i64 x, .int .i64 y])) base (some ⟨g, 0, none⟩) n F' := by
  refine .inr ⟨g, _, rfl, hb, setRow_heap _ _ _ _ _ _ hg, by rw [putAt_size]; exact hsz, fun i j hi' hj => ?_⟩
  rw [putAt_get _ _ _ _ (by simp; omega), e i j hi' hj]
  simp only [List.length_cons, List.length_nil]
  by_cases h1 : i = i' ∧ j = o
  · rw [if_pos h1, if_pos (by omega), show i * 10 + j - (i' * 10 + o) = 0 by omega]; rfl
  · rw [if_neg h1]
    by_cases h2 : i = i' ∧ j = o + 1
    · rw [if_pos h2, if_pos (by omega), show i * 10 + j - (i' * 10 + o) = 1 by omega]; rfl
    · rw [if_neg h2, if_neg (by omega)]
      exact hc i j hi' hj

theorem rot1_ok (r : Rg) : r.rot1.ok = r.ok := by
  simp only [Rg.ok, Rg.okTo, Rg.lo, Rg.hi, Rg.rot1]
  simp
  generalize ordB r.a0 r.a1 13 = p
  generalize ordB r.b0 r.b1 13 = q
  generalize ordB r.c0 r.c1 13 = u
  generalize ordB r.d0 r.d1 13 = v
  cases p <;> cases q <;> cases u <;> cases v <;> rfl
theorem rotK_ok (k : Nat) (r : Rg) : (r.rotK k).ok = r.ok := by
  unfold Rg.rotK
  split
  · rfl
  · split
    · exact rot1_ok r
    · split
      · exact (rot1_ok _).trans (rot1_ok r)
      · exact ((rot1_ok _).trans (rot1_ok _)).trans (rot1_ok r)
theorem rotL_ok (k : Nat) (A : List Rg) : rightV (A.map (Rg.rotK k)) = rightV A := by
  unfold rightV
  rw [List.length_map, List.all_map]
  congr 2
  funext r
  exact rotK_ok k r

set_option maxHeartbeats 4000000 in
set_option maxRecDepth 10000 in
theorem law_AgreeSuits (left n : Nat) (ax : Option Addr) (lx cx : Nat) (cs : List Cd) (by' : Nat) (w : World) (hleft : W64 left) (hn : n < 256) (hx : Cds w ax lx cs) (hlx : lx ≤ cx) (hby : by' < 256) :
    Calls Try.prog 7 #[.int .u64 (left : Int), .int .u8 (n : Int), .slice ax lx cx, .int .u8 (by' : Int)] w fun e w' => e = .returned (.bool true) ∧ Below w.heap.size w w' := by
  have hpk := bits_pk left hleft
  have HPL := Lib.hid (pk_lt left)
  generalize pk left = L at *
  have HX := Lib.hid hx
  have hnn : (n : Int) % 14 = ((n % 14 : Nat) : Int) := by omega
  have HN := Lib.hid (show n % 14 ≤ 13 by omega)
  generalize n % 14 = nn at *
  have hk4 : (by' : Int) % 4 = ((by' % 4 : Nat) : Int) := by omega
  have hk : by' % 4 < 4 := by omega
  generalize by' % 4 = k at *
  clear hx
  have KA := Lib.hid (made_ok cs)
  have LA := Lib.hid (made_len cs)
  generalize hma : made cs = A at *
  go_enter Try.func7, Try.ntmps7
  go_wp2_with fail
  refine (law_Made ax lx cx cs _ HX.out hlx).mono ?_
  rintro e w1 ⟨⟨v1, rfl, hv1⟩, hb1⟩
  rw [hma] at hv1
  obtain ⟨a1, c1, rfl, hR1, hle1, hn1⟩ := hv1.rgs (by have := LA.out; omega)
  have HR1 := Lib.hid hR1
  have HB1 := Lib.hid hb1
  have HN1 := Lib.hid hn1
  clear hv1 hR1 hb1 hle1 hn1 hma
  go_wp2_with fail
  try simp only [hk4]
  have HW : Hid (W64 L) := Lib.hid (by have := HPL.out; unfold W64; omega)
  go_loopw [12, 37] (fun o i wr => ∃ (s t : Nat), s ≤ 4 ∧ i = .int .i64 (s : Int) ∧ o = .int .u64 (t : Int) ∧ t = turnTo L k s ∧ w1 = wr) (fun _ i _ => 4 - (intOf i).toNat)
  case atStart => exact ⟨0, 0, by omega, rfl, rfl, rfl, rfl⟩
  case round =>
    obtain ⟨s, t, hs, rfl, rfl, ht, rfl⟩ := hrel
    by_cases hlt : s < 4
    · have hd : decide ((s : Int) < 4) = true := by simp; omega
      have hw := HW.out
      go_wp2_with fail
      exact ⟨⟨s + 1, _, by omega, by simp, congrArg _ (turn_val L k s hw), rfl, trivial⟩, by simp [intOf]; omega⟩
    · obtain rfl : s = 4 := by omega
      have hTs : ∀ s, s < 4 → scards t ((s + k) % 4) = scards L s := fun s hs => by rw [ht]; exact turn_suit L k s hs
      have HT52 : Hid (t < 4503599627370496) := Lib.hid (by rw [ht]; exact turnTo_lt L k 4)
      have HTS := Lib.hid hTs
      clear ht hTs
      simp only [show ((4 : Nat) : Int) = 4 from rfl]
      have hal : Below w1.heap.size w1 (w1.alloc (.cells #[] 39)) := (Below.refl _ _).alloc (Nat.le_refl _) _
      have HA5 := Lib.hid (HR1.out.below (Nat.le_refl _) hal)
      have HO5 := Lib.hid (OwnR.made0 w1 w1.heap.size (Nat.le_refl _))
      have HS5 := Lib.hid hal.size
      clear hal
      go_wp2_with (first
        | (refine appRn rfl (.tmp 54) (.tmp 55) rfl w1.heap.size _ [] A rfl HO5.out a1 A.length c1 rfl HA5.out HN1.out (by have := LA.out; simp; omega) HS5.out ?_
           intro v5 w5 h1 h2 h3 h4
           rw [List.nil_append] at h1
           obtain ⟨a5, c5, rfl, hc5, hm5⟩ := h1.mr
           have HM5 := Lib.hid hm5
           have HBB := Lib.hid (((Below.refl w1.heap.size w1).alloc (Nat.le_refl _) (.cells #[] 39)).trans h2)
           clear h1 h2 h3 h4 hm5))
      clear HA5 HO5 HS5
      generalize hAn : A.length = n5 at *
      have hn5 := LA.out
      have h50 : MR w5 w1.heap.size a5 n5 (stC A k 0 0) := HM5.out.congr fun i j hi hj => by
        unfold stC
        cases hA : A[i]? with
        | none => rfl
        | some r =>
          simp only [Nat.not_lt_zero, if_false]
          split
          · rw [turnC_zero]
          · rfl
      clear HM5
      go_loopw [59] (fun x wr => ∃ (i : Nat), i ≤ n5 ∧ x = .int .i64 (i : Int) ∧ Below w1.heap.size w1 wr ∧ MR wr w1.heap.size a5 n5 (stC A k i 0)) (fun x _ => n5 - (intOf x).toNat)
      case atStart => exact ⟨0, by omega, rfl, HBB.out, h50⟩
      case round =>
        obtain ⟨i, hi, rfl, hbw, hmw⟩ := hrel
        clear h50
        have HBW := Lib.hid hbw
        have HMW := Lib.hid hmw
        clear hbw hmw
        by_cases hlt : i < n5
        · have hd : decide ((i : Int) < (n5 : Int)) = true := by simp; omega
          go_wp2_with fail
          go_loopw [62] (fun x wr => ∃ (s : Nat), s ≤ 4 ∧ x = .int .i64 (s : Int) ∧ Below w1.heap.size w1 wr ∧ MR wr w1.heap.size a5 n5 (stC A k i s)) (fun x _ => 4 - (intOf x).toNat)
          case atStart => exact ⟨0, by omega, rfl, HBW.out, HMW.out⟩
          case round =>
            obtain ⟨s, hs, rfl, hbw, hmw⟩ := hrel
            have HBW2 := Lib.hid hbw
            have HMW2 := Lib.hid hmw
            clear hbw hmw
            by_cases hlt2 : s < 4
            · have hd2 : decide ((s : Int) < 4) = true := by simp; omega
              rcases HMW2.out with h0 | ⟨g, cur, rfl, hgb, hgr, hgs, hgc⟩
              · omega
              have hRw := HR1.out.below (Nat.le_refl _) HBW2.out
              rcases hRw.cells with h0 | ⟨ba, oa, hab, habl, hac⟩
              · omega
              obtain ⟨r, har⟩ : ∃ r, A[i]? = some r := ⟨_, List.getElem?_eq_getElem (by omega)⟩
              subst hab
              have hx0 := hac i r har (2 + s * 2) (by omega)
              have hx1 := hac i r har (2 + s * 2 + 1) (by omega)
              clear hRw hac
              rw [show oa + i * 10 + (2 + s * 2) = oa + i * 10 + 2 + s * 2 by omega] at hx0
              rw [show oa + i * 10 + (2 + s * 2 + 1) = oa + i * 10 + 2 + s * 2 + 1 by omega] at hx1
              have hr0 := fun dd os => cell_regrown hx0 dd os
              have hr1 := fun dd os => cell_regrown hx1 dd os
              have hi2 : (i : Int) < (n5 : Int) := by omega
              have hs2 : (s : Int) < 4 := by omega
              have hsk : IntKind.i64.wrap ((s : Int) + (k : Int)) = (s : Int) + (k : Int) := IntWalk.i64_in _ (by omega)
              obtain ⟨q, HQ⟩ : ∃ q, Hid ((s + k) % 4 = q) := ⟨_, Lib.hid rfl⟩
              have htm : ((s : Int) + (k : Int)).tmod 4 = (q : Int) := by
                rw [Int.tmod_eq_emod_of_nonneg (by omega)]; have := HQ.out; omega
              have hem : ((s : Int) + (k : Int)) % 4 = (q : Int) := by have := HQ.out; omega
              have hq4 : (q : Int) < 4 := by have := HQ.out; omega
              have hq4' : q < 4 := by have := HQ.out; omega
              go_wp2_with fail
              refine wp_region_below_tail 16 (by kernel_rfl) (by kernel_rfl) ?_
              simp only [List.take_succ_cons, List.take_zero, List.drop_succ_cons, List.drop_zero]
              repeat (quiet_step (fail))
              refine wpQuiet_nil ?_
              rintro _ ⟨p, rfl⟩
              have hb := below_regrown wr p.d p.os
              generalize grow (redrawn wr p.d) p.os = wa at *
              have hgr' := hgr.later hb
              have HBW3 := Lib.hid (HBW2.out.trans (hb.mono HBW2.out.size))
              have HST : Hid (MR (wa.setRow g (putAt cur (i * 10 + (2 + q * 2)) [.int .i64 (r.cell (2 + s * 2)), .int .i64 (r.cell (2 + s * 2 + 1))])) w1.heap.size (some ⟨g, 0, none⟩) n5 (stC A k i (s + 1))) := Lib.hid (MR.put hgr' hgb hgs hgc hlt (by omega) (fun i2 j hi2 hj => by rw [stC_step A k i s r har hk hlt2 i2 j hj, HQ.out]))
              rw [← Nat.add_assoc] at HST
              have HGR := Lib.hid hgr'
              have HGB := Lib.hid hgb
              have HGS := Lib.hid hgs
              clear hb hr0 hr1 hx0 hx1 htm hem hq4 hsk hgr hgr' hgb hgs hgc har habl
              refine wpList_store_part rfl 36 (.tmp 80) (.tmp 77) rfl g (i * 10 + 2 + q * 2) #[.int .i64 (r.cell (2 + s * 2)), .int .i64 (r.cell (2 + s * 2 + 1))] rfl rfl _ cur HGR.out (by rw [size36]; rfl) (by have := HGS.out; simp; omega) (by simp; exact ⟨rfl, rfl⟩) ?_
              go_wp2_with fail
              go_roundw
              · exact ⟨s + 1, by omega, by simp, below_setRow HBW3.out HGB.out _, HST.out⟩
              · simp [intOf]; omega
            · obtain rfl : s = 4 := by omega
              simp only [show ((4 : Nat) : Int) = 4 from rfl]
              go_wp2_with fail
              go_roundw
              · exact ⟨i + 1, by omega, by simp, HBW2.out, HMW2.out.congr fun i2 j _ _ => stC_next A k i i2 j⟩
              · simp [intOf]; omega
        · obtain rfl : i = n5 := by omega
          have hBl : (A.map (Rg.rotK k)).length = i := by rw [List.length_map, hAn]
          have HRa := Lib.hid (HR1.out.below (Nat.le_refl _) HBW.out)
          have hRb : Rgs wr a5 i (A.map (Rg.rotK k)) := by
            rw [← hBl]
            refine MR.rgs (F := stC A k i 0) (by rw [hBl]; omega) (by rw [hBl]; exact HMW.out) ?_
            intro i2 j r hr hj
            rw [List.getElem?_map] at hr
            unfold stC
            cases hA : A[i2]? with
            | none => rw [hA] at hr; cases hr
            | some r0 =>
              rw [hA] at hr
              obtain rfl : r0.rotK k = r := by simpa using hr
              have : i2 < i := by rw [← hAn]; exact (List.getElem?_eq_some_iff.1 hA).1
              simp only [this, if_true]
              exact turnC_four k hk r0 j hj
          have HRb := Lib.hid hRb
          have KB : Hid (rightV (A.map (Rg.rotK k)) = true) := Lib.hid (by rw [rotL_ok]; exact KA.out)
          have HCR := Lib.hid (cnt_rot hk HTS.out nn A)
          have HLR := Lib.hid fun s hs j => ln_rot hk HTS.out nn A s hs j
          have HB1' := Lib.hid (HB1.out.trans (HBW.out.mono HB1.out.size))
          clear hRb hBl HBW HMW HR1
          generalize A.map (Rg.rotK k) = B at *
          obtain ⟨O, HO⟩ : ∃ O, Hid (cntF (deck L) nn (fitP A) = O) := ⟨_, Lib.hid rfl⟩
          rw [HO.out] at HCR
          go_wp2_with fail
          refine (ag_CountOk L (nn : Int) HPL.out (by omega) (by have := HN.out; omega) a1 i c1 A KA.out _ HRa.out).mono ?_
          rintro e w6 ⟨rfl, hb6⟩
          rw [Int.toNat_natCast, HO.out]
          have HRa6 := Lib.hid (HRa.out.below (Nat.le_refl _) hb6)
          have HRb6 := Lib.hid (HRb.out.below (Nat.le_refl _) hb6)
          have HB6 := Lib.hid (HB1'.out.trans (hb6.mono HB1'.out.size))
          clear hb6 HRa HRb HB1'
          go_wp2_with fail
          refine (ag_CountOk t (nn : Int) HT52.out (by omega) (by have := HN.out; omega) a5 i c5 B KB.out _ HRb6.out).mono ?_
          rintro e w7 ⟨rfl, hb7⟩
          rw [Int.toNat_natCast, HCR.out]
          have HRa7 := Lib.hid (HRa6.out.below (Nat.le_refl _) hb7)
          have HRb7 := Lib.hid (HRb6.out.below (Nat.le_refl _) hb7)
          have HB7 := Lib.hid (HB6.out.trans (hb7.mono HB6.out.size))
          clear hb7 HRa6 HRb6 HB6
          go_wp2_with fail
          go_loopw [106] (fun x wr => ∃ (s : Nat), s ≤ 4 ∧ x = .int .i64 (s : Int) ∧ Below w7.heap.size w7 wr) (fun x _ => 4 - (intOf x).toNat)
          case atStart => exact ⟨0, by omega, rfl, Below.refl _ _⟩
          case round =>
            obtain ⟨s, hs, rfl, hbs⟩ := hrel
            have HBS := Lib.hid hbs
            clear hbs
            by_cases hlt : s < 4
            · have hd : decide ((s : Int) < 4) = true := by simp; omega
              go_wp2_with fail
              refine (ag_LengthsOk L (nn : Int) HPL.out (by omega) (by have := HN.out; omega) a1 i c1 A KA.out s hlt _ (HRa7.out.below (Nat.le_refl _) HBS.out)).mono ?_
              rintro e w8 ⟨⟨b8, rfl, hb8l, hr8⟩, hb8⟩
              rw [Int.toNat_natCast] at hr8
              have HR8 := Lib.hid hr8
              have HB8 := Lib.hid (HBS.out.trans (hb8.mono HBS.out.size))
              clear hb8 hr8 hb8l
              obtain ⟨q, HQ⟩ : ∃ q, Hid ((s + k) % 4 = q) := ⟨_, Lib.hid rfl⟩
              have hem : ((s : Int) + (k : Int)) % 4 = (q : Int) := by have := HQ.out; omega
              go_wp2_with fail
              refine (ag_LengthsOk t (nn : Int) HT52.out (by omega) (by have := HN.out; omega) a5 i c5 B KB.out q (by have := HQ.out; omega) _ (HRb7.out.below (Nat.le_refl _) HB8.out)).mono ?_
              rintro e w9 ⟨⟨b9, rfl, hb9l, hr9⟩, hb9⟩
              have hfe : lnV t nn B q = lnV L nn A s := by rw [← HQ.out]; exact funext fun j => HLR.out s hlt j
              rw [Int.toNat_natCast, hfe] at hr9
              have HR9 := Lib.hid hr9
              have HR89 := Lib.hid (HR8.out.later hb9)
              have HB9 := Lib.hid (HB8.out.trans (hb9.mono HB8.out.size))
              clear hb9 hr9 hb9l hfe HR8 HB8
              obtain ⟨f, Hf⟩ : ∃ f, Hid (lnV L nn A s = f) := ⟨_, Lib.hid rfl⟩
              rw [Hf.out] at HR9 HR89
              go_wp2_with fail
              go_loopw [141] (fun x wr => ∃ (j : Nat), j ≤ 14 ∧ x = .int .i64 (j : Int) ∧ Below w9.heap.size w9 wr) (fun x _ => 14 - (intOf x).toNat)
              case atStart => exact ⟨0, by omega, rfl, Below.refl _ _⟩
              case round =>
                obtain ⟨j, hj, rfl, hbj⟩ := hrel
                by_cases hlt2 : j < 14
                · have hd2 : decide ((j : Int) < 14) = true := by simp; omega
                  have hj2 : (j : Int) < 14 := by omega
                  have hc8 := ((HR89.out.later hbj).cell j).trans (tab_get 14 f j hlt2)
                  have hc9 := ((HR9.out.later hbj).cell j).trans (tab_get 14 f j hlt2)
                  have hr8 := fun dd os => cell_regrown hc8 dd os
                  have hr9 := fun dd os => cell_regrown hc9 dd os
                  have HBJ := Lib.hid hbj
                  clear hbj
                  generalize f j = y at *
                  go_wp2_with fail
                  go_region
                  all_goals go_wp2_with fail
                  exact ⟨⟨j + 1, by omega, by simp, HBJ.out.drew⟩, by simp [intOf]; omega⟩
                · obtain rfl : j = 14 := by omega
                  simp only [show ((14 : Nat) : Int) = 14 from rfl]
                  go_wp2_with fail
                  go_roundw
                  · exact ⟨s + 1, by omega, by simp, HB9.out.trans (hbj.mono HB9.out.size)⟩
                  · simp [intOf]; omega
            · obtain rfl : s = 4 := by omega
              simp only [show ((4 : Nat) : Int) = 4 from rfl]
              go_wp2_with fail
              refine (law40_awake _).mono ?_
              rintro e w8 ⟨rfl, hb8⟩
              have HB8 := Lib.hid ((HB7.out.trans (HBS.out.mono HB7.out.size)).trans (hb8.mono (HB7.out.trans (HBS.out.mono HB7.out.size)).size))
              clear hb8
              go_wp2_with fail
              go_ret
              exact ⟨rfl, HB8.out⟩
end Go.Proofs.Ytmkplfndbjcflaa
