/- Contracts of signal.counter, signal.joint and their closures, signal.legal over this seat's program. -/
import Derived.Test.YtikdkhiehfccpaaMSga
namespace Go.Proofs.Ytikdkhiehfccpaa
open Go.RowKit Go.Sort Go.Shelf Cnt

abbrev QT : (Nat → Nat) → Nat → Bool := fun _ _ => true
theorem ft_true (ds : List Ft) (nn : Nat) (rs : List Rg) : ftC2 ds nn QT rs = cntF ds nn (fitP rs) := by
  unfold ftC2
  congr 1
  funext l p
  exact Bool.and_true _
theorem cnt_true (L n : Nat) : cntF (deck L) n QT = chs (deck L).length n := by
  rw [← sum_all (deck L) (deck_singles L) n]
  unfold cntF
  refine sumF_congr fun x => ?_
  split <;> rfl
theorem sg_counter (left : Nat) (n : Int) (w : World) :
    Calls Try.prog 46 #[.int .u64 (left : Int), .int .i64 n] w fun e w' =>
      e = .returned (.func (.func 61) #[] #[.pointer (some ⟨w.heap.size, 0, none⟩), .pointer (some ⟨w.heap.size + 1, 0, none⟩)]) ∧ w' = (w.alloc (.cells #[.int .u64 (left : Int)] 22)).alloc (.cells #[.int .i64 n] 3) := by
  go_enter Try.func46, Try.ntmps46
  go_wp2
  go_ret
  exact ⟨rfl, rfl⟩
theorem sg_joint (left : Nat) (n : Int) (a : Option Addr) (la ca : Nat) (w : World) :
    Calls Try.prog 37 #[.int .u64 (left : Int), .int .i64 n, .slice a la ca] w fun e w' =>
      e = .returned (.func (.func 54) #[] #[.pointer (some ⟨w.heap.size, 0, none⟩), .pointer (some ⟨w.heap.size + 1, 0, none⟩), .pointer (some ⟨w.heap.size + 1 + 1, 0, none⟩)]) ∧ w' = ((w.alloc (.cells #[.int .u64 (left : Int)] 22)).alloc (.cells #[.int .i64 n] 3)).alloc (.cells #[.slice a la ca] 27) := by
  go_enter Try.func37, Try.ntmps37
  go_wp2
  go_ret
  exact ⟨rfl, rfl⟩
theorem sg_counter1 (left nn : Nat) (hl : left < 4503599627370496) (hn : nn ≤ 13) (bl bn : Nat) (ad : Option Addr) (m c : Nat) (rs : List Rg) (w : World) (h1 : Row w bl 22 #[.int .u64 (left : Int)]) (h2 : Row w bn 3 #[.int .i64 (nn : Int)]) (hr : Rgs w ad m rs) (hok : rightV rs = true) :
    Calls Try.prog 61 #[.slice ad m c, .pointer (some ⟨bl, 0, none⟩), .pointer (some ⟨bn, 0, none⟩)] w fun e w' => e = .returned (.int .i64 ((ftC2 (deck left) nn QT rs : Nat) : Int)) ∧ Below w.heap.size w w' := by
  rw [ft_true]
  have c1 := h1.cell 0
  have c2 := h2.cell 0
  simp only [List.getElem?_toArray, List.getElem?_cons_zero] at c1 c2
  have HR := Lib.hid hr
  have HOK := Lib.hid hok
  have HL := Lib.hid hl
  have HN := Lib.hid hn
  clear h1 h2 hr hok hl hn
  go_enter Try.func61, Try.ntmps61
  go_wp2_with fail
  refine (ag_GivenOk left (nn : Int) HL.out (by omega) (by have := HN.out; omega) ad none m c 0 0 rs [] HOK.out (by decide) _ HR.out (Rgs.nil _)).mono ?_
  rintro e w2 ⟨rfl, hb2⟩
  have HB2 := Lib.hid hb2
  clear hb2
  go_wp2_with fail
  go_ret
  exact ⟨rfl, HB2.out⟩
theorem sg_joint1 (left nn : Nat) (hl : left < 4503599627370496) (hn : nn ≤ 13) (bl bn ba : Nat) (a : Option Addr) (la ca : Nat) (ra : List Rg) (ad : Option Addr) (m c : Nat) (rs : List Rg) (w : World) (h1 : Row w bl 22 #[.int .u64 (left : Int)]) (h2 : Row w bn 3 #[.int .i64 (nn : Int)]) (h3 : Row w ba 27 #[.slice a la ca]) (ha : Rgs w a la ra) (oka : rightV ra = true) (hr : Rgs w ad m rs) (hok : rightV rs = true) :
    Calls Try.prog 54 #[.slice ad m c, .pointer (some ⟨bl, 0, none⟩), .pointer (some ⟨bn, 0, none⟩), .pointer (some ⟨ba, 0, none⟩)] w fun e w' => e = .returned (.int .i64 ((ftC2 (deck left) nn (fitP ra) rs : Nat) : Int)) ∧ Below w.heap.size w w' := by
  have c1 := h1.cell 0
  have c2 := h2.cell 0
  have c3 := h3.cell 0
  simp only [List.getElem?_toArray, List.getElem?_cons_zero] at c1 c2 c3
  have HR := Lib.hid hr
  have HOK := Lib.hid hok
  have HA := Lib.hid ha
  have HKA := Lib.hid oka
  have HL := Lib.hid hl
  have HN := Lib.hid hn
  clear h1 h2 h3 hr hok hl hn ha oka
  go_enter Try.func54, Try.ntmps54
  go_wp2_with fail
  refine (ag_GivenOk left (nn : Int) HL.out (by omega) (by have := HN.out; omega) ad a m c la ca rs ra HOK.out HKA.out _ HR.out HA.out).mono ?_
  rintro e w2 ⟨rfl, hb2⟩
  have HB2 := Lib.hid hb2
  clear hb2
  go_wp2_with fail
  go_ret
  exact ⟨rfl, HB2.out⟩
/-- what legal says -/
def lgOk (left : Nat) (n : Int) (ls : List Rl) : Bool := legalB left n && rightS ls
def lgV (left : Nat) (n : Int) (ls : List Rl) : Nat := if lgOk left n ls then chs (pop left) n.toNat else 0
def okE (b : Bool) : Int := if b then 0 else 2
theorem sg_legal (left : Nat) (n : Int) (a : Option Addr) (la ca : Nat) (ls : List Rl) (hleft : W64 left) (w : World) (ha : Rls w a la ls) :
    Calls Try.prog 45 #[.int .u64 (left : Int), .int .i64 n, .slice a la ca] w fun e w' =>
      e = .returned (.tuple #[.int .i64 ((lgV left n ls : Nat) : Int), .int .i64 (okE (lgOk left n ls))]) ∧ Below w.heap.size w w' := by
  have HA := Lib.hid ha
  have HT := Lib.hid fun w' => ag_Total left n w' hleft
  clear ha hleft
  cases hl : legalB left n
  · have HE : Hid (lgOk left n ls = false) := Lib.hid (by unfold lgOk; rw [hl]; rfl)
    have HT2 : Hid (totalV left n = (0, 2)) := Lib.hid (by unfold totalV; rw [hl]; rfl)
    unfold lgV
    rw [HE.out]
    clear hl
    go_enter Try.func45, Try.ntmps45
    go_wp2_with fail
    refine (HT.out _).mono ?_
    rw [HT2.out]
    rintro e w' ⟨rfl, rfl⟩
    go_wp2_with fail
    go_ret2
    exact ⟨rfl, Below.refl _ _⟩
  · have HT2 : Hid (totalV left n = (chs (pop left) n.toNat, 0)) := Lib.hid (by unfold totalV; rw [hl]; rfl)
    cases hr : rightS ls
    · have HE : Hid (lgOk left n ls = false) := Lib.hid (by unfold lgOk; rw [hl, hr]; rfl)
      unfold lgV
      rw [HE.out]
      have HR := Lib.hid hr
      clear hl hr
      go_enter Try.func45, Try.ntmps45
      go_wp2_with fail
      refine (HT.out _).mono ?_
      rw [HT2.out]
      rintro e w' ⟨rfl, rfl⟩
      go_wp2_with fail
      refine (sg_Right a la ca ls _ HA.out).mono ?_
      rw [HR.out]
      rintro e w2 ⟨rfl, hb2⟩
      have HB2 := Lib.hid hb2
      clear hb2
      go_wp2_with fail
      go_ret2
      exact ⟨rfl, HB2.out⟩
    · have HE : Hid (lgOk left n ls = true) := Lib.hid (by unfold lgOk; rw [hl, hr]; rfl)
      unfold lgV
      rw [HE.out]
      have HR := Lib.hid hr
      clear hl hr
      go_enter Try.func45, Try.ntmps45
      go_wp2_with fail
      refine (HT.out _).mono ?_
      rw [HT2.out]
      rintro e w' ⟨rfl, rfl⟩
      go_wp2_with fail
      refine (sg_Right a la ca ls _ HA.out).mono ?_
      rw [HR.out]
      rintro e w2 ⟨rfl, hb2⟩
      have HB2 := Lib.hid hb2
      clear hb2
      go_wp2_with fail
      go_ret2
      exact ⟨rfl, HB2.out⟩
end Go.Proofs.Ytikdkhiehfccpaa
