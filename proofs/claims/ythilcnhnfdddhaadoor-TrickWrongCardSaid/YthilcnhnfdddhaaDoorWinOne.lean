/- Plain facts for finesselaw11.TrickWinner, and contracts of slices.ContainsFunc, IndexFunc at its closure. -/
import Derived.Test.YthilcnhnfdddhaaDoorWinPlain
namespace Go.Proofs.YthilcnhnfdddhaaDoor
open Go.RowKit Go.Shelf Go.Sort

theorem takeR {l : List Nat} (h : rightB l = true) (n : Nat) (h1 : 1 ≤ n) (hn : n ≤ l.length) : rightB (l.take n) = true := by
  rw [rightB_iff] at h ⊢
  rw [List.length_take, Nat.min_eq_left hn]
  exact ⟨h1, by omega, fun c hc => h.2.2.1 c (List.mem_of_mem_take hc), h.2.2.2.sublist (List.take_sublist _ _)⟩
theorem getD_take {l : List Nat} {n i : Nat} (h : i < n) : (l.take n).getD i 0 = l.getD i 0 := by
  rw [List.getD_eq_getElem?_getD, List.getD_eq_getElem?_getD, List.getElem?_take, if_pos h]
/-- where the winning card of the first n lies -/
def atV (t : Nat) (l : List Nat) (n : Nat) : Nat := bestTo (fun c => (strength t (suit (l.getD 0 0)) c : Int)) l n
theorem winner_take {t : Nat} {l : List Nat} (ht : t ≤ 4) (hr : rightB l = true) {n : Nat} (h1 : 1 ≤ n) (hn : n ≤ l.length) : winnerV t (l.take n) = (atV t l n, 0) := by
  unfold winnerV
  rw [if_neg (by omega), if_pos (takeR hr n h1 hn), List.length_take, Nat.min_eq_left hn, getD_take (by omega)]
  unfold atV
  have := bestTo_append (fun c => (strength t (suit (l.getD 0 0)) c : Int)) (l.take n) (l.drop n) n (by rw [List.length_take]; omega)
  rw [List.take_append_drop] at this
  rw [this]
theorem atV_lt {t : Nat} {l : List Nat} {n : Nat} (h1 : 1 ≤ n) : atV t l n < n := bestTo_lt _ _ _ (by omega)
/-- the suit that wins -/
def winSuit (t : Nat) (l : List Nat) (n : Nat) : Nat := if (l.take n).any (fun c => decide (c / 13 = t)) then t else l.getD 0 0 / 13
theorem win_suit {t : Nat} {l : List Nat} (_ht : t ≤ 4) (hr : rightB l = true) {n : Nat} (h1 : 1 ≤ n) (hn : n ≤ l.length) :
    l.getD (atV t l n) 0 / 13 = winSuit t l n ∧ ∀ i, i < n → l.getD i 0 / 13 = winSuit t l n → l.getD i 0 ≤ l.getD (atV t l n) 0 := by
  have hl := fun i (hi : i < n) => right_lt hr (i := i) (by omega)
  have ha := atV_lt (t := t) (l := l) h1
  have hge := fun j (hj : j < n) => best_ge (fun c => (strength t (suit (l.getD 0 0)) c : Int)) l n j hj
  change ∀ j, j < n → (strength t (suit (l.getD 0 0)) (l.getD j 0) : Int) ≤ (strength t (suit (l.getD 0 0)) (l.getD (atV t l n) 0) : Int) at hge
  have hd := hl _ ha
  have hs0 := suit_div (hl 0 (by omega))
  generalize hdv : l.getD (atV t l n) 0 = d at *
  unfold winSuit
  cases hany : (l.take n).any (fun c => decide (c / 13 = t))
  · rw [if_neg (by simp)]
    have hno : ∀ i, i < n → l.getD i 0 / 13 ≠ t := by
      intro i hi he
      rw [← Bool.not_eq_true, List.any_eq_true] at hany
      refine hany ⟨l.getD i 0, ?_, decide_eq_true he⟩
      rw [← getD_take hi]; exact getD_mem (by rw [List.length_take]; omega)
    have hdt : d / 13 ≠ t := by rw [← hdv]; exact hno _ ha
    have h0 := hge 0 (by omega)
    have hpos : 0 < strength t (suit (l.getD 0 0)) (l.getD 0 0) := by
      unfold strength; split
      · omega
      · rw [if_pos rfl]; omega
    have hsd : suit d = suit (l.getD 0 0) := by
      rcases strength_pos_suit (t := t) (l := suit (l.getD 0 0)) (c := d) (by omega) with h | h
      · rw [suit_div hd] at h; exact absurd h hdt
      · exact h
    rw [suit_div hd, hs0] at hsd
    refine ⟨hsd, fun i hi he => ?_⟩
    have h2 := hge i hi
    have hi52 := hl i hi
    exact (strength_same (t := t) (l := suit (l.getD 0 0)) hi52 hd (by rw [suit_div hi52, suit_div hd, hsd]; exact he) (.inr (by rw [suit_div hd, hs0]; exact hsd))).1 (by omega)
  · rw [if_pos rfl]
    obtain ⟨c, hc, hct⟩ := List.any_eq_true.1 hany
    simp only [decide_eq_true_eq] at hct
    obtain ⟨i, hi, rfl⟩ := mem_getD hc
    have hin : i < n := by rw [List.length_take] at hi; omega
    rw [getD_take hin] at hct
    have h2 := hge i hin
    have hdt : d / 13 = t := by
      rcases Nat.decEq (d / 13) t with h | h
      · have := strength_trump (t := t) (l := suit (l.getD 0 0)) (c := d) (d := l.getD i 0) (by rw [suit_div hd]; exact h) (by rw [suit_div (hl i hin)]; exact hct)
        omega
      · exact h
    refine ⟨hdt, fun j hj he => ?_⟩
    have hj52 := hl j hj
    have h3 := hge j hj
    exact (strength_same (t := t) (l := suit (l.getD 0 0)) hj52 hd (by rw [suit_div hj52, suit_div hd, hdt]; exact he) (.inl (by rw [suit_div hd]; exact hdt))).1 (by omega)
theorem beats_take {t : Nat} {l : List Nat} (ht : t ≤ 4) (hr : rightB l = true) {n : Nat} (h1 : 1 ≤ n) (hn : n + 1 ≤ l.length) :
    beatsV t (l.take n) (l.getD n 0) = (decide (atV t l (n + 1) = n), 0) ∧ (atV t l (n + 1) ≠ n → atV t l (n + 1) = atV t l n) := by
  have h4 := (rightB_length hr).2
  have hw := winner_take ht hr h1 (by omega : n ≤ l.length)
  have hw2 := winner_take ht hr (by omega : 1 ≤ n + 1) hn
  have hb := beats_next t (l.take n) (l.getD n 0) (by rw [hw]) (by rw [List.length_take]; omega)
  rw [← take_snoc l n (by omega), hw2, if_pos rfl, List.length_take, Nat.min_eq_left (by omega)] at hb
  refine ⟨hb, fun h => ?_⟩
  unfold atV at *
  rw [bestTo] at h ⊢
  by_cases hc : (strength t (suit (l.getD 0 0)) (l.getD (bestTo (fun c => (strength t (suit (l.getD 0 0)) c : Int)) l n) 0) : Int) < (strength t (suit (l.getD 0 0)) (l.getD n 0) : Int)
  · rw [if_pos hc] at h; exact absurd rfl h
  · rw [if_neg hc]

/-- the closure of TrickWinner -/
theorem winner1 (t c p : Nat) (w : World) (hc : c < 256) (hp : w.cell? ⟨p, 0, none⟩ = some (.int .u8 (t : Int))) :
    Calls Tryd.prog 26 #[.int .u8 (c : Int), .pointer (some ⟨p, 0, none⟩)] w fun e w' => e = .returned (.bool (decide (c / 13 = t))) ∧ w = w' := by
  have HE : Hid (decide (c / 13 = t) = ((c : Int) / 13 == (t : Int))) := Lib.hid (by rw [Bool.eq_iff_iff]; simp; omega)
  go_enter Tryd.func26, Tryd.ntmps26
  go_wp2
  go_ret
  exact ⟨by rw [HE.out]; rfl, rfl⟩
def AnyPost (b : Bool) (w : World) (e : Ending) (w' : World) : Prop := ∃ i : Int, e = .returned (.int .i64 i) ∧ decide (0 ≤ i) = b ∧ w = w'
theorem index_func (t p : Nat) (a : Option Addr) (len cap : Nat) (zs : List Nat) (w : World) (hz : Byt w a len zs) (hp : w.cell? ⟨p, 0, none⟩ = some (.int .u8 (t : Int))) :
    Calls Tryd.prog 49 #[.slice a len cap, .func (.func 26) #[] #[.pointer (some ⟨p, 0, none⟩)]] w (AnyPost (zs.any fun c => decide (c / 13 = t)) w) := by
  have HL := Lib.hid hz.length
  have hsm := hz.small
  have HP := Lib.hid hp
  clear hp
  go_enter Tryd.func49, Tryd.ntmps49
  go_wp2
  go_loop [5, 8] (fun _ i => ∃ (k : Nat), k ≤ len ∧ i = .int .i64 k ∧ (zs.take k).any (fun c => decide (c / 13 = t)) = false) (fun _ i => len - (intOf i).toNat)
  case atStart => exact ⟨0, Nat.zero_le _, rfl, by simp⟩
  case round =>
    obtain ⟨k, hk, rfl, hn⟩ := hrel
    have HN := Lib.hid hn
    clear hn
    by_cases hlt : k < len
    · obtain ⟨b, off, rfl, hb, hcs⟩ := hz.at (by omega)
      have hc := hcs k hlt
      have hby := hz.byte k
      have HT := Lib.hid (take_snoc zs k (by rw [HL.out]; exact hlt))
      have HM := Lib.hid (getD_mem (zs := zs) (i := k) (by rw [HL.out]; exact hlt))
      clear hcs
      generalize zs.getD k 0 = x at *
      have hwn := winner1 t x p w hby HP.out
      have HWN := Lib.hid hwn
      clear hwn
      by_cases hx : x / 13 = t
      · have HD : Hid (decide (x / 13 = t) = true) := Lib.hid (decide_eq_true hx)
        have HX := Lib.hid hx
        clear hx
        go_wp2_with (go_at_call 26; refine HWN.out.mono ?_; rw [HD.out]; rintro e w' ⟨rfl, rfl⟩)
        go_ret
        refine ⟨k, rfl, ?_, rfl⟩
        have : zs.any (fun c => decide (c / 13 = t)) = true := List.any_eq_true.2 ⟨x, HM.out, by simp [HX.out]⟩
        rw [this]; simp
      · have HD : Hid (decide (x / 13 = t) = false) := Lib.hid (decide_eq_false hx)
        clear hx
        go_wp2_with (go_at_call 26; refine HWN.out.mono ?_; rw [HD.out]; rintro e w' ⟨rfl, rfl⟩)
        go_round
        case rel => exact ⟨k + 1, by omega, by go_num, by rw [HT.out, List.any_append, HN.out]; simp [HD.out]⟩
        case measure => simp [intOf]; omega
    · go_wp2
      go_ret
      refine ⟨-1, rfl, ?_, rfl⟩
      have := HN.out
      rw [List.take_of_length_le (by rw [HL.out]; omega)] at this
      rw [this]; rfl
theorem contains_func (t p : Nat) (a : Option Addr) (len cap : Nat) (zs : List Nat) (w : World) (hz : Byt w a len zs) (hp : w.cell? ⟨p, 0, none⟩ = some (.int .u8 (t : Int))) :
    Calls Tryd.prog 25 #[.slice a len cap, .func (.func 26) #[] #[.pointer (some ⟨p, 0, none⟩)]] w fun e w' => e = .returned (.bool (zs.any fun c => decide (c / 13 = t))) ∧ w = w' := by
  have hi := index_func t p a len cap zs w hz hp
  generalize zs.any (fun c => decide (c / 13 = t)) = b at *
  have HI := Lib.hid hi
  clear hi
  go_enter Tryd.func25, Tryd.ntmps25
  go_wp2_with (go_at_call 49; refine HI.out.mono ?_; rintro e w' ⟨i, rfl, hi, rfl⟩; have HI2 := Lib.hid hi; clear hi)
  go_ret
  exact ⟨by rw [← HI2.out]; simp, rfl⟩
end Go.Proofs.YthilcnhnfdddhaaDoor
