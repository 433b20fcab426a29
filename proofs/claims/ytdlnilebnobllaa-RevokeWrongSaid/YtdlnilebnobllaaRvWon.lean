/- revoke.won over this seat's program. -/
import Derived.Test.YtdlnilebnobllaaRevF
import Derived.LoopN
namespace Go.Proofs.Ytdlnilebnobllaa
open Go.RowKit Go.Shelf Go.Sort

def wonTo (l : List Nat) (side k : Nat) : Nat := (l.take k).countP fun s => s % 2 == side
theorem wonTo_le (l : List Nat) (side k : Nat) : wonTo l side k ≤ k := Nat.le_trans List.countP_le_length (List.length_take_le _ _)
theorem wonTo_succ (l : List Nat) (side k : Nat) (h : k < l.length) : wonTo l side (k + 1) = wonTo l side k + if l.getD k 0 % 2 = side then 1 else 0 := by
  unfold wonTo
  rw [List.take_succ_eq_append_getElem h, List.countP_append, List.getD_eq_getElem?_getD, List.getElem?_eq_getElem h]
  simp [List.countP_cons]
theorem rev_won (ws : List Nat) (side st : Nat) (a : Option Addr) (len cap : Nat) (w : World) (hz : Byt w a len ws) (hlc : len ≤ cap) (hst : st ≤ len) (hnil : a = none → cap = 0) :
    Calls Try.prog 52 #[.slice a len cap, .int .u8 (side : Int), .int .i64 (st : Int)] w fun e w' => e = .returned (.int .i64 (wonV ws side st : Int)) ∧ w = w' := by
  have hsm := hz.small
  have HL := Lib.hid hz.length
  by_cases h0 : st = len
  · have hv : wonV ws side st = 0 := by unfold wonV; rw [List.drop_of_length_le (by rw [HL.out]; omega)]; rfl
    rw [hv]
    have hsub : len - st = 0 := by omega
    subst h0
    by_cases hcs : cap = st
    · subst hcs
      go_enter Try.func52, Try.ntmps52
      go_wp2
      refine wp_loop_rounds 1 ?_
      rw [rounds_succ]
      go_wp2
      go_ret
      exact ⟨rfl, rfl⟩
    · obtain ⟨ad, rfl⟩ : ∃ ad, a = some ad := by
        cases a with
        | none => have := hnil rfl; omega
        | some ad => exact ⟨ad, rfl⟩
      go_enter Try.func52, Try.ntmps52
      go_wp2
      refine wp_loop_rounds 1 ?_
      rw [rounds_succ]
      go_wp2
      go_ret
      exact ⟨rfl, rfl⟩
  · obtain ⟨b, off, rfl, hb, hcs⟩ := hz.at (by omega)
    have hne : ¬ cap = st := by omega
    go_enter Try.func52, Try.ntmps52
    go_wp2
    go_loop [7, 9, 14] (fun n _ i => ∃ k : Nat, k ≤ len - st ∧ i = .int .i64 (k : Int) ∧ n = .int .i64 (wonTo (ws.drop st) side k : Int)) (fun _ _ i => len - st - (intOf i).toNat)
    case atStart => exact ⟨0, by omega, rfl, by simp [wonTo]⟩
    case round =>
      obtain ⟨k, hk, rfl, rfl⟩ := hrel
      have hle := wonTo_le (ws.drop st) side k
      by_cases hlt : k < len - st
      · have hc := hcs (st + k) (by omega)
        rw [← Nat.add_assoc] at hc
        have hs := Lib.hid (wonTo_succ (ws.drop st) side k (by rw [List.length_drop, HL.out]; exact hlt))
        have hg : (ws.drop st).getD k 0 = ws.getD (st + k) 0 := by simp [List.getD_eq_getElem?_getD]
        rw [hg] at hs
        clear hg hcs
        generalize ws.getD (st + k) 0 = c at *
        by_cases hcmp : c % 2 = side
        · have h1 : ((c : Int) % 2 == (side : Int)) = true := by rw [beq_iff_eq]; omega
          have hc' := Lib.hid hcmp
          clear hcmp
          go_wp2
          go_round
          case rel => exact ⟨k + 1, by omega, by go_num, by rw [hs.out, if_pos hc'.out]; go_num⟩
          case measure => simp [intOf]; omega
        · have h1 : ((c : Int) % 2 == (side : Int)) = false := by rw [beq_eq_false_iff_ne]; omega
          go_wp2
          go_round
          case rel => exact ⟨k + 1, by omega, by go_num, by rw [hs.out, if_neg hcmp]; go_num⟩
          case measure => simp [intOf]; omega
      · obtain rfl : k = len - st := by omega
        go_wp2
        go_ret
        refine ⟨?_, rfl⟩
        unfold wonV wonTo
        rw [List.take_of_length_le (by rw [List.length_drop, HL.out]; exact Nat.le_refl _)]
        rfl
end Go.Proofs.Ytdlnilebnobllaa
