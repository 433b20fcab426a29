/- RvWon, RvMov, RvSid, RvMap in one text. -/
import Derived.Test.YtdlnilebnobllaaRevF
import Derived.LoopN
import Derived.Outline
import Derived.Test.YtdlnilebnobllaaRvEst
import Derived.Laws.StructEq

/- revoke.won over this seat's program. -/
namespace Go.Proofs.Ytdlnilebnobllaa
open Go.RowKit Go.Shelf Go.Sort

def wonTo (l : List Nat) (side k : Nat) : Nat := (l.take k).countP fun s => s % 2 == side
theorem wonTo_le (l : List Nat) (side k : Nat) : wonTo l side k ≤ k := Nat.le_trans List.countP_le_length (List.length_take_le _ _)
theorem wonTo_succ (l : List Nat) (side k : Nat) (h : k < l.length) : wonTo l side (k + 1) = wonTo l side k + if l.getD k 0 % 2 = side then 1 else 0 := by
  unfold wonTo
  rw [List.take_succ_eq_append_getElem h, List.countP_append, List.getD_eq_getElem?_getD, List.getElem?_eq_getElem h]
  simp [List.countP_cons]
theorem rev_won (ws : List Nat) (side st : Nat) (a : Option Addr) (len cap : Nat) (w : World) (hz : Byt w a len ws) (hlc : len ≤ cap) (hst : st ≤ len) (hnil : a = none → cap = 0) :
    Calls Try.prog 52 #[.slice a len cap, .int .u8 (side : Int), .int .i64 (st : Int)] w fun e w' => e = .returned (.int .i64 (wonV ws side st : Int)) ∧ w = w' := by
  have hsm := hz.small
  have HL := Lib.hid hz.length
  by_cases h0 : st = len
  · have hv : wonV ws side st = 0 := by unfold wonV; rw [List.drop_of_length_le (by rw [HL.out]; omega)]; rfl
    rw [hv]
    have hsub : len - st = 0 := by omega
    subst h0
    by_cases hcs : cap = st
    · subst hcs
      go_enter Try.func52, Try.ntmps52
      go_wp2
      refine wp_loop_rounds 1 ?_
      rw [rounds_succ]
      go_wp2
      go_ret
      exact ⟨rfl, rfl⟩
    · obtain ⟨ad, rfl⟩ : ∃ ad, a = some ad := by
        cases a with
        | none => have := hnil rfl; omega
        | some ad => exact ⟨ad, rfl⟩
      go_enter Try.func52, Try.ntmps52
      go_wp2
      refine wp_loop_rounds 1 ?_
      rw [rounds_succ]
      go_wp2
      go_ret
      exact ⟨rfl, rfl⟩
  · obtain ⟨b, off, rfl, hb, hcs⟩ := hz.at (by omega)
    have hne : ¬ cap = st := by omega
    go_enter Try.func52, Try.ntmps52
    go_wp2
    go_loop [7, 9, 14] (fun n _ i => ∃ k : Nat, k ≤ len - st ∧ i = .int .i64 (k : Int) ∧ n = .int .i64 (wonTo (ws.drop st) side k : Int)) (fun _ _ i => len - st - (intOf i).toNat)
    case atStart => exact ⟨0, by omega, rfl, by simp [wonTo]⟩
    case round =>
      obtain ⟨k, hk, rfl, rfl⟩ := hrel
      have hle := wonTo_le (ws.drop st) side k
      by_cases hlt : k < len - st
      · have hc := hcs (st + k) (by omega)
        rw [← Nat.add_assoc] at hc
        have hs := Lib.hid (wonTo_succ (ws.drop st) side k (by rw [List.length_drop, HL.out]; exact hlt))
        have hg : (ws.drop st).getD k 0 = ws.getD (st + k) 0 := by simp [List.getD_eq_getElem?_getD]
        rw [hg] at hs
        clear hg hcs
        generalize ws.getD (st + k) 0 = c at *
        by_cases hcmp : c % 2 = side
        · have h1 : ((c : Int) % 2 == (side : Int)) = true := by rw [beq_iff_eq]; omega
          have hc' := Lib.hid hcmp
          clear hcmp
          go_wp2
          go_round
          case rel => exact ⟨k + 1, by omega, by go_num, by rw [hs.out, if_pos hc'.out]; go_num⟩
          case measure => simp [intOf]; omega
        · have h1 : ((c : Int) % 2 == (side : Int)) = false := by rw [beq_eq_false_iff_ne]; omega
          go_wp2
          go_round
          case rel => exact ⟨k + 1, by omega, by go_num, by rw [hs.out, if_neg hcmp]; go_num⟩
          case measure => simp [intOf]; omega
      · obtain rfl : k = len - st := by omega
        go_wp2
        go_ret
        refine ⟨?_, rfl⟩
        unfold wonV wonTo
        rw [List.take_of_length_le (by rw [List.length_drop, HL.out]; exact Nat.le_refl _)]
        rfl
end Go.Proofs.Ytdlnilebnobllaa

/- revoke.moves over this seat's program. -/
namespace Go.Proofs.Ytdlnilebnobllaa
open Go.RowKit Go.Shelf Go.Sort

theorem rev_moves (ws : List Nat) (v : Rvk) (a : Option Addr) (len cap : Nat) (w : World) (hz : Byt w a len ws) (hlc : len ≤ cap) (hnil : a = none → cap = 0) (hv : v.trick < len) :
    Calls Try.prog 54 #[.agg #[.int .i64 (v.trick : Int), .int .u8 (v.seat : Int), .int .u8 (v.suit : Int), .int .u8 (v.card : Int), .bool v.est], .slice a len cap] w fun e w' => e = .returned (.int .i64 (movesV v ws : Int)) ∧ Below w.heap.size w w' := by
  obtain ⟨b, off, rfl, hb, hcs⟩ := hz.at (by omega)
  have hsm := hz.small
  have hc := hcs v.trick hv
  have hW0 : ∀ w1, Below w.heap.size w w1 → Calls Try.prog 52 #[.slice (some ⟨b, off, none⟩) len cap, .int .u8 ((v.seat : Int) % 2), .int .i64 (v.trick : Int)] w1 fun e w' => e = .returned (.int .i64 (wonV ws (v.seat % 2) v.trick : Int)) ∧ w1 = w' := by
    intro w1 h1
    have h := rev_won ws (v.seat % 2) v.trick (some ⟨b, off, none⟩) len cap w1 (hz.below (Nat.le_refl _) h1) hlc (by omega) hnil
    rwa [show (((v.seat % 2 : Nat)) : Int) = (v.seat : Int) % 2 from by omega] at h
  have hW1 : ∀ w1, Below w.heap.size w w1 → Calls Try.prog 52 #[.slice (some ⟨b, off, none⟩) len cap, .int .u8 ((v.seat : Int) % 2), .int .i64 ((v.trick : Int) + 1)] w1 fun e w' => e = .returned (.int .i64 (wonV ws (v.seat % 2) (v.trick + 1) : Int)) ∧ w1 = w' := by
    intro w1 h1
    have h := rev_won ws (v.seat % 2) (v.trick + 1) (some ⟨b, off, none⟩) len cap w1 (hz.below (Nat.le_refl _) h1) hlc (by omega) hnil
    rwa [show (((v.seat % 2 : Nat)) : Int) = (v.seat : Int) % 2 from by omega, show ((v.trick + 1 : Nat) : Int) = (v.trick : Int) + 1 from by omega] at h
  have HW0 := Lib.hid hW0
  have HW1 := Lib.hid hW1
  clear hW0 hW1 hcs
  have hB : ∀ o n, Below w.heap.size w ((w.alloc o).drewN n) := fun o n => by
    have h := (Below.refl w.heap.size w).alloc (Nat.le_refl _) o
    exact ⟨h.os, h.tape, h.output, h.size, h.block⟩
  have HB := Lib.hid hB
  clear hB
  unfold movesV
  generalize hgen : ws.getD v.trick 0 = c at *
  have HG := Lib.hid hgen
  clear hgen
  by_cases h1 : c = v.seat
  · have h1' : ((c : Int) == (v.seat : Int)) = true := by rw [beq_iff_eq]; omega
    rw [if_pos h1]
    have hle : wonV ws (v.seat % 2) (v.trick + 1) ≤ len := by unfold wonV; have := hz.length; exact Nat.le_trans List.countP_le_length (by rw [List.length_drop]; omega)
    clear h1
    generalize wonV ws (v.seat % 2) (v.trick + 1) = x at *
    rcases Nat.eq_zero_or_pos x with rfl | hx
    all_goals
      go_enter Try.func54, Try.ntmps54
      go_wp2
      go_quiet (fail)
      go_wp2_with (go_at_call 52; refine (HW1.out _ (HB.out _ _)).mono ?_; rintro e w' ⟨rfl, rfl⟩)
      go_ret
      exact ⟨by first | rfl | (congr 1; simp; omega), HB.out _ _⟩
  · have h1' : ((c : Int) == (v.seat : Int)) = false := by rw [beq_eq_false_iff_ne]; omega
    rw [if_neg h1]
    have hle : wonV ws (v.seat % 2) v.trick ≤ len := by unfold wonV; have := hz.length; exact Nat.le_trans List.countP_le_length (by rw [List.length_drop]; omega)
    clear h1
    generalize wonV ws (v.seat % 2) v.trick = x at *
    rcases Nat.eq_zero_or_pos x with rfl | hx
    all_goals
      go_enter Try.func54, Try.ntmps54
      go_wp2
      go_quiet (fail)
      go_wp2_with (go_at_call 52; refine (HW0.out _ (HB.out _ _)).mono ?_; rintro e w' ⟨rfl, rfl⟩)
      go_ret
      exact ⟨by first | rfl | (congr 1; simp; omega), HB.out _ _⟩
end Go.Proofs.Ytdlnilebnobllaa

/- revoke.sides over this seat's program. -/
namespace Go.Proofs.Ytdlnilebnobllaa
open Go.RowKit Go.Shelf Go.Sort

theorem sideV_succ (l : List Rvk) (s k : Nat) (h : k < l.length) : sideV (l.take (k + 1)) s = (sideV (l.take k) s || (l[k].est && l[k].seat % 2 == s)) := by
  unfold sideV
  rw [List.take_succ_eq_append_getElem h, List.any_append]
  simp
theorem rev_sides (l : List Rvk) (base g len cap : Nat) (w : World) (hl : l.length = len) (hown : OwnV w base (.slice (some ⟨g, 0, none⟩) len cap) l) (hlen : len ≤ 60000) (hg : g < w.heap.size) :
    Calls Try.prog 53 #[.slice (some ⟨g, 0, none⟩) len cap] w fun e w' => e = .returned (.agg #[.bool (sideV l 0), .bool (sideV l 1)]) ∧ Below w.heap.size w w' := by
  have HL := Lib.hid hl
  clear hl
  go_enter Try.func53, Try.ntmps53
  go_wp2
  go_loopw [8] (fun i wr => ∃ k : Nat, k ≤ len ∧ i = .int .i64 (k : Int) ∧ Below w.heap.size w wr ∧ Row wr w.heap.size 52 #[.bool false, .bool false] ∧ Row wr (w.heap.size + 1) 52 #[.bool (sideV (l.take k) 0), .bool (sideV (l.take k) 1)]) (fun i _ => len - (intOf i).toNat)
  case atStart => exact ⟨0, by omega, rfl, ((Below.refl _ _).alloc (Nat.le_refl _) _).alloc (by simp) _, (Row.new _ _ _).alloc _, by have := Row.new (w.alloc (.cells #[.bool false, .bool false] 52)) 52 #[.bool false, .bool false]; simpa [sideV] using this⟩
  case round =>
    obtain ⟨k, hk, rfl, hB, hR, hS⟩ := hrel
    by_cases hlt : k < len
    · have hkl : k < l.length := by rw [HL.out]; exact hlt
      have hsz := hB.size
      have hsl := hS.lt
      obtain ⟨c0, c1, c2, c3, c4⟩ := ownV_cells (hown.below hB) k (List.getElem?_eq_getElem hkl)
      have hs0 := Lib.hid (sideV_succ l 0 k hkl)
      have hs1 := Lib.hid (sideV_succ l 1 k hkl)
      generalize l[k] = x at *
      generalize sideV (l.take k) 0 = a0 at *
      generalize sideV (l.take k) 1 = a1 at *
      have hSa := hS.alloc (.cells #[.int .i64 (x.trick : Int), .int .u8 (x.seat : Int), .int .u8 (x.suit : Int), .int .u8 (x.card : Int), .bool x.est] 50)
      have d0 := hSa.cell (x.seat % 2)
      have f0 := hSa.frozen (x.seat % 2)
      have hs2 : x.seat % 2 = 0 ∨ x.seat % 2 = 1 := by omega
      obtain ⟨y, hy⟩ : ∃ y, #[Value.bool a0, Value.bool a1][x.seat % 2]? = some y := by rcases hs2 with h | h <;> rw [h] <;> exact ⟨_, rfl⟩
      rw [hy] at d0
      have HY := Lib.hid hy
      clear hy hs2
      have hgl : g < wr.heap.size := by omega
      cases he : x.est
      · have HE := Lib.hid he
        rw [he] at c4 hSa d0 f0
        clear he
        go_wp2
        go_roundw
        case rel => exact ⟨k + 1, by omega, by go_num, hB.alloc hsz _, hR.alloc _, by rw [hs0.out, hs1.out, HE.out]; simpa using hS.alloc _⟩
        case measure => simp [intOf]; omega
      · have HE := Lib.hid he
        rw [he] at c4 hSa d0 f0
        clear he
        go_wp2
        go_roundw
        case rel =>
          have hne : w.heap.size ≠ w.heap.size + 1 := by omega
          refine ⟨k + 1, by omega, by go_num, (hB.setCell (by simp) _).alloc (by simpa using hsz) _, (hR.other hne).alloc _, ?_⟩
          have h3 := (hS.set (x.seat % 2) (.bool true)).alloc (.cells #[.int .i64 (x.trick : Int), .int .u8 (x.seat : Int), .int .u8 (x.suit : Int), .int .u8 (x.card : Int), .bool true] 50)
          rw [hs0.out, hs1.out, HE.out]
          have hs2 : x.seat % 2 = 0 ∨ x.seat % 2 = 1 := by omega
          rcases hs2 with h | h <;> rw [h] at h3 ⊢ <;> simpa using h3
        case measure => simp [intOf]; omega
    · have d0 := hS.cell 0
      have d1 := hS.cell 1
      have r0 := hR.cell 0
      have r1 := hR.cell 1
      have f0 := hR.frozen 0
      have f1 := hR.frozen 1
      simp at d0 d1 r0 r1
      obtain rfl : k = len := by omega
      rw [List.take_of_length_le (by rw [HL.out]; exact Nat.le_refl _)] at d0 d1
      go_wp2
      refine bodyPost_ret (v := .agg #[.bool (sideV l 0), .bool (sideV l 1)]) ?_ rfl ⟨rfl, ?_⟩
      · simp [results, Try.results53, go_sem, r0, r1]
      · exact (hB.setCell (by simp) _).setCell (by simp) _
end Go.Proofs.Ytdlnilebnobllaa

/- The map of revoke.count: from pairs of bytes to bool. -/
namespace Go.Proofs.Ytdlnilebnobllaa
open Go.RowKit

theorem key_ok (e : Bool) (a b : Int) (w : World) : (Instr.checkKey e 10000 116 (.agg #[.int .u8 a, .int .u8 b])).run Try.prog w = .ok () w := by
  cases e <;> kernel_rfl
theorem key_now (a b : Int) (w : World) (es : List MapEntry) : ((do Instr.findKey 116 (.agg #[.int .u8 a, .int .u8 b]) es) : Sem _).run Try.prog w = (Instr.findAsking 116 (.agg #[.int .u8 a, .int .u8 b]) es).run Try.prog w := by
  have h : Instr.findNow (.array 2 5) (.agg #[.int .u8 a, .int .u8 b]) es 0 = none ∨ es = [] := by
    cases es with
    | nil => exact .inr rfl
    | cons e es => left; simp [Instr.findNow, Instr.sameNow]
  rcases h with h | rfl
  · simp only [Instr.findKey, Sem.run_bind, run_underlying Try.underlying116, Result.andThen_ok, h]
  · simp only [Instr.findKey, Sem.run_bind, run_underlying Try.underlying116, Result.andThen_ok, Instr.findNow]
    rfl
theorem key_eq (a b c d : Int) (w : World) : (Op.equal 116 (.agg #[.int .u8 a, .int .u8 b]) (.agg #[.int .u8 c, .int .u8 d])).run Try.prog w = .ok (a == c && b == d) w := by
  have e1 : (Op.equalIn 9999 5 (.int .u8 a) (.int .u8 c)).run Try.prog w = .ok (a == c) w := run_equalIn_int w _ _ _ _ _ _ Try.underlying5
  have e2 : (Op.equalIn 9999 5 (.int .u8 b) (.int .u8 d)).run Try.prog w = .ok (b == d) w := run_equalIn_int w _ _ _ _ _ _ Try.underlying5
  have p1 : (part 5 #[.int .u8 a, .int .u8 b] (0 * 1)).run Try.prog w = .ok (.int .u8 a) w := by kernel_rfl
  have p2 : (part 5 #[.int .u8 a, .int .u8 b] (1 * 1)).run Try.prog w = .ok (.int .u8 b) w := by kernel_rfl
  have p3 : (part 5 #[.int .u8 c, .int .u8 d] (0 * 1)).run Try.prog w = .ok (.int .u8 c) w := by kernel_rfl
  have p4 : (part 5 #[.int .u8 c, .int .u8 d] (1 * 1)).run Try.prog w = .ok (.int .u8 d) w := by kernel_rfl
  have s1 : (sizeOf 5).run Try.prog w = .ok 1 w := by kernel_rfl
  show (Op.equalIn (9999 + 1) 116 _ _).run Try.prog w = _
  rw [Op.equalIn]
  simp only [Sem.run_bind, run_underlying Try.underlying116, Result.andThen_ok, s1]
  simp only [Std.Legacy.Range.forIn_eq_forIn_range', Std.Legacy.Range.size]
  simp [List.range', p1, p2, p3, p4, e1, e2]
  by_cases h1 : a = c <;> by_cases h2 : b = d <;> simp [h1, h2]

/-- a key's value -/
abbrev keyV (k : Nat × Nat) : Value := .agg #[.int .u8 (k.1 : Int), .int .u8 (k.2 : Int)]
/-- block B is a map with just these keys, true at each -/
def MapP (W : World) (B : Nat) (ks : List (Nat × Nat)) : Prop := ∃ es clock, W.heap[B]? = some (.map es clock) ∧ es.toList.map (fun e => (e.key, e.val)) = ks.map fun k => (keyV k, Value.bool true)
theorem MapP.lt {W : World} {B : Nat} {ks : List (Nat × Nat)} (h : MapP W B ks) : B < W.heap.size := by
  obtain ⟨es, c, h, _⟩ := h
  exact (Array.getElem?_eq_some_iff.1 h).1
theorem MapP.same {W W' : World} {B : Nat} {ks : List (Nat × Nat)} (h : MapP W B ks) (e : W'.heap[B]? = W.heap[B]?) : MapP W' B ks := by
  obtain ⟨es, c, h, h2⟩ := h
  exact ⟨es, c, e.trans h, h2⟩
theorem MapP.new (W : World) : MapP (W.alloc (.map #[] 0)) W.heap.size [] := ⟨#[], 0, World.alloc_heap_new W _, rfl⟩
theorem ask_map (s u : Nat) (w : World) : ∀ (es : List MapEntry) (ks : List (Nat × Nat)) (i : Nat), es.map (fun e => (e.key, e.val)) = ks.map (fun k => (keyV k, Value.bool true)) →
    ∃ o, (Instr.findAsking 116 (keyV (s, u)) es i).run Try.prog w = .ok o w ∧ ((s, u) ∈ ks → ∃ j, o = some (j, .bool true)) ∧ ((s, u) ∉ ks → o = none)
  | [], ks, i, h => by
    have hk : ks = [] := by simpa using h.symm
    subst hk
    exact ⟨none, rfl, fun h => by simp at h, fun _ => rfl⟩
  | e :: es, [], i, h => by simp at h
  | e :: es, k :: ks, i, h => by
    simp only [List.map_cons, List.cons.injEq, Prod.mk.injEq] at h
    obtain ⟨⟨h1, h2⟩, h3⟩ := h
    simp only [Instr.findAsking, Sem.run_bind, h1]
    rw [key_eq]
    simp only [Result.andThen_ok]
    by_cases hk : (s, u) = k
    · subst hk
      simp only [beq_self_eq_true, Bool.and_self, if_true]
      exact ⟨_, rfl, fun _ => ⟨i, by rw [h2]⟩, fun h => absurd (by simp) h⟩
    · have hb : (((s : Int) == (k.1 : Int)) && ((u : Int) == (k.2 : Int))) = false := by
        rw [Bool.and_eq_false_iff, beq_eq_false_iff_ne, beq_eq_false_iff_ne]
        by_cases h4 : s = k.1
        · right; intro h5; exact hk (Prod.ext h4 (by show u = k.2; omega))
        · left; omega
      rw [hb]
      obtain ⟨o, h4, h5, h6⟩ := ask_map s u w es ks (i + 1) h3
      refine ⟨o, by simpa using h4, fun h => ?_, fun h => ?_⟩
      · rcases List.mem_cons.1 h with h | h
        · exact absurd h hk
        · exact h5 h
      · exact h6 (fun h' => h (List.mem_cons_of_mem _ h'))
theorem map_look {W : World} {B : Nat} {ks : List (Nat × Nat)} (h : MapP W B ks) (s u : Nat) : (Instr.lookup 115 (.map (some B)) (keyV (s, u)) false).run Try.prog W = .ok (.bool (decide ((s, u) ∈ ks))) W := by
  obtain ⟨es, c, hb, he⟩ := h
  obtain ⟨o, h1, h2, h3⟩ := ask_map s u W es.toList ks 0 he
  simp only [Instr.lookup, Sem.run_bind, run_underlying Try.underlying115, Result.andThen_ok]
  have hg : (getObj B).run Try.prog W = .ok (.map es c) W := by simp [getObj, Sem.run, hb]
  have hf : (Instr.findKey 116 (keyV (s, u)) es.toList).run Try.prog W = .ok o W := (key_now _ _ _ _).trans h1
  have hz : (zeroValue 4).run Try.prog W = .ok (.bool false) W := by kernel_rfl
  simp only [hg, Result.andThen_ok, Sem.run_bind, Sem.run_pure, key_ok, hf]
  by_cases hm : (s, u) ∈ ks
  · obtain ⟨j, rfl⟩ := h2 hm
    simp [hm]
  · rw [h3 hm]
    simp [hm, hz]
theorem map_put {W : World} {B : Nat} {ks : List (Nat × Nat)} (h : MapP W B ks) (s u : Nat) (hn : (s, u) ∉ ks) : ∃ o, (Instr.mapUpdate 115 (.map (some B)) (keyV (s, u)) (.bool true)).run Try.prog W = .ok () (W.putObj B o) ∧ MapP (W.putObj B o) B (ks ++ [(s, u)]) := by
  obtain ⟨es, c, hb, he⟩ := h
  obtain ⟨o, h1, h2, h3⟩ := ask_map s u W es.toList ks 0 he
  have ho := h3 hn
  subst ho
  simp only [Instr.mapUpdate, Sem.run_bind, run_underlying Try.underlying115, Result.andThen_ok]
  have hg : (getObj B).run Try.prog W = .ok (.map es c) W := by simp [getObj, Sem.run, hb]
  have hf : (Instr.findKey 116 (keyV (s, u)) es.toList).run Try.prog W = .ok none W := (key_now _ _ _ _).trans h1
  simp only [hg, Result.andThen_ok, Sem.run_bind, key_ok, hf]
  refine ⟨.map (es.push { key := keyV (s, u), val := .bool true, born := c }) (c + 1), by simp [setObj, Sem.run, hb, World.putObj], es.push { key := keyV (s, u), val := .bool true, born := c }, c + 1, World.putObj_heap_same (Array.getElem?_eq_some_iff.1 hb).1, ?_⟩
  simp [he]
theorem map_len {W : World} {B : Nat} {ks : List (Nat × Nat)} (h : MapP W B ks) : (Builtin.len_ #[115] 3 #[.map (some B)]).run Try.prog W = .ok (.int .i64 (ks.length : Int)) W := by
  obtain ⟨es, c, hb, he⟩ := h
  have hl : es.size = ks.length := by have := congrArg List.length he; simpa using this
  have hg : (getObj B).run Try.prog W = .ok (.map es c) W := by simp [getObj, Sem.run, hb]
  simp [Builtin.len_, Sem.run_bind, run_underlying Try.underlying115, hg, hl]
  rfl
end Go.Proofs.Ytdlnilebnobllaa
