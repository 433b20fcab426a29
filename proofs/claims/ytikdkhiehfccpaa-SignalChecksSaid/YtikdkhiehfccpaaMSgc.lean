/- SgCh, SgCk in one text. -/
import Derived.Test.YtikdkhiehfccpaaMRmg
import Derived.Test.YtikdkhiehfccpaaMRmi
import Derived.Test.YtikdkhiehfccpaaSgTe

/- SignalChecks: the body. -/
namespace Go.Proofs.Ytikdkhiehfccpaa
open Go.RowKit Go.Sort Go.Shelf Cnt

theorem rm_Check_no (left : Nat) (n : Int) (a : Option Addr) (la ca : Nat) (ls : List Rl) (b : Option Addr) (lb cb : Nat) (cs : List Cm) (w : World) (ha : Rls w a la ls) (hla : la ≤ 1000) (hb : Cms w b lb cs) (hno : ckOk left n ls cs = false) :
    Calls Try.prog 15 #[.int .u64 (left : Int), .int .i64 n, .slice a la ca, .slice b lb cb] w fun e w' => e = .returned (.tuple #[.slice none 0 0, .int .i64 2]) ∧ Below w.heap.size w w' := by
  have HA := Lib.hid ha
  have HC := Lib.hid hb
  clear ha hb
  go_enter Try.func15, Try.ntmps15
  go_wp2_with fail
  refine (rm_right left n a la ca ls _ HA.out hla).mono ?_
  rintro e w1 ⟨rfl, hb1⟩
  have HB1 := Lib.hid hb1
  clear hb1
  cases hl : lgOk left n ls
  · go_wp2_with fail
    go_ret2
    exact ⟨rfl, HB1.out⟩
  · have HN : Hid (annV cs = false) := Lib.hid (by unfold ckOk at hno; rw [hl] at hno; simpa using hno)
    go_wp2_with fail
    refine (rm_Announced b lb cb cs _ (HC.out.below (Nat.le_refl _) HB1.out)).mono ?_
    rintro e w2 ⟨rfl, hb2⟩
    rw [HN.out]
    have HB2 := Lib.hid (HB1.out.trans (hb2.mono HB1.out.size))
    clear hb2
    go_wp2_with fail
    go_ret2
    exact ⟨rfl, HB2.out⟩
theorem rm_CheckV (left : Nat) (n : Int) (a : Option Addr) (la ca : Nat) (ls : List Rl) (b : Option Addr) (lb cb : Nat) (cs : List Cm) (w : World) (ha : Rls w a la ls) (hla : la ≤ 1000) (hb : Cms w b lb cs) :
    Calls Try.prog 15 #[.int .u64 (left : Int), .int .i64 n, .slice a la ca, .slice b lb cb] w fun e w' =>
      (∃ v, e = .returned (.tuple #[v, .int .i64 (okE (ckOk left n ls cs))]) ∧ OwnFr w' w.heap.size v (ckL left n ls cs)) ∧ Below w.heap.size w w' := by
  unfold ckL
  cases h : ckOk left n ls cs
  · refine (rm_Check_no left n a la ca ls b lb cb cs w ha hla hb h).mono ?_
    rintro e w' ⟨rfl, hb⟩
    exact ⟨⟨_, rfl, Owns.nil encF_len _ _⟩, hb⟩
  · obtain ⟨nn, rfl, h1, h2, h3⟩ := lg_parts (Bool.and_eq_true_iff.1 h).1
    exact rm_Check_yes left nn h2 h1 a la ca ls b lb cb cs w ha hla (Bool.and_eq_true_iff.1 h).1 hb (Bool.and_eq_true_iff.1 h).2
theorem fl_eq (x : Fl) (w : World) : Sem.run Try.prog (Op.equalIn 10000 45 (.agg #[.int .i64 x.c, .int .i64 x.s, .int .u8 (x.k : Int), .int .i64 x.h]) (.agg #[.int .i64 x.c, .int .i64 x.s, .int .u8 (x.k : Int), .int .i64 x.h])) w = .ok true w := by
  rw [run_equalIn_struct (P := Try.prog) w 9999 _ _ _ (by kernel_rfl) (by kernel_rfl)]
  have hU := Try.underlying45
  simp only [Program.fieldsOf, hU]
  have p0 : Sem.run Try.prog (part 3 #[.int .i64 x.c, .int .i64 x.s, .int .u8 (x.k : Int), .int .i64 x.h] 0) w = .ok (.int .i64 x.c) w := by kernel_rfl
  have p1 : Sem.run Try.prog (part 3 #[.int .i64 x.c, .int .i64 x.s, .int .u8 (x.k : Int), .int .i64 x.h] 1) w = .ok (.int .i64 x.s) w := by kernel_rfl
  have p2 : Sem.run Try.prog (part 5 #[.int .i64 x.c, .int .i64 x.s, .int .u8 (x.k : Int), .int .i64 x.h] 2) w = .ok (.int .u8 (x.k : Int)) w := by kernel_rfl
  have p3 : Sem.run Try.prog (part 3 #[.int .i64 x.c, .int .i64 x.s, .int .u8 (x.k : Int), .int .i64 x.h] 3) w = .ok (.int .i64 x.h) w := by kernel_rfl
  have he := fun z => run_equalIn_int (P := Try.prog) w 9998 3 .i64 .i64 z z Try.underlying3
  have he8 := fun z => run_equalIn_int (P := Try.prog) w 9998 5 .u8 .u8 z z Try.underlying5
  simp only [beq_self_eq_true] at he he8
  simp [Op.eqFields, p0, p1, p2, p3, he, he8]
theorem flr_at {w : World} {base g n cap : Nat} {fs : List Fl} (h : OwnFr w base (.slice (some ⟨g, 0, none⟩) n cap) fs) {k : Nat} {x : Fl} (hx : fs[k]? = some x) : w.cell? ⟨g, k * 4, none⟩ = some (.int .i64 x.c) ∧ w.cell? ⟨g, k * 4 + 1, none⟩ = some (.int .i64 x.s) ∧ w.cell? ⟨g, k * 4 + 2, none⟩ = some (.int .u8 (x.k : Int)) ∧ w.cell? ⟨g, k * 4 + 3, none⟩ = some (.int .i64 x.h) :=
  ⟨h.cell k 0 (by decide) hx, h.cell k 1 (by decide) hx, h.cell k 2 (by decide) hx, h.cell k 3 (by decide) hx⟩
theorem ck_len (left : Nat) (n : Int) (ls : List Rl) (cs : List Cm) : (ckL left n ls cs).length ≤ 100 := by
  unfold ckL
  split
  · rename_i h
    have h1 := (Bool.and_eq_true_iff.1 (Bool.and_eq_true_iff.1 h).2).1
    have h2 : cs.length ≤ 20 := of_decide_eq_true h1
    unfold checkL
    rw [List.length_append]
    have h3 := to_len (fAt (cnV left n ls) (fun c => gvC (deck left) n.toNat (fitP c.rs) ls c.s) (cntF (deck left) n.toNat QT) cs) 3 (fAt_len _ _ _ _) cs.length
    have h4 := to_len (fS (cnV left n ls) (knOf cs)) 1 (fS_len _ _) 10
    omega
  · exact Nat.zero_le _
/-- the k-th claim, in this world and later ones -/
theorem Cms.atB {w : World} {a : Option Addr} {len : Nat} {cs : List Cm} (h : Cms w a len cs) {k : Nat} (hk : k < len) :
    ∃ b off x ai ci, a = some ⟨b, off, none⟩ ∧ cs[k]? = some x ∧ ∀ w', Below w.heap.size w w' → w'.cell? ⟨b, off + k * 4, none⟩ = some (.int .i64 x.s) ∧ w'.cell? ⟨b, off + k * 4 + 1, none⟩ = some (.int .i64 x.lo) ∧ w'.cell? ⟨b, off + k * 4 + 2, none⟩ = some (.int .i64 x.hi) ∧ w'.cell? ⟨b, off + k * 4 + 3, none⟩ = some (.slice ai x.rs.length ci) ∧ RgC w' ai ci x.rs := by
  rcases h.cells with h0 | ⟨b, off, ha, hlt, hc⟩
  · omega
  · have hx : cs[k]? = some (cs[k]'(by have := h.length; omega)) := List.getElem?_eq_getElem _
    obtain ⟨ai, ci, h1, h2, h3, h4, h5⟩ := hc k _ hx
    have q : ∀ {w'}, Below w.heap.size w w' → ∀ o, w'.cell? ⟨b, o, none⟩ = w.cell? ⟨b, o, none⟩ := fun hb o => hb.cell (p := ⟨b, _, none⟩) hlt
    exact ⟨b, off, _, ai, ci, ha, hx, fun w' hb => ⟨(q hb _).trans h1, (q hb _).trans h2, (q hb _).trans h3, (q hb _).trans h4, h5.below hb⟩⟩
end Go.Proofs.Ytikdkhiehfccpaa

/- SignalChecks: the law. -/
namespace Go.Proofs.Ytikdkhiehfccpaa
open Go.RowKit Go.Sort Go.Shelf Cnt

set_option maxHeartbeats 8000000 in
set_option maxRecDepth 10000 in
theorem law_SignalChecks (left : Nat) (n : Int) (a : Option Addr) (la ca : Nat) (ls : List Rl) (b : Option Addr) (lb cb : Nat) (cs : List Cm) (w : World)
    (hleft : W64 left) (_ : -9223372036854775808 ≤ n ∧ n ≤ 9223372036854775807) (ha : Rls w a la ls) (_ : la ≤ ca) (hb : Cms w b lb cs) (_ : lb ≤ cb) :
    Calls Try.prog 3 #[.int .u64 (left : Int), .int .i64 n, .slice a la ca, .slice b lb cb] w fun e w' => e = .returned (.bool true) ∧ Below w.heap.size w w' := by
  have HA := Lib.hid ha
  have HC := Lib.hid hb
  have HL := Lib.hid hleft
  have HLn := Lib.hid ha.length
  have HCn := Lib.hid hb.length
  have hsb := hb.small
  clear ha hb hleft
  go_enter Try.func3, Try.ntmps3
  go_wp2_with fail
  refine (law41_few a la ca ls _ HA.out).mono ?_
  rintro e w1 ⟨rfl, hb1⟩
  have HB1 := Lib.hid hb1
  have HA1 := Lib.hid (HA.out.below (Nat.le_refl _) hb1)
  have HC1 := Lib.hid (HC.out.below (Nat.le_refl _) hb1)
  clear hb1 HA HC
  cases hf : fewV ls
  · go_wp2_with fail
    refine (law41_awake _).mono ?_
    rintro e w2 ⟨rfl, hb2⟩
    have HB2 := Lib.hid (HB1.out.trans (hb2.mono HB1.out.size))
    clear hb2
    go_wp2_with fail
    go_ret
    exact ⟨rfl, HB2.out⟩
  by_cases h25 : 25 < lb
  · have hd : decide ((25 : Int) < (lb : Int)) = true := by simp; omega
    go_wp2_with fail
    refine (law41_awake _).mono ?_
    rintro e w2 ⟨rfl, hb2⟩
    have HB2 := Lib.hid (HB1.out.trans (hb2.mono HB1.out.size))
    clear hb2
    go_wp2_with fail
    go_ret
    exact ⟨rfl, HB2.out⟩
  have hd : decide ((25 : Int) < (lb : Int)) = false := by simp; omega
  have HF := Lib.hid (few_len hf)
  have hla : la ≤ 25 := by have := HF.out.1; have := HLn.out; omega
  clear hf
  have hlb : lb ≤ 25 := by omega
  go_wp2_with fail
  clear hd h25
  go_loopw [10, 32] (fun _ i wr => ∃ (k : Nat), k ≤ lb ∧ i = .int .i64 (k : Int) ∧ (∀ x ∈ cs.take k, x.rs.length ≤ 25) ∧ Below w1.heap.size w1 wr) (fun _ i _ => lb - (intOf i).toNat)
  case atStart => exact ⟨0, by omega, rfl, (by simp), Below.refl _ _⟩
  case round =>
    obtain ⟨k, hk, rfl, h25, hB⟩ := hrel
    by_cases hlt : k < lb
    · obtain ⟨b3, off, x, ai, ci, rfl, hx, c0, c1, c2, c3, hR⟩ := (HC1.out.below (Nat.le_refl _) hB).at hlt
      have hd : decide ((k : Int) < (lb : Int)) = true := by simp; omega
      have hsl := hR.rgs.small
      have hw : Below wr.heap.size wr (wr.alloc (.cells (x.arr ai ci) 29)) := (Below.refl _ _).alloc (Nat.le_refl _) _
      have HB2 := Lib.hid (hB.trans (hw.mono hB.size))
      have HNX : Hid (∀ m, x.rs.length = m → m ≤ 25 → ∀ y ∈ cs.take (k + 1), y.rs.length ≤ 25) := Lib.hid fun m e h y hy => by
        rw [take_snoc hx] at hy
        rcases List.mem_append.1 hy with hy | hy
        · exact h25 y hy
        · rcases List.mem_singleton.1 hy with rfl; omega
      clear hx hR hw hB h25
      obtain ⟨m, hm⟩ : ∃ m, x.rs.length = m := ⟨_, rfl⟩
      have HNX := Lib.hid (HNX.out m hm)
      have hww : Hid (x.arr ai ci = #[.int .i64 x.s, .int .i64 x.lo, .int .i64 x.hi, .slice ai m ci]) := Lib.hid (by unfold Cm.arr; rw [hm])
      rw [hww.out] at HB2
      rw [hm] at c3 hsl
      clear hm
      by_cases hm25 : 25 < m
      · have hd2 : decide ((25 : Int) < (m : Int)) = true := by simp; omega
        go_wp2_with fail
        refine (law41_awake _).mono ?_
        rintro e w2 ⟨rfl, hb2⟩
        have HB3 := Lib.hid (HB2.out.trans (hb2.mono HB2.out.size))
        clear hb2
        go_wp2_with fail
        go_ret
        exact ⟨rfl, HB1.out.trans (HB3.out.mono HB1.out.size)⟩
      · have hd2 : decide ((25 : Int) < (m : Int)) = false := by simp; omega
        have HN2 := Lib.hid (HNX.out (by omega))
        clear HNX
        go_wp2_with fail
        exact ⟨⟨k + 1, by omega, by simp, HN2.out, HB2.out⟩, by simp [intOf]; omega⟩
    · obtain rfl : k = lb := by omega
      have hd : decide ((k : Int) < (k : Int)) = false := by simp
      have H25 : Hid (∀ x ∈ cs, x.rs.length ≤ 25) := Lib.hid (by rw [List.take_of_length_le (by have := HCn.out; omega)] at h25; exact h25)
      have HB2 := Lib.hid (HB1.out.trans (hB.mono HB1.out.size))
      have HA2 := Lib.hid (HA1.out.below (Nat.le_refl _) hB)
      have HC2 := Lib.hid (HC1.out.below (Nat.le_refl _) hB)
      clear hB h25 HB1 HA1 HC1
      go_wp2_with fail
      refine (law41_rules a la ca ls _ HA2.out (by omega) HF.out.2).mono ?_
      rintro e w3 ⟨⟨v, ps, rfl, hO, hps⟩, hb3⟩
      have hpl : ps.length = la := by
        have := congrArg List.length hps
        unfold Kd.of at this
        rw [List.length_map] at this
        exact this.trans HLn.out
      obtain ⟨a9, c9, rfl, hR, -, -⟩ := hO.rls hps (by omega)
      rw [HLn.out] at hR ⊢
      have HB3 := Lib.hid (HB2.out.trans (hb3.mono HB2.out.size))
      have HA3 := Lib.hid (HA2.out.below (Nat.le_refl _) hb3)
      have HC3 := Lib.hid (HC2.out.below (Nat.le_refl _) hb3)
      have HR3 := Lib.hid hR
      clear hO hps hpl hb3 hR HA2 HC2 HB2
      go_wp2_with fail
      refine (law41_claimed b k cb cs _ HC3.out (by omega) H25.out).mono ?_
      rintro e w4 ⟨⟨v, ps, rfl, hO, hps⟩, hb4⟩
      have hpl : ps.length = k := by
        have := congrArg List.length hps
        unfold Kd.of at this
        rw [List.length_map] at this
        exact this.trans HCn.out
      obtain ⟨a8, c8, rfl, hS, -, -⟩ := hO.cms hps (by omega)
      rw [HCn.out] at hS ⊢
      have HB4 := Lib.hid (HB3.out.trans (hb4.mono HB3.out.size))
      have HA4 := Lib.hid (HA3.out.below (Nat.le_refl _) hb4)
      have HC4 := Lib.hid (HC3.out.below (Nat.le_refl _) hb4)
      have HR4 := Lib.hid (HR3.out.below (Nat.le_refl _) hb4)
      have HS4 := Lib.hid hS
      clear hO hps hpl hb4 hS HA3 HC3 HB3 HR3
      go_wp2_with fail
      refine (sg_CheckV left n a la ca ls b k cb cs HL.out _ HA4.out HC4.out).mono ?_
      rintro e w5 ⟨⟨v5, rfl, hv5⟩, hb5⟩
      have HCK := Lib.hid (ck_len left n ls cs)
      obtain ⟨a5, c5, rfl, hn5⟩ := hv5.slice
      have HB5 := Lib.hid (HB4.out.trans (hb5.mono HB4.out.size))
      have HA5 := Lib.hid (HA4.out.below (Nat.le_refl _) hb5)
      have HC5 := Lib.hid (HC4.out.below (Nat.le_refl _) hb5)
      have HR5 := Lib.hid (HR4.out.below (Nat.le_refl _) hb5)
      have HS5 := Lib.hid (HS4.out.below (Nat.le_refl _) hb5)
      have HV5 := Lib.hid hv5
      have HN5 := Lib.hid hn5
      clear hb5 hv5 hn5 HA4 HC4 HB4 HR4 HS4
      go_wp2_with fail
      refine (rm_CheckV left n a9 la c9 ls a8 k c8 cs _ HR5.out (by omega) HS5.out).mono ?_
      rintro e w6 ⟨⟨v6, rfl, hv6⟩, hb6⟩
      obtain ⟨a6, c6, rfl, hn6⟩ := hv6.slice
      have HB6 := Lib.hid (HB5.out.trans (hb6.mono HB5.out.size))
      have HA6 := Lib.hid (HA5.out.below (Nat.le_refl _) hb6)
      have HC6 := Lib.hid (HC5.out.below (Nat.le_refl _) hb6)
      have HR6 := Lib.hid (HR5.out.below (Nat.le_refl _) hb6)
      have HS6 := Lib.hid (HS5.out.below (Nat.le_refl _) hb6)
      have HV6 := Lib.hid (HV5.out.below hb6)
      have HU6 := Lib.hid hv6
      have HN6 := Lib.hid hn6
      clear hb6 hv6 hn6 HA5 HC5 HB5 HR5 HS5 HV5
      obtain ⟨fs, HFS⟩ : ∃ f, Hid (ckL left n ls cs = f) := ⟨_, Lib.hid rfl⟩
      rw [HFS.out] at HCK HV6 HU6 HN5 HN6
      rw [HFS.out]
      obtain ⟨m, HM⟩ : ∃ m, Hid (fs.length = m) := ⟨_, Lib.hid rfl⟩
      rw [HM.out] at HCK HV6 HU6
      rw [HM.out]
      obtain ⟨eo, HE⟩ : ∃ m, Hid (okE (ckOk left n ls cs) = m) := ⟨_, Lib.hid rfl⟩
      rw [HE.out]
      clear HE HFS
      have he : (eo != eo) = false := by simp
      have hmm : ((m : Int) != (m : Int)) = false := by simp
      have hm100 := HCK.out
      go_wp2_with fail
      refine (sg_Announced b k cb cs _ HC6.out).mono ?_
      rintro e w7 ⟨rfl, hb7⟩
      have HB7 := Lib.hid (HB6.out.trans (hb7.mono HB6.out.size))
      have HA7 := Lib.hid (HA6.out.below (Nat.le_refl _) hb7)
      have HC7 := Lib.hid (HC6.out.below (Nat.le_refl _) hb7)
      have HR7 := Lib.hid (HR6.out.below (Nat.le_refl _) hb7)
      have HS7 := Lib.hid (HS6.out.below (Nat.le_refl _) hb7)
      have HV7 := Lib.hid (HV6.out.below hb7)
      have HU7 := Lib.hid (HU6.out.below hb7)
      clear hb7 HA6 HC6 HB6 HR6 HS6 HV6 HU6
      obtain ⟨q, HQ⟩ : ∃ m, Hid (annV cs = m) := ⟨_, Lib.hid rfl⟩
      have hq : (q != q) = false := by simp
      rw [HQ.out]
      go_wp2_with fail
      refine (rm_Announced a8 k c8 cs _ HS7.out).mono ?_
      rintro e w8 ⟨rfl, hb8⟩
      rw [HQ.out]
      have HB8 := Lib.hid (HB7.out.trans (hb8.mono HB7.out.size))
      have HA8 := Lib.hid (HA7.out.below (Nat.le_refl _) hb8)
      have HC8 := Lib.hid (HC7.out.below (Nat.le_refl _) hb8)
      have HR8 := Lib.hid (HR7.out.below (Nat.le_refl _) hb8)
      have HS8 := Lib.hid (HS7.out.below (Nat.le_refl _) hb8)
      have HV8 := Lib.hid (HV7.out.below hb8)
      have HU8 := Lib.hid (HU7.out.below hb8)
      clear hb8 HA7 HC7 HB7 HR7 HS7 HV7 HU7 HQ
      go_wp2_with fail
      refine (law41_kept a la ca ls a9 c9 _ HA8.out (by omega) HF.out.2 HR8.out).mono ?_
      rintro e w9 ⟨rfl, hb9⟩
      have HB9 := Lib.hid (HB8.out.trans (hb9.mono HB8.out.size))
      have HC9 := Lib.hid (HC8.out.below (Nat.le_refl _) hb9)
      have HS9 := Lib.hid (HS8.out.below (Nat.le_refl _) hb9)
      have HV9 := Lib.hid (HV8.out.below hb9)
      have HU9 := Lib.hid (HU8.out.below hb9)
      clear hb9 HA8 HC8 HB8 HR8 HS8 HV8 HU8 he hmm hq
      go_wp2_with fail
      go_loopw [17, 87] (fun _ i wr => ∃ (j : Nat), j ≤ m ∧ i = .int .i64 (j : Int) ∧ Below w9.heap.size w9 wr) (fun _ i _ => m - (intOf i).toNat)
      case atStart => exact ⟨0, by omega, rfl, Below.refl _ _⟩
      case round =>
        obtain ⟨j, hj, rfl, hB⟩ := hrel
        by_cases hlj : j < m
        · obtain ⟨x, hx⟩ : ∃ x, fs[j]? = some x := ⟨_, List.getElem?_eq_getElem (by have := HM.out; omega)⟩
          have hne : fs ≠ [] := by intro h; rw [h] at hx; cases hx
          obtain ⟨g5, rfl⟩ := HN5.out hne
          obtain ⟨g6, rfl⟩ := HN6.out hne
          obtain ⟨c0, c1, c2, c3⟩ := fl_at (HV9.out.below hB) hx
          obtain ⟨e0, e1, e2, e3⟩ := flr_at (HU9.out.below hB) hx
          have hdj : decide ((j : Int) < (m : Int)) = true := by simp; omega
          have hji : (j : Int) < (m : Int) := by omega
          have HEQ := fun w' => fl_eq x w'
          have HBr := Lib.hid hB
          clear hB hx hne
          obtain ⟨xc, xs, xk, xh⟩ := x
          have f0 := fun dd os => cell_regrown c0 dd os
          have f1 := fun dd os => cell_regrown c1 dd os
          have f2 := fun dd os => cell_regrown c2 dd os
          have f3 := fun dd os => cell_regrown c3 dd os
          have p0 := fun dd os => cell_regrown e0 dd os
          have p1 := fun dd os => cell_regrown e1 dd os
          have p2 := fun dd os => cell_regrown e2 dd os
          have p3 := fun dd os => cell_regrown e3 dd os
          go_wp2_with fail
          refine wp_region_quiet_below (by kernel_rfl) (by kernel_rfl) ?_
          repeat (first | go_big_quiet_step (fail) | quiet_step (fail))
          refine wpQuiet_nil ?_
          rintro _ ⟨q, rfl⟩
          have HB2 := Lib.hid (HBr.out.trans ((below_regrown wr q.d q.os).mono HBr.out.size))
          clear c0 c1 c2 c3 e0 e1 e2 e3 f0 f1 f2 f3 p0 p1 p2 p3
          generalize grow (redrawn wr q.d) q.os = wa at *
          go_wp2_with fail
          exact ⟨⟨j + 1, by omega, by simp, HB2.out⟩, by simp [intOf]; omega⟩
        · obtain rfl : j = m := by omega
          have hdj : decide ((j : Int) < (j : Int)) = false := by simp
          have HB10 := Lib.hid (HB9.out.trans (hB.mono HB9.out.size))
          have HC10 := Lib.hid (HC9.out.below (Nat.le_refl _) hB)
          have HS10 := Lib.hid (HS9.out.below (Nat.le_refl _) hB)
          clear hB HB9 HC9 HS9 HV9 HU9
          go_wp2_with fail
          refine (law41_claimed b k cb cs _ HC10.out (by omega) H25.out).mono ?_
          rintro e w11 ⟨⟨v, ps, rfl, hO, hps⟩, hb11⟩
          have hpl : ps.length = k := by
            have := congrArg List.length hps
            unfold Kd.of at this
            rw [List.length_map] at this
            exact this.trans HCn.out
          obtain ⟨a7, c7, rfl, hS, -, -⟩ := hO.cms hps (by omega)
          rw [HCn.out] at hS ⊢
          have HB11 := Lib.hid (HB10.out.trans (hb11.mono HB10.out.size))
          have HS11 := Lib.hid (HS10.out.below (Nat.le_refl _) hb11)
          have HD11 := Lib.hid hS
          clear hO hps hpl hb11 hS HB10 HC10 HS10
          go_wp2_with fail
          go_loopw [18, 19, 20, 103] (fun _ _ _ i wr => ∃ (j : Nat), j ≤ k ∧ i = .int .i64 (j : Int) ∧ Below w11.heap.size w11 wr) (fun _ _ _ i _ => k - (intOf i).toNat)
          case atStart => exact ⟨0, by omega, rfl, Below.refl _ _⟩
          case round =>
            obtain ⟨l, hl, rfl, hB⟩ := hrel
            by_cases hlt : l < k
            · obtain ⟨b9, off9, x, a1, c1, rfl, hx, P⟩ := HD11.out.atB hlt
              obtain ⟨bb, offb, x', a2, c2, rfl, hx', Q⟩ := HS11.out.atB hlt
              obtain rfl : x = x' := by rw [hx] at hx'; exact Option.some.inj hx'
              have hd : decide ((l : Int) < (k : Int)) = true := by simp; omega
              have hki : (l : Int) < (k : Int) := by omega
              have hsl := (P _ (Below.refl _ _)).2.2.2.2.rgs.small
              have HP := Lib.hid P
              have HQ := Lib.hid Q
              have hw : Below wr.heap.size wr (wr.alloc (.cells #[.int .i64 x.s, .int .i64 x.lo, .int .i64 x.hi, .slice a1 x.rs.length c1] 49)) := (Below.refl _ _).alloc (Nat.le_refl _) _
              have HRW := Lib.hid (Row.new wr 49 #[.int .i64 x.s, .int .i64 x.lo, .int .i64 x.hi, .slice a1 x.rs.length c1])
              have HB2 := Lib.hid (hB.trans (hw.mono hB.size))
              obtain ⟨p0, p1, p2, p3, -⟩ := P wr hB
              clear hx hx' P Q hw hB
              go_upto_region 23 with fail
              clear p0 p1 p2 p3
              generalize (wr.alloc (.cells #[.int .i64 x.s, .int .i64 x.lo, .int .i64 x.hi, .slice a1 x.rs.length c1] 49)) = W2 at *
              generalize wr.heap.size = bx at *
              obtain ⟨q0, q1, q2, q3, -⟩ := HQ.out W2 HB2.out
              have r0 := HRW.out.cell 0
              have r1 := HRW.out.cell 1
              have r2 := HRW.out.cell 2
              have r3 := HRW.out.cell 3
              simp only [List.getElem?_toArray, List.getElem?_cons_zero, List.getElem?_cons_succ] at r0 r1 r2 r3
              have f0 := fun dd os => cell_regrown q0 dd os
              have f1 := fun dd os => cell_regrown q1 dd os
              have f2 := fun dd os => cell_regrown q2 dd os
              have f3 := fun dd os => cell_regrown q3 dd os
              have g0 := fun dd os => cell_regrown r0 dd os
              have g1 := fun dd os => cell_regrown r1 dd os
              have g2 := fun dd os => cell_regrown r2 dd os
              have g3 := fun dd os => cell_regrown r3 dd os
              have hs : (x.s != x.s) = false := by simp
              have hlo : (x.lo != x.lo) = false := by simp
              have hhi : (x.hi != x.hi) = false := by simp
              have hm : ((x.rs.length : Int) != (x.rs.length : Int)) = false := by simp
              refine wp_region_quiet_below (by kernel_rfl) (by kernel_rfl) ?_
              repeat (first | go_big_quiet_step (fail) | quiet_step (fail))
              refine wpQuiet_nil ?_
              rintro _ ⟨q, rfl⟩
              have hb := below_regrown W2 q.d q.os
              have HB3 := Lib.hid (HB2.out.trans (hb.mono HB2.out.size))
              have HRW3 := Lib.hid (HRW.out.later hb)
              generalize grow (redrawn W2 q.d) q.os = W3 at *
              clear hb q0 q1 q2 q3 r0 r1 r2 r3 f0 f1 f2 f3 g0 g1 g2 g3 HB2 HRW
              have r3 := HRW3.out.cell 3
              simp only [List.getElem?_toArray, List.getElem?_cons_zero, List.getElem?_cons_succ] at r3
              go_wp2_with fail
              go_loopw [20, 151] (fun _ i wr => ∃ (j : Nat), j ≤ x.rs.length ∧ i = .int .i64 (j : Int) ∧ Below W3.heap.size W3 wr) (fun _ i _ => x.rs.length - (intOf i).toNat)
              case atStart => exact ⟨0, by omega, rfl, Below.refl _ _⟩
              case round =>
                clear r3
                obtain ⟨j, hj, rfl, hB⟩ := hrel
                have HB4 := Lib.hid (HB3.out.trans (hB.mono HB3.out.size))
                have HB := Lib.hid hB
                clear hB
                by_cases hlj : j < x.rs.length
                · have hdj : decide ((j : Int) < (x.rs.length : Int)) = true := by simp; omega
                  have hji : (j : Int) < (x.rs.length : Int) := by omega
                  have r0 := (HRW3.out.later HB.out).cell 3
                  simp only [List.getElem?_toArray, List.getElem?_cons_zero, List.getElem?_cons_succ] at r0
                  obtain ⟨-, -, -, q0, HY⟩ := HQ.out _ HB4.out
                  obtain ⟨-, -, -, -, HX⟩ := HP.out _ HB4.out
                  obtain ⟨ba, offa, r, rfl, hbl, hr, c0, c1, c2, c3, c4, c5, c6, c7, c8, c9⟩ := HX.rgs.ten hlj
                  obtain ⟨bd, offd, r', rfl, hbl', hr', e0, e1, e2, e3, e4, e5, e6, e7, e8, e9⟩ := HY.rgs.ten hlj
                  obtain rfl : r = r' := by rw [hr] at hr'; exact Option.some.inj hr'
                  have f0 := fun dd os => cell_regrown c0 dd os
                  have f1 := fun dd os => cell_regrown c1 dd os
                  have f2 := fun dd os => cell_regrown c2 dd os
                  have f3 := fun dd os => cell_regrown c3 dd os
                  have f4 := fun dd os => cell_regrown c4 dd os
                  have f5 := fun dd os => cell_regrown c5 dd os
                  have f6 := fun dd os => cell_regrown c6 dd os
                  have f7 := fun dd os => cell_regrown c7 dd os
                  have f8 := fun dd os => cell_regrown c8 dd os
                  have f9 := fun dd os => cell_regrown c9 dd os
                  have g0 := fun dd os => cell_regrown e0 dd os
                  have g1 := fun dd os => cell_regrown e1 dd os
                  have g2 := fun dd os => cell_regrown e2 dd os
                  have g3 := fun dd os => cell_regrown e3 dd os
                  have g4 := fun dd os => cell_regrown e4 dd os
                  have g5 := fun dd os => cell_regrown e5 dd os
                  have g6 := fun dd os => cell_regrown e6 dd os
                  have g7 := fun dd os => cell_regrown e7 dd os
                  have g8 := fun dd os => cell_regrown e8 dd os
                  have g9 := fun dd os => cell_regrown e9 dd os
                  have k0 := fun dd os => cell_regrown r0 dd os
                  have k1 := fun dd os => cell_regrown q0 dd os
                  have HEQ := fun w' => rt_eq r w'
                  clear hr hr' HX HY
                  go_wp2_with fail
                  refine wp_region_quiet_below (by kernel_rfl) (by kernel_rfl) ?_
                  repeat (first | go_big_quiet_step (fail) | quiet_step (fail))
                  refine wpQuiet_nil ?_
                  rintro _ ⟨q, rfl⟩
                  have HB5 := Lib.hid (HB.out.trans ((below_regrown _ q.d q.os).mono HB.out.size))
                  clear c0 c1 c2 c3 c4 c5 c6 c7 c8 c9 e0 e1 e2 e3 e4 e5 e6 e7 e8 e9 f0 f1 f2 f3 f4 f5 f6 f7 f8 f9 g0 g1 g2 g3 g4 g5 g6 g7 g8 g9 k0 k1 r0 q0
                  generalize grow (redrawn _ q.d) q.os = wa at *
                  go_wp2_with fail
                  exact ⟨⟨j + 1, by omega, by simp, HB5.out⟩, by simp [intOf]; omega⟩
                · obtain rfl : j = x.rs.length := by omega
                  have hdj : decide ((x.rs.length : Int) < (x.rs.length : Int)) = false := by simp
                  go_wp2_with fail
                  go_roundw
                  · exact ⟨l + 1, by omega, by simp, HB4.out⟩
                  · simp [intOf]; omega
            · obtain rfl : l = k := by omega
              have hd : decide ((l : Int) < (l : Int)) = false := by simp
              have HB12 := Lib.hid (HB11.out.trans (hB.mono HB11.out.size))
              clear hB
              go_wp2_with fail
              refine (law41_awake _).mono ?_
              rintro e w13 ⟨rfl, hb13⟩
              have HB13 := Lib.hid (HB12.out.trans (hb13.mono HB12.out.size))
              clear hb13
              go_wp2_with fail
              go_ret
              exact ⟨rfl, HB13.out⟩
end Go.Proofs.Ytikdkhiehfccpaa
