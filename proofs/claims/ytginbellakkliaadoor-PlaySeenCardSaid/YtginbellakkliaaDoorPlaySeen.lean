/- finesselaw12.PlaySeen walked over this seat's program. -/
import Derived.Test.YtginbellakkliaaDoorPySn
import Derived.Test.YtginbellakkliaaDoorPyO
import Derived.Test.YtginbellakkliaaDoorQTail
import Derived.Deep.Cut
namespace Go.Proofs.YtginbellakkliaaDoor
open Go.RowKit Go.Shelf Go.Sort
attribute [local go_sem] Oper.semAt_some

theorem kept_below {w W : World} (h : Kept (fun k => k < w.heap.size) w W) : Below w.heap.size w W := ⟨h.os, h.tape, h.output, h.size, fun k hk => h.block k hk hk⟩
theorem pt_len {d : Nat → Nat} {n t : Nat} {p : Ply} (h : PInv d n p t) (hd : Deal4 d n) : p.steps.length ≤ 52 ∧ (p.st.over = false → p.steps.length < 52) := by
  have h1 := h.many
  have h2 := h.t_le
  have h3 := hd.le
  have h4 := h.ok.st.ct
  have h5 := h.ct_over
  refine ⟨by omega, fun ho => ?_⟩
  have h6 : t ≠ n := fun e => by rw [h.over_iff.2 e] at ho; cases ho
  omega
theorem InP.regrown {W : World} {B : Nat} {p : Ply} {G : Nat → Prop} (h : InP W B p G) (d : Nat) (os : Array Obj) : InP (grow (redrawn W d) os) B p G := h.below (below_regrown W d os)
theorem getD52 {l : List Nat} (h : ∀ c ∈ l, c < 52) (i : Nat) : l.getD i 0 < 52 := by
  rw [List.getD_eq_getElem?_getD]
  cases hi : l[i]? with
  | none => decide
  | some y => exact h y (List.mem_of_getElem? hi)
attribute [local irreducible] Mn.d Mn.lv Mn.dn Mn.rk Mn.dc
set_option maxHeartbeats 2000000 in
set_option maxRecDepth 100000 in
theorem ps_all (x : Mn) (a : Option Addr) (len cap : Nat) (a2 : Option Addr) (len2 cap2 : Nat) (zs2 : List Nat) (w : World) (hz : Byt w a len x.zs) (hz2 : Byt w a2 len2 zs2) (hn : x.n < 256) (hc : x.c < 256) (hT : Tab w) :
    Calls Tryd.prog 5 #[.slice a len cap, .int .u8 (x.n : Int), .int .u8 (x.c : Int), .slice a2 len2 cap2] w fun e w' => e = .returned (.bool true) ∧ Below w.heap.size w w' := by
  have HA := Lib.hid (fun (w1 : World) (h : Below w.heap.size w w1) => law12_awake w1 (hT.below hT.pos h))
  have HM := Lib.hid (fun (w1 : World) (h : Below w.heap.size w w1) => law12_made x a len cap w1 (hz.below (Nat.le_refl _) h) hn hc)
  have HD := Lib.hid (made_deal4 x)
  have hdc3 : x.dc ≤ 3 := by unfold Mn.dc; omega
  go_enter Tryd.func5, Tryd.ntmps5
  go_upto_region 4 with (first
    | (go_at_call 11; refine (HA.out _ (Below.refl _ _)).mono ?_; rintro e w1 ⟨rfl, hb1⟩)
    | (go_at_call 12; refine (HM.out _ hb1).mono ?_; rintro e w2 ⟨rfl, hb2⟩))
  clear HA HM
  obtain ⟨hR0, hR1⟩ := newW_rows x.d x.lv x.dn x.rk x.dc w2
  have hB3 := (hb1.trans (hb2.mono hb1.size)).trans ((newW_below x.d x.lv x.dn x.rk x.dc w2).mono (Nat.le_trans hb1.size hb2.size))
  have hN : w.heap.size ≤ w2.heap.size := Nat.le_trans hb1.size hb2.size
  dsimp only [newW] at hR0 hR1 hB3
  generalize (w2.alloc (.cells #[.int .u64 (x.d 0 : Int), .int .u64 (x.d 1 : Int), .int .u64 (x.d 2 : Int), .int .u64 (x.d 3 : Int)] 26)).alloc (.cells #[.int .u8 (x.lv : Int), .int .u8 (x.dn : Int), .int .u8 (x.rk : Int), .int .u8 (x.dc : Int)] 28) = w3 at *
  generalize w2.heap.size = N at *
  clear hb1 hb2
  have q0 := hR0.cell 0
  have q1 := hR0.cell 1
  have q2 := hR0.cell 2
  have q3 := hR0.cell 3
  simp only [List.getElem?_toArray, List.getElem?_cons_zero, List.getElem?_cons_succ] at q0 q1 q2 q3
  have m0 := hR1.cell 0
  have m1 := hR1.cell 1
  have m2 := hR1.cell 2
  have m3 := hR1.cell 3
  simp only [List.getElem?_toArray, List.getElem?_cons_zero, List.getElem?_cons_succ] at m0 m1 m2 m3
  have HNP : Hid (Calls Tryd.prog 13 #[.agg #[.int .u64 (x.d 0 : Int), .int .u64 (x.d 1 : Int), .int .u64 (x.d 2 : Int), .int .u64 (x.d 3 : Int)], .agg #[.int .u8 (x.lv : Int), .int .u8 (x.dn : Int), .int .u8 (x.rk : Int), .int .u8 (x.dc : Int)]] w3 fun e W' =>
      ∃ B, e = .returned (.tuple #[.pointer (some ⟨B, 0, none⟩), .int .i64 0]) ∧ InP W' B (newP x.d x.lv x.dn x.rk x.dc) (fun g => g < w3.heap.size) ∧ Below w3.heap.size w3 W') :=
      Lib.hid (in_new x.d x.lv x.dn x.rk x.dc (made_w64 x) (made_new x) _ w3 (fun g hg => hg) (hT.below hT.pos hB3) (Nat.lt_of_lt_of_le hT.pos hB3.size))
  have HP0 := Lib.hid (PInv.new x)
  have HL0 : Hid ((newP x.d x.lv x.dn x.rk x.dc).dc = x.dc ∧ (newP x.d x.lv x.dn x.rk x.dc).steps.length = 0) := Lib.hid ⟨rfl, rfl⟩
  generalize newP x.d x.lv x.dn x.rk x.dc = p0 at *
  have HR0 := Lib.hid hR0
  have HR1 := Lib.hid hR1
  have HB3 := Lib.hid hB3
  have hNl : N + 1 < w3.heap.size := hR1.lt
  have hwl : w.heap.size ≤ w3.heap.size := hB3.size
  clear hR0 hR1 hB3
  have k0 := made_w64 x 0
  have k1 := made_w64 x 1
  have k2 := made_w64 x 2
  have k3 := made_w64 x 3
  have k4 := (k0.lor k1).lor k2
  obtain ⟨ALL, hALL⟩ : ∃ ALL, lor (lor (lor (x.d 0) (x.d 1)) (x.d 2)) (x.d 3) = ALL := ⟨_, rfl⟩
  go_upto_region 7 with (go_at_call 13; refine HNP.out.mono ?_; rintro e W0 ⟨B, rfl, H0, hb4⟩)
  clear HNP q0 q1 q2 q3 m0 m1 m2 m3
  have S0 := HR0.out.below HR0.out.lt hb4
  have q0 := S0.cell 0
  have q1 := S0.cell 1
  have q2 := S0.cell 2
  have q3 := S0.cell 3
  simp only [List.getElem?_toArray, List.getElem?_cons_zero, List.getElem?_cons_succ] at q0 q1 q2 q3
  have HK0 : Kept (fun g => g < w3.heap.size) w3 W0 := Kept.of_below hb4
  clear S0 hb4
  go_wp2_with fail
  have HALL := Lib.hid hALL
  clear hALL q0 q1 q2 q3
  go_loopw [14] (fun i wr => ∃ p t, i = .int .i64 (p.steps.length : Int) ∧ InP wr B p (fun g => g < w3.heap.size) ∧ PInv x.d x.each p t ∧ p.dc = x.dc ∧ Kept (fun g => g < w3.heap.size) w3 wr) (fun i _ => 53 - (intOf i).toNat)
  case atStart => exact ⟨p0, 0, by rw [HL0.out.2]; rfl, H0, HP0.out, HL0.out.1, HK0⟩
  case round =>
    obtain ⟨p, t, rfl, H, hp, hdc, HK⟩ := hrel
    clear H0 HK0
    have hl := pt_len hp HD.out
    have hcs : (p.steps.map Stp.c).length = p.steps.length := List.length_map ..
    obtain ⟨cs, hcse⟩ : ∃ cs, p.steps.map Stp.c = cs := ⟨_, rfl⟩
    have hC := in_cards H
    have hcs52 := hp.cards52
    rw [hcse] at hC hcs hcs52
    have HC := Lib.hid hC
    have hsn0 : ∀ s, land (hidV p.st.h (p.seenH s)) (goneV cs) = 0 ∧ lor (lor (lor (lor (lor (p.seenH s 0) (p.seenH s 1)) (p.seenH s 2)) (p.seenH s 3)) (hidV p.st.h (p.seenH s))) (goneV cs) = lor (lor (lor (x.d 0) (x.d 1)) (x.d 2)) (x.d 3) ∧ ∀ k, k < 4 → land (p.seenH s k) (lor (hidV p.st.h (p.seenH s)) (goneV cs)) = 0 := by
      rw [← hcse]; exact fun s => seen_ok hp HD.out s
    rw [HALL.out] at hsn0
    have HSN := Lib.hid hsn0
    obtain ⟨i, hi⟩ : ∃ i, p.steps.length = i := ⟨_, rfl⟩
    rw [hi] at hl hcs ⊢
    have hi52 := hl.1
    have HI := Lib.hid hi
    have HP := Lib.hid hp
    have HL := Lib.hid hl
    have HDC := Lib.hid hdc
    have HCSE := Lib.hid hcse
    have HCS := Lib.hid hcs
    have HC52 := Lib.hid hcs52
    clear hC hsn0 hi hp hl hdc hcse hcs hcs52
    go_wp2_with (go_at_call 20; refine HC.out.mono ?_; rintro e W1 ⟨v, rfl, how, hbc⟩; obtain ⟨av, cv, rfl, _, _, _, _, hzv⟩ := how.byt (by have := HCS.out; omega) (fun j => by have := getD52 HC52.out j; omega); rw [HCS.out] at hzv)
    rw [HCS.out]
    clear how HC
    have HZV := Lib.hid hzv
    clear hzv
    go_loopw [15, 58] (fun g j wq => ∃ k, k ≤ i ∧ j = .int .i64 (k : Int) ∧ g = .int .u64 (goneV (cs.take k) : Int) ∧ wq = W1) (fun _ j _ => i - (intOf j).toNat)
    case atStart => exact ⟨0, by omega, rfl, rfl, rfl⟩
    case round =>
      obtain ⟨k, hk, rfl, rfl, rfl⟩ := hrel
      by_cases hki : k < i
      · obtain ⟨b, off, rfl, hbl, hcells⟩ := HZV.out.at (by omega)
        have hck := hcells k hki
        have hc52 := getD52 HC52.out k
        have hkl : k < cs.length := by rw [HCS.out]; exact hki
        have hsn1 : goneV (cs.take (k + 1)) = lor (goneV (cs.take k)) (shl1 (cs.getD k 0)) := by
          rw [List.take_add_one, List.getD_eq_getElem?_getD, List.getElem?_eq_getElem hkl]; exact goneV_snoc _ _
        have HS1 := Lib.hid hsn1
        have hw64 : W64 (goneV (cs.take k)) := goneV_w64
        clear hcells hsn1
        generalize cs.getD k 0 = c at *
        generalize goneV (cs.take k) = G at *
        go_wp2_with fail
        go_roundw
        case rel => exact ⟨k + 1, by omega, by go_num, by rw [HS1.out], trivial⟩
        case measure => simp [intOf]; omega
      · have hke : i = k := by omega
        subst hke
        have htk : cs.take i = cs := by rw [← HCS.out]; exact List.take_length
        rw [htk]
        clear htk
        have hgw : W64 (goneV cs) := goneV_w64
        generalize goneV cs = GN at *
        have H1 : InP wr B p (fun g => g < w3.heap.size) := H.below hbc
        have HK1 : Kept (fun g => g < w3.heap.size) w3 wr := HK.trans (Kept.of_below hbc)
        clear H HK hbc
        go_wp2_with fail
        go_loopw [18] (fun s wq => ∃ s' : Nat, s' ≤ 4 ∧ s = .int .u8 (s' : Int) ∧ InP wq B p (fun g => g < w3.heap.size) ∧ Kept (fun g => g < w3.heap.size) w3 wq) (fun s _ => 4 - (intOf s).toNat)
        case atStart => exact ⟨0, by omega, rfl, H1, HK1⟩
        case round =>
          obtain ⟨s, hs4, rfl, H, HK⟩ := hrel
          clear H1 HK1
          by_cases hs : s < 4
          · have hin := in_seen H s (by omega)
            obtain ⟨f1, f2, f3⟩ := HSN.out s
            have hg0 := fun k => seenH_w64 HP.out.ok s k
            have hh0 := hidV_w64 (g := p.seenH s) HP.out.ok.st.h
            have hge : ∀ k, p.seenH s k = if k = s ∨ (k = (x.dc + 2) % 4 ∧ 0 < i) then p.st.h k else 0 := fun k => by
              rw [seenH_eq]
              have e1 : p.dummy = (x.dc + 2) % 4 := by unfold Ply.dummy; rw [HDC.out]
              have e2 : p.steps ≠ [] ↔ 0 < i := by rw [← HI.out, List.length_pos_iff]
              rw [e1]
              by_cases hq : k = s ∨ (k = (x.dc + 2) % 4 ∧ 0 < i)
              · rw [if_pos hq, if_pos (by rw [e2]; exact hq)]
              · rw [if_neg hq, if_neg (by rw [e2]; exact hq)]
            have HIN := Lib.hid hin
            have HGE := Lib.hid hge
            have HF3 := Lib.hid f3
            have HW := Lib.hid hg0
            obtain ⟨D, hD⟩ : ∃ D, (x.dc + 2) % 4 = D := ⟨_, rfl⟩
            rw [hD] at HGE
            have hdm : ((x.dc : Int) + 2) % 4 = (D : Int) := by omega
            have hD4 : D < 4 := by omega
            clear hD hin hge f3
            generalize hidV p.st.h (p.seenH s) = hd at *
            generalize p.seenH s = g at *
            have u0 := hg0 0
            have u1 := hg0 1
            have u2 := hg0 2
            have u3 := hg0 3
            have u4 := (u0.lor u1).lor u2
            have u5 := u4.lor u3
            have u6 := u5.lor hh0
            clear hg0
            go_upto_region 20 with (go_at_call 21; refine HIN.out.mono ?_; rintro e W2 ⟨rfl, hb2⟩)
            have hY := Row.new W2 26 (arr4 g)
            have H2 : InP (W2.alloc (.cells (arr4 g) 26)) B p (fun g => g < w3.heap.size) := (H.below hb2).below ((Below.refl _ _).alloc (Nat.le_refl _) _)
            have HK2 : Kept (fun g => g < w3.heap.size) w3 (W2.alloc (.cells (arr4 g) 26)) := (HK.trans (Kept.of_below hb2)).alloc _
            dsimp only [arr4] at hY H2 HK2
            generalize (W2.alloc (.cells #[.int .u64 (g 0 : Int), .int .u64 (g 1 : Int), .int .u64 (g 2 : Int), .int .u64 (g 3 : Int)] 26)) = wy at *
            generalize W2.heap.size = M at *
            clear hb2 H HK HIN
            have y0 := hY.cell 0
            have y1 := hY.cell 1
            have y2 := hY.cell 2
            have y3 := hY.cell 3
            simp only [List.getElem?_toArray, List.getElem?_cons_zero, List.getElem?_cons_succ] at y0 y1 y2 y3
            go_wp2_with fail
            have u7 := hh0.lor hgw
            go_loopw [101] (fun k wq => ∃ k' : Nat, k' ≤ 4 ∧ k = .int .i64 (k' : Int) ∧ wq = wy) (fun k _ => 4 - (intOf k).toNat)
            case atStart => exact ⟨0, by omega, rfl, rfl⟩
            case round =>
              obtain ⟨k, hk4, rfl, rfl⟩ := hrel
              by_cases hk : k < 4
              · have hix := index_deal g k hk
                have hf3 := HF3.out k hk
                have hgk := HGE.out k
                have hin := in_hand H2 k (by omega)
                have hhv : p.handV k = p.st.h k := by unfold Ply.handV; rw [if_pos (by omega)]
                rw [hhv] at hin
                have c3 : wr.cell? ⟨N + 1, 3, none⟩ = some (.int .u8 (x.dc : Int)) := (HK2.cell (p := ⟨N + 1, 3, none⟩) hNl hNl).trans (HR1.out.cell 3)
                have hgkw := HW.out k
                have HIN := Lib.hid hin
                generalize p.st.h k = H at *
                generalize g k = gk at *
                have HGK := Lib.hid hgk
                clear hin hgk hhv
                have key : ∀ (b1 b2 b3 : Bool), decide (k = s) = b1 → decide (k = D) = b2 → decide (0 < i) = b3 → ((b1 || (b2 && b3)) = true → gk = H) ∧ ((b1 || (b2 && b3)) = false → gk = 0) := by
                  intro b1 b2 b3 h1 h2 h3
                  have := HGK.out
                  constructor
                  · intro hb; rw [this, if_pos]; simp only [Bool.or_eq_true, Bool.and_eq_true, ← h1, ← h2, ← h3, decide_eq_true_eq] at hb; exact hb
                  · intro hb; rw [this, if_neg]; simp only [Bool.or_eq_false_iff, Bool.and_eq_false_iff, ← h1, ← h2, ← h3, decide_eq_false_iff_not] at hb; omega
                by_cases h1 : k = s
                · obtain rfl : gk = H := (key true _ _ (decide_eq_true h1) rfl rfl).1 rfl
                  have q1 : ((k : Int) == (s : Int)) = true := by rw [beq_iff_eq]; omega
                  have q2 : (k == s) = true := beq_iff_eq.2 h1
                  have q3 := decide_eq_true h1
                  clear key HGK h1
                  go_wp2_with (go_at_call 22; refine HIN.out.mono ?_; rintro e W' ⟨rfl, rfl⟩)
                  go_roundw
                  case rel => exact ⟨k + 1, by omega, by go_num, trivial⟩
                  case measure => simp [intOf]; omega
                · have q1 : ((k : Int) == (s : Int)) = false := by rw [beq_eq_false_iff_ne]; omega
                  have q2 : (k == s) = false := beq_eq_false_iff_ne.2 h1
                  have q3 := decide_eq_false h1
                  by_cases h2 : k = D
                  · have q4 : ((k : Int) == (D : Int)) = true := by rw [beq_iff_eq]; omega
                    have q5 : (k == D) = true := beq_iff_eq.2 h2
                    have q6 := decide_eq_true h2
                    by_cases h3 : 0 < i
                    · obtain rfl : gk = H := (key false true true q3 q6 (decide_eq_true h3)).1 rfl
                      have q7 : decide ((i : Int) > 0) = true := by rw [decide_eq_true_eq]; omega
                      clear key HGK h1 h2
                      go_wp2_with (go_at_call 22; refine HIN.out.mono ?_; rintro e W' ⟨rfl, rfl⟩)
                      go_roundw
                      case rel => exact ⟨k + 1, by omega, by go_num, trivial⟩
                      case measure => simp [intOf]; omega
                    · have hg0 : gk = 0 := (key false true false q3 q6 (decide_eq_false h3)).2 rfl
                      have q8 : ((gk : Int) != 0) = false := by rw [hg0]; rfl
                      clear hg0
                      have q7 : decide ((i : Int) > 0) = false := by rw [decide_eq_false_iff_not]; omega
                      clear key HGK h1 h2
                      go_wp2_with (go_at_call 22; refine HIN.out.mono ?_; rintro e W' ⟨rfl, rfl⟩)
                      go_roundw
                      case rel => exact ⟨k + 1, by omega, by go_num, trivial⟩
                      case measure => simp [intOf]; omega
                  · have hg0 : gk = 0 := (key false false _ q3 (decide_eq_false h2) rfl).2 rfl
                    have q8 : ((gk : Int) != 0) = false := by rw [hg0]; rfl
                    clear hg0
                    have q4 : ((k : Int) == (D : Int)) = false := by rw [beq_eq_false_iff_ne]; omega
                    have q5 : (k == D) = false := beq_eq_false_iff_ne.2 h2
                    have q6 := decide_eq_false h2
                    clear key HGK h1 h2
                    go_wp2_with (go_at_call 22; refine HIN.out.mono ?_; rintro e W' ⟨rfl, rfl⟩)
                    go_roundw
                    case rel => exact ⟨k + 1, by omega, by go_num, trivial⟩
                    case measure => simp [intOf]; omega
              · have hke : k = 4 := by omega
                subst hke
                go_wp2_with fail
                go_roundw
                case rel => exact ⟨s + 1, by omega, by go_num, H2, HK2⟩
                case measure => simp [intOf]; omega
          · have hse : s = 4 := by omega
            subst hse
            have hpV := HP.out
            cases ho : p.st.over
            · obtain ⟨L, hL⟩ : ∃ L, p.st.legal = L := ⟨_, rfl⟩
              have hL1 : L ≠ 0 := by rw [← hL]; exact hpV.legal_ne HD.out ho
              have hL64 : W64 L := by rw [← hL]; exact hpV.legal64 HD.out
              have hLb : ((L : Int) == 0) = false := by rw [beq_eq_false_iff_ne]; omega
              have hlg := fun (W' : World) (G' : Nat → Prop) (h : InP W' B p G') => in_legal h
              rw [hL] at hlg
              have HLG := Lib.hid hlg
              have HDO := Lib.hid (fun c (hc : L.testBit c = true) => (by rw [← hL] at hc; exact hpV.do HD.out hc : p.doV c = (0, ({ p with back := [] } : Ply).put c) ∧ PInv x.d x.each (({ p with back := [] } : Ply).put c) (if p.st.ct = 3 then t + 1 else t)))
              have hi52' : i < 52 := HL.out.2 ho
              clear hlg hL ho hpV
              by_cases hil : i < len2
              · have hB6 : Below w.heap.size w wr := HB3.out.trans ((kept_below HK).mono hwl)
                obtain ⟨b, off, rfl, hbl, hcells⟩ := (hz2.below (Nat.le_refl _) hB6).at (by omega)
                have hcz := hcells i hil
                have hz256 := hz2.byte i
                have hTr := hT.below hT.pos hB6
                have HTR := Lib.hid hTr
                have hge : decide ((i : Int) ≥ (len2 : Int)) = false := by rw [decide_eq_false_iff_not]; omega
                have hilI : (i : Int) < (len2 : Int) := by omega
                have hdo : ∀ z W', Below wr.heap.size wr W' → Calls Tryd.prog 18 #[.pointer (some ⟨B, 0, none⟩), .int .u8 (pickV L z : Int)] W' fun e W'' => e = .returned (.int .i64 0) ∧ InP W'' B (({ p with back := [] } : Ply).put (pickV L z)) (fun g => g < w3.heap.size) ∧ Kept (fun g => g < w3.heap.size) W' W'' := by
                  intro z W' hb
                  obtain ⟨s1, s2⟩ := pickV_spec hL64 hL1 z
                  obtain ⟨e1, hp'⟩ := HDO.out _ s2
                  have := in_do (H.below hb) (pickV L z) (by omega) (by rw [e1]; exact hp'.ok)
                  rw [e1] at this; exact this
                have HDO2 := Lib.hid hdo
                have HPK := Lib.hid (fun z => pickV_spec hL64 hL1 z)
                clear hcells hdo hTr hB6
                generalize zs2.getD i 0 = z at *
                go_upto_region 32 with (go_at_call 14; refine (HLG.out _ _ H).mono ?_; rintro e W3 ⟨rfl, hb3⟩)
                have H3 := H.below hb3
                have hc3 := (hb3.cell (p := ⟨b, off + i, none⟩) (block_lt_of_cell hcz)).trans hcz
                have rc3 := fun dd os => cell_regrown hc3 dd os
                have HT3 := Lib.hid (HTR.out.below HTR.out.pos hb3)
                refine wp_region_below_tail 8 (by kernel_rfl) (by kernel_rfl) ?_
                simp only [List.take_succ_cons, List.take_zero, List.drop_succ_cons, List.drop_zero]
                repeat (quiet_step (first | exact Calls.regrown_of (HLG.out _ _ (H3.regrown _ _)) | exact Calls.regrown_of ((law12_cardV L z hL64 hL1 hz256 _ (HT3.out.below HT3.out.pos (below_regrown _ _ _))).mono fun _ _ ⟨he, hw⟩ => ⟨he, hw ▸ Below.refl _ _⟩)))
                refine wpQuiet_nil ?_
                rintro _ ⟨q, rfl⟩
                have hb4 := hb3.trans ((below_regrown W3 q.d q.os).mono hb3.size)
                generalize grow (redrawn W3 q.d) q.os = w5 at *
                clear rc3 hc3 hcz
                have HPKz := Lib.hid (HPK.out z)
                have HD5 := Lib.hid (HDO2.out z w5 hb4)
                have HDz := Lib.hid (HDO.out (pickV L z) HPKz.out.2)
                have hpk64 := HPKz.out.1
                generalize pickV L z = c at *
                go_wp2_with (go_at_call 18; refine HD5.out.mono ?_; rintro e W6 ⟨rfl, H6, hk6⟩)
                go_roundw
                case rel => exact ⟨_, _, by show Value.int IntKind.i64 _ = Value.int IntKind.i64 ((p.steps ++ [_]).length : Int); rw [List.length_append, HI.out]; rfl, H6, HDz.out.2, HDC.out, (HK.trans (Kept.of_below hb4)).trans hk6⟩
                case measure => simp [intOf]; omega
              · have hge : decide ((i : Int) ≥ (len2 : Int)) = true := by rw [decide_eq_true_eq]; omega
                go_wp2_with (go_at_call 14; refine (HLG.out _ _ H).mono ?_; rintro e W' ⟨rfl, hb⟩)
                go_ret
                exact ⟨rfl, (HB3.out.trans ((kept_below HK).mono hwl)).trans (hb.mono (Nat.le_trans hwl HK.size))⟩
            · have hL : p.st.legal = 0 := legal_over ho
              have hlg := in_legal H
              rw [hL] at hlg
              have HLG := Lib.hid hlg
              clear hlg hL ho hpV
              go_wp2_with (go_at_call 14; refine HLG.out.mono ?_; rintro e W' ⟨rfl, hb⟩)
              go_ret
              exact ⟨rfl, (HB3.out.trans ((kept_below HK).mono hwl)).trans (hb.mono (Nat.le_trans hwl HK.size))⟩
theorem law_PlaySeen (a : Option Addr) (len cap : Nat) (zs : List Nat) (n c : Nat) (a2 : Option Addr) (len2 cap2 : Nat) (zs2 : List Nat) (w : World) (hz : Byt w a len zs) (hn : n < 256) (hc : c < 256) (hz2 : Byt w a2 len2 zs2) (hT : Tab w) :
    Calls Tryd.prog 5 #[.slice a len cap, .int .u8 (n : Int), .int .u8 (c : Int), .slice a2 len2 cap2] w fun e w' => e = .returned (.bool true) ∧ Below w.heap.size w w' :=
  ps_all ⟨zs, n, c⟩ a len cap a2 len2 cap2 zs2 w hz hz2 hn hc hT
end Go.Proofs.YtginbellakkliaaDoor
