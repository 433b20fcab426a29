/- (as DmQb, over OwA) Dealt over this seat's program. -/
import Derived.Test.YtnbillhodbcfbaaDoorDmQa
import Derived.Test.YtnbillhodbcfbaaDoorDmPl
import Derived.Deep.LoopGhost
import Derived.Test.YtnbillhodbcfbaaDoorMClq
namespace Go.Proofs.YtnbillhodbcfbaaDoor
open Go.RowKit Go.Sort Go.Shelf Go.Maps Go.WideMaps

theorem posA_deal (cs : List Nat) (k tr ld : Nat) (v : Value) : (posA (dlH cs k) tr ld v).setIfInBounds (k % 4) (.int .u64 ((lor (dlH cs k (k % 4)) (shl1 (cs.getD k 0)) : Nat) : Int)) = posA (dlH cs (k + 1)) tr ld v := by
  have h : ∀ i, dlH cs (k + 1) i = if k % 4 = i then lor (dlH cs k i) (shl1 (cs.getD k 0)) else dlH cs k i := fun i => rfl
  have h4 : k % 4 < 4 := Nat.mod_lt _ (by decide)
  unfold posA
  rw [h, h, h, h]
  generalize k % 4 = r at *
  rcases (show r = 0 ∨ r = 1 ∨ r = 2 ∨ r = 3 by omega) with rfl | rfl | rfl | rfl <;> simp
/-- what Dealt gives back -/
def DealtOk (tr ld q : Nat) (w : World) (e : Ending) (w' : World) : Prop := ∃ h, DealtP h q ∧ e = .returned (.agg (posA h tr ld (.slice none 0 0))) ∧ Below w.heap.size w w'
set_option maxHeartbeats 4000000 in
set_option maxRecDepth 10000 in
theorem dm_Dealt (a : Option Addr) (len cap : Nat) (zs : List Nat) (n tr ld most : Nat) (hn : n < 256) (htr : tr < 256) (hld : ld < 256) (hm : most ≤ 4) (w : World) (hz : Byt w a len zs) :
    Calls Tryd.prog 15 #[.slice a len cap, .int .u8 (n : Int), .int .u8 (tr : Int), .int .u8 (ld : Int), .int .i64 (most : Int)] w (DealtOk (tr % 5) (ld % 4) (n % (most + 1)) w) := by
  have hb1 := (Below.refl w.heap.size w).alloc (Nat.le_refl _) (.cells zeroP 27)
  have HZ0 := Lib.hid (Row.new w 27 zeroP)
  have HY := Lib.hid (hz.below (Nat.le_refl _) hb1)
  have HB := Lib.hid hb1
  have hsm := hz.small
  have hq4 : n % (most + 1) ≤ 4 := by have := Nat.mod_lt n (show 0 < most + 1 by omega); omega
  have hqi : Int.tmod (n : Int) ((most : Int) + 1) = ((n % (most + 1) : Nat) : Int) := by
    rw [Int.tmod_eq_emod_of_nonneg (by omega)]; simp
  have hqe : (n : Int) % ((most : Int) + 1) = ((n % (most + 1) : Nat) : Int) := by simp
  have hm1 : (most : Int) + 1 ≠ 0 := by omega
  obtain ⟨q, hq⟩ : ∃ q, n % (most + 1) = q := ⟨_, rfl⟩
  rw [hq] at hq4 hqi hqe ⊢
  have tr5 : ∃ t, tr % 5 = t := ⟨_, rfl⟩
  have ld4 : ∃ t, ld % 4 = t := ⟨_, rfl⟩
  obtain ⟨tr5, ht5⟩ := tr5
  obtain ⟨ld4, hl4⟩ := ld4
  have htri : (tr : Int) % 5 = (tr5 : Int) := by omega
  have hldi : (ld : Int) % 4 = (ld4 : Int) := by omega
  have HT5 := Lib.hid (show tr5 < 5 ∧ ld4 < 4 by omega)
  rw [ht5, hl4]
  clear hq hb1 hz ht5 hl4
  go_enter Tryd.func15, Tryd.ntmps15
  go_upto_region 4 with fail
  have HL1 := Lib.hid (show w.heap.size < (w.alloc (.cells zeroP 27)).heap.size from HZ0.out.lt)
  generalize w.alloc (.cells zeroP 27) = W1 at *
  obtain ⟨b1, hb1⟩ : ∃ b, w.heap.size = b := ⟨_, rfl⟩
  have HB1 := Lib.hid hb1
  rw [hb1] at HZ0 HL1 ⊢
  clear hb1 hqi hqe hm1
  go_wp2_with fail
  have HQ4 := Lib.hid hq4
  have HSM := Lib.hid hsm
  go_loopw [12, 13, 15, 27] (fun uv v _ i wr => ∃ (k u : Nat) (cs : List Nat), k ≤ len ∧ i = .int .i64 (k : Int) ∧ uv = .int .u64 (u : Int) ∧ Taken u cs (4 * q) ∧ OwnU wr W1.heap.size v cs ∧ Below W1.heap.size W1 wr) (fun _ _ _ i _ => len - (intOf i).toNat)
  case atStart => exact ⟨0, 0, [], by omega, rfl, rfl, Taken.nil _, Owns.nil encU_len _ _, Below.refl _ _⟩
  case round =>
    obtain ⟨k, u, cs, hk, rfl, rfl, hT, hown, hB⟩ := hrel
    have HTk := Lib.hid hT
    have HO := Lib.hid hown
    have HBk := Lib.hid hB
    obtain ⟨va, vc, rfl, -⟩ := hown.slice
    obtain ⟨m, hml⟩ : ∃ m, cs.length = m := ⟨_, rfl⟩
    have HML := Lib.hid hml
    have hmle : m ≤ 4 * q := by rw [← hml]; exact hT.len
    rw [hml] at HO ⊢
    clear hml hown hB
    by_cases hlt : k < len
    · have hdk : decide (k < len) = true := by simp; omega
      obtain ⟨bb, off, ha, hbl, hcells⟩ := HY.out.at (by omega)
      have ek := (HBk.out.cell (p := ⟨bb, off + k, none⟩) hbl).trans (hcells k hlt)
      have hx := HY.out.byte k
      obtain ⟨x, hxx⟩ : ∃ x, zs.getD k 0 = x := ⟨_, rfl⟩
      rw [hxx] at ek hx
      clear hxx hcells hbl hk
      subst ha
      obtain ⟨c, hc⟩ : ∃ c, x % 52 = c := ⟨_, rfl⟩
      have hci : (x : Int) % 52 = (c : Int) := by omega
      have hc52 : c < 52 := by omega
      have huw := hT.w64
      have hsr := run_shr64 u c .u8 huw
      have hba := run_bit64 u c huw
      have hsl := run_shl64 c .u8
      have hor := run_or64 u (shl1 c) huw (W64.shl1 c)
      clear hc hT
      cases hbt : u.testBit c
      · by_cases hmq : m < 4 * q
        · have hmd : decide ((m : Int) < 4 * (q : Int)) = true := by simp; omega
          have HSN := Lib.hid (HTk.out.snoc hc52 hbt (by rw [HML.out]; exact hmq))
          clear hmq
          go_wp2_with (at_builtin; refine appU rfl (.tmp 49) (.tmp 51) rfl W1.heap.size (.slice va m vc) cs [c] rfl (HO.out.alloc _) _ _ _ rfl (byt_new1 wr c (by omega)) (by rw [HML.out]; omega) (by rw [World.size_alloc]; have := HBk.out.size; omega) ?_; intro v2 w10 hown10 hb10 hg10 hnb10)
          exact ⟨⟨k + 1, _, cs ++ [c], by omega, by simp, rfl, HSN.out, hown10, (HBk.out.alloc HBk.out.size _).trans hb10⟩, by simp [intOf]; omega⟩
        · have hmd : decide ((m : Int) < 4 * (q : Int)) = false := by simp; omega
          clear hmq
          go_wp2_with fail
          exact ⟨⟨k + 1, u, cs, by omega, by simp, rfl, HTk.out, HO.out, HBk.out⟩, by simp [intOf]; omega⟩
      · go_wp2_with fail
        exact ⟨⟨k + 1, u, cs, by omega, by simp, rfl, HTk.out, HO.out, HBk.out⟩, by simp [intOf]; omega⟩
    · obtain rfl : k = len := by omega
      have hdk : decide (k < k) = false := by simp
      clear hT hlt hk
      go_wp2_with fail
      have HIN := Lib.hid (show ∃ v0, OwnU wr W1.heap.size v0 cs ∧ v0 = .slice va m vc from ⟨_, HO.out, rfl⟩)
      go_loopg [12, 13, 16] 52 (fun gk uv v i w' => ∃ (k u : Nat) (cs : List Nat), gk = 52 - k ∧ k ≤ 52 ∧ i = .int .u8 (k : Int) ∧ uv = .int .u64 (u : Int) ∧ Taken u cs (4 * q) ∧ (∀ c, c < k → u.testBit c = true) ∧ OwnU w' W1.heap.size v cs ∧ Below W1.heap.size W1 w')
      case atStart => exact ⟨0, u, cs, by omega, by omega, rfl, rfl, HTk.out, fun c h => by omega, HO.out, HBk.out⟩
      case round =>
        clear hmle
        obtain ⟨k, u, cs, rfl, hk, rfl, rfl, hT, hall, hown, hB⟩ := hrel
        have HTk := Lib.hid hT
        have HALL := Lib.hid hall
        have HO := Lib.hid hown
        have HBk := Lib.hid hB
        obtain ⟨va, vc, rfl, -⟩ := hown.slice
        obtain ⟨m, hml⟩ : ∃ m, cs.length = m := ⟨_, rfl⟩
        have HML := Lib.hid hml
        have hmle : m ≤ 4 * q := by rw [← hml]; exact hT.len
        rw [hml] at HO ⊢
        clear hml hown hB hall
        by_cases hmq : m < 4 * q
        · have hmd : decide ((m : Int) < 4 * (q : Int)) = true := by simp; omega
          have hk52 : k < 52 := by
            have h1 := HTk.out.full HALL.out
            rw [HML.out] at h1
            omega
          have huw := hT.w64
          have hsr := run_shr64 u k .u8 huw
          have hba := run_bit64 u k huw
          have hsl := run_shl64 k .u8
          have hor := run_or64 u (shl1 k) huw (W64.shl1 k)
          clear hT
          cases hbt : u.testBit k
          · have HSN := Lib.hid (HTk.out.snoc hk52 hbt (by rw [HML.out]; exact hmq))
            clear hmq
            go_wp2_with (at_builtin; refine appU rfl (.tmp 70) (.tmp 72) rfl W1.heap.size (.slice va m vc) cs [k] rfl (HO.out.alloc _) _ _ _ rfl (byt_new1 _ k (by omega)) (by rw [HML.out]; omega) (by rw [World.size_alloc]; have := HBk.out.size; omega) ?_; intro v2 w10 hown10 hb10 hg10 hnb10)
            go_roundg (52 - (k + 1))
            case measure => omega
            case rel =>
              refine ⟨k + 1, _, cs ++ [k], by omega, by omega, by simp, rfl, HSN.out, fun c h => ?_, hown10, (HBk.out.alloc HBk.out.size _).trans hb10⟩
              rw [testBit_lor, testBit_shl1]
              by_cases e : c = k
              · subst e; simp; omega
              · rw [HALL.out c (by omega)]; rfl
          · clear hmq
            have HBT := Lib.hid hbt
            go_wp2_with fail
            go_roundg (52 - (k + 1))
            case measure => omega
            case rel =>
              refine ⟨k + 1, u, cs, by omega, by omega, by simp, rfl, HTk.out, fun c h => ?_, HO.out, HBk.out⟩
              by_cases e : c = k
              · subst e; exact HBT.out
              · exact HALL.out c (by omega)
        · have hmd : decide ((m : Int) < 4 * (q : Int)) = false := by simp; omega
          have HM4 := Lib.hid (show m = 4 * q by omega)
          clear hmq hT
          have h3 := htri
          have h4 := hldi
          go_upto_region 19 with fail
          have HPE : Hid (posA (dlH cs 0) tr5 ld4 (.slice none 0 0) = #[.int .u64 0, .int .u64 0, .int .u64 0, .int .u64 0, .int .u8 (tr5 : Int), .int .u8 (ld4 : Int), .slice none 0 0]) := Lib.hid rfl
          rw [← HPE.out]
          have ha := (Below.refl wr.heap.size wr).alloc (Nat.le_refl _) (.cells (posA (dlH cs 0) tr5 ld4 (.slice none 0 0)) 27)
          have HR17 := Lib.hid (Row.new wr 27 (posA (dlH cs 0) tr5 ld4 (.slice none 0 0)))
          have HOa := Lib.hid (HO.out.below ha)
          have HBa := Lib.hid (HBk.out.trans (ha.mono HBk.out.size))
          have HLa := Lib.hid (show W1.heap.size ≤ wr.heap.size from HBk.out.size)
          clear ha h3 h4 htri hldi
          obtain ⟨b17, hb17⟩ : ∃ b, wr.heap.size = b := ⟨_, rfl⟩
          rw [hb17] at HR17 HLa ⊢
          clear hb17
          generalize wr.alloc (.cells (posA (dlH cs 0) tr5 ld4 (.slice none 0 0)) 27) = wa at *
          go_wp2_with fail
          clear hmd hmle
          have HM16 := Lib.hid (show m ≤ 16 by have := HM4.out; have := HQ4.out; omega)
          have hm16 := HM16.out
          go_loopg [18, 19, 81] m (fun gk _ _ i wr => ∃ k : Nat, gk = m - k ∧ k ≤ m ∧ i = .int .i64 (k : Int) ∧ Row wr b17 27 (posA (dlH cs k) tr5 ld4 (.slice none 0 0)) ∧ But wa.heap.size b17 wa wr)
          case atStart => exact ⟨0, by omega, by omega, rfl, HR17.out, But.refl _ _ _⟩
          case round =>
            obtain ⟨k, rfl, hk, rfl, hrow, hbt⟩ := hrel
            have HRW := Lib.hid hrow
            have HBT := Lib.hid hbt
            by_cases hlt : k < m
            · have hdk : decide (k < m) = true := by simp; omega
              have hown := HOa.out.kept (hbt.grown (Nat.le_refl _)) (.inl (own_apart HOa.out HR17.out (by decide)))
              obtain ⟨-, h0⟩ | ⟨g, cap2, hv, -⟩ := hown.form
              · have := HML.out; rw [h0] at this; simp at this; omega
              · rw [HML.out] at hv
                simp only [Value.slice.injEq, true_and] at hv
                obtain ⟨rfl, rfl⟩ := hv
                have hx : cs[k]? = some (cs.getD k 0) := by rw [List.getD_eq_getElem?_getD, List.getElem?_eq_getElem (by rw [HML.out]; exact hlt)]; rfl
                have ck : _ = some (Value.int .u8 ((cs.getD k 0 : Nat) : Int)) := hown.cell k 0 (by decide) hx
                rw [Nat.mul_one, Nat.add_zero] at ck
                have hc52 := HTk.out.c52 _ (List.mem_of_getElem? hx)
                have HSET := Lib.hid (posA_deal cs k tr5 ld4 (.slice none 0 0))
                have hr4 : k % 4 < 4 := Nat.mod_lt _ (by decide)
                have dr : _ = some (Value.int .u64 ((dlH cs k (k % 4) : Nat) : Int)) := (hrow.cell (k % 4)).trans (posA_h _ _ _ _ hr4)
                have fr := hrow.frozen (k % 4)
                have hdw := dlH_w64 cs k (k % 4)
                obtain ⟨c, hc⟩ : ∃ c, cs.getD k 0 = c := ⟨_, rfl⟩
                obtain ⟨d, hd⟩ : ∃ d, dlH cs k (k % 4) = d := ⟨_, rfl⟩
                rw [hc] at ck hc52 HSET
                rw [hd] at dr hdw HSET
                obtain ⟨r, hr⟩ : ∃ r, k % 4 = r := ⟨_, rfl⟩
                rw [hr] at dr fr hr4 HSET
                have hki : (k : Int) % 4 = (r : Int) := by omega
                have hri : (r : Int) < 4 := by omega
                have hsl := run_shl64 c .u8
                have hor := run_or64 d (shl1 c) hdw (W64.shl1 c)
                clear hr hd hc hx hown hrow hbt
                go_wp2_with fail
                go_roundg (m - (k + 1))
                case measure => omega
                case rel =>
                  refine ⟨k + 1, by omega, by omega, by simp, ?_, HBT.out.trans (But.setCell _ _ _)⟩
                  rw [← HSET.out]
                  exact HRW.out.set r _
            · obtain rfl : k = m := by omega
              have hdk : decide (k < k) = false := by simp
              have HDP : Hid (DealtP (dlH cs k) q) := Lib.hid (by
                have := dealt_ok HTk.out (HML.out.trans HM4.out)
                rw [← HM4.out] at this; exact this)
              have HPZ : Hid ((posA (dlH cs k) tr5 ld4 (.slice none 0 0)).size = 7 ∧ (posA (dlH cs k) tr5 ld4 (.slice none 0 0)).all (·.oneCell') = true) := Lib.hid ⟨rfl, by simp [posA, Value.oneCell']⟩
              have HBW := Lib.hid (show Below W1.heap.size W1 _ from ⟨hbt.os.trans HBa.out.os, hbt.tape.trans HBa.out.tape, hbt.output.trans HBa.out.output, Nat.le_trans HBa.out.size hbt.size, fun x hx => (hbt.same x (by have := HR17.out.lt; have := HLa.out; omega) (by have := HLa.out; omega)).trans (HBa.out.block x hx)⟩)
              have HZW := Lib.hid (HZ0.out.below HL1.out HBW.out)
              obtain ⟨PB, hPB⟩ : ∃ A, posA (dlH cs k) tr5 ld4 (.slice none 0 0) = A := ⟨_, rfl⟩
              have HPB := Lib.hid hPB
              rw [hPB] at HRW HPZ
              clear hPB hlt hrow hbt hk
              go_wp2_with (first
                | refine wpList_load_row rfl 27 (.tmp 17) rfl b17 rfl 27 PB (0, 0) _ HRW.out Tryd.underlying27 rfl (by rw [HPZ.out.1]; exact size_pos) ?_
                | refine wpList_store_row rfl 27 (.tmp 10) (.tmp 97) rfl b1 PB rfl rfl 27 _ HZW.out (by rw [HPZ.out.1]; exact size_pos) (by rw [HPZ.out.1]; rfl) HPZ.out.2 ?_)
              refine bodyPost_ret (v := .agg PB) (results_cell1 Tryd.results15 _ _ b1 _ PB (0, 0) _ rfl (setRow_heap _ _ _ _ _ _ HZW.out) Tryd.underlying27 rfl (by rw [HPZ.out.1]; exact size_pos)) rfl ⟨dlH cs k, HDP.out, by rw [HPB.out], below_setRow (HB.out.trans (HBW.out.mono HB.out.size)) (by rw [HB1.out]; exact Nat.le_refl _) _⟩
end Go.Proofs.YtnbillhodbcfbaaDoor
