/- The iterator revoke.rounds over this seat's program. -/
import Derived.Test.YtdlnilebnobllaaRevP
import Derived.Sort.LoopGhostIn
import Derived.Shelf.Abstract
import Derived.Shelf.RegionOpen
import Derived.WalkKit
import Derived.OwnWalkIn
import Derived.TacticsInMore
import Derived.LoopNIn
import Derived.LoopIn
import Derived.Outline
namespace Go.Proofs.Ytdlnilebnobllaa
open Go.RowKit Go.Shelf Go.Sort
attribute [local go_sem] Oper.semAt_some

theorem wide_fn (f : Nat) : Fence.wide.fn f = True := rfl
theorem wide_depth : Fence.wide.depth = none := rfl
attribute [go_sem] wide_fn wide_depth

/-- the slice of a trick's cards -/
def cardsV (a : Option Addr) (cap num k : Nat) : Value :=
  match a with
  | none => .slice none 0 0
  | some ad => if k = 0 then .slice none 0 0 else .slice (some ⟨ad.block, ad.off + 4 * num, none⟩) k (cap - 4 * num)
theorem cardsV_slice (a : Option Addr) (cap num k : Nat) (h : a = none → k = 0) : ∃ ad c, cardsV a cap num k = .slice ad k c := by
  unfold cardsV
  split
  · rw [h rfl]; exact ⟨_, _, rfl⟩
  · split
    · rename_i e; rw [e]; exact ⟨_, _, rfl⟩
    · exact ⟨_, _, rfl⟩
/-- what is handed over for a trick -/
def rndV (a : Option Addr) (cap : Nat) (x : Rnd) : Array Value :=
  #[.int .i64 (x.num : Int), .agg #[.int .u64 (x.h 0 : Int), .int .u64 (x.h 1 : Int), .int .u64 (x.h 2 : Int), .int .u64 (x.h 3 : Int), .int .u8 (x.leader : Int), .int .u8 (x.winner : Int), cardsV a cap x.num x.cards.length]]

/-- at the head of a round of the iterator -/
def RndRel (r : Rc) (len : Nat) (W : World) (S : Nat → Prop) (H : Nat) (J : (Nat → Prop) → List Rnd → World → Prop) (gk : Nat) (ld fi : Value) (wr : World) : Prop :=
  ∃ (pre : List Rnd) (G : Nat → Prop) (h : Nat → Nat) (k ldn : Nat), gk = len + 4 - 4 * k ∧ 4 * k < len + 4 ∧ ld = .int .u8 (ldn : Int) ∧ fi = .int .i64 ((4 * k : Nat) : Int) ∧ ldn < 4 ∧ (∀ j, W64 (h j)) ∧
    r.rnds = pre ++ rnds r.t k h ldn (r.zs.drop (4 * k)) ∧ J G pre wr ∧ G H ∧ (∀ b, G b → b < wr.heap.size ∧ W.heap.size ≤ b) ∧ Row wr H 24 (arr4 h) ∧ Kept S W wr
/-- at the head of a round of its inner loop -/
def InRel (a : Option Addr) (cap k m ldn T H : Nat) (h0 : Nat → Nat) (l : List Nat) (J : World → Prop) (gj : Nat) (i : Value) (wi : World) : Prop :=
  ∃ (j : Nat) (h : Nat → Nat), gj = m - j ∧ j ≤ m ∧ i = .int .i64 (j : Int) ∧ (∀ j, W64 (h j)) ∧ takeT ldn h0 0 l = takeT ldn h j (l.drop j) ∧ Row wi H 24 (arr4 h) ∧
    Row wi T 79 #[.int .u64 (h0 0 : Int), .int .u64 (h0 1 : Int), .int .u64 (h0 2 : Int), .int .u64 (h0 3 : Int), .int .u8 (ldn : Int), .int .u8 0, cardsV a cap k j] ∧ J wi
set_option maxHeartbeats 2000000 in
set_option maxRecDepth 100000 in
theorem rounds1_in (n l R : Nat) (S : Nat → Prop) (r : Rc) (a : Option Addr) (len cap : Nat) (J : (Nat → Prop) → List Rnd → World → Prop) (W : World)
    (hR : Row W R 27 (r.cells a len cap)) (hz : Byt W a len r.zs) (hok : r.ok len cap) (hR0 : S R) (ha0 : ∀ ad, a = some ad → S ad.block) (hS : ∀ b, S b → b < W.heap.size)
    (hJ : StableG W.heap.size J)
    (hY : ∀ G pre x W1, J G pre W1 → (∀ b, G b → b < W1.heap.size ∧ W.heap.size ≤ b) → (pre ++ [x]) <+: r.rnds → YieldAt Fence.wide (n - 1) Try.prog l (rndV a cap x) W1 fun e W' =>
      e = .returned (.bool true) ∧ J G (pre ++ [x]) W' ∧ (∀ b, G b → W'.heap[b]? = W1.heap[b]?) ∧ Kept S W1 W')
    (hJ0 : J noG [] W) :
    CallsIn Fence.wide n Try.prog 49 #[.func (.yield l) #[] #[], .pointer (some ⟨R, 0, none⟩)] W fun e W' => (∃ v, e = .returned v) ∧ ∃ G, J G r.rnds W' := by
  refine callsIn_of_wp Try.func49 rfl trivial ?_ rfl
  simp only [Try.ntmps49, List.size_toArray, List.length_cons, List.length_nil, Nat.reduceAdd, Nat.reduceSub, Array.replicate_succ, Array.replicate_zero, List.push_toArray, List.append_toArray, List.nil_append, List.cons_append]
  have HY := Lib.hid hY
  clear hY
  have hRl := hR.lt
  have c0 := hR.cell 0
  have c1 := hR.cell 1
  have c2 := hR.cell 2
  have c3 := hR.cell 3
  have c5 := hR.cell 5
  simp at c0 c1 c2 c3 c5
  gi_wp2
  gi_region
  gi_wp2
  generalize hd1 : ((r.d : Int) + 1) % 256 = d1
  generalize hd2 : d1 % 4 = d2
  have HD := Lib.hid (show d2 = (((r.d + 1) % 4 : Nat) : Int) by omega)
  clear hd1 hd2
  gi_loopg [4, 5] (len + 4) (RndRel r len W S W.heap.size J)
  case atStart =>
    refine ⟨[], fun b => b = W.heap.size, r.h, 0, (r.d + 1) % 4, by omega, by omega, by rw [HD.out], rfl, by omega, hok.h, rfl, ?_, rfl, ?_, Row.new W _ _, ((Kept.refl S _).alloc _).drew⟩
    · exact hJ _ _ _ _ _ hJ0 (Moves.alloc _ _ _ _).drew (fun _ h => h.elim) (fun b hb => .inr (by omega))
    · intro b hb; subst hb; simp
  case round =>
    obtain ⟨pre, G, h, k, ldn, rfl, hk, rfl, rfl, hld, hw, hL, hJr, hGH, hGb, hH, hB⟩ := hrel
    have HL := Lib.hid hL
    clear hL c0 c1 c2 c3 c5
    have c6 := (hR.kept hR0 hB).cell 6
    simp at c6
    by_cases hlt : 4 * k < len
    · obtain ⟨b, off, rfl, hb, hcs⟩ := hz.at (by omega)
      have hsm := hz.small
      have hlc := hok.lc
      have hmx := hok.mx
      have d0 := hH.cell 0
      have d1 := hH.cell 1
      have d2 := hH.cell 2
      have d3 := hH.cell 3
      simp at d0 d1 d2 d3
      by_cases hm : 4 * k + 4 ≤ len
      · gi_wp2
        have e4 : 4 * k + 4 - 4 * k = 4 := by omega
        simp only [e4]
        clear e4 d0 d1 d2 d3
        obtain ⟨wo, hwo⟩ : ∃ wo : World, wo = wr := ⟨_, rfl⟩
        subst hwo
        gi_loopg [39] 4 (InRel (some ⟨b, off, none⟩) cap k 4 ldn wo.heap.size W.heap.size h ((r.zs.drop (4 * k)).take 4) (fun wi => J (fun b => G b ∨ b = wo.heap.size) pre wi ∧ Kept S W wi ∧ wi.heap.size = wo.heap.size + 1))
        case atStart =>
          refine ⟨0, h, rfl, by omega, rfl, hw, rfl, hH.alloc _, Row.new _ _ _, ?_, hB.alloc _, by simp⟩
          exact hJ _ _ _ _ _ hJr (Moves.alloc _ _ _ _) (fun _ h => .inl h) (fun b hb => hb.imp_right (by intro e; omega))
        case round =>
          obtain ⟨j, h', rfl, hj, rfl, hw', htk, hH', hT', hJ', hB', hsz⟩ := hrel
          have HTK := Lib.hid htk
          have HSZ := Lib.hid hsz
          clear htk hsz
          have hGlt := (hGb _ hGH).1
          have t0 := hT'.cell 0
          have t1 := hT'.cell 1
          have t2 := hT'.cell 2
          have t3 := hT'.cell 3
          have t4 := hT'.cell 4
          have t5 := hT'.cell 5
          have t6 := hT'.cell 6
          have tf6 := hT'.frozen 6
          obtain ⟨ad, ca, hcv⟩ := cardsV_slice (some ⟨b, off, none⟩) cap k j (by intro e; cases e)
          simp at t0 t1 t2 t3 t4 t5
          simp [hcv] at t6
          have HCV := Lib.hid hcv
          clear hcv
          by_cases hjm : j < 4
          · have hc : wr.cell? ⟨b, off + 4 * k + j, none⟩ = some (.int .u8 ((r.zs.getD (4 * k + j) 0 : Nat) : Int)) := by
              have := (hB'.cell (p := ⟨b, off + (4 * k + j), none⟩) (ha0 ⟨b, off, none⟩ rfl) hb).trans (hcs (4 * k + j) (by omega))
              rwa [← Nat.add_assoc] at this
            have hby := hz.byte (4 * k + j)
            have hs4 : (ldn + j) % 4 < 4 := Nat.mod_lt _ (by omega)
            have hcell := (hH'.cell ((ldn + j) % 4)).trans (arr4_get h' _ hs4)
            have hfr := hH'.frozen ((ldn + j) % 4)
            have hws := hw' ((ldn + j) % 4)
            have hl4 : ((r.zs.drop (4 * k)).take 4).drop j = r.zs.getD (4 * k + j) 0 :: ((r.zs.drop (4 * k)).take 4).drop (j + 1) := by
              rw [drop_cons _ j (by simp only [List.length_take, List.length_drop]; have := hz.length; omega)]
              congr 1
              simp only [List.getD_eq_getElem?_getD, List.getElem?_take, List.getElem?_drop]
              rw [if_pos (by omega)]
            generalize r.zs.getD (4 * k + j) 0 = c at *
            have HL4 := Lib.hid hl4
            clear hl4
            cases hbit : (h' ((ldn + j) % 4)).testBit c
            · have he : takeT ldn h 0 ((r.zs.drop (4 * k)).take 4) = (h', j) := by rw [HTK.out, HL4.out, takeT, hbit]; rfl
              have HE := Lib.hid he
              clear he
              have hj4 : j < 4 := by omega
              have hle := takeT_le ldn ((r.zs.drop (4 * k)).take 4) h 0
              rw [HE.out] at hle
              have hxl : (((r.zs.drop (4 * k)).take 4).take j).length = j := by simp only [List.length_take] at *; omega
              have hne0 : r.zs.drop (4 * k) ≠ [] := by intro e; have := congrArg List.length e; simp at this; have := hz.length; omega
              have hrp := rnds_part (t := r.t) (num := k) (ld := ldn) (h := h) hne0 (by rw [HE.out]; exact Nat.ne_of_lt hj4)
              rw [HE.out] at hrp
              have HRP := Lib.hid hrp
              clear hrp
              obtain ⟨fn, tmps, assign, body, hy, hYR⟩ := HY.out (fun b => G b ∨ b = wo.heap.size) pre ⟨k, h, ldn, 0, ((r.zs.drop (4 * k)).take 4).take j⟩ wr hJ' (fun b hb => by rcases hb with hb | hb; exact ⟨by have := (hGb b hb).1; rw [HSZ.out]; omega, (hGb b hb).2⟩; subst hb; rw [HSZ.out]; exact ⟨by omega, by have := hB.size; omega⟩) (by rw [HL.out, HRP.out]; exact List.prefix_refl _)
              have hxv : rndV (some ⟨b, off, none⟩) cap ⟨k, h, ldn, 0, ((r.zs.drop (4 * k)).take 4).take j⟩ = #[.int .i64 (k : Int), .agg #[.int .u64 (h 0 : Int), .int .u64 (h 1 : Int), .int .u64 (h 2 : Int), .int .u64 (h 3 : Int), .int .u8 (ldn : Int), .int .u8 0, .slice ad j ca]] := by
                simp only [rndV]; rw [hxl, HCV.out]; rfl
              rw [hxv] at hy
              clear hxv hxl hle
              have HYR := Lib.hid hYR
              clear hYR
              have hq : (4 * (k : Int)) / 4 = (k : Int) := by omega
              have j4' : ((j : Int) == 4) = false := by simp; omega
              gi_wp2
              refine HYR.out.mono ?_
              rintro e W3 ⟨rfl, hJ3, hG3, hB3⟩
              have t6' := ((hT'.same (hG3 _ (.inr rfl))).cell 6)
              simp [HCV.out] at t6'
              gi_wp2
              refine bodyPost_ret (results_none rfl _ _ _) rfl ?_
              exact ⟨⟨_, rfl⟩, _, by rw [HL.out, HRP.out]; exact hJ3⟩
            · gi_wp2
              gi_roundg (4 - (j + 1))
              case rel =>
                have hHT : W.heap.size ≠ wo.heap.size := by omega
                refine ⟨j + 1, setH h' ((ldn + j) % 4) (landn (h' ((ldn + j) % 4)) (shl1 c)), rfl, by omega, by go_num, ?_, ?_, ?_, ?_, ?_, ?_, ?_⟩
                · intro i; unfold setH; split; exact hws.landn; exact hw' i
                · rw [HTK.out, HL4.out, takeT, if_pos hbit]
                · have := (hH'.set ((ldn + j) % 4) (.int .u64 ((landn (h' ((ldn + j) % 4)) (shl1 c) : Nat) : Int))).other (B' := wo.heap.size) (i := 6) (v := .slice (some ⟨b, off + 4 * k, none⟩) (j + 1) (cap - 4 * k)) hHT
                  rwa [arr4_set _ _ _ hs4] at this
                · have := (hT'.other (B' := W.heap.size) (i := (ldn + j) % 4) (v := .int .u64 ((landn (h' ((ldn + j) % 4)) (shl1 c) : Nat) : Int)) (Ne.symm hHT)).set 6 (.slice (some ⟨b, off + 4 * k, none⟩) (j + 1) (cap - 4 * k))
                  exact this
                · refine hJ.same (hJ.same hJ' (Moves.setCell _ (hGb _ hGH).2 (.inl hGH))) (Moves.setCell _ (by omega) (.inr rfl))
                · exact (hB'.setCell (fun h => absurd (hS _ h) (Nat.lt_irrefl _)) _).setCell (fun h => by have h1 := hS _ h; have h2 := hB.size; simp at h1; omega) _
                · simp [World.size_setCell, HSZ.out]
              case measure => omega
          · have hj4 : j = 4 := by omega
            subst hj4
            have he : takeT ldn h 0 ((r.zs.drop (4 * k)).take 4) = (h', 4) := by rw [HTK.out, List.drop_of_length_le (by simp only [List.length_take, List.length_drop]; have := hz.length; omega)]; rfl
            have HE := Lib.hid he
            clear he

            have hrf := rnds_full (t := r.t) (num := k) (ld := ldn) (h := h) (zs := r.zs.drop (4 * k)) (by rw [HE.out])
            rw [HE.out] at hrf
            have hcv := HCV.out
            simp [cardsV] at hcv
            obtain ⟨rfl, rfl⟩ := hcv
            have hll : ((r.zs.drop (4 * k)).take 4).length = 4 := by simp only [List.length_take, List.length_drop]; have := hz.length; omega
            have hgd : ∀ i, i < 4 → ((r.zs.drop (4 * k)).take 4).getD i 0 = r.zs.getD (4 * k + i) 0 := by
              intro i hi
              simp only [List.getD_eq_getElem?_getD, List.getElem?_take, List.getElem?_drop]
              rw [if_pos (by omega)]
            have hb4 : Byt wr (some ⟨b, off + 4 * k, none⟩) 4 ((r.zs.drop (4 * k)).take 4) := by
              refine ⟨hll, by omega, fun i => ?_, .inr ⟨b, off + 4 * k, rfl, ?_, fun i hi => ?_⟩⟩
              · by_cases hi : i < 4
                · rw [hgd i hi]; exact hz.byte _
                · simp only [List.getD_eq_getElem?_getD, List.getElem?_take]; rw [if_neg hi]; simp
              · exact Nat.lt_of_lt_of_le hb hB'.size
              · rw [hgd i hi, Nat.add_assoc]; exact (hB'.cell (p := ⟨b, off + (4 * k + i), none⟩) (ha0 ⟨b, off, none⟩ rfl) hb).trans (hcs (4 * k + i) (by omega))
            have hseat := trick_Seat r.t ldn _ 4 (cap - 4 * k) _ wr hb4
            have hsv := seatV_lt r.t ldn ((r.zs.drop (4 * k)).take 4)
            have HLL := Lib.hid hll
            clear hll hgd hb4
            generalize hsq : seatV r.t ldn ((r.zs.drop (4 * k)).take 4) = sq at *
            obtain ⟨sv, se⟩ := sq
            dsimp only at hsv hseat hrf
            have HRF := Lib.hid hrf
            have HSQ := Lib.hid hsq
            clear hrf hsq
            have c4 := (hR.kept hR0 hB').cell 4
            simp at c4
            gi_wp2_with fail
            refine (callsIn_wide.2 hseat).mono ?_
            rintro e w4 ⟨rfl, hb4⟩
            clear hseat t0 t1 t2 t3 t4 t5 t6 tf6 c4 c6
            have hT4 := hT'.below (by rw [HSZ.out]; omega) hb4
            have hH4 := hH'.below (by rw [HSZ.out]; omega) hb4
            have t0 := hT4.cell 0
            have t1 := hT4.cell 1
            have t2 := hT4.cell 2
            have t3 := hT4.cell 3
            have t4 := hT4.cell 4
            have t5 := hT4.cell 5
            have t6 := hT4.cell 6
            have tf5 := hT4.frozen 5
            have HCV' := HCV.out
            simp [HCV'] at t0 t1 t2 t3 t4 t5 t6
            clear HCV'
            have hTlt := hT4.lt
            have hJ4 : J (fun b => G b ∨ b = wo.heap.size) pre (w4.setCell ⟨wo.heap.size, 5, none⟩ (.int .u8 (sv : Int))) :=
              hJ.same (hJ.same hJ' (Moves.of_below hb4)) (Moves.setCell _ (by omega) (.inr rfl))
            obtain ⟨fn, tmps, assign, body, hy, hYR⟩ := HY.out (fun b => G b ∨ b = wo.heap.size) pre ⟨k, h, ldn, sv, (r.zs.drop (4 * k)).take 4⟩ _ hJ4 (fun b hb => by simp only [World.size_setCell]; have := hb4.size; rw [HSZ.out] at this; rcases hb with hb | hb; exact ⟨by have := (hGb b hb).1; omega, (hGb b hb).2⟩; subst hb; exact ⟨by omega, by have := hB.size; omega⟩) (by rw [HL.out, HRF.out]; exact ⟨_, by rw [List.append_assoc]; rfl⟩)
            have hxv : rndV (some ⟨b, off, none⟩) cap ⟨k, h, ldn, sv, (r.zs.drop (4 * k)).take 4⟩ = #[.int .i64 (k : Int), .agg #[.int .u64 (h 0 : Int), .int .u64 (h 1 : Int), .int .u64 (h 2 : Int), .int .u64 (h 3 : Int), .int .u8 (ldn : Int), .int .u8 (sv : Int), .slice (some ⟨b, off + 4 * k, none⟩) 4 (cap - 4 * k)]] := by
              simp only [rndV]; rw [HLL.out, HCV.out]
            rw [hxv] at hy
            clear hxv
            have HYR := Lib.hid hYR
            clear hYR
            have hq : (4 * (k : Int)) / 4 = (k : Int) := by omega
            gi_wp2
            refine HYR.out.mono ?_
            rintro e W3 ⟨rfl, hJ3, hG3, hB3⟩
            have t6' := (((hT4.set 5 (.int .u8 (sv : Int))).same (hG3 _ (.inr rfl))).cell 6)
            have HCV' := HCV.out
            simp [HCV'] at t6'
            clear HCV'
            gi_wp2
            gi_roundg (len + 4 - 4 * (k + 1))
            case rel =>
              have hHT : W.heap.size ≠ wo.heap.size := by omega
              have hs3 : w4.heap.size ≤ W3.heap.size := by have := hB3.size; simpa only [World.size_setCell] using this
              have hs4' := hb4.size
              refine ⟨_, _, h', k + 1, sv, rfl, by omega, rfl, by go_num, hsv, hw', ?_, hJ3, .inl hGH, fun b hb => ?_, ?_, ?_⟩
              · rw [HL.out, HRF.out]; simp [List.drop_drop, Nat.mul_add]
              · rw [HSZ.out] at hs4'
                rcases hb with hb | hb
                · exact ⟨by have := (hGb b hb).1; omega, (hGb b hb).2⟩
                · subst hb; exact ⟨by omega, by omega⟩
              · exact (hH4.other hHT).same (hG3 _ (.inl hGH))
              · exact ((hB'.trans (Kept.of_below hb4)).setCell (fun h => by have h1 := hS _ h; have h2 := hB.size; simp at h1; omega) _).trans hB3
            case measure => omega
      · obtain ⟨m, hmm⟩ : ∃ m, m = len - 4 * k := ⟨_, rfl⟩
        have hm4 : m < 4 := by omega
        gi_wp2
        rw [← hmm]
        have hmlo : 4 * k + m ≤ len := by omega
        have hmhi : len ≤ 4 * k + m := by omega
        clear hmm
        clear d0 d1 d2 d3
        obtain ⟨wo, hwo⟩ : ∃ wo : World, wo = wr := ⟨_, rfl⟩
        subst hwo
        gi_loopg [39] m (InRel (some ⟨b, off, none⟩) cap k m ldn wo.heap.size W.heap.size h ((r.zs.drop (4 * k)).take 4) (fun wi => J (fun b => G b ∨ b = wo.heap.size) pre wi ∧ Kept S W wi ∧ wi.heap.size = wo.heap.size + 1))
        case atStart =>
          refine ⟨0, h, rfl, by omega, rfl, hw, rfl, hH.alloc _, Row.new _ _ _, ?_, hB.alloc _, by simp⟩
          exact hJ _ _ _ _ _ hJr (Moves.alloc _ _ _ _) (fun _ h => .inl h) (fun b hb => hb.imp_right (by intro e; omega))
        case round =>
          obtain ⟨j, h', rfl, hj, rfl, hw', htk, hH', hT', hJ', hB', hsz⟩ := hrel
          have HTK := Lib.hid htk
          have HSZ := Lib.hid hsz
          clear htk hsz
          have hGlt := (hGb _ hGH).1
          have t0 := hT'.cell 0
          have t1 := hT'.cell 1
          have t2 := hT'.cell 2
          have t3 := hT'.cell 3
          have t4 := hT'.cell 4
          have t5 := hT'.cell 5
          have t6 := hT'.cell 6
          have tf6 := hT'.frozen 6
          obtain ⟨ad, ca, hcv⟩ := cardsV_slice (some ⟨b, off, none⟩) cap k j (by intro e; cases e)
          simp at t0 t1 t2 t3 t4 t5
          simp [hcv] at t6
          have HCV := Lib.hid hcv
          clear hcv
          by_cases hjm : j < m
          · have hc : wr.cell? ⟨b, off + 4 * k + j, none⟩ = some (.int .u8 ((r.zs.getD (4 * k + j) 0 : Nat) : Int)) := by
              have := (hB'.cell (p := ⟨b, off + (4 * k + j), none⟩) (ha0 ⟨b, off, none⟩ rfl) hb).trans (hcs (4 * k + j) (by omega))
              rwa [← Nat.add_assoc] at this
            have hby := hz.byte (4 * k + j)
            have hs4 : (ldn + j) % 4 < 4 := Nat.mod_lt _ (by omega)
            have hcell := (hH'.cell ((ldn + j) % 4)).trans (arr4_get h' _ hs4)
            have hfr := hH'.frozen ((ldn + j) % 4)
            have hws := hw' ((ldn + j) % 4)
            have hl4 : ((r.zs.drop (4 * k)).take 4).drop j = r.zs.getD (4 * k + j) 0 :: ((r.zs.drop (4 * k)).take 4).drop (j + 1) := by
              rw [drop_cons _ j (by simp only [List.length_take, List.length_drop]; have := hz.length; omega)]
              congr 1
              simp only [List.getD_eq_getElem?_getD, List.getElem?_take, List.getElem?_drop]
              rw [if_pos (by omega)]
            generalize r.zs.getD (4 * k + j) 0 = c at *
            have HL4 := Lib.hid hl4
            clear hl4
            cases hbit : (h' ((ldn + j) % 4)).testBit c
            · have he : takeT ldn h 0 ((r.zs.drop (4 * k)).take 4) = (h', j) := by rw [HTK.out, HL4.out, takeT, hbit]; rfl
              have HE := Lib.hid he
              clear he
              have hj4 : j < 4 := by omega
              have hle := takeT_le ldn ((r.zs.drop (4 * k)).take 4) h 0
              rw [HE.out] at hle
              have hxl : (((r.zs.drop (4 * k)).take 4).take j).length = j := by simp only [List.length_take] at *; omega
              have hne0 : r.zs.drop (4 * k) ≠ [] := by intro e; have := congrArg List.length e; simp at this; have := hz.length; omega
              have hrp := rnds_part (t := r.t) (num := k) (ld := ldn) (h := h) hne0 (by rw [HE.out]; exact Nat.ne_of_lt hj4)
              rw [HE.out] at hrp
              have HRP := Lib.hid hrp
              clear hrp
              obtain ⟨fn, tmps, assign, body, hy, hYR⟩ := HY.out (fun b => G b ∨ b = wo.heap.size) pre ⟨k, h, ldn, 0, ((r.zs.drop (4 * k)).take 4).take j⟩ wr hJ' (fun b hb => by rcases hb with hb | hb; exact ⟨by have := (hGb b hb).1; rw [HSZ.out]; omega, (hGb b hb).2⟩; subst hb; rw [HSZ.out]; exact ⟨by omega, by have := hB.size; omega⟩) (by rw [HL.out, HRP.out]; exact List.prefix_refl _)
              have hxv : rndV (some ⟨b, off, none⟩) cap ⟨k, h, ldn, 0, ((r.zs.drop (4 * k)).take 4).take j⟩ = #[.int .i64 (k : Int), .agg #[.int .u64 (h 0 : Int), .int .u64 (h 1 : Int), .int .u64 (h 2 : Int), .int .u64 (h 3 : Int), .int .u8 (ldn : Int), .int .u8 0, .slice ad j ca]] := by
                simp only [rndV]; rw [hxl, HCV.out]; rfl
              rw [hxv] at hy
              clear hxv hxl hle
              have HYR := Lib.hid hYR
              clear hYR
              have hq : (4 * (k : Int)) / 4 = (k : Int) := by omega
              have j4' : ((j : Int) == 4) = false := by simp; omega
              gi_wp2
              refine HYR.out.mono ?_
              rintro e W3 ⟨rfl, hJ3, hG3, hB3⟩
              have t6' := ((hT'.same (hG3 _ (.inr rfl))).cell 6)
              simp [HCV.out] at t6'
              gi_wp2
              refine bodyPost_ret (results_none rfl _ _ _) rfl ?_
              exact ⟨⟨_, rfl⟩, _, by rw [HL.out, HRP.out]; exact hJ3⟩
            · gi_wp2
              gi_roundg (m - (j + 1))
              case rel =>
                have hHT : W.heap.size ≠ wo.heap.size := by omega
                refine ⟨j + 1, setH h' ((ldn + j) % 4) (landn (h' ((ldn + j) % 4)) (shl1 c)), rfl, by omega, by go_num, ?_, ?_, ?_, ?_, ?_, ?_, ?_⟩
                · intro i; unfold setH; split; exact hws.landn; exact hw' i
                · rw [HTK.out, HL4.out, takeT, if_pos hbit]
                · have := (hH'.set ((ldn + j) % 4) (.int .u64 ((landn (h' ((ldn + j) % 4)) (shl1 c) : Nat) : Int))).other (B' := wo.heap.size) (i := 6) (v := .slice (some ⟨b, off + 4 * k, none⟩) (j + 1) (cap - 4 * k)) hHT
                  rwa [arr4_set _ _ _ hs4] at this
                · have := (hT'.other (B' := W.heap.size) (i := (ldn + j) % 4) (v := .int .u64 ((landn (h' ((ldn + j) % 4)) (shl1 c) : Nat) : Int)) (Ne.symm hHT)).set 6 (.slice (some ⟨b, off + 4 * k, none⟩) (j + 1) (cap - 4 * k))
                  exact this
                · refine hJ.same (hJ.same hJ' (Moves.setCell _ (hGb _ hGH).2 (.inl hGH))) (Moves.setCell _ (by omega) (.inr rfl))
                · exact (hB'.setCell (fun h => absurd (hS _ h) (Nat.lt_irrefl _)) _).setCell (fun h => by have h1 := hS _ h; have h2 := hB.size; simp at h1; omega) _
                · simp [World.size_setCell, HSZ.out]
              case measure => omega
          · have hj4 : j = m := by omega
            subst hj4
            have he : takeT ldn h 0 ((r.zs.drop (4 * k)).take 4) = (h', j) := by rw [HTK.out, List.drop_of_length_le (by simp only [List.length_take, List.length_drop]; have := hz.length; omega)]; rfl
            have HE := Lib.hid he
            clear he
            have hj4 : j < 4 := hm4
            have hle := takeT_le ldn ((r.zs.drop (4 * k)).take 4) h 0
            rw [HE.out] at hle
            have hxl : (((r.zs.drop (4 * k)).take 4).take j).length = j := by simp only [List.length_take] at *; omega
            have hne0 : r.zs.drop (4 * k) ≠ [] := by intro e; have := congrArg List.length e; simp at this; have := hz.length; omega
            have hrp := rnds_part (t := r.t) (num := k) (ld := ldn) (h := h) hne0 (by rw [HE.out]; exact Nat.ne_of_lt hj4)
            rw [HE.out] at hrp
            have HRP := Lib.hid hrp
            clear hrp
            obtain ⟨fn, tmps, assign, body, hy, hYR⟩ := HY.out (fun b => G b ∨ b = wo.heap.size) pre ⟨k, h, ldn, 0, ((r.zs.drop (4 * k)).take 4).take j⟩ wr hJ' (fun b hb => by rcases hb with hb | hb; exact ⟨by have := (hGb b hb).1; rw [HSZ.out]; omega, (hGb b hb).2⟩; subst hb; rw [HSZ.out]; exact ⟨by omega, by have := hB.size; omega⟩) (by rw [HL.out, HRP.out]; exact List.prefix_refl _)
            have hxv : rndV (some ⟨b, off, none⟩) cap ⟨k, h, ldn, 0, ((r.zs.drop (4 * k)).take 4).take j⟩ = #[.int .i64 (k : Int), .agg #[.int .u64 (h 0 : Int), .int .u64 (h 1 : Int), .int .u64 (h 2 : Int), .int .u64 (h 3 : Int), .int .u8 (ldn : Int), .int .u8 0, .slice ad j ca]] := by
              simp only [rndV]; rw [hxl, HCV.out]; rfl
            rw [hxv] at hy
            clear hxv hxl hle
            have HYR := Lib.hid hYR
            clear hYR
            have hq : (4 * (k : Int)) / 4 = (k : Int) := by omega
            have j4' : ((j : Int) == 4) = false := by simp; omega
            gi_wp2
            refine HYR.out.mono ?_
            rintro e W3 ⟨rfl, hJ3, hG3, hB3⟩
            have t6' := ((hT'.same (hG3 _ (.inr rfl))).cell 6)
            simp [HCV.out] at t6'
            gi_wp2
            refine bodyPost_ret (results_none rfl _ _ _) rfl ?_
            exact ⟨⟨_, rfl⟩, _, by rw [HL.out, HRP.out]; exact hJ3⟩
    · gi_wp2
      go_end0
      refine ⟨⟨_, rfl⟩, G, ?_⟩
      rw [HL.out, List.drop_of_length_le (by have := hz.length; omega)]
      simpa [rnds] using hJr
end Go.Proofs.Ytdlnilebnobllaa
