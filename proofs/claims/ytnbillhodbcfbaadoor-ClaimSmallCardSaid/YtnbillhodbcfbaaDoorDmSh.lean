/- dummy.shrink over this seat's program. -/
import Derived.Test.YtnbillhodbcfbaaDoorDmZ
import Derived.Test.YtnbillhodbcfbaaDoorMRel
namespace Go.Proofs.YtnbillhodbcfbaaDoor
open Go.RowKit Go.Sort Go.Shelf
attribute [local go_sem] Oper.semAt_some

def deA (h : Nat → Nat) : Array Value := #[.int .u64 (h 0 : Int), .int .u64 (h 1 : Int), .int .u64 (h 2 : Int), .int .u64 (h 3 : Int)]
theorem deA_one (h : Nat → Nat) : (deA h).all (·.oneCell') = true := by simp [deA, Value.oneCell']
theorem deA_at (h : Nat → Nat) {s : Nat} (hs : s < 4) : (deA h)[s]? = some (.int .u64 (h s : Int)) := by
  rcases (show s = 0 ∨ s = 1 ∨ s = 2 ∨ s = 3 by omega) with rfl | rfl | rfl | rfl <;> rfl
theorem size_de : (Tryd.prog.info? 24).map (·.size) = some 4 := by kernel_rfl
set_option maxRecDepth 10000 in
theorem deA_ix (h : Nat → Nat) {s : Nat} (hs : s < 4) (W : World) : (Instr.index 24 (.agg #[.int .u64 (h 0 : Int), .int .u64 (h 1 : Int), .int .u64 (h 2 : Int), .int .u64 (h 3 : Int)]) (.int .i64 (s : Int))).run Tryd.prog W = .ok (.int .u64 (h s : Int)) W := by
  rcases (show s = 0 ∨ s = 1 ∨ s = 2 ∨ s = 3 by omega) with rfl | rfl | rfl | rfl <;> rfl
theorem deA_set (f g : Nat → Nat) {k : Nat} (hk : k < 4) : (deA fun i => if i < k then g i else f i).setIfInBounds k (.int .u64 (g k : Int)) = deA fun i => if i < k + 1 then g i else f i := by
  rcases (show k = 0 ∨ k = 1 ∨ k = 2 ∨ k = 3 by omega) with rfl | rfl | rfl | rfl <;> simp [deA]
theorem deA_congr {f g : Nat → Nat} (h : ∀ i, i < 4 → f i = g i) : deA f = deA g := by
  unfold deA
  rw [h 0 (by decide), h 1 (by decide), h 2 (by decide), h 3 (by decide)]
theorem But.stays {B Bm C : Nat} {K : Nat → Prop} {W W' : World} (h : But B Bm W W') (hB : W.heap.size ≤ B) (hK : ∀ i, K i ∨ C ≤ i → i ≠ Bm) : Stays K C W W' :=
  ⟨h.size, fun i hi hlt => h.same i (Nat.lt_of_lt_of_le hlt hB) (hK i hi)⟩
theorem results_cell1 {P : Program} {fn : Func} {p : Tmp} {ty : TypeId} (h : fn.results = #[.cell p ty]) (tmps : Array Value) (w : World) (g : Nat) (t : TypeId) (cs : Array Value) (fr : Nat × Nat) (d : TypeDesc)
    (hp : tmps.getD p undef = .pointer (some ⟨g, 0, none⟩)) (hg : w.heap[g]? = some (.cells cs t fr))
    (hu : P.underlying ty = some d) (hd : (match d with | .struct _ | .array _ _ => true | _ => false) = true) (hi : (P.info? ty).map (·.size) = some cs.size) :
    (results fn tmps).run P w = .ok (.agg cs) w := by
  have hp' : tmps[p]?.getD undef = .pointer (some ⟨g, 0, none⟩) := by simpa using hp
  simp [results, h, hp', asAddr, run_loadVar_row w g t ty cs fr d hg hu hd hi]
theorem row_new {w : World} {n : Nat} (hn : w.heap.size = n) (t : TypeId) (cs : Array Value) : Row (w.alloc (.cells cs t)) n t cs := hn ▸ Row.new w t cs
theorem wrap_bitPut (m c : Nat) {p : Nat} (hp : p < 52) : IntKind.u64.wrap ((bitAt m c : Int) * 2 ^ p) = ((bitPut m c p : Nat) : Int) := by
  have h1 : (2 : Nat) ^ p < 2 ^ 64 := Nat.pow_lt_pow_right (by decide) (by omega)
  rw [bitAt_eq, IntKind.wrap_u64]
  unfold bitPut shl1
  rw [if_pos (show p < 64 by omega)]
  cases m.testBit c
  · simp
  · have h2 : ((2 : Int) ^ p) = ((2 ^ p : Nat) : Int) := by simp
    simp only [Bool.toNat_true, if_true, Int.natCast_one, Int.one_mul]
    rw [h2]
    generalize (2 : Nat) ^ p = x at *
    omega
/-- what lies there behind some cards: the suit, the next place, the hands -/
structure ShI (h : Nat → Nat) (b0 b2 bT : Nat) (w0 : World) (l : List Nat) (f : Nat → Nat) (W : World) : Prop where
  d : Row W b0 24 (deA h)
  r : Row W b2 24 (deA fun _ => 0)
  t : Row W bT 24 (deA f)
  s : Row W (bT + 1) 5 #[.int .u8 ((shSt l).1 : Int)]
  p : Row W (bT + 1 + 1) 5 #[.int .u8 ((shSt l).2 : Int)]
  b : Below b0 w0 W
set_option maxHeartbeats 2000000 in
set_option maxRecDepth 10000 in
theorem dm_shrink (h : Nat → Nat) (hh : In52 h) (w : World) (hT : Tab w) : Calls Tryd.prog 85 #[.agg (deA h)] w fun e w' =>
    e = .returned (.agg (deA (shr4 h))) ∧ Below w.heap.size w w' := by
  have HK := Lib.hid hh
  have HT := Lib.hid hT
  have hw0 := hh.w64 (s := 0) (by decide)
  have hw1 := hh.w64 (s := 1) (by decide)
  have hw2 := hh.w64 (s := 2) (by decide)
  have hw3 := hh.w64 (s := 3) (by decide)
  obtain ⟨b0, hb0⟩ : ∃ b, w.heap.size = b := ⟨_, rfl⟩
  have HB0 := Lib.hid hb0
  refine (callsIn_wide (n := 9)).1 (callsIn_of_wp_marks Tryd.func85 rfl trivial ?_)
  simp only [Tryd.ntmps85, List.size_toArray, List.length_cons, List.length_nil, Nat.reduceAdd, Nat.reduceSub, Array.replicate_succ, Array.replicate_zero, List.push_toArray, List.append_toArray, List.nil_append, List.cons_append]
  refine wpIn_wide.2 ?_
  go_upto_region 3 with fail
  have s1 : (w.alloc (.cells (deA h) 24)).heap.size = b0 + 1 := by rw [World.size_alloc, hb0]
  have s2 : ((w.alloc (.cells (deA h) 24)).alloc (.cells #[.int .u64 0, .int .u64 0, .int .u64 0, .int .u64 0] 24)).heap.size = b0 + 1 + 1 := by rw [World.size_alloc, s1]
  have s3 : (((w.alloc (.cells (deA h) 24)).alloc (.cells #[.int .u64 0, .int .u64 0, .int .u64 0, .int .u64 0] 24)).alloc (.cells #[.int .u64 0, .int .u64 0, .int .u64 0, .int .u64 0] 24)).heap.size = b0 + 1 + 1 + 1 := by rw [World.size_alloc, s2]
  have s4 : ((((w.alloc (.cells (deA h) 24)).alloc (.cells #[.int .u64 0, .int .u64 0, .int .u64 0, .int .u64 0] 24)).alloc (.cells #[.int .u64 0, .int .u64 0, .int .u64 0, .int .u64 0] 24)).alloc (.cells #[.int .u8 0] 5)).heap.size = b0 + 1 + 1 + 1 + 1 := by rw [World.size_alloc, s3]
  have hI : ShI h b0 (b0 + 1) (b0 + 1 + 1) w [] (fun _ => 0) (((((w.alloc (.cells (deA h) 24)).alloc (.cells #[.int .u64 0, .int .u64 0, .int .u64 0, .int .u64 0] 24)).alloc (.cells #[.int .u64 0, .int .u64 0, .int .u64 0, .int .u64 0] 24)).alloc (.cells #[.int .u8 0] 5)).alloc (.cells #[.int .u8 0] 5)) :=
    ⟨((((row_new hb0 _ _).alloc _).alloc _).alloc _).alloc _, (((row_new s1 _ _).alloc _).alloc _).alloc _, ((row_new s2 _ _).alloc _).alloc _, (row_new s3 _ _).alloc _, row_new s4 _ _,
      (((((Below.refl b0 w).alloc (by omega) _).alloc (by omega) _).alloc (by omega) _).alloc (by omega) _).alloc (by omega) _⟩
  have HSZ : Hid ((((((w.alloc (.cells (deA h) 24)).alloc (.cells #[.int .u64 0, .int .u64 0, .int .u64 0, .int .u64 0] 24)).alloc (.cells #[.int .u64 0, .int .u64 0, .int .u64 0, .int .u64 0] 24)).alloc (.cells #[.int .u8 0] 5)).alloc (.cells #[.int .u8 0] 5)).heap.size = b0 + 1 + 1 + 1 + 1 + 1) := Lib.hid (by rw [World.size_alloc, s4])
  have HI := Lib.hid hI
  clear s1 s2 s3 s4 hI hb0 hT hh
  generalize ((((w.alloc (.cells (deA h) 24)).alloc (.cells #[.int .u64 0, .int .u64 0, .int .u64 0, .int .u64 0] 24)).alloc (.cells #[.int .u64 0, .int .u64 0, .int .u64 0, .int .u64 0] 24)).alloc (.cells #[.int .u8 0] 5)).alloc (.cells #[.int .u8 0] 5) = W5 at *
  obtain ⟨b2, hb2⟩ : ∃ b, b0 + 1 = b := ⟨_, rfl⟩
  obtain ⟨bT, hbT⟩ : ∃ b, b2 + 1 = b := ⟨_, rfl⟩
  have HB2 := Lib.hid hb2
  have HBT := Lib.hid hbT
  rw [hb2, hbT] at HI HSZ ⊢
  clear hb2 hbT
  have d0 := HI.out.d.cell 0
  have d1 := HI.out.d.cell 1
  have d2 := HI.out.d.cell 2
  have d3 := HI.out.d.cell 3
  simp only [deA, List.getElem?_toArray, List.getElem?_cons_zero, List.getElem?_cons_succ] at d0 d1 d2 d3
  have hall : Hid (allM h = allM h) := Lib.hid rfl
  have HAW := Lib.hid HK.out.all
  have HAD : Hid (allM h = lor (lor (lor (h 0) (h 1)) (h 2)) (h 3)) := Lib.hid rfl
  have hw012 : W64 (lor (lor (h 0) (h 1)) (h 2)) := (hw0.lor hw1).lor hw2
  go_upto_region 4 with (refine (dm_cards (lor (lor (lor (h 0) (h 1)) (h 2)) (h 3)) _).mono ?_; rintro e w9 ⟨rfl, rfl⟩)
  clear hw012
  rw [← HAD.out]
  obtain ⟨all, hal⟩ : ∃ a, allM h = a := ⟨_, rfl⟩
  have HAL := Lib.hid hal
  have hmw := HAW.out
  rw [hal] at hmw ⊢
  clear hal hall HAD d0 d1 d2 d3 hw0 hw1 hw2 hw3
  have HDG := Lib.hid (show 0 < b0 by rw [← HB0.out]; exact HT.out.pos)
  have HL52 : Hid (∀ pre suf x, bitsList all = pre ++ x :: suf → (x : Fin 64).val < 52) := Lib.hid (by
    intro pre suf x hx
    have : x.val ∈ (bitsList all).map Fin.val := by rw [hx]; simp
    obtain ⟨s, hs, hb⟩ := (allM_bit h x.val).1 (by rw [HAL.out]; exact (mem_bits hmw).1 this)
    exact HK.out s hs _ hb)
  have HMW := Lib.hid hmw
  refine (wpIn_wide (n := 9)).1 ?_
  refine range_dm W5.heap.size all (by decide) rfl (by simp) hmw (Row.new W5 _ _)
    (fun pre W => ShI h b0 b2 bT w (pre.map Fin.val) (shH all h (pre.map Fin.val)) W)
    (fun _ _ _ _ => False) ?shut (fun _ _ _ _ _ h _ => h.elim) ?tab ?start ?body ?done ?stop
  case shut =>
    intro pre A B hA hb
    have h1 := HSZ.out
    have h2 := HB2.out
    have h3 := HBT.out
    rw [World.size_alloc, h1] at hb
    exact ⟨hb.row hA.d (by omega) (by omega), hb.row hA.r (by omega) (by omega), hb.row hA.t (by omega) (by omega), hb.row hA.s (by omega) (by omega), hb.row hA.p (by omega) (by omega), hb.below hA.b (by omega) (by omega)⟩
  case tab => exact fun pre A hA => HT.out.below HDG.out hA.b
  case start =>
    have hi := HI.out
    have h1 := HSZ.out
    have h2 := HB2.out
    have h3 := HBT.out
    exact ⟨hi.d.alloc _, hi.r.alloc _, hi.t.alloc _, hi.s.alloc _, hi.p.alloc _, hi.b.alloc (by omega) _⟩
  case body =>
    rintro l pre suf x W hx hI hsz
    simp only [inFrame, List.setIfInBounds_toArray, List.set_cons_succ, List.set_cons_zero]
    have hx52 := HL52.out _ _ _ hx
    have hP := shP_low hx hx52
    have HS := Lib.hid (shSt_snoc (pre.map Fin.val) x.val)
    have HH := Lib.hid (fun i => shH_snoc all h (pre.map Fin.val) x.val i)
    have HTW : Hid (∀ i, W64 (shH all h (pre.map Fin.val) i)) := Lib.hid fun i => shH_w64 ..
    have hl52 : low all x.val < 52 := by
      have h2 := rk_lt all x.val
      unfold low
      omega
    clear hx
    have HIW := Lib.hid hI
    clear hI
    obtain ⟨T, hTT⟩ : ∃ T, shH all h (pre.map Fin.val) = T := ⟨_, rfl⟩
    obtain ⟨st, hst⟩ : ∃ t, shSt (pre.map Fin.val) = t := ⟨_, rfl⟩
    obtain ⟨c, hc⟩ : ∃ c, x.val = c := ⟨_, rfl⟩
    obtain ⟨lc, hlc⟩ : ∃ y, low all x.val = y := ⟨_, rfl⟩
    have HCX := Lib.hid hc
    have HLC := Lib.hid hlc
    have i1 := HIW.out.d
    have i2 := HIW.out.r
    have i3 := HIW.out.t
    have i4 := HIW.out.s
    have i5 := HIW.out.p
    have HB6 := Lib.hid HIW.out.b
    rw [hTT] at HTW HH i3
    rw [hst] at hP HS i4 i5
    rw [hlc] at hl52 hP HH
    rw [hc] at hP hx52 HS HH ⊢
    clear hTT hst hc hlc HIW
    have h4 := i4.cell 0
    have h5 := i5.cell 0
    simp only [List.getElem?_toArray, List.getElem?_cons_zero] at h4 h5
    have f4 := i4.frozen 0
    have f5 := i5.frozen 0
    obtain ⟨q, hq⟩ : ∃ q, c / 13 = q := ⟨_, rfl⟩
    have hdc : (c : Int) / 13 = (q : Int) := by omega
    have hq4 : q < 4 := by omega
    unfold shP at hP
    rw [hq] at hP
    have HQ := Lib.hid hq
    have I1 := Lib.hid i1
    have I2 := Lib.hid i2
    have I3 := Lib.hid i3
    have I4 := Lib.hid i4
    have I5 := Lib.hid i5
    obtain ⟨s, pl⟩ := st
    clear i1 i2 i3 i4 i5 hq
    dsimp only at h4 h5 hP
    by_cases hqs : q = s
    · subst hqs
      rw [if_pos rfl] at hP
      subst hP
      have hqd : ((q : Int) != (q : Int)) = false := by simp
      obtain ⟨W6, HW6⟩ : ∃ V, V = W := ⟨_, rfl⟩
      subst HW6
      have HS6 : Hid (Stays (· = W5.heap.size) (W5.heap.size + 1) W6 W6) := Lib.hid (Stays.refl _ _ _)
      have d0 := I1.out.cell 0
      have d1 := I1.out.cell 1
      have d2 := I1.out.cell 2
      have d3 := I1.out.cell 3
      simp only [deA, List.getElem?_toArray, List.getElem?_cons_zero, List.getElem?_cons_succ] at d0 d1 d2 d3
      gi_wp2_with fail
      clear d0 d1 d2 d3
      gi_loopw [7, 8, 31] (fun _ _ i wr => ∃ (k : Nat), k ≤ 4 ∧ i = .int .i64 (k : Int) ∧ Row wr bT 24 (deA fun j => if j < k then lor (T j) (bitPut (h j) c pl) else T j) ∧ But W6.heap.size bT W6 wr) (fun _ _ i _ => 4 - (intOf i).toNat)
      case atStart => exact ⟨0, by omega, rfl, I3.out, But.refl _ _ _⟩
      case round =>
        obtain ⟨k, hk, rfl, hX, hB⟩ := hrel
        have HX := Lib.hid hX
        have HB := Lib.hid hB
        clear hX hB
        by_cases hk4 : k < 4
        · have hdk : decide ((k : Int) < 4) = true := by simp; omega
          have hki : (k : Int) < 4 := by omega
          have hidx := deA_ix h hk4
          gi_wp2_with fail
          have HHW := Lib.hid (HK.out.w64 hk4)
          have HTk := Lib.hid (HTW.out k)
          have hf5 : Hid (∀ W, But W6.heap.size bT W6 W → W.cell? ⟨bT + 1 + 1, 0, none⟩ = some (.int .u8 (pl : Int))) := Lib.hid fun W hb => (hb.row I5.out I5.out.lt (by omega)).cell 0
          refine wpIn_region_reliesS (FV [.int .i64 (k : Int), .pointer (some ⟨bT, k, none⟩), .int .u64 (T k : Int), .int .u64 (h k : Int), .int .u8 (c : Int), .int .u64 ((shr (h k) c : Nat) : Int), .int .u64 ((bitAt (h k) c : Nat) : Int), .int .u8 (pl : Int), .int .u64 ((bitPut (h k) c pl : Nat) : Int), .int .u64 ((lor (T k) (bitPut (h k) c pl) : Nat) : Int), .pointer (some ⟨bT, k, none⟩), undef] 11
            (fun b W => But W6.heap.size bT W6 W ∧ Row W bT 24 (deA fun j => if j < (if b then k + 1 else k) then lor (T j) (bitPut (h j) c pl) else T j))) (by kernel_rfl) (by kernel_rfl) (by kernel_rfl) (by kernel_rfl) (by kernel_rfl) (FV.start _ _ ⟨HB.out.trans (But.of_below (Below.refl _ _).drew), HX.out.later (Below.refl _ _).drew⟩) ?obls ?fini
          case obls =>
            refine ⟨?_, ?_, ?_, ?_, ?_, ?_, ?_, ?_, ?_, ?_, ?_, ?_, trivial⟩
            · rintro ρ f W hF hfi hw hcl hf
              have f7 : ρ (.tmp 7) = .int .i64 (k : Int) := hf.1 7 (by simp [Op.operands])
              refine ok_value (v := .int .i64 (k : Int)) (w' := W) ?_ (hF.pure 0 _ (by decide) rfl fun _ h => h)
              simp [execOp, f7]
            · rintro ρ f W hF hfi hw hcl hf
              have f3 : ρ (.tmp 3) = .pointer (some ⟨bT, 0, none⟩) := hf.1 3 (by simp [Op.operands])
              have f35 : ρ (.tmp 35) = .int .i64 (k : Int) := hF.val 0 _ _ (hf.1 35 (by simp [Op.operands])) rfl
              refine ok_value (v := .pointer (some ⟨bT, k, none⟩)) (w' := W) ?_ (hF.pure 1 _ (by decide) rfl fun _ h => h)
              simp [execOp, f3, f35, go_sem, hki]
            · rintro ρ f W hF hfi hw hcl hf
              have f36 : ρ (.tmp 36) = .pointer (some ⟨bT, k, none⟩) := hF.val 1 _ _ (hf.1 36 (by simp [Op.operands])) rfl
              have hn : f 11 = none := by
                cases hb : f 11 with
                | none => rfl
                | some v =>
                  have h1 := hcl 11 (by rw [hb]; rfl) 9 (List.contains_iff_mem.1 (by kernel_rfl))
                  have h2 := hcl 9 h1 2 (List.contains_iff_mem.1 (by kernel_rfl))
                  rw [hfi] at h2
                  cases h2
              have hs := hF.st
              rw [hn] at hs
              have ck : W.cell? ⟨bT, k, none⟩ = some (.int .u64 (T k : Int)) := (hs.2.cell k).trans (by rw [deA_at _ hk4]; simp)
              refine ok_value (v := .int .u64 (T k : Int)) (w' := W) ?_ (hF.pure 2 _ (by decide) rfl fun _ h => h)
              simp [execOp, f36, go_sem, ck]
            · rintro ρ f W hF hfi hw hcl hf
              have f8 : ρ (.tmp 8) = .int .u64 (h k : Int) := hf.1 8 (by simp [Op.operands])
              refine ok_value (v := .int .u64 (h k : Int)) (w' := W) ?_ (hF.pure 3 _ (by decide) rfl fun _ h => h)
              simp [execOp, f8]
            · rintro ρ f W hF hfi hw hcl hf
              have f6 : ρ (.tmp 6) = .int .u8 (c : Int) := hf.1 6 (by simp [Op.operands])
              refine ok_value (v := .int .u8 (c : Int)) (w' := W) ?_ (hF.pure 4 _ (by decide) rfl fun _ h => h)
              simp [execOp, f6]
            · rintro ρ f W hF hfi hw hcl hf
              have f38 : ρ (.tmp 38) = .int .u64 (h k : Int) := hF.val 3 _ _ (hf.1 38 (by simp [Op.operands])) rfl
              have f39 : ρ (.tmp 39) = .int .u8 (c : Int) := hF.val 4 _ _ (hf.1 39 (by simp [Op.operands])) rfl
              have hsr : (h k : Int) / 2 ^ c = ((shr (h k) c : Nat) : Int) := by unfold shr; rw [Nat.shiftRight_eq_div_pow]; simp
              refine ok_value (v := .int .u64 ((shr (h k) c : Nat) : Int)) (w' := W) ?_ (hF.pure 5 _ (by decide) rfl fun _ h => h)
              simp [execOp, f38, f39, go_sem, hsr]
            · rintro ρ f W hF hfi hw hcl hf
              have f40 : ρ (.tmp 40) = .int .u64 ((shr (h k) c : Nat) : Int) := hF.val 5 _ _ (hf.1 40 (by simp [Op.operands])) rfl
              have hba := run_bit64 (h k) c HHW.out
              refine ok_value (v := .int .u64 ((bitAt (h k) c : Nat) : Int)) (w' := W) ?_ (hF.pure 6 _ (by decide) rfl fun _ h => h)
              simp [execOp, f40, go_sem, hf.2.1, hba]
            · rintro ρ f W hF hfi hw hcl hf
              have f5 : ρ (.tmp 5) = .pointer (some ⟨bT + 1 + 1, 0, none⟩) := hf.1 5 (by simp [Op.operands])
              have ck := hf5.out W hF.st.1
              refine ok_value (v := .int .u8 (pl : Int)) (w' := W) ?_ (hF.pure 7 _ (by decide) rfl fun _ h => h)
              simp [execOp, f5, go_sem, ck]
            · rintro ρ f W hF hfi hw hcl hf
              have f41 : ρ (.tmp 41) = .int .u64 ((bitAt (h k) c : Nat) : Int) := hF.val 6 _ _ (hf.1 41 (by simp [Op.operands])) rfl
              have f42 : ρ (.tmp 42) = .int .u8 (pl : Int) := hF.val 7 _ _ (hf.1 42 (by simp [Op.operands])) rfl
              have hsl := wrap_bitPut (h k) c hl52
              refine ok_value (v := .int .u64 ((bitPut (h k) c pl : Nat) : Int)) (w' := W) ?_ (hF.pure 8 _ (by decide) rfl fun _ h => h)
              simp [execOp, f41, f42, go_sem, hsl]
            · rintro ρ f W hF hfi hw hcl hf
              have f37 : ρ (.tmp 37) = .int .u64 (T k : Int) := hF.val 2 _ _ (hf.1 37 (by simp [Op.operands])) rfl
              have f43 : ρ (.tmp 43) = .int .u64 ((bitPut (h k) c pl : Nat) : Int) := hF.val 8 _ _ (hf.1 43 (by simp [Op.operands])) rfl
              have hor := run_or64 (T k) (bitPut (h k) c pl) HTk.out (bitPut_w64 ..)
              refine ok_value (v := .int .u64 ((lor (T k) (bitPut (h k) c pl) : Nat) : Int)) (w' := W) ?_ (hF.pure 9 _ (by decide) rfl fun _ h => h)
              simp [execOp, f37, f43, go_sem, hor]
            · rintro ρ f W hF hfi hw hcl hf
              have f3 : ρ (.tmp 3) = .pointer (some ⟨bT, 0, none⟩) := hf.1 3 (by simp [Op.operands])
              have f35 : ρ (.tmp 35) = .int .i64 (k : Int) := hF.val 0 _ _ (hf.1 35 (by simp [Op.operands])) rfl
              refine ok_value (v := .pointer (some ⟨bT, k, none⟩)) (w' := W) ?_ (hF.pure 10 _ (by decide) rfl fun _ h => h)
              simp [execOp, f3, f35, go_sem, hki]
            · rintro ρ f W hF hfi hw hcl hf
              have f45 : ρ (.tmp 45) = .pointer (some ⟨bT, k, none⟩) := hF.val 10 _ _ (hf.1 45 (by simp [Op.operands])) rfl
              have f44 : ρ (.tmp 44) = .int .u64 ((lor (T k) (bitPut (h k) c pl) : Nat) : Int) := hF.val 9 _ _ (hf.1 44 (by simp [Op.operands])) rfl
              have hs := hF.st
              rw [hfi] at hs
              have ck : W.cell? ⟨bT, k, none⟩ = some (.int .u64 (T k : Int)) := (hs.2.cell k).trans (by rw [deA_at _ hk4]; simp)
              have fk := hs.2.frozen k
              refine ok_skip (w' := W.setCell ⟨bT, k, none⟩ (.int .u64 ((lor (T k) (bitPut (h k) c pl) : Nat) : Int))) ?_ (hF.write _ rfl hfi fun hd => ⟨hd.1.trans (But.setCell _ _ _), ?_⟩)
              · simp [execOp, f45, f44, go_sem, ck, fk]
              · have hd2 := hd.2.set k (.int .u64 ((lor (T k) (bitPut (h k) c pl) : Nat) : Int))
                simp only [Bool.false_eq_true, if_false] at hd2
                rw [deA_set T (fun j => lor (T j) (bitPut (h j) c pl)) hk4] at hd2
                simp only [if_true]
                exact hd2
          case fini =>
            rintro vs w8 hlen hF
            have hl0 : vs.length = 12 := hlen
            match vs, hl0 with
            | [v0, v1, v2, v3, v4, v5, v6, v7, v8, v9, v10, v11], _ =>
              have hst := hF.st
              simp only [putAll, List.zip_cons_cons, List.zip_nil_right, List.foldl_cons, List.foldl_nil]
              simp only [Act.put, List.setIfInBounds_toArray, List.set_cons_succ, List.set_cons_zero]
              have HX8 := Lib.hid hst.2
              have HB8 := Lib.hid hst.1
              clear hst hF hlen
              gi_wp2_with fail
              exact ⟨⟨k + 1, by omega, by simp, HX8.out, HB8.out⟩, by simp [intOf]; omega⟩
        · obtain rfl : k = 4 := by omega
          simp only [show ((4 : Nat) : Int) = 4 from rfl]
          have hltp := I5.out.lt
          have J5 := Lib.hid (HB.out.row I5.out I5.out.lt (by omega))
          have e5 := J5.out.cell 0
          have g5 := J5.out.frozen 0
          simp only [List.getElem?_toArray, List.getElem?_cons_zero] at e5
          clear hltp
          gi_wp2_with fail
          have hsz5 := HSZ.out
          have hb2 := HB2.out
          have hbT := HBT.out
          have hT4 : (deA fun j => if j < 4 then lor (T j) (bitPut (h j) c pl) else T j) = deA (shH all h (pre.map Fin.val ++ [c])) := deA_congr fun i hi => by rw [if_pos hi, HH.out]
          have hS2 : shSt (pre.map Fin.val ++ [c]) = (q, pl + 1) := by rw [HS.out]; unfold shS; rw [HQ.out, if_pos rfl]
          rw [HCX.out]
          refine ⟨HS6.out.trans ((HB.out.stays (Nat.le_refl _) (by intro i hi; omega)).setCell (by show ¬ (bT + 1 + 1 = _); omega) (by show bT + 1 + 1 < _; omega) _), ?_⟩
          refine ⟨(HB.out.row I1.out I1.out.lt (by omega)).other (show b0 ≠ bT + 1 + 1 by omega), (HB.out.row I2.out I2.out.lt (by omega)).other (show b2 ≠ bT + 1 + 1 by omega), ?_, ?_, ?_, ?_⟩
          · rw [← hT4]
            exact HX.out.other (show bT ≠ bT + 1 + 1 by omega)
          · rw [hS2]
            exact (HB.out.row I4.out I4.out.lt (by omega)).other (show bT + 1 ≠ bT + 1 + 1 by omega)
          · rw [hS2]
            exact J5.out.set 0 _
          · exact (HB.out.below HB6.out (by have := HB6.out.size; have := I1.out.lt; omega) (by omega)).setCell (p := ⟨bT + 1 + 1, 0, none⟩) (show b0 ≤ bT + 1 + 1 by omega) _
    · have hqd : ((q : Int) != (s : Int)) = true := by rw [bne_iff_ne]; omega
      rw [if_neg hqs] at hP
      have hmul : (13 : Int) * (q : Int) = (lc : Int) := by omega
      have hsz5 := HSZ.out
      have hb2 := HB2.out
      have hbT := HBT.out
      have hne1 : b0 ≠ bT + 1 := by omega
      have hne2 : b0 ≠ bT + 1 + 1 := by omega
      have K1 := Lib.hid ((I1.out.other (i := 0) (v := .int .u8 (q : Int)) hne1).other (i := 0) (v := .int .u8 (lc : Int)) hne2)
      have K2 := Lib.hid ((I2.out.other (i := 0) (v := .int .u8 (q : Int)) (show b2 ≠ bT + 1 by omega)).other (i := 0) (v := .int .u8 (lc : Int)) (show b2 ≠ bT + 1 + 1 by omega))
      have K3 := Lib.hid ((I3.out.other (i := 0) (v := .int .u8 (q : Int)) (show bT ≠ bT + 1 by omega)).other (i := 0) (v := .int .u8 (lc : Int)) (show bT ≠ bT + 1 + 1 by omega))
      have K4 : Hid (Row ((W.setCell ⟨bT + 1, 0, none⟩ (.int .u8 (q : Int))).setCell ⟨bT + 1 + 1, 0, none⟩ (.int .u8 (lc : Int))) (bT + 1) 5 #[.int .u8 (q : Int)]) := Lib.hid ((I4.out.set 0 (.int .u8 (q : Int))).other (i := 0) (v := .int .u8 (lc : Int)) (show bT + 1 ≠ bT + 1 + 1 by omega))
      have K5 : Hid (Row ((W.setCell ⟨bT + 1, 0, none⟩ (.int .u8 (q : Int))).setCell ⟨bT + 1 + 1, 0, none⟩ (.int .u8 (lc : Int))) (bT + 1 + 1) 5 #[.int .u8 (lc : Int)]) := Lib.hid ((I5.out.other (i := 0) (v := .int .u8 (q : Int)) (show bT + 1 + 1 ≠ bT + 1 by omega)).set 0 (.int .u8 (lc : Int)))
      have KB := Lib.hid ((HB6.out.setCell (p := ⟨bT + 1, 0, none⟩) (show b0 ≤ bT + 1 by omega) (.int .u8 (q : Int))).setCell (p := ⟨bT + 1 + 1, 0, none⟩) (show b0 ≤ bT + 1 + 1 by omega) (.int .u8 (lc : Int)))
      have HS6 := Lib.hid (((Stays.refl (· = W5.heap.size) (W5.heap.size + 1) W).setCell (p := ⟨bT + 1, 0, none⟩) (by show ¬ (bT + 1 = _); omega) (by show bT + 1 < _; omega) (.int .u8 (q : Int))).setCell (p := ⟨bT + 1 + 1, 0, none⟩) (by show ¬ (bT + 1 + 1 = _); omega) (by show bT + 1 + 1 < _; omega) (.int .u8 (lc : Int)))
      clear HB6
      have HB6 := KB
      clear KB hb2 hbT hsz5 hne1 hne2
      have d0 := K1.out.cell 0
      have d1 := K1.out.cell 1
      have d2 := K1.out.cell 2
      have d3 := K1.out.cell 3
      simp only [deA, List.getElem?_toArray, List.getElem?_cons_zero, List.getElem?_cons_succ] at d0 d1 d2 d3
      have HQS := Lib.hid hqs
      have HPP := Lib.hid hP
      clear hqs hP
      gi_wp2_with fail
      have hqs := HQS.out
      have hP := HPP.out
      clear d0 d1 d2 d3 h4 h5 f4 f5
      generalize (W.setCell ⟨bT + 1, 0, none⟩ (.int .u8 (q : Int))).setCell ⟨bT + 1 + 1, 0, none⟩ (.int .u8 (lc : Int)) = W6 at *
      gi_loopw [7, 8, 31] (fun _ _ i wr => ∃ (k : Nat), k ≤ 4 ∧ i = .int .i64 (k : Int) ∧ Row wr bT 24 (deA fun j => if j < k then lor (T j) (bitPut (h j) c lc) else T j) ∧ But W6.heap.size bT W6 wr) (fun _ _ i _ => 4 - (intOf i).toNat)
      case atStart => exact ⟨0, by omega, rfl, K3.out, But.refl _ _ _⟩
      case round =>
        obtain ⟨k, hk, rfl, hX, hB⟩ := hrel
        have HX := Lib.hid hX
        have HB := Lib.hid hB
        clear hX hB
        by_cases hk4 : k < 4
        · have hdk : decide ((k : Int) < 4) = true := by simp; omega
          have hki : (k : Int) < 4 := by omega
          have hidx := deA_ix h hk4
          gi_wp2_with fail
          have HHW := Lib.hid (HK.out.w64 hk4)
          have HTk := Lib.hid (HTW.out k)
          have hf5 : Hid (∀ W, But W6.heap.size bT W6 W → W.cell? ⟨bT + 1 + 1, 0, none⟩ = some (.int .u8 (lc : Int))) := Lib.hid fun W hb => (hb.row K5.out K5.out.lt (by omega)).cell 0
          refine wpIn_region_reliesS (FV [.int .i64 (k : Int), .pointer (some ⟨bT, k, none⟩), .int .u64 (T k : Int), .int .u64 (h k : Int), .int .u8 (c : Int), .int .u64 ((shr (h k) c : Nat) : Int), .int .u64 ((bitAt (h k) c : Nat) : Int), .int .u8 (lc : Int), .int .u64 ((bitPut (h k) c lc : Nat) : Int), .int .u64 ((lor (T k) (bitPut (h k) c lc) : Nat) : Int), .pointer (some ⟨bT, k, none⟩), undef] 11
            (fun b W => But W6.heap.size bT W6 W ∧ Row W bT 24 (deA fun j => if j < (if b then k + 1 else k) then lor (T j) (bitPut (h j) c lc) else T j))) (by kernel_rfl) (by kernel_rfl) (by kernel_rfl) (by kernel_rfl) (by kernel_rfl) (FV.start _ _ ⟨HB.out.trans (But.of_below (Below.refl _ _).drew), HX.out.later (Below.refl _ _).drew⟩) ?obls ?fini
          case obls =>
            refine ⟨?_, ?_, ?_, ?_, ?_, ?_, ?_, ?_, ?_, ?_, ?_, ?_, trivial⟩
            · rintro ρ f W hF hfi hw hcl hf
              have f7 : ρ (.tmp 7) = .int .i64 (k : Int) := hf.1 7 (by simp [Op.operands])
              refine ok_value (v := .int .i64 (k : Int)) (w' := W) ?_ (hF.pure 0 _ (by decide) rfl fun _ h => h)
              simp [execOp, f7]
            · rintro ρ f W hF hfi hw hcl hf
              have f3 : ρ (.tmp 3) = .pointer (some ⟨bT, 0, none⟩) := hf.1 3 (by simp [Op.operands])
              have f35 : ρ (.tmp 35) = .int .i64 (k : Int) := hF.val 0 _ _ (hf.1 35 (by simp [Op.operands])) rfl
              refine ok_value (v := .pointer (some ⟨bT, k, none⟩)) (w' := W) ?_ (hF.pure 1 _ (by decide) rfl fun _ h => h)
              simp [execOp, f3, f35, go_sem, hki]
            · rintro ρ f W hF hfi hw hcl hf
              have f36 : ρ (.tmp 36) = .pointer (some ⟨bT, k, none⟩) := hF.val 1 _ _ (hf.1 36 (by simp [Op.operands])) rfl
              have hn : f 11 = none := by
                cases hb : f 11 with
                | none => rfl
                | some v =>
                  have h1 := hcl 11 (by rw [hb]; rfl) 9 (List.contains_iff_mem.1 (by kernel_rfl))
                  have h2 := hcl 9 h1 2 (List.contains_iff_mem.1 (by kernel_rfl))
                  rw [hfi] at h2
                  cases h2
              have hs := hF.st
              rw [hn] at hs
              have ck : W.cell? ⟨bT, k, none⟩ = some (.int .u64 (T k : Int)) := (hs.2.cell k).trans (by rw [deA_at _ hk4]; simp)
              refine ok_value (v := .int .u64 (T k : Int)) (w' := W) ?_ (hF.pure 2 _ (by decide) rfl fun _ h => h)
              simp [execOp, f36, go_sem, ck]
            · rintro ρ f W hF hfi hw hcl hf
              have f8 : ρ (.tmp 8) = .int .u64 (h k : Int) := hf.1 8 (by simp [Op.operands])
              refine ok_value (v := .int .u64 (h k : Int)) (w' := W) ?_ (hF.pure 3 _ (by decide) rfl fun _ h => h)
              simp [execOp, f8]
            · rintro ρ f W hF hfi hw hcl hf
              have f6 : ρ (.tmp 6) = .int .u8 (c : Int) := hf.1 6 (by simp [Op.operands])
              refine ok_value (v := .int .u8 (c : Int)) (w' := W) ?_ (hF.pure 4 _ (by decide) rfl fun _ h => h)
              simp [execOp, f6]
            · rintro ρ f W hF hfi hw hcl hf
              have f38 : ρ (.tmp 38) = .int .u64 (h k : Int) := hF.val 3 _ _ (hf.1 38 (by simp [Op.operands])) rfl
              have f39 : ρ (.tmp 39) = .int .u8 (c : Int) := hF.val 4 _ _ (hf.1 39 (by simp [Op.operands])) rfl
              have hsr : (h k : Int) / 2 ^ c = ((shr (h k) c : Nat) : Int) := by unfold shr; rw [Nat.shiftRight_eq_div_pow]; simp
              refine ok_value (v := .int .u64 ((shr (h k) c : Nat) : Int)) (w' := W) ?_ (hF.pure 5 _ (by decide) rfl fun _ h => h)
              simp [execOp, f38, f39, go_sem, hsr]
            · rintro ρ f W hF hfi hw hcl hf
              have f40 : ρ (.tmp 40) = .int .u64 ((shr (h k) c : Nat) : Int) := hF.val 5 _ _ (hf.1 40 (by simp [Op.operands])) rfl
              have hba := run_bit64 (h k) c HHW.out
              refine ok_value (v := .int .u64 ((bitAt (h k) c : Nat) : Int)) (w' := W) ?_ (hF.pure 6 _ (by decide) rfl fun _ h => h)
              simp [execOp, f40, go_sem, hf.2.1, hba]
            · rintro ρ f W hF hfi hw hcl hf
              have f5 : ρ (.tmp 5) = .pointer (some ⟨bT + 1 + 1, 0, none⟩) := hf.1 5 (by simp [Op.operands])
              have ck := hf5.out W hF.st.1
              refine ok_value (v := .int .u8 (lc : Int)) (w' := W) ?_ (hF.pure 7 _ (by decide) rfl fun _ h => h)
              simp [execOp, f5, go_sem, ck]
            · rintro ρ f W hF hfi hw hcl hf
              have f41 : ρ (.tmp 41) = .int .u64 ((bitAt (h k) c : Nat) : Int) := hF.val 6 _ _ (hf.1 41 (by simp [Op.operands])) rfl
              have f42 : ρ (.tmp 42) = .int .u8 (lc : Int) := hF.val 7 _ _ (hf.1 42 (by simp [Op.operands])) rfl
              have hsl := wrap_bitPut (h k) c hl52
              refine ok_value (v := .int .u64 ((bitPut (h k) c lc : Nat) : Int)) (w' := W) ?_ (hF.pure 8 _ (by decide) rfl fun _ h => h)
              simp [execOp, f41, f42, go_sem, hsl]
            · rintro ρ f W hF hfi hw hcl hf
              have f37 : ρ (.tmp 37) = .int .u64 (T k : Int) := hF.val 2 _ _ (hf.1 37 (by simp [Op.operands])) rfl
              have f43 : ρ (.tmp 43) = .int .u64 ((bitPut (h k) c lc : Nat) : Int) := hF.val 8 _ _ (hf.1 43 (by simp [Op.operands])) rfl
              have hor := run_or64 (T k) (bitPut (h k) c lc) HTk.out (bitPut_w64 ..)
              refine ok_value (v := .int .u64 ((lor (T k) (bitPut (h k) c lc) : Nat) : Int)) (w' := W) ?_ (hF.pure 9 _ (by decide) rfl fun _ h => h)
              simp [execOp, f37, f43, go_sem, hor]
            · rintro ρ f W hF hfi hw hcl hf
              have f3 : ρ (.tmp 3) = .pointer (some ⟨bT, 0, none⟩) := hf.1 3 (by simp [Op.operands])
              have f35 : ρ (.tmp 35) = .int .i64 (k : Int) := hF.val 0 _ _ (hf.1 35 (by simp [Op.operands])) rfl
              refine ok_value (v := .pointer (some ⟨bT, k, none⟩)) (w' := W) ?_ (hF.pure 10 _ (by decide) rfl fun _ h => h)
              simp [execOp, f3, f35, go_sem, hki]
            · rintro ρ f W hF hfi hw hcl hf
              have f45 : ρ (.tmp 45) = .pointer (some ⟨bT, k, none⟩) := hF.val 10 _ _ (hf.1 45 (by simp [Op.operands])) rfl
              have f44 : ρ (.tmp 44) = .int .u64 ((lor (T k) (bitPut (h k) c lc) : Nat) : Int) := hF.val 9 _ _ (hf.1 44 (by simp [Op.operands])) rfl
              have hs := hF.st
              rw [hfi] at hs
              have ck : W.cell? ⟨bT, k, none⟩ = some (.int .u64 (T k : Int)) := (hs.2.cell k).trans (by rw [deA_at _ hk4]; simp)
              have fk := hs.2.frozen k
              refine ok_skip (w' := W.setCell ⟨bT, k, none⟩ (.int .u64 ((lor (T k) (bitPut (h k) c lc) : Nat) : Int))) ?_ (hF.write _ rfl hfi fun hd => ⟨hd.1.trans (But.setCell _ _ _), ?_⟩)
              · simp [execOp, f45, f44, go_sem, ck, fk]
              · have hd2 := hd.2.set k (.int .u64 ((lor (T k) (bitPut (h k) c lc) : Nat) : Int))
                simp only [Bool.false_eq_true, if_false] at hd2
                rw [deA_set T (fun j => lor (T j) (bitPut (h j) c lc)) hk4] at hd2
                simp only [if_true]
                exact hd2
          case fini =>
            rintro vs w8 hlen hF
            have hl0 : vs.length = 12 := hlen
            match vs, hl0 with
            | [v0, v1, v2, v3, v4, v5, v6, v7, v8, v9, v10, v11], _ =>
              have hst := hF.st
              simp only [putAll, List.zip_cons_cons, List.zip_nil_right, List.foldl_cons, List.foldl_nil]
              simp only [Act.put, List.setIfInBounds_toArray, List.set_cons_succ, List.set_cons_zero]
              have HX8 := Lib.hid hst.2
              have HB8 := Lib.hid hst.1
              clear hst hF hlen
              gi_wp2_with fail
              exact ⟨⟨k + 1, by omega, by simp, HX8.out, HB8.out⟩, by simp [intOf]; omega⟩
        · obtain rfl : k = 4 := by omega
          simp only [show ((4 : Nat) : Int) = 4 from rfl]
          have hltp := K5.out.lt
          have J5 := Lib.hid (HB.out.row K5.out K5.out.lt (by omega))
          have e5 := J5.out.cell 0
          have g5 := J5.out.frozen 0
          simp only [List.getElem?_toArray, List.getElem?_cons_zero] at e5
          clear hltp
          gi_wp2_with fail
          have hsz5 := HSZ.out
          have hb2 := HB2.out
          have hbT := HBT.out
          have hT4 : (deA fun j => if j < 4 then lor (T j) (bitPut (h j) c lc) else T j) = deA (shH all h (pre.map Fin.val ++ [c])) := deA_congr fun i hi => by rw [if_pos hi, HH.out]
          have hS2 : shSt (pre.map Fin.val ++ [c]) = (q, lc + 1) := by rw [HS.out]; unfold shS; rw [HQ.out, if_neg hqs, hP]
          rw [HCX.out]
          refine ⟨HS6.out.trans ((HB.out.stays (Nat.le_refl _) (by intro i hi; omega)).setCell (by show ¬ (bT + 1 + 1 = _); omega) (by show bT + 1 + 1 < _; omega) _), ?_⟩
          refine ⟨(HB.out.row K1.out K1.out.lt (by omega)).other (show b0 ≠ bT + 1 + 1 by omega), (HB.out.row K2.out K2.out.lt (by omega)).other (show b2 ≠ bT + 1 + 1 by omega), ?_, ?_, ?_, ?_⟩
          · rw [← hT4]
            exact HX.out.other (show bT ≠ bT + 1 + 1 by omega)
          · rw [hS2]
            exact (HB.out.row K4.out K4.out.lt (by omega)).other (show bT + 1 ≠ bT + 1 + 1 by omega)
          · rw [hS2]
            exact J5.out.set 0 _
          · exact (HB.out.below HB6.out (by have := HB6.out.size; have := K1.out.lt; omega) (by omega)).setCell (p := ⟨bT + 1 + 1, 0, none⟩) (show b0 ≤ bT + 1 + 1 by omega) _
  case done =>
    rintro D W hD hI hK
    have HT4 : Hid (shH all h ((bitsList all).map Fin.val) = shr4 h) := Lib.hid (by rw [← HAL.out]; rfl)
    rw [HT4.out] at hI
    have HIW := Lib.hid hI
    have HK2 := Lib.hid hK
    have HD2 := Lib.hid hD
    clear hI hK hD
    obtain ⟨T, hTT⟩ : ∃ T, shr4 h = T := ⟨_, rfl⟩
    have HTT := Lib.hid hTT
    rw [hTT] at HIW
    clear hTT HT4
    go_wp2_with (first
      | refine wpList_load_row rfl 24 (.tmp 3) rfl bT rfl 24 (deA T) (0, 0) _ HIW.out.t Tryd.underlying24 rfl (by rw [show (deA T).size = 4 from rfl]; exact size_de) ?_
      | refine wpList_store_row rfl 24 (.tmp 2) (.tmp 49) rfl b2 (deA T) rfl rfl 24 _ HIW.out.r (by rw [show (deA T).size = 4 from rfl]; exact size_de) rfl (deA_one _) ?_)
    have hd := HD2.out
    have hsz5 := HSZ.out
    have hb2 := HB2.out
    have hbT := HBT.out
    rw [World.size_alloc, hsz5] at hd
    have hK3 : (W.setRow b2 (deA T)).heap[D]? = some (.deferred (some [])) := (setRow_other _ _ _ _ (by omega)).trans HK2.out
    have hr3 : Row (W.setRow b2 (deA T)) b2 24 (deA T) := setRow_heap _ _ _ _ _ _ HIW.out.r
    refine ⟨by simp, .inl ⟨_, _, rfl, run_takeDeferred hK3, ?_⟩⟩
    refine ⟨_, results_cell1 Tryd.results85 _ _ b2 _ (deA T) (0, 0) _ rfl ((World.putObj_heap_other (by omega)).trans hr3) Tryd.underlying24 rfl (by rw [show (deA T).size = 4 from rfl]; exact size_de), by rw [HTT.out], ?_⟩
    rw [HB0.out]
    exact (below_setRow HIW.out.b (by omega) _).trans (below_putObj _ (by omega) hK3)
  case stop => exact fun _ _ _ _ _ _ _ _ h _ => h.elim
end Go.Proofs.YtnbillhodbcfbaaDoor
