/- finesselaw13.Made over this seat's program: the deal, and the play. -/
import Derived.Test.YtdlnilebnobllaaRvPl
import Derived.Test.YtdlnilebnobllaaQTail
import Derived.ArgAppend
import Derived.Deep.Upon
namespace Go.Proofs.Ytdlnilebnobllaa
open Go.RowKit Go.Shelf Go.Sort

/-- a deal under way -/
structure DlS where
  h : Nat → Nat
  deck : List Nat
def Sk.n (x : Sk) : Nat := 1 + x.size % 6
def Sk.at (x : Sk) (i : Nat) : Nat := if x.order = [] then 7 * i else x.order.getD (i % x.order.length) 0 + i
def DlS.next (x : Sk) (s : DlS) (i : Nat) : DlS :=
  ⟨setH s.h (i % 4) (lor (s.h (i % 4)) (shl1 (s.deck.getD (x.at i % s.deck.length) 0))), s.deck.take (x.at i % s.deck.length) ++ s.deck.drop (x.at i % s.deck.length + 1)⟩
def Sk.dealN (x : Sk) : Nat → DlS
  | 0 => ⟨fun _ => 0, List.range 52⟩
  | i + 1 => (x.dealN i).next x i
theorem dealN_len (x : Sk) : ∀ i, i ≤ 52 → (x.dealN i).deck.length = 52 - i
  | 0, _ => by simp [Sk.dealN]
  | i + 1, h => by
    have ih := dealN_len x i (by omega)
    have hk : x.at i % (x.dealN i).deck.length < (x.dealN i).deck.length := Nat.mod_lt _ (by omega)
    simp only [Sk.dealN, DlS.next, List.length_append, List.length_take, List.length_drop]
    omega
theorem dealN_lt (x : Sk) : ∀ i, ∀ c ∈ (x.dealN i).deck, c < 52
  | 0, c, h => by simpa [Sk.dealN] using h
  | i + 1, c, h => by
    simp only [Sk.dealN, DlS.next, List.mem_append] at h
    rcases h with h | h
    · exact dealN_lt x i c (List.mem_of_mem_take h)
    · exact dealN_lt x i c (List.mem_of_mem_drop h)
theorem dealN_w64 (x : Sk) : ∀ i j, W64 ((x.dealN i).h j)
  | 0, _ => W64.zero
  | i + 1, j => W64.setH (dealN_w64 x i) _ _ ((dealN_w64 x i _).lor (W64.shl1 _)) j

/-- the record of a sketch -/
def Sk.rc (x : Sk) : Rc := ⟨(x.dealN (4 * x.n)).h, x.trumps % 5, x.decl % 4, (plN x (x.trumps % 5) ⟨(x.dealN (4 * x.n)).h, (x.decl % 4 + 1) % 4, []⟩ (4 * x.n)).zs⟩

/-- at the head of a round of the deal -/
def DlRel (x : Sk) (N R : Nat) (w wm : World) (i : Nat) (v : Value) (wr : World) : Prop :=
  ∃ ad cd, v = .slice ad (52 - i) cd ∧ 52 - i ≤ cd ∧ Byt wr ad (52 - i) (x.dealN i).deck ∧ (∀ a, ad = some a → N + 1 < a.block ∧ a.block ≠ R) ∧
    Row wr R 27 #[.int .u64 ((x.dealN i).h 0 : Int), .int .u64 ((x.dealN i).h 1 : Int), .int .u64 ((x.dealN i).h 2 : Int), .int .u64 ((x.dealN i).h 3 : Int), .int .u8 ((x.trumps : Int) % 5), .int .u8 ((x.decl : Int) % 4), .slice none 0 0] ∧
    Kept (fun b => b ≠ R) wm wr ∧ Below N w wr

theorem Byt.keptP {S : Nat → Prop} {W W' : World} {a : Option Addr} {len : Nat} {zs : List Nat} (h : Byt W a len zs) (ha : 0 < len → ∀ ad, a = some ad → S ad.block) (hk : Kept S W W') : Byt W' a len zs := by
  refine ⟨h.length, h.small, h.byte, ?_⟩
  rcases h.cells with h | ⟨b, off, rfl, hb, hc⟩
  · exact .inl h
  · exact .inr ⟨b, off, rfl, Nat.lt_of_lt_of_le hb hk.size, fun i hi => (hk.cell (p := ⟨b, off + i, none⟩) (ha (by omega) ⟨b, off, none⟩ rfl) hb).trans (hc i hi)⟩
theorem flatU_map (l : List Nat) : l.flatMap encU = l.map fun z : Nat => Value.int .u8 (z : Int) := by induction l with | nil => rfl | cons a l ih => simp [encU] at *; exact ih
theorem wpList_append_nothing {P : Program} {w : World} {ops : Array Oper} {rest : List Oper} {o : Oper} {a : Act} {Q : Exit → Act → World → Prop} (hgd : o.guard = none) (s x : Operand) (t : TypeId)
    (ho : o.op = .call { callee := .builtin .append, args := #[s, x], argTypes := #[t, t] }) (e : TypeId) (i : TypeInfo) (ht : P.underlying t = some (.slice e)) (hi : P.info? e = some i) (base : Option Addr) (len cap : Nat) (hle : len ≤ cap) (hs : a.eval s = .slice base len cap)
    (y : Value) (hx : a.eval x = y) (hsrc : Src P i.size t y 0 [] w) (h : wpList P ops Q rest (a.put o.dst (.slice base len cap)) w) : wpList P ops Q (o :: rest) a w := by
  refine wpList_plain hgd fun K hK => ?_
  have hr := run_append_nothing w t t o.type e i ht hi base len cap hle y hsrc
  unfold Oper.wp execOp
  simp only [ho, resolve, invoke, builtin, Sem.run_bind, Sem.run_pure, Result.andThen_ok, List.map_toArray, List.map_cons, List.map_nil, hs, hx, hr]
  exact hK _ _ h
theorem src_empty {P : Program} {size : Nat} {t e : TypeId} (ht : P.underlying t = some (.slice e)) (a : Option Addr) (c : Nat) (w : World) : Src P size t (.slice a 0 c) 0 [] w := by
  cases a with
  | none => exact Src.ofNil w ht c
  | some a => exact Src.ofSlice w ht a 0 c [] (by simp) (fun j u h => by simp at h) (fun u h => by simp at h)
theorem seven_get (h : Nat → Nat) (a b c : Value) (s : Nat) (hs : s < 4) : (#[.int .u64 (h 0 : Int), .int .u64 (h 1 : Int), .int .u64 (h 2 : Int), .int .u64 (h 3 : Int), a, b, c] : Array Value)[s]? = some (.int .u64 (h s : Int)) := by
  have : s = 0 ∨ s = 1 ∨ s = 2 ∨ s = 3 := by omega
  rcases this with rfl | rfl | rfl | rfl <;> rfl
theorem seven_set (h : Nat → Nat) (a b c : Value) (s v : Nat) (hs : s < 4) : (#[.int .u64 (h 0 : Int), .int .u64 (h 1 : Int), .int .u64 (h 2 : Int), .int .u64 (h 3 : Int), a, b, c] : Array Value).setIfInBounds s (.int .u64 (v : Int)) =
    #[.int .u64 (setH h s v 0 : Int), .int .u64 (setH h s v 1 : Int), .int .u64 (setH h s v 2 : Int), .int .u64 (setH h s v 3 : Int), a, b, c] := by
  have : s = 0 ∨ s = 1 ∨ s = 2 ∨ s = 3 := by omega
  rcases this with rfl | rfl | rfl | rfl <;> rfl
/-- a slice up to a place, with no room behind -/
theorem head_run (b off len cap k : Nat) (hk : k ≤ cap) (wx : World) :
    (Instr.slice 25 (.slice (some ⟨b, off, none⟩) len cap) none (some (.int .i64 (k : Int))) (some (.int .i64 (k : Int)))).run Try.prog wx = .ok (.slice (some ⟨b, off, none⟩) k k) wx := by
  have hsz : (sizeOf (Try.prog.elem 25)).run Try.prog wx = .ok 1 wx := by kernel_rfl
  rw [run_slice_hm wx 25 _ len cap (by kernel_rfl) _ _ _ _ (by omega) (by omega) (by omega), hsz]
  simp [Result.andThen, sliced, Addr.add]
theorem u8_cells {w : World} {b off len : Nat} {zs : List Nat} (h : ∀ i, i < len → w.cell? ⟨b, off + i, none⟩ = some (.int .u8 ((zs.getD i 0 : Nat) : Int))) (hl : zs.length = len) : ∀ j u, (zs.map fun z : Nat => Value.int .u8 (z : Int))[j]? = some u → w.cell? ((⟨b, off, none⟩ : Addr).add j) = some u := by
  intro j u hj
  rw [List.getElem?_map] at hj
  cases hz : zs[j]? with
  | none => rw [hz] at hj; cases hj
  | some z =>
    rw [hz] at hj
    injection hj with hj
    subst hj
    have hjl : j < len := by have := (List.getElem?_eq_some_iff.1 hz).1; omega
    have := h j hjl
    rw [List.getD_eq_getElem?_getD, hz] at this
    rw [Addr.add_lit]
    exact this

theorem DlRel.step {x : Sk} {N R : Nat} {w wm w10 : World} {k cv : Nat} {av : Option Addr} {h : Nat → Nat} {deck : List Nat} (hn : x.dealN (k + 1) = ⟨h, deck⟩) 
    (hlc : 52 - (k + 1) ≤ cv) (hby : Byt w10 av (52 - (k + 1)) deck) (hab : ∀ a, av = some a → N + 1 < a.block ∧ a.block ≠ R)
    (hr : Row w10 R 27 #[.int .u64 (h 0 : Int), .int .u64 (h 1 : Int), .int .u64 (h 2 : Int), .int .u64 (h 3 : Int), .int .u8 ((x.trumps : Int) % 5), .int .u8 ((x.decl : Int) % 4), .slice none 0 0])
    (hk2 : Kept (fun b => b ≠ R) wm w10) (hb : Below N w w10) : DlRel x N R w wm (k + 1) (.slice av (52 - (k + 1)) cv) w10 := by
  refine ⟨av, cv, rfl, hlc, ?_, hab, ?_, hk2, hb⟩
  · rw [hn]; exact hby
  · rw [hn]; exact hr

set_option maxHeartbeats 2000000 in
set_option maxRecDepth 100000 in
theorem made (x : Sk) (ao : Option Addr) (lo co : Nat) (ap : Option Addr) (lp cp : Nat) (w : World) (ho : Byt w ao lo x.order) (hp : Byt w ap lp x.play)
    (hsz : x.size < 256) (htr : x.trumps < 256) (hde : x.decl < 256)
    (hne : ∀ k, k < 4 * x.n → (plN x (x.trumps % 5) ⟨(x.dealN (4 * x.n)).h, (x.decl % 4 + 1) % 4, []⟩ k).hand ≠ []) :
    Calls Try.prog 17 #[.agg (x.cells ao lo co ap lp cp)] w fun e w' =>
      ∃ v, e = .returned (.agg #[.int .u64 (x.rc.h 0 : Int), .int .u64 (x.rc.h 1 : Int), .int .u64 (x.rc.h 2 : Int), .int .u64 (x.rc.h 3 : Int), .int .u8 (x.rc.t : Int), .int .u8 (x.rc.d : Int), v]) ∧
        OwnU w' w.heap.size v x.rc.zs ∧ Below w.heap.size w w' := by
  obtain ⟨i0, hi, hz0, hz1, hz2⟩ := info_parts info_u8'
  have hao : 0 < lo → ∀ ad, ao = some ad → ad.block < w.heap.size := fun h0 ad h => by obtain ⟨b, off, e, hb, _⟩ := ho.at h0; rw [e] at h; injection h with h; subst h; exact hb
  have hap : 0 < lp → ∀ ad, ap = some ad → ad.block < w.heap.size := fun h0 ad h => by obtain ⟨b, off, e, hb, _⟩ := hp.at h0; rw [e] at h; injection h with h; subst h; exact hb
  have HNE := Lib.hid hne
  clear hne
  go_enter Try.func17, Try.ntmps17
  go_wp2_with fail
  obtain ⟨wa, hwa⟩ : ∃ wa, wa = (w.alloc (.cells (x.cells ao lo co ap lp cp) 36)).alloc (.cells #[.int .u64 0, .int .u64 0, .int .u64 0, .int .u64 0, .int .u8 0, .int .u8 0, .slice none 0 0] 27) := ⟨_, rfl⟩
  rw [← hwa]
  have hBa : Below w.heap.size w wa := by rw [hwa]; exact ((Below.refl _ _).alloc (Nat.le_refl _) _).alloc (by simp) _
  have hra : Row wa w.heap.size 36 (x.cells ao lo co ap lp cp) := by rw [hwa]; exact (Row.new _ _ _).alloc _
  have hrb : Row wa (w.heap.size + 1) 27 #[.int .u64 0, .int .u64 0, .int .u64 0, .int .u64 0, .int .u8 0, .int .u8 0, .slice none 0 0] := by
    rw [hwa]; have := Row.new (w.alloc (.cells (x.cells ao lo co ap lp cp) 36)) 27 #[.int .u64 0, .int .u64 0, .int .u64 0, .int .u64 0, .int .u8 0, .int .u8 0, .slice none 0 0]
    rwa [World.size_alloc] at this
  have hsa : wa.heap.size = w.heap.size + 1 + 1 := by rw [hwa]; simp
  have HSA := Lib.hid hsa
  clear hwa hsa
  go_loopw [4, 15] (fun v i wr => ∃ k : Nat, k ≤ 52 ∧ i = .int .u8 (k : Int) ∧ OwnU wr wa.heap.size v (List.range k) ∧ Below wa.heap.size wa wr) (fun _ i _ => 52 - (intOf i).toNat)
  case atStart => exact ⟨0, by omega, rfl, Owns.nil encU_len _ _, Below.refl _ _⟩
  case round =>
    obtain ⟨k, hk, rfl, how, hB⟩ := hrel
    by_cases hlt : k < 52
    · obtain ⟨av, cv, rfl, -⟩ := how.slice
      have hsz2 := hB.size
      have hln : (List.range k).length = k := List.length_range
      go_wp2_with (at_builtin; (refine wpList_append_own_at _ rfl _ _ 25 rfl wa.heap.size 5 i0 (.int .u8 0) 1 1 Try.underlying25 hi hz0 hz1 hz2 rfl (by decide) _ _ _ rfl (how.2.alloc _) ⟨wr.heap.size, 0, none⟩ 1 1 [.int .u8 (k : Int)] rfl rfl (cell_one_new _ _ _) (by simp [Value.oneCell']) (by unfold maxLen; omega) (by omega) (by simp; omega) ?_); intro v' w3 hown' hgrow _ hloc)
      go_roundw
      case rel =>
        refine ⟨k + 1, by omega, by go_num, ⟨encU_len, ?_⟩, (hB.alloc hsz2 _).grown hgrow (by simp; omega) (fun g e => (how.row e).1)⟩
        rw [List.range_succ]
        simpa using hown'
      case measure => simp [intOf]; omega
    · have hke : k = 52 := by omega
      subst hke
      generalize wr = wb at *
      have ra := hra.below hra.lt hB
      have rb := hrb.below hrb.lt hB
      have hBb := hBa.trans (hB.mono (by have := HSA.out; omega))
      have s1 := ra.cell 1
      have s2 := ra.cell 2
      simp at s1 s2
      go_wp2_with fail
      obtain ⟨wm, hwm⟩ : ∃ wm, wm = wb.alloc (.cells #[.int .u64 0, .int .u64 0, .int .u64 0, .int .u64 0, .int .u8 ((x.trumps : Int) % 5), .int .u8 ((x.decl : Int) % 4), .slice none 0 0] 27) := ⟨_, rfl⟩
      rw [← hwm]
      have hBm : Below wb.heap.size wb wm := by rw [hwm]; exact (Below.refl _ _).alloc (Nat.le_refl _) _
      have ra := ra.below ra.lt hBm
      have rb := rb.below rb.lt hBm
      have rr : Row wm wb.heap.size 27 #[.int .u64 0, .int .u64 0, .int .u64 0, .int .u64 0, .int .u8 ((x.trumps : Int) % 5), .int .u8 ((x.decl : Int) % 4), .slice none 0 0] := by rw [hwm]; exact Row.new _ _ _
      have hbN : w.heap.size + 1 < wb.heap.size := by have := HSA.out; have := hB.size; omega
      have hBm0 := hBb.trans (hBm.mono (by omega))
      obtain ⟨av, cv, hve, hnil, hlc, hmx, hab, hbv⟩ := how.byt (by simp) (fun i => getD_lt (by omega) (fun c hc => by have := List.mem_range.1 hc; omega) i)
      subst hve
      rw [List.length_range] at hlc hbv
      have hbm := hbv.below (Nat.le_refl _) hBm
      have hn6 : x.n ≤ 6 := by unfold Sk.n; omega
      have hnI2 : 1 + (x.size : Int) % 6 = ((x.n : Nat) : Int) := by unfold Sk.n; omega
      rw [hnI2, show ((52 : Nat) : Int) = 52 from rfl]
      have HAB : Hid (∀ ad, av = some ad → w.heap.size + 1 < ad.block ∧ ad.block < wb.heap.size) := fun ad h => by have h1 := hab ad h; have := HSA.out; omega
      have hom := ho.below (Nat.le_refl _) hBm0
      have hpm := hp.below (Nat.le_refl _) hBm0
      clear how hab hbv hnil s1 s2 hBb hB hra hrb hBa hBm hwm
      generalize hnn : x.n = n at *
      clear hnI2
      have HNN := Lib.hid hnn
      clear hnn
      go_loopw [4, 32] (fun v i wr => ∃ k : Nat, k ≤ 4 * n ∧ i = .int .i64 (k : Int) ∧ DlRel x w.heap.size wb.heap.size w wm k v wr) (fun _ i _ => 4 * n - (intOf i).toNat)
      case atStart =>
        refine ⟨0, by omega, rfl, av, cv, by simp, hlc, hbm, fun ad h => ?_, rr, Kept.refl _ _, hBm0⟩
        have := HAB.out ad h; omega
      case round =>
        obtain ⟨k, hk, rfl, ad, cd, rfl, hcd, hby, hadb, hrr, hkp, hbl⟩ := hrel
        by_cases hlt : k < 4 * n
        · obtain ⟨L, hL⟩ : ∃ L, L = 52 - k := ⟨_, rfl⟩
          have hL0 : 0 < L := by omega
          have hL52 : L ≤ 52 := by omega
          have hwh := dealN_w64 x k
          have hdl := dealN_len x k (by omega)
          have hdt := dealN_lt x k
          have hNX := Lib.hid (show x.dealN (k + 1) = (x.dealN k).next x k from rfl)
          unfold DlRel
          generalize x.dealN k = s at *
          rw [← hL] at hby hcd hdl ⊢
          have HL := Lib.hid hL
          clear hL
          unfold DlS.next at hNX
          rw [hdl] at hNX
          have hRa := ra.kept (by omega) hkp
          have hom2 := hom.keptP (fun h0 ad h => by have := hao h0 ad h; omega) hkp
          have o4 := hRa.cell 4
          simp at o4
          rcases (show lo = 0 ∨ 0 < lo by omega) with hlo | hlo
          case inl =>
            have hX : x.at k = 7 * k := by unfold Sk.at; rw [if_pos (List.eq_nil_of_length_eq_zero (ho.length.trans hlo))]
            subst hlo
            go_upto_region 15 with fail
            rw [show (7 * (k : Int)) = ((x.at k : Nat) : Int) by omega]
            have hbyd := hby
            have hrrd := hrr
            have hkpd := hkp
            have hbld := hbl
            clear hby hrr hkp hbl
            clear hX
            generalize x.at k = X at *
            have hjlt : X % L < L := Nat.mod_lt _ hL0
            have hje : (X : Int) % (L : Int) = ((X % L : Nat) : Int) := by push_cast; rfl
            have hje0 : (0 : Int) ≤ (X : Int) % (L : Int) := by rw [hje]; omega
            go_upto_region 16 with fail
            rw [hje]
            clear hje hje0
            obtain ⟨b, off, rfl, hbs, hcs⟩ := hbyd.at hL0
            have hbb := hadb _ rfl
            dsimp only at hbb
            generalize X % L = j at *
            have hct := hcs j hjlt
            have hc52 : s.deck.getD j 0 < 52 := hdt _ (getD_mem_of_lt (by omega))
            have hk4 : k % 4 < 4 := Nat.mod_lt _ (by omega)
            have hm := (hrrd.cell (k % 4)).trans (seven_get s.h _ _ _ _ hk4)
            have hf := hrrd.frozen (k % 4)
            have hwk := hwh (k % 4)
            clear hcs
            generalize hc : s.deck.getD j 0 = c at *
            have HC := Lib.hid hc
            clear hc
            go_region
            go_upto_region 17 with fail
            have r5 := hrrd.set (k % 4) (.int .u64 ((lor (s.h (k % 4)) (shl1 c) : Nat) : Int))
            rw [seven_set _ _ _ _ _ _ hk4] at r5
            have r6 : Row ((wr.setCell ⟨wb.heap.size, k % 4, none⟩ (.int .u64 ((lor (s.h (k % 4)) (shl1 c) : Nat) : Int))).drew) wb.heap.size 27 _ := r5
            have k6 : Kept (fun b => b ≠ wb.heap.size) wr ((wr.setCell ⟨wb.heap.size, k % 4, none⟩ (.int .u64 ((lor (s.h (k % 4)) (shl1 c) : Nat) : Int))).drew) := ((Kept.refl _ _).setCell (by simp) _).drew
            have b6 : Below w.heap.size w ((wr.setCell ⟨wb.heap.size, k % 4, none⟩ (.int .u64 ((lor (s.h (k % 4)) (shl1 c) : Nat) : Int))).drew) := (hbld.setCell (by simp; omega) _).drew
            generalize ((wr.setCell ⟨wb.heap.size, k % 4, none⟩ (.int .u64 ((lor (s.h (k % 4)) (shl1 c) : Nat) : Int))).drew) = we at *
            clear r5 hm hf hct
            have by5 := hbyd.kept (fun ad h => (hadb ad h).2) k6
            have kk5 := hkpd.trans k6
            clear hbyd hrrd hkpd hbld k6
            have hA := head_run b off L cd j (by omega)
            obtain ⟨a2, hB2, by6, hlk2⟩ := cut_run (some ⟨b, off, none⟩) L cd (j + 1) s.deck we (by omega) hcd by5
            rw [show ((j + 1 : Nat) : Int) = (j : Int) + 1 by omega] at hB2
            have ewj : IntKind.i64.wrap ((j : Int) + 1) = (j : Int) + 1 := by rw [IntKind.wrap_i64]; omega
            refine wp_region_below_tail 8 (by kernel_rfl) (by kernel_rfl) ?_
            simp only [List.take_succ_cons, List.take_zero, List.drop_succ_cons, List.drop_zero]
            repeat (quiet_step (fail))
            refine wpQuiet_nil ?_
            rintro _ ⟨p', rfl⟩
            clear hA hB2 ewj
            have hb10 := below_regrown we p'.d p'.os
            generalize grow (redrawn we p'.d) p'.os = w10 at *
            have r7 := r6.below r6.lt hb10
            have by7 := by5.below (Nat.le_refl _) hb10
            have by8 := by6.below (Nat.le_refl _) hb10
            have kk7 := kk5.trans (Kept.of_below hb10)
            have b7 := b6.trans (hb10.mono b6.size)
            clear r6 by5 by6 kk5 b6 hb10
            have hn1 := hNX.out
            have hk52 : 52 - (k + 1) = j + (L - (j + 1)) := by have := HL.out; omega
            obtain ⟨b', off', he, hbs', hcs'⟩ := by7.at hL0
            obtain ⟨rfl, rfl⟩ : b' = b ∧ off' = off := by injection he with he; injection he with h1 h2 h3; exact ⟨h1.symm, h2.symm⟩
            clear he
            by_cases hjL : j + 1 < L
            · obtain ⟨b2, off2, rfl, hbs2, hcs2⟩ := by8.at (by omega)
              go_wp2_with (at_builtin; go_loud (refine wpList_append_grows w10 rfl (.tmp 73) (.tmp 77) 25 rfl 5 i0 (.int .u8 0) 1 1 Try.underlying25 hi hz0 hz1 hz2 rfl (by decide) (some ⟨b', off', none⟩) j j ((s.deck.take j).map fun z : Nat => .int .u8 (z : Int)) rfl (fun h => by cases h) (by simp; omega) (fun ad h => by injection h with h; subst h; exact u8_cells (len := j) (fun i hi => by rw [hcs' i (by omega), List.getD_eq_getElem?_getD, List.getD_eq_getElem?_getD, List.getElem?_take_of_lt hi]) (by simp; omega)) ⟨b2, off2, none⟩ (L - (j + 1)) (cd - (j + 1)) ((s.deck.drop (j + 1)).map fun z : Nat => .int .u8 (z : Int)) rfl (by simp; omega) (u8_cells hcs2 (by simp; omega)) (fun u hu => by obtain ⟨z, -, rfl⟩ := List.mem_map.1 hu; rfl) (by omega) (by unfold maxLen; omega) (by omega) ?_); intro v' w11 hown hgr)
              have ho11 : OwnU w11 w10.heap.size v' (s.deck.take j ++ s.deck.drop (j + 1)) := ⟨encU_len, by simpa [List.flatMap_append, flatU_map, List.length_take, List.length_drop, hdl, Nat.min_eq_left (Nat.le_of_lt hjlt)] using hown⟩
              obtain ⟨a11, c11, rfl, -, hlc11, hmx11, hab11, hby11⟩ := ho11.byt (by simp; omega) (fun i => getD_lt (by omega) (fun z hz => by rcases List.mem_append.1 hz with h | h; exact Nat.lt_trans (hdt z (List.mem_of_mem_take h)) (by omega); exact Nat.lt_trans (hdt z (List.mem_of_mem_drop h)) (by omega)) i)
              have hl11 : (s.deck.take j ++ s.deck.drop (j + 1)).length = 52 - (k + 1) := by simp; omega
              rw [hl11] at hlc11 hby11
              have hg11 : Below w10.heap.size w10 w11 := ⟨hgr.os, hgr.tape, hgr.output, hgr.size, fun i hi => hgr.block i hi (by simp)⟩
              have h10R := r7.lt
              have hP := DlRel.step hn1 hlc11 hby11 (fun ad h => by have := (hab11 ad h).1; omega) (r7.below r7.lt hg11) (kk7.trans (Kept.of_below hg11)) (b7.trans (hg11.mono b7.size))
              rw [hl11]
              go_wp2
              go_roundw
              case rel => exact ⟨k + 1, by omega, by go_num, hP⟩
              case measure => simp [intOf]; omega
            · have h0 : L - (j + 1) = 0 := by omega
              rw [h0]
              have HJJ := Lib.hid (show j = 52 - (k + 1) by omega)
              go_wp2_with (at_builtin; go_loud (refine wpList_append_nothing rfl (.tmp 73) (.tmp 77) 25 rfl 5 i0 Try.underlying25 hi (some ⟨b', off', none⟩) j j (Nat.le_refl _) rfl _ rfl (src_empty Try.underlying25 a2 _ _) ?_))
              have hP : DlRel x w.heap.size wb.heap.size w wm (k + 1) (.slice (some ⟨b', off', none⟩) j j) w10 := by
                have h1 : Byt w10 (some ⟨b', off', none⟩) (52 - (k + 1)) (s.deck.take j ++ s.deck.drop (j + 1)) := by
                  have hd0 : s.deck.drop (j + 1) = [] := List.drop_eq_nil_of_le (by omega)
                  rw [hd0, List.append_nil, ← HJJ.out]
                  refine ⟨by simp; omega, by omega, fun i => getD_lt (by omega) (fun z hz => Nat.lt_trans (hdt z (List.mem_of_mem_take hz)) (by omega)) i, .inr ⟨b', off', rfl, hbs', fun i hi => ?_⟩⟩
                  rw [hcs' i (by omega), List.getD_eq_getElem?_getD, List.getD_eq_getElem?_getD, List.getElem?_take_of_lt hi]
                have h2 := DlRel.step (cv := j) hn1 (by rw [← HJJ.out]; omega) h1 (fun ad h => by injection h with h; subst h; exact hbb) r7 kk7 b7
                rwa [← HJJ.out] at h2
              exact ⟨⟨k + 1, by omega, by go_num, hP⟩, by simp [intOf]; omega⟩
          case inr =>
            have hX : x.at k = x.order.getD (k % lo) 0 + k := by unfold Sk.at; rw [ho.length, if_neg (fun h => by rw [← ho.length, h] at hlo; simp at hlo)]
            obtain ⟨b1, off1, rfl, hb1, hcs1⟩ := hom2.at hlo
            have hmod : k % lo < lo := Nat.mod_lt _ hlo
            have hc1 := hcs1 _ hmod
            have hby1 := hom2.byte (k % lo)
            clear hcs1
            generalize x.order.getD (k % lo) 0 = z at *
            go_upto_region 14 with fail
            go_region
            go_upto_region 15 with fail
            rw [show ((z : Int) + (k : Int)) = ((x.at k : Nat) : Int) by omega]
            have hbyd := hby.below (Nat.le_refl _) (Below.refl _ wr).drew
            have hrrd := hrr.below hrr.lt (Below.refl _ wr).drew
            have hkpd := hkp.drew
            have hbld := hbl.drew
            clear hby hrr hkp hbl
            generalize wr.drew = wr' at *
            clear hX
            generalize x.at k = X at *
            have hjlt : X % L < L := Nat.mod_lt _ hL0
            have hje : (X : Int) % (L : Int) = ((X % L : Nat) : Int) := by push_cast; rfl
            have hje0 : (0 : Int) ≤ (X : Int) % (L : Int) := by rw [hje]; omega
            go_upto_region 16 with fail
            rw [hje]
            clear hje hje0
            obtain ⟨b, off, rfl, hbs, hcs⟩ := hbyd.at hL0
            have hbb := hadb _ rfl
            dsimp only at hbb
            generalize X % L = j at *
            have hct := hcs j hjlt
            have hc52 : s.deck.getD j 0 < 52 := hdt _ (getD_mem_of_lt (by omega))
            have hk4 : k % 4 < 4 := Nat.mod_lt _ (by omega)
            have hm := (hrrd.cell (k % 4)).trans (seven_get s.h _ _ _ _ hk4)
            have hf := hrrd.frozen (k % 4)
            have hwk := hwh (k % 4)
            clear hcs
            generalize hc : s.deck.getD j 0 = c at *
            have HC := Lib.hid hc
            clear hc
            go_region
            go_upto_region 17 with fail
            have r5 := hrrd.set (k % 4) (.int .u64 ((lor (s.h (k % 4)) (shl1 c) : Nat) : Int))
            rw [seven_set _ _ _ _ _ _ hk4] at r5
            have r6 : Row ((wr'.setCell ⟨wb.heap.size, k % 4, none⟩ (.int .u64 ((lor (s.h (k % 4)) (shl1 c) : Nat) : Int))).drew) wb.heap.size 27 _ := r5
            have k6 : Kept (fun b => b ≠ wb.heap.size) wr' ((wr'.setCell ⟨wb.heap.size, k % 4, none⟩ (.int .u64 ((lor (s.h (k % 4)) (shl1 c) : Nat) : Int))).drew) := ((Kept.refl _ _).setCell (by simp) _).drew
            have b6 : Below w.heap.size w ((wr'.setCell ⟨wb.heap.size, k % 4, none⟩ (.int .u64 ((lor (s.h (k % 4)) (shl1 c) : Nat) : Int))).drew) := (hbld.setCell (by simp; omega) _).drew
            generalize ((wr'.setCell ⟨wb.heap.size, k % 4, none⟩ (.int .u64 ((lor (s.h (k % 4)) (shl1 c) : Nat) : Int))).drew) = we at *
            clear r5 hm hf hct
            have by5 := hbyd.kept (fun ad h => (hadb ad h).2) k6
            have kk5 := hkpd.trans k6
            clear hbyd hrrd hkpd hbld k6
            have hA := head_run b off L cd j (by omega)
            obtain ⟨a2, hB2, by6, hlk2⟩ := cut_run (some ⟨b, off, none⟩) L cd (j + 1) s.deck we (by omega) hcd by5
            rw [show ((j + 1 : Nat) : Int) = (j : Int) + 1 by omega] at hB2
            have ewj : IntKind.i64.wrap ((j : Int) + 1) = (j : Int) + 1 := by rw [IntKind.wrap_i64]; omega
            refine wp_region_below_tail 8 (by kernel_rfl) (by kernel_rfl) ?_
            simp only [List.take_succ_cons, List.take_zero, List.drop_succ_cons, List.drop_zero]
            repeat (quiet_step (fail))
            refine wpQuiet_nil ?_
            rintro _ ⟨p', rfl⟩
            clear hA hB2 ewj
            have hb10 := below_regrown we p'.d p'.os
            generalize grow (redrawn we p'.d) p'.os = w10 at *
            have r7 := r6.below r6.lt hb10
            have by7 := by5.below (Nat.le_refl _) hb10
            have by8 := by6.below (Nat.le_refl _) hb10
            have kk7 := kk5.trans (Kept.of_below hb10)
            have b7 := b6.trans (hb10.mono b6.size)
            clear r6 by5 by6 kk5 b6 hb10
            have hn1 := hNX.out
            have hk52 : 52 - (k + 1) = j + (L - (j + 1)) := by have := HL.out; omega
            obtain ⟨b', off', he, hbs', hcs'⟩ := by7.at hL0
            obtain ⟨rfl, rfl⟩ : b' = b ∧ off' = off := by injection he with he; injection he with h1 h2 h3; exact ⟨h1.symm, h2.symm⟩
            clear he
            by_cases hjL : j + 1 < L
            · obtain ⟨b2, off2, rfl, hbs2, hcs2⟩ := by8.at (by omega)
              go_wp2_with (at_builtin; go_loud (refine wpList_append_grows w10 rfl (.tmp 73) (.tmp 77) 25 rfl 5 i0 (.int .u8 0) 1 1 Try.underlying25 hi hz0 hz1 hz2 rfl (by decide) (some ⟨b', off', none⟩) j j ((s.deck.take j).map fun z : Nat => .int .u8 (z : Int)) rfl (fun h => by cases h) (by simp; omega) (fun ad h => by injection h with h; subst h; exact u8_cells (len := j) (fun i hi => by rw [hcs' i (by omega), List.getD_eq_getElem?_getD, List.getD_eq_getElem?_getD, List.getElem?_take_of_lt hi]) (by simp; omega)) ⟨b2, off2, none⟩ (L - (j + 1)) (cd - (j + 1)) ((s.deck.drop (j + 1)).map fun z : Nat => .int .u8 (z : Int)) rfl (by simp; omega) (u8_cells hcs2 (by simp; omega)) (fun u hu => by obtain ⟨z, -, rfl⟩ := List.mem_map.1 hu; rfl) (by omega) (by unfold maxLen; omega) (by omega) ?_); intro v' w11 hown hgr)
              have ho11 : OwnU w11 w10.heap.size v' (s.deck.take j ++ s.deck.drop (j + 1)) := ⟨encU_len, by simpa [List.flatMap_append, flatU_map, List.length_take, List.length_drop, hdl, Nat.min_eq_left (Nat.le_of_lt hjlt)] using hown⟩
              obtain ⟨a11, c11, rfl, -, hlc11, hmx11, hab11, hby11⟩ := ho11.byt (by simp; omega) (fun i => getD_lt (by omega) (fun z hz => by rcases List.mem_append.1 hz with h | h; exact Nat.lt_trans (hdt z (List.mem_of_mem_take h)) (by omega); exact Nat.lt_trans (hdt z (List.mem_of_mem_drop h)) (by omega)) i)
              have hl11 : (s.deck.take j ++ s.deck.drop (j + 1)).length = 52 - (k + 1) := by simp; omega
              rw [hl11] at hlc11 hby11
              have hg11 : Below w10.heap.size w10 w11 := ⟨hgr.os, hgr.tape, hgr.output, hgr.size, fun i hi => hgr.block i hi (by simp)⟩
              have h10R := r7.lt
              have hP := DlRel.step hn1 hlc11 hby11 (fun ad h => by have := (hab11 ad h).1; omega) (r7.below r7.lt hg11) (kk7.trans (Kept.of_below hg11)) (b7.trans (hg11.mono b7.size))
              rw [hl11]
              go_wp2
              go_roundw
              case rel => exact ⟨k + 1, by omega, by go_num, hP⟩
              case measure => simp [intOf]; omega
            · have h0 : L - (j + 1) = 0 := by omega
              rw [h0]
              have HJJ := Lib.hid (show j = 52 - (k + 1) by omega)
              go_wp2_with (at_builtin; go_loud (refine wpList_append_nothing rfl (.tmp 73) (.tmp 77) 25 rfl 5 i0 Try.underlying25 hi (some ⟨b', off', none⟩) j j (Nat.le_refl _) rfl _ rfl (src_empty Try.underlying25 a2 _ _) ?_))
              have hP : DlRel x w.heap.size wb.heap.size w wm (k + 1) (.slice (some ⟨b', off', none⟩) j j) w10 := by
                have h1 : Byt w10 (some ⟨b', off', none⟩) (52 - (k + 1)) (s.deck.take j ++ s.deck.drop (j + 1)) := by
                  have hd0 : s.deck.drop (j + 1) = [] := List.drop_eq_nil_of_le (by omega)
                  rw [hd0, List.append_nil, ← HJJ.out]
                  refine ⟨by simp; omega, by omega, fun i => getD_lt (by omega) (fun z hz => Nat.lt_trans (hdt z (List.mem_of_mem_take hz)) (by omega)) i, .inr ⟨b', off', rfl, hbs', fun i hi => ?_⟩⟩
                  rw [hcs' i (by omega), List.getD_eq_getElem?_getD, List.getD_eq_getElem?_getD, List.getElem?_take_of_lt hi]
                have h2 := DlRel.step (cv := j) hn1 (by rw [← HJJ.out]; omega) h1 (fun ad h => by injection h with h; subst h; exact hbb) r7 kk7 b7
                rwa [← HJJ.out] at h2
              exact ⟨⟨k + 1, by omega, by go_num, hP⟩, by simp [intOf]; omega⟩
        · have hke : k = 4 * n := by omega
          subst hke
          have hRa := ra.kept (by omega) hkp
          have hRb := rb.kept (by omega) hkp
          have hpm2 := hpm.keptP (fun h0 ad h => by have := hap h0 ad h; omega) hkp
          have hwh := dealN_w64 x (4 * n)
          have hNE := HNE.out
          generalize hhd : (x.dealN (4 * n)).h = hd at *
          have hrr' := hrr.alloc (.cells #[.int .i64 0] 3)
          have d0 := hrr'.cell 0
          have d1 := hrr'.cell 1
          have d2 := hrr'.cell 2
          have d3 := hrr'.cell 3
          have d4 := hrr'.cell 4
          have d5 := hrr'.cell 5
          have d6 := hrr'.cell 6
          simp at d0 d1 d2 d3 d4 d5 d6
          have HNE2 := Lib.hid hNE
          clear hNE
          have hRL := hrr.lt
          have hbsz := hbl.size
          have hksz := hkp.size
          have hra2 := (hRa.alloc (.cells #[.int .i64 0] 3))
          have hrb2 := (hRb.alloc (.cells #[.int .i64 0] 3))
          have hrbl := hRb.lt
          have hch : ChIn (wr.alloc (.cells #[.int .i64 0] 3)) x wr.heap.size w.heap.size ao lo co ap lp cp 0 :=
            ⟨Row.new _ _ _, hra2, hpm2.below (Nat.le_refl _) ((Below.refl _ _).alloc (Nat.le_refl _) _), fun h0 ad h => by have := hap h0 ad h; omega⟩
          have hpl := played1 x wr.heap.size w.heap.size ao lo co ap lp cp (4 * n) ⟨hd, x.trumps % 5, x.decl % 4, []⟩ none 0 0 (wr.alloc (.cells #[.int .i64 0] 3)) hch hwh (by dsimp only; omega) (by dsimp only; omega) (by omega) (fun k hk => HNE2.out k hk)
          have hbz : Below w.heap.size w (wr.alloc (.cells #[.int .i64 0] 3)) := hbl.alloc hbl.size _
          have HPL := Lib.hid hpl
          clear hpl hch
          go_wp2_with fail
          refine HPL.out.mono ?_
          rintro e w5 ⟨vz, rfl, hoz, hgz⟩
          have hs5 := hgz.size
          simp only [World.size_alloc] at hs5 hoz
          have h1 := hrb2.same (hgz.block (w.heap.size + 1) (by simp; omega) (fun e => by injection e with e; omega))
          have hb5 : Below w.heap.size w w5 := by
            refine hbz.trans ⟨hgz.os, hgz.tape, hgz.output, hgz.size, fun b hb => hgz.block b (by simp; omega) (fun e => by injection e with e; omega)⟩
          have x0 := h1.cell 0
          have x1 := h1.cell 1
          have x2 := h1.cell 2
          have x3 := h1.cell 3
          have x4 := h1.cell 4
          have x5 := h1.cell 5
          have x6 := h1.cell 6
          simp at x0 x1 x2 x3 x4 x5 x6
          have y0 := h1.frozen 0
          have y1 := h1.frozen 1
          have y2 := h1.frozen 2
          have y3 := h1.frozen 3
          have y4 := h1.frozen 4
          have y5 := h1.frozen 5
          have y6 := h1.frozen 6
          have hlen := plN_len x (x.trumps % 5) ⟨hd, (x.decl % 4 + 1) % 4, []⟩ rfl (4 * n)
          obtain ⟨av5, cv5, hv5, -⟩ := hoz.slice
          rw [hlen] at hv5
          subst hv5
          have hrc := Lib.hid (show x.rc = ⟨hd, x.trumps % 5, x.decl % 4, (plN x (x.trumps % 5) ⟨hd, (x.decl % 4 + 1) % 4, []⟩ (4 * n)).zs⟩ by unfold Sk.rc; rw [HNN.out, hhd])
          have HOZ := Lib.hid hoz
          clear hoz hlen hhd
          go_wp2
          rw [hrc.out]
          refine bodyPost_ret (v := .agg #[.int .u64 (hd 0 : Int), .int .u64 (hd 1 : Int), .int .u64 (hd 2 : Int), .int .u64 (hd 3 : Int), .int .u8 ((x.trumps % 5 : Nat) : Int), .int .u8 ((x.decl % 4 : Nat) : Int), .slice av5 (4 * n) cv5]) (by simp [results, Try.results17, go_sem, x0, x1, x2, x3, x4, x5, x6]) rfl ⟨_, rfl, ?_, ?_⟩
          · exact (HOZ.out.kept (grownBy_set (grownBy_set (grownBy_set (grownBy_set (grownBy_set (grownBy_set (grownBy_set (World.grownBy.refl w5 (some (w.heap.size + 1))) (.inl rfl) _) (.inl rfl) _) (.inl rfl) _) (.inl rfl) _) (.inl rfl) _) (.inl rfl) _) (.inl rfl) _) (.inl (fun e => by have := (HOZ.out.row e.symm).1; omega))).mono (by omega)
          · exact (((((((hb5).setCell (by simp) _).setCell (by simp) _).setCell (by simp) _).setCell (by simp) _).setCell (by simp) _).setCell (by simp) _).setCell (by simp) _
end Go.Proofs.Ytdlnilebnobllaa
