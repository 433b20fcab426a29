/- ClG, ClI in one text. -/
import Derived.Test.YtnbillhodbcfbaaDoorMCle
import Derived.Test.YtnbillhodbcfbaaDoorMDrs

/- claim.byLine and its closure over this seat's program. -/
namespace Go.Proofs.YtnbillhodbcfbaaDoor
open Go.RowKit Go.Sort Go.Shelf

theorem find_at {p : Nat → Bool} : ∀ {l : List Nat} {k : Nat}, k < l.length → (∀ j, j < k → p (l.getD j 0) = false) → p (l.getD k 0) = true → l.find? p = some (l.getD k 0)
  | [], k, h, _, _ => by simp at h
  | x :: l, 0, _, _, h => by
    show (x :: l).find? p = some x
    rw [List.find?_cons_of_pos (show p x = true from h)]
  | x :: l, k + 1, hk, hn, h => by
    have h0 : p x = false := hn 0 (by omega)
    rw [List.find?_cons_of_neg (by rw [h0]; exact Bool.false_ne_true)]
    exact find_at (l := l) (k := k) (by simpa using hk) (fun j hj => hn (j + 1) (by omega)) h
theorem find_no {p : Nat → Bool} {l : List Nat} (h : ∀ j, j < l.length → p (l.getD j 0) = false) : l.find? p = none := by
  rw [List.find?_eq_none]
  intro x hx
  obtain ⟨j, hj⟩ := List.getElem?_of_mem hx
  have hl := (List.getElem?_eq_some_iff.1 hj).1
  have := h j hl
  rw [List.getD_eq_getElem?_getD, hj] at this
  rw [show (some x).getD 0 = x from rfl] at this
  rw [this]; exact Bool.false_ne_true
/-- the card of a line, as a mask -/
def lineM (line : List Nat) (t : Tb) : Nat := match line.find? t.legal with | some c => shl1 c | none => shl1 (Lib.ctz 64 (canM t))
theorem bits_shl1 {c : Nat} (hc : c < 64) : (bitsList (shl1 c)).map Fin.val = [c] := by
  refine sorted_ext (bits_sorted _) (List.pairwise_singleton _ _) fun x => ?_
  rw [mem_bits (W64.shl1 c), testBit_shl1, List.mem_singleton]
  simp [hc, eq_comm]
theorem lineM_w64 (line : List Nat) (t : Tb) : W64 (lineM line t) := by unfold lineM; split <;> exact W64.shl1 _
theorem lineM_list {line : List Nat} {t : Tb} (h : TbOk t) (h0 : canM t ≠ 0) : (bitsList (lineM line t)).map Fin.val = lineL line t := by
  unfold lineM lineL
  have hcw := canM_w64 h
  cases hf : line.find? t.legal with
  | some c =>
    have hl := List.find?_some hf
    have h52 := (mem_cards.1 (cards_pk h.pk hl)).1
    exact bits_shl1 (show c < 64 by omega)
  | none =>
    obtain ⟨hk, hcons⟩ := bitsList_cons (canM t) h0 hcw
    dsimp only
    rw [bits_shl1 hk, ← canM_list h, hcons]
    rfl
theorem low_run (x : Nat) (hx : W64 x) (h0 : x ≠ 0) : bits BinOp.and IntKind.u64 (x : Int) (IntKind.u64.wrap (-(x : Int))) = ((shl1 (Lib.ctz 64 x) : Nat) : Int) := by
  obtain ⟨hlow, hk⟩ := Lib.lowest_bit 64 x h0 hx
  have e1 : IntKind.u64.wrap (-(x : Int)) = ((18446744073709551616 - x : Nat) : Int) := by unfold W64 at hx; rw [IntKind.wrap_u64]; omega
  rw [e1, bits_and_nat x _ hx (by unfold W64 at *; omega)]
  have e2 : x &&& (18446744073709551616 - x) = 2 ^ Lib.ctz 64 x := hlow
  unfold shl1
  rw [e2, if_pos hk]
set_option maxHeartbeats 1000000 in
set_option maxRecDepth 10000 in
theorem cl_byLine1 (t : Tb) (h : TbOk t) (h0 : canM t ≠ 0) (line : List Nat) (h52 : ∀ x ∈ line, x < 52) (bl : Nat) (a : Option Addr) (cap : Nat) (w : World) (hz : Byt w a line.length line) (hr : Row w bl 25 #[.slice a line.length cap]) :
    Calls Tryd.prog 71 #[.agg (tbA t), .pointer (some ⟨bl, 0, none⟩)] w fun e w' => e = .returned (.int .u64 ((lineM line t : Nat) : Int)) ∧ Below w.heap.size w w' := by
  have HCA := Lib.hid (fun W => cl_can t h W)
  have hcw := canM_w64 h
  have HBT := Lib.hid (fun c => canM_bit t c)
  have HLM : Hid (∀ c, line.find? t.legal = some c → lineM line t = shl1 c) := Lib.hid (fun c hc => by unfold lineM; rw [hc])
  have HLN : Hid (line.find? t.legal = none → lineM line t = shl1 (Lib.ctz 64 (canM t))) := Lib.hid (fun hc => by unfold lineM; rw [hc])
  have H52 : Hid (∀ k, line.getD k 0 < 52) := Lib.hid (fun k => by
    rw [List.getD_eq_getElem?_getD]
    cases hx : line[k]? with
    | none => exact (by decide : (0 : Nat) < 52)
    | some x => exact h52 x (List.mem_of_getElem? hx))
  obtain ⟨TA, hTA⟩ : ∃ A, A = tbA t := ⟨_, rfl⟩
  have HTZ : Hid ((Tryd.prog.info? 87).map (·.size) = some TA.size) := Lib.hid (by rw [hTA]; exact size_ct)
  rw [← hTA] at HCA ⊢
  have hR0 := Row.new w 87 TA
  have hB0 := (Below.refl w.heap.size w).alloc (Nat.le_refl _) (.cells TA 87)
  have HR := Lib.hid hr
  have HZ := Lib.hid hz
  obtain ⟨n, hn⟩ : ∃ n, line.length = n := ⟨_, rfl⟩
  have HN := Lib.hid hn
  rw [hn] at HR HZ
  have hnb : n ≤ 562949953421312 := by have := hz.small; omega
  clear h hTA hr hz hn h52
  go_enter Tryd.func71, Tryd.ntmps71
  go_upto_region 1 with fail
  generalize w.alloc (.cells TA 87) = w1 at *
  obtain ⟨b0, hb0⟩ : ∃ b, w.heap.size = b := ⟨_, rfl⟩
  rw [hb0] at hR0 ⊢
  clear hb0
  go_wp2_with (refine wpList_load_row rfl 87 (.tmp 2) rfl b0 rfl 87 TA (0, 0) _ hR0 Tryd.underlying87 rfl HTZ.out ?_)
  refine (HCA.out w1).mono ?_
  rintro e w2 ⟨rfl, hb2⟩
  have hB2 := hB0.trans (hb2.mono hB0.size)
  have HB2 := Lib.hid hB2
  have hr2 := HR.out.later hB2
  have HZ2 := Lib.hid (HZ.out.below (Nat.le_refl _) hB2)
  clear hb2 hR0 hB0
  obtain ⟨m, hm⟩ : ∃ m, canM t = m := ⟨_, rfl⟩
  rw [hm] at hcw h0 HBT HLN ⊢
  clear hm
  have c0 := hr2.cell 0
  simp only [List.getElem?_toArray, List.getElem?_cons_zero] at c0
  clear hB2
  go_wp2_with fail
  clear c0
  go_loopw [11] (fun i wr => ∃ k : Nat, k ≤ n ∧ i = .int .i64 (k : Int) ∧ (∀ j, j < k → t.legal (line.getD j 0) = false) ∧ w2 = wr) (fun i _ => n - (intOf i).toNat)
  case atStart => exact ⟨0, by omega, rfl, fun j hj => absurd hj (Nat.not_lt_zero j), rfl⟩
  case round =>
    obtain ⟨k, hk, rfl, hno, rfl⟩ := hrel
    have HNO := Lib.hid hno
    clear hno
    by_cases hlt : k < n
    · have hki : (k : Int) < (n : Int) := by omega
      obtain ⟨b, off, rfl, hbl, hcs⟩ := HZ2.out.at (by omega)
      have ck := hcs k hlt
      have hx52 := H52.out k
      have HF := Lib.hid (fun (hl : t.legal (line.getD k 0) = true) => HLM.out _ (find_at (l := line) (by rw [HN.out]; exact hlt) HNO.out hl))
      have hb := HBT.out (line.getD k 0)
      have hba := run_bit64 m (line.getD k 0) hcw
      have hsr : (m : Int) / 2 ^ (line.getD k 0) = ((shr m (line.getD k 0) : Nat) : Int) := by unfold shr; rw [Nat.shiftRight_eq_div_pow]; simp
      have HNX : Hid (t.legal (line.getD k 0) = false → ∀ j, j < k + 1 → t.legal (line.getD j 0) = false) := Lib.hid (fun h j hj => by
        rcases (show j < k ∨ j = k by omega) with h2 | rfl
        · exact HNO.out j h2
        · exact h)
      have hrs := run_shl64 (line.getD k 0) .u8
      have hbe := bitAt_eq m (line.getD k 0)
      clear hcs hbl
      generalize line.getD k 0 = c at *
      cases hl : t.legal c
      · have HNX2 := Lib.hid (HNX.out hl)
        rw [hb, hl] at hbe
        have hz0 : (((bitAt m c : Nat) : Int) != 0) = false := by rw [hbe]; rfl
        clear hb hl hbe
        go_wp2_with fail
        go_roundw
        case rel => exact ⟨k + 1, by omega, by go_num, HNX2.out, by trivial⟩
        case measure => simp [intOf]; omega
      · have HF2 := Lib.hid (HF.out hl)
        rw [hb, hl] at hbe
        have hz0 : (((bitAt m c : Nat) : Int) != 0) = true := by rw [hbe]; rfl
        clear hb hl hbe
        go_wp2_with fail
        go_ret
        exact ⟨by rw [HF2.out]; rfl, HB2.out⟩
    · obtain rfl : k = n := by omega
      have hnn : ¬ (k : Int) < (k : Int) := by omega
      have HF := Lib.hid (HLN.out (find_no (fun j hj => HNO.out j (by rw [← HN.out]; exact hj))))
      have hlr := low_run m hcw h0
      go_wp2_with fail
      go_ret
      exact ⟨by rw [HF.out]; rfl, HB2.out⟩
theorem cl_byLine (a : Option Addr) (n cap : Nat) (w : World) : Calls Tryd.prog 42 #[.slice a n cap] w fun e w' => e = .returned (.func (Fn.func 71) #[] #[.pointer (some ⟨w.heap.size, 0, none⟩)]) ∧ w' = w.alloc (.cells #[.slice a n cap] 25) := by
  go_enter Tryd.func42, Tryd.ntmps42
  go_wp2_with fail
  go_ret
  exact ⟨rfl, rfl⟩
end Go.Proofs.YtnbillhodbcfbaaDoor

/- What the closure of claim.least stands on: its boxes, its map, how it chooses and renames. -/
namespace Go.Proofs.YtnbillhodbcfbaaDoor
open Go.RowKit Go.Sort Go.Shelf Go.Maps Go.WideMaps

/-- a block of one cell -/
def At (W : World) (b : Nat) (v : Value) : Prop := b < W.heap.size ∧ W.cell? ⟨b, 0, none⟩ = some v
theorem At.same {W W' : World} {b : Nat} {v : Value} (h : At W b v) (hs : W.heap.size ≤ W'.heap.size) (e : W'.heap[b]? = W.heap[b]?) : At W' b v :=
  ⟨Nat.lt_of_lt_of_le h.1 hs, (World.cell?_of_block (a := ⟨b, 0, none⟩) e).trans h.2⟩
theorem At.of_row {W : World} {b : Nat} {t : TypeId} {v : Value} (h : Row W b t #[v]) : At W b v := ⟨h.lt, h.cell 0⟩
/-- the boxes that the closure has caught -/
def capL (x : Nat) : Array Value := #[.pointer (some ⟨x + 3, 0, none⟩), .pointer (some ⟨x + 5, 0, none⟩), .pointer (some ⟨x + 1, 0, none⟩), .pointer (some ⟨x + 2, 0, none⟩), .pointer (some ⟨x, 0, none⟩), .pointer (some ⟨x + 6, 0, none⟩)]
def folV (x : Nat) : Value := .func (Fn.func 70) #[] (capL x)
/-- how it is played: whose side, the cards that the side chooses from, the names between two tricks -/
structure Prm where
  tr : Nat
  sd : Nat
  fr : Bool
  line : List Nat
  cf : FuncId
  cc : Array Value
  rf : FuncId
  rn : (Nat → Nat) → Nat → Nat
  ch : Tb → Nat
  CR : World → Prop
def Prm.mn (P : Prm) (n : Nat) (t : Tb) : Nat := Go.Proofs.YtnbillhodbcfbaaDoor.mn P.sd P.tr P.fr P.line n t
def Prm.wo (P : Prm) (n : Nat) (t : Tb) (c : Nat) : Nat := worthM P.sd P.tr P.fr P.line n t c
/-- a table as the closure meets it -/
structure TbG (q : Nat) (t : Tb) : Prop where
  ok : TbOk t
  uq : Uniq t
  ev : Evn q t
structure Prm.ok (P : Prm) (x : Nat) : Prop where
  tr : P.tr < 256
  sd : P.sd < 2
  carry : ∀ W W', P.CR W → W.heap.size ≤ W'.heap.size → (∀ k, k < x → W'.heap[k]? = W.heap[k]?) → P.CR W'
  choose : ∀ W t, P.CR W → Tab W → TbOk t → canM t ≠ 0 → Calls Tryd.prog P.cf (#[.agg (tbA t)] ++ P.cc) W fun e w' => e = .returned (.int .u64 ((P.ch t : Nat) : Int)) ∧ Below W.heap.size W w'
  chw : ∀ t, TbOk t → W64 (P.ch t)
  chl : ∀ q t, TbG q t → canM t ≠ 0 → (∀ c ∈ (bitsList (P.ch t)).map Fin.val, t.legal c = true) ∧ ((bitsList (P.ch t)).map Fin.val).length ≤ q ∧ bitsList (P.ch t) ≠ []
  chm : ∀ q t m, TbG q t → canM t ≠ 0 → t.turn % 2 = P.sd → P.mn (m + 1) t = bestL false (((bitsList (P.ch t)).map Fin.val).map (P.wo m t))
  rename : ∀ W h, In52 h → Tab W → Calls Tryd.prog P.rf #[.agg (deA h)] W fun e w' => e = .returned (.agg (deA (P.rn h))) ∧ Below W.heap.size W w'
  cent : ∀ args w, Sem.run Tryd.prog (callFunc P.cf args) w = .ok (.enter P.cf args) w
  rent : ∀ args w, Sem.run Tryd.prog (callFunc P.rf args) w = .ok (.enter P.rf args) w
  rng : ∀ q h ld, TbG q ⟨h, ld, []⟩ → TbG q ⟨P.rn h, ld, []⟩ ∧ ∀ n, P.mn n ⟨P.rn h, ld, []⟩ = P.mn n ⟨h, ld, []⟩
/-- the boxes and the map of one closure -/
structure Env (P : Prm) (x n : Nat) (W : World) : Prop where
  t : At W x (.int .u8 (P.tr : Int))
  s : At W (x + 1) (.int .u8 (P.sd : Int))
  c : At W (x + 2) (.func (Fn.func P.cf) #[] P.cc)
  r : At W (x + 3) (.func (Fn.func P.rf) #[] #[])
  k : At W (x + 5) (.map (some (x + 4)))
  f : At W (x + 6) (folV x)
  m : ∃ D, W.ownsMap Tryd.prog 117 numR (x + 4) n D ∧ GoodM P.sd P.tr P.fr P.line D
  cr : P.CR W
  tab : Tab W
  lo : 0 < x
theorem ownsC_same {W W' : World} {bm n : Nat} {D : DataW Unit} (h : W.ownsMap Tryd.prog 117 numR bm n D) (e : W'.heap[bm]? = W.heap[bm]?) : W'.ownsMap Tryd.prog 117 numR bm n D := by
  obtain ⟨es, clock, hb, F, hs, hD⟩ := h
  exact ⟨es, clock, e.trans hb, F, hs, hD⟩
theorem Env.mlt {P : Prm} {x n : Nat} {W : World} (h : Env P x n W) : x + 6 < W.heap.size := h.f.1
/-- blocks below some height are as they were, but the map's is told anew -/
theorem Env.keep {P : Prm} {x n n' : Nat} {W W' : World} (hP : P.ok x) (h : Env P x n W) (hs : W.heap.size ≤ W'.heap.size) (e : ∀ k, k < x + 7 → k ≠ x + 4 → W'.heap[k]? = W.heap[k]?) (hm : ∃ D, W'.ownsMap Tryd.prog 117 numR (x + 4) n' D ∧ GoodM P.sd P.tr P.fr P.line D) : Env P x n' W' :=
  ⟨h.t.same hs (e x (by omega) (by omega)), h.s.same hs (e _ (by omega) (by omega)), h.c.same hs (e _ (by omega) (by omega)), h.r.same hs (e _ (by omega) (by omega)), h.k.same hs (e _ (by omega) (by omega)), h.f.same hs (e _ (by omega) (by omega)), hm, hP.carry _ _ h.cr hs (fun k hk => e k (by omega) (by omega)), fun j hj => (World.cell?_of_block (a := ⟨0, j, none⟩) (e _ (by have := h.lo; show (0 : Nat) < _; omega) (by have := h.lo; show (0 : Nat) ≠ _; omega))).trans (h.tab j hj), h.lo⟩
theorem Env.below {P : Prm} {x n B : Nat} {W W' : World} (hP : P.ok x) (h : Env P x n W) (hb : Below B W W') (hB : x + 7 ≤ B) : Env P x n W' := by
  obtain ⟨D, hD, hg⟩ := h.m
  exact h.keep hP hb.size (fun k hk _ => hb.block k (by omega)) ⟨D, ownsC_same hD (hb.block _ (by omega)), hg⟩
theorem Env.later {P : Prm} {x n : Nat} {W W' : World} (hP : P.ok x) (h : Env P x n W) (hb : Below W.heap.size W W') : Env P x n W' := h.below hP hb (by have := h.mlt; omega)
theorem Env.mono {P : Prm} {x n n' : Nat} {W : World} (h : Env P x n W) (hn : n ≤ n') : Env P x n' W := by
  obtain ⟨D, hD, hg⟩ := h.m
  exact ⟨h.t, h.s, h.c, h.r, h.k, h.f, ⟨D, hD.mono hn, hg⟩, h.cr, h.tab, h.lo⟩
/-- the closure, with m cards left -/
def FOk (P : Prm) (x m : Nat) : Prop := ∀ (n : Nat) (t : Tb) (q : Nat) (W : World), TbG q t → m + t.cs.length = 4 * q → q ≤ 4 → Env P x n W → n + 5 ^ m < maxLen →
  Calls Tryd.prog 70 (#[.agg (tbA t)] ++ capL x) W fun e w' => e = .returned (.int .i64 ((P.mn m t : Nat) : Int)) ∧ Env P x (n + 5 ^ m) w' ∧ But W.heap.size (x + 4) W w'
/-- the fewest so far -/
def fw (g : Nat → Nat) (l : List Nat) : Nat := l.foldl (fun a c => min a (g c)) 7
theorem fw_snoc (g : Nat → Nat) (l : List Nat) (c : Nat) : fw g (l ++ [c]) = min (fw g l) (g c) := by unfold fw; rw [List.foldl_append]; rfl
theorem fw_le (g : Nat → Nat) : ∀ l, fw g l ≤ 7 ∧ ∀ c ∈ l, fw g l ≤ g c := by
  intro l
  refine snoc_ind (P := fun l => fw g l ≤ 7 ∧ ∀ c ∈ l, fw g l ≤ g c) ⟨Nat.le_refl _, fun c h => by cases h⟩ (fun l x ih => ?_) l
  rw [fw_snoc]
  refine ⟨Nat.le_trans (Nat.min_le_left _ _) ih.1, fun c hc => ?_⟩
  rcases List.mem_append.1 hc with h | h
  · exact Nat.le_trans (Nat.min_le_left _ _) (ih.2 c h)
  · rcases List.mem_singleton.1 h with rfl; exact Nat.min_le_right _ _
theorem fw_mem (g : Nat → Nat) : ∀ l, fw g l = 7 ∨ ∃ c ∈ l, fw g l = g c := by
  intro l
  refine snoc_ind (P := fun l => fw g l = 7 ∨ ∃ c ∈ l, fw g l = g c) (.inl rfl) (fun l x ih => ?_) l
  rw [fw_snoc]
  rcases Nat.le_total (fw g l) (g x) with h | h
  · rw [Nat.min_eq_left h]
    rcases ih with h2 | ⟨c, hc, h2⟩
    · exact .inl h2
    · exact .inr ⟨c, List.mem_append_left _ hc, h2⟩
  · rw [Nat.min_eq_right h]
    exact .inr ⟨x, List.mem_append_right _ (List.mem_singleton.2 rfl), rfl⟩
theorem fw_done {g : Nat → Nat} {L pre : List Nat} (h0 : L ≠ []) (hV : bestL false (L.map g) < 7) (hp : ∀ c ∈ pre, c ∈ L) (h : (∀ c ∈ L, c ∈ pre) ∨ fw g pre = 0) : fw g pre = bestL false (L.map g) := by
  obtain ⟨h1, h2⟩ := fw_le g pre
  have hm := minL_mem (l := L.map g) (by simpa using h0)
  rcases h with h | h
  · obtain ⟨c, hc, e⟩ := List.mem_map.1 hm
    have hle : fw g pre ≤ bestL false (L.map g) := by rw [← e]; exact h2 c (h c hc)
    rcases fw_mem g pre with e2 | ⟨d, hd, e2⟩
    · omega
    · have := minL_le (l := L.map g) (List.mem_map.2 ⟨d, hp d hd, rfl⟩)
      omega
  · rcases fw_mem g pre with e2 | ⟨d, hd, e2⟩
    · omega
    · have := minL_le (l := L.map g) (List.mem_map.2 ⟨d, hp d hd, rfl⟩)
      omega
/-- while the table behind a card is made -/
def FoS (w : World) (TN : Array Value) (vs _us : List Value) (W : World) : Prop := Below w.heap.size w W ∧ match vs with
  | [] => True
  | [p] => ∃ g, p = .pointer (some ⟨g, 0, none⟩) ∧ w.heap.size ≤ g ∧ Row W g 87 zeroT
  | [p, _] => ∃ g, p = .pointer (some ⟨g, 0, none⟩) ∧ w.heap.size ≤ g ∧ Row W g 87 TN
  | _ => False
theorem FoS.below {w : World} {TN : Array Value} {vs us : List Value} {W W' : World} (h : FoS w TN vs us W) (hb : Below W.heap.size W W') : FoS w TN vs us W' := by
  obtain ⟨h1, h2⟩ := h
  refine ⟨h1.trans (hb.mono h1.size), ?_⟩
  match vs, h2 with
  | [], _ => trivial
  | [p], ⟨g, e, h3, h4⟩ => exact ⟨g, e, h3, h4.later hb⟩
  | [p, _], ⟨g, e, h3, h4⟩ => exact ⟨g, e, h3, h4.later hb⟩
/-- the cards that the other side, or a free side, is looked at with -/
theorem TbG.few {q : Nat} {t : Tb} (h : TbG q t) (h0 : canM t ≠ 0) : (∀ c ∈ (bitsList (fewM t)).map Fin.val, t.legal c = true) ∧ ((bitsList (fewM t)).map Fin.val).length ≤ q ∧ bitsList (fewM t) ≠ [] := by
  have hl := fewM_list h.ok
  refine ⟨fun c hc => ?_, by rw [List.length_map]; exact few_len h.ok h.ev, fun e => ?_⟩
  · rw [hl] at hc
    exact (few_legal hc).2
  · rw [e] at hl
    have hne : t.cards ≠ [] := by
      rw [← canM_list h.ok]
      obtain ⟨hk, hcons⟩ := bitsList_cons (canM t) h0 (canM_w64 h.ok)
      rw [hcons]; simp
    exact few_nonempty (o := othM t) hne hl.symm
theorem TbG.few_mn {P : Prm} {q : Nat} {t : Tb} (m : Nat) (h : TbG q t) (hfr : P.fr = true ∨ t.turn % 2 ≠ P.sd) : P.mn (m + 1) t = bestL false (((bitsList (fewM t)).map Fin.val).map (P.wo m t)) := by
  rw [fewM_list h.ok]
  exact Go.Proofs.YtnbillhodbcfbaaDoor.few_mn m h.ok.pk h.uq hfr (othM_bit h.ok)
theorem TbG.put {q : Nat} {t : Tb} (h : TbG q t) (tr : Nat) {c : Nat} (hc : t.legal c = true) {m : Nat} (hm : m + 1 + t.cs.length = 4 * q) : ∃ q', TbG q' (t.put tr c).1 ∧ q' ≤ q ∧ m + (t.put tr c).1.cs.length = 4 * q' := by
  have hc2 := cards_pk h.ok.pk hc
  obtain ⟨hc52, hb⟩ := legal_bit hc2
  have hl := h.ok.pk.2
  rcases h.ev.put hl tr (by omega) hb with ⟨hk, he', hl'⟩ | ⟨hk, he', hl'⟩
  · exact ⟨q, ⟨ok_put h.ok hc52, uniq_put h.uq (by omega) hl hb, he'⟩, Nat.le_refl _, by omega⟩
  · exact ⟨q - 1, ⟨ok_put h.ok hc52, uniq_put h.uq (by omega) hl hb, he'⟩, Nat.sub_le _ _, by rw [hl']; simp; omega⟩
theorem TbG.can {q : Nat} {t : Tb} (h : TbG q t) (hq : 0 < q) : canM t ≠ 0 := by
  intro e
  have := canM_list h.ok
  rw [e, bitsList_zero] at this
  exact cards_some h.ok h.ev hq this.symm
theorem Prm.mn_le {P : Prm} {q m : Nat} {t : Tb} (h : TbG q t) (hm : m + t.cs.length = 4 * q) : P.mn m t ≤ q := Go.Proofs.YtnbillhodbcfbaaDoor.mn_le m q t h.ok.pk h.ev hm
end Go.Proofs.YtnbillhodbcfbaaDoor
