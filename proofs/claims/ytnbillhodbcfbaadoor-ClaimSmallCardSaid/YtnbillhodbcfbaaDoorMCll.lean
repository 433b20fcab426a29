/- ClL, ClM in one text. -/
import Derived.Test.YtnbillhodbcfbaaDoorClJ
import Derived.Test.YtnbillhodbcfbaaDoorMDpg

/- claim.least over this seat's program, and its two uses: by a line, and free. -/
namespace Go.Proofs.YtnbillhodbcfbaaDoor
open Go.RowKit Go.Sort Go.Shelf Go.Maps Go.WideMaps

/-- a line that a closure has caught lies below x -/
def LnR (x : Nat) (line : List Nat) (bl : Nat) (a : Option Addr) (cap : Nat) (W : World) : Prop :=
  bl < x ∧ Row W bl 25 #[.slice a line.length cap] ∧ Byt W a line.length line ∧ ∀ b off, a = some ⟨b, off, none⟩ → b < x
theorem LnR.carry {x : Nat} {line : List Nat} {bl : Nat} {a : Option Addr} {cap : Nat} {W W' : World} (h : LnR x line bl a cap W) (hs : W.heap.size ≤ W'.heap.size) (e : ∀ k, k < x → W'.heap[k]? = W.heap[k]?) : LnR x line bl a cap W' := by
  obtain ⟨h1, h2, h3, h4⟩ := h
  refine ⟨h1, (e bl h1).trans h2, ⟨h3.length, h3.small, h3.byte, ?_⟩, h4⟩
  rcases h3.cells with h | ⟨b, off, ha, hlt, hc⟩
  · exact .inl h
  · exact .inr ⟨b, off, ha, Nat.lt_of_lt_of_le hlt hs, fun i hi => (World.cell?_of_block (a := ⟨b, off + i, none⟩) (e b (h4 b off ha))).trans (hc i hi)⟩
def sureP (x tr sd : Nat) (line : List Nat) (bl : Nat) (a : Option Addr) (cap : Nat) : Prm :=
  ⟨tr, sd, false, line, 71, #[.pointer (some ⟨bl, 0, none⟩)], 43, id, lineM line, LnR x line bl a cap⟩
def mustP (tr sd : Nat) : Prm := ⟨tr, sd, true, [], 45, #[], 46, shr4, fewM, fun _ => True⟩
theorem ent_cf1 (args : Array Value) (w : World) : Sem.run Tryd.prog (callFunc 71 args) w = .ok (.enter 71 args) w := by rfl
theorem ent_cf2 (args : Array Value) (w : World) : Sem.run Tryd.prog (callFunc 45 args) w = .ok (.enter 45 args) w := by rfl
theorem ent_rf1 (args : Array Value) (w : World) : Sem.run Tryd.prog (callFunc 43 args) w = .ok (.enter 43 args) w := by rfl
theorem ent_rf2 (args : Array Value) (w : World) : Sem.run Tryd.prog (callFunc 46 args) w = .ok (.enter 46 args) w := by rfl
theorem sureP_ok {x tr sd : Nat} {line : List Nat} {bl : Nat} {a : Option Addr} {cap : Nat} (htr : tr < 256) (hsd : sd < 2) (h52 : ∀ y ∈ line, y < 52) : (sureP x tr sd line bl a cap).ok x where
  tr := htr
  sd := hsd
  carry := fun W W' h hs e => LnR.carry h hs e
  choose := fun W t h _ hk h0 => cl_byLine1 t hk h0 line h52 bl a cap W h.2.2.1 h.2.1
  chw := fun t _ => lineM_w64 line t
  chl := fun q t ht h0 => by
    have hl := lineM_list (line := line) ht.ok h0
    have hcw : bitsList (canM t) ≠ [] := by
      obtain ⟨hk, hcons⟩ := bitsList_cons (canM t) h0 (canM_w64 ht.ok)
      rw [hcons]; simp
    have hne : t.cards ≠ [] := by rw [← canM_list ht.ok]; simpa using hcw
    have hq := few_len ht.ok ht.ev
    have hf := (ht.few h0).2.2
    have h1 : ∃ c, lineL line t = [c] := by
      unfold lineL
      split
      · exact ⟨_, rfl⟩
      · cases hc : t.cards with
        | nil => exact absurd hc hne
        | cons y l => exact ⟨y, rfl⟩
    obtain ⟨c, hc⟩ := h1
    refine ⟨fun d hd => ?_, ?_, fun e => ?_⟩
    · rw [show ((bitsList ((sureP x tr sd line bl a cap).ch t)).map Fin.val) = lineL line t from hl] at hd
      exact lineL_legal hd
    · rw [show ((bitsList ((sureP x tr sd line bl a cap).ch t)).map Fin.val) = lineL line t from hl, hc]
      have : 0 < (bitsList (fewM t)).length := List.length_pos_iff.2 hf
      simp; omega
    · rw [show bitsList (lineM line t) = [] from e, hc] at hl
      simp at hl
  chm := fun q t m ht h0 hs => by
    show Go.Proofs.YtnbillhodbcfbaaDoor.mn sd tr false line (m + 1) t = _
    rw [line_mn m (show t.turn % 2 = sd from hs), ← lineM_list ht.ok h0]
    rfl
  rename := fun W h _ _ => cl_asItIs h W
  cent := ent_cf1
  rent := ent_rf1
  rng := fun _ _ _ ht => ⟨ht, fun _ => rfl⟩
theorem mustP_ok {x tr sd : Nat} (htr : tr < 256) (hsd : sd < 2) : (mustP tr sd).ok x where
  tr := htr
  sd := hsd
  carry := fun _ _ _ _ _ => trivial
  choose := fun W t _ hT hk _ => cl_distinct t hk W hT
  chw := fun _ h => fewM_w64 h
  chl := fun _ _ ht h0 => ht.few h0
  chm := fun _ _ m ht _ _ => ht.few_mn (P := mustP tr sd) m (.inl rfl)
  rename := fun W h hh hT => cl_shrink h hh W hT
  cent := ent_cf2
  rent := ent_rf2
  rng := fun _ _ ld ht => ⟨⟨shr4_ok ht.ok.pk.1 ht.ok.ld, shr4_uniq ht.ok.pk.1 ht.uq, shr4_evn ht.ok.pk.1 ht.ev⟩, fun n => shr4_mn ht.ok.pk.1 ld tr n⟩
theorem At.new {W : World} {b : Nat} (v : Value) (t : TypeId) (hb : W.heap.size = b) : At (W.alloc (.cells #[v] t)) b v := by
  subst hb
  exact At.of_row (Row.new W t #[v])
theorem At.alloc {W : World} {b : Nat} {v : Value} (h : At W b v) (o : Obj) : At (W.alloc o) b v :=
  h.same (by rw [World.size_alloc]; omega) (Below.heap_alloc W o b h.1)
theorem cl_least (P : Prm) (W : World) (hP : P.ok W.heap.size) (hT : Tab W) (hlo : 0 < W.heap.size) (hC : P.CR W) :
    Calls Tryd.prog 41 #[.int .u8 (P.tr : Int), .int .u8 (P.sd : Int), .func (Fn.func P.cf) #[] P.cc, .func (Fn.func P.rf) #[] #[]] W fun e w' => e = .returned (folV W.heap.size) ∧ Env P W.heap.size 0 w' ∧ Below W.heap.size W w' := by
  have hmm : ∀ W, (Instr.makeMap 115 none).run Tryd.prog W = .ok (.map (some W.heap.size)) (W.alloc (.map #[] 0)) := fun W => run_makeMap _ W
  go_enter Tryd.func41, Tryd.ntmps41
  go_wp2_with fail
  go_ret
  obtain ⟨x, hx⟩ : ∃ x, W.heap.size = x := ⟨_, rfl⟩
  rw [hx] at hP hlo ⊢
  refine ⟨rfl, ?_, ?_⟩
  · have hb := fun t1 c1 t2 c2 t3 c3 t4 c4 o5 t6 c6 t7 c7 => ((((((((Below.refl x W).alloc (Nat.le_of_eq hx.symm) (.cells c1 t1)).alloc (by simp; omega) (.cells c2 t2)).alloc (by simp; omega) (.cells c3 t3)).alloc (by simp; omega) (.cells c4 t4)).alloc (by simp; omega) o5).alloc (by simp; omega) (.cells c6 t6)).alloc (by simp; omega) (.cells c7 t7))
    refine ⟨?_, ?_, ?_, ?_, ?_, ?_, ⟨.map [], ?_, ?_⟩, ?_, ?_, hlo⟩
    · exact ((((((At.new _ _ hx).alloc _).alloc _).alloc _).alloc _).alloc _).alloc _
    · exact (((((At.new _ _ (by simp [hx])).alloc _).alloc _).alloc _).alloc _).alloc _
    · exact ((((At.new _ _ (by simp [hx])).alloc _).alloc _).alloc _).alloc _
    · exact (((At.new _ _ (by simp [hx])).alloc _).alloc _).alloc _
    · exact (At.new _ _ (by simp [hx])).alloc _
    · exact At.new _ _ (by simp [hx])
    · have h := World.ownsMap_made ((((W.alloc (.cells #[.int .u8 (P.tr : Int)] 5)).alloc (.cells #[.int .u8 (P.sd : Int)] 5)).alloc (.cells #[.func (Fn.func P.cf) #[] P.cc] 83)).alloc (.cells #[.func (Fn.func P.rf) #[] #[]] 85)) Tryd.prog 117 numR
      have e : ((((W.alloc (.cells #[.int .u8 (P.tr : Int)] 5)).alloc (.cells #[.int .u8 (P.sd : Int)] 5)).alloc (.cells #[.func (Fn.func P.cf) #[] P.cc] 83)).alloc (.cells #[.func (Fn.func P.rf) #[] #[]] 85)).heap.size = x + 4 := by simp [hx]
      rw [e] at h
      exact (h.alloc _).alloc _
    · exact fun h ld _ _ _ hh => by cases hh
    · exact hP.carry _ _ hC (by simp; omega) (fun k hk => (hb _ _ _ _ _ _ _ _ _ _ _ _ _).block k hk)
    · exact hT.below hlo (hb _ _ _ _ _ _ _ _ _ _ _ _ _)
  · exact ((((((((Below.refl x W).alloc (Nat.le_of_eq hx.symm) _).alloc (by simp; omega) _).alloc (by simp; omega) _).alloc (by simp; omega) _).alloc (by simp; omega) _).alloc (by simp; omega) _).alloc (by simp; omega) _)
end Go.Proofs.YtnbillhodbcfbaaDoor

/- claim.Right over this seat's program. -/
namespace Go.Proofs.YtnbillhodbcfbaaDoor
open Go.RowKit Go.Sort Go.Shelf

/-- a claim, as it is handed in -/
def cmA (sd : Nat) (tk : Int) (v : Value) : Array Value := #[.int .u8 (sd : Int), .int .i64 tk, v]
theorem size_cm : (Tryd.prog.info? 44).map (·.size) = some 3 := by kernel_rfl
/-- what a claim must be, with lf tricks left -/
def claimB (sd : Nat) (tk : Int) (ln : List Nat) (lf : Nat) : Bool := decide (sd ≤ 1) && decide (0 ≤ tk) && decide (tk ≤ (lf : Int)) && decide (ln.length ≤ 24) && playOk (fun _ => 0) ln ln.length
set_option maxHeartbeats 2000000 in
set_option maxRecDepth 10000 in
theorem cl_Right (h : Nat → Nat) (tr ld : Nat) (ps : List Nat) (a : Option Addr) (cap sd : Nat) (tk : Int) (ln : List Nat) (la : Option Addr) (lcap : Nat) (hw : ∀ s, W64 (h s)) (htr : tr < 256) (hld : ld < 256) (hsd : sd < 256) (w : World) (hz : Byt w a ps.length ps) (hl : Byt w la ln.length ln) :
    Calls Tryd.prog 26 #[.agg (posA h tr ld (.slice a ps.length cap)), .agg (cmA sd tk (.slice la ln.length lcap))] w fun e w' => e = .returned (.bool (rightB h tr ld ps && claimB sd tk ln (pop (h ((ld + ps.length) % 4))))) ∧ Below w.heap.size w w' := by
  have hb1 := (Below.refl w.heap.size w).alloc (Nat.le_refl _) (.cells (posA h tr ld (.slice a ps.length cap)) 27)
  have hb2 := hb1.alloc hb1.size (.cells (cmA sd tk (.slice la ln.length lcap)) 44)
  have HLN := Lib.hid (fun (hr : rightB h tr ld ps = false) W hzW => dm_Left_no h tr ld ps a cap hw htr hld W hzW hr)
  have HLY := Lib.hid (fun (hr : rightB h tr ld ps = true) W hzW => dm_Left_ok h tr ld ps a cap hw htr hld W hzW hr)
  have HB := Lib.hid hb2
  have HY := Lib.hid (hz.below (Nat.le_refl _) hb2)
  have HL := Lib.hid (hl.below (Nat.le_refl _) hb2)
  have HR := Lib.hid ((Row.new w 27 (posA h tr ld (.slice a ps.length cap))).alloc (.cells (cmA sd tk (.slice la ln.length lcap)) 44))
  have HC := Lib.hid (Row.new (w.alloc (.cells (posA h tr ld (.slice a ps.length cap)) 27)) 44 (cmA sd tk (.slice la ln.length lcap)))
  have hsz : (w.alloc (.cells (posA h tr ld (.slice a ps.length cap)) 27)).heap.size = w.heap.size + 1 := by simp
  rw [hsz] at HC
  obtain ⟨lf, hlf⟩ : ∃ q, pop (h ((ld + ps.length) % 4)) = q := ⟨_, rfl⟩
  rw [hlf] at HLY ⊢
  obtain ⟨rr, hrr⟩ : ∃ r, claimB sd tk ln lf = r := ⟨_, rfl⟩
  have HRR : Hid (rr = (decide (sd ≤ 1) && decide (0 ≤ tk) && decide (tk ≤ (lf : Int)) && decide (ln.length ≤ 24) && playOk (fun _ => 0) ln ln.length)) := Lib.hid hrr.symm
  rw [hrr]
  have hsm := hl.small
  obtain ⟨n, hnn⟩ : ∃ n, ln.length = n := ⟨_, rfl⟩
  rw [hnn] at HL HRR HC HR hsm HB HY ⊢
  obtain ⟨PA, hPA⟩ : ∃ A, posA h tr ld (.slice a ps.length cap) = A := ⟨_, rfl⟩
  have HZ : Hid (PA.size = 7) := Lib.hid (by rw [← hPA]; rfl)
  obtain ⟨CA, hCA⟩ : ∃ A, cmA sd tk (.slice la n lcap) = A := ⟨_, rfl⟩
  have HCA := Lib.hid hCA
  rw [hPA] at HB HY HR HLN HLY HL HC ⊢
  rw [hCA] at HB HY HR HC HL ⊢
  obtain ⟨rb, hrb⟩ : ∃ b, rightB h tr ld ps = b := ⟨_, rfl⟩
  rw [hrb] at HLN HLY ⊢
  clear hPA hCA hnn hlf hrr hb1 hb2 hz hl hw hrb hsz
  go_enter Tryd.func26, Tryd.ntmps26
  go_upto_region 1 with fail
  generalize (w.alloc (.cells PA 27)).alloc (.cells CA 44) = w2 at *
  go_wp2_with (refine wpList_load_row rfl 27 (.tmp 2) rfl w.heap.size rfl 27 PA (0, 0) _ HR.out Tryd.underlying27 rfl (by rw [HZ.out]; exact size_pos) ?_)
  cases rb
  · refine (HLN.out rfl w2 HY.out).mono ?_
    rintro e w3 ⟨rfl, hb3⟩
    have HB3 := Lib.hid (HB.out.trans (hb3.mono HB.out.size))
    clear hb3
    go_wp2_with fail
    go_ret
    exact ⟨rfl, HB3.out⟩
  · refine (HLY.out rfl w2 HY.out).mono ?_
    rintro e w3 ⟨rfl, hb3⟩
    have HB3 := Lib.hid (HB.out.trans (hb3.mono HB.out.size))
    have HC3 := Lib.hid (HC.out.later hb3)
    have HL3 := Lib.hid (HL.out.below (Nat.le_refl _) hb3)
    clear hb3 HLN HLY HL HC HR HY HB
    have c0 : w3.cell? ⟨w.heap.size + 1, 0, none⟩ = some (.int .u8 (sd : Int)) := (HC3.out.cell 0).trans (by rw [← HCA.out]; rfl)
    have c1 : w3.cell? ⟨w.heap.size + 1, 1, none⟩ = some (.int .i64 tk) := (HC3.out.cell 1).trans (by rw [← HCA.out]; rfl)
    have c2 : w3.cell? ⟨w.heap.size + 1, 2, none⟩ = some (.slice la n lcap) := (HC3.out.cell 2).trans (by rw [← HCA.out]; rfl)
    by_cases h1 : sd ≤ 1
    · have h1I : decide ((1 : Int) < (sd : Int)) = false := by simp; omega
      by_cases h2 : 0 ≤ tk
      · have h2I : decide (tk < 0) = false := by simp; omega
        by_cases h3 : tk ≤ (lf : Int)
        · have h3I : decide ((lf : Int) < tk) = false := by simp; omega
          by_cases h4 : n ≤ 24
          · have h4I : decide ((24 : Int) < (n : Int)) = false := by simp; omega
            have HR2 : Hid (rr = playOk (fun _ => 0) ln n) := Lib.hid (by rw [HRR.out, decide_eq_true h1, decide_eq_true h2, decide_eq_true h3, decide_eq_true h4]; simp)
            clear HRR
            go_wp2_with fail
            clear h1I h2I h3I h4I c0 c1 c2 h1 h2 h3 h4
            go_loop [4, 8, 10, 44] (fun _ m _ i => ∃ k : Nat, k ≤ n ∧ i = .int .i64 (k : Int) ∧ m = .int .u64 ((plTo (fun _ => 0) ln k : Nat) : Int) ∧ playOk (fun _ => 0) ln k = true) (fun _ _ _ i => n - (intOf i).toNat)
            case atStart => exact ⟨0, by omega, rfl, rfl, rfl⟩
            case round =>
              obtain ⟨k, hk, rfl, rfl, hek⟩ := hrel
              have HEK := Lib.hid hek
              clear hek
              by_cases hlt : k < n
              · have hdk : decide (k < n) = true := by simp; omega
                obtain ⟨bb, off, ha, hbl, hcells⟩ := HL3.out.at (by omega)
                have ek := hcells k hlt
                have hx := HL3.out.byte k
                have hpw := plTo_w64 (h := fun _ => 0) (fun _ => W64.zero) ln k
                have HNX : Hid (plTo (fun _ => 0) ln (k + 1) = lor (plTo (fun _ => 0) ln k) (shl1 (ln.getD k 0))) := Lib.hid rfl
                have HST : Hid (playOk (fun _ => 0) ln (k + 1) = (decide (ln.getD k 0 < 52) && !(plTo (fun _ => 0) ln k).testBit (ln.getD k 0))) := Lib.hid (by
                  show (playOk (fun _ => 0) ln k && _) = _
                  rw [HEK.out]; rfl)
                have HNO : Hid (playOk (fun _ => 0) ln (k + 1) = false → rr = false) := Lib.hid fun e => by
                  rw [HR2.out]
                  cases hf : playOk (fun _ => 0) ln n
                  · rfl
                  · rw [playOk_mono (by omega) hf] at e; cases e
                obtain ⟨c, hc⟩ : ∃ c, ln.getD k 0 = c := ⟨_, rfl⟩
                obtain ⟨m, hm⟩ : ∃ m, plTo (fun _ => 0) ln k = m := ⟨_, rfl⟩
                rw [hc] at ek hx HNX HST
                rw [hm] at hpw HNX HST ⊢
                clear hc hm hcells hk hbl
                subst ha
                have hsr := run_shr64 m c .u8 hpw
                have hba := run_bit64 m c hpw
                have hsl := run_shl64 c .u8
                have hor := run_or64 m (shl1 c) hpw (W64.shl1 c)
                by_cases hc52 : c < 52
                · have hcb : decide ((52 : Int) ≤ (c : Int)) = false := by simp; omega
                  cases hbt : m.testBit c
                  · have hbi : (((bitAt m c : Nat) : Int) != 0) = false := by rw [bitAt_eq, hbt]; rfl
                    have HT2 : Hid (playOk (fun _ => 0) ln (k + 1) = true) := Lib.hid (by rw [HST.out, hbt, decide_eq_true hc52]; rfl)
                    clear hbt
                    go_wp2_with fail
                    exact ⟨⟨k + 1, by omega, by simp, by rw [HNX.out], HT2.out⟩, by simp [intOf]; omega⟩
                  · have hbi : (((bitAt m c : Nat) : Int) != 0) = true := by rw [bitAt_eq, hbt]; rfl
                    have HT2 : Hid (rr = false) := Lib.hid (HNO.out (by rw [HST.out, hbt]; simp))
                    clear hbt
                    go_wp2_with fail
                    go_ret
                    exact ⟨by rw [HT2.out]; rfl, HB3.out⟩
                · have hcb : decide ((52 : Int) ≤ (c : Int)) = true := by simp; omega
                  have HT2 : Hid (rr = false) := Lib.hid (HNO.out (by rw [HST.out, decide_eq_false hc52]; rfl))
                  clear hc52
                  go_wp2_with fail
                  go_ret
                  exact ⟨by rw [HT2.out]; rfl, HB3.out⟩
              · obtain rfl : k = n := by omega
                have hdk : decide (k < k) = false := by simp
                have HT2 : Hid (rr = true) := Lib.hid (by rw [HR2.out, HEK.out])
                clear hlt hk
                go_wp2_with fail
                go_ret
                exact ⟨by rw [HT2.out]; rfl, HB3.out⟩
          · have h4I : decide ((24 : Int) < (n : Int)) = true := by simp; omega
            have HT2 : Hid (rr = false) := Lib.hid (by rw [HRR.out, decide_eq_false h4]; simp)
            clear h1 h2 h3 h4
            go_wp2_with fail
            go_ret
            exact ⟨by rw [HT2.out]; rfl, HB3.out⟩
        · have h3I : decide ((lf : Int) < tk) = true := by simp; omega
          have HT2 : Hid (rr = false) := Lib.hid (by rw [HRR.out, decide_eq_false h3]; simp)
          clear h1 h2 h3
          go_wp2_with fail
          go_ret
          exact ⟨by rw [HT2.out]; rfl, HB3.out⟩
      · have h2I : decide (tk < 0) = true := by simp; omega
        have HT2 : Hid (rr = false) := Lib.hid (by rw [HRR.out, decide_eq_false h2]; simp)
        clear h1 h2
        go_wp2_with fail
        go_ret
        exact ⟨by rw [HT2.out]; rfl, HB3.out⟩
    · have h1I : decide ((1 : Int) < (sd : Int)) = true := by simp; omega
      have HT2 : Hid (rr = false) := Lib.hid (by rw [HRR.out, decide_eq_false h1]; simp)
      clear h1
      go_wp2_with fail
      go_ret
      exact ⟨by rw [HT2.out]; rfl, HB3.out⟩
end Go.Proofs.YtnbillhodbcfbaaDoor
