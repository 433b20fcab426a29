/- RrO, RrP, RrG0 in one text. -/
import Derived.Test.YtginbellakkliaaDoorMRra
import Derived.Test.YtginbellakkliaaDoorMRrd

/- finessekit.OverBytes over this seat's program: the call's own bytes are written over, nothing else. -/
namespace Go.Proofs.YtginbellakkliaaDoor
open Go.RowKit Go.Shelf Go.Sort Go.Maps Go.WideMaps

def markO (x : Int) : Int := IntKind.u64.wrap (x * 11400714819323198485) / 72057594037927936 % 256
def mb (k i : Nat) : Nat := (markO (1000003 * ((k : Int) + 7) + (i : Int))).toNat
theorem mb_cast (k i : Nat) : ((mb k i : Nat) : Int) = markO (1000003 * ((k : Int) + 7) + (i : Int)) := by
  unfold mb markO; omega
theorem kit_mark2 (k i : Nat) (hk : k < 8) (hi : i < 1000) (w : World) :
    Calls Tryd.prog 93 #[.int .i64 (k : Int), .int .i64 (i : Int)] w fun e w' => e = .returned (.int .i64 (1000003 * ((k : Int) + 7) + (i : Int))) ∧ w = w' := by
  go_enter Tryd.func93, Tryd.ntmps93
  go_wp2
  go_ret
  exact ⟨rfl, rfl⟩
theorem kit_mb (k i : Nat) (hk : k < 8) (hi : i < 1000) (w : World) :
    Calls Tryd.prog 87 #[.int .i64 (k : Int), .int .i64 (i : Int)] w fun e w' => e = .returned (.int .u8 (mb k i : Int)) ∧ w = w' := by
  have hm := kit_mark2 k i hk hi w
  have HE := Lib.hid (mb_cast k i)
  have hx : 0 ≤ 1000003 * ((k : Int) + 7) + (i : Int) ∧ 1000003 * ((k : Int) + 7) + (i : Int) < 20000000 := by omega
  generalize 1000003 * ((k : Int) + 7) + (i : Int) = x at *
  have HM := Lib.hid hm
  clear hm
  go_enter Tryd.func87, Tryd.ntmps87
  go_wp2_with (go_at_call 93; refine HM.out.mono ?_; rintro e w' ⟨rfl, rfl⟩)
  go_ret
  exact ⟨by rw [HE.out]; rfl, rfl⟩


/-- a block of one-cell bytes under the hand -/
structure Blk (w0 w : World) (g cap : Nat) : Prop where
  row : ∃ cur, w.heap[g]? = some (.cells cur 5 (0, 0)) ∧ cur.size = cap
  kp : Kept (fun b => b ≠ g) w0 w
theorem Blk.cell {w0 w : World} {g cap : Nat} (h : Blk w0 w g cap) {i : Nat} (hi : i < cap) : ∃ v, w.cell? ⟨g, i, none⟩ = some v := by
  obtain ⟨⟨cur, hr, hs⟩, -⟩ := h
  exact ⟨cur[i], (Row.cell (show Row w g _ cur from hr) i).trans (Array.getElem?_eq_getElem (by omega))⟩
theorem Blk.frozen {w0 w : World} {g cap : Nat} (h : Blk w0 w g cap) (i : Nat) : w.frozen? ⟨g, i, none⟩ = false := by
  obtain ⟨⟨cur, hr, hs⟩, -⟩ := h
  exact Row.frozen (show Row w g _ cur from hr) i
theorem Blk.set {w0 w : World} {g cap : Nat} (h : Blk w0 w g cap) (i : Nat) (v : Value) : Blk w0 (w.setCell ⟨g, i, none⟩ v) g cap := by
  obtain ⟨⟨cur, hr, hs⟩, hk⟩ := h
  exact ⟨⟨cur.setIfInBounds i v, Row.set (show Row w g _ cur from hr) i v, by simpa using hs⟩, hk.setCell (fun e => e rfl) _⟩
theorem own_blk {w : World} {base g n cap : Nat} {l : List Nat} (h : OwnU w base (.slice (some ⟨g, 0, none⟩) n cap) l) : Blk w w g cap := by
  rcases h.2.2 with ⟨h1, -⟩ | ⟨g', cap', cur, h1, h2, h3, h4, h5, h6, h7⟩
  · cases h1
  · injection h1 with e1 e2 e3
    injection e1 with e1; injection e1 with e1
    subst e1 e3
    exact ⟨⟨cur, h3, by simpa using h6⟩, Kept.refl _ _⟩
set_option maxHeartbeats 1000000 in
theorem kit_over {w : World} {base : Nat} {v : Value} {zs : List Nat} (h : OwnU w base v zs) (hl : zs.length ≤ 900) :
    Calls Tryd.prog 75 #[v] w fun e w' => e = .returned (.tuple #[]) ∧ Kept (fun b => some b ≠ v.ownBlock) w w' := by
  rcases h.form with ⟨rfl, rfl⟩ | ⟨g, cap, rfl, h1, h2, h3, h4⟩
  · have hsl : ∀ wx, (Instr.slice 22 (.slice none 0 0) none (some (.int .i64 0)) none).run Tryd.prog wx = .ok (.slice none 0 0) wx := fun wx => by
      have hsz : ∀ wx, (sizeOf (Tryd.prog.elem 22)).run Tryd.prog wx = .ok 1 wx := by intro wx; kernel_rfl
      rw [run_slice_h wx 22 none 0 0 (by kernel_rfl) _ _ (by omega) (by omega), hsz]
      simp [Result.andThen, sliced]
    go_enter Tryd.func75, Tryd.ntmps75
    go_wp2_with fail
    go_loopw [3] (fun i wr => i = .int .i64 0 ∧ wr = w) (fun _ _ => 0)
    case atStart => exact ⟨rfl, rfl⟩
    case round =>
      obtain ⟨rfl, rfl⟩ := hrel
      go_wp2_with fail
      go_end0
      exact ⟨rfl, Kept.refl _ _⟩
  · have hb := own_blk h
    obtain ⟨n, hn⟩ : ∃ n, zs.length = n := ⟨_, rfl⟩
    rw [hn] at h3 hl ⊢
    obtain ⟨m, hm⟩ : ∃ m, min cap (n + 12) = m := ⟨_, rfl⟩
    have hmc : m ≤ cap := by omega
    have hmb : m ≤ 912 := by omega
    have HMIN : (if (n : Int) + 12 < (cap : Int) then (n : Int) + 12 else (cap : Int)) = (m : Int) := by split <;> omega
    have hsl := u8_run ⟨g, 0, none⟩ n cap m hmc
    have HB := Lib.hid hb
    have HOB : Hid ((Value.slice (some ⟨g, 0, none⟩) n cap).ownBlock = some g) := Lib.hid rfl
    clear hb hm hn h
    go_enter Tryd.func75, Tryd.ntmps75
    go_upto_region 2 with fail
    go_loopg [3] m (fun gg iv wr => ∃ (i : Nat), gg = m - i ∧ i ≤ m ∧ iv = .int .i64 (i : Int) ∧ Blk w wr g cap)
    case atStart => exact ⟨0, rfl, by omega, rfl, HB.out⟩
    case round =>
      obtain ⟨i, rfl, hi, rfl, hb⟩ := hrel
      have HBR := Lib.hid hb
      clear hb
      by_cases hlt : i < m
      · have hd : decide (i < m) = true := by simp; omega
        have hiI : (i : Int) < (m : Int) := by omega
        have HMB := Lib.hid (kit_mb 2 i (by decide) (by omega) wr)
        obtain ⟨vv, hcell⟩ := HBR.out.cell (i := i) (by omega)
        have hfz := HBR.out.frozen i
        have HNX := Lib.hid (HBR.out.set i (.int .u8 (mb 2 i : Int)))
        have hmi : mb 2 i < 256 := by unfold mb markO; omega
        obtain ⟨z, hz⟩ : ∃ z, mb 2 i = z := ⟨_, rfl⟩
        rw [hz] at HMB HNX hmi
        clear hz
        go_wp2_with fail
        refine HMB.out.mono ?_
        rintro e w2 ⟨rfl, rfl⟩
        go_wp2_with fail
        go_roundg (m - (i + 1))
        case measure => omega
        case rel => exact ⟨i + 1, rfl, by omega, by go_num, HNX.out⟩
      · have hd : decide (i < m) = false := by simp; omega
        go_wp2_with fail
        go_end0
        exact ⟨rfl, by rw [HOB.out]; exact HBR.out.kp.mono fun b hb e => hb (by rw [e])⟩
end Go.Proofs.YtginbellakkliaaDoor

/- Last and Seen of package play where there is nothing to return. -/
namespace Go.Proofs.YtginbellakkliaaDoor
open Go.RowKit Go.Shelf Go.Sort Go.Maps Go.WideMaps
attribute [local go_sem] Oper.semAt_some

theorem ply_last_no {w : World} {B base : Nat} {p : Ply} {vs vb : Value} (hp : p.ok) (h : PlyAt w B base p vs vb) (h4 : p.steps.length < 4) :
    Calls Tryd.prog 31 #[.pointer (some ⟨B, 0, none⟩)] w fun e w' => e = .returned (.tuple #[.int .u8 0, .slice none 0 0, .bool false]) ∧ w = w' := by
  have HM := Lib.hid (ply_made hp h)
  obtain ⟨sa, sc, hvs, -⟩ := h.ss.slice
  have c14 : w.cell? ⟨B, 14, none⟩ = some (.slice sa p.steps.length sc) := by rw [h.row.cell 14, hvs]; rfl
  obtain ⟨n, hn⟩ : ∃ n, p.steps.length = n := ⟨_, rfl⟩
  rw [hn] at c14 h4
  have hb : decide ((n : Int) < 4) = true := by rw [decide_eq_true_eq]; omega
  have hBlt := h.row.lt
  clear hn hvs h hp
  go_enter Tryd.func31, Tryd.ntmps31
  go_wp2_with fail
  refine HM.out.mono ?_
  rintro e w' ⟨rfl, rfl⟩
  go_wp2_with fail
  refine bodyPost_ret (results_t3 rfl _ _ _) rfl ?_
  exact ⟨rfl, rfl⟩
theorem in_last_no {W : World} {B : Nat} {p : Ply} {G : Nat → Prop} (h : InP W B p G) (h4 : p.steps.length < 4) :
    Calls Tryd.prog 31 #[.pointer (some ⟨B, 0, none⟩)] W fun e W' => e = .returned (.tuple #[.int .u8 0, .slice none 0 0, .bool false]) ∧ W = W' := by
  obtain ⟨vs, vb, hA, -, -⟩ := h.mem
  exact ply_last_no h.ok hA h4
set_option maxRecDepth 10000 in
theorem ply_seen_far {w : World} {B base s : Nat} {p : Ply} {vs vb : Value} (hp : p.ok) (h : PlyAt w B base p vs vb) (hs : 3 < s) :
    Calls Tryd.prog 21 #[.pointer (some ⟨B, 0, none⟩), .int .u8 (s : Int)] w fun e w' => e = .returned (.tuple #[.agg #[.int .u64 0, .int .u64 0, .int .u64 0, .int .u64 0], .int .u64 0]) ∧ Below w.heap.size w w' := by
  have hb : decide ((s : Int) > 3) = true := by rw [decide_eq_true_eq]; omega
  have hs0 : (w.alloc (.cells #[.int .u64 0, .int .u64 0, .int .u64 0, .int .u64 0] 26)).heap.size = w.heap.size + 1 := by simp
  obtain ⟨QA, hQA⟩ : ∃ A : Array Value, #[.int .u64 0, .int .u64 0, .int .u64 0, .int .u64 0] = A := ⟨_, rfl⟩
  have HQZ : Hid (QA.size = 4 ∧ QA.all (·.oneCell') = true) := Lib.hid (by rw [← hQA]; exact ⟨rfl, by simp [Value.oneCell']⟩)
  have h1 := (Row.new w 26 QA).alloc (.cells QA 26)
  have h2 := Row.new (w.alloc (.cells QA 26)) 26 QA
  have h3 := ((Below.refl w.heap.size w).alloc (Nat.le_refl _) (.cells QA 26)).alloc (by simp) (.cells QA 26)
  rw [← hQA, hs0, hQA] at h2
  have HM := Lib.hid (ply_made hp (h.below ((((Below.refl w.heap.size w).alloc (Nat.le_refl _) (.cells QA 26)).alloc (by simp) (.cells QA 26)))))
  have H1 := Lib.hid h1
  have H2 := Lib.hid h2
  have H3 := Lib.hid h3
  clear h1 h2 h3 h hp hs0
  rw [hQA]
  go_enter Tryd.func21, Tryd.ntmps21
  go_upto_region 2 with fail
  show Code.wp _ _ _ _ ((w.alloc (.cells QA 26)).alloc (.cells QA 26))
  generalize (w.alloc (.cells QA 26)).alloc (.cells QA 26) = w1 at *
  obtain ⟨b, hb0⟩ : ∃ b, w.heap.size = b := ⟨_, rfl⟩
  obtain ⟨b6, hb6⟩ : ∃ b, w.heap.size + 1 = b := ⟨_, rfl⟩
  have HBS : Hid (w.heap.size = b ∧ b6 = b + 1) := Lib.hid ⟨hb0, by omega⟩
  rw [hb6] at H2 ⊢
  rw [hb0] at H1 ⊢
  clear hb0 hb6 hQA
  go_wp2_with fail
  refine HM.out.mono ?_
  rintro e w' ⟨rfl, rfl⟩
  go_wp2_with (first
    | refine wpList_load_row rfl 26 (.tmp 6) rfl b6 rfl 26 QA (0, 0) _ H2.out Tryd.underlying26 rfl (by rw [HQZ.out.1]; exact size_dealR) ?_
    | refine wpList_store_row rfl 26 (.tmp 4) (.tmp 17) rfl b QA rfl rfl 26 _ H1.out (by rw [HQZ.out.1]; exact size_dealR) rfl HQZ.out.2 ?_)
  refine bodyPost_ret (v := .tuple #[.agg QA, .int .u64 0]) (results_cellt Tryd.results21 _ _ b _ QA (0, 0) _ rfl (setRow_heap _ _ _ _ _ _ H1.out) Tryd.underlying26 rfl (by rw [HQZ.out.1]; exact size_dealR)) rfl ⟨rfl, below_setRow H3.out (by have := HBS.out; omega) _⟩
end Go.Proofs.YtginbellakkliaaDoor

/- What finesselaw12.agrees needs: contracts of both sides in the same words. -/
namespace Go.Proofs.YtginbellakkliaaDoor
open Go.RowKit Go.Shelf Go.Sort Go.Maps Go.WideMaps

theorem own_keptR {W W' : World} {base : Nat} {v : Value} {zs : List Nat} {S : Nat → Prop} (h : OwnU W base v zs) (hk : Kept S W W') (hS : ∀ g, v.ownBlock = some g → S g) : OwnU W' base v zs := by
  obtain ⟨h1, h2, h3⟩ := h
  refine ⟨h1, h2, ?_⟩
  rcases h3 with h3 | ⟨g, cap, cur, e1, e2, e3, e4, e5, e6, e7⟩
  · exact .inl h3
  · have hlt : g < W.heap.size := (Array.getElem?_eq_some_iff.1 e3).1
    exact .inr ⟨g, cap, cur, e1, e2, (hk.block g (hS g (by rw [e1]; rfl)) hlt).trans e3, e4, e5, e6, e7⟩
theorem ownU_nilR (W : World) (base : Nat) : OwnU W base (.slice none 0 0) [] := ⟨encU_len, World.ownsRow_nil _ _ _ _⟩
variable {d : Nat → Nat} {n : Nat} {p : Ply} {W : World} {B : Nat} {G : Nat → Prop}
theorem in_lastT (ht : Tied d n p) (h : InP W B p G) :
    Calls Tryd.prog 31 #[.pointer (some ⟨B, 0, none⟩)] W fun e W' => ∃ v, e = .returned (.tuple #[.int .u8 ((toR d p).lsLd : Int), v, .bool (decide (4 ≤ (toR d p).cs.length))]) ∧ OwnU W' W.heap.size v (toR d p).lsCs ∧ Below W.heap.size W W' := by
  have hl : (toR d p).cs.length = p.steps.length := cds_len p
  by_cases h4 : 4 ≤ p.steps.length
  · refine (in_last h h4).mono ?_
    rintro e W' ⟨v, rfl, ho, hb⟩
    have := ht.last h4
    exact ⟨v, by rw [this.1, hl, decide_eq_true h4], by rw [this.2]; exact ho, hb⟩
  · refine (in_last_no h (by omega)).mono ?_
    rintro e W' ⟨rfl, rfl⟩
    have h0 : (toR d p).cs.length / 4 = 0 := by rw [hl]; omega
    refine ⟨.slice none 0 0, ?_, ?_, Below.refl _ _⟩
    · unfold Rp.lsLd; rw [if_pos h0, hl, decide_eq_false h4]; rfl
    · unfold Rp.lsCs; rw [if_pos h0]; exact ownU_nilR _ _
theorem in_seenT (hd : Deal4 d n) (ht : Tied d n p) (h : InP W B p G) (s : Nat) :
    Calls Tryd.prog 21 #[.pointer (some ⟨B, 0, none⟩), .int .u8 (s : Int)] W fun e W' => e = .returned (.tuple #[.agg (arr4 ((toR d p).seenH s)), .int .u64 ((toR d p).hid s : Int)]) ∧ Below W.heap.size W W' := by
  by_cases hs : s ≤ 3
  · have := in_seen h s hs
    rwa [← arr4_congrR (fun i hi => ht.seen hd hs i hi), ← ht.hid hd hs] at this
  · obtain ⟨vs, vb, hA, -, -⟩ := h.mem
    have h1 : arr4 ((toR d p).seenH s) = #[.int .u64 0, .int .u64 0, .int .u64 0, .int .u64 0] := by unfold arr4; simp only [Rp.seenH, if_pos (show 3 < s by omega)]; rfl
    have h2 : (toR d p).hid s = 0 := by unfold Rp.hid; rw [if_pos (by omega)]
    rw [h1, h2]
    exact ply_seen_far h.ok hA (by omega)
theorem eq_arr (f : Nat → Nat) (w : World) : Sem.run Tryd.prog (Op.equalIn 10000 26 (.agg (arr4 f)) (.agg (arr4 f))) w = .ok true w := by
  rw [eq_deal]; simp
end Go.Proofs.YtginbellakkliaaDoor
