/- AgF, AgG in one text. -/
import Derived.Test.YtikdkhiehfccpaaAgE
import Derived.Test.YtikdkhiehfccpaaCnt
import Derived.Deep.Cut
import Derived.Laws.ResultCell

/- Contract of agree.joined over this seat's program. -/
namespace Go.Proofs.Ytikdkhiehfccpaa
open Go.RowKit Go.Sort Cnt

/-- a part of an array by value -/
theorem run_index_tab (t e : TypeId) (n k : Nat) (c : Array Value) (v : Value) (hu : Try.prog.underlying t = some (.array n e)) (hs : (Try.prog.info? e).map (·.size) = some 1) (ha : ∀ w : World, (isAgg e).run Try.prog w = .ok false w)
    (hk : k < n) (hv : c[k]? = some v) (w : World) : (Instr.index t (.agg c) (.int .i64 (k : Int))).run Try.prog w = .ok v w := by
  have hi : (0 : Int) ≤ (k : Int) ∧ (k : Int) < (n : Int) := by omega
  cases hq : Try.prog.info? e with
  | none => simp [hq] at hs
  | some i =>
    have hz : i.size = 1 := by simpa [hq] using hs
    have h1 : (k : Int).toNat = k := by simp
    simp only [Instr.index, asIntOf, Sem.run_bind, Sem.run_pure, Result.andThen_ok, run_underlying hu w]
    rw [if_pos hi]
    simp [sizeOf, typeInfo, hq, hz, part, ha, hv, h1]
theorem under83 : Try.prog.underlying 136 = some (.array 41 3) := by kernel_rfl
theorem under100 : Try.prog.underlying 120 = some (.array 11 3) := by kernel_rfl
theorem size83 : (Try.prog.info? 136).map (·.size) = some 41 := by kernel_rfl
theorem size100 : (Try.prog.info? 120).map (·.size) = some 11 := by kernel_rfl
theorem size3 : (Try.prog.info? 3).map (·.size) = some 1 := by kernel_rfl
theorem agg3 (w : World) : (isAgg 3).run Try.prog w = .ok false w := by
  have h : Try.prog.underlying 3 = some (.int .i64) := by kernel_rfl
  simp [isAgg, run_underlying h]
theorem zero83 : ∀ w : World, (zeroValue 136).run Try.prog w = .ok (.agg (tab 41 fun _ => 0)) w := by
  have h : (Try.prog.info? 136).map (fun i => (i.zero, i.size)) = some (some (.agg (tab 41 fun _ => 0)), 41) := by kernel_rfl
  cases hq : Try.prog.info? 136 with
  | none => simp [hq] at h
  | some i =>
    simp [hq] at h
    intro w
    simp [zeroValue, typeInfo, hq, h.1]

/-- the rounds over the points of one more suit -/
def jAdd (f g : Nat → Nat) (k : Nat) : Nat → (Nat → Nat) → Nat → Nat
  | 0, a => a
  | m + 1, a => bump (jAdd f g k m a) (k + m) (f k * g m)
/-- the rounds over the points so far -/
def jTo (f g : Nat → Nat) : Nat → Nat → Nat
  | 0 => fun _ => 0
  | k + 1 => jAdd f g k 11 (jTo f g k)
/-- whether one of the first is not zero -/
def anyTo (g : Nat → Nat) : Nat → Bool
  | 0 => false
  | m + 1 => anyTo g m || g m != 0
def sTo (f g : Nat → Nat) : Nat → Bool
  | 0 => false
  | k + 1 => sTo f g k || (f k != 0 && anyTo g 11)
theorem bump_zero (a : Nat → Nat) (i : Nat) : bump a i 0 = a := by
  funext j
  unfold bump
  split <;> simp_all
theorem sumN_bump (n : Nat) (a : Nat → Nat) (i v : Nat) : sumN n (bump a i v) ≤ sumN n a + v := by
  induction n with
  | zero => simp [sumN]
  | succ n ih =>
    simp only [sumN]
    by_cases h : n = i
    · subst h
      have : sumN n (bump a n v) = sumN n a := sumN_congr fun j hj => by unfold bump; rw [if_neg (by omega)]
      rw [this]
      simp [bump]
      omega
    · have e : bump a i v n = a n := by unfold bump; rw [if_neg h]
      rw [e]; omega
theorem sumN_mono {m n : Nat} (g : Nat → Nat) (h : m ≤ n) : sumN m g ≤ sumN n g := by
  induction n with
  | zero => obtain rfl : m = 0 := by omega
            exact Nat.le_refl _
  | succ n ih =>
    by_cases e : m = n + 1
    · subst e; exact Nat.le_refl _
    · have := ih (by omega)
      simp only [sumN]; omega
theorem jAdd_sum (N : Nat) (f g : Nat → Nat) (k : Nat) (a : Nat → Nat) : ∀ m, sumN N (jAdd f g k m a) ≤ sumN N a + f k * sumN m g
  | 0 => by show sumN N a ≤ _; omega
  | m + 1 => by
    have h1 := jAdd_sum N f g k a m
    have h2 := sumN_bump N (jAdd f g k m a) (k + m) (f k * g m)
    have h3 : f k * sumN (m + 1) g = f k * sumN m g + f k * g m := by rw [show sumN (m + 1) g = sumN m g + g m from rfl, Nat.mul_add]
    show sumN N (bump _ _ _) ≤ _
    omega
theorem jTo_sum (N : Nat) (f g : Nat → Nat) : ∀ k, sumN N (jTo f g k) ≤ sumN k f * sumN 11 g
  | 0 => by show sumN N (fun _ => 0) ≤ _; rw [sumN_zero]; exact Nat.zero_le _
  | k + 1 => by
    have h1 := jAdd_sum N f g k (jTo f g k) 11
    have h2 := jTo_sum N f g k
    have h3 : sumN (k + 1) f * sumN 11 g = sumN k f * sumN 11 g + f k * sumN 11 g := by rw [show sumN (k + 1) f = sumN k f + f k from rfl, Nat.add_mul]
    show sumN N (jAdd f g k 11 (jTo f g k)) ≤ _
    omega
theorem jAdd_at {N : Nat} {f g : Nat → Nat} {k m r : Nat} (hk : k < N) (hm : m < 11) (hr : r < N) : jAdd f g k m (jTo f g k) r + f k * g m ≤ sumN N f * sumN 11 g := by
  have h1 := jAdd_sum N f g k (jTo f g k) m
  have h2 := jTo_sum N f g k
  have h3 := le_sumN (jAdd f g k m (jTo f g k)) hr
  have h4 : sumN (m + 1) g ≤ sumN 11 g := sumN_mono g (by omega)
  have h5 : sumN (k + 1) f ≤ sumN N f := sumN_mono f (by omega)
  have h6 := Nat.mul_le_mul_left (f k) h4
  have h7 := Nat.mul_le_mul_right (sumN 11 g) h5
  rw [show sumN (m + 1) g = sumN m g + g m from rfl, Nat.mul_add] at h6
  rw [show sumN (k + 1) f = sumN k f + f k from rfl, Nat.add_mul] at h7
  omega
end Go.Proofs.Ytikdkhiehfccpaa

/- Contract of agree.joined over this seat's program: the walk. -/
namespace Go.Proofs.Ytikdkhiehfccpaa
open Go.RowKit Go.Sort Cnt

/-- the world in the loops of joined -/
structure JW (w wr : World) (b1 b2 b3 : Nat) (f g a : Nat → Nat) : Prop where
  below : Below w.heap.size w wr
  l1 : w.heap.size < b1
  l2 : b1 < b2
  l3 : b2 < b3
  one : Row wr w.heap.size 136 (tab 41 f)
  two : Row wr b1 120 (tab 11 g)
  res : Row wr b2 136 (tab 41 fun _ => 0)
  row : Row wr b3 136 (tab 41 a)
theorem JW.step {w wr : World} {b1 b2 b3 : Nat} {f g a : Nat → Nat} (h : JW w wr b1 b2 b3 f g a) (i v : Nat) : JW w (wr.setCell ⟨b3, i, none⟩ (.int .i64 ((a i + v : Nat) : Int))) b1 b2 b3 f g (bump a i v) := by
  obtain ⟨hb, l1, l2, l3, o, t, r, s⟩ := h
  refine ⟨hb.setCell (by show w.heap.size ≤ b3; omega) _, l1, l2, l3, o.other (by omega), t.other (by omega), r.other (by omega), ?_⟩
  have := s.set i (.int .i64 ((a i + v : Nat) : Int))
  rwa [tab_set] at this

theorem results_row_tmp {P : Program} {fn : Func} {p u : Tmp} {ty : TypeId} (h : fn.results = #[.cell p ty, .tmp u]) (tmps : Array Value) (w : World) (g : Nat) (t : TypeId) (cs : Array Value) (fr : Nat × Nat) (d : TypeDesc)
    (hp : tmps.getD p undef = .pointer (some ⟨g, 0, none⟩)) (hg : w.heap[g]? = some (.cells cs t fr))
    (hu : P.underlying ty = some d) (hd : (match d with | .struct _ | .array _ _ => true | _ => false) = true) (hi : (P.info? ty).map (·.size) = some cs.size) :
    (results fn tmps).run P w = .ok (.tuple #[.agg cs, tmps.getD u undef]) w := by
  have h1 : (asAddr (.pointer (some ⟨g, 0, none⟩))).run P w = .ok ⟨g, 0, none⟩ w := by simp [asAddr]
  rw [results_cell_tmp h, hp, h1]
  simp only [Result.andThen_ok, run_loadVar_row w g t ty cs fr d hg hu hd hi]

set_option maxRecDepth 5000 in
theorem ag_joined (f g : Nat → Nat) (hs : ∀ p q, p < 41 → q < 11 → f p ≠ 0 → g q ≠ 0 → p + q < 41) (hb : sumN 41 f * sumN 11 g ≤ 200000000000000000) (w : World) :
    Calls Try.prog 74 #[.agg (tab 41 f), .agg (tab 11 g)] w fun e w' => e = .returned (.tuple #[.agg (tab 41 (jTo f g 41)), .bool (sTo f g 41)]) ∧ Below w.heap.size w w' := by
  have HS := Lib.hid hs
  have HB := Lib.hid hb
  clear hs hb
  have hz := zero83
  go_enter Try.func74, Try.ntmps74
  go_upto_region 3 with fail
  have hI : JW w ((((w.alloc (.cells (tab 41 f) 136)).alloc (.cells (tab 11 g) 120)).alloc (.cells (tab 41 fun _ => 0) 136)).alloc (.cells (tab 41 fun _ => 0) 136)) (w.heap.size + 1) (w.heap.size + 1 + 1) (w.heap.size + 1 + 1 + 1) f g (jTo f g 0) := by
    refine ⟨((((Below.refl _ _).alloc (Nat.le_refl _) _).alloc (by simp) _).alloc (by simp; omega) _).alloc (by simp; omega) _, by omega, by omega, by omega, ((((Row.new _ _ _).alloc _).alloc _).alloc _), ?_, ?_, ?_⟩
    · have := ((Row.new (w.alloc (.cells (tab 41 f) 136)) 120 (tab 11 g)).alloc (.cells (tab 41 fun _ => 0) 136)).alloc (.cells (tab 41 fun _ => 0) 136)
      rwa [World.size_alloc] at this
    · have := (Row.new ((w.alloc (.cells (tab 41 f) 136)).alloc (.cells (tab 11 g) 120)) 136 (tab 41 fun _ => 0)).alloc (.cells (tab 41 fun _ => 0) 136)
      rwa [World.size_alloc, World.size_alloc] at this
    · have := (Row.new (((w.alloc (.cells (tab 41 f) 136)).alloc (.cells (tab 11 g) 120)).alloc (.cells (tab 41 fun _ => 0) 136)) 136 (tab 41 fun _ => 0))
      rwa [World.size_alloc, World.size_alloc, World.size_alloc] at this
  clear hz
  generalize ((((w.alloc (.cells (tab 41 f) 136)).alloc (.cells (tab 11 g) 120)).alloc (.cells (tab 41 fun _ => 0) 136)).alloc (.cells (tab 41 fun _ => 0) 136)) = W0 at *
  generalize w.heap.size + 1 + 1 + 1 = b3 at *
  generalize w.heap.size + 1 + 1 = b2 at *
  generalize w.heap.size + 1 = b1 at *
  have hr1 := hI.one
  go_wp2_with (refine wpList_load_row rfl 136 (.tmp 2) rfl w.heap.size rfl 136 (tab 41 f) (0, 0) _ hr1 under83 rfl (by rw [size83, tab_size]) ?_)
  clear hr1
  go_loopw [7, 13] (fun v i wr => ∃ (k : Nat), k ≤ 41 ∧ i = .int .i64 (k : Int) ∧ v = .bool (sTo f g k) ∧ JW w wr b1 b2 b3 f g (jTo f g k)) (fun _ i _ => 41 - (intOf i).toNat)
  case atStart => exact ⟨0, by omega, rfl, rfl, hI⟩
  case round =>
    obtain ⟨k, hk, rfl, rfl, hJ⟩ := hrel
    by_cases hlt : k < 41
    · have d41 : decide ((k : Int) < 41) = true := by simp; omega
      have hix := run_index_tab 136 3 41 k (tab 41 f) _ under83 size3 agg3 hlt (tab_get 41 f k hlt)
      by_cases hf0 : f k = 0
      · have ef : (((f k : Nat) : Int) == 0) = true := by simp [hf0]
        have HN : Hid (sTo f g (k + 1) = sTo f g k ∧ jTo f g (k + 1) = jTo f g k) := Lib.hid (by
          refine ⟨by simp [sTo, hf0], ?_⟩
          have : ∀ m, jAdd f g k m (jTo f g k) = jTo f g k := by
            intro m
            induction m with
            | zero => rfl
            | succ m ih => show bump (jAdd f g k m (jTo f g k)) _ (f k * g m) = _; rw [ih, hf0, Nat.zero_mul, bump_zero]
          exact this 11)
        have HJ := Lib.hid hJ
        clear hJ
        go_wp2_with fail
        go_roundw
        · exact ⟨k + 1, by omega, by simp, by rw [HN.out.1], by rw [HN.out.2]; exact HJ.out⟩
        · simp [intOf]; omega
      · have ef : (((f k : Nat) : Int) == 0) = false := by simp [hf0]
        have hr2 := hJ.two
        have HN : Hid (sTo f g (k + 1) = (sTo f g k || anyTo g 11)) := Lib.hid (by rw [show sTo f g (k + 1) = (sTo f g k || (f k != 0 && anyTo g 11)) from rfl, show (f k != 0) = true by simpa using hf0, Bool.true_and])
        generalize sTo f g k = S at *
        have HJ := Lib.hid hJ
        clear hJ
        go_wp2_with (refine wpList_load_row rfl 120 (.tmp 3) rfl b1 rfl 120 (tab 11 g) (0, 0) _ hr2 under100 rfl (by rw [size100, tab_size]) ?_)
        clear hr2 hix
        go_loopw [7, 20] (fun v i wr => ∃ (m : Nat), m ≤ 11 ∧ i = .int .i64 (m : Int) ∧ v = .bool (S || anyTo g m) ∧ JW w wr b1 b2 b3 f g (jAdd f g k m (jTo f g k))) (fun _ i _ => 11 - (intOf i).toNat)
        case atStart => exact ⟨0, by omega, rfl, by simp [anyTo], HJ.out⟩
        case round =>
          obtain ⟨m, hm, rfl, rfl, hJ⟩ := hrel
          by_cases hmt : m < 11
          · have d11 : decide ((m : Int) < 11) = true := by simp; omega
            have hiy := run_index_tab 120 3 11 m (tab 11 g) _ under100 size3 agg3 hmt (tab_get 11 g m hmt)
            by_cases hg0 : g m = 0
            · have eg : (((g m : Nat) : Int) != 0) = false := by simp [hg0]
              have HM : Hid (anyTo g (m + 1) = anyTo g m ∧ jAdd f g k (m + 1) (jTo f g k) = jAdd f g k m (jTo f g k)) := Lib.hid ⟨by simp [anyTo, hg0], by show bump _ _ (f k * g m) = _; rw [hg0, Nat.mul_zero, bump_zero]⟩
              have HJ := Lib.hid hJ
              clear hJ
              go_wp2_with fail
              go_roundw
              · exact ⟨m + 1, by omega, by simp, by rw [HM.out.1], by rw [HM.out.2]; exact HJ.out⟩
              · simp [intOf]; omega
            · have eg : (((g m : Nat) : Int) != 0) = true := by simp [bne_iff_ne]; omega
              have hkm := HS.out k m hlt hmt hf0 hg0
              have hat := jAdd_at (N := 41) (f := f) (g := g) hlt hmt hkm
              have hbb := HB.out
              have hat2 : jAdd f g k m (jTo f g k) (k + m) + f k * g m ≤ 200000000000000000 := Nat.le_trans hat hbb
              clear hat hbb
              have hc : wr.cell? ⟨b3, k + m, none⟩ = some (.int .i64 ((jAdd f g k m (jTo f g k) (k + m) : Nat) : Int)) := by rw [hJ.row.cell, tab_get _ _ _ hkm]
              have hfz := hJ.row.frozen (k + m)
              have HM : Hid ((S || anyTo g (m + 1)) = true) := Lib.hid (by simp [anyTo, hg0])
              have HR : Hid (jAdd f g k (m + 1) (jTo f g k) = bump (jAdd f g k m (jTo f g k)) (k + m) (f k * g m)) := Lib.hid rfl
              have HJ := Lib.hid (hJ.step (k + m) (f k * g m))
              clear hJ
              go_wp2_with fail
              go_roundw
              · exact ⟨m + 1, by omega, by simp, by rw [HM.out], by rw [HR.out]; have := HJ.out; simpa using this⟩
              · simp [intOf]; omega
          · obtain rfl : m = 11 := by omega
            have HJ := Lib.hid hJ
            clear hJ
            go_wp2_with fail
            go_roundw
            · exact ⟨k + 1, by omega, by simp, by rw [HN.out], HJ.out⟩
            · simp [intOf]; omega
    · obtain rfl : k = 41 := by omega
      have hr0 := hJ.res
      have hr := hJ.row
      have HB2 := Lib.hid hJ.below
      clear hJ
      have hl2 : w.heap.size ≤ b2 := by have := hI.l1; have := hI.l2; omega
      clear hI
      go_wp2_with (first
        | refine wpList_load_row rfl 136 (.tmp 6) rfl b3 rfl 136 (tab 41 (jTo f g 41)) (0, 0) _ hr under83 rfl (by rw [size83, tab_size]) ?_
        | refine wpList_store_row rfl 136 (.tmp 4) (.tmp 38) rfl b2 (tab 41 (jTo f g 41)) rfl rfl 136 _ hr0 (by rw [size83, tab_size]) (by rw [tab_size, tab_size]) (tab_one _ _) ?_)
      refine bodyPost_ret (v := .tuple #[.agg (tab 41 (jTo f g 41)), .bool (sTo f g 41)]) ?_ rfl ⟨rfl, below_setRow HB2.out hl2 _⟩
      exact results_row_tmp (p := 4) (u := 5) rfl _ _ b2 _ (tab 41 (jTo f g 41)) (0, 0) _ rfl (setRow_heap _ _ _ _ _ _ hr0) under83 rfl (by rw [size83, tab_size])
end Go.Proofs.Ytikdkhiehfccpaa
