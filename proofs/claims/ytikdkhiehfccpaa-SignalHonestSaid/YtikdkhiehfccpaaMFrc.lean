/- FrC, FrD, FrG, FrU in one text. -/
import Derived.Test.YtikdkhiehfccpaaRows
import Derived.Test.YtikdkhiehfccpaaAgW
import Derived.WalkKit
import Derived.ProofKit
import Derived.OpenShut
import Derived.ShutString
import Derived.ChangeOld
import Derived.Below
import Derived.SizedLaws
import Derived.Deep.DeepHandedRow
import Derived.Deep.Slices
import Derived.Deep.Fields
import Derived.ChangeSame
import Derived.Lib.SmallJoins
import Derived.Test.YtikdkhiehfccpaaByt
import Derived.Test.YtikdkhiehfccpaaMSgl

/- What every frame of this seat's laws shares: slices of conditions and of ranges opened. -/
namespace Go.Proofs.Ytikdkhiehfccpaa
open Go.Joins Go.ChangeShapes Go.WideShapes Go.ChangeAt Go.RowKit Go.Deep

theorem own : ownKnob Try.prog.godebug = none := by kernel_rfl
theorem laidOut : laidOutB Try.prog = true := by kernel_rfl
theorem nat_u8 {x : Int} (h : (Lit.int .u8 x).wf = true) : ∃ n : Nat, x = (n : Int) ∧ n < 256 := by
  have := bounds_u8 h
  exact ⟨x.toNat, by omega, by omega⟩
theorem nat_u64 {x : Int} (h : (Lit.int .u64 x).wf = true) : ∃ n : Nat, x = (n : Int) ∧ W64 n := by
  have := bounds_u64 h
  exact ⟨x.toNat, by omega, by unfold W64; omega⟩
theorem arr_ints {H : Type} {enc : TypeId × Value → H} {P : Program} {W : World} {t e : TypeId} {N fuel : Nat} {K : IntKind} {cs : List Value} {y : DataW H × List MemPlace} (ht : P.underlying t = some (.array N e)) (he : P.underlying e = some (.int K)) (h1 : P.cellsOf e = 1)
    (h : DataW.trod enc P W 0 (fun _ => true) true fuel t cs = some y) (hl : cs.length = N) : ∀ j, j < N → ∃ x, cs[j]? = some (.int K x) ∧ (Lit.int K x).wf = true := by
  obtain ⟨xs, m, _, hx, _, hxl, hga⟩ := DataW.trod_array ht h
  intro j hj
  have e1 := hga j hj
  rw [h1, Nat.mul_one] at e1
  obtain ⟨z, hz⟩ : ∃ z, xs[j]? = some z := ⟨_, List.getElem?_eq_getElem (by omega)⟩
  have ed : (cs.drop j).take 1 = [cs[j]'(by omega)] := by
    rw [List.drop_eq_getElem_cons (by omega)]
    rfl
  rw [ed, hz] at e1
  obtain ⟨s, es, -, ws⟩ := DataW.trod_int he e1
  exact ⟨s, by rw [List.getElem?_eq_getElem (by omega), (List.cons.inj es).1], ws⟩
theorem one_int {H : Type} {enc : TypeId × Value → H} {P : Program} {W : World} {e : TypeId} {fuel : Nat} {K : IntKind} {cs : List Value} {y : DataW H × List MemPlace} (he : P.underlying e = some (.int K))
    (h : DataW.trod enc P W 0 (fun _ => true) true fuel e cs = some y) : ∃ x, cs = [.int K x] ∧ (Lit.int K x).wf = true := by
  obtain ⟨s, es, -, ws⟩ := DataW.trod_int he h
  exact ⟨s, es, ws⟩
theorem ten_list {cs : List Value} (h : cs.length = 10) : ∃ c0 c1 c2 c3 c4 c5 c6 c7 c8 c9, cs = [c0, c1, c2, c3, c4, c5, c6, c7, c8, c9] := by
  match cs, h with
  | [c0, c1, c2, c3, c4, c5, c6, c7, c8, c9], _ => exact ⟨c0, c1, c2, c3, c4, c5, c6, c7, c8, c9, rfl⟩
/-- the ten bytes of a condition -/
theorem cond_cells {H : Type} {enc : TypeId × Value → H} {W : World} {fuel : Nat} {cs : List Value} {y : DataW H × List MemPlace} (h : DataW.trod enc Try.prog W 0 (fun _ => true) true fuel 110 cs = some y) :
    ∃ c : Cd, (∀ j, c.cell j < 256) ∧ ∀ j, j < 10 → cs[j]? = some (.int .u8 (c.cell j : Int)) := by
  obtain ⟨ys, n, _, hy, hcs, hlen, hg⟩ := DataW.trod_struct Try.underlying110 h
  have h10 : Try.prog.cellsOf 110 = 10 := by kernel_rfl
  have k4 : Try.prog.cellsOf 108 = 4 := by kernel_rfl
  have k1 : Try.prog.cellsOf 5 = 1 := by kernel_rfl
  rw [h10] at hcs
  obtain ⟨c0, c1, c2, c3, c4, c5, c6, c7, c8, c9, rfl⟩ := ten_list hcs
  have hl4 : ys.length = 4 := hlen
  obtain ⟨y0, hy0⟩ : ∃ y, ys[0]? = some y := ⟨_, List.getElem?_eq_getElem (by omega)⟩
  obtain ⟨y1, hy1⟩ : ∃ y, ys[1]? = some y := ⟨_, List.getElem?_eq_getElem (by omega)⟩
  obtain ⟨y2, hy2⟩ : ∃ y, ys[2]? = some y := ⟨_, List.getElem?_eq_getElem (by omega)⟩
  obtain ⟨y3, hy3⟩ : ∃ y, ys[3]? = some y := ⟨_, List.getElem?_eq_getElem (by omega)⟩
  have g0 : DataW.trod enc Try.prog W 0 (fun _ => true) true n 5 ((([c0, c1, c2, c3, c4, c5, c6, c7, c8, c9] : List Value).drop 0).take (Try.prog.cellsOf 5)) = ys[0]? := hg 0 _ rfl
  have g1 : DataW.trod enc Try.prog W 0 (fun _ => true) true n 5 ((([c0, c1, c2, c3, c4, c5, c6, c7, c8, c9] : List Value).drop 1).take (Try.prog.cellsOf 5)) = ys[1]? := hg 1 _ rfl
  have g2 : DataW.trod enc Try.prog W 0 (fun _ => true) true n 108 ((([c0, c1, c2, c3, c4, c5, c6, c7, c8, c9] : List Value).drop 2).take (Try.prog.cellsOf 108)) = ys[2]? := hg 2 _ rfl
  have g3 : DataW.trod enc Try.prog W 0 (fun _ => true) true n 108 ((([c0, c1, c2, c3, c4, c5, c6, c7, c8, c9] : List Value).drop 6).take (Try.prog.cellsOf 108)) = ys[3]? := hg 3 _ rfl
  rw [k1, hy0] at g0
  rw [k1, hy1] at g1
  rw [k4, hy2] at g2
  rw [k4, hy3] at g3
  obtain ⟨x0, e0, w0⟩ := one_int Try.underlying5 g0
  obtain ⟨x1, e1, w1⟩ := one_int Try.underlying5 g1
  have a2 := arr_ints Try.underlying108 Try.underlying5 k1 g2 rfl
  have a3 := arr_ints Try.underlying108 Try.underlying5 k1 g3 rfl
  obtain ⟨x2, e2, w2⟩ := a2 0 (by decide)
  obtain ⟨x3, e3, w3⟩ := a2 1 (by decide)
  obtain ⟨x4, e4, w4⟩ := a2 2 (by decide)
  obtain ⟨x5, e5, w5⟩ := a2 3 (by decide)
  obtain ⟨x6, e6, w6⟩ := a3 0 (by decide)
  obtain ⟨x7, e7, w7⟩ := a3 1 (by decide)
  obtain ⟨x8, e8, w8⟩ := a3 2 (by decide)
  obtain ⟨x9, e9, w9⟩ := a3 3 (by decide)
  obtain ⟨n0, rfl, b0⟩ := nat_u8 w0
  obtain ⟨n1, rfl, b1⟩ := nat_u8 w1
  obtain ⟨n2, rfl, b2⟩ := nat_u8 w2
  obtain ⟨n3, rfl, b3⟩ := nat_u8 w3
  obtain ⟨n4, rfl, b4⟩ := nat_u8 w4
  obtain ⟨n5, rfl, b5⟩ := nat_u8 w5
  obtain ⟨n6, rfl, b6⟩ := nat_u8 w6
  obtain ⟨n7, rfl, b7⟩ := nat_u8 w7
  obtain ⟨n8, rfl, b8⟩ := nat_u8 w8
  obtain ⟨n9, rfl, b9⟩ := nat_u8 w9
  simp at e0 e1 e2 e3 e4 e5 e6 e7 e8 e9
  subst e0 e1 e2 e3 e4 e5 e6 e7 e8 e9
  refine ⟨⟨n0, n1, n2, n3, n4, n5, n6, n7, n8, n9⟩, fun j => ?_, fun j hj => ?_⟩
  · unfold Cd.cell; split <;> assumption
  · have : j = 0 ∨ j = 1 ∨ j = 2 ∨ j = 3 ∨ j = 4 ∨ j = 5 ∨ j = 6 ∨ j = 7 ∨ j = 8 ∨ j = 9 := by omega
    rcases this with rfl | rfl | rfl | rfl | rfl | rfl | rfl | rfl | rfl | rfl <;> rfl
/-- a list out of its members -/
theorem list_of {α : Type} (n : Nat) (q : Nat → α → Prop) (h : ∀ i, i < n → ∃ x, q i x) : ∃ l : List α, l.length = n ∧ ∀ i x, l[i]? = some x → q i x := by
  induction n with
  | zero => exact ⟨[], rfl, fun i x hx => by simp at hx⟩
  | succ n ih =>
    obtain ⟨l, hl, hq⟩ := ih fun i hi => h i (by omega)
    obtain ⟨x, hx⟩ := h n (by omega)
    refine ⟨l ++ [x], by simp [hl], fun i y hy => ?_⟩
    by_cases e : i < l.length
    · rw [List.getElem?_append_left e] at hy
      exact hq i y hy
    · have hi : i < (l ++ [x]).length := (List.getElem?_eq_some_iff.1 hy).1
      obtain rfl : i = n := by simp at hi; omega
      rw [List.getElem?_append_right (by omega), hl] at hy
      simp at hy
      rw [← hy]; exact hx
theorem bytes_cd : Try.prog.bytesOf 110 = 10 := by kernel_rfl
theorem open_conds {H : Type} {enc : TypeId × Value → H} {W : World} {a : Option Addr} {len cap : Nat} {d : DataW H} {p : List MemPlace}
    (h : DataW.Trod enc Try.prog W 0 (fun _ => true) true 68 (Value.slice a len cap) d p)
    (hs : ∀ elems spare, d = .slice elems spare → elems.length + spare.length ≤ 14073748835123) : ∃ cs : List Cd, Cds W a len cs ∧ len ≤ cap := by
  obtain ⟨fuel, hf⟩ := h
  rcases open_slice Try.underlying68 hf with ⟨hcs, _⟩ | ⟨x, l, c, m, n, D, Pl, hcs, hb, hl, hm, hmm, hx, hi⟩
  · simp [Value.cells] at hcs
    obtain ⟨rfl, rfl, rfl⟩ := hcs
    exact ⟨[], ⟨rfl, by omega, fun i c hc => by simp at hc, .inl rfl⟩, Nat.le_refl _⟩
  · simp [Value.cells] at hcs
    obtain ⟨rfl, rfl, rfl⟩ := hcs
    have h10 : Try.prog.cellsOf 110 = 10 := by kernel_rfl
    have hd : d = .slice ((List.range len).map D) ((List.range (m - len)).map fun j => D (len + j)) := congrArg Prod.fst hx
    have hlen := hs _ _ hd
    simp only [List.length_map, List.length_range] at hlen
    obtain rfl : m = cap := by simpa using hmm
    obtain ⟨cs, hcl, hcc⟩ := list_of len (fun i (cd : Cd) => (∀ j, cd.cell j < 256) ∧ ∀ j, j < 10 → W.cell? (x.add (i * 10 + j)) = some (.int .u8 (cd.cell j : Int))) (fun i hil => by
      obtain ⟨cs', hc, ht⟩ := hi i (by omega)
      rw [h10] at hc
      obtain ⟨_, hl', hat⟩ := World.cells?_some hc
      obtain ⟨cd, h1, h2⟩ := cond_cells ht
      refine ⟨cd, h1, fun j hj => ?_⟩
      rw [← Go.Deep.add_add, hat j hj]
      exact h2 j hj)
    refine ⟨cs, ⟨hcl, by omega, fun i c hc => (hcc i c hc).1, ?_⟩, hl⟩
    by_cases h0 : len = 0
    · exact .inl h0
    · obtain ⟨b, off, spot⟩ := x
      obtain ⟨c0, hc0⟩ : ∃ c, cs[0]? = some c := ⟨_, List.getElem?_eq_getElem (by omega)⟩
      have hz := (hcc 0 c0 hc0).2 0 (by decide)
      have hspot : spot = none := by simpa [Addr.add] using World.cell?_spot hz
      subst hspot
      refine .inr ⟨b, off, rfl, block_lt_of_cell (a := ⟨b, off, none⟩) (by simpa [Addr.add] using hz), fun i c hc j hj => ?_⟩
      have := (hcc i c hc).2 j hj
      by_cases e : i * 10 + j = 0
      · have e1 : i = 0 := by omega
        have e2 : j = 0 := by omega
        subst e1 e2
        simpa [Addr.add] using this
      · rw [show off + i * 10 + j = off + (i * 10 + j) by omega]
        have h2 : Addr.add ⟨b, off, none⟩ (i * 10 + j) = ⟨b, off + (i * 10 + j), none⟩ := by unfold Addr.add; rw [if_neg e]
        rwa [h2] at this
end Go.Proofs.Ytikdkhiehfccpaa

/- Slices of bytes opened (for frames of plain rows of this seat). -/
namespace Go.Proofs.Ytikdkhiehfccpaa
open Go.Joins Go.ChangeShapes Go.WideShapes Go.ChangeAt Go.RowKit Go.Deep

theorem bytes_u8 : Try.prog.bytesOf 5 = 1 := by kernel_rfl
theorem bytes_open {H : Type} {enc : TypeId × Value → H} {W : World} {a : Option Addr} {len cap : Nat} {d : DataW H} {p : List MemPlace}
    (h : DataW.Trod enc Try.prog W 0 (fun _ => true) true 55 (Value.slice a len cap) d p)
    (hs : ∀ elems spare, d = .slice elems spare → elems.length + spare.length ≤ 140737488351232) : ∃ zs : List Nat, Byt W a len zs ∧ (a = none → cap = 0) ∧ len ≤ cap := by
  obtain ⟨fuel, hf⟩ := h
  rcases open_ints Try.underlying55 Try.underlying5 (by kernel_rfl) hf with ⟨hcs, _⟩ | ⟨x, l, c, zs, hcs, _, hl, hm, hz, hx, hcell, hwz⟩
  · simp [Value.cells] at hcs
    obtain ⟨rfl, rfl, rfl⟩ := hcs
    exact ⟨[], ⟨rfl, by omega, fun i => by simp, .inl rfl⟩, fun _ => rfl, Nat.le_refl _⟩
  · simp [Value.cells] at hcs
    obtain ⟨rfl, rfl, rfl⟩ := hcs
    have hd : d = .slice (lits .u8 (zs.take len)) (lits .u8 (zs.drop len)) := congrArg Prod.fst hx
    have hlen := hs _ _ hd
    have hzl : zs.length = cap := by simpa using hz
    have hb : ∀ n ∈ zs, 0 ≤ n ∧ n ≤ 255 := fun n hn => bounds_u8 (hwz n hn)
    have hg : ∀ i, i < len → ((((zs.take len).map Int.toNat).getD i 0 : Nat) : Int) = zs.getD i 0 := by
      intro i hi
      rw [List.getD_eq_getElem?_getD, List.getD_eq_getElem?_getD, List.getElem?_map, List.getElem?_take, if_pos hi, List.getElem?_eq_getElem (by omega)]
      have := hb zs[i] (List.getElem_mem _)
      simp only [Option.map_some, Option.getD_some]
      omega
    refine ⟨(zs.take len).map Int.toNat, ⟨by simp; omega, ?_, fun i => ?_, ?_⟩, (fun h => by cases h), hl⟩
    · simp only [lits, List.length_map, List.length_take, List.length_drop] at hlen; omega
    · rw [List.getD_eq_getElem?_getD, List.getElem?_map, List.getElem?_take]
      split
      · cases hi : zs[i]? with
        | none => simp
        | some y =>
          have := hb y (List.mem_of_getElem? hi)
          simp only [Option.map_some, Option.getD_some]; omega
      · simp
    · by_cases h0 : len = 0
      · exact .inl h0
      · obtain ⟨b, off, spot⟩ := x
        have hc := hcell 0 (by omega)
        have hspot : spot = none := by simpa [Addr.add] using World.cell?_spot hc
        subst hspot
        refine .inr ⟨b, off, rfl, ?_, fun i hi => ?_⟩
        · exact block_lt_of_cell (a := ⟨b, off, none⟩) (by simpa [Addr.add] using hc)
        · rw [hg i hi]
          have := hcell i (by omega)
          by_cases h1 : i = 0
          · subst h1; simpa [Addr.add] using this
          · simpa [Addr.add, h1] using this
end Go.Proofs.Ytikdkhiehfccpaa

/- Slices of slices of conditions opened (for frames of plain rows of this seat); how much a datum that came in weighs. -/
namespace Go.Proofs.Ytikdkhiehfccpaa
open Go.Joins Go.ChangeShapes Go.WideShapes Go.ChangeAt Go.RowKit Go.Deep

/-- no row of a datum is too long -/
def Lite {H : Type} (P : Program) (t : TypeId) (d : DataW H) : Prop := ∀ n ∈ d.weights P t, n ≤ reachBytes
theorem weightsAll_mem {H : Type} {P : Program} {e : TypeId} : ∀ {l : List (DataW H)} {d : DataW H}, d ∈ l → ∀ n ∈ d.weights P e, n ∈ DataW.weightsAll P e l
  | d' :: r, d, hd, n, hn => by
    simp only [DataW.weightsAll, List.mem_append]
    rcases List.mem_cons.1 hd with rfl | h
    · exact Or.inl hn
    · exact Or.inr (weightsAll_mem h n hn)
theorem lite_of {H : Type} {P : Program} {ts : List TypeId} {ds : List (DataW H)} (h : (DataW.weightsEach P ts ds).all (· ≤ reachBytes) = true) {j : Nat} {t : TypeId} {d : DataW H} (ht : ts[j]? = some t) (hd : ds[j]? = some d) : Lite P t d := fun n hn =>
  of_decide_eq_true (List.all_eq_true.1 h _ (DataW.weights_mem_each ht hd n hn))
theorem Lite.len {H : Type} {P : Program} {t e : TypeId} {elems spare : List (DataW H)} (h : Lite P t (.slice elems spare)) (hu : P.underlying t = some (.slice e)) : (elems.length + spare.length) * P.bytesOf e ≤ reachBytes :=
  h _ (by simp [DataW.weights, hu])
theorem Lite.elem {H : Type} {P : Program} {t e : TypeId} {elems spare : List (DataW H)} (h : Lite P t (.slice elems spare)) (hu : P.underlying t = some (.slice e)) {x : DataW H} (hx : x ∈ elems) : Lite P e x := fun n hn =>
  h _ (by simp only [DataW.weights, hu, List.mem_cons, List.mem_append]; exact Or.inr (Or.inl (weightsAll_mem hx n hn)))
theorem Lite.part {H : Type} {P : Program} {t u : TypeId} {fs : Array Field} {parts : List (DataW H)} (h : Lite P t (.agg parts)) (hu : P.underlying t = some (.struct fs)) {j : Nat} (ht : (fs.toList.map (·.type))[j]? = some u) {x : DataW H} (hx : parts[j]? = some x) : Lite P u x := fun n hn =>
  h _ (by simp only [DataW.weights, hu]; exact DataW.weights_mem_each ht hx n hn)
theorem bytes_cds : Try.prog.bytesOf 68 = 24 := by kernel_rfl
theorem open_cdss {H : Type} {enc : TypeId × Value → H} {W : World} {a : Option Addr} {len cap : Nat} {d : DataW H} {p : List MemPlace}
    (h : DataW.Trod enc Try.prog W 0 (fun _ => true) true 56 (Value.slice a len cap) d p)
    (hs : Lite Try.prog 56 d) : ∃ cs : List (List Cd), Cdss W a len cs ∧ len ≤ cap := by
  obtain ⟨fuel, hf⟩ := h
  rcases open_slice1 Try.underlying56 (by kernel_rfl) hf with ⟨hcs, _⟩ | ⟨x, l, c, m, n, V, D, Pl, hcs, hb, hl, hm, hmm, hx, hi⟩
  · simp [Value.cells] at hcs
    obtain ⟨rfl, rfl, rfl⟩ := hcs
    exact ⟨[], ⟨rfl, by omega, .inl rfl⟩, Nat.le_refl _⟩
  · simp [Value.cells] at hcs
    obtain ⟨rfl, rfl, rfl⟩ := hcs
    have hd : d = .slice ((List.range len).map D) ((List.range (m - len)).map fun j => D (len + j)) := congrArg Prod.fst hx
    subst hd
    have hlen := hs.len Try.underlying56
    rw [bytes_cds] at hlen
    simp only [List.length_map, List.length_range] at hlen
    have hrb : reachBytes = 140737488351232 := rfl
    obtain rfl : m = cap := by simpa using hmm
    obtain ⟨cs, hcl, hcc⟩ := list_of len (fun i (cd : List Cd) => ∃ ai ci, W.cell? (x.add i) = some (.slice ai cd.length ci) ∧ Cds W ai cd.length cd ∧ cd.length ≤ ci) (fun i hil => by
      obtain ⟨hc, ht⟩ := hi i (by omega)
      have hlt : Lite Try.prog 68 (D i) := hs.elem Try.underlying56 (List.mem_map.2 ⟨i, List.mem_range.2 hil, rfl⟩)
      have key : ∀ ai li ci, V i = .slice ai li ci → ∃ cd : List Cd, ∃ ai ci, W.cell? (x.add i) = some (.slice ai cd.length ci) ∧ Cds W ai cd.length cd ∧ cd.length ≤ ci := by
        intro ai li ci hv
        rw [hv] at ht hc
        obtain ⟨cd, h1, h2⟩ := open_conds (a := ai) (len := li) (cap := ci) (d := D i) (p := Pl i) ⟨n, ht⟩ (fun elems spare he => by
          rw [he] at hlt
          have := hlt.len Try.underlying68
          rw [bytes_cd] at this
          omega)
        have e := h1.length
        subst e
        exact ⟨cd, ai, ci, hc, h1, h2⟩
      rcases open_slice Try.underlying68 ht with ⟨hv, _⟩ | ⟨x', l', c', _, _, _, _, hv, _⟩
      · exact key none 0 0 (by simpa using hv)
      · exact key (some x') l' c' (by simpa using hv))
    refine ⟨cs, ⟨hcl, by omega, ?_⟩, hl⟩
    by_cases h0 : len = 0
    · exact .inl h0
    · obtain ⟨b, off, spot⟩ := x
      obtain ⟨c0, hc0⟩ : ∃ c, cs[0]? = some c := ⟨_, List.getElem?_eq_getElem (by omega)⟩
      obtain ⟨a0, ci0, hz, _⟩ := hcc 0 c0 hc0
      have hspot : spot = none := by simpa [Addr.add] using World.cell?_spot hz
      subst hspot
      refine .inr ⟨b, off, rfl, block_lt_of_cell (a := ⟨b, off, none⟩) (by simpa [Addr.add] using hz), fun i c hc => ?_⟩
      obtain ⟨ai, ci, h1, h2, h3⟩ := hcc i c hc
      refine ⟨ai, ci, ?_, h2, h3⟩
      by_cases e : i = 0
      · subst e; simpa [Addr.add] using h1
      · have h4 : Addr.add ⟨b, off, none⟩ i = ⟨b, off + i, none⟩ := by unfold Addr.add; rw [if_neg e]
        rwa [h4] at h1
end Go.Proofs.Ytikdkhiehfccpaa

/- A number of 16 bits that came in (for frames). -/
namespace Go.Proofs.Ytikdkhiehfccpaa
open Go.Joins Go.ChangeShapes Go.WideShapes Go.ChangeAt Go.RowKit Go.Deep

theorem nat_u16 {x : Int} (h : (Lit.int .u16 x).wf = true) : ∃ n : Nat, x = (n : Int) ∧ n < 65536 := by
  have := bounds_u16 h
  exact ⟨x.toNat, by omega, by omega⟩
end Go.Proofs.Ytikdkhiehfccpaa
