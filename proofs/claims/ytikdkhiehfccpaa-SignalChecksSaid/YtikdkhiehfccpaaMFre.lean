/- FrE, FrH in one text. -/
import Derived.Test.YtikdkhiehfccpaaMFrc
import Derived.Test.YtikdkhiehfccpaaMRgd
import Derived.Test.YtikdkhiehfccpaaMSgf

/- Slices of ranges opened (for frames of plain rows of this seat). -/
namespace Go.Proofs.Ytikdkhiehfccpaa
open Go.Joins Go.ChangeShapes Go.WideShapes Go.ChangeAt Go.RowKit Go.Deep

/-- the ten numbers of a range -/
theorem rg_cells {H : Type} {enc : TypeId × Value → H} {W : World} {fuel : Nat} {cs : List Value} {y : DataW H × List MemPlace} (h : DataW.trod enc Try.prog W 0 (fun _ => true) true fuel 73 cs = some y) :
    ∃ c : Rg, ∀ j, j < 10 → cs[j]? = some (.int .i64 (c.cell j)) := by
  obtain ⟨ys, n, _, hy, hcs, hlen, hg⟩ := DataW.trod_struct Try.underlying73 h
  have h10 : Try.prog.cellsOf 73 = 10 := by kernel_rfl
  have k8 : Try.prog.cellsOf 51 = 8 := by kernel_rfl
  have k2 : Try.prog.cellsOf 50 = 2 := by kernel_rfl
  have k1 : Try.prog.cellsOf 3 = 1 := by kernel_rfl
  rw [h10] at hcs
  obtain ⟨c0, c1, c2, c3, c4, c5, c6, c7, c8, c9, rfl⟩ := ten_list hcs
  have hl2 : ys.length = 2 := hlen
  obtain ⟨y0, hy0⟩ : ∃ y, ys[0]? = some y := ⟨_, List.getElem?_eq_getElem (by omega)⟩
  obtain ⟨y1, hy1⟩ : ∃ y, ys[1]? = some y := ⟨_, List.getElem?_eq_getElem (by omega)⟩
  have g0 : DataW.trod enc Try.prog W 0 (fun _ => true) true n 50 ((([c0, c1, c2, c3, c4, c5, c6, c7, c8, c9] : List Value).drop 0).take (Try.prog.cellsOf 50)) = ys[0]? := hg 0 _ rfl
  have g1 : DataW.trod enc Try.prog W 0 (fun _ => true) true n 51 ((([c0, c1, c2, c3, c4, c5, c6, c7, c8, c9] : List Value).drop 2).take (Try.prog.cellsOf 51)) = ys[1]? := hg 1 _ rfl
  rw [k2, hy0] at g0
  rw [k8, hy1] at g1
  have a0 := arr_ints under36 Try.underlying3 k1 g0 rfl
  obtain ⟨xs, m, _, hx, _, hxl, hga⟩ := DataW.trod_array Try.underlying51 g1
  have get : ∀ j, j < 4 → ∀ z0 z1, (([c2, c3, c4, c5, c6, c7, c8, c9] : List Value).drop (j * 2)).take 2 = [z0, z1] → ∃ x0 x1 : Int, z0 = .int .i64 x0 ∧ z1 = .int .i64 x1 := by
    intro j hj z0 z1 hz
    have e1 := hga j hj
    rw [k2] at e1
    obtain ⟨z, hzz⟩ : ∃ z, xs[j]? = some z := ⟨_, List.getElem?_eq_getElem (by omega)⟩
    have hh : (([c0, c1, c2, c3, c4, c5, c6, c7, c8, c9] : List Value).drop 2).take 8 = [c2, c3, c4, c5, c6, c7, c8, c9] := rfl
    rw [hh, hz, hzz] at e1
    have a1 := arr_ints under36 Try.underlying3 k1 e1 rfl
    obtain ⟨x0, q0, _⟩ := a1 0 (by decide)
    obtain ⟨x1, q1, _⟩ := a1 1 (by decide)
    simp at q0 q1
    exact ⟨x0, x1, q0, q1⟩
  obtain ⟨x0, e0, _⟩ := a0 0 (by decide)
  obtain ⟨x1, e1, _⟩ := a0 1 (by decide)
  simp at e0 e1
  obtain ⟨x2, x3, rfl, rfl⟩ := get 0 (by decide) _ _ rfl
  obtain ⟨x4, x5, rfl, rfl⟩ := get 1 (by decide) _ _ rfl
  obtain ⟨x6, x7, rfl, rfl⟩ := get 2 (by decide) _ _ rfl
  obtain ⟨x8, x9, rfl, rfl⟩ := get 3 (by decide) _ _ rfl
  subst e0 e1
  refine ⟨⟨x0, x1, x2, x3, x4, x5, x6, x7, x8, x9⟩, fun j hj => ?_⟩
  have : j = 0 ∨ j = 1 ∨ j = 2 ∨ j = 3 ∨ j = 4 ∨ j = 5 ∨ j = 6 ∨ j = 7 ∨ j = 8 ∨ j = 9 := by omega
  rcases this with rfl | rfl | rfl | rfl | rfl | rfl | rfl | rfl | rfl | rfl <;> rfl
theorem bytes_rg : Try.prog.bytesOf 73 = 80 := by kernel_rfl
theorem open_rgs {H : Type} {enc : TypeId × Value → H} {W : World} {a : Option Addr} {len cap : Nat} {d : DataW H} {p : List MemPlace}
    (h : DataW.Trod enc Try.prog W 0 (fun _ => true) true 27 (Value.slice a len cap) d p)
    (hs : ∀ elems spare, d = .slice elems spare → elems.length + spare.length ≤ 14073748835123) : ∃ cs : List Rg, Rgs W a len cs ∧ len ≤ cap ∧ (a = none → cap = 0) := by
  obtain ⟨fuel, hf⟩ := h
  rcases open_slice Try.underlying27 hf with ⟨hcs, _⟩ | ⟨x, l, c, m, n, D, Pl, hcs, hb, hl, hm, hmm, hx, hi⟩
  · simp [Value.cells] at hcs
    obtain ⟨rfl, rfl, rfl⟩ := hcs
    exact ⟨[], ⟨rfl, by omega, .inl rfl⟩, Nat.le_refl _, fun _ => rfl⟩
  · simp [Value.cells] at hcs
    obtain ⟨rfl, rfl, rfl⟩ := hcs
    have h10 : Try.prog.cellsOf 73 = 10 := by kernel_rfl
    have hd : d = .slice ((List.range len).map D) ((List.range (m - len)).map fun j => D (len + j)) := congrArg Prod.fst hx
    have hlen := hs _ _ hd
    simp only [List.length_map, List.length_range] at hlen
    obtain rfl : m = cap := by simpa using hmm
    obtain ⟨cs, hcl, hcc⟩ := list_of len (fun i (cd : Rg) => ∀ j, j < 10 → W.cell? (x.add (i * 10 + j)) = some (.int .i64 (cd.cell j))) (fun i hil => by
      obtain ⟨cs', hc, ht⟩ := hi i (by omega)
      rw [h10] at hc
      obtain ⟨_, hl', hat⟩ := World.cells?_some hc
      obtain ⟨cd, h2⟩ := rg_cells ht
      refine ⟨cd, fun j hj => ?_⟩
      rw [← Go.Deep.add_add, hat j hj]
      exact h2 j hj)
    refine ⟨cs, ⟨hcl, by omega, ?_⟩, hl, fun e => by cases e⟩
    by_cases h0 : len = 0
    · exact .inl h0
    · obtain ⟨b, off, spot⟩ := x
      obtain ⟨c0, hc0⟩ : ∃ c, cs[0]? = some c := ⟨_, List.getElem?_eq_getElem (by omega)⟩
      have hz := (hcc 0 c0 hc0) 0 (by decide)
      have hspot : spot = none := by simpa [Addr.add] using World.cell?_spot hz
      subst hspot
      refine .inr ⟨b, off, rfl, block_lt_of_cell (a := ⟨b, off, none⟩) (by simpa [Addr.add] using hz), fun i c hc j hj => ?_⟩
      have := (hcc i c hc) j hj
      by_cases e : i * 10 + j = 0
      · have e1 : i = 0 := by omega
        have e2 : j = 0 := by omega
        subst e1 e2
        simpa [Addr.add] using this
      · rw [show off + i * 10 + j = off + (i * 10 + j) by omega]
        have h2 : Addr.add ⟨b, off, none⟩ (i * 10 + j) = ⟨b, off + (i * 10 + j), none⟩ := by unfold Addr.add; rw [if_neg e]
        rwa [h2] at this
end Go.Proofs.Ytikdkhiehfccpaa

/- Slices of rules and of claims opened (for frames of plain rows of this seat). -/
namespace Go.Proofs.Ytikdkhiehfccpaa
open Go.Joins Go.ChangeShapes Go.WideShapes Go.ChangeAt Go.RowKit Go.Deep

/-- a slice of ranges in one cell -/
theorem rgc_cell {H : Type} {enc : TypeId × Value → H} {W : World} {n : Nat} {c : Value} {y : DataW H × List MemPlace} (h : DataW.trod enc Try.prog W 0 (fun _ => true) true n 27 [c] = some y) (hs : Lite Try.prog 27 y.1) :
    ∃ (rs : List Rg) (ai : Option Addr) (ci : Nat), c = .slice ai rs.length ci ∧ RgC W ai ci rs := by
  have key : ∀ ai li ci, c = .slice ai li ci → ∃ (rs : List Rg) (ai : Option Addr) (ci : Nat), c = .slice ai rs.length ci ∧ RgC W ai ci rs := by
    intro ai li ci hv
    subst hv
    obtain ⟨d, p⟩ := y
    obtain ⟨rs, h1, h2, h3⟩ := open_rgs (a := ai) (len := li) (cap := ci) (d := d) (p := p) ⟨n, h⟩ (fun elems spare he => by
      simp only at hs
      rw [he] at hs
      have := hs.len Try.underlying27
      rw [bytes_rg] at this
      have hrb : reachBytes = 140737488351232 := rfl
      omega)
    have e := h1.length
    subst e
    exact ⟨rs, ai, ci, rfl, h1, h2, h3⟩
  rcases open_slice Try.underlying27 h with ⟨hv, _⟩ | ⟨x', l', c', _, _, _, _, hv, _⟩
  · exact key none 0 0 (by simpa using hv)
  · exact key (some x') l' c' (by simpa using hv)
theorem two_list {α : Type} {l : List α} (h : l.length = 2) : ∃ a b, l = [a, b] := by
  match l, h with
  | [a, b], _ => exact ⟨a, b, rfl⟩
theorem four_list {α : Type} {l : List α} (h : l.length = 4) : ∃ a b c d, l = [a, b, c, d] := by
  match l, h with
  | [a, b, c, d], _ => exact ⟨a, b, c, d, rfl⟩
theorem rule_cells {H : Type} {enc : TypeId × Value → H} {W : World} {fuel : Nat} {cs : List Value} {y : DataW H × List MemPlace} (h : DataW.trod enc Try.prog W 0 (fun _ => true) true fuel 63 cs = some y) (hs : Lite Try.prog 63 y.1) :
    ∃ (x : Rl) (ai : Option Addr) (ci : Nat), cs = [.slice ai x.rs.length ci, .int .i64 x.s] ∧ RgC W ai ci x.rs := by
  obtain ⟨ys, n, _, hy, hcs, hlen, hg⟩ := DataW.trod_struct Try.underlying63 h
  have h2 : Try.prog.cellsOf 63 = 2 := by kernel_rfl
  have k1 : Try.prog.cellsOf 3 = 1 := by kernel_rfl
  have k2 : Try.prog.cellsOf 27 = 1 := by kernel_rfl
  rw [h2] at hcs
  obtain ⟨c0, c1, rfl⟩ := two_list hcs
  have hl2 : ys.length = 2 := hlen
  obtain ⟨y0, hy0⟩ : ∃ y, ys[0]? = some y := ⟨_, List.getElem?_eq_getElem (by omega)⟩
  obtain ⟨y1, hy1⟩ : ∃ y, ys[1]? = some y := ⟨_, List.getElem?_eq_getElem (by omega)⟩
  have g0 : DataW.trod enc Try.prog W 0 (fun _ => true) true n 27 ((([c0, c1] : List Value).drop 0).take (Try.prog.cellsOf 27)) = ys[0]? := hg 0 _ rfl
  have g1 : DataW.trod enc Try.prog W 0 (fun _ => true) true n 3 ((([c0, c1] : List Value).drop 1).take (Try.prog.cellsOf 3)) = ys[1]? := hg 1 _ rfl
  rw [k2, hy0] at g0
  rw [k1, hy1] at g1
  have hs0 : Lite Try.prog 27 y0.1 := by
    rw [hy] at hs
    exact Lite.part (j := 0) hs Try.underlying63 rfl (by rw [List.getElem?_map, hy0]; rfl)
  obtain ⟨rs, ai, ci, e0, hR⟩ := rgc_cell (c := c0) g0 hs0
  obtain ⟨s, e1, _⟩ := DataW.trod_int Try.underlying3 (cs := [c1]) g1
  have e1 := (List.cons.inj e1).1
  subst e0 e1
  exact ⟨⟨rs, s⟩, ai, ci, rfl, hR⟩
theorem claim_cells {H : Type} {enc : TypeId × Value → H} {W : World} {fuel : Nat} {cs : List Value} {y : DataW H × List MemPlace} (h : DataW.trod enc Try.prog W 0 (fun _ => true) true fuel 29 cs = some y) (hs : Lite Try.prog 29 y.1) :
    ∃ (x : Cm) (ai : Option Addr) (ci : Nat), cs = [.int .i64 x.s, .int .i64 x.lo, .int .i64 x.hi, .slice ai x.rs.length ci] ∧ RgC W ai ci x.rs := by
  obtain ⟨ys, n, _, hy, hcs, hlen, hg⟩ := DataW.trod_struct Try.underlying29 h
  have h2 : Try.prog.cellsOf 29 = 4 := by kernel_rfl
  have k1 : Try.prog.cellsOf 3 = 1 := by kernel_rfl
  have k2 : Try.prog.cellsOf 27 = 1 := by kernel_rfl
  rw [h2] at hcs
  obtain ⟨c0, c1, c2, c3, rfl⟩ := four_list hcs
  have hl2 : ys.length = 4 := hlen
  obtain ⟨y0, hy0⟩ : ∃ y, ys[0]? = some y := ⟨_, List.getElem?_eq_getElem (by omega)⟩
  obtain ⟨y1, hy1⟩ : ∃ y, ys[1]? = some y := ⟨_, List.getElem?_eq_getElem (by omega)⟩
  obtain ⟨y2, hy2⟩ : ∃ y, ys[2]? = some y := ⟨_, List.getElem?_eq_getElem (by omega)⟩
  obtain ⟨y3, hy3⟩ : ∃ y, ys[3]? = some y := ⟨_, List.getElem?_eq_getElem (by omega)⟩
  have g0 : DataW.trod enc Try.prog W 0 (fun _ => true) true n 3 ((([c0, c1, c2, c3] : List Value).drop 0).take (Try.prog.cellsOf 3)) = ys[0]? := hg 0 _ rfl
  have g1 : DataW.trod enc Try.prog W 0 (fun _ => true) true n 3 ((([c0, c1, c2, c3] : List Value).drop 1).take (Try.prog.cellsOf 3)) = ys[1]? := hg 1 _ rfl
  have g2 : DataW.trod enc Try.prog W 0 (fun _ => true) true n 3 ((([c0, c1, c2, c3] : List Value).drop 2).take (Try.prog.cellsOf 3)) = ys[2]? := hg 2 _ rfl
  have g3 : DataW.trod enc Try.prog W 0 (fun _ => true) true n 27 ((([c0, c1, c2, c3] : List Value).drop 3).take (Try.prog.cellsOf 27)) = ys[3]? := hg 3 _ rfl
  rw [k1, hy0] at g0
  rw [k1, hy1] at g1
  rw [k1, hy2] at g2
  rw [k2, hy3] at g3
  have hs0 : Lite Try.prog 27 y3.1 := by
    rw [hy] at hs
    exact Lite.part (j := 3) hs Try.underlying29 rfl (by rw [List.getElem?_map, hy3]; rfl)
  obtain ⟨rs, ai, ci, e3, hR⟩ := rgc_cell (c := c3) g3 hs0
  obtain ⟨s0, e0, _⟩ := DataW.trod_int Try.underlying3 (cs := [c0]) g0
  obtain ⟨s1, e1, _⟩ := DataW.trod_int Try.underlying3 (cs := [c1]) g1
  obtain ⟨s2, e2, _⟩ := DataW.trod_int Try.underlying3 (cs := [c2]) g2
  have e0 := (List.cons.inj e0).1
  have e1 := (List.cons.inj e1).1
  have e2 := (List.cons.inj e2).1
  subst e0 e1 e2 e3
  exact ⟨⟨s0, s1, s2, rs⟩, ai, ci, rfl, hR⟩
theorem bytes_rule : Try.prog.bytesOf 63 = 32 := by kernel_rfl
theorem bytes_claim : Try.prog.bytesOf 29 = 48 := by kernel_rfl
theorem add_eq {b off k : Nat} : Addr.add ⟨b, off, none⟩ k = ⟨b, off + k, none⟩ := by
  unfold Addr.add
  split
  · rename_i h; subst h; rfl
  · rfl
/-- elements of several cells -/
theorem open_elems {H : Type} {enc : TypeId × Value → H} {W : World} {S E : TypeId} {m by0 : Nat} (hu : Try.prog.underlying S = some (.slice E)) (hm : Try.prog.cellsOf E = m) (hm0 : 0 < m) (hby : Try.prog.bytesOf E = by0) (hb10 : 10 ≤ by0)
    {α : Type} (Rd : α → List Value → Prop) (hrd : ∀ fuel cs (y : DataW H × List MemPlace), DataW.trod enc Try.prog W 0 (fun _ => true) true fuel E cs = some y → Lite Try.prog E y.1 → ∃ x, Rd x cs)
    {a : Option Addr} {len cap : Nat} {d : DataW H} {p : List MemPlace}
    (h : DataW.Trod enc Try.prog W 0 (fun _ => true) true S (Value.slice a len cap) d p) (hs : Lite Try.prog S d) :
    ∃ xs : List α, xs.length = len ∧ len ≤ 14073748835123 ∧ len ≤ cap ∧ (len = 0 ∨ ∃ b off, a = some ⟨b, off, none⟩ ∧ b < W.heap.size ∧ ∀ i x, xs[i]? = some x → ∃ cs, cs.length = m ∧ Rd x cs ∧ ∀ j, j < m → W.cell? ⟨b, off + i * m + j, none⟩ = cs[j]?) := by
  obtain ⟨fuel, hf⟩ := h
  rcases open_slice hu hf with ⟨hcs, _⟩ | ⟨x, l, c, mm, n, D, Pl, hcs, hb, hl, hmx, hmm, hx, hi⟩
  · simp [Value.cells] at hcs
    obtain ⟨rfl, rfl, rfl⟩ := hcs
    exact ⟨[], rfl, by omega, Nat.le_refl _, .inl rfl⟩
  · simp [Value.cells] at hcs
    obtain ⟨rfl, rfl, rfl⟩ := hcs
    have hd : d = .slice ((List.range len).map D) ((List.range (mm - len)).map fun j => D (len + j)) := congrArg Prod.fst hx
    subst hd
    have hlen := hs.len hu
    rw [hby] at hlen
    simp only [List.length_map, List.length_range] at hlen
    have hrb : reachBytes = 140737488351232 := rfl
    obtain rfl : mm = cap := by simpa using hmm
    obtain ⟨xs, hxl, hxx⟩ := list_of len (fun i (cd : α) => ∃ cs, cs.length = m ∧ Rd cd cs ∧ ∀ j, j < m → W.cell? (x.add (i * m + j)) = cs[j]?) (fun i hil => by
      obtain ⟨cs', hc, ht⟩ := hi i (by omega)
      have hlt : Lite Try.prog E (D i) := hs.elem hu (List.mem_map.2 ⟨i, List.mem_range.2 hil, rfl⟩)
      rw [hm] at hc
      obtain ⟨_, hl', hat⟩ := World.cells?_some hc
      obtain ⟨cd, h2⟩ := hrd n cs' _ ht hlt
      refine ⟨cd, cs', hl', h2, fun j hj => ?_⟩
      rw [← Go.Deep.add_add, hat j hj])
    refine ⟨xs, hxl, ?_, hl, ?_⟩
    · have h3 : len * 10 ≤ (len + (mm - len)) * by0 := Nat.mul_le_mul (by omega) hb10
      omega
    · by_cases h0 : len = 0
      · exact .inl h0
      · obtain ⟨b, off, spot⟩ := x
        obtain ⟨x0, hx0⟩ : ∃ c, xs[0]? = some c := ⟨_, List.getElem?_eq_getElem (by omega)⟩
        obtain ⟨cs0, hl0, _, hz⟩ := hxx 0 x0 hx0
        have hz := hz 0 hm0
        obtain ⟨u, hu0⟩ : ∃ u, cs0[0]? = some u := ⟨_, List.getElem?_eq_getElem (by omega)⟩
        rw [hu0, show 0 * m + 0 = 0 by omega] at hz
        have hspot : spot = none := by simpa [Addr.add] using World.cell?_spot hz
        subst hspot
        refine .inr ⟨b, off, rfl, block_lt_of_cell (a := ⟨b, off, none⟩) (by simpa [Addr.add] using hz), fun i x hx => ?_⟩
        obtain ⟨cs, h1, h2, h3⟩ := hxx i x hx
        refine ⟨cs, h1, h2, fun j hj => ?_⟩
        rw [← h3 j hj, add_eq, Nat.add_assoc]
theorem open_rules {H : Type} {enc : TypeId × Value → H} {W : World} {a : Option Addr} {len cap : Nat} {d : DataW H} {p : List MemPlace}
    (h : DataW.Trod enc Try.prog W 0 (fun _ => true) true 23 (Value.slice a len cap) d p)
    (hs : Lite Try.prog 23 d) : ∃ ls : List Rl, Rls W a len ls ∧ len ≤ cap := by
  obtain ⟨xs, h1, h2, h3, h4⟩ := open_elems (m := 2) (by0 := 32) Try.underlying23 (by kernel_rfl) (by decide) bytes_rule (by decide) (fun (x : Rl) cs => ∃ (ai : Option Addr) (ci : Nat), cs = [.slice ai x.rs.length ci, .int .i64 x.s] ∧ RgC W ai ci x.rs) (fun _ _ _ h1 h2 => by
    obtain ⟨x, ai, ci, e, hR⟩ := rule_cells h1 h2
    exact ⟨x, ai, ci, e, hR⟩) h hs
  refine ⟨xs, ⟨h1, h2, ?_⟩, h3⟩
  rcases h4 with h0 | ⟨b, off, ha, hb, hc⟩
  · exact .inl h0
  · refine .inr ⟨b, off, ha, hb, fun i x hx => ?_⟩
    obtain ⟨cs, _, ⟨ai, ci, rfl, hR⟩, hcell⟩ := hc i x hx
    exact ⟨ai, ci, hcell 0 (by decide), hcell 1 (by decide), hR⟩
theorem open_claims {H : Type} {enc : TypeId × Value → H} {W : World} {a : Option Addr} {len cap : Nat} {d : DataW H} {p : List MemPlace}
    (h : DataW.Trod enc Try.prog W 0 (fun _ => true) true 24 (Value.slice a len cap) d p)
    (hs : Lite Try.prog 24 d) : ∃ ls : List Cm, Cms W a len ls ∧ len ≤ cap := by
  obtain ⟨xs, h1, h2, h3, h4⟩ := open_elems (m := 4) (by0 := 48) Try.underlying24 (by kernel_rfl) (by decide) bytes_claim (by decide) (fun (x : Cm) cs => ∃ (ai : Option Addr) (ci : Nat), cs = [.int .i64 x.s, .int .i64 x.lo, .int .i64 x.hi, .slice ai x.rs.length ci] ∧ RgC W ai ci x.rs) (fun _ _ _ h1 h2 => by
    obtain ⟨x, ai, ci, e, hR⟩ := claim_cells h1 h2
    exact ⟨x, ai, ci, e, hR⟩) h hs
  refine ⟨xs, ⟨h1, h2, ?_⟩, h3⟩
  rcases h4 with h0 | ⟨b, off, ha, hb, hc⟩
  · exact .inl h0
  · refine .inr ⟨b, off, ha, hb, fun i x hx => ?_⟩
    obtain ⟨cs, _, ⟨ai, ci, rfl, hR⟩, hcell⟩ := hc i x hx
    exact ⟨ai, ci, hcell 0 (by decide), hcell 1 (by decide), hcell 2 (by decide), hcell 3 (by decide), hR⟩
end Go.Proofs.Ytikdkhiehfccpaa
