/- Slices of ranges opened (for frames of plain rows of this seat). -/
import Derived.Test.YtmkplfndbjcflaaFrC
import Derived.Test.YtmkplfndbjcflaaRgF
namespace Go.Proofs.Ytmkplfndbjcflaa
open Go.Joins Go.ChangeShapes Go.WideShapes Go.ChangeAt Go.RowKit Go.Deep

/-- the ten numbers of a range -/
theorem rg_cells {H : Type} {enc : TypeId × Value → H} {W : World} {fuel : Nat} {cs : List Value} {y : DataW H × List MemPlace} (h : DataW.trod enc Try.prog W 0 (fun _ => true) true fuel 39 cs = some y) :
    ∃ c : Rg, ∀ j, j < 10 → cs[j]? = some (.int .i64 (c.cell j)) := by
  obtain ⟨ys, n, _, hy, hcs, hlen, hg⟩ := DataW.trod_struct Try.underlying39 h
  have h10 : Try.prog.cellsOf 39 = 10 := by kernel_rfl
  have k8 : Try.prog.cellsOf 37 = 8 := by kernel_rfl
  have k2 : Try.prog.cellsOf 36 = 2 := by kernel_rfl
  have k1 : Try.prog.cellsOf 3 = 1 := by kernel_rfl
  rw [h10] at hcs
  obtain ⟨c0, c1, c2, c3, c4, c5, c6, c7, c8, c9, rfl⟩ := ten_list hcs
  have hl2 : ys.length = 2 := hlen
  obtain ⟨y0, hy0⟩ : ∃ y, ys[0]? = some y := ⟨_, List.getElem?_eq_getElem (by omega)⟩
  obtain ⟨y1, hy1⟩ : ∃ y, ys[1]? = some y := ⟨_, List.getElem?_eq_getElem (by omega)⟩
  have g0 : DataW.trod enc Try.prog W 0 (fun _ => true) true n 36 ((([c0, c1, c2, c3, c4, c5, c6, c7, c8, c9] : List Value).drop 0).take (Try.prog.cellsOf 36)) = ys[0]? := hg 0 _ rfl
  have g1 : DataW.trod enc Try.prog W 0 (fun _ => true) true n 37 ((([c0, c1, c2, c3, c4, c5, c6, c7, c8, c9] : List Value).drop 2).take (Try.prog.cellsOf 37)) = ys[1]? := hg 1 _ rfl
  rw [k2, hy0] at g0
  rw [k8, hy1] at g1
  have a0 := arr_ints under36 Try.underlying3 k1 g0 rfl
  obtain ⟨xs, m, _, hx, _, hxl, hga⟩ := DataW.trod_array Try.underlying37 g1
  have get : ∀ j, j < 4 → ∀ z0 z1, (([c2, c3, c4, c5, c6, c7, c8, c9] : List Value).drop (j * 2)).take 2 = [z0, z1] → ∃ x0 x1 : Int, z0 = .int .i64 x0 ∧ z1 = .int .i64 x1 := by
    intro j hj z0 z1 hz
    have e1 := hga j hj
    rw [k2] at e1
    obtain ⟨z, hzz⟩ : ∃ z, xs[j]? = some z := ⟨_, List.getElem?_eq_getElem (by omega)⟩
    have hh : (([c0, c1, c2, c3, c4, c5, c6, c7, c8, c9] : List Value).drop 2).take 8 = [c2, c3, c4, c5, c6, c7, c8, c9] := rfl
    rw [hh, hz, hzz] at e1
    have a1 := arr_ints under36 Try.underlying3 k1 e1 rfl
    obtain ⟨x0, q0, _⟩ := a1 0 (by decide)
    obtain ⟨x1, q1, _⟩ := a1 1 (by decide)
    simp at q0 q1
    exact ⟨x0, x1, q0, q1⟩
  obtain ⟨x0, e0, _⟩ := a0 0 (by decide)
  obtain ⟨x1, e1, _⟩ := a0 1 (by decide)
  simp at e0 e1
  obtain ⟨x2, x3, rfl, rfl⟩ := get 0 (by decide) _ _ rfl
  obtain ⟨x4, x5, rfl, rfl⟩ := get 1 (by decide) _ _ rfl
  obtain ⟨x6, x7, rfl, rfl⟩ := get 2 (by decide) _ _ rfl
  obtain ⟨x8, x9, rfl, rfl⟩ := get 3 (by decide) _ _ rfl
  subst e0 e1
  refine ⟨⟨x0, x1, x2, x3, x4, x5, x6, x7, x8, x9⟩, fun j hj => ?_⟩
  have : j = 0 ∨ j = 1 ∨ j = 2 ∨ j = 3 ∨ j = 4 ∨ j = 5 ∨ j = 6 ∨ j = 7 ∨ j = 8 ∨ j = 9 := by omega
  rcases this with rfl | rfl | rfl | rfl | rfl | rfl | rfl | rfl | rfl | rfl <;> rfl
theorem bytes_rg : Try.prog.bytesOf 39 = 80 := by kernel_rfl
theorem open_rgs {H : Type} {enc : TypeId × Value → H} {W : World} {a : Option Addr} {len cap : Nat} {d : DataW H} {p : List MemPlace}
    (h : DataW.Trod enc Try.prog W 0 (fun _ => true) true 23 (Value.slice a len cap) d p)
    (hs : ∀ elems spare, d = .slice elems spare → elems.length + spare.length ≤ 14073748835123) : ∃ cs : List Rg, Rgs W a len cs ∧ len ≤ cap ∧ (a = none → cap = 0) := by
  obtain ⟨fuel, hf⟩ := h
  rcases open_slice Try.underlying23 hf with ⟨hcs, _⟩ | ⟨x, l, c, m, n, D, Pl, hcs, hb, hl, hm, hmm, hx, hi⟩
  · simp [Value.cells] at hcs
    obtain ⟨rfl, rfl, rfl⟩ := hcs
    exact ⟨[], ⟨rfl, by omega, .inl rfl⟩, Nat.le_refl _, fun _ => rfl⟩
  · simp [Value.cells] at hcs
    obtain ⟨rfl, rfl, rfl⟩ := hcs
    have h10 : Try.prog.cellsOf 39 = 10 := by kernel_rfl
    have hd : d = .slice ((List.range len).map D) ((List.range (m - len)).map fun j => D (len + j)) := congrArg Prod.fst hx
    have hlen := hs _ _ hd
    simp only [List.length_map, List.length_range] at hlen
    obtain rfl : m = cap := by simpa using hmm
    obtain ⟨cs, hcl, hcc⟩ := list_of len (fun i (cd : Rg) => ∀ j, j < 10 → W.cell? (x.add (i * 10 + j)) = some (.int .i64 (cd.cell j))) (fun i hil => by
      obtain ⟨cs', hc, ht⟩ := hi i (by omega)
      rw [h10] at hc
      obtain ⟨_, hl', hat⟩ := World.cells?_some hc
      obtain ⟨cd, h2⟩ := rg_cells ht
      refine ⟨cd, fun j hj => ?_⟩
      rw [← Go.Deep.add_add, hat j hj]
      exact h2 j hj)
    refine ⟨cs, ⟨hcl, by omega, ?_⟩, hl, fun e => by cases e⟩
    by_cases h0 : len = 0
    · exact .inl h0
    · obtain ⟨b, off, spot⟩ := x
      obtain ⟨c0, hc0⟩ : ∃ c, cs[0]? = some c := ⟨_, List.getElem?_eq_getElem (by omega)⟩
      have hz := (hcc 0 c0 hc0) 0 (by decide)
      have hspot : spot = none := by simpa [Addr.add] using World.cell?_spot hz
      subst hspot
      refine .inr ⟨b, off, rfl, block_lt_of_cell (a := ⟨b, off, none⟩) (by simpa [Addr.add] using hz), fun i c hc j hj => ?_⟩
      have := (hcc i c hc) j hj
      by_cases e : i * 10 + j = 0
      · have e1 : i = 0 := by omega
        have e2 : j = 0 := by omega
        subst e1 e2
        simpa [Addr.add] using this
      · rw [show off + i * 10 + j = off + (i * 10 + j) by omega]
        have h2 : Addr.add ⟨b, off, none⟩ (i * 10 + j) = ⟨b, off + (i * 10 + j), none⟩ := by unfold Addr.add; rw [if_neg e]
        rwa [h2] at this
end Go.Proofs.Ytmkplfndbjcflaa
