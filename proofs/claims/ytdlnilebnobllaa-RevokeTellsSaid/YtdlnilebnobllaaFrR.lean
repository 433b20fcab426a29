/- A revoke.Record that came in by value, opened: four words, two bytes, a slice of bytes. -/
import Derived.Test.YtdlnilebnobllaaFrS
import Derived.Test.YtdlnilebnobllaaRevP
namespace Go.Proofs.Ytdlnilebnobllaa
open Go.Joins Go.ChangeShapes Go.WideShapes Go.ChangeAt Go.RowKit Go.Deep

theorem nat_u64 {x : Int} (h : (Lit.int .u64 x).wf = true) : ∃ n : Nat, x = (n : Int) ∧ W64 n := by
  have := bounds_u64 h
  exact ⟨x.toNat, by omega, by unfold W64; omega⟩
/-- a field that is a slice of bytes, with what is told of its room -/
theorem slice_open4 {H : Type} {enc : TypeId × Value → H} {W : World} {n : Nat} {c : Value} {y : DataW H × List MemPlace} (h : DataW.trod enc Try.prog W 0 (fun _ => true) true n 25 [c] = some y)
    (hs : ∀ elems spare, y.1 = .slice elems spare → elems.length + spare.length ≤ 140737488351232) : ∃ a len cap, ∃ zs : List Nat, c = .slice a len cap ∧ Byt W a len zs ∧ (a = none → cap = 0) ∧ len ≤ cap ∧ cap ≤ 140737488351232 := by
  rcases open_ints Try.underlying25 Try.underlying5 (by kernel_rfl) h with ⟨hcs, _⟩ | ⟨x, l, c', zs, hcs, _, hl, hm, hz, hx, hcell, hwz⟩
  · obtain rfl : c = .slice none 0 0 := by simpa using hcs
    obtain ⟨zs, h1, h2, h3⟩ := bytes_open (d := y.1) (p := y.2) ⟨n, h⟩ hs
    exact ⟨none, 0, 0, zs, rfl, h1, h2, h3, by omega⟩
  · obtain rfl : c = .slice (some x) l c' := by simpa using hcs
    obtain ⟨zs', h1, h2, h3⟩ := bytes_open (d := y.1) (p := y.2) ⟨n, h⟩ hs
    have hd : y.1 = .slice (lits .u8 (zs.take l)) (lits .u8 (zs.drop l)) := congrArg Prod.fst hx
    have hlen := hs _ _ hd
    have hzl : zs.length = c' := by simpa using hz
    simp only [lits, List.length_map, List.length_take, List.length_drop] at hlen
    exact ⟨some x, l, c', zs', rfl, h1, h2, h3, by omega⟩
set_option maxRecDepth 100000 in
theorem open_rec13 {H : Type} {enc : TypeId × Value → H} {W : World} {r : Reach} {b0 : Nat} {v : Value} {d : DataW H} {p : List MemPlace} (hv : Value.okWide Try.prog W r b0 27 v)
    (h : DataW.Trod enc Try.prog W 0 (fun _ => true) true 27 v d p) (hs : ∀ elems spare ps, d = .agg ps → ps[3]? = some (.slice elems spare) → elems.length + spare.length ≤ 140737488351232) :
    ∃ (r : Rc) (a : Option Addr) (len cap : Nat), v = r.v a len cap ∧ r.ok len cap ∧ Byt W a len r.zs ∧ (a = none → cap = 0) := by
  obtain ⟨cs, rfl, hsz⟩ := okWide_struct Try.underlying27 hv
  have h7 : Try.prog.cellsOf 27 = 7 := by kernel_rfl
  have k4 : Try.prog.cellsOf 24 = 4 := by kernel_rfl
  have k1 : Try.prog.cellsOf 5 = 1 := by kernel_rfl
  have kS : Try.prog.cellsOf 25 = 1 := by kernel_rfl
  have kU : Try.prog.cellsOf 22 = 1 := by kernel_rfl
  rw [h7] at hsz
  obtain ⟨fuel, hf⟩ := h
  obtain ⟨ys, n, _, hy, _, hlen, hg⟩ := DataW.trod_struct Try.underlying27 hf
  simp only [Prod.mk.injEq] at hy
  obtain ⟨l⟩ := cs
  match l, hsz with
  | [c0, c1, c2, c3, c4, c5, c6], _ =>
    have g0 : DataW.trod enc Try.prog W 0 (fun _ => true) true n 24 ((([c0, c1, c2, c3, c4, c5, c6] : List Value).drop 0).take (Try.prog.cellsOf 24)) = ys[0]? := hg 0 _ rfl
    have g1 : DataW.trod enc Try.prog W 0 (fun _ => true) true n 5 ((([c0, c1, c2, c3, c4, c5, c6] : List Value).drop 4).take (Try.prog.cellsOf 5)) = ys[1]? := hg 1 _ rfl
    have g2 : DataW.trod enc Try.prog W 0 (fun _ => true) true n 5 ((([c0, c1, c2, c3, c4, c5, c6] : List Value).drop 5).take (Try.prog.cellsOf 5)) = ys[2]? := hg 2 _ rfl
    have g3 : DataW.trod enc Try.prog W 0 (fun _ => true) true n 25 ((([c0, c1, c2, c3, c4, c5, c6] : List Value).drop 6).take (Try.prog.cellsOf 25)) = ys[3]? := hg 3 _ rfl
    rw [k4] at g0
    rw [k1] at g1 g2
    rw [kS] at g3
    have hl4 : ys.length = 4 := hlen
    obtain ⟨y0, hy0⟩ : ∃ y, ys[0]? = some y := ⟨_, List.getElem?_eq_getElem (by omega)⟩
    obtain ⟨y1, hy1⟩ : ∃ y, ys[1]? = some y := ⟨_, List.getElem?_eq_getElem (by omega)⟩
    obtain ⟨y2, hy2⟩ : ∃ y, ys[2]? = some y := ⟨_, List.getElem?_eq_getElem (by omega)⟩
    obtain ⟨y3, hy3⟩ : ∃ y, ys[3]? = some y := ⟨_, List.getElem?_eq_getElem (by omega)⟩
    rw [hy0] at g0
    rw [hy1] at g1
    rw [hy2] at g2
    rw [hy3] at g3
    have e0 : DataW.trod enc Try.prog W 0 (fun _ => true) true n 24 [c0, c1, c2, c3] = some y0 := g0
    have e1 : DataW.trod enc Try.prog W 0 (fun _ => true) true n 5 [c4] = some y1 := g1
    have e2 : DataW.trod enc Try.prog W 0 (fun _ => true) true n 5 [c5] = some y2 := g2
    have e3 : DataW.trod enc Try.prog W 0 (fun _ => true) true n 25 [c6] = some y3 := g3
    clear g0 g1 g2 g3 hg
    obtain ⟨xs, m, _, hx, _, hxl, hga⟩ := DataW.trod_array Try.underlying24 e0
    have w : ∀ i c, i < 4 → [c0, c1, c2, c3][i]? = some c → ∃ k : Nat, c = .int .u64 (k : Int) ∧ W64 k := by
      intro i c hi hc
      have e := hga i hi
      rw [kU, Nat.mul_one] at e
      obtain ⟨z, hz⟩ : ∃ z, xs[i]? = some z := ⟨_, List.getElem?_eq_getElem (by omega)⟩
      have ed : ([c0, c1, c2, c3].drop i).take 1 = [c] := by
        rcases (show i = 0 ∨ i = 1 ∨ i = 2 ∨ i = 3 by omega) with rfl | rfl | rfl | rfl <;> (simp at hc; rw [← hc]; rfl)
      rw [ed, hz] at e
      obtain ⟨s, es, -, ws⟩ := DataW.trod_int Try.underlying22 e
      obtain rfl := (List.cons.inj es).1
      obtain ⟨k, rfl, hk⟩ := nat_u64 ws
      exact ⟨k, rfl, hk⟩
    obtain ⟨n0, rfl, b0⟩ := w 0 _ (by omega) rfl
    obtain ⟨n1, rfl, b1⟩ := w 1 _ (by omega) rfl
    obtain ⟨n2, rfl, b2⟩ := w 2 _ (by omega) rfl
    obtain ⟨n3, rfl, b3⟩ := w 3 _ (by omega) rfl
    obtain ⟨s4, es, -, ws4⟩ := DataW.trod_int Try.underlying5 e1
    obtain rfl := (List.cons.inj es).1
    obtain ⟨n4, rfl, b4⟩ := nat_u8 ws4
    obtain ⟨s5, es, -, ws5⟩ := DataW.trod_int Try.underlying5 e2
    obtain rfl := (List.cons.inj es).1
    obtain ⟨n5, rfl, b5⟩ := nat_u8 ws5
    obtain ⟨a, len, cap, zs, rfl, hz, hn, hc, hm⟩ := slice_open4 e3 (fun elems spare h => hs elems spare _ hy.1 (by rw [List.getElem?_map, hy3]; exact congrArg some h))
    refine ⟨⟨fun j => [n0, n1, n2, n3].getD j 0, n4, n5, zs⟩, a, len, cap, rfl, ⟨fun j => ?_, b4, b5, hc, by omega⟩, hz, hn⟩
    match j with
    | 0 => exact b0
    | 1 => exact b1
    | 2 => exact b2
    | 3 => exact b3
    | k + 4 => show W64 0; unfold W64; decide
end Go.Proofs.Ytdlnilebnobllaa
