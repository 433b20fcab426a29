/- FrBd, FrDl in one text. -/
import Derived.Test.YtnbillhodbcfbaaDoorRows
import Derived.Test.YtnbillhodbcfbaaDoorMDmt
import Derived.Test.YtnbillhodbcfbaaDoorMLow
import Derived.WalkKit
import Derived.ProofKit
import Derived.OpenShut
import Derived.ShutString
import Derived.ChangeOld
import Derived.Below
import Derived.SizedLaws
import Derived.Deep.DeepHandedRow
import Derived.Lib.LaidTab
import Derived.Test.YtnbillhodbcfbaaDoorMDpa
import Derived.Lib.SmallJoins

/- What every frame of this seat shares: the table that the row lists, a world for the witness, a slice of bytes that came in. -/
namespace Go.Proofs.YtnbillhodbcfbaaDoor
open Go.ChangeShapes Go.WideShapes Go.ChangeAt Go.RowKit

theorem own : ownKnob Tryd.prog.godebug = none := by kernel_rfl
theorem laidOut : laidOutB Tryd.prog = true := by kernel_rfl
theorem bytes_u8 : Tryd.prog.bytesOf 5 = 1 := by kernel_rfl
theorem gTab : Tryd.prog.globalNamed "math/bits.deBruijn64tab" = some 0 := by kernel_rfl
theorem gTabType : (Tryd.prog.globals[0]?).map (·.type) = some 127 := by kernel_rfl
theorem cellsTab : Tryd.prog.cellsOf 127 = 64 := by kernel_rfl
theorem cellsU8 : Tryd.prog.cellsOf 5 = 1 := by kernel_rfl
theorem tab_of {W : World} (h : laidMetH Tryd.prog [("math/bits.deBruijn64tab", Rows.laid_math_bits_deBruijn64tab)] W) : Tab W := by
  have ht : Lib.TabIs Tryd.prog W "math/bits.deBruijn64tab" .u8 (Lib.deBruijn64tab.map fun n : Nat => (n : Int)) :=
    Lib.tabIs_of_head (rest := []) gTab gTabType Tryd.underlying127 Tryd.underlying5 cellsU8 cellsTab h
  intro j hj
  have := ht.cell gTab j (by rw [List.length_map]; exact hj)
  rw [this]
  congr 2
  rw [List.getD_eq_getElem?_getD, List.getD_eq_getElem?_getD, List.getElem?_map]
  cases Lib.deBruijn64tab[j]? <;> rfl
theorem nat_u8 {x : Int} (h : (Lit.int .u8 x).wf = true) : ∃ n : Nat, x = (n : Int) ∧ n < 256 := by
  have := bounds_u8 h
  exact ⟨x.toNat, by omega, by omega⟩
theorem nat_u64 {x : Int} (h : (Lit.int .u64 x).wf = true) : ∃ n : Nat, x = (n : Int) ∧ W64 n := by
  have := bounds_u64 h
  refine ⟨x.toNat, by omega, ?_⟩
  unfold W64; omega
theorem bytes_open {H : Type} {enc : TypeId × Value → H} {W : World} {a : Option Addr} {len cap : Nat} {d : DataW H} {p : List MemPlace}
    (h : DataW.Trod enc Tryd.prog W 0 (fun _ => true) true 25 (Value.slice a len cap) d p)
    (hs : ∀ elems spare, d = .slice elems spare → elems.length + spare.length ≤ 140737488351232) : ∃ zs : List Nat, Byt W a len zs ∧ (a = none → cap = 0) ∧ len ≤ cap := by
  obtain ⟨fuel, hf⟩ := h
  rcases open_ints Tryd.underlying25 Tryd.underlying5 (by kernel_rfl) hf with ⟨hcs, _⟩ | ⟨x, l, c, zs, hcs, _, hl, hm, hz, hx, hcell, hwz⟩
  · simp [Value.cells] at hcs
    obtain ⟨rfl, rfl, rfl⟩ := hcs
    exact ⟨[], ⟨rfl, by omega, fun i => by simp, .inl rfl⟩, fun _ => rfl, Nat.le_refl _⟩
  · simp [Value.cells] at hcs
    obtain ⟨rfl, rfl, rfl⟩ := hcs
    have hd : d = .slice (lits .u8 (zs.take len)) (lits .u8 (zs.drop len)) := congrArg Prod.fst hx
    have hlen := hs _ _ hd
    have hzl : zs.length = cap := by simpa using hz
    have hb : ∀ n ∈ zs, 0 ≤ n ∧ n ≤ 255 := fun n hn => bounds_u8 (hwz n hn)
    have hg : ∀ i, i < len → ((((zs.take len).map Int.toNat).getD i 0 : Nat) : Int) = zs.getD i 0 := by
      intro i hi
      rw [List.getD_eq_getElem?_getD, List.getD_eq_getElem?_getD, List.getElem?_map, List.getElem?_take, if_pos hi, List.getElem?_eq_getElem (by omega)]
      have := hb zs[i] (List.getElem_mem _)
      simp only [Option.map_some, Option.getD_some]
      omega
    refine ⟨(zs.take len).map Int.toNat, ⟨by simp; omega, ?_, fun i => ?_, ?_⟩, (fun h => by cases h), hl⟩
    · simp only [lits, List.length_map, List.length_take, List.length_drop] at hlen; omega
    · rw [List.getD_eq_getElem?_getD, List.getElem?_map, List.getElem?_take]
      split
      · cases hi : zs[i]? with
        | none => simp
        | some y =>
          have := hb y (List.mem_of_getElem? hi)
          simp only [Option.map_some, Option.getD_some]; omega
      · simp
    · by_cases h0 : len = 0
      · exact .inl h0
      · obtain ⟨b, off, spot⟩ := x
        have hc := hcell 0 (by omega)
        have hspot : spot = none := by simpa [Addr.add] using World.cell?_spot hc
        subst hspot
        refine .inr ⟨b, off, rfl, ?_, fun i hi => ?_⟩
        · exact block_lt_of_cell (a := ⟨b, off, none⟩) (by simpa [Addr.add] using hc)
        · rw [hg i hi]
          have := hcell i (by omega)
          by_cases h1 : i = 0
          · subst h1; simpa [Addr.add] using this
          · simpa [Addr.add, h1] using this
noncomputable def laidWorld (os : Os) : World :=
  { World.holding Tryd.prog os ⟨#[], #[], []⟩ with heap := (World.holding Tryd.prog os ⟨#[], #[], []⟩).heap.modify 0 fun
      | .cells _ t frozen => .cells (Lib.deBruijn64tab.map fun n : Nat => Value.int .u8 (n : Int)).toArray t frozen
      | o => o }
end Go.Proofs.YtnbillhodbcfbaaDoor

/- A deal that came in by value, and a position: opened. -/
namespace Go.Proofs.YtnbillhodbcfbaaDoor
open Go.Joins Go.ChangeShapes Go.WideShapes Go.ChangeAt Go.RowKit Go.Deep

theorem okWide_array' {P : Program} {w : World} {r : Reach} {base : Nat} {t : TypeId} {v : Value} {n : Nat} {e : TypeId} (ht : P.underlying t = some (.array n e)) (h : Value.okWide P w r base t v) : ∃ cs, v = .agg cs ∧ cs.size = P.cellsOf t := by
  simp only [Value.okWide, ht] at h
  obtain ⟨cs, h1, h2, _⟩ := h
  exact ⟨cs, h1, h2⟩
/-- four words -/
theorem open_four {H : Type} {enc : TypeId × Value → H} {W : World} {n : Nat} {c0 c1 c2 c3 : Value} {y : DataW H × List MemPlace} (e0 : DataW.trod enc Tryd.prog W 0 (fun _ => true) true n 24 [c0, c1, c2, c3] = some y) :
    ∃ h : Nat → Nat, (∀ s, W64 (h s)) ∧ c0 = .int .u64 (h 0 : Int) ∧ c1 = .int .u64 (h 1 : Int) ∧ c2 = .int .u64 (h 2 : Int) ∧ c3 = .int .u64 (h 3 : Int) := by
  have kU : Tryd.prog.cellsOf 22 = 1 := by kernel_rfl
  obtain ⟨xs, m, _, hx, _, hxl, hga⟩ := DataW.trod_array Tryd.underlying24 e0
  have w : ∀ i c, i < 4 → [c0, c1, c2, c3][i]? = some c → ∃ k : Nat, c = .int .u64 (k : Int) ∧ W64 k := by
    intro i c hi hc
    have e := hga i hi
    rw [kU, Nat.mul_one] at e
    obtain ⟨z, hz⟩ : ∃ z, xs[i]? = some z := ⟨_, List.getElem?_eq_getElem (by omega)⟩
    have ed : ([c0, c1, c2, c3].drop i).take 1 = [c] := by
      rcases (show i = 0 ∨ i = 1 ∨ i = 2 ∨ i = 3 by omega) with rfl | rfl | rfl | rfl <;> (simp at hc; rw [← hc]; rfl)
    rw [ed, hz] at e
    obtain ⟨s, es, -, ws⟩ := DataW.trod_int Tryd.underlying22 e
    obtain rfl := (List.cons.inj es).1
    obtain ⟨k, rfl, hk⟩ := nat_u64 ws
    exact ⟨k, rfl, hk⟩
  obtain ⟨n0, rfl, b0⟩ := w 0 _ (by omega) rfl
  obtain ⟨n1, rfl, b1⟩ := w 1 _ (by omega) rfl
  obtain ⟨n2, rfl, b2⟩ := w 2 _ (by omega) rfl
  obtain ⟨n3, rfl, b3⟩ := w 3 _ (by omega) rfl
  refine ⟨fun j => [n0, n1, n2, n3].getD j 0, fun j => ?_, rfl, rfl, rfl, rfl⟩
  match j with
  | 0 => exact b0
  | 1 => exact b1
  | 2 => exact b2
  | 3 => exact b3
  | k + 4 => show W64 0; unfold W64; decide
theorem sized_parts {H : Type} {P : Program} {ts : List TypeId} {ds : List (DataW H)} (h : (DataW.weightsEach P ts ds).all (· ≤ reachBytes) = true) {j : Nat} {t : TypeId} {fs : Array Field} {parts : List (DataW H)} (ht : ts[j]? = some t) (hd : ds[j]? = some (.agg parts)) (hu : P.underlying t = some (.struct fs)) :
    (DataW.weightsEach P (fs.toList.map (·.type)) parts).all (· ≤ reachBytes) = true := by
  rw [List.all_eq_true] at h ⊢
  intro n hn
  exact h n (DataW.weights_mem_each ht hd n (by simpa [DataW.weights, hu] using hn))
set_option maxRecDepth 100000 in
theorem open_deal {H : Type} {enc : TypeId × Value → H} {W : World} {r : Reach} {b0 : Nat} {v : Value} {d : DataW H} {p : List MemPlace} (hv : Value.okWide Tryd.prog W r b0 24 v)
    (h : DataW.Trod enc Tryd.prog W 0 (fun _ => true) true 24 v d p) : ∃ h : Nat → Nat, (∀ s, W64 (h s)) ∧ v = .agg (deA h) := by
  obtain ⟨cs, rfl, hsz⟩ := okWide_array' Tryd.underlying24 hv
  have k4 : Tryd.prog.cellsOf 24 = 4 := by kernel_rfl
  rw [k4] at hsz
  obtain ⟨fuel, hf⟩ := h
  obtain ⟨l⟩ := cs
  match l, hsz with
  | [c0, c1, c2, c3], _ =>
    obtain ⟨h, hw, rfl, rfl, rfl, rfl⟩ := open_four (c0 := c0) (c1 := c1) (c2 := c2) (c3 := c3) hf
    exact ⟨h, hw, rfl⟩
/-- a field that is a slice of bytes -/
theorem slice_open15 {H : Type} {enc : TypeId × Value → H} {W : World} {n : Nat} {c : Value} {y : DataW H × List MemPlace} (h : DataW.trod enc Tryd.prog W 0 (fun _ => true) true n 25 [c] = some y)
    (hs : ∀ elems spare, y.1 = .slice elems spare → elems.length + spare.length ≤ 140737488351232) : ∃ a len cap, ∃ zs : List Nat, c = .slice a len cap ∧ Byt W a len zs := by
  have hc : ∃ a len cap, c = .slice a len cap := by
    rcases open_ints Tryd.underlying25 Tryd.underlying5 (by kernel_rfl) h with ⟨hcs, _⟩ | ⟨x, l, c', zs, hcs, _⟩
    · exact ⟨none, 0, 0, by simpa using hcs⟩
    · exact ⟨some x, l, c', by simpa using hcs⟩
  obtain ⟨a, len, cap, rfl⟩ := hc
  obtain ⟨zs, h1, _⟩ := bytes_open (d := y.1) (p := y.2) ⟨n, h⟩ hs
  exact ⟨a, len, cap, zs, rfl, h1⟩
set_option maxRecDepth 100000 in
theorem open_pos15 {H : Type} {enc : TypeId × Value → H} {W : World} {r : Reach} {b0 : Nat} {v : Value} {d : DataW H} {p : List MemPlace} (hv : Value.okWide Tryd.prog W r b0 27 v)
    (h : DataW.Trod enc Tryd.prog W 0 (fun _ => true) true 27 v d p) (hs : ∀ elems spare ps, d = .agg ps → ps[3]? = some (.slice elems spare) → elems.length + spare.length ≤ 140737488351232) :
    ∃ (h : Nat → Nat) (tr ld : Nat) (a : Option Addr) (cap : Nat) (ps : List Nat), (∀ s, W64 (h s)) ∧ tr < 256 ∧ ld < 256 ∧ v = .agg (posA h tr ld (.slice a ps.length cap)) ∧ Byt W a ps.length ps := by
  obtain ⟨cs, rfl, hsz⟩ := okWide_struct Tryd.underlying27 hv
  have h7 : Tryd.prog.cellsOf 27 = 7 := by kernel_rfl
  have k4 : Tryd.prog.cellsOf 24 = 4 := by kernel_rfl
  have k1 : Tryd.prog.cellsOf 5 = 1 := by kernel_rfl
  have kS : Tryd.prog.cellsOf 25 = 1 := by kernel_rfl
  rw [h7] at hsz
  obtain ⟨fuel, hf⟩ := h
  obtain ⟨ys, n, _, hy, _, hlen, hg⟩ := DataW.trod_struct Tryd.underlying27 hf
  simp only [Prod.mk.injEq] at hy
  obtain ⟨l⟩ := cs
  match l, hsz with
  | [c0, c1, c2, c3, c4, c5, c6], _ =>
    have g0 : DataW.trod enc Tryd.prog W 0 (fun _ => true) true n 24 ((([c0, c1, c2, c3, c4, c5, c6] : List Value).drop 0).take (Tryd.prog.cellsOf 24)) = ys[0]? := hg 0 _ rfl
    have g1 : DataW.trod enc Tryd.prog W 0 (fun _ => true) true n 5 ((([c0, c1, c2, c3, c4, c5, c6] : List Value).drop 4).take (Tryd.prog.cellsOf 5)) = ys[1]? := hg 1 _ rfl
    have g2 : DataW.trod enc Tryd.prog W 0 (fun _ => true) true n 5 ((([c0, c1, c2, c3, c4, c5, c6] : List Value).drop 5).take (Tryd.prog.cellsOf 5)) = ys[2]? := hg 2 _ rfl
    have g3 : DataW.trod enc Tryd.prog W 0 (fun _ => true) true n 25 ((([c0, c1, c2, c3, c4, c5, c6] : List Value).drop 6).take (Tryd.prog.cellsOf 25)) = ys[3]? := hg 3 _ rfl
    rw [k4] at g0
    rw [k1] at g1 g2
    rw [kS] at g3
    have hl4 : ys.length = 4 := hlen
    obtain ⟨y0, hy0⟩ : ∃ y, ys[0]? = some y := ⟨_, List.getElem?_eq_getElem (by omega)⟩
    obtain ⟨y1, hy1⟩ : ∃ y, ys[1]? = some y := ⟨_, List.getElem?_eq_getElem (by omega)⟩
    obtain ⟨y2, hy2⟩ : ∃ y, ys[2]? = some y := ⟨_, List.getElem?_eq_getElem (by omega)⟩
    obtain ⟨y3, hy3⟩ : ∃ y, ys[3]? = some y := ⟨_, List.getElem?_eq_getElem (by omega)⟩
    rw [hy0] at g0
    rw [hy1] at g1
    rw [hy2] at g2
    rw [hy3] at g3
    have e0 : DataW.trod enc Tryd.prog W 0 (fun _ => true) true n 24 [c0, c1, c2, c3] = some y0 := g0
    have e1 : DataW.trod enc Tryd.prog W 0 (fun _ => true) true n 5 [c4] = some y1 := g1
    have e2 : DataW.trod enc Tryd.prog W 0 (fun _ => true) true n 5 [c5] = some y2 := g2
    have e3 : DataW.trod enc Tryd.prog W 0 (fun _ => true) true n 25 [c6] = some y3 := g3
    clear g0 g1 g2 g3 hg
    obtain ⟨h, hw, rfl, rfl, rfl, rfl⟩ := open_four e0
    obtain ⟨s4, es, -, ws4⟩ := DataW.trod_int Tryd.underlying5 e1
    obtain rfl := (List.cons.inj es).1
    obtain ⟨n4, rfl, b4⟩ := nat_u8 ws4
    obtain ⟨s5, es, -, ws5⟩ := DataW.trod_int Tryd.underlying5 e2
    obtain rfl := (List.cons.inj es).1
    obtain ⟨n5, rfl, b5⟩ := nat_u8 ws5
    obtain ⟨a, len, cap, zs, rfl, hz⟩ := slice_open15 e3 (fun elems spare h => hs elems spare _ hy.1 (by rw [List.getElem?_map, hy3]; exact congrArg some h))
    have hl := hz.length
    subst hl
    exact ⟨h, n4, n5, a, cap, zs, hw, b4, b5, rfl, hz⟩
end Go.Proofs.YtnbillhodbcfbaaDoor
