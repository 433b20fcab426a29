/- What the frame of PlayTells wants besides FrBase: acts, a contract and a deal that came in. -/
import Derived.Test.YtginbellakkliaaDoorFrBase
import Derived.Test.YtginbellakkliaaDoorMRrh
import Derived.Lib.SmallJoins
namespace Go.Proofs.YtginbellakkliaaDoor
open Go.Joins Go.ChangeShapes Go.WideShapes Go.ChangeAt Go.RowKit Go.Deep

theorem okWide_array' {P : Program} {w : World} {r : Reach} {base : Nat} {t : TypeId} {v : Value} {n : Nat} {e : TypeId} (ht : P.underlying t = some (.array n e)) (h : Value.okWide P w r base t v) : ∃ cs, v = .agg cs ∧ cs.size = P.cellsOf t := by
  simp only [Value.okWide, ht] at h
  obtain ⟨cs, h1, h2, _⟩ := h
  exact ⟨cs, h1, h2⟩
/-- four words -/
theorem open_four {H : Type} {enc : TypeId × Value → H} {W : World} {n : Nat} {c0 c1 c2 c3 : Value} {y : DataW H × List MemPlace} (e0 : DataW.trod enc Tryd.prog W 0 (fun _ => true) true n 26 [c0, c1, c2, c3] = some y) :
    ∃ h : Nat → Nat, (∀ s, W64 (h s)) ∧ (∀ j, 4 ≤ j → h j = 0) ∧ c0 = .int .u64 (h 0 : Int) ∧ c1 = .int .u64 (h 1 : Int) ∧ c2 = .int .u64 (h 2 : Int) ∧ c3 = .int .u64 (h 3 : Int) := by
  have kU : Tryd.prog.cellsOf 24 = 1 := by kernel_rfl
  obtain ⟨xs, m, _, hx, _, hxl, hga⟩ := DataW.trod_array Tryd.underlying26 e0
  have w : ∀ i c, i < 4 → [c0, c1, c2, c3][i]? = some c → ∃ k : Nat, c = .int .u64 (k : Int) ∧ W64 k := by
    intro i c hi hc
    have e := hga i hi
    rw [kU, Nat.mul_one] at e
    obtain ⟨z, hz⟩ : ∃ z, xs[i]? = some z := ⟨_, List.getElem?_eq_getElem (by omega)⟩
    have ed : ([c0, c1, c2, c3].drop i).take 1 = [c] := by
      rcases (show i = 0 ∨ i = 1 ∨ i = 2 ∨ i = 3 by omega) with rfl | rfl | rfl | rfl <;> (simp at hc; rw [← hc]; rfl)
    rw [ed, hz] at e
    obtain ⟨s, es, -, ws⟩ := DataW.trod_int Tryd.underlying24 e
    obtain rfl := (List.cons.inj es).1
    obtain ⟨k, rfl, hk⟩ := nat_u64 ws
    exact ⟨k, rfl, hk⟩
  obtain ⟨n0, rfl, b0⟩ := w 0 _ (by omega) rfl
  obtain ⟨n1, rfl, b1⟩ := w 1 _ (by omega) rfl
  obtain ⟨n2, rfl, b2⟩ := w 2 _ (by omega) rfl
  obtain ⟨n3, rfl, b3⟩ := w 3 _ (by omega) rfl
  refine ⟨fun j => [n0, n1, n2, n3].getD j 0, fun j => ?_, fun j hj => by show [n0, n1, n2, n3].getD j 0 = 0; rw [List.getD_eq_getElem?_getD, List.getElem?_eq_none (by simpa using hj)]; rfl, rfl, rfl, rfl, rfl⟩
  match j with
  | 0 => exact b0
  | 1 => exact b1
  | 2 => exact b2
  | 3 => exact b3
  | k + 4 => show W64 0; unfold W64; decide
set_option maxRecDepth 100000 in
theorem open_deal {H : Type} {enc : TypeId × Value → H} {W : World} {r : Reach} {b0 : Nat} {v : Value} {d : DataW H} {p : List MemPlace} (hv : Value.okWide Tryd.prog W r b0 26 v)
    (h : DataW.Trod enc Tryd.prog W 0 (fun _ => true) true 26 v d p) : ∃ h : Nat → Nat, (∀ s, W64 (h s)) ∧ (∀ j, 4 ≤ j → h j = 0) ∧ v = .agg (arr4 h) := by
  obtain ⟨cs, rfl, hsz⟩ := okWide_array' Tryd.underlying26 hv
  have k4 : Tryd.prog.cellsOf 26 = 4 := by kernel_rfl
  rw [k4] at hsz
  obtain ⟨fuel, hf⟩ := h
  obtain ⟨l⟩ := cs
  match l, hsz with
  | [c0, c1, c2, c3], _ =>
    obtain ⟨h, hw, hf4, rfl, rfl, rfl, rfl⟩ := open_four (c0 := c0) (c1 := c1) (c2 := c2) (c3 := c3) hf
    exact ⟨h, hw, hf4, rfl⟩
theorem open_fields {H : Type} {enc : TypeId × Value → H} {P : Program} {w : World} {base : Nat} {spare : Nat → Bool} {held : Bool} {r : Reach} {b0 : Nat} {t : TypeId} {fs : Array Field} {v : Value} {d : DataW H} {p : List MemPlace}
    (hs : P.underlying t = some (.struct fs)) (hone : oneCellFields P fs = true) (hC : P.cellsOf t = fs.size) (hv : Value.okWide P w r b0 t v) (h : DataW.Trod enc P w base spare held t v d p) :
    ∃ (cs : Array Value) (ys : List (DataW H × List MemPlace)) (n : Nat), v = .agg cs ∧ cs.size = fs.size ∧ d = .agg (ys.map (·.1)) ∧ p = ys.flatMap (·.2) ∧ ys.length = fs.size ∧
      ∀ (j : Nat) (f : Field), fs[j]? = some f → ∃ c y, cs[j]? = some c ∧ ys[j]? = some y ∧ DataW.trod enc P w base spare held n f.type [c] = some y := by
  obtain ⟨cs, rfl, hsz⟩ := okWide_struct hs hv
  obtain ⟨fuel, hf⟩ := h
  obtain ⟨ys, n, _, hy, _, hlen, hg⟩ := DataW.trod_struct hs hf
  simp only [Prod.mk.injEq] at hy
  refine ⟨cs, ys, n, rfl, by rw [hsz, hC], hy.1, hy.2, hlen, fun j f hj => ?_⟩
  have hjl : j < fs.size := (Array.getElem?_eq_some_iff.1 hj).1
  have hjc : j < cs.size := by rw [hsz, hC]; exact hjl
  obtain ⟨o, k⟩ := hone_of hone j f hj
  have h1 := hg j f hj
  have hys : ys[j]? = some (ys[j]'(by omega)) := List.getElem?_eq_getElem (by omega)
  refine ⟨cs[j], _, Array.getElem?_eq_getElem hjc, hys, ?_⟩
  rw [o, k] at h1
  have hd : (cs.toList.drop j).take 1 = [cs[j]] := by
    rw [List.drop_eq_getElem_cons (by simpa using hjc)]
    simp
  simp only [Value.cells, hd] at h1
  rw [← hys]; exact h1
theorem sized_parts {H : Type} {P : Program} {ts : List TypeId} {ds : List (DataW H)} (h : (DataW.weightsEach P ts ds).all (· ≤ reachBytes) = true) {j : Nat} {t : TypeId} {fs : Array Field} {parts : List (DataW H)} (ht : ts[j]? = some t) (hd : ds[j]? = some (.agg parts)) (hu : P.underlying t = some (.struct fs)) :
    (DataW.weightsEach P (fs.toList.map (·.type)) parts).all (· ≤ reachBytes) = true := by
  rw [List.all_eq_true] at h ⊢
  intro n hn
  exact h n (DataW.weights_mem_each ht hd n (by simpa [DataW.weights, hu] using hn))
/-- a list out of its members -/
theorem list_of {α : Type} (n : Nat) (q : Nat → α → Prop) (h : ∀ i, i < n → ∃ x, q i x) : ∃ l : List α, l.length = n ∧ ∀ i x, l[i]? = some x → q i x := by
  induction n with
  | zero => exact ⟨[], rfl, fun i x hx => by simp at hx⟩
  | succ n ih =>
    obtain ⟨l, hl, hq⟩ := ih fun i hi => h i (by omega)
    obtain ⟨x, hx⟩ := h n (by omega)
    refine ⟨l ++ [x], by simp [hl], fun i y hy => ?_⟩
    by_cases e : i < l.length
    · rw [List.getElem?_append_left e] at hy
      exact hq i y hy
    · have hi : i < (l ++ [x]).length := (List.getElem?_eq_some_iff.1 hy).1
      obtain rfl : i = n := by simp at hi; omega
      rw [List.getElem?_append_right (by omega), hl] at hy
      simp at hy
      rw [← hy]; exact hx

set_option maxRecDepth 100000 in
theorem open_contr {H : Type} {enc : TypeId × Value → H} {W : World} {r : Reach} {b0 : Nat} {v : Value} {d : DataW H} {p : List MemPlace} (hv : Value.okWide Tryd.prog W r b0 28 v)
    (h : DataW.Trod enc Tryd.prog W 0 (fun _ => true) true 28 v d p) :
    ∃ lv dn rk dc : Nat, v = .agg #[.int .u8 (lv : Int), .int .u8 (dn : Int), .int .u8 (rk : Int), .int .u8 (dc : Int)] := by
  obtain ⟨cs, ys, n, rfl, hcs, hd, hpp, hyl, hf⟩ := open_fields Tryd.underlying28 (by kernel_rfl) (by kernel_rfl) hv h
  obtain ⟨c0, z0, hc0, hy0, t0⟩ := hf 0 _ rfl
  obtain ⟨c1, z1, hc1, hy1, t1⟩ := hf 1 _ rfl
  obtain ⟨c2, z2, hc2, hy2, t2⟩ := hf 2 _ rfl
  obtain ⟨c3, z3, hc3, hy3, t3⟩ := hf 3 _ rfl
  obtain ⟨s0, e0, -, ww0⟩ := DataW.trod_int Tryd.underlying5 t0
  obtain rfl := (List.cons.inj e0).1
  obtain ⟨n0, rfl, bb0⟩ := nat_u8 ww0
  obtain ⟨s1, e1, -, ww1⟩ := DataW.trod_int Tryd.underlying5 t1
  obtain rfl := (List.cons.inj e1).1
  obtain ⟨n1, rfl, bb1⟩ := nat_u8 ww1
  obtain ⟨s2, e2, -, ww2⟩ := DataW.trod_int Tryd.underlying5 t2
  obtain rfl := (List.cons.inj e2).1
  obtain ⟨n2, rfl, bb2⟩ := nat_u8 ww2
  obtain ⟨s3, e3, -, ww3⟩ := DataW.trod_int Tryd.underlying5 t3
  obtain rfl := (List.cons.inj e3).1
  obtain ⟨n3, rfl, bb3⟩ := nat_u8 ww3
  have hcsE : cs = #[.int .u8 (n0 : Int), .int .u8 (n1 : Int), .int .u8 (n2 : Int), .int .u8 (n3 : Int)] := by
    obtain ⟨l⟩ := cs
    match l, hcs with
    | [_, _, _, _], _ =>
      simp at hc0 hc1 hc2 hc3
      rw [hc0, hc1, hc2, hc3]
  subst hcsE
  exact ⟨n0, n1, n2, n3, rfl⟩
set_option maxRecDepth 100000 in
theorem bytes_act : Tryd.prog.bytesOf 77 = 2 := by kernel_rfl
set_option maxRecDepth 100000 in
theorem act_cells {H : Type} {enc : TypeId × Value → H} {W : World} {fuel : Nat} {cs : List Value} {y : DataW H × List MemPlace} (h : DataW.trod enc Tryd.prog W 0 (fun _ => true) true fuel 77 cs = some y) :
    ∃ x : AcP, x.ok ∧ cs = x.cells.toList := by
  obtain ⟨ys, n, _, hy, hcs, hlen, hg⟩ := DataW.trod_struct Tryd.underlying77 h
  have h3 : Tryd.prog.cellsOf 77 = 2 := by kernel_rfl
  have k1 : Tryd.prog.cellsOf 5 = 1 := by kernel_rfl
  rw [h3] at hcs
  match cs, hcs with
  | [c0, c1], _ =>
    have g0 : DataW.trod enc Tryd.prog W 0 (fun _ => true) true n 5 ((([c0, c1] : List Value).drop 0).take (Tryd.prog.cellsOf 5)) = ys[0]? := hg 0 _ rfl
    have g1 : DataW.trod enc Tryd.prog W 0 (fun _ => true) true n 5 ((([c0, c1] : List Value).drop 1).take (Tryd.prog.cellsOf 5)) = ys[1]? := hg 1 _ rfl
    rw [k1] at g0 g1
    have hl3 : ys.length = 2 := hlen
    obtain ⟨y0, hy0⟩ : ∃ y, ys[0]? = some y := ⟨_, List.getElem?_eq_getElem (by omega)⟩
    obtain ⟨y1, hy1⟩ : ∃ y, ys[1]? = some y := ⟨_, List.getElem?_eq_getElem (by omega)⟩
    rw [hy0] at g0
    rw [hy1] at g1
    obtain ⟨s0, e0, -, ww0⟩ := DataW.trod_int Tryd.underlying5 (show DataW.trod enc Tryd.prog W 0 (fun _ => true) true n 5 [c0] = some y0 from g0)
    obtain rfl := (List.cons.inj e0).1
    obtain ⟨n0, rfl, bb0⟩ := nat_u8 ww0
    obtain ⟨s1, e1, -, ww1⟩ := DataW.trod_int Tryd.underlying5 (show DataW.trod enc Tryd.prog W 0 (fun _ => true) true n 5 [c1] = some y1 from g1)
    obtain rfl := (List.cons.inj e1).1
    obtain ⟨n1, rfl, bb1⟩ := nat_u8 ww1
    exact ⟨⟨n0, n1⟩, ⟨bb0, bb1⟩, rfl⟩
set_option maxRecDepth 100000 in
theorem open_acts {H : Type} {enc : TypeId × Value → H} {W : World} {a : Option Addr} {len cap : Nat} {d : DataW H} {p : List MemPlace}
    (h : DataW.Trod enc Tryd.prog W 0 (fun _ => true) true 66 (Value.slice a len cap) d p)
    (hs : ∀ elems spare, d = .slice elems spare → elems.length + spare.length ≤ 562949953421312) : ∃ cs : List AcP, ActsP W a len cs ∧ len ≤ cap := by
  obtain ⟨fuel, hf⟩ := h
  rcases open_slice Tryd.underlying66 hf with ⟨hcs, _⟩ | ⟨x, l, c, m, n, D, Pl, hcs, hb, hl, hm, hmm, hx, hi⟩
  · simp [Value.cells] at hcs
    obtain ⟨rfl, rfl, rfl⟩ := hcs
    exact ⟨[], ⟨rfl, by omega, fun i x hx => by simp at hx, .inl rfl⟩, Nat.le_refl _⟩
  · simp [Value.cells] at hcs
    obtain ⟨rfl, rfl, rfl⟩ := hcs
    have h3 : Tryd.prog.cellsOf 77 = 2 := by kernel_rfl
    have hd : d = .slice ((List.range len).map D) ((List.range (m - len)).map fun j => D (len + j)) := congrArg Prod.fst hx
    have hlen := hs _ _ hd
    simp only [List.length_map, List.length_range] at hlen
    obtain rfl : m = cap := by simpa using hmm
    obtain ⟨cs, hcl, hcc⟩ := list_of len (fun i (q : AcP) => q.ok ∧ ∀ j, j < 2 → W.cell? (x.add (i * 2 + j)) = q.cells[j]?) (fun i hil => by
      obtain ⟨cs', hc, ht⟩ := hi i (by omega)
      rw [h3] at hc
      obtain ⟨_, hl', hat⟩ := World.cells?_some hc
      obtain ⟨q, hq, h2⟩ := act_cells ht
      refine ⟨q, hq, fun j hj => ?_⟩
      rw [← Go.Deep.add_add, hat j hj, h2, Array.getElem?_toList])
    refine ⟨cs, ⟨hcl, by omega, fun i q hq => (hcc i q hq).1, ?_⟩, hl⟩
    by_cases h0 : len = 0
    · exact .inl h0
    · obtain ⟨b, off, spot⟩ := x
      obtain ⟨c0, hc0⟩ : ∃ c, cs[0]? = some c := ⟨_, List.getElem?_eq_getElem (by omega)⟩
      have hz : W.cell? (Addr.add ⟨b, off, spot⟩ (0 * 2 + 0)) = some (.int .u8 (c0.kind : Int)) := (hcc 0 c0 hc0).2 0 (by decide)
      have hspot : spot = none := by simpa [Addr.add] using World.cell?_spot hz
      subst hspot
      refine .inr ⟨b, off, rfl, block_lt_of_cell (a := ⟨b, off, none⟩) (by simpa [Addr.add] using hz), fun i c hc j hj => ?_⟩
      have := (hcc i c hc).2 j hj
      by_cases e : i * 2 + j = 0
      · have e1 : i = 0 := by omega
        have e2 : j = 0 := by omega
        subst e1 e2
        simpa [Addr.add] using this
      · rw [show off + i * 2 + j = off + (i * 2 + j) by omega]
        have h2 : Addr.add ⟨b, off, none⟩ (i * 2 + j) = ⟨b, off + (i * 2 + j), none⟩ := by unfold Addr.add; rw [if_neg e]
        rwa [h2] at this
end Go.Proofs.YtginbellakkliaaDoor
