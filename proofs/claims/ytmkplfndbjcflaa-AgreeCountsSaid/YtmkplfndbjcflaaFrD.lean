/- Slices of bytes opened (for frames of plain rows of this seat). -/
import Derived.Test.YtmkplfndbjcflaaFrC
import Derived.Test.YtmkplfndbjcflaaByt
namespace Go.Proofs.Ytmkplfndbjcflaa
open Go.Joins Go.ChangeShapes Go.WideShapes Go.ChangeAt Go.RowKit Go.Deep

theorem bytes_u8 : Try.prog.bytesOf 5 = 1 := by kernel_rfl
theorem bytes_open {H : Type} {enc : TypeId × Value → H} {W : World} {a : Option Addr} {len cap : Nat} {d : DataW H} {p : List MemPlace}
    (h : DataW.Trod enc Try.prog W 0 (fun _ => true) true 59 (Value.slice a len cap) d p)
    (hs : ∀ elems spare, d = .slice elems spare → elems.length + spare.length ≤ 140737488351232) : ∃ zs : List Nat, Byt W a len zs ∧ (a = none → cap = 0) ∧ len ≤ cap := by
  obtain ⟨fuel, hf⟩ := h
  rcases open_ints Try.underlying59 Try.underlying5 (by kernel_rfl) hf with ⟨hcs, _⟩ | ⟨x, l, c, zs, hcs, _, hl, hm, hz, hx, hcell, hwz⟩
  · simp [Value.cells] at hcs
    obtain ⟨rfl, rfl, rfl⟩ := hcs
    exact ⟨[], ⟨rfl, by omega, fun i => by simp, .inl rfl⟩, fun _ => rfl, Nat.le_refl _⟩
  · simp [Value.cells] at hcs
    obtain ⟨rfl, rfl, rfl⟩ := hcs
    have hd : d = .slice (lits .u8 (zs.take len)) (lits .u8 (zs.drop len)) := congrArg Prod.fst hx
    have hlen := hs _ _ hd
    have hzl : zs.length = cap := by simpa using hz
    have hb : ∀ n ∈ zs, 0 ≤ n ∧ n ≤ 255 := fun n hn => bounds_u8 (hwz n hn)
    have hg : ∀ i, i < len → ((((zs.take len).map Int.toNat).getD i 0 : Nat) : Int) = zs.getD i 0 := by
      intro i hi
      rw [List.getD_eq_getElem?_getD, List.getD_eq_getElem?_getD, List.getElem?_map, List.getElem?_take, if_pos hi, List.getElem?_eq_getElem (by omega)]
      have := hb zs[i] (List.getElem_mem _)
      simp only [Option.map_some, Option.getD_some]
      omega
    refine ⟨(zs.take len).map Int.toNat, ⟨by simp; omega, ?_, fun i => ?_, ?_⟩, (fun h => by cases h), hl⟩
    · simp only [lits, List.length_map, List.length_take, List.length_drop] at hlen; omega
    · rw [List.getD_eq_getElem?_getD, List.getElem?_map, List.getElem?_take]
      split
      · cases hi : zs[i]? with
        | none => simp
        | some y =>
          have := hb y (List.mem_of_getElem? hi)
          simp only [Option.map_some, Option.getD_some]; omega
      · simp
    · by_cases h0 : len = 0
      · exact .inl h0
      · obtain ⟨b, off, spot⟩ := x
        have hc := hcell 0 (by omega)
        have hspot : spot = none := by simpa [Addr.add] using World.cell?_spot hc
        subst hspot
        refine .inr ⟨b, off, rfl, ?_, fun i hi => ?_⟩
        · exact block_lt_of_cell (a := ⟨b, off, none⟩) (by simpa [Addr.add] using hc)
        · rw [hg i hi]
          have := hcell i (by omega)
          by_cases h1 : i = 0
          · subst h1; simpa [Addr.add] using this
          · simpa [Addr.add, h1] using this
end Go.Proofs.Ytmkplfndbjcflaa
