/- finesselaw14.LeadTells over this seat's program. -/
import Derived.Test.YtgnlmodaekfhfaaDoorLfN
import Derived.Test.YtgnlmodaekfhfaaDoorMLdx
namespace Go.Proofs.YtgnlmodaekfhfaaDoor
open Go.RowKit Go.Shelf Go.Sort

set_option maxHeartbeats 1000000 in
theorem law_LeadTells (d : Nat → Nat) (tm dc : Nat) (al : Option Addr) (ll cl : Nat) (zs : List AcT) (w : World) (hd : ∀ i, W64 (d i)) (htm : tm < 256) (hdc : dc < 256) (hzl : Acts w al ll zs) (_ : ll ≤ cl) (hT : Tab w) :
    Calls Tryd.prog 8 #[.agg (arr4 d), .int .u8 (tm : Int), .int .u8 (dc : Int), .slice al ll cl] w fun e w' => e = .returned (.bool true) ∧ Below w.heap.size w w' := by
  have HT0 := Lib.hid hT
  have HTL := Lib.hid (fun (W : World) (hb : Below w.heap.size w W) => law_tells14 d hd tm dc htm hdc al ll cl zs W (hzl.below hb) (hT.below hT.pos hb))
  have HAW := Lib.hid (fun (W : World) (hb : Below w.heap.size w W) => law_awake14 W (hT.below hT.pos hb))
  obtain ⟨DA, hDA⟩ : ∃ DA, DA = arr4 d := ⟨_, rfl⟩
  have HDZ : Hid ((Tryd.prog.info? 29).map (·.size) = some DA.size) := Lib.hid (by rw [hDA]; exact size_deal14)
  have hda : #[.int .u64 (d 0 : Int), .int .u64 (d 1 : Int), .int .u64 (d 2 : Int), .int .u64 (d 3 : Int)] = DA := hDA.symm
  rw [hda] at HTL
  rw [← hDA]
  clear hda hDA hzl hT
  have hB0 := (Below.refl w.heap.size w).alloc (Nat.le_refl _) (.cells DA 29)
  have hD0 : Row (w.alloc (.cells DA 29)) w.heap.size 29 DA := Row.new _ _ _
  go_enter Tryd.func8, Tryd.ntmps8
  go_upto_region 1 with fail
  generalize w.alloc (.cells DA 29) = w1 at *
  obtain ⟨bD, hbD⟩ : ∃ b, w.heap.size = b := ⟨_, rfl⟩
  rw [hbD] at hD0 ⊢
  clear hbD
  go_wp2_with (refine wpList_load_row rfl 29 (.tmp 4) rfl bD rfl 29 DA (0, 0) _ hD0 Tryd.underlying29 rfl HDZ.out ?_)
  refine (HTL.out w1 hB0).mono ?_
  rintro e w2 ⟨rfl, hb2⟩
  have hB2 := hB0.trans (hb2.mono hB0.size)
  go_wp2_with fail
  refine (HAW.out w2 hB2).mono ?_
  rintro e w3 ⟨rfl, hb3⟩
  have hB3 := hB2.trans (hb3.mono hB2.size)
  go_wp2_with fail
  go_ret
  exact ⟨rfl, hB3⟩
end Go.Proofs.YtgnlmodaekfhfaaDoor
