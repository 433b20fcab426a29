/- The body of PlayTells returns true for every deal, contract and acts. -/
import Derived.Test.YtginbellakkliaaDoorRrH
import Derived.Test.YtginbellakkliaaDoorPyO
namespace Go.Proofs.YtginbellakkliaaDoor
open Go.RowKit Go.Shelf Go.Sort Go.Maps Go.WideMaps
attribute [local go_sem] Oper.semAt_some

set_option maxHeartbeats 2000000 in
set_option maxRecDepth 10000 in
theorem law_PlayTells (d : Nat → Nat) (hw : ∀ i, W64 (d i)) (hf : ∀ j, 4 ≤ j → d j = 0) (lv dn rk dc : Nat) (al : Option Addr) (ll cl : Nat) (zs : List AcP) (w : World) (hzl : ActsP w al ll zs) (hT : Tab w) :
    Calls Tryd.prog 9 #[.agg #[.int .u64 (d 0 : Int), .int .u64 (d 1 : Int), .int .u64 (d 2 : Int), .int .u64 (d 3 : Int)], .agg #[.int .u8 (lv : Int), .int .u8 (dn : Int), .int .u8 (rk : Int), .int .u8 (dc : Int)], .slice al ll cl] w fun e w' => e = .returned (.bool true) ∧ Below w.heap.size w w' := by
  have HPD := Lib.hid (fun (W : World) (hz : ActsP W al ll zs) (hTW : Tab W) => law12_played d hw hf lv dn rk dc al ll cl zs W hz hTW)
  have HT0 := Lib.hid hT
  have HAC := Lib.hid hzl
  have hsmall := hzl.small
  obtain ⟨DA, hDA⟩ : ∃ z : Array Value, #[.int .u64 (d 0 : Int), .int .u64 (d 1 : Int), .int .u64 (d 2 : Int), .int .u64 (d 3 : Int)] = z := ⟨_, rfl⟩
  obtain ⟨CA, hCA⟩ : ∃ z : Array Value, #[.int .u8 (lv : Int), .int .u8 (dn : Int), .int .u8 (rk : Int), .int .u8 (dc : Int)] = z := ⟨_, rfl⟩
  have HDZ : Hid (DA.size = 4) := Lib.hid (by rw [← hDA]; rfl)
  have HCZ : Hid (CA.size = 4) := Lib.hid (by rw [← hCA]; rfl)
  rw [hDA, hCA] at HPD
  rw [hDA, hCA]
  clear hDA hCA hzl hT hw hf
  have hz1 := Row.new (w.alloc (.cells DA 26)) 28 CA
  rw [show (w.alloc (.cells DA 26)).heap.size = w.heap.size + 1 by simp] at hz1
  have HRD := Lib.hid ((Row.new w 26 DA).alloc (.cells CA 28))
  have HRC := Lib.hid hz1
  have HB := Lib.hid (((Below.refl w.heap.size w).alloc (Nat.le_refl _) (.cells DA 26)).alloc (by simp) (.cells CA 28))
  clear hz1
  go_enter Tryd.func9, Tryd.ntmps9
  go_upto_region 1 with fail
  show Code.wp _ _ _ _ ((w.alloc (.cells DA 26)).alloc (.cells CA 28))
  generalize (w.alloc (.cells DA 26)).alloc (.cells CA 28) = w1 at *
  obtain ⟨b3, hb3⟩ : ∃ b, w.heap.size = b := ⟨_, rfl⟩
  obtain ⟨b4, hb4⟩ : ∃ x, w.heap.size + 1 = x := ⟨_, rfl⟩
  rw [hb4] at HRC ⊢
  rw [hb3] at HRD ⊢
  clear hb3 hb4
  by_cases h80 : 80 < ll
  · have hd : decide ((ll : Int) > 80) = true := by rw [decide_eq_true_eq]; omega
    clear h80
    go_wp2_with fail
    refine (law12_awake w1 (HT0.out.below HT0.out.pos HB.out)).mono ?_
    rintro e w2 ⟨rfl, hb2⟩
    have HB2 := Lib.hid (HB.out.trans (hb2.mono HB.out.size))
    clear hb2
    go_wp2_with fail
    go_ret
    exact ⟨rfl, HB2.out⟩
  · have hd : decide ((ll : Int) > 80) = false := by rw [decide_eq_false_iff_not]; omega
    clear h80
    go_wp2_with (first
      | refine load_row_g (by rfl) 26 (.tmp 3) rfl b3 rfl 26 DA (0, 0) _ HRD.out Tryd.underlying26 rfl (by rw [HDZ.out]; exact size_dealN) ?_
      | refine load_row_g (by rfl) 28 (.tmp 4) rfl b4 rfl 28 CA (0, 0) _ HRC.out Tryd.underlying28 rfl (by rw [HCZ.out]; exact size_contrN) ?_)
    refine (HPD.out w1 (HAC.out.below HB.out) (HT0.out.below HT0.out.pos HB.out)).mono ?_
    rintro e w2 ⟨rfl, hb2⟩
    have HB2 := Lib.hid (HB.out.trans (hb2.mono HB.out.size))
    clear hb2
    go_wp2_with fail
    refine (law12_awake w2 (HT0.out.below HT0.out.pos HB2.out)).mono ?_
    rintro e w3 ⟨rfl, hb3⟩
    have HB3 := Lib.hid (HB2.out.trans (hb3.mono HB2.out.size))
    clear hb3
    go_wp2_with fail
    go_ret
    exact ⟨rfl, HB3.out⟩
end Go.Proofs.YtginbellakkliaaDoor
