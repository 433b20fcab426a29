/- ClaimTells over this seat's program. -/
import Derived.Test.YtnbillhodbcfbaaDoorCrJ
namespace Go.Proofs.YtnbillhodbcfbaaDoor
open Go.RowKit Go.Sort Go.Shelf Go.Maps Go.WideMaps

set_option maxHeartbeats 4000000 in
set_option maxRecDepth 10000 in
theorem law_ClaimTells (h : Nat → Nat) (tr ld : Nat) (a : Option Addr) (cap : Nat) (ps : List Nat) (sd : Nat) (tk : Int) (la : Option Addr) (nl lcap : Nat) (ln : List Nat) (w : World) (hw : ∀ s, W64 (h s)) (htr : tr < 256) (hld : ld < 256) (hz : Byt w a ps.length ps) (hsd : sd < 256) (_ : -9223372036854775808 ≤ tk ∧ tk ≤ 9223372036854775807) (hl : Byt w la nl ln) (hT : Tab w) :
    Calls Tryd.prog 5 #[.agg (posA h tr ld (.slice a ps.length cap)), .int .u8 (sd : Int), .int .i64 tk, .slice la nl lcap] w fun e w' => e = .returned (.bool true) ∧ Below w.heap.size w w' := by
  have HT := Lib.hid hT
  have HYZ := Lib.hid hz
  have HLY := Lib.hid hl
  have hnl := hl.length
  have HFE := Lib.hid (fun W hzW => law16_few h tr ld ps a cap W hw htr hld hzW la nl lcap hl.small)
  have HTE := Lib.hid (fun W hzW (hlW : Byt W la ln.length ln) hTW h8 (h60 : ln.length ≤ 60) (h3 : rightB h tr ld ps = true → ∀ s, s < 4 → pop (h s) ≤ 3) => law16_tells h tr ld ps a cap sd tk ln la lcap W hw htr hld hsd hzW hlW hTW h8 h60 (fun hr => Nat.le_trans (h3 hr _ (Nat.mod_lt _ (by decide))) (by decide)))
  rw [hnl] at HTE
  have HR0 := Lib.hid (Row.new w 27 (posA h tr ld (.slice a ps.length cap)))
  have HB0 := Lib.hid ((Below.refl w.heap.size w).alloc (Nat.le_refl _) (.cells (posA h tr ld (.slice a ps.length cap)) 27))
  have HPZ : Hid ((posA h tr ld (.slice a ps.length cap)).size = 7) := Lib.hid rfl
  have HTEL := Lib.hid HTE.out
  unfold posA at HTEL
  have HPC : Hid (∀ W, Row W w.heap.size 27 (posA h tr ld (.slice a ps.length cap)) → W.cell? ⟨w.heap.size, 0, none⟩ = some (.int .u64 (h 0 : Int)) ∧ W.cell? ⟨w.heap.size, 1, none⟩ = some (.int .u64 (h 1 : Int)) ∧ W.cell? ⟨w.heap.size, 2, none⟩ = some (.int .u64 (h 2 : Int)) ∧ W.cell? ⟨w.heap.size, 3, none⟩ = some (.int .u64 (h 3 : Int)) ∧ W.cell? ⟨w.heap.size, 4, none⟩ = some (.int .u8 (tr : Int)) ∧ W.cell? ⟨w.heap.size, 5, none⟩ = some (.int .u8 (ld : Int)) ∧ W.cell? ⟨w.heap.size, 6, none⟩ = some (.slice a ps.length cap)) :=
    Lib.hid (fun W h => ⟨h.cell 0, h.cell 1, h.cell 2, h.cell 3, h.cell 4, h.cell 5, h.cell 6⟩)
  clear hw htr hld hz hT hsd hl hnl
  go_enter Tryd.func5, Tryd.ntmps5
  go_upto_region 1 with fail
  generalize w.alloc (.cells (posA h tr ld (.slice a ps.length cap)) 27) = w1 at *
  obtain ⟨b2, hb2⟩ : ∃ b, w.heap.size = b := ⟨_, rfl⟩
  rw [hb2] at HR0 HPC ⊢
  clear hb2
  go_wp2_with (refine wpList_load_row rfl 27 (.tmp 4) rfl b2 rfl 27 (posA h tr ld (.slice a ps.length cap)) (0, 0) _ HR0.out Tryd.underlying27 rfl (by rw [HPZ.out]; exact size_pos) ?_)
  refine (HFE.out w1 (HYZ.out.below (Nat.le_refl _) HB0.out)).mono ?_
  rintro e w2 ⟨d, rfl, hd, hb2⟩
  have HB2 := Lib.hid (HB0.out.trans (hb2.mono HB0.out.size))
  have HR2 := Lib.hid (HR0.out.later hb2)
  have HD := Lib.hid hd
  clear hb2 hd
  cases d
  · have HT2 := Lib.hid (HT.out.below HT.out.pos HB2.out)
    go_wp2_with fail
    refine (cl_awake _ HT2.out).mono ?_
    rintro e w6 ⟨rfl, hb6⟩
    have HB6 := Lib.hid (HB2.out.trans (hb6.mono HB2.out.size))
    clear hb6
    go_wp2_with fail
    go_ret
    exact ⟨rfl, HB6.out⟩
  · obtain ⟨c0, c1, c2, c3, c4, c5, c6⟩ := HPC.out w2 HR2.out
    have HT2 := Lib.hid (HT.out.below HT.out.pos HB2.out)
    have HNL := Lib.hid HLY.out.length
    go_wp2_with fail
    refine (HTEL.out w2 (HYZ.out.below (Nat.le_refl _) HB2.out) (by first | exact HLY.out.below (Nat.le_refl _) HB2.out | (rw [HNL.out]; exact HLY.out.below (Nat.le_refl _) HB2.out)) HT2.out (HD.out (by trivial)).1 (by first | exact (HD.out (by trivial)).2.1 | (rw [HNL.out]; exact (HD.out (by trivial)).2.1)) (HD.out (by trivial)).2.2).mono ?_
    rintro e w3 ⟨rfl, hb3⟩
    have HB3 := Lib.hid (HB2.out.trans (hb3.mono HB2.out.size))
    have HT3 := Lib.hid (HT2.out.below HT2.out.pos hb3)
    clear hb3 c0 c1 c2 c3 c4 c5 c6
    go_wp2_with fail
    refine (cl_awake _ HT3.out).mono ?_
    rintro e w6 ⟨rfl, hb6⟩
    have HB6 := Lib.hid (HB3.out.trans (hb6.mono HB3.out.size))
    clear hb6
    go_wp2_with fail
    go_ret
    exact ⟨rfl, HB6.out⟩
end Go.Proofs.YtnbillhodbcfbaaDoor
