/- Plain: the record of a sketch: dealt, played right to its end. finesselaw13.Made whole. -/
import Derived.Test.YtdlnilebnobllaaRvPm3
namespace Go.Proofs.Ytdlnilebnobllaa
open Go.RowKit Go.Shelf Go.Sort

theorem made_pop (x : Sk) : ∀ j, j < 4 → pop ((x.dealN (4 * x.n)).h j) = x.n := fun j hj => by
  rw [(deal_ok x (4 * x.n) (by have := x.n_le; omega)).pop j hj]; omega
theorem made_play (x : Sk) : ∀ k, k ≤ 4 * x.n → PlayOk (x.trumps % 5) x.n (x.dealN (4 * x.n)).h ((x.decl % 4 + 1) % 4) k (plN x (x.trumps % 5) ⟨(x.dealN (4 * x.n)).h, (x.decl % 4 + 1) % 4, []⟩ k) :=
  have hd := deal_ok x (4 * x.n) (by have := x.n_le; omega)
  play_ok x _ _ _ _ (by omega) (Nat.mod_lt _ (by omega)) (made_pop x) (fun j c h => (hd.bit j c h).1) (fun j j' c hj h => hd.apart j j' c hj h)
theorem made_ne (x : Sk) : ∀ k, k < 4 * x.n → (plN x (x.trumps % 5) ⟨(x.dealN (4 * x.n)).h, (x.decl % 4 + 1) % 4, []⟩ k).hand ≠ [] := fun k hk =>
  (made_play x k (by omega)).hand hk (fun j c h => ((deal_ok x (4 * x.n) (by have := x.n_le; omega)).bit j c h).1)
theorem made_len (x : Sk) : x.rc.zs.length = 4 * x.n := (made_play x (4 * x.n) (Nat.le_refl _)).len
theorem made_run (x : Sk) : ∃ h2 ld2, Full x.rc.t x.rc.h ((x.rc.d + 1) % 4) x.rc.zs h2 ld2 := by
  obtain ⟨pre, led, hq, hz, hp, hf, _⟩ := (made_play x (4 * x.n) (Nat.le_refl _)).run
  have hl := made_len x
  have : led = [] := by
    apply List.eq_nil_of_length_eq_zero
    have h2 := congrArg List.length hz
    rw [List.length_append, hp] at h2
    have h3 : (plN x (x.trumps % 5) ⟨(x.dealN (4 * x.n)).h, (x.decl % 4 + 1) % 4, []⟩ (4 * x.n)).zs.length = 4 * x.n := hl
    omega
  subst this
  rw [List.append_nil] at hz
  refine ⟨hq, (plN x (x.trumps % 5) ⟨(x.dealN (4 * x.n)).h, (x.decl % 4 + 1) % 4, []⟩ (4 * x.n)).ld, ?_⟩
  have e : x.rc.zs = pre := hz
  rw [e]
  exact hf
/-- all tricks of a sketch's record are complete -/
theorem made_rnds (x : Sk) : sumTo x.rc.rnds = 4 * x.n ∧ x.rc.rnds.length = x.n ∧ ∀ y ∈ x.rc.rnds, y.cards.length = 4 := by
  obtain ⟨h2, ld2, hf⟩ := made_run x
  obtain ⟨R, e1, e2, e3, e4⟩ := hf.rnds 0 []
  rw [List.append_nil, rnds_nil_of, List.append_nil] at e1
  have hl := made_len x
  have : x.rc.rnds = R := e1
  rw [this]
  exact ⟨by rw [e2, hl], by omega, e4⟩
theorem made_right (x : Sk) : x.rc.rightV = (-1, 0) := by
  unfold Rc.rightV
  rw [if_pos (made_dealt x), if_neg]
  have := (made_rnds x).1; have := made_len x; omega
theorem made_lt (x : Sk) : ∀ c ∈ x.rc.zs, c < 52 := fun c hc => ((made_play x (4 * x.n) (Nat.le_refl _)).gone c hc).1
theorem made_nodup (x : Sk) : x.rc.zs.Nodup := (made_play x (4 * x.n) (Nat.le_refl _)).nodup
theorem made_w64 (x : Sk) : ∀ j, W64 (x.rc.h j) := dealN_w64 x (4 * x.n)
/-- finesselaw13.Made -/
theorem law_made (x : Sk) (ao : Option Addr) (lo co : Nat) (ap : Option Addr) (lp cp : Nat) (w : World) (ho : Byt w ao lo x.order) (hp : Byt w ap lp x.play)
    (hsz : x.size < 256) (htr : x.trumps < 256) (hde : x.decl < 256) :
    Calls Try.prog 17 #[.agg (x.cells ao lo co ap lp cp)] w fun e w' =>
      ∃ a cap, e = .returned (x.rc.v a (4 * x.n) cap) ∧ x.rc.ok (4 * x.n) cap ∧ Byt w' a (4 * x.n) x.rc.zs ∧ (∀ ad, a = some ad → w.heap.size ≤ ad.block ∧ ad.block < w'.heap.size) ∧ OwnU w' w.heap.size (.slice a (4 * x.n) cap) x.rc.zs ∧ Below w.heap.size w w' := by
  refine (made x ao lo co ap lp cp w ho hp hsz htr hde (made_ne x)).mono ?_
  rintro e w' ⟨v, rfl, hown, hb⟩
  have hl := made_len x
  have hn := x.n_le
  obtain ⟨a, cap, rfl, _, h2, h3, h4, h5⟩ := hown.byt (by omega) (fun i => getD_lt (by omega) (fun c hc => Nat.lt_trans (made_lt x c hc) (by omega)) i)
  rw [hl] at h2 h5 hown ⊢
  exact ⟨a, cap, rfl, ⟨made_w64 x, by unfold Sk.rc; dsimp only; omega, by unfold Sk.rc; dsimp only; omega, h2, by unfold maxLen at h3; omega⟩, h5, h4, hown, hb⟩
end Go.Proofs.Ytdlnilebnobllaa
