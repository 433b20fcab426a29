/- The solver: within, between, after for tables of any number of cards. -/
import Derived.Test.YtpobcaopfeddgaaDoorDmTb
namespace Go.Proofs.YtpobcaopfeddgaaDoor
open Go.RowKit Go.Sort Go.Shelf Go.Maps Go.WideMaps

theorem wok {tr : Nat} (htr : tr < 256) : ∀ m, WOk tr m
  | 0 => fun _ _ _ _ _ _ _ _ _ _ _ h => absurd h (Nat.lt_irrefl _)
  | m + 1 => dm_within tr m htr (wok htr m) fun q e => dm_between tr q htr (e ▸ wok htr m)
theorem bok {tr : Nat} (htr : tr < 256) (q : Nat) : BOk tr q := dm_between tr q htr (wok htr _)
theorem dm_aft {tr : Nat} (htr : tr < 256) (m bs bm n : Nat) (t : Tb) (q c : Nat) (lo hi : Int) (w : World) (hk : TbOk t) (hu : Uniq t) (he : Evn q t) (hm : m + 1 + t.cs.length = 4 * q) (hq : q ≤ 4)
    (hc : c < 52) (hb : (t.h t.turn).testBit c = true) (hlh : lo < hi) (h7 : hi ≤ 7) (hlo : (q : Int) - 1000 ≤ lo) (hs : Slv tr bs bm n w) (hT : Tab w) (hn : n + 5 ^ m < maxLen) :
    Calls Tryd.prog 55 #[.pointer (some ⟨bs, 0, none⟩), .agg (tbA t), .int .u8 (c : Int), .int .i64 lo, .int .i64 hi] w fun e w' =>
      ∃ r : Int, e = .returned (.int .i64 r) ∧ Fs lo hi (worth tr m t c) r ∧ 0 ≤ r ∧ r ≤ q ∧ Slv tr bs bm (n + 5 ^ m) w' ∧ But w.heap.size bm w w' :=
  dm_after tr m htr (wok htr m) (fun q _ => bok htr q) bs bm n t q c lo hi w hk hu he hm hq hc hb hlh h7 hlo hs hT hn
end Go.Proofs.YtpobcaopfeddgaaDoor
