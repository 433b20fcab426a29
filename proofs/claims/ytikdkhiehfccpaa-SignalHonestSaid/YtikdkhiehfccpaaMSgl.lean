/- SgL, SgM, SgN in one text. -/
import Derived.Test.YtikdkhiehfccpaaMSgj
import Derived.Test.YtikdkhiehfccpaaByt
import Derived.Test.YtikdkhiehfccpaaMPln
import Derived.Test.YtikdkhiehfccpaaApq
import Derived.Test.YtikdkhiehfccpaaMin

/- Slices of rules that a call owns: append. Over this seat's program. -/
namespace Go.Proofs.Ytikdkhiehfccpaa
open Go.RowKit Go.Sort Go.Shelf Cnt

/-- a rule with where its ranges lie -/
abbrev PL := Rl × Option Addr × Nat
abbrev encL (p : PL) : List Value := [.slice p.2.1 p.1.rs.length p.2.2, .int .i64 p.1.s]
theorem encL_len (p : PL) : (encL p).length = 2 := rfl
theorem encL_one (p : PL) : ∀ u ∈ encL p, u.oneCell' = true := by
  intro u hu
  simp at hu
  rcases hu with rfl | rfl <;> rfl
theorem info_rl : (Try.prog.info? 63).map (fun i => (i.zero, i.size, i.bytes)) = some (some (.agg #[.slice none 0 0, .int .i64 0]), 2, 32) := by kernel_rfl
theorem RgC.grown {w w' : World} {ai : Option Addr} {ci : Nat} {rs : List Rg} {row : Option Nat} (h : RgC w ai ci rs) (hg : w.grownBy w' row) (hne : rs ≠ [] → ∀ ad, ai = some ad → row ≠ some ad.block) : RgC w' ai ci rs := by
  refine ⟨⟨h.rgs.length, h.rgs.small, ?_⟩, h.cap, h.nil⟩
  rcases h.rgs.cells with h0 | ⟨b, off, ha, hlt, hc⟩
  · exact .inl h0
  · by_cases hr : rs = []
    · exact .inl (by rw [hr]; rfl)
    · refine .inr ⟨b, off, ha, Nat.lt_of_lt_of_le hlt hg.size, fun i r hi j hj => ?_⟩
      have hb := hg.block b hlt (fun e => hne hr _ ha e.symm)
      rw [← hc i r hi j hj]
      simp only [World.cell?, hb]
/-- rules in a slice of the call's own -/
structure OwnL (w : World) (base : Nat) (v : Value) (ps : List PL) : Prop where
  own : Owns encL 2 63 w base v ps
  rg : ∀ p ∈ ps, RgC w p.2.1 p.2.2 p.1.rs
  ne : ∀ p ∈ ps, p.1.rs ≠ [] → ∀ ad, p.2.1 = some ad → v.ownBlock ≠ some ad.block
def rlsOf (ps : List PL) : List Rl := ps.map fun p => p.1
theorem OwnL.nil (w : World) (base : Nat) : OwnL w base (.slice none 0 0) [] := ⟨Owns.nil encL_len _ _, (fun _ h => nomatch h), fun _ h => nomatch h⟩
theorem OwnL.later {w w' : World} {base : Nat} {v : Value} {ps : List PL} (h : OwnL w base v ps) (hb : Below w.heap.size w w') : OwnL w' base v ps :=
  ⟨h.own.below hb, fun p hp => (h.rg p hp).below hb, h.ne⟩
theorem OwnL.mono {w : World} {base base' : Nat} {v : Value} {ps : List PL} (h : OwnL w base v ps) (hb : base' ≤ base) : OwnL w base' v ps := ⟨h.own.mono hb, h.rg, h.ne⟩
theorem flatL_get : ∀ (ps : List PL) (i j : Nat) (p : PL), ps[i]? = some p → j < 2 → (ps.flatMap encL)[i * 2 + j]? = (encL p)[j]?
  | [], i, j, p, h, _ => by simp at h
  | q :: ps, 0, j, p, h, hj => by
    simp at h
    subst h
    rw [List.flatMap_cons, List.getElem?_append_left (by simp; omega)]
    simp
  | q :: ps, i + 1, j, p, h, hj => by
    rw [List.flatMap_cons, List.getElem?_append_right (by simp; omega)]
    have := flatL_get ps i j p (by simpa using h) hj
    rw [← this]
    congr 1
    simp
    omega
/-- a slice that reads as rules whose ranges lie where ps says -/
theorem rls_cells {w : World} {b off : Nat} {ps : List PL} (hc : ∀ j u, (ps.flatMap encL)[j]? = some u → w.cell? ((⟨b, off, none⟩ : Addr).add j) = some u) (hb : b < w.heap.size) (hr : ∀ p ∈ ps, RgC w p.2.1 p.2.2 p.1.rs) (hl : ps.length ≤ 100000) : Rls w (some ⟨b, off, none⟩) ps.length (rlsOf ps) := by
  refine ⟨by simp [rlsOf], by omega, .inr ⟨b, off, rfl, hb, fun i x hx => ?_⟩⟩
  unfold rlsOf at hx
  rw [List.getElem?_map] at hx
  obtain ⟨p, hp, rfl⟩ := Option.map_eq_some_iff.1 hx
  have key : ∀ j, j < 2 → ∀ u, (encL p)[j]? = some u → w.cell? ⟨b, off + i * 2 + j, none⟩ = some u := by
    intro j hj u hu
    have := hc (i * 2 + j) u (by rw [flatL_get ps i j p hp hj]; exact hu)
    unfold Addr.add at this
    split at this
    · rename_i h0
      rw [show off + i * 2 + j = off by omega]
      exact this
    · rw [show off + i * 2 + j = off + (i * 2 + j) by omega]
      exact this
  exact ⟨p.2.1, p.2.2, key 0 (by decide) _ rfl, key 1 (by decide) _ rfl, hr p (List.mem_of_getElem? hp)⟩
theorem OwnL.rls {w : World} {base : Nat} {v : Value} {ps : List PL} (h : OwnL w base v ps) (hl : ps.length ≤ 100000) : ∃ a c, v = .slice a ps.length c ∧ Rls w a ps.length (rlsOf ps) ∧ ps.length ≤ c ∧ (a = none → c = 0) ∧ (a = none → ps = []) ∧ (∀ ad, a = some ad → ∃ g, ad = ⟨g, 0, none⟩ ∧ g < w.heap.size) ∧ ∀ j u, (ps.flatMap encL)[j]? = some u → ∀ ad, a = some ad → w.cell? (ad.add j) = some u := by
  rcases h.own.2.2 with ⟨rfl, h0⟩ | ⟨g, cap, cur, rfl, hb, hg, hn, -, hsz, htk⟩
  · obtain rfl := List.eq_nil_of_length_eq_zero h0
    exact ⟨none, 0, rfl, Rls.nil _, Nat.le_refl _, fun _ => rfl, fun _ => rfl, (fun ad h => nomatch h), fun j u hu => by simp at hu⟩
  · have hc : ∀ j u, (ps.flatMap encL)[j]? = some u → w.cell? ((⟨g, 0, none⟩ : Addr).add j) = some u := by
      intro j u hu
      have hj : j < ps.length * 2 := by
        have := (List.getElem?_eq_some_iff.1 hu).1
        rwa [flat_len encL_len] at this
      have := World.ownsRow.cellAt h.own.2 j hj
      rw [hu] at this
      unfold Addr.add
      split
      · rename_i h0; rw [h0] at this; exact this
      · simpa using this
    have hlt := (Array.getElem?_eq_some_iff.1 hg).1
    exact ⟨_, cap, rfl, rls_cells hc hlt h.rg hl, hn, (fun h => nomatch h), (fun h => nomatch h), (fun ad h => ⟨g, (by cases h; rfl), hlt⟩), fun j u hu ad h => by cases h; exact hc j u hu⟩
/-- where the rules of a slice that came in have their ranges -/
theorem Rls.ps {w : World} {a : Option Addr} {len : Nat} {ls : List Rl} (h : Rls w a len ls) : ∃ ps : List PL, rlsOf ps = ls ∧ ps.length = len ∧ (∀ p ∈ ps, RgC w p.2.1 p.2.2 p.1.rs) ∧ ∀ j u, (ps.flatMap encL)[j]? = some u → ∀ ad, a = some ad → w.cell? (ad.add j) = some u := by
  rcases h.cells with h0 | ⟨b, off, ha, hlt, hc⟩
  · have : ls = [] := List.eq_nil_of_length_eq_zero (by have := h.length; omega)
    subst this
    exact ⟨[], rfl, h0.symm, (fun p hp => nomatch hp), fun j u hu => by simp at hu⟩
  · have key : ∀ k, k ≤ ls.length → ∃ ps : List PL, rlsOf ps = ls.take k ∧ ps.length = k ∧ (∀ p ∈ ps, RgC w p.2.1 p.2.2 p.1.rs) ∧ ∀ i p, ps[i]? = some p → w.cell? ⟨b, off + i * 2, none⟩ = some (.slice p.2.1 p.1.rs.length p.2.2) ∧ w.cell? ⟨b, off + i * 2 + 1, none⟩ = some (.int .i64 p.1.s) := by
      intro k
      induction k with
      | zero => intro _; exact ⟨[], by simp [rlsOf], rfl, (fun p hp => nomatch hp), fun i p hp => by simp at hp⟩
      | succ k ih =>
        intro hk
        obtain ⟨ps, h1, h2, h3, h4⟩ := ih (by omega)
        obtain ⟨x, hx⟩ : ∃ x, ls[k]? = some x := ⟨_, List.getElem?_eq_getElem (by omega)⟩
        obtain ⟨ai, ci, q1, q2, q3⟩ := hc k x hx
        refine ⟨ps ++ [(x, ai, ci)], ?_, by simp [h2], ?_, ?_⟩
        · rw [take_snoc hx, ← h1]; simp [rlsOf]
        · intro p hp
          rcases List.mem_append.1 hp with hp | hp
          · exact h3 p hp
          · rcases List.mem_singleton.1 hp with rfl
            exact q3
        · intro i p hp
          by_cases hi : i < ps.length
          · rw [List.getElem?_append_left hi] at hp
            exact h4 i p hp
          · have hik : i = k := by have := (List.getElem?_eq_some_iff.1 hp).1; simp at this; omega
            subst hik
            rw [List.getElem?_append_right (by omega), h2] at hp
            simp at hp
            subst hp
            exact ⟨q1, q2⟩
    obtain ⟨ps, h1, h2, h3, h4⟩ := key ls.length (Nat.le_refl _)
    rw [List.take_length] at h1
    refine ⟨ps, h1, h2.trans h.length, h3, fun j u hu ad had => ?_⟩
    obtain rfl : ad = ⟨b, off, none⟩ := by rw [ha] at had; exact (Option.some.inj had).symm
    have hj : j < ps.length * 2 := by
      have := (List.getElem?_eq_some_iff.1 hu).1
      rwa [flat_len encL_len] at this
    obtain ⟨p, hp⟩ : ∃ p, ps[j / 2]? = some p := ⟨_, List.getElem?_eq_getElem (by omega)⟩
    have e := flatL_get ps (j / 2) (j % 2) p hp (by omega)
    rw [show j / 2 * 2 + j % 2 = j by omega, hu] at e
    obtain ⟨q1, q2⟩ := h4 _ _ hp
    rcases (show j % 2 = 0 ∨ j % 2 = 1 by omega) with h0 | h0
    · rw [h0] at e
      simp at e
      subst e
      rw [← q1]
      unfold Addr.add
      split
      · rename_i hz; rw [show off + j / 2 * 2 = off by omega]
      · rw [show off + j / 2 * 2 = off + j by omega]
    · rw [h0] at e
      simp at e
      subst e
      rw [← q2]
      unfold Addr.add
      rw [if_neg (by omega), show off + j / 2 * 2 + 1 = off + j by omega]
/-- append(v, src...), v the call's own, src any cells of rules -/
theorem appL {w : World} {ops : Array Oper} {rest : List Oper} {o : Oper} {a : Act} {Q : Exit → Act → World → Prop} (hgd : o.guard = none) (s x : Operand)
    (ho : o.op = .call { callee := .builtin .append, args := #[s, x], argTypes := #[23, 23] })
    (base : Nat) (v : Value) (ps qs : List PL) (hs : a.eval s = v) (hown : OwnL w base v ps) (ad : Addr) (k c : Nat) (hx : a.eval x = .slice (some ad) k c) (hk : qs.length = k) (hy : ∀ j u, (qs.flatMap encL)[j]? = some u → w.cell? (ad.add j) = some u)
    (hqr : ∀ p ∈ qs, RgC w p.2.1 p.2.2 p.1.rs) (hqn : ∀ p ∈ qs, p.1.rs ≠ [] → ∀ ad, p.2.1 = some ad → v.ownBlock ≠ some ad.block)
    (hbytes : ps.length + k ≤ 100000) (hbase : base ≤ w.heap.size)
    (h : ∀ v' w', OwnL w' base v' (ps ++ qs) → Below base w w' → w.grownBy w' v.ownBlock → (v'.ownBlock = v.ownBlock ∨ v'.ownBlock = some w.heap.size) → wpList Try.prog ops Q rest (a.put o.dst v') w') : wpList Try.prog ops Q (o :: rest) a w := by
  refine appO hgd s x 23 ho Try.underlying23 _ 32 info_rl (by decide) rfl (by decide) encL_one base v ps qs hs hown.own ad k c hx hk hy (by omega) hbase ?_
  intro v' w' h1 h2 h3 h4
  have hall : ∀ p ∈ ps ++ qs, RgC w p.2.1 p.2.2 p.1.rs ∧ (p.1.rs ≠ [] → ∀ ad, p.2.1 = some ad → v.ownBlock ≠ some ad.block) := by
    intro p hp
    rcases List.mem_append.1 hp with hp | hp
    · exact ⟨hown.rg p hp, hown.ne p hp⟩
    · exact ⟨hqr p hp, hqn p hp⟩
  refine h v' w' ⟨h1, fun p hp => (hall p hp).1.grown h3 (hall p hp).2, fun p hp hr ad' had => ?_⟩ h2 h3 h4
  rcases h4 with e | e
  · rw [e]; exact (hall p hp).2 hr ad' had
  · rw [e]
    rcases (hall p hp).1.rgs.cells with h0 | ⟨b, off, ha, hlt, _⟩
    · exact absurd (List.eq_nil_of_length_eq_zero h0) hr
    · rw [had] at ha
      obtain rfl := Option.some.inj ha
      intro e2
      simp at e2
      omega
end Go.Proofs.Ytikdkhiehfccpaa

/- finesselaw41.Made over this seat's program. -/
namespace Go.Proofs.Ytikdkhiehfccpaa
open Go.RowKit Go.Sort Go.Shelf Cnt

/-- a slice of slices of conditions -/
structure Cdss (w : World) (a : Option Addr) (len : Nat) (css : List (List Cd)) : Prop where
  length : css.length = len
  small : len ≤ 14073748835123
  cells : len = 0 ∨ ∃ b off, a = some ⟨b, off, none⟩ ∧ b < w.heap.size ∧ ∀ i cs, css[i]? = some cs → ∃ ai ci, w.cell? ⟨b, off + i, none⟩ = some (.slice ai cs.length ci) ∧ Cds w ai cs.length cs ∧ cs.length ≤ ci
theorem Cdss.below {w w' : World} {a : Option Addr} {len : Nat} {css : List (List Cd)} (h : Cdss w a len css) {B : Nat} (hB : w.heap.size ≤ B) (hb : Below B w w') : Cdss w' a len css := by
  refine ⟨h.length, h.small, ?_⟩
  rcases h.cells with h | ⟨b, off, ha, hlt, hc⟩
  · exact .inl h
  · refine .inr ⟨b, off, ha, Nat.lt_of_lt_of_le hlt hb.size, fun i cs hi => ?_⟩
    obtain ⟨ai, ci, h1, h2, h3⟩ := hc i cs hi
    exact ⟨ai, ci, (hb.cell (p := ⟨b, _, none⟩) (Nat.lt_of_lt_of_le hlt hB)).trans h1, h2.below hB hb, h3⟩
theorem Cdss.take {w : World} {a : Option Addr} {len : Nat} {css : List (List Cd)} (h : Cdss w a len css) (m : Nat) (hm : m ≤ len) : Cdss w a m (css.take m) := by
  have hl := h.length
  have hs := h.small
  refine ⟨by rw [List.length_take]; omega, by omega, ?_⟩
  rcases h.cells with h | ⟨b, off, ha, hlt, hc⟩
  · exact .inl (by omega)
  · refine .inr ⟨b, off, ha, hlt, fun i cs hi => hc i cs ?_⟩
    rw [List.getElem?_take] at hi
    split at hi
    · exact hi
    · cases hi
theorem Cdss.at {w : World} {a : Option Addr} {len : Nat} {css : List (List Cd)} (h : Cdss w a len css) {k : Nat} (hk : k < len) : ∃ b off ai ci, a = some ⟨b, off, none⟩ ∧ w.cell? ⟨b, off + k, none⟩ = some (.slice ai (css.getD k []).length ci) ∧ Cds w ai (css.getD k []).length (css.getD k []) ∧ (css.getD k []).length ≤ ci := by
  rcases h.cells with h0 | ⟨b, off, ha, _, hc⟩
  · omega
  · have hx : css[k]? = some (css.getD k []) := by
      rw [List.getD_eq_getElem?_getD, List.getElem?_eq_getElem (by have := h.length; omega)]; rfl
    obtain ⟨ai, ci, h1⟩ := hc k _ hx
    exact ⟨b, off, ai, ci, ha, h1⟩
/-- the signal of the i-th rule -/
def sgAt (zs : List Nat) (i : Nat) : Nat := if 0 < zs.length then 1 + zs.getD (i % zs.length) 0 % 4 else 1
def mdL (css : List (List Cd)) (zs : List Nat) : Nat → List Rl := listTo fun i => [⟨made (css.getD i []), (sgAt zs i : Int)⟩]
def made41 (css : List (List Cd)) (zs : List Nat) : List Rl := mdL css zs (min css.length 5)
theorem mdL_len (css : List (List Cd)) (zs : List Nat) : ∀ k, (mdL css zs k).length = k
  | 0 => rfl
  | k + 1 => by show (mdL css zs k ++ [_]).length = _; rw [List.length_append, mdL_len css zs k]; rfl
theorem sgAt_range (zs : List Nat) (i : Nat) : 1 ≤ sgAt zs i ∧ sgAt zs i ≤ 4 := by
  unfold sgAt; split <;> omega
set_option maxHeartbeats 2000000 in
theorem law41_Made (a : Option Addr) (len cap : Nat) (css : List (List Cd)) (z : Option Addr) (lz cz : Nat) (zs : List Nat) (w : World) (hc : Cdss w a len css) (hlc : len ≤ cap) (hz : Byt w z lz zs) :
    Calls Try.prog 19 #[.slice a len cap, .slice z lz cz] w fun e w' => (∃ v ps, e = .returned v ∧ OwnL w' w.heap.size v ps ∧ rlsOf ps = made41 css zs) ∧ Below w.heap.size w w' := by
  have hlen := hc.length
  have hsm := hc.small
  have HE : Hid (made41 css zs = mdL css zs (min len 5)) := Lib.hid (by unfold made41; rw [hlen])
  have HC := Lib.hid (hc.take (min len 5) (by omega))
  have HG : Hid (∀ i, i < min len 5 → (css.take (min len 5)).getD i [] = css.getD i []) := Lib.hid fun i hi => by
    rw [List.getD_eq_getElem?_getD, List.getD_eq_getElem?_getD, List.getElem?_take, if_pos hi]
  have HZ := Lib.hid hz
  have hzl := hz.length
  have hzs := hz.small
  clear hc hz hlen
  have HM : Hid (mn (len : Int) 5 = ((min len 5 : Nat) : Int)) := Lib.hid (by unfold mn; split <;> omega)
  have hml : min len 5 ≤ len := by omega
  have hm4 : min len 5 ≤ 5 := by omega
  generalize min len 5 = m at *
  have HZL := Lib.hid hzl
  clear hzl
  go_enter Try.func19, Try.ntmps19
  go_wp2_with (refine wpList_min rfl (.tmp 11) (.const (.int .i64 5)) _ _ rfl (len : Int) 5 rfl rfl ?_; rw [HM.out])
  go_loopw [5, 6, 7, 8, 15] (fun v _ _ _ i wr => ∃ (k : Nat) (ps : List PL), k ≤ m ∧ i = .int .i64 (k : Int) ∧ Below w.heap.size w wr ∧ OwnL wr w.heap.size v ps ∧ rlsOf ps = mdL css zs k ∧ ps.length = k) (fun _ _ _ _ i _ => m - (intOf i).toNat)
  case atStart => exact ⟨0, [], by omega, rfl, Below.refl _ _, OwnL.nil _ _, rfl, rfl⟩
  case round =>
    obtain ⟨k, ps, hk, rfl, hB, hO, hps, hpl⟩ := hrel
    by_cases hlt : k < m
    · obtain ⟨ba, offa, ai, ci, rfl, c0, hcd, hci⟩ := (HC.out.below (Nat.le_refl _) hB).at hlt
      rw [HG.out k hlt] at c0 hcd hci
      have hd : decide ((k : Int) < (m : Int)) = true := by simp; omega
      have hki : (k : Int) < (m : Int) := by omega
      have HB := Lib.hid hB
      have HO := Lib.hid hO
      have HP := Lib.hid (And.intro hps hpl)
      have HCD := Lib.hid hcd
      have HCI := Lib.hid hci
      have HTO : Hid (mdL css zs (k + 1) = mdL css zs k ++ [⟨made (css.getD k []), (sgAt zs k : Int)⟩]) := Lib.hid rfl
      have HML := Lib.hid (made_len (css.getD k []))
      generalize hcs : css.getD k [] = cs at *
      clear hB hO hps hpl hcd hci hcs
      rcases Nat.eq_zero_or_pos lz with h0 | h0
      · subst h0
        have HS : Hid (sgAt zs k = 1) := Lib.hid (by unfold sgAt; rw [if_neg (by have := HZL.out; omega)])
        go_wp2_with fail
        refine (law_Made ai cs.length ci cs _ HCD.out HCI.out).mono ?_
        rintro e w2 ⟨⟨v2, rfl, hv2⟩, hb2⟩
        obtain ⟨av, cv, rfl, hR, hle, hnn⟩ := hv2.rgs (by have := HML.out; omega)
        have HB2 := Lib.hid (HB.out.trans (hb2.mono HB.out.size))
        have HO2 := Lib.hid (HO.out.later hb2)
        have HRC := Lib.hid (RgC.mk hR hle hnn)
        have HNE : Hid (∀ ad, av = some ad → wr.heap.size ≤ ad.block ∧ ad.block < w2.heap.size) := Lib.hid fun ad had => by
          subst had
          rcases hv2.2 with ⟨h, _⟩ | ⟨g, cap', cur, h, hg, hgg, _⟩
          · cases h
          · simp only [Value.slice.injEq, Option.some.injEq] at h
            obtain ⟨rfl, _⟩ := h
            exact ⟨hg, (Array.getElem?_eq_some_iff.1 hgg).1⟩
        have HVL : Hid (∀ g, u5.ownBlock = some g → g < wr.heap.size) := Lib.hid fun g hg => (World.ownsRow.lt HO.out.own.2 g hg).2
        clear hb2 hv2 hR hle hnn HCD HCI HB HO
        have hb3 : Below w2.heap.size w2 (w2.alloc (.cells (encL (⟨made cs, 1⟩, av, cv)).toArray 63)) := (Below.refl _ _).alloc (Nat.le_refl _) _
        have HO3 := Lib.hid (HO2.out.later hb3)
        have HB3 := Lib.hid (HB2.out.trans (hb3.mono HB2.out.size))
        have HRC3 := Lib.hid (HRC.out.below hb3)
        have HCL := Lib.hid (one_cells encL w2 (⟨made cs, 1⟩, av, cv) 63)
        have HQR : Hid (∀ p ∈ ([(⟨made cs, 1⟩, av, cv)] : List PL), RgC (w2.alloc (.cells (encL (⟨made cs, 1⟩, av, cv)).toArray 63)) p.2.1 p.2.2 p.1.rs) := Lib.hid fun p hp => by
          rcases List.mem_singleton.1 hp with rfl
          exact HRC3.out
        have HQN : Hid (∀ p ∈ ([(⟨made cs, 1⟩, av, cv)] : List PL), p.1.rs ≠ [] → ∀ ad, p.2.1 = some ad → u5.ownBlock ≠ some ad.block) := Lib.hid fun p hp _ ad had e => by
          rcases List.mem_singleton.1 hp with rfl
          have h1 := HNE.out ad had
          have h2 := HVL.out _ e
          omega
        clear hb3
        go_wp2_with (refine appL rfl (.tmp 33) (.tmp 38) rfl w.heap.size u5 ps [(⟨made cs, 1⟩, av, cv)] rfl HO3.out ⟨w2.heap.size, 0, none⟩ 1 1 rfl rfl HCL.out HQR.out HQN.out (by have := HP.out.2; omega) HB3.out.size ?_
                     intro v' w7 h1 h2 h3 h4
                     have HB7 := Lib.hid (HB3.out.trans h2)
                     have HO7 := Lib.hid h1
                     clear h1 h2 h3 h4)
        exact ⟨⟨k + 1, ps ++ [(⟨made cs, 1⟩, av, cv)], by omega, by simp, HB7.out, HO7.out, by rw [HTO.out, ← HP.out.1, HS.out]; simp [rlsOf], by rw [List.length_append, HP.out.2]; rfl⟩, by simp [intOf]; omega⟩
      · obtain ⟨bz, offz, rfl, hbz, hzc⟩ := (HZ.out.below (Nat.le_refl _) HB.out).at h0
        have hlz : decide ((0 : Int) < (lz : Int)) = true := by simp; omega
        have hnz : ¬ (lz : Int) = 0 := by omega
        obtain ⟨r, hr⟩ : ∃ r, k % lz = r := ⟨_, rfl⟩
        have hrl : r < lz := by rw [← hr]; exact Nat.mod_lt _ h0
        have hri : (r : Int) < (lz : Int) := by omega
        have hme : (k : Int) % (lz : Int) = (r : Int) := by rw [← hr]; push_cast; rfl
        have hzr := hzc r hrl
        have hbyte := HZ.out.byte r
        have HS : Hid (sgAt zs k = 1 + zs.getD r 0 % 4) := Lib.hid (by unfold sgAt; rw [if_pos (by have := HZL.out; omega), HZL.out, hr])
        generalize zs.getD r 0 = zb at *
        have hz4 : (zb : Int) % 4 = ((zb % 4 : Nat) : Int) := by omega
        obtain ⟨q, hq⟩ : ∃ q, zb % 4 = q := ⟨_, rfl⟩
        have hz4' : (zb : Int) % 4 = (q : Int) := by omega
        have hq4 : q < 4 := by omega
        rw [hq] at HS
        clear hz4 hzc hbz hr hq
        go_wp2_with fail
        refine (law_Made ai cs.length ci cs _ HCD.out HCI.out).mono ?_
        rintro e w2 ⟨⟨v2, rfl, hv2⟩, hb2⟩
        obtain ⟨av, cv, rfl, hR, hle, hnn⟩ := hv2.rgs (by have := HML.out; omega)
        have HB2 := Lib.hid (HB.out.trans (hb2.mono HB.out.size))
        have HO2 := Lib.hid (HO.out.later hb2)
        have HRC := Lib.hid (RgC.mk hR hle hnn)
        have HNE : Hid (∀ ad, av = some ad → wr.heap.size ≤ ad.block ∧ ad.block < w2.heap.size) := Lib.hid fun ad had => by
          subst had
          rcases hv2.2 with ⟨h, _⟩ | ⟨g, cap', cur, h, hg, hgg, _⟩
          · cases h
          · simp only [Value.slice.injEq, Option.some.injEq] at h
            obtain ⟨rfl, _⟩ := h
            exact ⟨hg, (Array.getElem?_eq_some_iff.1 hgg).1⟩
        have HVL : Hid (∀ g, u5.ownBlock = some g → g < wr.heap.size) := Lib.hid fun g hg => (World.ownsRow.lt HO.out.own.2 g hg).2
        clear hb2 hv2 hR hle hnn HCD HCI HB HO
        have hb3 : Below w2.heap.size w2 (w2.alloc (.cells (encL (⟨made cs, 1 + (q : Int)⟩, av, cv)).toArray 63)) := (Below.refl _ _).alloc (Nat.le_refl _) _
        have HO3 := Lib.hid (HO2.out.later hb3)
        have HB3 := Lib.hid (HB2.out.trans (hb3.mono HB2.out.size))
        have HRC3 := Lib.hid (HRC.out.below hb3)
        have HCL := Lib.hid (one_cells encL w2 (⟨made cs, 1 + (q : Int)⟩, av, cv) 63)
        have HQR : Hid (∀ p ∈ ([(⟨made cs, 1 + (q : Int)⟩, av, cv)] : List PL), RgC (w2.alloc (.cells (encL (⟨made cs, 1 + (q : Int)⟩, av, cv)).toArray 63)) p.2.1 p.2.2 p.1.rs) := Lib.hid fun p hp => by
          rcases List.mem_singleton.1 hp with rfl
          exact HRC3.out
        have HQN : Hid (∀ p ∈ ([(⟨made cs, 1 + (q : Int)⟩, av, cv)] : List PL), p.1.rs ≠ [] → ∀ ad, p.2.1 = some ad → u5.ownBlock ≠ some ad.block) := Lib.hid fun p hp _ ad had e => by
          rcases List.mem_singleton.1 hp with rfl
          have h1 := HNE.out ad had
          have h2 := HVL.out _ e
          omega
        clear hb3
        go_wp2_with (refine appL rfl (.tmp 33) (.tmp 38) rfl w.heap.size u5 ps [(⟨made cs, 1 + (q : Int)⟩, av, cv)] rfl HO3.out ⟨w2.heap.size, 0, none⟩ 1 1 rfl rfl HCL.out HQR.out HQN.out (by have := HP.out.2; omega) HB3.out.size ?_
                     intro v' w7 h1 h2 h3 h4
                     have HB7 := Lib.hid (HB3.out.trans h2)
                     have HO7 := Lib.hid h1
                     clear h1 h2 h3 h4)
        exact ⟨⟨k + 1, ps ++ [(⟨made cs, 1 + (q : Int)⟩, av, cv)], by omega, by simp, HB7.out, HO7.out, by rw [HTO.out, ← HP.out.1, HS.out]; simp [rlsOf], by rw [List.length_append, HP.out.2]; rfl⟩, by simp [intOf]; omega⟩
    · obtain rfl : k = m := by omega
      have hd : decide ((k : Int) < (k : Int)) = false := by simp
      have HB := Lib.hid hB
      have HO := Lib.hid hO
      have HP := Lib.hid hps
      clear hB hO hps
      go_wp2_with fail
      exact bodyPost_ret (v := u5) (by simp [results, Try.results19, go_sem]) rfl ⟨⟨_, ps, rfl, HO.out, by rw [HP.out, HE.out]⟩, HB.out⟩
end Go.Proofs.Ytikdkhiehfccpaa

/- finesselaw41.hands over this seat's program. -/
namespace Go.Proofs.Ytikdkhiehfccpaa
open Go.RowKit Go.Sort Go.Shelf Cnt

set_option maxHeartbeats 1000000 in
theorem law41_hands (a : Option Addr) (len cap : Nat) (zs : List Nat) (nn : Nat) (w : World) (hz : Byt w a len zs) (hlc : len ≤ cap) :
    Calls Try.prog 20 #[.slice a len cap, .int .i64 (nn : Int)] w fun e w' => (∃ v, e = .returned (.tuple #[.int .u64 ((litTo zs (min len 11) : Nat) : Int), v]) ∧ OwnQ w' w.heap.size v (handsL (litTo zs (min len 11)) nn)) ∧ Below w.heap.size w w' := by
  have HZ := Lib.hid hz
  have hsm := hz.small
  clear hz
  have HM : Hid (mn (len : Int) 11 = ((min len 11 : Nat) : Int)) := Lib.hid (by unfold mn; split <;> omega)
  have hml : min len 11 ≤ len := by omega
  have hm12 : min len 11 ≤ 11 := by omega
  generalize min len 11 = m0 at *
  have HL0 := Lib.hid (litTo_lt zs m0)
  have HP0 := Lib.hid (litTo_pop zs m0)
  obtain ⟨L, HLT⟩ : ∃ L, Hid (litTo zs m0 = L) := ⟨_, Lib.hid rfl⟩
  rw [HLT.out] at HL0 HP0 ⊢
  have HL := Lib.hid (show W64 L by have := HL0.out; unfold W64; omega)
  have HLEN : Hid (∀ k, k ≤ 52 → (subs L k).length ≤ 1048576) := Lib.hid fun k hk => by
    rw [subs_len]
    have h1 : cnt L k ≤ pop L := by
      unfold pop
      rw [cnt_sum, cnt_sum]
      exact sumN_mono _ (by omega)
    exact Nat.le_trans (Nat.pow_le_pow_right (n := 2) (by decide) (show cnt L k ≤ 20 by have := HP0.out; omega)) (by decide)
  have HNE : Hid (∀ k, subs L k ≠ []) := Lib.hid fun k => by
    intro e
    have := subs_len L k
    rw [e] at this
    have h2 := Nat.two_pow_pos (cnt L k)
    simp at this; omega
  go_enter Try.func20, Try.ntmps20
  go_wp2_with (refine wpList_min rfl (.tmp 20) (.const (.int .i64 11)) _ _ rfl (len : Int) 11 rfl rfl ?_; rw [HM.out])
  go_loopw [6, 24] (fun v i wr => ∃ (k t : Nat), k ≤ m0 ∧ i = .int .i64 (k : Int) ∧ v = .int .u64 (t : Int) ∧ t = litTo zs k ∧ w = wr) (fun _ i _ => m0 - (intOf i).toNat)
  case atStart => exact ⟨0, 0, by omega, rfl, rfl, rfl, rfl⟩
  case round =>
    obtain ⟨k, t, hk, rfl, rfl, ht, rfl⟩ := hrel
    by_cases hlt : k < m0
    · have hd : decide ((k : Int) < (m0 : Int)) = true := by simp; omega
      obtain ⟨ba, offa, rfl, hbl, hcell⟩ := HZ.out.at (by omega)
      have hc := hcell k (by omega)
      have hzb := HZ.out.byte k
      have hwt : W64 t := by have := litTo_lt zs k; unfold W64; omega
      have HT : Hid (litTo zs (k + 1) = lor t (shl1 (zs.getD k 0 % 52))) := Lib.hid (by rw [ht]; rfl)
      generalize zs.getD k 0 = z at *
      have hz52 : (z : Int) % 52 = ((z % 52 : Nat) : Int) := by omega
      have hzl : z % 52 < 52 := by omega
      generalize z % 52 = c at *
      clear hcell ht
      go_wp2_with fail
      exact ⟨⟨k + 1, _, by omega, by simp, rfl, HT.out.symm, trivial⟩, by simp [intOf]; omega⟩
    · obtain rfl : k = m0 := by omega
      rw [HLT.out] at ht
      have ht2 := ht.symm
      clear ht
      subst ht2
      clear hsm hml hm12 HZ HM HLT HL0 HP0
      go_wp2_with fail
      have h0 := ownQ_new w w.heap.size 0 (Nat.le_refl _)
      have hb0 : Below w.heap.size w (w.alloc (.cells #[.int .u64 ((0 : Nat) : Int)] 22)) := (Below.refl _ _).alloc (Nat.le_refl _) _
      go_loopw [9, 35] (fun v i wr => ∃ (c : Nat), c ≤ 52 ∧ i = .int .i64 (c : Int) ∧ OwnQ wr w.heap.size v (subs L c) ∧ Below w.heap.size w wr) (fun _ i _ => 52 - (intOf i).toNat)
      case atStart => exact ⟨0, by omega, rfl, h0, hb0⟩
      case round =>
        obtain ⟨c, hc, rfl, ho, hb⟩ := hrel
        clear h0 hb0
        have HB := Lib.hid hb
        clear hb
        rcases ho.form with ⟨_, he⟩ | ⟨g, cap, rfl, hg, hgl, hlc, hcm⟩
        · exact (HNE.out _ he).elim
        have HO := Lib.hid ho
        clear ho
        by_cases hlt : c < 52
        · have hd : decide ((c : Int) < 52) = true := by simp; omega
          have hwl := HL.out
          cases hbit : L.testBit c
          · have hs : subs L (c + 1) = subs L c := by show (if L.testBit c then _ else _) = _; rw [hbit]; rfl
            have HS := Lib.hid hs
            clear hs
            go_wp2_with fail
            refine ⟨⟨c + 1, by omega, by simp, ?_, HB.out⟩, by simp [intOf]; omega⟩
            rw [HS.out]; exact HO.out
          · have hs : subs L (c + 1) = subs L c ++ (subs L c).map (fun h => lor h (shl1 c)) := by show (if L.testBit c then _ else _) = _; rw [hbit]; rfl
            have HS := Lib.hid hs
            have HLC := HLEN.out c (by omega)
            have HW : Hid (∀ k, k < (subs L c).length → W64 ((subs L c).getD k 0)) := Lib.hid fun k hk => by
              rw [getD_eq' _ _ hk]
              have := subs_52 (L := L) (k := c) (by omega) (List.getElem_mem hk)
              unfold W64; omega
            have HCE := Lib.hid (CellsQ.of HO.out)
            generalize subs L c = l at *
            obtain ⟨m, Hm⟩ : ∃ m, Hid (l.length = m) := ⟨_, Lib.hid rfl⟩
            rw [Hm.out] at hlc HLC HW HO
            have hmc : (m : Int) ≤ (cap : Int) := by omega
            have hm0 : (0 : Int) ≤ (m : Int) := by omega
            clear hs
            try rw [Hm.out]
            go_wp2_with fail
            clear hmc hm0
            go_loopw [9, 50] (fun v i wr => ∃ (k : Nat), k ≤ m ∧ i = .int .i64 (k : Int) ∧ OwnQ wr w.heap.size v (l ++ (l.take k).map (fun h => lor h (shl1 c))) ∧ CellsQ wr g l ∧ Below w.heap.size w wr) (fun _ i _ => m - (intOf i).toNat)
            case atStart => exact ⟨0, by omega, rfl, by simpa using HO.out, HCE.out, HB.out⟩
            case round =>
              obtain ⟨k, hk, rfl, hok, hce, hbk⟩ := hrel
              have HOK := Lib.hid hok
              have HCE2 := Lib.hid hce
              have HBK := Lib.hid hbk
              clear hok hce hbk
              by_cases hlt2 : k < m
              · have hd2 : decide ((k : Int) < (m : Int)) = true := by simp; omega
                have hkl : k < l.length := by have := Hm.out; omega
                have hcell := HCE2.out.2 k hkl
                have hwz := HW.out k hlt2
                have HNX : Hid ((l.take (k + 1)).map (fun h => lor h (shl1 c)) = (l.take k).map (fun h => lor h (shl1 c)) ++ [lor (l.getD k 0) (shl1 c)]) := Lib.hid (by
                  rw [take_succ' l k hkl, List.map_append, getD_eq' l k hkl]; rfl)
                generalize l.getD k 0 = z at *
                have HLK : Hid ((l ++ (l.take k).map (fun h => lor h (shl1 c))).length ≤ 10000000) := Lib.hid (by
                  have := Hm.out
                  rw [List.length_append, List.length_map, List.length_take]; omega)
                clear hkl
                go_wp2_with (refine appQ rfl (.tmp 54) (.tmp 59) rfl w.heap.size _ (l ++ (l.take k).map (fun h => lor h (shl1 c))) (lor z (shl1 c)) rfl wr rfl rfl HOK.out HLK.out HBK.out.size ?_; intro v' w' h1 h2 h3 h4; have HV := Lib.hid h1; have HC3 := Lib.hid (HCE2.out.grown h3 h2); have HB3 := Lib.hid (HBK.out.trans h4); clear h1 h2 h3 h4)
                refine ⟨⟨k + 1, by omega, by simp, ?_, HC3.out, HB3.out⟩, by simp [intOf]; omega⟩
                rw [HNX.out, ← List.append_assoc]
                exact HV.out
              · obtain rfl : k = m := by omega
                go_wp2_with fail
                go_roundw
                · refine ⟨c + 1, by omega, by simp, ?_, HBK.out⟩
                  have := HOK.out
                  rw [HS.out]
                  rwa [List.take_of_length_le (by rw [Hm.out]; exact Nat.le_refl _)] at this
                · simp [intOf]; omega
        · obtain rfl : c = 52 := by omega
          have HCE := Lib.hid (CellsQ.of HO.out)
          have HLC := HLEN.out 52 (Nat.le_refl _)
          have HW : Hid (∀ k, k < (subs L 52).length → W64 ((subs L 52).getD k 0)) := Lib.hid fun k hk => by
            rw [getD_eq' _ _ hk]
            have := subs_52 (L := L) (k := 52) (by omega) (List.getElem_mem hk)
            unfold W64; omega
          have HH : Hid ((subs L 52).filter (fun h => decide (pop h = nn)) = handsL L nn) := Lib.hid rfl
          clear HO HNE HLEN
          generalize subs L 52 = l at *
          obtain ⟨m, Hm⟩ : ∃ m, Hid (l.length = m) := ⟨_, Lib.hid rfl⟩
          rw [Hm.out] at hlc HLC HW
          try rw [Hm.out]
          simp only [show ((52 : Nat) : Int) = 52 from rfl]
          obtain ⟨W3, hW3⟩ : ∃ W3, W3 = wr := ⟨_, rfl⟩
          subst hW3
          go_wp2_with fail
          go_loopw [13, 65] (fun v i w3 => ∃ (k : Nat), k ≤ m ∧ i = .int .i64 (k : Int) ∧ OwnQ w3 W3.heap.size v ((l.take k).filter (fun h => decide (pop h = nn))) ∧ Below W3.heap.size W3 w3) (fun _ i _ => m - (intOf i).toNat)
          case atStart => exact ⟨0, by omega, rfl, by simpa using ownQ_nil _ _, Below.refl _ _⟩
          case round =>
            obtain ⟨k, hk, rfl, hok, hbk⟩ := hrel
            have HOK := Lib.hid hok
            have HBK := Lib.hid hbk
            clear hok hbk
            by_cases hlt2 : k < m
            · have hd2 : decide ((k : Int) < (m : Int)) = true := by simp; omega
              have hkl : k < l.length := by have := Hm.out; omega
              have hcell := (HCE.out.later HBK.out).2 k hkl
              have hwz := HW.out k hlt2
              have HNX : Hid ((l.take (k + 1)).filter (fun h => decide (pop h = nn)) = (l.take k).filter (fun h => decide (pop h = nn)) ++ if pop (l.getD k 0) = nn then [l.getD k 0] else []) := Lib.hid (by
                rw [take_succ' l k hkl, List.filter_append, getD_eq' l k hkl]
                congr 1
                simp only [List.filter_cons, List.filter_nil, decide_eq_true_eq])
              generalize l.getD k 0 = z at *
              have HLK : Hid (((l.take k).filter (fun h => decide (pop h = nn))).length ≤ 10000000) := Lib.hid (by
                have h1 := List.length_filter_le (fun h => decide (pop h = nn)) (l.take k)
                rw [List.length_take] at h1
                have := Hm.out
                omega)
              clear hkl
              have HWZ := Lib.hid hwz
              go_wp2_with fail
              go_loopw [16, 17] (fun o h w4 => ∃ (y i : Nat), h = .int .u64 (y : Int) ∧ o = .int .i64 (i : Int) ∧ W64 y ∧ i + pop y = pop z ∧ wr = w4) (fun _ h _ => (intOf h).toNat)
              case atStart => exact ⟨z, 0, rfl, rfl, HWZ.out, by omega, rfl⟩
              case round =>
                obtain ⟨y, i, rfl, rfl, hy, hi, rfl⟩ := hrel
                rcases Nat.eq_zero_or_pos y with h0 | h0
                · subst h0
                  rw [pop_zero] at hi
                  obtain rfl : i = pop z := by omega
                  by_cases hpz : pop z = nn
                  · have hpi : ((pop z : Nat) : Int) = (nn : Int) := by omega
                    rw [if_pos hpz] at HNX
                    have HPZ := Lib.hid hpz
                    clear hpz
                    rw [hpi]
                    clear hpi
                    go_wp2_with (refine appQ rfl (.tmp 81) (.tmp 83) rfl W3.heap.size _ ((l.take k).filter (fun h => decide (pop h = nn))) z rfl wr rfl rfl HOK.out HLK.out HBK.out.size ?_; intro v' w' h1 h2 h3 h4; have HV := Lib.hid h1; have HB3 := Lib.hid (HBK.out.trans h4); clear h1 h2 h3 h4)
                    go_roundw
                    · refine ⟨k + 1, by omega, by simp, ?_, HB3.out⟩
                      rw [HNX.out]
                      exact HV.out
                    · simp [intOf]; omega
                  · have hpi : (((pop z : Nat) : Int) == (nn : Int)) = false := by simp; omega
                    rw [if_neg hpz, List.append_nil] at HNX
                    go_wp2_with fail
                    go_roundw
                    · refine ⟨k + 1, by omega, by simp, ?_, HBK.out⟩
                      rw [HNX.out]
                      exact HOK.out
                    · simp [intOf]; omega
                · have hd : decide ((0 : Int) < (y : Int)) = true := by simp; omega
                  have hdr : bits .and .u64 (y : Int) (IntKind.u64.wrap ((y : Int) - 1)) = ((drop1 y : Nat) : Int) := by
                    rw [show (y : Int) - 1 = ((y - 1 : Nat) : Int) by omega, wrap_u64 _ (by unfold W64 at *; omega), bits_and_nat y (y - 1) hy (by unfold W64 at *; omega)]
                    rfl
                  have HDR := Lib.hid hdr
                  clear hdr
                  have hp := drop1_pop y (by omega) hy
                  have hle : pop z ≤ 64 := cnt_le z 64
                  have hl := drop1_lt y (by omega)
                  have HP := Lib.hid (And.intro hp (And.intro hle hl))
                  have hk64 : i < 64 := by omega
                  have hwy : W64 (drop1 y) := by unfold W64 at *; omega
                  have HWY := Lib.hid hwy
                  have HY := Lib.hid hy
                  clear hp hle hl hwy
                  go_wp2_with fail
                  rw [HDR.out]
                  go_roundw
                  · exact ⟨drop1 y, i + 1, rfl, by simp, HWY.out, by have := HP.out; omega, trivial⟩
                  · have := HP.out.2.2
                    simp [intOf]; omega
            · obtain rfl : k = m := by omega
              have HV : Hid (OwnQ wr W3.heap.size u13 (handsL L nn)) := Lib.hid (by
                have := HOK.out
                rwa [List.take_of_length_le (by rw [Hm.out]; exact Nat.le_refl _), HH.out] at this)
              go_wp2_with fail
              go_ret2
              exact ⟨⟨_, rfl, HV.out.mono HB.out.size⟩, HB.out.trans (HBK.out.mono HB.out.size)⟩
end Go.Proofs.Ytikdkhiehfccpaa
