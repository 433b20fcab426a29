/- Contracts of finesselaw11.Made and slices.Clone over this seat's program. -/
import Derived.Test.YthilcnhnfdddhaaDoorOwn
import Derived.Test.YthilcnhnfdddhaaDoorPlain
import Derived.Deep.LoopGhost
namespace Go.Proofs.YthilcnhnfdddhaaDoor
open Go.RowKit Go.Shelf Go.Sort

/-- the first card from c on that is not in the list -/
def freshGo : Nat → List Nat → Nat → Nat
  | 0, _, c => c
  | f + 1, out, c => if out.contains c then freshGo f out ((c + 1) % 52) else c
def fresh (out : List Nat) (c : Nat) : Nat := freshGo 4 out c
/-- finesselaw11.Made -/
def madeGo : List Nat → List Nat → List Nat
  | out, [] => out
  | out, n :: ns => madeGo (out ++ [fresh out (n % 52)]) ns
def madeV (zs : List Nat) (most : Nat) : List Nat := madeGo [] (zs.take most)

theorem contains_3 (out : List Nat) (h : out.length ≤ 3) (c : Nat) (_hc : c < 52) (h0 : out.contains c = true) (h1 : out.contains ((c + 1) % 52) = true) (h2 : out.contains ((c + 2) % 52) = true) : out.contains ((c + 3) % 52) = false := by
  match out, h with
  | [], _ => simp at h0
  | [a], _ => simp at *; omega
  | [a, b], _ => simp at *; omega
  | [a, b, d], _ => simp at *; omega
theorem fresh_step (out : List Nat) (c : Nat) (hc : c < 52) (j : Nat) (hj : j ≤ 3) (hin : ∀ i, i < j → out.contains ((c + i) % 52) = true) (hn : out.contains ((c + j) % 52) = false) : fresh out c = (c + j) % 52 := by
  have e0 : (c + 0) % 52 = c := by omega
  have e2 : ((c + 1) % 52 + 1) % 52 = (c + 2) % 52 := by omega
  have e3 : ((c + 2) % 52 + 1) % 52 = (c + 3) % 52 := by omega
  unfold fresh
  match j, hj with
  | 0, _ => rw [e0] at hn; rw [freshGo, hn, e0]; rfl
  | 1, _ =>
    have h0 := hin 0 (by omega); rw [e0] at h0
    rw [freshGo, h0, freshGo, hn]; rfl
  | 2, _ =>
    have h0 := hin 0 (by omega); rw [e0] at h0
    have h1 := hin 1 (by omega)
    rw [freshGo, h0, freshGo, h1, if_pos rfl, if_pos rfl, e2, freshGo, hn]; rfl
  | 3, _ =>
    have h0 := hin 0 (by omega); rw [e0] at h0
    have h1 := hin 1 (by omega)
    have h2 := hin 2 (by omega)
    rw [freshGo, h0, freshGo, h1, if_pos rfl, if_pos rfl, e2, freshGo, h2, if_pos rfl, e3, freshGo, hn]; rfl
/-- the first j cards from c on are in the list -/
def InTo (out : List Nat) (c j : Nat) : Prop := ∀ i, i < j → out.contains ((c + i) % 52) = true
theorem inTo_le {out : List Nat} (h : out.length ≤ 3) {c j : Nat} (hc : c < 52) (hj : j ≤ 3) (hin : InTo out c j) (hn : out.contains ((c + j) % 52) = true) : j + 1 ≤ 3 := by
  rcases Nat.lt_or_ge j 3 with h3 | h3
  · omega
  · have : j = 3 := by omega
    subst this
    have h0 := hin 0 (by omega)
    have e0 : (c + 0) % 52 = c := by omega
    rw [e0] at h0
    rw [contains_3 out h c hc h0 (hin 1 (by omega)) (hin 2 (by omega))] at hn
    cases hn
theorem inTo_succ {out : List Nat} {c j : Nat} (hin : InTo out c j) (hn : out.contains ((c + j) % 52) = true) : InTo out c (j + 1) := by
  intro i hi
  rcases Nat.lt_succ_iff_lt_or_eq.1 hi with h | h
  · exact hin i h
  · subst h; exact hn
/-- what has been made of the first k -/
def madeTo (zs : List Nat) : Nat → List Nat
  | 0 => []
  | k + 1 => madeTo zs k ++ [fresh (madeTo zs k) (zs.getD k 0 % 52)]
theorem madeTo_length (zs : List Nat) : ∀ k, (madeTo zs k).length = k
  | 0 => rfl
  | k + 1 => by simp [madeTo, madeTo_length zs k]
theorem fresh_lt (out : List Nat) (c : Nat) (hc : c < 52) : fresh out c < 52 := by
  unfold fresh
  have : ∀ f c, c < 52 → freshGo f out c < 52 := by
    intro f
    induction f with
    | zero => exact fun c h => h
    | succ f ih => intro c h; rw [freshGo]; split; exact ih _ (Nat.mod_lt _ (by decide)); exact h
  exact this 4 c hc
theorem fresh_new (out : List Nat) (h : out.length ≤ 3) (c : Nat) (hc : c < 52) : out.contains (fresh out c) = false := by
  have e0 : (c + 0) % 52 = c := by omega
  cases h0 : out.contains c
  · rw [fresh_step out c hc 0 (by omega) (fun i hi => by omega) (by rw [e0]; exact h0), e0]; exact h0
  cases h1 : out.contains ((c + 1) % 52)
  · rw [fresh_step out c hc 1 (by omega) (fun i hi => by match i, hi with | 0, _ => rw [e0]; exact h0) h1]; exact h1
  cases h2 : out.contains ((c + 2) % 52)
  · rw [fresh_step out c hc 2 (by omega) (fun i hi => by match i, hi with | 0, _ => rw [e0]; exact h0 | 1, _ => exact h1) h2]; exact h2
  have h3 := contains_3 out h c hc h0 h1 h2
  rw [fresh_step out c hc 3 (by omega) (fun i hi => by match i, hi with | 0, _ => rw [e0]; exact h0 | 1, _ => exact h1 | 2, _ => exact h2) h3]; exact h3
theorem madeTo_ok (zs : List Nat) : ∀ k, k ≤ 4 → (∀ c ∈ madeTo zs k, c < 52) ∧ (madeTo zs k).Nodup
  | 0, _ => by simp [madeTo]
  | k + 1, h => by
    obtain ⟨h1, h2⟩ := madeTo_ok zs k (by omega)
    have h3 := fresh_new (madeTo zs k) (by rw [madeTo_length]; omega) (zs.getD k 0 % 52) (Nat.mod_lt _ (by decide))
    have h4 := fresh_lt (madeTo zs k) (zs.getD k 0 % 52) (Nat.mod_lt _ (by decide))
    rw [madeTo]
    refine ⟨fun c hc => ?_, ?_⟩
    · rcases List.mem_append.1 hc with hc | hc
      · exact h1 c hc
      · rw [List.mem_singleton.1 hc]; exact h4
    · rw [List.nodup_append]
      refine ⟨h2, by simp, fun x hx y hy => ?_⟩
      rw [List.mem_singleton.1 hy]
      rintro rfl
      rw [List.contains_iff_mem.2 hx] at h3; cases h3
theorem made_byte {l : List Nat} (h : ∀ c ∈ l, c < 52) (i : Nat) : l.getD i 0 < 256 := by
  rcases Nat.lt_or_ge i l.length with h1 | h1
  · have := h _ (getD_mem h1); omega
  · rw [List.getD_eq_getElem?_getD, List.getElem?_eq_none h1]; simp

set_option maxRecDepth 100000 in
theorem law_Made (a : Option Addr) (len cap most : Nat) (zs : List Nat) (w : World) (hz : Byt w a len zs) (hcap : len ≤ cap) (hm : most ≤ 4) :
    Calls Tryd.prog 13 #[.slice a len cap, .int .i64 (most : Int)] w (Owned w (madeTo zs (min len most))) := by
  have hsm := hz.small
  rcases Nat.lt_or_ge most len with hml | hml
  · have hn4 : most ≤ 4 := by omega
    have hnl : most ≤ len := by omega
    have hncap : most ≤ cap := by omega
    have HMIN : Hid (min len most = most) := Lib.hid (by omega)
    go_enter Tryd.func13, Tryd.ntmps13
    go_wp2_with fail
    go_loopg [5, 7, 8, 16] most (fun gk out _ _ i wr => ∃ k : Nat, k ≤ most ∧ gk = most - k ∧ i = .int .i64 (k : Int) ∧ OwnB wr w.heap.size out (madeTo zs k) ∧ Below w.heap.size w wr)
    case atStart => exact ⟨0, Nat.zero_le _, rfl, rfl, OwnB.nil _ _, Below.refl _ _⟩
    case round =>
      obtain ⟨k, hk, rfl, rfl, hown, hB⟩ := hrel
      obtain ⟨wo, rfl⟩ : ∃ wo : World, wo = wr := ⟨_, rfl⟩
      by_cases hlt : k < most
      · obtain ⟨b, off, rfl, hb, hcs⟩ := hz.at (by omega)
        have hc : wo.cell? ⟨b, off + k, none⟩ = some (.int .u8 ((zs.getD k 0 : Nat) : Int)) := (hB.cell (p := ⟨b, off + k, none⟩) hb).trans (hcs k (by omega))
        have hby := hz.byte k
        have HT : Hid (madeTo zs (k + 1) = madeTo zs k ++ [fresh (madeTo zs k) (zs.getD k 0 % 52)]) := Lib.hid rfl
        have hml := madeTo_length zs k
        obtain ⟨hm1, hm2⟩ := madeTo_ok zs k (by omega)
        have HBY := Lib.hid (made_byte hm1)
        clear hcs hm1 hm2
        generalize zs.getD k 0 = z at *
        obtain ⟨c0, hc0⟩ : ∃ c0 : Nat, c0 = z % 52 := ⟨_, rfl⟩
        have hc52 : c0 < 52 := by omega
        have HCI : Hid ((z : Int) % 52 = (c0 : Int)) := Lib.hid (by omega)
        rw [← hc0] at HT
        clear hc0
        generalize madeTo zs k = out at *
        obtain ⟨ao, co, rfl, hnil, hzo⟩ := hown.byt (by omega) HBY.out
        have hol : out.length ≤ 3 := by omega
        have HOWN := Lib.hid hown
        have HNIL := Lib.hid hnil
        clear hown hml hnil
        go_wp2_with fail
        go_loopg [8] 3 (fun gj c wr => ∃ j : Nat, j ≤ 3 ∧ gj = 3 - j ∧ c = .int .u8 (((c0 + j) % 52 : Nat) : Int) ∧ InTo out c0 j ∧ wo = wr)
        case atStart => exact ⟨0, by omega, rfl, by rw [HCI.out, show (c0 + 0) % 52 = c0 by omega], fun i hi => by omega, rfl⟩
        case round =>
          obtain ⟨j, hj, rfl, rfl, hin, rfl⟩ := hrel
          have hlt52 : (c0 + j) % 52 < 52 := Nat.mod_lt _ (by decide)
          have HM : Hid ((c0 + (j + 1)) % 52 = ((c0 + j) % 52 + 1) % 52) := Lib.hid (by omega)
          have HFS : Hid (out.contains ((c0 + j) % 52) = false → fresh out c0 = (c0 + j) % 52) := Lib.hid fun h => fresh_step out c0 hc52 j hj hin h
          have HIN := Lib.hid hin
          clear hin
          generalize hcj : (c0 + j) % 52 = cj at *
          have HCJ := Lib.hid hcj
          clear hcj
          cases hco : out.contains cj
          · have HCO := Lib.hid hco
            clear hco
            go_wp2_with (first
              | (go_at_call 35; refine (slices_contains _ _ _ cj out _ hzo).mono ?_; rw [HCO.out]; rintro e w' ⟨rfl, rfl⟩)
              | (at_builtin; refine app_any rfl (.tmp 28) (.tmp 30) rfl w.heap.size _ out [cj] rfl (HOWN.out.alloc _) _ _ _ rfl (byt_one _ cj (by omega)) (fun h => by cases h) (by omega) (by have := hB.size; simp; omega) ?_; intro v2 w2 hown2 hB2 _))
            go_roundg (most - (k + 1))
            case rel =>
              refine ⟨k + 1, by omega, rfl, by go_num, ?_, (hB.alloc hB.size _).trans hB2⟩
              rw [HT.out, HFS.out HCO.out]; exact hown2
            case measure => omega
          · have HCO := Lib.hid hco
            clear hco
            have hj1 : j + 1 ≤ 3 := inTo_le hol hc52 hj HIN.out (by rw [HCJ.out]; exact HCO.out)
            go_wp2_with (go_at_call 35; refine (slices_contains _ _ _ cj out _ hzo).mono ?_; rw [HCO.out]; rintro e w' ⟨rfl, rfl⟩)
            go_roundg (3 - (j + 1))
            case rel => exact ⟨j + 1, hj1, rfl, by rw [HM.out]; go_num, inTo_succ HIN.out (by rw [HCJ.out]; exact HCO.out), rfl⟩
            case measure => omega
      · have hk' : k = most := by omega
        subst hk'
        go_wp2_with fail
        go_ret
        exact ⟨_, rfl, by rw [HMIN.out]; exact hown, hB⟩
  · have hn4 : len ≤ 4 := by omega
    have hnl : len ≤ len := by omega
    have hncap : len ≤ cap := by omega
    have HMIN : Hid (min len most = len) := Lib.hid (by omega)
    go_enter Tryd.func13, Tryd.ntmps13
    go_wp2_with fail
    go_loopg [5, 7, 8, 16] len (fun gk out _ _ i wr => ∃ k : Nat, k ≤ len ∧ gk = len - k ∧ i = .int .i64 (k : Int) ∧ OwnB wr w.heap.size out (madeTo zs k) ∧ Below w.heap.size w wr)
    case atStart => exact ⟨0, Nat.zero_le _, rfl, rfl, OwnB.nil _ _, Below.refl _ _⟩
    case round =>
      obtain ⟨k, hk, rfl, rfl, hown, hB⟩ := hrel
      obtain ⟨wo, rfl⟩ : ∃ wo : World, wo = wr := ⟨_, rfl⟩
      by_cases hlt : k < len
      · obtain ⟨b, off, rfl, hb, hcs⟩ := hz.at (by omega)
        have hc : wo.cell? ⟨b, off + k, none⟩ = some (.int .u8 ((zs.getD k 0 : Nat) : Int)) := (hB.cell (p := ⟨b, off + k, none⟩) hb).trans (hcs k (by omega))
        have hby := hz.byte k
        have HT : Hid (madeTo zs (k + 1) = madeTo zs k ++ [fresh (madeTo zs k) (zs.getD k 0 % 52)]) := Lib.hid rfl
        have hml := madeTo_length zs k
        obtain ⟨hm1, hm2⟩ := madeTo_ok zs k (by omega)
        have HBY := Lib.hid (made_byte hm1)
        clear hcs hm1 hm2
        generalize zs.getD k 0 = z at *
        obtain ⟨c0, hc0⟩ : ∃ c0 : Nat, c0 = z % 52 := ⟨_, rfl⟩
        have hc52 : c0 < 52 := by omega
        have HCI : Hid ((z : Int) % 52 = (c0 : Int)) := Lib.hid (by omega)
        rw [← hc0] at HT
        clear hc0
        generalize madeTo zs k = out at *
        obtain ⟨ao, co, rfl, hnil, hzo⟩ := hown.byt (by omega) HBY.out
        have hol : out.length ≤ 3 := by omega
        have HOWN := Lib.hid hown
        have HNIL := Lib.hid hnil
        clear hown hml hnil
        go_wp2_with fail
        go_loopg [8] 3 (fun gj c wr => ∃ j : Nat, j ≤ 3 ∧ gj = 3 - j ∧ c = .int .u8 (((c0 + j) % 52 : Nat) : Int) ∧ InTo out c0 j ∧ wo = wr)
        case atStart => exact ⟨0, by omega, rfl, by rw [HCI.out, show (c0 + 0) % 52 = c0 by omega], fun i hi => by omega, rfl⟩
        case round =>
          obtain ⟨j, hj, rfl, rfl, hin, rfl⟩ := hrel
          have hlt52 : (c0 + j) % 52 < 52 := Nat.mod_lt _ (by decide)
          have HM : Hid ((c0 + (j + 1)) % 52 = ((c0 + j) % 52 + 1) % 52) := Lib.hid (by omega)
          have HFS : Hid (out.contains ((c0 + j) % 52) = false → fresh out c0 = (c0 + j) % 52) := Lib.hid fun h => fresh_step out c0 hc52 j hj hin h
          have HIN := Lib.hid hin
          clear hin
          generalize hcj : (c0 + j) % 52 = cj at *
          have HCJ := Lib.hid hcj
          clear hcj
          cases hco : out.contains cj
          · have HCO := Lib.hid hco
            clear hco
            go_wp2_with (first
              | (go_at_call 35; refine (slices_contains _ _ _ cj out _ hzo).mono ?_; rw [HCO.out]; rintro e w' ⟨rfl, rfl⟩)
              | (at_builtin; refine app_any rfl (.tmp 28) (.tmp 30) rfl w.heap.size _ out [cj] rfl (HOWN.out.alloc _) _ _ _ rfl (byt_one _ cj (by omega)) (fun h => by cases h) (by omega) (by have := hB.size; simp; omega) ?_; intro v2 w2 hown2 hB2 _))
            go_roundg (len - (k + 1))
            case rel =>
              refine ⟨k + 1, by omega, rfl, by go_num, ?_, (hB.alloc hB.size _).trans hB2⟩
              rw [HT.out, HFS.out HCO.out]; exact hown2
            case measure => omega
          · have HCO := Lib.hid hco
            clear hco
            have hj1 : j + 1 ≤ 3 := inTo_le hol hc52 hj HIN.out (by rw [HCJ.out]; exact HCO.out)
            go_wp2_with (go_at_call 35; refine (slices_contains _ _ _ cj out _ hzo).mono ?_; rw [HCO.out]; rintro e w' ⟨rfl, rfl⟩)
            go_roundg (3 - (j + 1))
            case rel => exact ⟨j + 1, hj1, rfl, by rw [HM.out]; go_num, inTo_succ HIN.out (by rw [HCJ.out]; exact HCO.out), rfl⟩
            case measure => omega
      · have hk' : k = len := by omega
        subst hk'
        go_wp2_with fail
        go_ret
        exact ⟨_, rfl, by rw [HMIN.out]; exact hown, hB⟩
end Go.Proofs.YthilcnhnfdddhaaDoor
