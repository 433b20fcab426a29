/- Contract of slices.Clone over this seat's program. -/
import Derived.Test.YthilcnhnfdddhaaDoorOwn
import Derived.WalkSpells
namespace Go.Proofs.YthilcnhnfdddhaaDoor
open Go.RowKit Go.Shelf Go.Sort

theorem slices_clone (a : Option Addr) (len cap : Nat) (zs : List Nat) (w : World) (hz : Byt w a len zs) (hnil : a = none → cap = 0) :
    Calls Tryd.prog 22 #[.slice a len cap] w (Owned w zs) := by
  have heq := fun w' => Lib.run_eql_slice_nil (P := Tryd.prog) w' 23 5 a len cap 0 0 Tryd.underlying23
  have hl := hz.length
  cases a with
  | none =>
    have h0 : len = 0 := by
      rcases hz.cells with h | ⟨_, _, h, _⟩
      · exact h
      · cases h
    subst h0
    obtain rfl : zs = [] := List.eq_nil_of_length_eq_zero hl
    clear hl hnil
    simp only [Option.isNone_none] at heq
    go_enter Tryd.func22, Tryd.ntmps22
    go_wp2
    go_ret
    exact ⟨_, rfl, OwnB.nil _ _, Below.refl _ _⟩
  | some ad =>
    have hsm := hz.small
    have HL := Lib.hid hl
    clear hl hnil
    simp only [Option.isNone_some] at heq
    have hB1 : Below w.heap.size w (w.alloc (.cells #[] 5)) := (Below.refl _ _).alloc (Nat.le_refl _) _
    have hz1 := hz.below (Nat.le_refl _) hB1
    go_enter Tryd.func22, Tryd.ntmps22
    go_wp2_with (at_builtin; refine app_any rfl (.tmp 5) (.tmp 6) rfl w.heap.size _ [] zs rfl (OwnB.made0 _ _ (Nat.le_refl _)) _ _ _ rfl hz1 (fun h => by cases h) (by simp only [List.length_nil]; omega) (by simp only [World.size_alloc]; omega) ?_; intro v2 w2 hown2 hB2 _; simp only [List.nil_append] at hown2)
    go_ret
    exact ⟨_, rfl, hown2, hB1.trans hB2⟩
end Go.Proofs.YthilcnhnfdddhaaDoor
