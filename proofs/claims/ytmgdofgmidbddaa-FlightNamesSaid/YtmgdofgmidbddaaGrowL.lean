/- slices.Grow of nil, walked at this program. -/
import Derived.Test.YtmgdofgmidbddaaTab
import Derived.Test.YtmgdofgmidbddaaFrV
import Derived.WalkKit
import Derived.Lib.Walk
import Derived.Lib.SliceRun
import Derived.Lib.AppendZerosOnto
namespace Go.Proofs.Ytmgdofgmidbddaa
open Go Go.Ull Go.RowKit Go.Lib
set_option linter.unusedVariables false

theorem grow0 (w : World) : Calls Try.prog 143 #[.slice none 0 0, .int .i64 0] w fun e w' => e = .returned (.slice none 0 0) ∧ w' = w := by
  go_enter Try.func143, Try.ntmps143
  go_wp2
  go_ret
  exact ⟨rfl, rfl⟩

set_option maxRecDepth 100000 in
theorem growN (i0 : TypeInfo) (z : Value) (hi0 : Try.prog.info? 39 = some i0) (hz0 : i0.zero = some z) (hs0 : i0.size = 2) (hb : i0.bytes = 16) (n : Nat) (h0 : 0 < n) (hn : n ≤ 4294967296) (w : World) :
    Calls Try.prog 143 #[.slice none 0 0, .int .i64 n] w fun e w' => e = .returned (.slice (some ⟨w.heap.size, 0, none⟩) 0 (grownCap w n 0 39)) ∧
      w' = w.drew.alloc (.cells ((#[] : Array Value) ++ Builtin.zeroCells z.cells n ++ Builtin.zeroCells z.cells (grownCap w n 0 39 - n)) 39) := by
  have h1 : ¬ ((n : Int) < 0) := by omega
  have h2 : wrap64 ((0 : Int) - (0 : Int)) = 0 := by unfold wrap64; omega
  have h3 : wrap64 ((n : Int) - 0) = (n : Int) := by unfold wrap64; omega
  have h4 : (n : Int) > 0 := by omega
  have hold : (Builtin.firstCells i0.size 0 (.slice none 0 0)).run Try.prog w.drew = .ok (([] : List Value).toArray) w.drew := run_firstCells_none w.drew i0.size 0 0 0
  have hrz : ∀ ty, (Builtin.append_ #[124, 3] ty #[.slice none 0 0, .int .i64 (n : Int)]).run Try.prog w =
      .ok (.slice (some ⟨w.heap.size, 0, none⟩) n (grownCap w n 0 39)) (w.drew.alloc (.cells ((#[] : Array Value) ++ Builtin.zeroCells z.cells n ++ Builtin.zeroCells z.cells (grownCap w n 0 39 - n)) 39)) := fun ty => by
    have h := Lib.run_append_grow_zeros w 124 3 ty 39 i0 z .i64 .i64 Try.underlying124 Try.underlying3 hi0 hz0 none 0 0 [] hold n h0 (by omega) (by omega) (by omega) (by rw [hb]; omega)
      (by have := growslice_fits (need := n) (old := 0) (bytes := i0.bytes) (by omega) (by rw [hb]; omega); simpa using this)
    simpa using h
  have hGn : n ≤ grownCap w n 0 39 := grownCap_ge w _ _ _
  obtain ⟨G, hG⟩ : ∃ G, G = grownCap w n 0 39 := ⟨_, rfl⟩
  rw [← hG] at hrz hGn ⊢
  have hG63 : G ≤ 9223372036854775807 := by
    have := grownCap_le_maxLen w n 0 39 (by unfold maxLen; omega)
    rw [← hG] at this
    unfold maxLen at this
    omega
  clear hold hG
  go_enter Try.func143, Try.ntmps143
  go_wp2_with (at_builtin; refine Lib.wpList_append_run _ rfl _ _ _ _ rfl _ _ rfl rfl _ _ (hrz _) ?_)
  all_goals (go_ret; exact ⟨rfl, rfl⟩)

theorem grow_ok : GrowOK Try.prog 143 .span := fun n w hn => .inr ⟨Go.MuLone.run_callFunc_enter Try.func143 (by kernel_rfl) (show Try.f143.body = some (Try.f143.body.getD .skip) by kernel_rfl) _ _, by
  by_cases h0 : n = 0
  · subst h0
    refine (grow0 w).mono fun e w' ⟨h1, h2⟩ => ?_
    subst h1 h2
    exact ⟨_, rfl, none, 0, rfl, Keep.refl _ _, fun _ => rfl, fun k hk => by cases hk⟩
  · obtain ⟨i0, z, hi0, hz0, hs0, hb, hzs⟩ : ∃ i0 z, Try.prog.info? 39 = some i0 ∧ i0.zero = some z ∧ i0.size = 2 ∧ i0.bytes = 16 ∧ z.cells.size = 2 :=
      ⟨(Try.prog.info? 39).getD default, ((Try.prog.info? 39).getD default).zero.getD undef, by kernel_rfl, by kernel_rfl, by kernel_rfl, by kernel_rfl, by kernel_rfl⟩
    refine (growN i0 z hi0 hz0 hs0 hb n (by omega) hn w).mono fun e w' ⟨h1, h2⟩ => ?_
    subst h1 h2
    refine ⟨_, rfl, some w.heap.size, _, rfl, drewAlloc_keep w _, (fun h => by cases h), fun k hk => ?_⟩
    cases hk
    refine ⟨Nat.le_refl _, (#[] : Array Value) ++ Builtin.zeroCells z.cells n ++ Builtin.zeroCells z.cells (grownCap w n 0 39 - n), 39, by show (w.heap.push _)[w.heap.size]? = _; simp, ?_⟩
    have := grownCap_ge w n 0 39
    simp only [Array.size_append, size_zeroCells, hzs, sz]
    simp
    omega⟩

end Go.Proofs.Ytmgdofgmidbddaa
