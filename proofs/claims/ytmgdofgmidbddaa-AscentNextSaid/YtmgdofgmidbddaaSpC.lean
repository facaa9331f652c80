/- Typed specifications, run out of the functions by the evaluator (printed by gen.py). -/
import Derived.Test.YtmgdofgmidbddaaSpB
namespace Go.Proofs.Ytmgdofgmidbddaa
open Go Go.Ull

/-- ullage/ascent.first -/
abbrev S_34 : Type 1 := ∀ {ρ : Type}, Int → Int → Int → Int → (Int → Option ρ) → Option ρ
noncomputable def g_34 (s_33 : S_33) (s_34 : S_34) {ρ : Type} (a0 : Int) (a1 : Int) (a2 : Int) (a3 : Int) (k : Int → Option ρ) : Option ρ :=
  Go.Ull.sel (a2 == 0) (k 0)
    (Go.Ull.sel (a0 == 0) (k (-1))
      (Go.Ull.sel (Decidable.decide (a0 = 0)) Option.none
        (Go.Ull.sel (Decidable.decide (Go.IntKind.i64.wrap (Go.IntKind.i64.wrap ((Go.IntKind.i64.wrap (Go.IntKind.i64.wrap (a2 + a0) - 1)).tdiv a0) * a0) ≤ a3))
          (k (Go.IntKind.i64.wrap ((Go.IntKind.i64.wrap (Go.IntKind.i64.wrap (a2 + a0) - 1)).tdiv a0)))
          (Go.Ull.sel (Decidable.decide (a0 = 0)) Option.none
            (s_33 (Go.IntKind.i64.wrap (0 - a3)) a0 fun v0 =>
              s_33 (Go.IntKind.i64.wrap (0 - a2)) a0 fun v0_1 =>
                s_34 (a1.tmod a0) a0 v0 v0_1 fun v0 =>
                  Go.Ull.sel (Decidable.decide (v0 < 0)) (k (-1))
                    (Go.Ull.sel (Decidable.decide (a0 = 0)) Option.none
                      (k (Go.IntKind.i64.wrap ((Go.IntKind.i64.wrap (Go.IntKind.i64.wrap (Go.IntKind.i64.wrap (a2 + Go.IntKind.i64.wrap (a1 * v0)) + a0) - 1)).tdiv a0)))))))))
noncomputable def s_34 : Nat → S_34
  | 0 => fun _ _ _ _ _ => none
  | n + 1 => fun a0 a1 a2 a3 k => g_34 @s_33 (@s_34 n) a0 a1 a2 a3 k
def e_34 (s : S_34) : Entry := fun _ args bs k =>
  match args, bs with
  | [.int .i64 a0, .int .i64 a1, .int .i64 a2, .int .i64 a3], [] => s a0 a1 a2 a3 fun v0 => k (.int .i64 v0) []
  | _, _ => none
def t_34 (s_33 : S_33) (s_34 : S_34) : Tab := { ty := tys, eqs := eqs, call := [(33, e_33 @s_33), (34, e_34 @s_34)] }
theorem run_34 (s_33 : S_33) (s_34 : S_34) {ρ : Type} (a0 : Int) (a1 : Int) (a2 : Int) (a3 : Int) (K : AV → List Blk → Option ρ) :
    runF (t_34 @s_33 @s_34) (Try.f34.body.getD .skip) Try.f34.results.toList Try.f34.ntmps [.int .i64 a0, .int .i64 a1, .int .i64 a2, .int .i64 a3] [] K = g_34 @s_33 @s_34 a0 a1 a2 a3 fun v0 => K (.int .i64 v0) [] := by kernel_rfl
theorem ok_34 : ∀ n, EntryOK Try.prog 34 (e_34 (@s_34 n))
  | 0 => fun ρ args bs k r h => by
    unfold e_34 at h
    split at h
    · cases h
    · cases h
  | n + 1 => by
    refine entry_of (T := (t_34 @s_33 (@s_34 n))) ⟨tabOK_of_all tys_ok, eqsOK_of_all eqs_ok, fun g E h => ?_, fun g t h => (by cases h)⟩ mixed Try.func34 (show Try.f34.body = some (Try.f34.body.getD .skip) by kernel_rfl) (by kernel_rfl) (no_pieces rfl _) ?_
    · have := look_mem h
      simp only [t_34, List.mem_cons, List.not_mem_nil, or_false, Prod.mk.injEq] at this
      rcases this with ⟨rfl, rfl⟩ | ⟨rfl, rfl⟩
      · exact ok_33
      · exact ok_34 n
    · intro ρ args bs k r h
      unfold e_34 at h
      split at h
      · rename_i a0 a1 a2 a3
        exact (run_34 @s_33 (@s_34 n) a0 a1 a2 a3 k).trans h
      · cases h

/-- ullage/ascent.Often -/
abbrev S_8 : Type 1 := ∀ {ρ : Type}, Window → Window → (Int → Int → Option ρ) → Option ρ
noncomputable def g_8 (s_29 : S_29) (s_35 : S_35) (s_36 : S_36) {ρ : Type} (a0 : Window) (a1 : Window) (k : Int → Int → Option ρ) : Option ρ :=
  s_29 a0 fun v0 =>
    Go.Ull.sel (!v0) (k 0 2)
      (s_29 a1 fun v0 =>
        Go.Ull.sel (!v0) (k 0 2)
          (s_35 a0.period a1.period fun v0 =>
            Go.Ull.sel (Decidable.decide (v0 = 0)) Option.none
              (Go.Ull.sel (Decidable.decide (v0 = 0)) Option.none
                (Go.Ull.sel (Decidable.decide (v0 = 0)) Option.none
                  (Go.Ull.sel (Decidable.decide (v0 = 0)) Option.none
                    (s_36 a0.fr (a0.len.tmod v0) a1.fr (a1.len.tmod v0) v0 fun v0_1 =>
                      k
                        (Go.IntKind.i64.wrap
                          (Go.IntKind.i64.wrap
                              (Go.IntKind.i64.wrap
                                  (Go.IntKind.i64.wrap (Go.IntKind.i64.wrap (v0 * Go.IntKind.i64.wrap (a0.len.tdiv v0)) * Go.IntKind.i64.wrap (a1.len.tdiv v0)) +
                                    Go.IntKind.i64.wrap (Go.IntKind.i64.wrap (a0.len.tdiv v0) * a1.len.tmod v0)) +
                                Go.IntKind.i64.wrap (Go.IntKind.i64.wrap (a1.len.tdiv v0) * a0.len.tmod v0)) +
                            v0_1))
                        0))))))
noncomputable def s_8 : S_8 := @fun _ a0 a1 k => g_8 @s_29 @s_35 @s_36 a0 a1 k
def e_8 (s : S_8) : Entry := fun _ args bs k =>
  match args, bs with
  | [.agg [.int .i64 a0_0, .int .i64 a0_1, .int .i64 a0_2], .agg [.int .i64 a1_0, .int .i64 a1_1, .int .i64 a1_2]], [] => s (⟨a0_0, a0_1, a0_2⟩ : Window) (⟨a1_0, a1_1, a1_2⟩ : Window) fun v0 v1 => k (.tuple [.int .i64 v0, .int .i64 v1]) []
  | _, _ => none
def t_8 (s_29 : S_29) (s_35 : S_35) (s_36 : S_36) : Tab := { ty := tys, eqs := eqs, call := [(29, e_29 @s_29), (35, e_35 @s_35), (36, e_36 @s_36)] }
theorem run_8 (s_29 : S_29) (s_35 : S_35) (s_36 : S_36) {ρ : Type} (a0 : Window) (a1 : Window) (K : AV → List Blk → Option ρ) :
    runF (t_8 @s_29 @s_35 @s_36) (Try.f8.body.getD .skip) Try.f8.results.toList Try.f8.ntmps [.agg (cWindow a0), .agg (cWindow a1)] [] K = g_8 @s_29 @s_35 @s_36 a0 a1 fun v0 v1 => K (.tuple [.int .i64 v0, .int .i64 v1]) [] := by kernel_rfl
theorem ok_8 : EntryOK Try.prog 8 (e_8 @s_8) := by
  refine entry_of (T := (t_8 @s_29 @s_35 @s_36)) ⟨tabOK_of_all tys_ok, eqsOK_of_all eqs_ok, fun g E h => ?_, fun g t h => (by cases h)⟩ mixed Try.func8 (show Try.f8.body = some (Try.f8.body.getD .skip) by kernel_rfl) (by kernel_rfl) (no_pieces rfl _) ?_
  · have := look_mem h
    simp only [t_8, List.mem_cons, List.not_mem_nil, or_false, Prod.mk.injEq] at this
    rcases this with ⟨rfl, rfl⟩ | ⟨rfl, rfl⟩ | ⟨rfl, rfl⟩
    · exact ok_29
    · exact ok_35
    · exact ok_36
  · intro ρ args bs k r h
    unfold e_8 at h
    split at h
    · rename_i a0_0 a0_1 a0_2 a1_0 a1_1 a1_2
      exact (run_8 @s_29 @s_35 @s_36 (⟨a0_0, a0_1, a0_2⟩ : Window) (⟨a1_0, a1_1, a1_2⟩ : Window) k).trans h
    · cases h

end Go.Proofs.Ytmgdofgmidbddaa
