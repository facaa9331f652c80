/- Typed specifications, run out of the functions by the evaluator (printed by gen.py). -/
import Derived.Test.YtmgdofgmidbddaaSpC
namespace Go.Proofs.Ytmgdofgmidbddaa
open Go Go.Ull

/-- ullage/ascent.Next -/
abbrev S_7 : Type 1 := ∀ {ρ : Type}, Window → Window → Int → (Int → Int → Option ρ) → Option ρ
noncomputable def g_7 (s_29 : S_29) (s_30 : S_30) (s_31 : S_31) (s_32 : S_32) (s_33 : S_33) (s_34 : S_34) {ρ : Type} (a0 : Window) (a1 : Window) (a2 : Int) (k : Int → Int → Option ρ) : Option ρ :=
  s_29 a0 fun v0 =>
    Go.Ull.sel (!v0) (k 0 2)
      (s_29 a1 fun v0 =>
        Go.Ull.sel (!v0) (k 0 2)
          (s_30 a2 fun v0 =>
            Go.Ull.sel (!v0) (k 0 2)
              (s_31 a0 a2 fun v0 =>
                s_32 a0 a1 (Go.IntKind.i64.wrap (a2 - v0)) a2 fun v0_1 v1 =>
                  Go.Ull.sel v1 (k v0_1 0)
                    (Go.Ull.sel (a0.len == 0) (k 0 7)
                      (Go.Ull.sel (a1.len == 0) (k 0 7)
                        (Go.Ull.sel (Decidable.decide (Go.IntKind.i64.wrap (Go.IntKind.i64.wrap (a0.len + a1.len) - 1) < a1.period))
                          (s_31 a1 (Go.IntKind.i64.wrap (Go.IntKind.i64.wrap (a2 - v0) + a0.period)) fun v0_2 =>
                            s_33 (Go.IntKind.i64.wrap (Go.IntKind.i64.wrap (v0_2 + a0.len) - 1)) a1.period fun v0_3 =>
                              s_33 (Go.IntKind.i64.wrap (0 - v0_3)) a1.period fun v0_4 =>
                                s_33 (Go.IntKind.i64.wrap (Go.IntKind.i64.wrap (Go.IntKind.i64.wrap (Go.IntKind.i64.wrap (a0.len + a1.len) - 1) - 1) - v0_3)) a1.period fun v0_5 =>
                                  Go.Ull.sel (Decidable.decide (v0_4 > v0_5))
                                    (Go.Ull.sel (Decidable.decide (a1.period = 0)) Option.none
                                      (s_34 (a0.period.tmod a1.period) a1.period 0 v0_5 fun v0_6 =>
                                        Go.Ull.sel (Decidable.decide (v0_6 < 0)) (k 0 7)
                                          (s_32 a0 a1 (Go.IntKind.i64.wrap (Go.IntKind.i64.wrap (Go.IntKind.i64.wrap (a2 - v0) + a0.period) + Go.IntKind.i64.wrap (v0_6 * a0.period)))
                                            (Go.IntKind.i64.wrap (Go.IntKind.i64.wrap (Go.IntKind.i64.wrap (a2 - v0) + a0.period) + Go.IntKind.i64.wrap (v0_6 * a0.period))) fun v0 v1 => k v0 0)))
                                    (Go.Ull.sel (Decidable.decide (a1.period = 0)) Option.none
                                      (s_34 (a0.period.tmod a1.period) a1.period v0_4 v0_5 fun v0_6 =>
                                        Go.Ull.sel (Decidable.decide (v0_6 < 0)) (k 0 7)
                                          (s_32 a0 a1 (Go.IntKind.i64.wrap (Go.IntKind.i64.wrap (Go.IntKind.i64.wrap (a2 - v0) + a0.period) + Go.IntKind.i64.wrap (v0_6 * a0.period)))
                                            (Go.IntKind.i64.wrap (Go.IntKind.i64.wrap (Go.IntKind.i64.wrap (a2 - v0) + a0.period) + Go.IntKind.i64.wrap (v0_6 * a0.period))) fun v0 v1 => k v0 0))))
                          (s_32 a0 a1 (Go.IntKind.i64.wrap (Go.IntKind.i64.wrap (Go.IntKind.i64.wrap (a2 - v0) + a0.period) + Go.IntKind.i64.wrap (0 * a0.period)))
                            (Go.IntKind.i64.wrap (Go.IntKind.i64.wrap (Go.IntKind.i64.wrap (a2 - v0) + a0.period) + Go.IntKind.i64.wrap (0 * a0.period))) fun v0 v1 => k v0 0)))))))
noncomputable def s_7 : S_7 := @fun _ a0 a1 a2 k => g_7 @s_29 @s_30 @s_31 @s_32 @s_33 (@s_34 64) a0 a1 a2 k
def e_7 (s : S_7) : Entry := fun _ args bs k =>
  match args, bs with
  | [.agg [.int .i64 a0_0, .int .i64 a0_1, .int .i64 a0_2], .agg [.int .i64 a1_0, .int .i64 a1_1, .int .i64 a1_2], .int .i64 a2], [] => s (⟨a0_0, a0_1, a0_2⟩ : Window) (⟨a1_0, a1_1, a1_2⟩ : Window) a2 fun v0 v1 => k (.tuple [.int .i64 v0, .int .i64 v1]) []
  | _, _ => none
def t_7 (s_29 : S_29) (s_30 : S_30) (s_31 : S_31) (s_32 : S_32) (s_33 : S_33) (s_34 : S_34) : Tab := { ty := tys, eqs := eqs, call := [(29, e_29 @s_29), (30, e_30 @s_30), (31, e_31 @s_31), (32, e_32 @s_32), (33, e_33 @s_33), (34, e_34 @s_34)] }
theorem run_7 (s_29 : S_29) (s_30 : S_30) (s_31 : S_31) (s_32 : S_32) (s_33 : S_33) (s_34 : S_34) {ρ : Type} (a0 : Window) (a1 : Window) (a2 : Int) (K : AV → List Blk → Option ρ) :
    runF (t_7 @s_29 @s_30 @s_31 @s_32 @s_33 @s_34) (Try.f7.body.getD .skip) Try.f7.results.toList Try.f7.ntmps [.agg (cWindow a0), .agg (cWindow a1), .int .i64 a2] [] K = g_7 @s_29 @s_30 @s_31 @s_32 @s_33 @s_34 a0 a1 a2 fun v0 v1 => K (.tuple [.int .i64 v0, .int .i64 v1]) [] := by kernel_rfl
theorem ok_7 : EntryOK Try.prog 7 (e_7 @s_7) := by
  refine entry_of (T := (t_7 @s_29 @s_30 @s_31 @s_32 @s_33 (@s_34 64))) ⟨tabOK_of_all tys_ok, eqsOK_of_all eqs_ok, fun g E h => ?_, fun g t h => (by cases h)⟩ mixed Try.func7 (show Try.f7.body = some (Try.f7.body.getD .skip) by kernel_rfl) (by kernel_rfl) (no_pieces rfl _) ?_
  · have := look_mem h
    simp only [t_7, List.mem_cons, List.not_mem_nil, or_false, Prod.mk.injEq] at this
    rcases this with ⟨rfl, rfl⟩ | ⟨rfl, rfl⟩ | ⟨rfl, rfl⟩ | ⟨rfl, rfl⟩ | ⟨rfl, rfl⟩ | ⟨rfl, rfl⟩
    · exact ok_29
    · exact ok_30
    · exact ok_31
    · exact ok_32
    · exact ok_33
    · exact ok_34 64
  · intro ρ args bs k r h
    unfold e_7 at h
    split at h
    · rename_i a0_0 a0_1 a0_2 a1_0 a1_1 a1_2 a2
      exact (run_7 @s_29 @s_30 @s_31 @s_32 @s_33 (@s_34 64) (⟨a0_0, a0_1, a0_2⟩ : Window) (⟨a1_0, a1_1, a1_2⟩ : Window) a2 k).trans h
    · cases h

end Go.Proofs.Ytmgdofgmidbddaa
