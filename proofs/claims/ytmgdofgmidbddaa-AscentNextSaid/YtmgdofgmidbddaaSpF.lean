/- AscentNext: what it computes. -/
import Derived.Test.YtmgdofgmidbddaaSpE
namespace Go.Proofs.Ytmgdofgmidbddaa
open Go Go.Ull

abbrev S_6 : Type 1 := ∀ {ρ : Type}, (Bool → Option ρ) → Option ρ
noncomputable def e_6 (s : S_6) : Entry := fun _ args bs k =>
  match args, bs with
  | [], [] => s fun v0 => k (.bool v0) []
  | _, _ => none
def s_6 : S_6 := @fun _ k => k true

/-- ullage/ullagelaw04.AscentNext -/
abbrev S_3 : Type 1 := ∀ {ρ : Type}, Window → Window → Int → (Bool → Option ρ) → Option ρ
noncomputable def g_3 (s_6 : S_6) (s_7 : S_7) (s_8 : S_8) (s_9 : S_9) (p_3_0 : P_3_0) (p_3_2 : P_3_2) {ρ : Type} (a0 a1 : Window) (a2 : Int) (k : Bool → Option ρ) : Option ρ :=
  s_6 fun v0 =>
    s_7 a0 a1 a2 fun v0_1 v1 =>
      s_7 a1 a0 a2 fun v0_2 v1_1 =>
        s_8 a0 a1 fun v0_3 v1_2 =>
          s_8 a1 a0 fun v0_4 v1_3 =>
            Go.Ull.sel (v1 != v1_1) (k Bool.false)
              (Go.Ull.sel (v0_1 != v0_2) (k Bool.false)
                (Go.Ull.sel (v0_3 != v0_4) (k Bool.false)
                  (Go.Ull.sel (v1_2 != v1_3) (k Bool.false)
                    (Go.Ull.sel (!v0) (k Bool.false)
                      (Go.Ull.sel (v1 == 2) (Go.Ull.sel v0 (k (v1 == 2)) (k Bool.false))
                        (Go.Ull.sel (v1_2 != 0) (Go.Ull.sel v0 (k (v1 == 2)) (k Bool.false))
                          (p_3_0
                            (fun p =>
                              Go.Ull.sel (Decidable.decide (p = 0)) Option.none
                                (Go.Ull.sel (Decidable.decide (v0_3 < 0)) (k Bool.false)
                                  (Go.Ull.sel
                                    (Decidable.decide
                                      (v0_3 > Go.IntKind.i64.wrap (Go.IntKind.i64.wrap (a0.period.tdiv p) * a1.period)))
                                    (k Bool.false)
                                    (Go.Ull.sel (!(v0_3 == 0) == (v1 == 7)) (k Bool.false)
                                      (Go.Ull.sel (v1 != 0) (k v0)
                                        (Go.Ull.sel (Decidable.decide (v0_1 < a2)) (k Bool.false)
                                          (Go.Ull.sel
                                            (Decidable.decide
                                              (Go.IntKind.i64.wrap (v0_1 - a2) ≥
                                                Go.IntKind.i64.wrap (Go.IntKind.i64.wrap (a0.period.tdiv p) * a1.period)))
                                            (k Bool.false)
                                            (s_9 a0 v0_1 fun v0_5 =>
                                              Go.Ull.sel (!v0_5) (k Bool.false)
                                                (s_9 a1 v0_1 fun v0_6 =>
                                                  Go.Ull.sel (!v0_6) (k Bool.false)
                                                    (s_9 a0 (Go.IntKind.i64.wrap (v0_1 - Go.IntKind.i64.wrap (Go.IntKind.i64.wrap (a0.period.tdiv p) * a1.period))) fun v0_7 =>
                                                      Go.Ull.sel (!v0_7) (k Bool.false)
                                                        (s_9 a1 (Go.IntKind.i64.wrap (v0_1 - Go.IntKind.i64.wrap (Go.IntKind.i64.wrap (a0.period.tdiv p) * a1.period))) fun v0_8 =>
                                                          Go.Ull.sel (!v0_8) (k Bool.false)
                                                            (p_3_2 a0 a1 a2 (k v0) (k Bool.false) (if Go.IntKind.i64.wrap (v0_1 - a2) < 3000 then Go.IntKind.i64.wrap (v0_1 - a2) else 3000) 0))))))))))))
                            a0.period a1.period)))))))
noncomputable def s_3 : S_3 := @fun _ a0 a1 a2 k => g_3 @s_6 @s_7 @s_8 @s_9 @p_3_0 (@p_3_2 3001) a0 a1 a2 k
noncomputable def e_3 (s : S_3) : Entry := fun _ args bs k =>
  match args, bs with
  | [.agg [.int .i64 a0_0, .int .i64 a0_1, .int .i64 a0_2], .agg [.int .i64 a1_0, .int .i64 a1_1, .int .i64 a1_2], .int .i64 a2], [] => s (⟨a0_0, a0_1, a0_2⟩ : Window) (⟨a1_0, a1_1, a1_2⟩ : Window) a2 fun v0 => k (.bool v0) []
  | _, _ => none
noncomputable def t_3 (s_6 : S_6) (s_7 : S_7) (s_8 : S_8) (s_9 : S_9) (p_3_0 : P_3_0) (p_3_2 : P_3_2) : Tab := { ty := tys, eqs := eqs, call := [(6, e_6 @s_6), (7, e_7 @s_7), (8, e_8 @s_8), (9, e_9 @s_9)], piece := [(1, L_3_0 @p_3_0), (5, L_3_2 @p_3_2)] }
theorem run_3 (s_6 : S_6) (s_7 : S_7) (s_8 : S_8) (s_9 : S_9) (p_3_0 : P_3_0) (p_3_2 : P_3_2) {ρ : Type} (a0 a1 : Window) (a2 : Int) (K : AV → List Blk → Option ρ) :
    runF (t_3 @s_6 @s_7 @s_8 @s_9 @p_3_0 @p_3_2) code3 Try.f3.results.toList Try.f3.ntmps [.agg (cWindow a0), .agg (cWindow a1), .int .i64 a2] [] K =
      g_3 @s_6 @s_7 @s_8 @s_9 @p_3_0 @p_3_2 a0 a1 a2 fun v0 => K (.bool v0) [] := by kernel_rfl
theorem ok_3 (h6 : EntryOK Try.prog 6 (e_6 @s_6)) : EntryOK Try.prog 3 (e_3 @s_3) := by
  refine entry_of (T := t_3 @s_6 @s_7 @s_8 @s_9 @p_3_0 (@p_3_2 3001)) ⟨tabOK_of_all tys_ok, eqsOK_of_all eqs_ok, fun g E h => ?_, fun g t h => (by cases h)⟩ mixed Try.func3 (show Try.f3.body = some code3 by kernel_rfl) (by kernel_rfl)
    (pieces_of (by kernel_rfl) fun i E h => ?_) ?_
  · have := look_mem h
    simp only [t_3, List.mem_cons, List.not_mem_nil, or_false, Prod.mk.injEq] at this
    rcases this with ⟨rfl, rfl⟩ | ⟨rfl, rfl⟩ | ⟨rfl, rfl⟩ | ⟨rfl, rfl⟩
    · exact h6
    · exact ok_7
    · exact ok_8
    · exact ok_9
  · have := look_mem h
    simp only [t_3, List.mem_cons, List.not_mem_nil, or_false, Prod.mk.injEq] at this
    rcases this with ⟨rfl, rfl⟩ | ⟨rfl, rfl⟩
    · exact piece3_0
    · exact piece3_2 3001
  · intro ρ args bs k r h
    unfold e_3 at h
    split at h
    · rename_i a0_0 a0_1 a0_2 a1_0 a1_1 a1_2 a2
      exact (run_3 @s_6 @s_7 @s_8 @s_9 @p_3_0 (@p_3_2 3001) (⟨a0_0, a0_1, a0_2⟩ : Window) (⟨a1_0, a1_1, a1_2⟩ : Window) a2 k).trans h
    · cases h
end Go.Proofs.Ytmgdofgmidbddaa
