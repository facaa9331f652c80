/- Typed specifications, run out of the functions by the evaluator (printed by gen2.py). -/
import Derived.Test.YtmgdofgmidbddaaSqC
namespace Go.Proofs.Ytmgdofgmidbddaa
open Go Go.Ull
set_option linter.unusedVariables false

/-- ullage/span.divide -/
abbrev S_134 : Type 1 := ∀ {ρ : Type}, Big → Big → (Big → Big → Option ρ) → Option ρ
noncomputable def g_134 (s_142 : S_142) (s_161 : S_161) (s_162 : S_162) (s_163 : S_163) {ρ : Type} (a0 : Big) (a1 : Big) (k : Big → Big → Option ρ) : Option ρ :=
  Go.Ull.sel (a1.hi == 0)
    (Go.Ull.sel (Decidable.decide (a1.lo = 0)) Option.none
      (Go.Ull.sel (Decidable.decide (a1.lo = 0)) Option.none
        (s_161 (a0.hi.tmod a1.lo) a0.lo a1.lo fun v0 v1 =>
          s_163 { neg := Bool.false, hi := 0, lo := v1 } fun v0_1 =>
            Go.Ull.sel (!v0_1)
              (s_142 { neg := Bool.false, hi := Go.IntKind.u64.wrap (a0.hi.tdiv a1.lo), lo := v0 } { neg := Bool.false, hi := 0, lo := 1 } fun v0_2 =>
                Go.Ull.sel a0.neg (k { neg := Bool.true, hi := v0_2.hi, lo := v0_2.lo } { neg := Bool.true, hi := Go.IntKind.u64.wrap (a0.hi.tdiv a1.lo), lo := v0 })
                  (k { neg := Bool.false, hi := Go.IntKind.u64.wrap (a0.hi.tdiv a1.lo), lo := v0 } v0_2))
              (Go.Ull.sel a0.neg (k { neg := Bool.true, hi := Go.IntKind.u64.wrap (a0.hi.tdiv a1.lo), lo := v0 } { neg := Bool.true, hi := Go.IntKind.u64.wrap (a0.hi.tdiv a1.lo), lo := v0 })
                (k { neg := Bool.false, hi := Go.IntKind.u64.wrap (a0.hi.tdiv a1.lo), lo := v0 } { neg := Bool.false, hi := Go.IntKind.u64.wrap (a0.hi.tdiv a1.lo), lo := v0 })))))
    (s_162 a0 a1 fun v0 v1 =>
      s_163 v1 fun v0_1 =>
        Go.Ull.sel (!v0_1)
          (s_142 { neg := Bool.false, hi := v0.hi, lo := v0.lo } { neg := Bool.false, hi := 0, lo := 1 } fun v0_2 =>
            Go.Ull.sel a0.neg (k { neg := Bool.true, hi := v0_2.hi, lo := v0_2.lo } { neg := Bool.true, hi := v0.hi, lo := v0.lo }) (k v0 v0_2))
          (Go.Ull.sel a0.neg (k { neg := Bool.true, hi := v0.hi, lo := v0.lo } { neg := Bool.true, hi := v0.hi, lo := v0.lo }) (k v0 v0)))
noncomputable def s_134 : S_134 := @fun _ a0 a1 k => g_134 @s_142 @s_161 @s_162 @s_163 a0 a1 k
noncomputable def e_134 (s : S_134) : Entry := fun _ args bs k =>
  match args, bs with
  | [.agg [.bool a0_0, .int .u64 a0_1, .int .u64 a0_2], .agg [.bool a1_0, .int .u64 a1_1, .int .u64 a1_2]], [] => s (⟨a0_0, a0_1, a0_2⟩ : Big) (⟨a1_0, a1_1, a1_2⟩ : Big) fun v0 v1 => k (.tuple [.agg (cBig v0), .agg (cBig v1)]) []
  | _, _ => none
noncomputable def t_134 (s_142 : S_142) (s_161 : S_161) (s_162 : S_162) (s_163 : S_163) : Tab := { ty := tys, eqs := eqs, call := [(142, e_142 @s_142), (161, e_161 @s_161), (162, e_162 @s_162), (163, e_163 @s_163)], fuel := 64 }
theorem run_134 (s_142 : S_142) (s_161 : S_161) (s_162 : S_162) (s_163 : S_163) {ρ : Type} (a0 : Big) (a1 : Big) (K : AV → List Blk → Option ρ) :
    runF (t_134 @s_142 @s_161 @s_162 @s_163) (Try.f134.body.getD .skip) Try.f134.results.toList Try.f134.ntmps [.agg (cBig a0), .agg (cBig a1)] [] K = g_134 @s_142 @s_161 @s_162 @s_163 a0 a1 fun v0 v1 => K (.tuple [.agg (cBig v0), .agg (cBig v1)]) [] := by kernel_rfl
theorem ok_134 : EntryOK Try.prog 134 (e_134 @s_134) := by
  refine entry_of (T := t_134 @s_142 @s_161 @s_162 @s_163) ⟨tabOK_of_all tys_ok, eqsOK_of_all eqs_ok, fun g E h => ?_, fun g t h => (by cases h)⟩ mixed Try.func134 (show Try.f134.body = some (Try.f134.body.getD .skip) by kernel_rfl) (by kernel_rfl) (no_pieces rfl _) ?_
  · have := look_mem h
    simp only [t_134, List.mem_cons, List.not_mem_nil, or_false, Prod.mk.injEq] at this
    rcases this with ⟨rfl, rfl⟩ | ⟨rfl, rfl⟩ | ⟨rfl, rfl⟩ | ⟨rfl, rfl⟩
    · exact ok_142
    · exact ok_161
    · exact ok_162
    · exact ok_163
  · intro ρ args bs k r h
    unfold e_134 at h
    split at h
    · rename_i a0_0 a0_1 a0_2 a1_0 a1_1 a1_2
      exact (run_134 @s_142 @s_161 @s_162 @s_163 (⟨a0_0, a0_1, a0_2⟩ : Big) (⟨a1_0, a1_1, a1_2⟩ : Big) k).trans h
    · cases h

/-- ullage/span.ratio -/
abbrev S_127 : Type 1 := ∀ {ρ : Type}, Int → Int → (Big → Big → Option ρ) → Option ρ
noncomputable def g_127 (s_133 : S_133) (s_134 : S_134) (s_156 : S_156) {ρ : Type} (a0 : Int) (a1 : Int) (k : Big → Big → Option ρ) : Option ρ :=
  s_133 a0 fun v0 =>
    s_156 v0 32 fun v0 =>
      s_133 a1 fun v0_1 =>
        s_134 { neg := !v0.neg == v0_1.neg, hi := v0.hi, lo := v0.lo } { neg := Bool.false, hi := v0_1.hi, lo := v0_1.lo } fun v0 v1 => k v0 v1
noncomputable def s_127 : S_127 := @fun _ a0 a1 k => g_127 @s_133 @s_134 @s_156 a0 a1 k
noncomputable def e_127 (s : S_127) : Entry := fun _ args bs k =>
  match args, bs with
  | [.int .i64 a0, .int .i64 a1], [] => s a0 a1 fun v0 v1 => k (.tuple [.agg (cBig v0), .agg (cBig v1)]) []
  | _, _ => none
noncomputable def t_127 (s_133 : S_133) (s_134 : S_134) (s_156 : S_156) : Tab := { ty := tys, eqs := eqs, call := [(133, e_133 @s_133), (134, e_134 @s_134), (156, e_156 @s_156)], fuel := 64 }
theorem run_127 (s_133 : S_133) (s_134 : S_134) (s_156 : S_156) {ρ : Type} (a0 : Int) (a1 : Int) (K : AV → List Blk → Option ρ) :
    runF (t_127 @s_133 @s_134 @s_156) (Try.f127.body.getD .skip) Try.f127.results.toList Try.f127.ntmps [.int .i64 a0, .int .i64 a1] [] K = g_127 @s_133 @s_134 @s_156 a0 a1 fun v0 v1 => K (.tuple [.agg (cBig v0), .agg (cBig v1)]) [] := by kernel_rfl
theorem ok_127 : EntryOK Try.prog 127 (e_127 @s_127) := by
  refine entry_of (T := t_127 @s_133 @s_134 @s_156) ⟨tabOK_of_all tys_ok, eqsOK_of_all eqs_ok, fun g E h => ?_, fun g t h => (by cases h)⟩ mixed Try.func127 (show Try.f127.body = some (Try.f127.body.getD .skip) by kernel_rfl) (by kernel_rfl) (no_pieces rfl _) ?_
  · have := look_mem h
    simp only [t_127, List.mem_cons, List.not_mem_nil, or_false, Prod.mk.injEq] at this
    rcases this with ⟨rfl, rfl⟩ | ⟨rfl, rfl⟩ | ⟨rfl, rfl⟩
    · exact ok_133
    · exact ok_134
    · exact ok_156
  · intro ρ args bs k r h
    unfold e_127 at h
    split at h
    · rename_i a0 a1
      exact (run_127 @s_133 @s_134 @s_156 a0 a1 k).trans h
    · cases h

/-- ullage/span.Neg -/
abbrev S_103 : Type 1 := ∀ {ρ : Type}, Span → (Span → Int → Option ρ) → Option ρ
noncomputable def g_103 (s_42 : S_42) {ρ : Type} (a0 : Span) (k : Span → Int → Option ρ) : Option ρ :=
  s_42 a0 fun v0 => Go.Ull.sel (v0 != 0) (k { lo := 0, hi := 0 } v0) (k { lo := Go.IntKind.i64.wrap (0 - a0.hi), hi := Go.IntKind.i64.wrap (0 - a0.lo) } 0)
noncomputable def s_103 : S_103 := @fun _ a0 k => g_103 @s_42 a0 k
noncomputable def e_103 (s : S_103) : Entry := fun _ args bs k =>
  match args, bs with
  | [.agg [.int .i64 a0_0, .int .i64 a0_1]], [] => s (⟨a0_0, a0_1⟩ : Span) fun v0 v1 => k (.tuple [.agg (cSpan v0), .int .i64 v1]) []
  | _, _ => none
noncomputable def t_103 (s_42 : S_42) : Tab := { ty := tys, eqs := eqs, call := [(42, e_42 @s_42)], fuel := 64 }
theorem run_103 (s_42 : S_42) {ρ : Type} (a0 : Span) (K : AV → List Blk → Option ρ) :
    runF (t_103 @s_42) (Try.f103.body.getD .skip) Try.f103.results.toList Try.f103.ntmps [.agg (cSpan a0)] [] K = g_103 @s_42 a0 fun v0 v1 => K (.tuple [.agg (cSpan v0), .int .i64 v1]) [] := by kernel_rfl
theorem ok_103 : EntryOK Try.prog 103 (e_103 @s_103) := by
  refine entry_of (T := t_103 @s_42) ⟨tabOK_of_all tys_ok, eqsOK_of_all eqs_ok, fun g E h => ?_, fun g t h => (by cases h)⟩ mixed Try.func103 (show Try.f103.body = some (Try.f103.body.getD .skip) by kernel_rfl) (by kernel_rfl) (no_pieces rfl _) ?_
  · have := look_mem h
    simp only [t_103, List.mem_cons, List.not_mem_nil, or_false, Prod.mk.injEq] at this
    rcases this with ⟨rfl, rfl⟩
    · exact ok_42
  · intro ρ args bs k r h
    unfold e_103 at h
    split at h
    · rename_i a0_0 a0_1
      exact (run_103 @s_42 (⟨a0_0, a0_1⟩ : Span) k).trans h
    · cases h

/-- ullage/span.Add$1 -/
abbrev S_141 : Type 1 := ∀ {ρ : Type}, Int → Int → (Big → Option ρ) → Option ρ
noncomputable def g_141 (s_133 : S_133) (s_142 : S_142) {ρ : Type} (a0 : Int) (a1 : Int) (k : Big → Option ρ) : Option ρ :=
  s_133 a0 fun v0 => s_133 a1 fun v0_1 => s_142 v0 v0_1 fun v0 => k v0
noncomputable def s_141 : S_141 := @fun _ a0 a1 k => g_141 @s_133 @s_142 a0 a1 k
noncomputable def e_141 (s : S_141) : Entry := fun _ args bs k =>
  match args, bs with
  | [.int .i64 a0, .int .i64 a1], [] => s a0 a1 fun v0 => k (.agg (cBig v0)) []
  | _, _ => none
noncomputable def t_141 (s_133 : S_133) (s_142 : S_142) : Tab := { ty := tys, eqs := eqs, call := [(133, e_133 @s_133), (142, e_142 @s_142)], fuel := 64 }
theorem run_141 (s_133 : S_133) (s_142 : S_142) {ρ : Type} (a0 : Int) (a1 : Int) (K : AV → List Blk → Option ρ) :
    runF (t_141 @s_133 @s_142) (Try.f141.body.getD .skip) Try.f141.results.toList Try.f141.ntmps [.int .i64 a0, .int .i64 a1] [] K = g_141 @s_133 @s_142 a0 a1 fun v0 => K (.agg (cBig v0)) [] := by kernel_rfl
theorem ok_141 : EntryOK Try.prog 141 (e_141 @s_141) := by
  refine entry_of (T := t_141 @s_133 @s_142) ⟨tabOK_of_all tys_ok, eqsOK_of_all eqs_ok, fun g E h => ?_, fun g t h => (by cases h)⟩ mixed Try.func141 (show Try.f141.body = some (Try.f141.body.getD .skip) by kernel_rfl) (by kernel_rfl) (no_pieces rfl _) ?_
  · have := look_mem h
    simp only [t_141, List.mem_cons, List.not_mem_nil, or_false, Prod.mk.injEq] at this
    rcases this with ⟨rfl, rfl⟩ | ⟨rfl, rfl⟩
    · exact ok_133
    · exact ok_142
  · intro ρ args bs k r h
    unfold e_141 at h
    split at h
    · rename_i a0 a1
      exact (run_141 @s_133 @s_142 a0 a1 k).trans h
    · cases h

/-- ullage/span.checked, in place -/
noncomputable def n_76 (s_42 : S_42) : Entry := runR tys eqs [(42, e_42 @s_42)] [] [] { g := 76, fn := Try.f76 }
theorem nok_76 {s_42 : S_42} (h_42 : EntryOK Try.prog 42 (e_42 @s_42)) : EntryOK Try.prog 76 (n_76 @s_42) := by
  refine runR_ok (x := { g := 76, fn := Try.f76 }) tys_ok eqs_ok mixed (fun g E h => ?_) (fun g SE h => (by cases h)) (fun g t h => (by cases h)) ⟨Try.func76, by kernel_rfl, by kernel_rfl, by kernel_rfl⟩
  · have := look_mem h
    simp only [List.mem_cons, List.not_mem_nil, or_false, Prod.mk.injEq] at this
    rcases this with ⟨rfl, rfl⟩
    · exact h_42

/-- ullage/span.Add -/
abbrev S_104 : Type 1 := ∀ {ρ : Type}, Span → Span → (Span → Int → Option ρ) → Option ρ
noncomputable def g_104 (s_42 : S_42) (s_129 : S_129) (s_141 : S_141) {ρ : Type} (a0 : Span) (a1 : Span) (k : Span → Int → Option ρ) : Option ρ :=
  s_42 a0 fun v0 =>
    Go.Ull.sel (v0 != 0)
      (Go.Ull.sel (v0 != 0) (k { lo := 0, hi := 0 } v0)
        (s_141 a0.lo a1.lo fun v0 => s_141 a0.hi a1.hi fun v0_1 => s_129 v0 v0_1 fun v0 v1 => k v0 v1))
      (s_42 a1 fun v0 =>
        Go.Ull.sel (v0 != 0)
          (Go.Ull.sel (v0 != 0) (k { lo := 0, hi := 0 } v0)
            (s_141 a0.lo a1.lo fun v0 => s_141 a0.hi a1.hi fun v0_1 => s_129 v0 v0_1 fun v0 v1 => k v0 v1))
          (s_141 a0.lo a1.lo fun v0 => s_141 a0.hi a1.hi fun v0_1 => s_129 v0 v0_1 fun v0 v1 => k v0 v1))
noncomputable def s_104 : S_104 := @fun _ a0 a1 k => g_104 @s_42 @s_129 @s_141 a0 a1 k
noncomputable def e_104 (s : S_104) : Entry := fun _ args bs k =>
  match args, bs with
  | [.agg [.int .i64 a0_0, .int .i64 a0_1], .agg [.int .i64 a1_0, .int .i64 a1_1]], [] => s (⟨a0_0, a0_1⟩ : Span) (⟨a1_0, a1_1⟩ : Span) fun v0 v1 => k (.tuple [.agg (cSpan v0), .int .i64 v1]) []
  | _, _ => none
noncomputable def t_104 (s_42 : S_42) (s_129 : S_129) (s_141 : S_141) : Tab := { ty := tys, eqs := eqs, call := [(76, n_76 @s_42), (129, e_129 @s_129), (141, e_141 @s_141)], fuel := 64 }
theorem run_104 (s_42 : S_42) (s_129 : S_129) (s_141 : S_141) {ρ : Type} (a0 : Span) (a1 : Span) (K : AV → List Blk → Option ρ) :
    runF (t_104 @s_42 @s_129 @s_141) (Try.f104.body.getD .skip) Try.f104.results.toList Try.f104.ntmps [.agg (cSpan a0), .agg (cSpan a1)] [] K = g_104 @s_42 @s_129 @s_141 a0 a1 fun v0 v1 => K (.tuple [.agg (cSpan v0), .int .i64 v1]) [] := by kernel_rfl
theorem ok_104 : EntryOK Try.prog 104 (e_104 @s_104) := by
  refine entry_of (T := t_104 @s_42 @s_129 @s_141) ⟨tabOK_of_all tys_ok, eqsOK_of_all eqs_ok, fun g E h => ?_, fun g t h => (by cases h)⟩ mixed Try.func104 (show Try.f104.body = some (Try.f104.body.getD .skip) by kernel_rfl) (by kernel_rfl) (no_pieces rfl _) ?_
  · have := look_mem h
    simp only [t_104, List.mem_cons, List.not_mem_nil, or_false, Prod.mk.injEq] at this
    rcases this with ⟨rfl, rfl⟩ | ⟨rfl, rfl⟩ | ⟨rfl, rfl⟩
    · exact nok_76 ok_42
    · exact ok_129
    · exact ok_141
  · intro ρ args bs k r h
    unfold e_104 at h
    split at h
    · rename_i a0_0 a0_1 a1_0 a1_1
      exact (run_104 @s_42 @s_129 @s_141 (⟨a0_0, a0_1⟩ : Span) (⟨a1_0, a1_1⟩ : Span) k).trans h
    · cases h

/-- ullage/span.Sub -/
abbrev S_62 : Type 1 := ∀ {ρ : Type}, Span → Span → (Span → Int → Option ρ) → Option ρ
noncomputable def g_62 (s_103 : S_103) (s_104 : S_104) {ρ : Type} (a0 : Span) (a1 : Span) (k : Span → Int → Option ρ) : Option ρ :=
  s_103 a1 fun v0 v1 => Go.Ull.sel (v1 != 0) (k { lo := 0, hi := 0 } v1) (s_104 a0 v0 fun v0 v1 => k v0 v1)
noncomputable def s_62 : S_62 := @fun _ a0 a1 k => g_62 @s_103 @s_104 a0 a1 k
noncomputable def e_62 (s : S_62) : Entry := fun _ args bs k =>
  match args, bs with
  | [.agg [.int .i64 a0_0, .int .i64 a0_1], .agg [.int .i64 a1_0, .int .i64 a1_1]], [] => s (⟨a0_0, a0_1⟩ : Span) (⟨a1_0, a1_1⟩ : Span) fun v0 v1 => k (.tuple [.agg (cSpan v0), .int .i64 v1]) []
  | _, _ => none
noncomputable def t_62 (s_103 : S_103) (s_104 : S_104) : Tab := { ty := tys, eqs := eqs, call := [(103, e_103 @s_103), (104, e_104 @s_104)], fuel := 64 }
theorem run_62 (s_103 : S_103) (s_104 : S_104) {ρ : Type} (a0 : Span) (a1 : Span) (K : AV → List Blk → Option ρ) :
    runF (t_62 @s_103 @s_104) (Try.f62.body.getD .skip) Try.f62.results.toList Try.f62.ntmps [.agg (cSpan a0), .agg (cSpan a1)] [] K = g_62 @s_103 @s_104 a0 a1 fun v0 v1 => K (.tuple [.agg (cSpan v0), .int .i64 v1]) [] := by kernel_rfl
theorem ok_62 : EntryOK Try.prog 62 (e_62 @s_62) := by
  refine entry_of (T := t_62 @s_103 @s_104) ⟨tabOK_of_all tys_ok, eqsOK_of_all eqs_ok, fun g E h => ?_, fun g t h => (by cases h)⟩ mixed Try.func62 (show Try.f62.body = some (Try.f62.body.getD .skip) by kernel_rfl) (by kernel_rfl) (no_pieces rfl _) ?_
  · have := look_mem h
    simp only [t_62, List.mem_cons, List.not_mem_nil, or_false, Prod.mk.injEq] at this
    rcases this with ⟨rfl, rfl⟩ | ⟨rfl, rfl⟩
    · exact ok_103
    · exact ok_104
  · intro ρ args bs k r h
    unfold e_62 at h
    split at h
    · rename_i a0_0 a0_1 a1_0 a1_1
      exact (run_62 @s_103 @s_104 (⟨a0_0, a0_1⟩ : Span) (⟨a1_0, a1_1⟩ : Span) k).trans h
    · cases h

/-- ullage/span.Mul$1 -/
abbrev S_131 : Type 1 := ∀ {ρ : Type}, Int → Int → (Big → Option ρ) → Option ρ
noncomputable def g_131 (s_132 : S_132) {ρ : Type} (a0 : Int) (a1 : Int) (k : Big → Option ρ) : Option ρ :=
  s_132 a0 a1 fun v0 => k v0
noncomputable def s_131 : S_131 := @fun _ a0 a1 k => g_131 @s_132 a0 a1 k
noncomputable def e_131 (s : S_131) : Entry := fun _ args bs k =>
  match args, bs with
  | [.int .i64 a0, .int .i64 a1], [] => s a0 a1 fun v0 => k (.agg (cBig v0)) []
  | _, _ => none
noncomputable def t_131 (s_132 : S_132) : Tab := { ty := tys, eqs := eqs, call := [(132, e_132 @s_132)], fuel := 64 }
theorem run_131 (s_132 : S_132) {ρ : Type} (a0 : Int) (a1 : Int) (K : AV → List Blk → Option ρ) :
    runF (t_131 @s_132) (Try.f131.body.getD .skip) Try.f131.results.toList Try.f131.ntmps [.int .i64 a0, .int .i64 a1] [] K = g_131 @s_132 a0 a1 fun v0 => K (.agg (cBig v0)) [] := by kernel_rfl
theorem ok_131 : EntryOK Try.prog 131 (e_131 @s_131) := by
  refine entry_of (T := t_131 @s_132) ⟨tabOK_of_all tys_ok, eqsOK_of_all eqs_ok, fun g E h => ?_, fun g t h => (by cases h)⟩ mixed Try.func131 (show Try.f131.body = some (Try.f131.body.getD .skip) by kernel_rfl) (by kernel_rfl) (no_pieces rfl _) ?_
  · have := look_mem h
    simp only [t_131, List.mem_cons, List.not_mem_nil, or_false, Prod.mk.injEq] at this
    rcases this with ⟨rfl, rfl⟩
    · exact ok_132
  · intro ρ args bs k r h
    unfold e_131 at h
    split at h
    · rename_i a0 a1
      exact (run_131 @s_132 a0 a1 k).trans h
    · cases h

/-- ullage/span.Mul -/
abbrev S_97 : Type 1 := ∀ {ρ : Type}, Span → Span → (Span → Int → Option ρ) → Option ρ
noncomputable def g_97 (s_42 : S_42) (s_128 : S_128) (s_129 : S_129) (s_131 : S_131) (s_133 : S_133) (s_134 : S_134) {ρ : Type} (a0 : Span) (a1 : Span) (k : Span → Int → Option ρ) : Option ρ :=
  s_42 a0 fun v0 =>
    Go.Ull.sel (v0 != 0)
      (Go.Ull.sel (v0 != 0) (k { lo := 0, hi := 0 } v0)
        (s_131 a0.lo a1.lo fun v0 =>
          s_131 a0.lo a1.hi fun v0_1 =>
            s_131 a0.hi a1.lo fun v0_2 =>
              s_131 a0.hi a1.hi fun v0_3 =>
                s_128 [v0, v0_1, v0_2, v0_3] fun v0 v1 =>
                  s_133 4294967296 fun v0_4 =>
                    s_134 v0 v0_4 fun v0 v1_1 => s_134 v1 v0_4 fun v0_5 v1 => s_129 v0 v1 fun v0 v1 => k v0 v1))
      (s_42 a1 fun v0 =>
        Go.Ull.sel (v0 != 0)
          (Go.Ull.sel (v0 != 0) (k { lo := 0, hi := 0 } v0)
            (s_131 a0.lo a1.lo fun v0 =>
              s_131 a0.lo a1.hi fun v0_1 =>
                s_131 a0.hi a1.lo fun v0_2 =>
                  s_131 a0.hi a1.hi fun v0_3 =>
                    s_128 [v0, v0_1, v0_2, v0_3] fun v0 v1 =>
                      s_133 4294967296 fun v0_4 =>
                        s_134 v0 v0_4 fun v0 v1_1 => s_134 v1 v0_4 fun v0_5 v1 => s_129 v0 v1 fun v0 v1 => k v0 v1))
          (s_131 a0.lo a1.lo fun v0 =>
            s_131 a0.lo a1.hi fun v0_1 =>
              s_131 a0.hi a1.lo fun v0_2 =>
                s_131 a0.hi a1.hi fun v0_3 =>
                  s_128 [v0, v0_1, v0_2, v0_3] fun v0 v1 =>
                    s_133 4294967296 fun v0_4 =>
                      s_134 v0 v0_4 fun v0 v1_1 => s_134 v1 v0_4 fun v0_5 v1 => s_129 v0 v1 fun v0 v1 => k v0 v1))
noncomputable def s_97 : S_97 := @fun _ a0 a1 k => g_97 @s_42 @s_128 @s_129 @s_131 @s_133 @s_134 a0 a1 k
noncomputable def e_97 (s : S_97) : Entry := fun _ args bs k =>
  match args, bs with
  | [.agg [.int .i64 a0_0, .int .i64 a0_1], .agg [.int .i64 a1_0, .int .i64 a1_1]], [] => s (⟨a0_0, a0_1⟩ : Span) (⟨a1_0, a1_1⟩ : Span) fun v0 v1 => k (.tuple [.agg (cSpan v0), .int .i64 v1]) []
  | _, _ => none
noncomputable def t_97 (s_42 : S_42) (s_128 : S_128) (s_129 : S_129) (s_131 : S_131) (s_133 : S_133) (s_134 : S_134) : Tab := { ty := tys, eqs := eqs, call := [(76, n_76 @s_42), (128, e_128 @s_128), (129, e_129 @s_129), (131, e_131 @s_131), (133, e_133 @s_133), (134, e_134 @s_134)], fuel := 64 }
theorem run_97 (s_42 : S_42) (s_128 : S_128) (s_129 : S_129) (s_131 : S_131) (s_133 : S_133) (s_134 : S_134) {ρ : Type} (a0 : Span) (a1 : Span) (K : AV → List Blk → Option ρ) :
    runF (t_97 @s_42 @s_128 @s_129 @s_131 @s_133 @s_134) (Try.f97.body.getD .skip) Try.f97.results.toList Try.f97.ntmps [.agg (cSpan a0), .agg (cSpan a1)] [] K = g_97 @s_42 @s_128 @s_129 @s_131 @s_133 @s_134 a0 a1 fun v0 v1 => K (.tuple [.agg (cSpan v0), .int .i64 v1]) [] := by kernel_rfl
theorem ok_97 : EntryOK Try.prog 97 (e_97 @s_97) := by
  refine entry_of (T := t_97 @s_42 @s_128 @s_129 @s_131 @s_133 @s_134) ⟨tabOK_of_all tys_ok, eqsOK_of_all eqs_ok, fun g E h => ?_, fun g t h => (by cases h)⟩ mixed Try.func97 (show Try.f97.body = some (Try.f97.body.getD .skip) by kernel_rfl) (by kernel_rfl) (no_pieces rfl _) ?_
  · have := look_mem h
    simp only [t_97, List.mem_cons, List.not_mem_nil, or_false, Prod.mk.injEq] at this
    rcases this with ⟨rfl, rfl⟩ | ⟨rfl, rfl⟩ | ⟨rfl, rfl⟩ | ⟨rfl, rfl⟩ | ⟨rfl, rfl⟩ | ⟨rfl, rfl⟩
    · exact nok_76 ok_42
    · exact ok_128
    · exact ok_129
    · exact ok_131
    · exact ok_133
    · exact ok_134
  · intro ρ args bs k r h
    unfold e_97 at h
    split at h
    · rename_i a0_0 a0_1 a1_0 a1_1
      exact (run_97 @s_42 @s_128 @s_129 @s_131 @s_133 @s_134 (⟨a0_0, a0_1⟩ : Span) (⟨a1_0, a1_1⟩ : Span) k).trans h
    · cases h

/-- ullage/span.Abs -/
abbrev S_151 : Type 1 := ∀ {ρ : Type}, Span → (Span → Int → Option ρ) → Option ρ
noncomputable def g_151 (s_42 : S_42) (s_103 : S_103) {ρ : Type} (a0 : Span) (k : Span → Int → Option ρ) : Option ρ :=
  s_42 a0 fun v0 =>
    Go.Ull.sel (v0 != 0) (k { lo := 0, hi := 0 } 2)
      (Go.Ull.sel (Decidable.decide (a0.lo ≥ 0)) (k a0 0)
        (Go.Ull.sel (Decidable.decide (a0.hi ≤ 0)) (s_103 a0 fun v0 v1 => k v0 v1)
          (k { lo := 0, hi := if a0.hi > Go.IntKind.i64.wrap (0 - a0.lo) then a0.hi else Go.IntKind.i64.wrap (0 - a0.lo) } 0)))
noncomputable def s_151 : S_151 := @fun _ a0 k => g_151 @s_42 @s_103 a0 k
noncomputable def e_151 (s : S_151) : Entry := fun _ args bs k =>
  match args, bs with
  | [.agg [.int .i64 a0_0, .int .i64 a0_1]], [] => s (⟨a0_0, a0_1⟩ : Span) fun v0 v1 => k (.tuple [.agg (cSpan v0), .int .i64 v1]) []
  | _, _ => none
noncomputable def t_151 (s_42 : S_42) (s_103 : S_103) : Tab := { ty := tys, eqs := eqs, call := [(42, e_42 @s_42), (103, e_103 @s_103)], fuel := 64 }
theorem run_151 (s_42 : S_42) (s_103 : S_103) {ρ : Type} (a0 : Span) (K : AV → List Blk → Option ρ) :
    runF (t_151 @s_42 @s_103) (Try.f151.body.getD .skip) Try.f151.results.toList Try.f151.ntmps [.agg (cSpan a0)] [] K = g_151 @s_42 @s_103 a0 fun v0 v1 => K (.tuple [.agg (cSpan v0), .int .i64 v1]) [] := by kernel_rfl
theorem ok_151 : EntryOK Try.prog 151 (e_151 @s_151) := by
  refine entry_of (T := t_151 @s_42 @s_103) ⟨tabOK_of_all tys_ok, eqsOK_of_all eqs_ok, fun g E h => ?_, fun g t h => (by cases h)⟩ mixed Try.func151 (show Try.f151.body = some (Try.f151.body.getD .skip) by kernel_rfl) (by kernel_rfl) (no_pieces rfl _) ?_
  · have := look_mem h
    simp only [t_151, List.mem_cons, List.not_mem_nil, or_false, Prod.mk.injEq] at this
    rcases this with ⟨rfl, rfl⟩ | ⟨rfl, rfl⟩
    · exact ok_42
    · exact ok_103
  · intro ρ args bs k r h
    unfold e_151 at h
    split at h
    · rename_i a0_0 a0_1
      exact (run_151 @s_42 @s_103 (⟨a0_0, a0_1⟩ : Span) k).trans h
    · cases h

/-- ullage/span.Square -/
abbrev S_124 : Type 1 := ∀ {ρ : Type}, Span → (Span → Int → Option ρ) → Option ρ
noncomputable def g_124 (s_97 : S_97) (s_151 : S_151) {ρ : Type} (a0 : Span) (k : Span → Int → Option ρ) : Option ρ :=
  s_151 a0 fun v0 v1 => Go.Ull.sel (v1 != 0) (k { lo := 0, hi := 0 } v1) (s_97 v0 v0 fun v0 v1 => k v0 v1)
noncomputable def s_124 : S_124 := @fun _ a0 k => g_124 @s_97 @s_151 a0 k
noncomputable def e_124 (s : S_124) : Entry := fun _ args bs k =>
  match args, bs with
  | [.agg [.int .i64 a0_0, .int .i64 a0_1]], [] => s (⟨a0_0, a0_1⟩ : Span) fun v0 v1 => k (.tuple [.agg (cSpan v0), .int .i64 v1]) []
  | _, _ => none
noncomputable def t_124 (s_97 : S_97) (s_151 : S_151) : Tab := { ty := tys, eqs := eqs, call := [(97, e_97 @s_97), (151, e_151 @s_151)], fuel := 64 }
theorem run_124 (s_97 : S_97) (s_151 : S_151) {ρ : Type} (a0 : Span) (K : AV → List Blk → Option ρ) :
    runF (t_124 @s_97 @s_151) (Try.f124.body.getD .skip) Try.f124.results.toList Try.f124.ntmps [.agg (cSpan a0)] [] K = g_124 @s_97 @s_151 a0 fun v0 v1 => K (.tuple [.agg (cSpan v0), .int .i64 v1]) [] := by kernel_rfl
theorem ok_124 : EntryOK Try.prog 124 (e_124 @s_124) := by
  refine entry_of (T := t_124 @s_97 @s_151) ⟨tabOK_of_all tys_ok, eqsOK_of_all eqs_ok, fun g E h => ?_, fun g t h => (by cases h)⟩ mixed Try.func124 (show Try.f124.body = some (Try.f124.body.getD .skip) by kernel_rfl) (by kernel_rfl) (no_pieces rfl _) ?_
  · have := look_mem h
    simp only [t_124, List.mem_cons, List.not_mem_nil, or_false, Prod.mk.injEq] at this
    rcases this with ⟨rfl, rfl⟩ | ⟨rfl, rfl⟩
    · exact ok_97
    · exact ok_151
  · intro ρ args bs k r h
    unfold e_124 at h
    split at h
    · rename_i a0_0 a0_1
      exact (run_124 @s_97 @s_151 (⟨a0_0, a0_1⟩ : Span) k).trans h
    · cases h

/-- ullage/span.Root -/
abbrev S_137 : Type 1 := ∀ {ρ : Type}, Span → (Span → Int → Option ρ) → Option ρ
noncomputable def g_137 (s_42 : S_42) (s_165 : S_165) {ρ : Type} (a0 : Span) (k : Span → Int → Option ρ) : Option ρ :=
  s_42 a0 fun v0 =>
    Go.Ull.sel (v0 != 0) (k { lo := 0, hi := 0 } v0)
      (Go.Ull.sel (Decidable.decide (a0.hi < 0)) (k { lo := 0, hi := 0 } 4)
        (s_165 (if 0 > a0.lo then 0 else a0.lo) fun v0 v1 =>
          s_165 a0.hi fun v0_1 v1 =>
            Go.Ull.sel (!v1) (k { lo := Go.IntKind.i64.wrap v0, hi := Go.IntKind.i64.wrap (Go.IntKind.u64.wrap (v0_1 + 1)) } 0) (k { lo := Go.IntKind.i64.wrap v0, hi := Go.IntKind.i64.wrap v0_1 } 0)))
noncomputable def s_137 : S_137 := @fun _ a0 k => g_137 @s_42 @s_165 a0 k
noncomputable def e_137 (s : S_137) : Entry := fun _ args bs k =>
  match args, bs with
  | [.agg [.int .i64 a0_0, .int .i64 a0_1]], [] => s (⟨a0_0, a0_1⟩ : Span) fun v0 v1 => k (.tuple [.agg (cSpan v0), .int .i64 v1]) []
  | _, _ => none
noncomputable def t_137 (s_42 : S_42) (s_165 : S_165) : Tab := { ty := tys, eqs := eqs, call := [(42, e_42 @s_42), (165, e_165 @s_165)], fuel := 64 }
theorem run_137 (s_42 : S_42) (s_165 : S_165) {ρ : Type} (a0 : Span) (K : AV → List Blk → Option ρ) :
    runF (t_137 @s_42 @s_165) (Try.f137.body.getD .skip) Try.f137.results.toList Try.f137.ntmps [.agg (cSpan a0)] [] K = g_137 @s_42 @s_165 a0 fun v0 v1 => K (.tuple [.agg (cSpan v0), .int .i64 v1]) [] := by kernel_rfl
theorem ok_137 : EntryOK Try.prog 137 (e_137 @s_137) := by
  refine entry_of (T := t_137 @s_42 @s_165) ⟨tabOK_of_all tys_ok, eqsOK_of_all eqs_ok, fun g E h => ?_, fun g t h => (by cases h)⟩ mixed Try.func137 (show Try.f137.body = some (Try.f137.body.getD .skip) by kernel_rfl) (by kernel_rfl) (no_pieces rfl _) ?_
  · have := look_mem h
    simp only [t_137, List.mem_cons, List.not_mem_nil, or_false, Prod.mk.injEq] at this
    rcases this with ⟨rfl, rfl⟩ | ⟨rfl, rfl⟩
    · exact ok_42
    · exact ok_165
  · intro ρ args bs k r h
    unfold e_137 at h
    split at h
    · rename_i a0_0 a0_1
      exact (run_137 @s_42 @s_165 (⟨a0_0, a0_1⟩ : Span) k).trans h
    · cases h

/-- ullage/span.Hull -/
abbrev S_166 : Type 1 := ∀ {ρ : Type}, Span → Span → (Span → Int → Option ρ) → Option ρ
noncomputable def g_166 (s_42 : S_42) {ρ : Type} (a0 : Span) (a1 : Span) (k : Span → Int → Option ρ) : Option ρ :=
  s_42 a0 fun v0 =>
    Go.Ull.sel (v0 != 0) (Go.Ull.sel (v0 != 0) (k { lo := 0, hi := 0 } v0) (k { lo := if a1.lo < a0.lo then a1.lo else a0.lo, hi := if a1.hi > a0.hi then a1.hi else a0.hi } 0))
      (s_42 a1 fun v0 =>
        Go.Ull.sel (v0 != 0) (Go.Ull.sel (v0 != 0) (k { lo := 0, hi := 0 } v0) (k { lo := if a1.lo < a0.lo then a1.lo else a0.lo, hi := if a1.hi > a0.hi then a1.hi else a0.hi } 0))
          (k { lo := if a1.lo < a0.lo then a1.lo else a0.lo, hi := if a1.hi > a0.hi then a1.hi else a0.hi } 0))
noncomputable def s_166 : S_166 := @fun _ a0 a1 k => g_166 @s_42 a0 a1 k
noncomputable def e_166 (s : S_166) : Entry := fun _ args bs k =>
  match args, bs with
  | [.agg [.int .i64 a0_0, .int .i64 a0_1], .agg [.int .i64 a1_0, .int .i64 a1_1]], [] => s (⟨a0_0, a0_1⟩ : Span) (⟨a1_0, a1_1⟩ : Span) fun v0 v1 => k (.tuple [.agg (cSpan v0), .int .i64 v1]) []
  | _, _ => none
noncomputable def t_166 (s_42 : S_42) : Tab := { ty := tys, eqs := eqs, call := [(76, n_76 @s_42)], fuel := 64 }
theorem run_166 (s_42 : S_42) {ρ : Type} (a0 : Span) (a1 : Span) (K : AV → List Blk → Option ρ) :
    runF (t_166 @s_42) (Try.f166.body.getD .skip) Try.f166.results.toList Try.f166.ntmps [.agg (cSpan a0), .agg (cSpan a1)] [] K = g_166 @s_42 a0 a1 fun v0 v1 => K (.tuple [.agg (cSpan v0), .int .i64 v1]) [] := by kernel_rfl
theorem ok_166 : EntryOK Try.prog 166 (e_166 @s_166) := by
  refine entry_of (T := t_166 @s_42) ⟨tabOK_of_all tys_ok, eqsOK_of_all eqs_ok, fun g E h => ?_, fun g t h => (by cases h)⟩ mixed Try.func166 (show Try.f166.body = some (Try.f166.body.getD .skip) by kernel_rfl) (by kernel_rfl) (no_pieces rfl _) ?_
  · have := look_mem h
    simp only [t_166, List.mem_cons, List.not_mem_nil, or_false, Prod.mk.injEq] at this
    rcases this with ⟨rfl, rfl⟩
    · exact nok_76 ok_42
  · intro ρ args bs k r h
    unfold e_166 at h
    split at h
    · rename_i a0_0 a0_1 a1_0 a1_1
      exact (run_166 @s_42 (⟨a0_0, a0_1⟩ : Span) (⟨a1_0, a1_1⟩ : Span) k).trans h
    · cases h

/-- ullage/span.Wide -/
abbrev S_167 : Type 1 := ∀ {ρ : Type}, Span → (Int → Int → Option ρ) → Option ρ
noncomputable def g_167 (s_42 : S_42) {ρ : Type} (a0 : Span) (k : Int → Int → Option ρ) : Option ρ :=
  s_42 a0 fun v0 =>
    Go.Ull.sel (v0 != 0) (k 0 v0)
      (Go.Ull.sel (Decidable.decide (a0.lo < 0)) (Go.Ull.sel (Decidable.decide (a0.hi > Go.IntKind.i64.wrap (9223372036854775807 + a0.lo))) (k 0 4) (k (Go.IntKind.i64.wrap (a0.hi - a0.lo)) 0))
        (k (Go.IntKind.i64.wrap (a0.hi - a0.lo)) 0))
noncomputable def s_167 : S_167 := @fun _ a0 k => g_167 @s_42 a0 k
noncomputable def e_167 (s : S_167) : Entry := fun _ args bs k =>
  match args, bs with
  | [.agg [.int .i64 a0_0, .int .i64 a0_1]], [] => s (⟨a0_0, a0_1⟩ : Span) fun v0 v1 => k (.tuple [.int .i64 v0, .int .i64 v1]) []
  | _, _ => none
noncomputable def t_167 (s_42 : S_42) : Tab := { ty := tys, eqs := eqs, call := [(42, e_42 @s_42)], fuel := 64 }
theorem run_167 (s_42 : S_42) {ρ : Type} (a0 : Span) (K : AV → List Blk → Option ρ) :
    runF (t_167 @s_42) (Try.f167.body.getD .skip) Try.f167.results.toList Try.f167.ntmps [.agg (cSpan a0)] [] K = g_167 @s_42 a0 fun v0 v1 => K (.tuple [.int .i64 v0, .int .i64 v1]) [] := by kernel_rfl
theorem ok_167 : EntryOK Try.prog 167 (e_167 @s_167) := by
  refine entry_of (T := t_167 @s_42) ⟨tabOK_of_all tys_ok, eqsOK_of_all eqs_ok, fun g E h => ?_, fun g t h => (by cases h)⟩ mixed Try.func167 (show Try.f167.body = some (Try.f167.body.getD .skip) by kernel_rfl) (by kernel_rfl) (no_pieces rfl _) ?_
  · have := look_mem h
    simp only [t_167, List.mem_cons, List.not_mem_nil, or_false, Prod.mk.injEq] at this
    rcases this with ⟨rfl, rfl⟩
    · exact ok_42
  · intro ρ args bs k r h
    unfold e_167 at h
    split at h
    · rename_i a0_0 a0_1
      exact (run_167 @s_42 (⟨a0_0, a0_1⟩ : Span) k).trans h
    · cases h

/-- ullage/span.Within -/
abbrev S_47 : Type 1 := ∀ {ρ : Type}, Span → Span → (Bool → Option ρ) → Option ρ
noncomputable def g_47 (s_42 : S_42) {ρ : Type} (a0 : Span) (a1 : Span) (k : Bool → Option ρ) : Option ρ :=
  s_42 a0 fun v0 =>
    Go.Ull.sel (v0 != 0) (Go.Ull.sel (v0 == 0) (Go.Ull.sel (Decidable.decide (a1.lo ≤ a0.lo)) (k (Decidable.decide (a0.hi ≤ a1.hi))) (k Bool.false)) (k Bool.false))
      (s_42 a1 fun v0 =>
        Go.Ull.sel (v0 != 0) (Go.Ull.sel (v0 == 0) (Go.Ull.sel (Decidable.decide (a1.lo ≤ a0.lo)) (k (Decidable.decide (a0.hi ≤ a1.hi))) (k Bool.false)) (k Bool.false))
          (Go.Ull.sel (Decidable.decide (a1.lo ≤ a0.lo)) (k (Decidable.decide (a0.hi ≤ a1.hi))) (k Bool.false)))
noncomputable def s_47 : S_47 := @fun _ a0 a1 k => g_47 @s_42 a0 a1 k
noncomputable def e_47 (s : S_47) : Entry := fun _ args bs k =>
  match args, bs with
  | [.agg [.int .i64 a0_0, .int .i64 a0_1], .agg [.int .i64 a1_0, .int .i64 a1_1]], [] => s (⟨a0_0, a0_1⟩ : Span) (⟨a1_0, a1_1⟩ : Span) fun v0 => k (.bool v0) []
  | _, _ => none
noncomputable def t_47 (s_42 : S_42) : Tab := { ty := tys, eqs := eqs, call := [(76, n_76 @s_42)], fuel := 64 }
theorem run_47 (s_42 : S_42) {ρ : Type} (a0 : Span) (a1 : Span) (K : AV → List Blk → Option ρ) :
    runF (t_47 @s_42) (Try.f47.body.getD .skip) Try.f47.results.toList Try.f47.ntmps [.agg (cSpan a0), .agg (cSpan a1)] [] K = g_47 @s_42 a0 a1 fun v0 => K (.bool v0) [] := by kernel_rfl
theorem ok_47 : EntryOK Try.prog 47 (e_47 @s_47) := by
  refine entry_of (T := t_47 @s_42) ⟨tabOK_of_all tys_ok, eqsOK_of_all eqs_ok, fun g E h => ?_, fun g t h => (by cases h)⟩ mixed Try.func47 (show Try.f47.body = some (Try.f47.body.getD .skip) by kernel_rfl) (by kernel_rfl) (no_pieces rfl _) ?_
  · have := look_mem h
    simp only [t_47, List.mem_cons, List.not_mem_nil, or_false, Prod.mk.injEq] at this
    rcases this with ⟨rfl, rfl⟩
    · exact nok_76 ok_42
  · intro ρ args bs k r h
    unfold e_47 at h
    split at h
    · rename_i a0_0 a0_1 a1_0 a1_1
      exact (run_47 @s_42 (⟨a0_0, a0_1⟩ : Span) (⟨a1_0, a1_1⟩ : Span) k).trans h
    · cases h

/-- ullage/span.Scale -/
abbrev S_125 : Type 1 := ∀ {ρ : Type}, Span → Int → (Span → Int → Option ρ) → Option ρ
noncomputable def g_125 (s_42 : S_42) (s_128 : S_128) (s_129 : S_129) (s_132 : S_132) {ρ : Type} (a0 : Span) (a1 : Int) (k : Span → Int → Option ρ) : Option ρ :=
  s_42 a0 fun v0 =>
    Go.Ull.sel (v0 != 0) (k { lo := 0, hi := 0 } v0)
      (s_132 a0.lo a1 fun v0 =>
        s_132 a0.hi a1 fun v0_1 => s_128 [v0, v0_1] fun v0 v1 => s_129 v0 v1 fun v0 v1 => k v0 v1)
noncomputable def s_125 : S_125 := @fun _ a0 a1 k => g_125 @s_42 @s_128 @s_129 @s_132 a0 a1 k
noncomputable def e_125 (s : S_125) : Entry := fun _ args bs k =>
  match args, bs with
  | [.agg [.int .i64 a0_0, .int .i64 a0_1], .int .i64 a1], [] => s (⟨a0_0, a0_1⟩ : Span) a1 fun v0 v1 => k (.tuple [.agg (cSpan v0), .int .i64 v1]) []
  | _, _ => none
noncomputable def t_125 (s_42 : S_42) (s_128 : S_128) (s_129 : S_129) (s_132 : S_132) : Tab := { ty := tys, eqs := eqs, call := [(42, e_42 @s_42), (128, e_128 @s_128), (129, e_129 @s_129), (132, e_132 @s_132)], fuel := 64 }
theorem run_125 (s_42 : S_42) (s_128 : S_128) (s_129 : S_129) (s_132 : S_132) {ρ : Type} (a0 : Span) (a1 : Int) (K : AV → List Blk → Option ρ) :
    runF (t_125 @s_42 @s_128 @s_129 @s_132) (Try.f125.body.getD .skip) Try.f125.results.toList Try.f125.ntmps [.agg (cSpan a0), .int .i64 a1] [] K = g_125 @s_42 @s_128 @s_129 @s_132 a0 a1 fun v0 v1 => K (.tuple [.agg (cSpan v0), .int .i64 v1]) [] := by kernel_rfl
theorem ok_125 : EntryOK Try.prog 125 (e_125 @s_125) := by
  refine entry_of (T := t_125 @s_42 @s_128 @s_129 @s_132) ⟨tabOK_of_all tys_ok, eqsOK_of_all eqs_ok, fun g E h => ?_, fun g t h => (by cases h)⟩ mixed Try.func125 (show Try.f125.body = some (Try.f125.body.getD .skip) by kernel_rfl) (by kernel_rfl) (no_pieces rfl _) ?_
  · have := look_mem h
    simp only [t_125, List.mem_cons, List.not_mem_nil, or_false, Prod.mk.injEq] at this
    rcases this with ⟨rfl, rfl⟩ | ⟨rfl, rfl⟩ | ⟨rfl, rfl⟩ | ⟨rfl, rfl⟩
    · exact ok_42
    · exact ok_128
    · exact ok_129
    · exact ok_132
  · intro ρ args bs k r h
    unfold e_125 at h
    split at h
    · rename_i a0_0 a0_1 a1
      exact (run_125 @s_42 @s_128 @s_129 @s_132 (⟨a0_0, a0_1⟩ : Span) a1 k).trans h
    · cases h

/-- ullage/span.In -/
abbrev S_123 : Type 1 := ∀ {ρ : Type}, Span → Int → (Bool → Option ρ) → Option ρ
noncomputable def g_123 (s_42 : S_42) {ρ : Type} (a0 : Span) (a1 : Int) (k : Bool → Option ρ) : Option ρ :=
  s_42 a0 fun v0 => Go.Ull.sel (v0 == 0) (Go.Ull.sel (Decidable.decide (a0.lo ≤ a1)) (k (Decidable.decide (a1 ≤ a0.hi))) (k Bool.false)) (k Bool.false)
noncomputable def s_123 : S_123 := @fun _ a0 a1 k => g_123 @s_42 a0 a1 k
noncomputable def e_123 (s : S_123) : Entry := fun _ args bs k =>
  match args, bs with
  | [.agg [.int .i64 a0_0, .int .i64 a0_1], .int .i64 a1], [] => s (⟨a0_0, a0_1⟩ : Span) a1 fun v0 => k (.bool v0) []
  | _, _ => none
noncomputable def t_123 (s_42 : S_42) : Tab := { ty := tys, eqs := eqs, call := [(42, e_42 @s_42)], fuel := 64 }
theorem run_123 (s_42 : S_42) {ρ : Type} (a0 : Span) (a1 : Int) (K : AV → List Blk → Option ρ) :
    runF (t_123 @s_42) (Try.f123.body.getD .skip) Try.f123.results.toList Try.f123.ntmps [.agg (cSpan a0), .int .i64 a1] [] K = g_123 @s_42 a0 a1 fun v0 => K (.bool v0) [] := by kernel_rfl
theorem ok_123 : EntryOK Try.prog 123 (e_123 @s_123) := by
  refine entry_of (T := t_123 @s_42) ⟨tabOK_of_all tys_ok, eqsOK_of_all eqs_ok, fun g E h => ?_, fun g t h => (by cases h)⟩ mixed Try.func123 (show Try.f123.body = some (Try.f123.body.getD .skip) by kernel_rfl) (by kernel_rfl) (no_pieces rfl _) ?_
  · have := look_mem h
    simp only [t_123, List.mem_cons, List.not_mem_nil, or_false, Prod.mk.injEq] at this
    rcases this with ⟨rfl, rfl⟩
    · exact ok_42
  · intro ρ args bs k r h
    unfold e_123 at h
    split at h
    · rename_i a0_0 a0_1 a1
      exact (run_123 @s_42 (⟨a0_0, a0_1⟩ : Span) a1 k).trans h
    · cases h

/-- ullage/span.Div -/
abbrev S_92 : Type 1 := ∀ {ρ : Type}, Span → Span → (Span → Int → Option ρ) → Option ρ
noncomputable def g_92 (s_42 : S_42) (s_127 : S_127) (s_128 : S_128) (s_129 : S_129) {ρ : Type} (a0 : Span) (a1 : Span) (k : Span → Int → Option ρ) : Option ρ :=
  s_42 a0 fun v0 =>
    Go.Ull.sel (v0 != 0)
      (Go.Ull.sel (v0 != 0) (k { lo := 0, hi := 0 } v0)
        (Go.Ull.sel (Decidable.decide (a1.lo ≤ 0))
          (Go.Ull.sel (Decidable.decide (a1.hi ≥ 0)) (k { lo := 0, hi := 0 } 10)
            (s_127 a0.lo a1.lo fun v0 v1 =>
              s_127 a0.lo a1.hi fun v0_1 v1_1 =>
                s_127 a0.hi a1.lo fun v0_2 v1_2 =>
                  s_127 a0.hi a1.hi fun v0_3 v1_3 =>
                    s_128 ([] ++ [v0] ++ [v0_1] ++ [v0_2] ++ [v0_3]) fun v0 v1_4 =>
                      s_128 ([] ++ [v1] ++ [v1_1] ++ [v1_2] ++ [v1_3]) fun v0_4 v1 => s_129 v0 v1 fun v0 v1 => k v0 v1))
          (s_127 a0.lo a1.lo fun v0 v1 =>
            s_127 a0.lo a1.hi fun v0_1 v1_1 =>
              s_127 a0.hi a1.lo fun v0_2 v1_2 =>
                s_127 a0.hi a1.hi fun v0_3 v1_3 =>
                  s_128 ([] ++ [v0] ++ [v0_1] ++ [v0_2] ++ [v0_3]) fun v0 v1_4 =>
                    s_128 ([] ++ [v1] ++ [v1_1] ++ [v1_2] ++ [v1_3]) fun v0_4 v1 => s_129 v0 v1 fun v0 v1 => k v0 v1)))
      (s_42 a1 fun v0 =>
        Go.Ull.sel (v0 != 0)
          (Go.Ull.sel (v0 != 0) (k { lo := 0, hi := 0 } v0)
            (Go.Ull.sel (Decidable.decide (a1.lo ≤ 0))
              (Go.Ull.sel (Decidable.decide (a1.hi ≥ 0)) (k { lo := 0, hi := 0 } 10)
                (s_127 a0.lo a1.lo fun v0 v1 =>
                  s_127 a0.lo a1.hi fun v0_1 v1_1 =>
                    s_127 a0.hi a1.lo fun v0_2 v1_2 =>
                      s_127 a0.hi a1.hi fun v0_3 v1_3 =>
                        s_128 ([] ++ [v0] ++ [v0_1] ++ [v0_2] ++ [v0_3]) fun v0 v1_4 =>
                          s_128 ([] ++ [v1] ++ [v1_1] ++ [v1_2] ++ [v1_3]) fun v0_4 v1 => s_129 v0 v1 fun v0 v1 => k v0 v1))
              (s_127 a0.lo a1.lo fun v0 v1 =>
                s_127 a0.lo a1.hi fun v0_1 v1_1 =>
                  s_127 a0.hi a1.lo fun v0_2 v1_2 =>
                    s_127 a0.hi a1.hi fun v0_3 v1_3 =>
                      s_128 ([] ++ [v0] ++ [v0_1] ++ [v0_2] ++ [v0_3]) fun v0 v1_4 =>
                        s_128 ([] ++ [v1] ++ [v1_1] ++ [v1_2] ++ [v1_3]) fun v0_4 v1 => s_129 v0 v1 fun v0 v1 => k v0 v1)))
          (Go.Ull.sel (Decidable.decide (a1.lo ≤ 0))
            (Go.Ull.sel (Decidable.decide (a1.hi ≥ 0)) (k { lo := 0, hi := 0 } 10)
              (s_127 a0.lo a1.lo fun v0 v1 =>
                s_127 a0.lo a1.hi fun v0_1 v1_1 =>
                  s_127 a0.hi a1.lo fun v0_2 v1_2 =>
                    s_127 a0.hi a1.hi fun v0_3 v1_3 =>
                      s_128 ([] ++ [v0] ++ [v0_1] ++ [v0_2] ++ [v0_3]) fun v0 v1_4 =>
                        s_128 ([] ++ [v1] ++ [v1_1] ++ [v1_2] ++ [v1_3]) fun v0_4 v1 => s_129 v0 v1 fun v0 v1 => k v0 v1))
            (s_127 a0.lo a1.lo fun v0 v1 =>
              s_127 a0.lo a1.hi fun v0_1 v1_1 =>
                s_127 a0.hi a1.lo fun v0_2 v1_2 =>
                  s_127 a0.hi a1.hi fun v0_3 v1_3 =>
                    s_128 ([] ++ [v0] ++ [v0_1] ++ [v0_2] ++ [v0_3]) fun v0 v1_4 =>
                      s_128 ([] ++ [v1] ++ [v1_1] ++ [v1_2] ++ [v1_3]) fun v0_4 v1 => s_129 v0 v1 fun v0 v1 => k v0 v1)))
noncomputable def s_92 : S_92 := @fun _ a0 a1 k => g_92 @s_42 @s_127 @s_128 @s_129 a0 a1 k
noncomputable def e_92 (s : S_92) : Entry := fun _ args bs k =>
  match args, bs with
  | [.agg [.int .i64 a0_0, .int .i64 a0_1], .agg [.int .i64 a1_0, .int .i64 a1_1]], [] => s (⟨a0_0, a0_1⟩ : Span) (⟨a1_0, a1_1⟩ : Span) fun v0 v1 => k (.tuple [.agg (cSpan v0), .int .i64 v1]) []
  | _, _ => none
noncomputable def t_92 (s_42 : S_42) (s_127 : S_127) (s_128 : S_128) (s_129 : S_129) : Tab := { ty := tys, eqs := eqs, call := [(76, n_76 @s_42), (127, e_127 @s_127), (128, e_128 @s_128), (129, e_129 @s_129)], fuel := 64, vecs := [(7, .big), (8, .big)] }
theorem run_92 (s_42 : S_42) (s_127 : S_127) (s_128 : S_128) (s_129 : S_129) {ρ : Type} (a0 : Span) (a1 : Span) (K : AV → List Blk → Option ρ) :
    runF (t_92 @s_42 @s_127 @s_128 @s_129) (Try.f92.body.getD .skip) Try.f92.results.toList Try.f92.ntmps [.agg (cSpan a0), .agg (cSpan a1)] [] K = g_92 @s_42 @s_127 @s_128 @s_129 a0 a1 fun v0 v1 => K (.tuple [.agg (cSpan v0), .int .i64 v1]) [] := by kernel_rfl
theorem ok_92 : EntryOK Try.prog 92 (e_92 @s_92) := by
  refine entry_of (T := t_92 @s_42 @s_127 @s_128 @s_129) ⟨tabOK_of_all tys_ok, eqsOK_of_all eqs_ok, fun g E h => ?_, fun g t h => (by cases h)⟩ mixed Try.func92 (show Try.f92.body = some (Try.f92.body.getD .skip) by kernel_rfl) (by kernel_rfl) (no_pieces rfl _) ?_
  · have := look_mem h
    simp only [t_92, List.mem_cons, List.not_mem_nil, or_false, Prod.mk.injEq] at this
    rcases this with ⟨rfl, rfl⟩ | ⟨rfl, rfl⟩ | ⟨rfl, rfl⟩ | ⟨rfl, rfl⟩
    · exact nok_76 ok_42
    · exact ok_127
    · exact ok_128
    · exact ok_129
  · intro ρ args bs k r h
    unfold e_92 at h
    split at h
    · rename_i a0_0 a0_1 a1_0 a1_1
      exact (run_92 @s_42 @s_127 @s_128 @s_129 (⟨a0_0, a0_1⟩ : Span) (⟨a1_0, a1_1⟩ : Span) k).trans h
    · cases h

end Go.Proofs.Ytmgdofgmidbddaa
