/- Typed specifications, run out of the functions by the evaluator (printed by gen2.py). -/
import Derived.Test.YtmgdofgmidbddaaFrZc
import Derived.Test.YtmgdofgmidbddaaBits
namespace Go.Proofs.Ytmgdofgmidbddaa
open Go Go.Ull

/-- ullage/span.valid -/
abbrev S_74 : Type 1 := ∀ {ρ : Type}, Int → (Bool → Option ρ) → Option ρ
noncomputable def g_74 {ρ : Type} (a0 : Int) (k : Bool → Option ρ) : Option ρ :=
  k (Decidable.decide (a0 ≥ -9223372036854775807))
noncomputable def s_74 : S_74 := @fun _ a0 k => g_74 a0 k
noncomputable def e_74 (s : S_74) : Entry := fun _ args bs k =>
  match args, bs with
  | [.int .i64 a0], [] => s a0 fun v0 => k (.bool v0) []
  | _, _ => none
noncomputable def t_74 : Tab := { ty := tys, eqs := eqs, call := [], fuel := 64 }
theorem run_74 {ρ : Type} (a0 : Int) (K : AV → List Blk → Option ρ) :
    runF (t_74) (Try.f74.body.getD .skip) Try.f74.results.toList Try.f74.ntmps [.int .i64 a0] [] K = g_74 a0 fun v0 => K (.bool v0) [] := by kernel_rfl
theorem ok_74 : EntryOK Try.prog 74 (e_74 @s_74) := by
  refine entry_of (T := t_74) ⟨tabOK_of_all tys_ok, eqsOK_of_all eqs_ok, fun g E h => ?_, fun g t h => (by cases h)⟩ mixed Try.func74 (show Try.f74.body = some (Try.f74.body.getD .skip) by kernel_rfl) (by kernel_rfl) (no_pieces rfl _) ?_
  · cases h
  · intro ρ args bs k r h
    unfold e_74 at h
    split at h
    · rename_i a0
      exact (run_74 a0 k).trans h
    · cases h

/-- ullage/span.Check -/
abbrev S_42 : Type 1 := ∀ {ρ : Type}, Span → (Int → Option ρ) → Option ρ
noncomputable def g_42 (s_74 : S_74) {ρ : Type} (a0 : Span) (k : Int → Option ρ) : Option ρ :=
  s_74 a0.lo fun v0 => Go.Ull.sel (!v0) (k 2) (s_74 a0.hi fun v0 => Go.Ull.sel (!v0) (k 2) (Go.Ull.sel (Decidable.decide (a0.lo > a0.hi)) (k 2) (k 0)))
noncomputable def s_42 : S_42 := @fun _ a0 k => g_42 @s_74 a0 k
noncomputable def e_42 (s : S_42) : Entry := fun _ args bs k =>
  match args, bs with
  | [.agg [.int .i64 a0_0, .int .i64 a0_1]], [] => s (⟨a0_0, a0_1⟩ : Span) fun v0 => k (.int .i64 v0) []
  | _, _ => none
noncomputable def t_42 (s_74 : S_74) : Tab := { ty := tys, eqs := eqs, call := [(74, e_74 @s_74)], fuel := 64 }
theorem run_42 (s_74 : S_74) {ρ : Type} (a0 : Span) (K : AV → List Blk → Option ρ) :
    runF (t_42 @s_74) (Try.f42.body.getD .skip) Try.f42.results.toList Try.f42.ntmps [.agg (cSpan a0)] [] K = g_42 @s_74 a0 fun v0 => K (.int .i64 v0) [] := by kernel_rfl
theorem ok_42 : EntryOK Try.prog 42 (e_42 @s_42) := by
  refine entry_of (T := t_42 @s_74) ⟨tabOK_of_all tys_ok, eqsOK_of_all eqs_ok, fun g E h => ?_, fun g t h => (by cases h)⟩ mixed Try.func42 (show Try.f42.body = some (Try.f42.body.getD .skip) by kernel_rfl) (by kernel_rfl) (no_pieces rfl _) ?_
  · have := look_mem h
    simp only [t_42, List.mem_cons, List.not_mem_nil, or_false, Prod.mk.injEq] at this
    rcases this with ⟨rfl, rfl⟩
    · exact ok_74
  · intro ρ args bs k r h
    unfold e_42 at h
    split at h
    · rename_i a0_0 a0_1
      exact (run_42 @s_74 (⟨a0_0, a0_1⟩ : Span) k).trans h
    · cases h

/-- ullage/span.size -/
abbrev S_160 : Type 1 := ∀ {ρ : Type}, Int → (Int → Option ρ) → Option ρ
noncomputable def g_160 {ρ : Type} (a0 : Int) (k : Int → Option ρ) : Option ρ :=
  Go.Ull.sel (Decidable.decide (a0 < 0)) (k (Go.IntKind.u64.wrap (0 - Go.IntKind.u64.wrap a0))) (k (Go.IntKind.u64.wrap a0))
noncomputable def s_160 : S_160 := @fun _ a0 k => g_160 a0 k
noncomputable def e_160 (s : S_160) : Entry := fun _ args bs k =>
  match args, bs with
  | [.int .i64 a0], [] => s a0 fun v0 => k (.int .u64 v0) []
  | _, _ => none
noncomputable def t_160 : Tab := { ty := tys, eqs := eqs, call := [], fuel := 64 }
theorem run_160 {ρ : Type} (a0 : Int) (K : AV → List Blk → Option ρ) :
    runF (t_160) (Try.f160.body.getD .skip) Try.f160.results.toList Try.f160.ntmps [.int .i64 a0] [] K = g_160 a0 fun v0 => K (.int .u64 v0) [] := by kernel_rfl
theorem ok_160 : EntryOK Try.prog 160 (e_160 @s_160) := by
  refine entry_of (T := t_160) ⟨tabOK_of_all tys_ok, eqsOK_of_all eqs_ok, fun g E h => ?_, fun g t h => (by cases h)⟩ mixed Try.func160 (show Try.f160.body = some (Try.f160.body.getD .skip) by kernel_rfl) (by kernel_rfl) (no_pieces rfl _) ?_
  · cases h
  · intro ρ args bs k r h
    unfold e_160 at h
    split at h
    · rename_i a0
      exact (run_160 a0 k).trans h
    · cases h

/-- ullage/span.of -/
abbrev S_133 : Type 1 := ∀ {ρ : Type}, Int → (Big → Option ρ) → Option ρ
noncomputable def g_133 (s_160 : S_160) {ρ : Type} (a0 : Int) (k : Big → Option ρ) : Option ρ :=
  s_160 a0 fun v0 => k { neg := Decidable.decide (a0 < 0), hi := 0, lo := v0 }
noncomputable def s_133 : S_133 := @fun _ a0 k => g_133 @s_160 a0 k
noncomputable def e_133 (s : S_133) : Entry := fun _ args bs k =>
  match args, bs with
  | [.int .i64 a0], [] => s a0 fun v0 => k (.agg (cBig v0)) []
  | _, _ => none
noncomputable def t_133 (s_160 : S_160) : Tab := { ty := tys, eqs := eqs, call := [(160, e_160 @s_160)], fuel := 64 }
theorem run_133 (s_160 : S_160) {ρ : Type} (a0 : Int) (K : AV → List Blk → Option ρ) :
    runF (t_133 @s_160) (Try.f133.body.getD .skip) Try.f133.results.toList Try.f133.ntmps [.int .i64 a0] [] K = g_133 @s_160 a0 fun v0 => K (.agg (cBig v0)) [] := by kernel_rfl
theorem ok_133 : EntryOK Try.prog 133 (e_133 @s_133) := by
  refine entry_of (T := t_133 @s_160) ⟨tabOK_of_all tys_ok, eqsOK_of_all eqs_ok, fun g E h => ?_, fun g t h => (by cases h)⟩ mixed Try.func133 (show Try.f133.body = some (Try.f133.body.getD .skip) by kernel_rfl) (by kernel_rfl) (no_pieces rfl _) ?_
  · have := look_mem h
    simp only [t_133, List.mem_cons, List.not_mem_nil, or_false, Prod.mk.injEq] at this
    rcases this with ⟨rfl, rfl⟩
    · exact ok_160
  · intro ρ args bs k r h
    unfold e_133 at h
    split at h
    · rename_i a0
      exact (run_133 @s_160 a0 k).trans h
    · cases h

/-- ullage/span.times -/
abbrev S_132 : Type 1 := ∀ {ρ : Type}, Int → Int → (Big → Option ρ) → Option ρ
noncomputable def g_132 (s_160 : S_160) {ρ : Type} (a0 : Int) (a1 : Int) (k : Big → Option ρ) : Option ρ :=
  s_160 a0 fun v0 =>
    s_160 a1 fun v0_1 =>
      Go.Ull.sel (Decidable.decide (0 ≤ v0) && (Decidable.decide (v0 ≤ 18446744073709551615) && (Decidable.decide (0 ≤ v0_1) && Decidable.decide (v0_1 ≤ 18446744073709551615))))
        (k { neg := !Decidable.decide (a0 < 0) == Decidable.decide (a1 < 0), hi := Go.Ull.mulHi v0 v0_1, lo := Go.Ull.mulLo v0 v0_1 }) Option.none
noncomputable def s_132 : S_132 := @fun _ a0 a1 k => g_132 @s_160 a0 a1 k
noncomputable def e_132 (s : S_132) : Entry := fun _ args bs k =>
  match args, bs with
  | [.int .i64 a0, .int .i64 a1], [] => s a0 a1 fun v0 => k (.agg (cBig v0)) []
  | _, _ => none
noncomputable def t_132 (s_160 : S_160) : Tab := { ty := tys, eqs := eqs, call := [(159, mul64E), (160, e_160 @s_160)], fuel := 64 }
theorem run_132 (s_160 : S_160) {ρ : Type} (a0 : Int) (a1 : Int) (K : AV → List Blk → Option ρ) :
    runF (t_132 @s_160) (Try.f132.body.getD .skip) Try.f132.results.toList Try.f132.ntmps [.int .i64 a0, .int .i64 a1] [] K = g_132 @s_160 a0 a1 fun v0 => K (.agg (cBig v0)) [] := by kernel_rfl
theorem ok_132 : EntryOK Try.prog 132 (e_132 @s_132) := by
  refine entry_of (T := t_132 @s_160) ⟨tabOK_of_all tys_ok, eqsOK_of_all eqs_ok, fun g E h => ?_, fun g t h => (by cases h)⟩ mixed Try.func132 (show Try.f132.body = some (Try.f132.body.getD .skip) by kernel_rfl) (by kernel_rfl) (no_pieces rfl _) ?_
  · have := look_mem h
    simp only [t_132, List.mem_cons, List.not_mem_nil, or_false, Prod.mk.injEq] at this
    rcases this with ⟨rfl, rfl⟩ | ⟨rfl, rfl⟩
    · exact mul_ok
    · exact ok_160
  · intro ρ args bs k r h
    unfold e_132 at h
    split at h
    · rename_i a0 a1
      exact (run_132 @s_160 a0 a1 k).trans h
    · cases h

/-- (ullage/span.big).zero -/
abbrev S_163 : Type 1 := ∀ {ρ : Type}, Big → (Bool → Option ρ) → Option ρ
noncomputable def g_163 {ρ : Type} (a0 : Big) (k : Bool → Option ρ) : Option ρ :=
  Go.Ull.sel (a0.hi == 0) (k (a0.lo == 0)) (k Bool.false)
noncomputable def s_163 : S_163 := @fun _ a0 k => g_163 a0 k
noncomputable def e_163 (s : S_163) : Entry := fun _ args bs k =>
  match args, bs with
  | [.agg [.bool a0_0, .int .u64 a0_1, .int .u64 a0_2]], [] => s (⟨a0_0, a0_1, a0_2⟩ : Big) fun v0 => k (.bool v0) []
  | _, _ => none
noncomputable def t_163 : Tab := { ty := tys, eqs := eqs, call := [], fuel := 64 }
theorem run_163 {ρ : Type} (a0 : Big) (K : AV → List Blk → Option ρ) :
    runF (t_163) (Try.f163.body.getD .skip) Try.f163.results.toList Try.f163.ntmps [.agg (cBig a0)] [] K = g_163 a0 fun v0 => K (.bool v0) [] := by kernel_rfl
theorem ok_163 : EntryOK Try.prog 163 (e_163 @s_163) := by
  refine entry_of (T := t_163) ⟨tabOK_of_all tys_ok, eqsOK_of_all eqs_ok, fun g E h => ?_, fun g t h => (by cases h)⟩ mixed Try.func163 (show Try.f163.body = some (Try.f163.body.getD .skip) by kernel_rfl) (by kernel_rfl) (no_pieces rfl _) ?_
  · cases h
  · intro ρ args bs k r h
    unfold e_163 at h
    split at h
    · rename_i a0_0 a0_1 a0_2
      exact (run_163 (⟨a0_0, a0_1, a0_2⟩ : Big) k).trans h
    · cases h

/-- (ullage/span.big).below -/
abbrev S_170 : Type 1 := ∀ {ρ : Type}, Big → (Bool → Option ρ) → Option ρ
noncomputable def g_170 (s_163 : S_163) {ρ : Type} (a0 : Big) (k : Bool → Option ρ) : Option ρ :=
  Go.Ull.sel a0.neg (s_163 a0 fun v0 => k !v0) (k Bool.false)
noncomputable def s_170 : S_170 := @fun _ a0 k => g_170 @s_163 a0 k
noncomputable def e_170 (s : S_170) : Entry := fun _ args bs k =>
  match args, bs with
  | [.agg [.bool a0_0, .int .u64 a0_1, .int .u64 a0_2]], [] => s (⟨a0_0, a0_1, a0_2⟩ : Big) fun v0 => k (.bool v0) []
  | _, _ => none
noncomputable def t_170 (s_163 : S_163) : Tab := { ty := tys, eqs := eqs, call := [(163, e_163 @s_163)], fuel := 64 }
theorem run_170 (s_163 : S_163) {ρ : Type} (a0 : Big) (K : AV → List Blk → Option ρ) :
    runF (t_170 @s_163) (Try.f170.body.getD .skip) Try.f170.results.toList Try.f170.ntmps [.agg (cBig a0)] [] K = g_170 @s_163 a0 fun v0 => K (.bool v0) [] := by kernel_rfl
theorem ok_170 : EntryOK Try.prog 170 (e_170 @s_170) := by
  refine entry_of (T := t_170 @s_163) ⟨tabOK_of_all tys_ok, eqsOK_of_all eqs_ok, fun g E h => ?_, fun g t h => (by cases h)⟩ mixed Try.func170 (show Try.f170.body = some (Try.f170.body.getD .skip) by kernel_rfl) (by kernel_rfl) (no_pieces rfl _) ?_
  · have := look_mem h
    simp only [t_170, List.mem_cons, List.not_mem_nil, or_false, Prod.mk.injEq] at this
    rcases this with ⟨rfl, rfl⟩
    · exact ok_163
  · intro ρ args bs k r h
    unfold e_170 at h
    split at h
    · rename_i a0_0 a0_1 a0_2
      exact (run_170 @s_163 (⟨a0_0, a0_1, a0_2⟩ : Big) k).trans h
    · cases h

/-- ullage/span.less -/
abbrev S_157 : Type 1 := ∀ {ρ : Type}, Big → Big → (Bool → Option ρ) → Option ρ
noncomputable def g_157 (s_170 : S_170) {ρ : Type} (a0 : Big) (a1 : Big) (k : Bool → Option ρ) : Option ρ :=
  s_170 a0 fun v0 =>
    s_170 a1 fun v0_1 =>
      Go.Ull.sel (!v0 == v0_1) (s_170 a0 fun v0 => k v0)
        (s_170 a0 fun v0 =>
          Go.Ull.sel v0 (Go.Ull.sel (Decidable.decide (a1.hi < a0.hi)) (k Bool.true) (Go.Ull.sel (a1.hi == a0.hi) (k (Decidable.decide (a1.lo < a0.lo))) (k Bool.false)))
            (Go.Ull.sel (Decidable.decide (a0.hi < a1.hi)) (k Bool.true) (Go.Ull.sel (a0.hi == a1.hi) (k (Decidable.decide (a0.lo < a1.lo))) (k Bool.false))))
noncomputable def s_157 : S_157 := @fun _ a0 a1 k => g_157 @s_170 a0 a1 k
noncomputable def e_157 (s : S_157) : Entry := fun _ args bs k =>
  match args, bs with
  | [.agg [.bool a0_0, .int .u64 a0_1, .int .u64 a0_2], .agg [.bool a1_0, .int .u64 a1_1, .int .u64 a1_2]], [] => s (⟨a0_0, a0_1, a0_2⟩ : Big) (⟨a1_0, a1_1, a1_2⟩ : Big) fun v0 => k (.bool v0) []
  | _, _ => none
noncomputable def t_157 (s_170 : S_170) : Tab := { ty := tys, eqs := eqs, call := [(170, e_170 @s_170)], fuel := 64 }
theorem run_157 (s_170 : S_170) {ρ : Type} (a0 : Big) (a1 : Big) (K : AV → List Blk → Option ρ) :
    runF (t_157 @s_170) (Try.f157.body.getD .skip) Try.f157.results.toList Try.f157.ntmps [.agg (cBig a0), .agg (cBig a1)] [] K = g_157 @s_170 a0 a1 fun v0 => K (.bool v0) [] := by kernel_rfl
theorem ok_157 : EntryOK Try.prog 157 (e_157 @s_157) := by
  refine entry_of (T := t_157 @s_170) ⟨tabOK_of_all tys_ok, eqsOK_of_all eqs_ok, fun g E h => ?_, fun g t h => (by cases h)⟩ mixed Try.func157 (show Try.f157.body = some (Try.f157.body.getD .skip) by kernel_rfl) (by kernel_rfl) (no_pieces rfl _) ?_
  · have := look_mem h
    simp only [t_157, List.mem_cons, List.not_mem_nil, or_false, Prod.mk.injEq] at this
    rcases this with ⟨rfl, rfl⟩
    · exact ok_170
  · intro ρ args bs k r h
    unfold e_157 at h
    split at h
    · rename_i a0_0 a0_1 a0_2 a1_0 a1_1 a1_2
      exact (run_157 @s_170 (⟨a0_0, a0_1, a0_2⟩ : Big) (⟨a1_0, a1_1, a1_2⟩ : Big) k).trans h
    · cases h

/-- ullage/span.plus -/
abbrev S_142 : Type 1 := ∀ {ρ : Type}, Big → Big → (Big → Option ρ) → Option ρ
noncomputable def g_142 {ρ : Type} (a0 : Big) (a1 : Big) (k : Big → Option ρ) : Option ρ :=
  Go.Ull.sel (a0.neg == a1.neg)
    (Go.Ull.sel (Decidable.decide (0 ≤ Go.Ull.addHi a0.lo a1.lo 0) && Decidable.decide (Go.Ull.addHi a0.lo a1.lo 0 ≤ 1))
      (k { neg := a0.neg, hi := Go.Ull.addLo a0.hi a1.hi (Go.Ull.addHi a0.lo a1.lo 0), lo := Go.Ull.addLo a0.lo a1.lo 0 }) Option.none)
    (Go.Ull.sel (Decidable.decide (a0.hi < a1.hi))
      (Go.Ull.sel (Decidable.decide (0 ≤ Go.Ull.subHi a1.lo a0.lo 0) && Decidable.decide (Go.Ull.subHi a1.lo a0.lo 0 ≤ 1))
        (k { neg := a1.neg, hi := Go.Ull.subLo a1.hi a0.hi (Go.Ull.subHi a1.lo a0.lo 0), lo := Go.Ull.subLo a1.lo a0.lo 0 }) Option.none)
      (Go.Ull.sel (a0.hi == a1.hi)
        (Go.Ull.sel (Decidable.decide (a0.lo < a1.lo))
          (Go.Ull.sel (Decidable.decide (0 ≤ Go.Ull.subHi a1.lo a0.lo 0) && Decidable.decide (Go.Ull.subHi a1.lo a0.lo 0 ≤ 1))
            (k { neg := a1.neg, hi := Go.Ull.subLo a1.hi a0.hi (Go.Ull.subHi a1.lo a0.lo 0), lo := Go.Ull.subLo a1.lo a0.lo 0 }) Option.none)
          (Go.Ull.sel (Decidable.decide (0 ≤ Go.Ull.subHi a0.lo a1.lo 0) && Decidable.decide (Go.Ull.subHi a0.lo a1.lo 0 ≤ 1))
            (k { neg := a0.neg, hi := Go.Ull.subLo a0.hi a1.hi (Go.Ull.subHi a0.lo a1.lo 0), lo := Go.Ull.subLo a0.lo a1.lo 0 }) Option.none))
        (Go.Ull.sel (Decidable.decide (0 ≤ Go.Ull.subHi a0.lo a1.lo 0) && Decidable.decide (Go.Ull.subHi a0.lo a1.lo 0 ≤ 1))
          (k { neg := a0.neg, hi := Go.Ull.subLo a0.hi a1.hi (Go.Ull.subHi a0.lo a1.lo 0), lo := Go.Ull.subLo a0.lo a1.lo 0 }) Option.none)))
noncomputable def s_142 : S_142 := @fun _ a0 a1 k => g_142 a0 a1 k
noncomputable def e_142 (s : S_142) : Entry := fun _ args bs k =>
  match args, bs with
  | [.agg [.bool a0_0, .int .u64 a0_1, .int .u64 a0_2], .agg [.bool a1_0, .int .u64 a1_1, .int .u64 a1_2]], [] => s (⟨a0_0, a0_1, a0_2⟩ : Big) (⟨a1_0, a1_1, a1_2⟩ : Big) fun v0 => k (.agg (cBig v0)) []
  | _, _ => none
noncomputable def t_142 : Tab := { ty := tys, eqs := eqs, call := [(168, add64E), (169, sub64E)], fuel := 64 }
theorem run_142 {ρ : Type} (a0 : Big) (a1 : Big) (K : AV → List Blk → Option ρ) :
    runF (t_142) (Try.f142.body.getD .skip) Try.f142.results.toList Try.f142.ntmps [.agg (cBig a0), .agg (cBig a1)] [] K = g_142 a0 a1 fun v0 => K (.agg (cBig v0)) [] := by kernel_rfl
theorem ok_142 : EntryOK Try.prog 142 (e_142 @s_142) := by
  refine entry_of (T := t_142) ⟨tabOK_of_all tys_ok, eqsOK_of_all eqs_ok, fun g E h => ?_, fun g t h => (by cases h)⟩ mixed Try.func142 (show Try.f142.body = some (Try.f142.body.getD .skip) by kernel_rfl) (by kernel_rfl) (no_pieces rfl _) ?_
  · have := look_mem h
    simp only [t_142, List.mem_cons, List.not_mem_nil, or_false, Prod.mk.injEq] at this
    rcases this with ⟨rfl, rfl⟩ | ⟨rfl, rfl⟩
    · exact add64_ok Try.func168 (by kernel_rfl) (by kernel_rfl) (by kernel_rfl) (by kernel_rfl)
    · exact sub64_ok Try.func169 (by kernel_rfl) (by kernel_rfl) (by kernel_rfl) (by kernel_rfl)
  · intro ρ args bs k r h
    unfold e_142 at h
    split at h
    · rename_i a0_0 a0_1 a0_2 a1_0 a1_1 a1_2
      exact (run_142 (⟨a0_0, a0_1, a0_2⟩ : Big) (⟨a1_0, a1_1, a1_2⟩ : Big) k).trans h
    · cases h

/-- (ullage/span.big).num -/
abbrev S_158 : Type 1 := ∀ {ρ : Type}, Big → (Int → Bool → Option ρ) → Option ρ
noncomputable def g_158 {ρ : Type} (a0 : Big) (k : Int → Bool → Option ρ) : Option ρ :=
  Go.Ull.sel (Decidable.decide (a0.hi > 0)) (k 0 Bool.false)
    (Go.Ull.sel (Decidable.decide (a0.lo > 9223372036854775807)) (k 0 Bool.false) (Go.Ull.sel a0.neg (k (Go.IntKind.i64.wrap (0 - Go.IntKind.i64.wrap a0.lo)) Bool.true) (k (Go.IntKind.i64.wrap a0.lo) Bool.true)))
noncomputable def s_158 : S_158 := @fun _ a0 k => g_158 a0 k
noncomputable def e_158 (s : S_158) : Entry := fun _ args bs k =>
  match args, bs with
  | [.agg [.bool a0_0, .int .u64 a0_1, .int .u64 a0_2]], [] => s (⟨a0_0, a0_1, a0_2⟩ : Big) fun v0 v1 => k (.tuple [.int .i64 v0, .bool v1]) []
  | _, _ => none
noncomputable def t_158 : Tab := { ty := tys, eqs := eqs, call := [], fuel := 64 }
theorem run_158 {ρ : Type} (a0 : Big) (K : AV → List Blk → Option ρ) :
    runF (t_158) (Try.f158.body.getD .skip) Try.f158.results.toList Try.f158.ntmps [.agg (cBig a0)] [] K = g_158 a0 fun v0 v1 => K (.tuple [.int .i64 v0, .bool v1]) [] := by kernel_rfl
theorem ok_158 : EntryOK Try.prog 158 (e_158 @s_158) := by
  refine entry_of (T := t_158) ⟨tabOK_of_all tys_ok, eqsOK_of_all eqs_ok, fun g E h => ?_, fun g t h => (by cases h)⟩ mixed Try.func158 (show Try.f158.body = some (Try.f158.body.getD .skip) by kernel_rfl) (by kernel_rfl) (no_pieces rfl _) ?_
  · cases h
  · intro ρ args bs k r h
    unfold e_158 at h
    split at h
    · rename_i a0_0 a0_1 a0_2
      exact (run_158 (⟨a0_0, a0_1, a0_2⟩ : Big) k).trans h
    · cases h

/-- ullage/span.fit -/
abbrev S_129 : Type 1 := ∀ {ρ : Type}, Big → Big → (Span → Int → Option ρ) → Option ρ
noncomputable def g_129 (s_158 : S_158) {ρ : Type} (a0 : Big) (a1 : Big) (k : Span → Int → Option ρ) : Option ρ :=
  s_158 a0 fun v0 v1 =>
    s_158 a1 fun v0_1 v1_1 => Go.Ull.sel (!v1) (k { lo := 0, hi := 0 } 4) (Go.Ull.sel (!v1_1) (k { lo := 0, hi := 0 } 4) (k { lo := v0, hi := v0_1 } 0))
noncomputable def s_129 : S_129 := @fun _ a0 a1 k => g_129 @s_158 a0 a1 k
noncomputable def e_129 (s : S_129) : Entry := fun _ args bs k =>
  match args, bs with
  | [.agg [.bool a0_0, .int .u64 a0_1, .int .u64 a0_2], .agg [.bool a1_0, .int .u64 a1_1, .int .u64 a1_2]], [] => s (⟨a0_0, a0_1, a0_2⟩ : Big) (⟨a1_0, a1_1, a1_2⟩ : Big) fun v0 v1 => k (.tuple [.agg (cSpan v0), .int .i64 v1]) []
  | _, _ => none
noncomputable def t_129 (s_158 : S_158) : Tab := { ty := tys, eqs := eqs, call := [(158, e_158 @s_158)], fuel := 64 }
theorem run_129 (s_158 : S_158) {ρ : Type} (a0 : Big) (a1 : Big) (K : AV → List Blk → Option ρ) :
    runF (t_129 @s_158) (Try.f129.body.getD .skip) Try.f129.results.toList Try.f129.ntmps [.agg (cBig a0), .agg (cBig a1)] [] K = g_129 @s_158 a0 a1 fun v0 v1 => K (.tuple [.agg (cSpan v0), .int .i64 v1]) [] := by kernel_rfl
theorem ok_129 : EntryOK Try.prog 129 (e_129 @s_129) := by
  refine entry_of (T := t_129 @s_158) ⟨tabOK_of_all tys_ok, eqsOK_of_all eqs_ok, fun g E h => ?_, fun g t h => (by cases h)⟩ mixed Try.func129 (show Try.f129.body = some (Try.f129.body.getD .skip) by kernel_rfl) (by kernel_rfl) (no_pieces rfl _) ?_
  · have := look_mem h
    simp only [t_129, List.mem_cons, List.not_mem_nil, or_false, Prod.mk.injEq] at this
    rcases this with ⟨rfl, rfl⟩
    · exact ok_158
  · intro ρ args bs k r h
    unfold e_129 at h
    split at h
    · rename_i a0_0 a0_1 a0_2 a1_0 a1_1 a1_2
      exact (run_129 @s_158 (⟨a0_0, a0_1, a0_2⟩ : Big) (⟨a1_0, a1_1, a1_2⟩ : Big) k).trans h
    · cases h

/-- (ullage/span.big).up -/
abbrev S_156 : Type 1 := ∀ {ρ : Type}, Big → Int → (Big → Option ρ) → Option ρ
noncomputable def g_156 {ρ : Type} (a0 : Big) (a1 : Int) (k : Big → Option ρ) : Option ρ :=
  Go.Ull.sel (Decidable.decide (a1 ≥ 64))
    (Go.Ull.sel (Decidable.decide (Go.IntKind.u64.wrap (a1 - 64) < 0)) Option.none (k { neg := a0.neg, hi := Go.IntKind.u64.wrap (a0.lo * 2 ^ Min.min (Go.IntKind.u64.wrap (a1 - 64)).toNat Go.IntKind.u64.bits), lo := 0 }))
    (Go.Ull.sel (a1 == 0) (k a0)
      (Go.Ull.sel (Decidable.decide (a1 < 0)) Option.none
        (Go.Ull.sel (Decidable.decide (Go.IntKind.u64.wrap (64 - a1) < 0)) Option.none
          (Go.Ull.sel (Decidable.decide (a1 < 0)) Option.none
            (k
              { neg := a0.neg,
                hi :=
                  Go.IntKind.u64.wrap
                    (Go.Ull.bOr Go.IntKind.u64.bits (Go.IntKind.u64.wrap (a0.hi * 2 ^ Min.min a1.toNat Go.IntKind.u64.bits)) (a0.lo.fdiv (2 ^ Min.min (Go.IntKind.u64.wrap (64 - a1)).toNat Go.IntKind.u64.bits))),
                lo := Go.IntKind.u64.wrap (a0.lo * 2 ^ Min.min a1.toNat Go.IntKind.u64.bits) })))))
noncomputable def s_156 : S_156 := @fun _ a0 a1 k => g_156 a0 a1 k
noncomputable def e_156 (s : S_156) : Entry := fun _ args bs k =>
  match args, bs with
  | [.agg [.bool a0_0, .int .u64 a0_1, .int .u64 a0_2], .int .u64 a1], [] => s (⟨a0_0, a0_1, a0_2⟩ : Big) a1 fun v0 => k (.agg (cBig v0)) []
  | _, _ => none
noncomputable def t_156 : Tab := { ty := tys, eqs := eqs, call := [], fuel := 64 }
theorem run_156 {ρ : Type} (a0 : Big) (a1 : Int) (K : AV → List Blk → Option ρ) :
    runF (t_156) (Try.f156.body.getD .skip) Try.f156.results.toList Try.f156.ntmps [.agg (cBig a0), .int .u64 a1] [] K = g_156 a0 a1 fun v0 => K (.agg (cBig v0)) [] := by kernel_rfl
theorem ok_156 : EntryOK Try.prog 156 (e_156 @s_156) := by
  refine entry_of (T := t_156) ⟨tabOK_of_all tys_ok, eqsOK_of_all eqs_ok, fun g E h => ?_, fun g t h => (by cases h)⟩ mixed Try.func156 (show Try.f156.body = some (Try.f156.body.getD .skip) by kernel_rfl) (by kernel_rfl) (no_pieces rfl _) ?_
  · cases h
  · intro ρ args bs k r h
    unfold e_156 at h
    split at h
    · rename_i a0_0 a0_1 a0_2 a1
      exact (run_156 (⟨a0_0, a0_1, a0_2⟩ : Big) a1 k).trans h
    · cases h

end Go.Proofs.Ytmgdofgmidbddaa
