/- Typed specifications, run out of the functions by the evaluator (printed by gen.py). -/
import Derived.Test.YtmgdofgmidbddaaFrW
import Derived.Test.YtmgdofgmidbddaaTab
namespace Go.Proofs.Ytmgdofgmidbddaa
open Go Go.Ull

/-- ullage/ascent.mod -/
abbrev S_33 : Type 1 := ∀ {ρ : Type}, Int → Int → (Int → Option ρ) → Option ρ
noncomputable def g_33 {ρ : Type} (a0 : Int) (a1 : Int) (k : Int → Option ρ) : Option ρ :=
  Go.Ull.sel (Decidable.decide (a1 = 0)) Option.none (Go.Ull.sel (Decidable.decide (a1 = 0)) Option.none (k ((Go.IntKind.i64.wrap (a0.tmod a1 + a1)).tmod a1)))
noncomputable def s_33 : S_33 := @fun _ a0 a1 k => g_33 a0 a1 k
def e_33 (s : S_33) : Entry := fun _ args bs k =>
  match args, bs with
  | [.int .i64 a0, .int .i64 a1], [] => s a0 a1 fun v0 => k (.int .i64 v0) []
  | _, _ => none
def t_33 : Tab := { ty := tys, eqs := eqs, call := [] }
theorem run_33 {ρ : Type} (a0 : Int) (a1 : Int) (K : AV → List Blk → Option ρ) :
    runF t_33 (Try.f33.body.getD .skip) Try.f33.results.toList Try.f33.ntmps [.int .i64 a0, .int .i64 a1] [] K = g_33 a0 a1 fun v0 => K (.int .i64 v0) [] := by kernel_rfl
theorem ok_33 : EntryOK Try.prog 33 (e_33 @s_33) := by
  refine entry_of (T := t_33) ⟨tabOK_of_all tys_ok, eqsOK_of_all eqs_ok, fun g E h => ?_, fun g t h => (by cases h)⟩ mixed Try.func33 (show Try.f33.body = some (Try.f33.body.getD .skip) by kernel_rfl) (by kernel_rfl) (no_pieces rfl _) ?_
  · cases h
  · intro ρ args bs k r h
    unfold e_33 at h
    split at h
    · rename_i a0 a1
      exact (run_33 a0 a1 k).trans h
    · cases h

/-- ullage/ascent.limited -/
abbrev S_30 : Type 1 := ∀ {ρ : Type}, Int → (Bool → Option ρ) → Option ρ
noncomputable def g_30 {ρ : Type} (a0 : Int) (k : Bool → Option ρ) : Option ρ :=
  Go.Ull.sel (Decidable.decide (a0 ≥ -1152921504606846976)) (k (Decidable.decide (a0 ≤ 1152921504606846976))) (k Bool.false)
noncomputable def s_30 : S_30 := @fun _ a0 k => g_30 a0 k
def e_30 (s : S_30) : Entry := fun _ args bs k =>
  match args, bs with
  | [.int .i64 a0], [] => s a0 fun v0 => k (.bool v0) []
  | _, _ => none
def t_30 : Tab := { ty := tys, eqs := eqs, call := [] }
theorem run_30 {ρ : Type} (a0 : Int) (K : AV → List Blk → Option ρ) :
    runF t_30 (Try.f30.body.getD .skip) Try.f30.results.toList Try.f30.ntmps [.int .i64 a0] [] K = g_30 a0 fun v0 => K (.bool v0) [] := by kernel_rfl
theorem ok_30 : EntryOK Try.prog 30 (e_30 @s_30) := by
  refine entry_of (T := t_30) ⟨tabOK_of_all tys_ok, eqsOK_of_all eqs_ok, fun g E h => ?_, fun g t h => (by cases h)⟩ mixed Try.func30 (show Try.f30.body = some (Try.f30.body.getD .skip) by kernel_rfl) (by kernel_rfl) (no_pieces rfl _) ?_
  · cases h
  · intro ρ args bs k r h
    unfold e_30 at h
    split at h
    · rename_i a0
      exact (run_30 a0 k).trans h
    · cases h

/-- ullage/ascent.valid -/
abbrev S_29 : Type 1 := ∀ {ρ : Type}, Window → (Bool → Option ρ) → Option ρ
noncomputable def g_29 {ρ : Type} (a0 : Window) (k : Bool → Option ρ) : Option ρ :=
  Go.Ull.sel (Decidable.decide (a0.period ≥ 1))
    (Go.Ull.sel (Decidable.decide (a0.period ≤ 1073741824))
      (Go.Ull.sel (Decidable.decide (a0.fr ≥ -1073741824))
        (Go.Ull.sel (Decidable.decide (a0.fr ≤ 1073741824)) (Go.Ull.sel (Decidable.decide (a0.len ≥ 0)) (k (Decidable.decide (a0.len ≤ a0.period))) (k Bool.false)) (k Bool.false)) (k Bool.false))
      (k Bool.false))
    (k Bool.false)
noncomputable def s_29 : S_29 := @fun _ a0 k => g_29 a0 k
def e_29 (s : S_29) : Entry := fun _ args bs k =>
  match args, bs with
  | [.agg [.int .i64 a0_0, .int .i64 a0_1, .int .i64 a0_2]], [] => s (⟨a0_0, a0_1, a0_2⟩ : Window) fun v0 => k (.bool v0) []
  | _, _ => none
def t_29 : Tab := { ty := tys, eqs := eqs, call := [] }
theorem run_29 {ρ : Type} (a0 : Window) (K : AV → List Blk → Option ρ) :
    runF t_29 (Try.f29.body.getD .skip) Try.f29.results.toList Try.f29.ntmps [.agg (cWindow a0)] [] K = g_29 a0 fun v0 => K (.bool v0) [] := by kernel_rfl
theorem ok_29 : EntryOK Try.prog 29 (e_29 @s_29) := by
  refine entry_of (T := t_29) ⟨tabOK_of_all tys_ok, eqsOK_of_all eqs_ok, fun g E h => ?_, fun g t h => (by cases h)⟩ mixed Try.func29 (show Try.f29.body = some (Try.f29.body.getD .skip) by kernel_rfl) (by kernel_rfl) (no_pieces rfl _) ?_
  · cases h
  · intro ρ args bs k r h
    unfold e_29 at h
    split at h
    · rename_i a0_0 a0_1 a0_2
      exact (run_29 (⟨a0_0, a0_1, a0_2⟩ : Window) k).trans h
    · cases h

/-- ullage/ascent.place -/
abbrev S_31 : Type 1 := ∀ {ρ : Type}, Window → Int → (Int → Option ρ) → Option ρ
noncomputable def g_31 (s_33 : S_33) {ρ : Type} (a0 : Window) (a1 : Int) (k : Int → Option ρ) : Option ρ :=
  s_33 a1 a0.period fun v0 => s_33 a0.fr a0.period fun v0_1 => s_33 (Go.IntKind.i64.wrap (v0 - v0_1)) a0.period fun v0 => k v0
noncomputable def s_31 : S_31 := @fun _ a0 a1 k => g_31 @s_33 a0 a1 k
def e_31 (s : S_31) : Entry := fun _ args bs k =>
  match args, bs with
  | [.agg [.int .i64 a0_0, .int .i64 a0_1, .int .i64 a0_2], .int .i64 a1], [] => s (⟨a0_0, a0_1, a0_2⟩ : Window) a1 fun v0 => k (.int .i64 v0) []
  | _, _ => none
def t_31 (s_33 : S_33) : Tab := { ty := tys, eqs := eqs, call := [(33, e_33 @s_33)] }
theorem run_31 (s_33 : S_33) {ρ : Type} (a0 : Window) (a1 : Int) (K : AV → List Blk → Option ρ) :
    runF (t_31 @s_33) (Try.f31.body.getD .skip) Try.f31.results.toList Try.f31.ntmps [.agg (cWindow a0), .int .i64 a1] [] K = g_31 @s_33 a0 a1 fun v0 => K (.int .i64 v0) [] := by kernel_rfl
theorem ok_31 : EntryOK Try.prog 31 (e_31 @s_31) := by
  refine entry_of (T := (t_31 @s_33)) ⟨tabOK_of_all tys_ok, eqsOK_of_all eqs_ok, fun g E h => ?_, fun g t h => (by cases h)⟩ mixed Try.func31 (show Try.f31.body = some (Try.f31.body.getD .skip) by kernel_rfl) (by kernel_rfl) (no_pieces rfl _) ?_
  · have := look_mem h
    simp only [t_31, List.mem_cons, List.not_mem_nil, or_false, Prod.mk.injEq] at this
    rcases this with ⟨rfl, rfl⟩
    · exact ok_33
  · intro ρ args bs k r h
    unfold e_31 at h
    split at h
    · rename_i a0_0 a0_1 a0_2 a1
      exact (run_31 @s_33 (⟨a0_0, a0_1, a0_2⟩ : Window) a1 k).trans h
    · cases h

/-- ullage/ascent.Contains -/
abbrev S_9 : Type 1 := ∀ {ρ : Type}, Window → Int → (Bool → Option ρ) → Option ρ
noncomputable def g_9 (s_29 : S_29) (s_31 : S_31) {ρ : Type} (a0 : Window) (a1 : Int) (k : Bool → Option ρ) : Option ρ :=
  s_29 a0 fun v0 => Go.Ull.sel v0 (s_31 a0 a1 fun v0 => k (Decidable.decide (v0 < a0.len))) (k Bool.false)
noncomputable def s_9 : S_9 := @fun _ a0 a1 k => g_9 @s_29 @s_31 a0 a1 k
def e_9 (s : S_9) : Entry := fun _ args bs k =>
  match args, bs with
  | [.agg [.int .i64 a0_0, .int .i64 a0_1, .int .i64 a0_2], .int .i64 a1], [] => s (⟨a0_0, a0_1, a0_2⟩ : Window) a1 fun v0 => k (.bool v0) []
  | _, _ => none
def t_9 (s_29 : S_29) (s_31 : S_31) : Tab := { ty := tys, eqs := eqs, call := [(29, e_29 @s_29), (31, e_31 @s_31)] }
theorem run_9 (s_29 : S_29) (s_31 : S_31) {ρ : Type} (a0 : Window) (a1 : Int) (K : AV → List Blk → Option ρ) :
    runF (t_9 @s_29 @s_31) (Try.f9.body.getD .skip) Try.f9.results.toList Try.f9.ntmps [.agg (cWindow a0), .int .i64 a1] [] K = g_9 @s_29 @s_31 a0 a1 fun v0 => K (.bool v0) [] := by kernel_rfl
theorem ok_9 : EntryOK Try.prog 9 (e_9 @s_9) := by
  refine entry_of (T := (t_9 @s_29 @s_31)) ⟨tabOK_of_all tys_ok, eqsOK_of_all eqs_ok, fun g E h => ?_, fun g t h => (by cases h)⟩ mixed Try.func9 (show Try.f9.body = some (Try.f9.body.getD .skip) by kernel_rfl) (by kernel_rfl) (no_pieces rfl _) ?_
  · have := look_mem h
    simp only [t_9, List.mem_cons, List.not_mem_nil, or_false, Prod.mk.injEq] at this
    rcases this with ⟨rfl, rfl⟩ | ⟨rfl, rfl⟩
    · exact ok_29
    · exact ok_31
  · intro ρ args bs k r h
    unfold e_9 at h
    split at h
    · rename_i a0_0 a0_1 a0_2 a1
      exact (run_9 @s_29 @s_31 (⟨a0_0, a0_1, a0_2⟩ : Window) a1 k).trans h
    · cases h

/-- ullage/ascent.meets -/
abbrev S_32 : Type 1 := ∀ {ρ : Type}, Window → Window → Int → Int → (Int → Bool → Option ρ) → Option ρ
noncomputable def g_32 (s_31 : S_31) {ρ : Type} (a0 : Window) (a1 : Window) (a2 : Int) (a3 : Int) (k : Int → Bool → Option ρ) : Option ρ :=
  s_31 a1 (if a3 > a2 then a3 else a2) fun v0 =>
    Go.Ull.sel (Decidable.decide (v0 ≥ a1.len))
      (Go.Ull.sel (Decidable.decide (a1.len > 0))
        (k (Go.IntKind.i64.wrap ((if a3 > a2 then a3 else a2) + Go.IntKind.i64.wrap (a1.period - v0)))
          (Decidable.decide (Go.IntKind.i64.wrap ((if a3 > a2 then a3 else a2) + Go.IntKind.i64.wrap (a1.period - v0)) < Go.IntKind.i64.wrap (a2 + a0.len))))
        (k (Go.IntKind.i64.wrap ((if a3 > a2 then a3 else a2) + Go.IntKind.i64.wrap (a1.period - v0))) Bool.false))
      (Go.Ull.sel (Decidable.decide (a1.len > 0)) (k (if a3 > a2 then a3 else a2) (Decidable.decide ((if a3 > a2 then a3 else a2) < Go.IntKind.i64.wrap (a2 + a0.len)))) (k (if a3 > a2 then a3 else a2) Bool.false))
noncomputable def s_32 : S_32 := @fun _ a0 a1 a2 a3 k => g_32 @s_31 a0 a1 a2 a3 k
def e_32 (s : S_32) : Entry := fun _ args bs k =>
  match args, bs with
  | [.agg [.int .i64 a0_0, .int .i64 a0_1, .int .i64 a0_2], .agg [.int .i64 a1_0, .int .i64 a1_1, .int .i64 a1_2], .int .i64 a2, .int .i64 a3], [] => s (⟨a0_0, a0_1, a0_2⟩ : Window) (⟨a1_0, a1_1, a1_2⟩ : Window) a2 a3 fun v0 v1 => k (.tuple [.int .i64 v0, .bool v1]) []
  | _, _ => none
def t_32 (s_31 : S_31) : Tab := { ty := tys, eqs := eqs, call := [(31, e_31 @s_31)] }
theorem run_32 (s_31 : S_31) {ρ : Type} (a0 : Window) (a1 : Window) (a2 : Int) (a3 : Int) (K : AV → List Blk → Option ρ) :
    runF (t_32 @s_31) (Try.f32.body.getD .skip) Try.f32.results.toList Try.f32.ntmps [.agg (cWindow a0), .agg (cWindow a1), .int .i64 a2, .int .i64 a3] [] K = g_32 @s_31 a0 a1 a2 a3 fun v0 v1 => K (.tuple [.int .i64 v0, .bool v1]) [] := by kernel_rfl
theorem ok_32 : EntryOK Try.prog 32 (e_32 @s_32) := by
  refine entry_of (T := (t_32 @s_31)) ⟨tabOK_of_all tys_ok, eqsOK_of_all eqs_ok, fun g E h => ?_, fun g t h => (by cases h)⟩ mixed Try.func32 (show Try.f32.body = some (Try.f32.body.getD .skip) by kernel_rfl) (by kernel_rfl) (no_pieces rfl _) ?_
  · have := look_mem h
    simp only [t_32, List.mem_cons, List.not_mem_nil, or_false, Prod.mk.injEq] at this
    rcases this with ⟨rfl, rfl⟩
    · exact ok_31
  · intro ρ args bs k r h
    unfold e_32 at h
    split at h
    · rename_i a0_0 a0_1 a0_2 a1_0 a1_1 a1_2 a2 a3
      exact (run_32 @s_31 (⟨a0_0, a0_1, a0_2⟩ : Window) (⟨a1_0, a1_1, a1_2⟩ : Window) a2 a3 k).trans h
    · cases h

/-- ullage/ascent.shared -/
abbrev S_36 : Type 1 := ∀ {ρ : Type}, Int → Int → Int → Int → Int → (Int → Option ρ) → Option ρ
noncomputable def g_36 (s_33 : S_33) {ρ : Type} (a0 : Int) (a1 : Int) (a2 : Int) (a3 : Int) (a4 : Int) (k : Int → Option ρ) : Option ρ :=
  s_33 (Go.IntKind.i64.wrap (a2 - a0)) a4 fun v0 =>
    k
      (Go.IntKind.i64.wrap
        ((if Go.IntKind.i64.wrap ((if Go.IntKind.i64.wrap (v0 + a3) < a1 then Go.IntKind.i64.wrap (v0 + a3) else a1) - v0) > 0 then
            Go.IntKind.i64.wrap ((if Go.IntKind.i64.wrap (v0 + a3) < a1 then Go.IntKind.i64.wrap (v0 + a3) else a1) - v0)
          else 0) +
          if (if Go.IntKind.i64.wrap (Go.IntKind.i64.wrap (v0 + a3) - a4) < a1 then Go.IntKind.i64.wrap (Go.IntKind.i64.wrap (v0 + a3) - a4) else a1) > 0 then
            if Go.IntKind.i64.wrap (Go.IntKind.i64.wrap (v0 + a3) - a4) < a1 then Go.IntKind.i64.wrap (Go.IntKind.i64.wrap (v0 + a3) - a4) else a1
          else 0))
noncomputable def s_36 : S_36 := @fun _ a0 a1 a2 a3 a4 k => g_36 @s_33 a0 a1 a2 a3 a4 k
def e_36 (s : S_36) : Entry := fun _ args bs k =>
  match args, bs with
  | [.int .i64 a0, .int .i64 a1, .int .i64 a2, .int .i64 a3, .int .i64 a4], [] => s a0 a1 a2 a3 a4 fun v0 => k (.int .i64 v0) []
  | _, _ => none
def t_36 (s_33 : S_33) : Tab := { ty := tys, eqs := eqs, call := [(33, e_33 @s_33)] }
theorem run_36 (s_33 : S_33) {ρ : Type} (a0 : Int) (a1 : Int) (a2 : Int) (a3 : Int) (a4 : Int) (K : AV → List Blk → Option ρ) :
    runF (t_36 @s_33) (Try.f36.body.getD .skip) Try.f36.results.toList Try.f36.ntmps [.int .i64 a0, .int .i64 a1, .int .i64 a2, .int .i64 a3, .int .i64 a4] [] K = g_36 @s_33 a0 a1 a2 a3 a4 fun v0 => K (.int .i64 v0) [] := by kernel_rfl
theorem ok_36 : EntryOK Try.prog 36 (e_36 @s_36) := by
  refine entry_of (T := (t_36 @s_33)) ⟨tabOK_of_all tys_ok, eqsOK_of_all eqs_ok, fun g E h => ?_, fun g t h => (by cases h)⟩ mixed Try.func36 (show Try.f36.body = some (Try.f36.body.getD .skip) by kernel_rfl) (by kernel_rfl) (no_pieces rfl _) ?_
  · have := look_mem h
    simp only [t_36, List.mem_cons, List.not_mem_nil, or_false, Prod.mk.injEq] at this
    rcases this with ⟨rfl, rfl⟩
    · exact ok_33
  · intro ρ args bs k r h
    unfold e_36 at h
    split at h
    · rename_i a0 a1 a2 a3 a4
      exact (run_36 @s_33 a0 a1 a2 a3 a4 k).trans h
    · cases h

end Go.Proofs.Ytmgdofgmidbddaa
