/- Functions with loops: typed specifications (printed by gen3.py). -/
import Derived.Test.YtmgdofgmidbddaaSqA
namespace Go.Proofs.Ytmgdofgmidbddaa
open Go Go.Ull
set_option linter.unusedVariables false

/-! ullage/span.hull -/
noncomputable def code128 : Code := Try.f128.body.getD .skip
noncomputable def c128_0 : Code := (match pieceAt 1 code128 with | .block _ (.loop c) => c | _ => .skip)
def fl_128_0 : List Bool := [false, false, true, true, false, false, false, false, false, false, false, false, false, true, true, true]
def fx_128_0 : List Bool := [false, false, true, true]
def st_128_0 (x13 : List (El .big)) (x14 : Int) (x15 : Int) (b0 : Big) (b1 : Big) : St := ⟨spread 30 fl_128_0 [.ptr 0 0, .ptr 1 0, .lst .big x13, .int .i64 x14, .int .i64 x15], [.box (cBig b0) false, .box (cBig b1) false]⟩
def sx_128_0 (b0 : Big) (b1 : Big) : St := ⟨spread 30 fx_128_0 [.ptr 0 0, .ptr 1 0], [.box (cBig b0) false, .box (cBig b1) false]⟩
noncomputable def t_128_0 (s_157 : S_157) : Tab := { ty := tys, eqs := eqs, call := [(157, e_157 @s_157)], fuel := 64, norm := some (fl_128_0, 2) }
noncomputable def h_128_0 (s_157 : S_157) {ρ : Type} (p_n128_0 : Big → Big → Option ρ) (p_R128_0 : List (El .big) → Int → Int → Big → Big → Option ρ) (x13 : List (El .big)) (x14 : Int) (x15 : Int) (b0 : Big) (b1 : Big) : Option ρ :=
  Go.Ull.sel (Decidable.decide (x15 < x14))
    ((Go.Ull.idx x13 x15).bind fun x =>
      s_157 x b0 fun v0 =>
        Go.Ull.sel v0
          (s_157 b1 x fun v0 =>
            Go.Ull.sel v0 (p_R128_0 x13 x14 (Go.IntKind.i64.wrap (x15 + 1)) x x) (p_R128_0 x13 x14 (Go.IntKind.i64.wrap (x15 + 1)) x b1))
          (s_157 b1 x fun v0 =>
            Go.Ull.sel v0 (p_R128_0 x13 x14 (Go.IntKind.i64.wrap (x15 + 1)) b0 x) (p_R128_0 x13 x14 (Go.IntKind.i64.wrap (x15 + 1)) b0 b1)))
    (p_n128_0 b0 b1)
noncomputable def l_128_0 (s_157 : S_157) {ρ : Type} (p_n128_0 : Big → Big → Option ρ) : Nat → List (El .big) → Int → Int → Big → Big → Option ρ
  | 0, _, _, _, _, _ => none
  | n + 1, x13, x14, x15, b0, b1 => h_128_0 @s_157 p_n128_0 (l_128_0 @s_157 p_n128_0 n) x13 x14 x15 b0 b1
abbrev P_128_0 : Type 1 := ∀ {ρ : Type}, (Big → Big → Option ρ) → List (El .big) → Int → Int → Big → Big → Option ρ
noncomputable def p_128_0 (F : Nat) : P_128_0 := @fun _ kn x13 x14 x15 b0 b1 => l_128_0 @s_157 kn F x13 x14 x15 b0 b1
theorem step_128_0 (s_157 : S_157) {ρ : Type} (x13 : List (El .big)) (x14 : Int) (x15 : Int) (b0 : Big) (b1 : Big) (k : AX → St → Option ρ) (R : St → Option ρ) :
    (ev (t_128_0 @s_157) c128_0 (st_128_0 x13 x14 x15 b0 b1) fun y σ' => match y with | .normal => (normO 0 (some (fl_128_0, 2)) σ').bind R | y => leaves 0 0 (some (fx_128_0, 2)) (fun _ => none) none k y σ') =
      h_128_0 @s_157 (fun b0 b1 => k .normal (sx_128_0 b0 b1)) (fun x13 x14 x15 b0 b1 => R (st_128_0 x13 x14 x15 b0 b1)) x13 x14 x15 b0 b1 := by kernel_rfl
theorem rounds_128_0 (s_157 : S_157) {ρ : Type} (k : AX → St → Option ρ) : ∀ (f : Nat) (x13 : List (El .big)) (x14 : Int) (x15 : Int) (b0 : Big) (b1 : Big),
    rounds 0 (some (fl_128_0, 2)) (ev (t_128_0 @s_157) c128_0) (leaves 0 0 (some (fx_128_0, 2)) (fun _ => none) none k) f (st_128_0 x13 x14 x15 b0 b1) = l_128_0 @s_157 (fun b0 b1 => k .normal (sx_128_0 b0 b1)) f x13 x14 x15 b0 b1
  | 0, _, _, _, _, _ => rfl
  | f + 1, x13, x14, x15, b0, b1 => by
    have h := step_128_0 @s_157 x13 x14 x15 b0 b1 k (rounds 0 (some (fl_128_0, 2)) (ev (t_128_0 @s_157) c128_0) (leaves 0 0 (some (fx_128_0, 2)) (fun _ => none) none k) f)
    rw [show (fun x13 x14 x15 b0 b1 => rounds 0 (some (fl_128_0, 2)) (ev (t_128_0 @s_157) c128_0) (leaves 0 0 (some (fx_128_0, 2)) (fun _ => none) none k) f (st_128_0 x13 x14 x15 b0 b1)) = l_128_0 @s_157 (fun b0 b1 => k .normal (sx_128_0 b0 b1)) f from funext fun x13 => funext fun x14 => funext fun x15 => funext fun b0 => funext fun b1 => rounds_128_0 @s_157 k f x13 x14 x15 b0 b1] at h
    exact h
noncomputable def L_128_0 (p_128_0 : P_128_0) : PEntry := fun _ σ' k => match viewE 0 fl_128_0 2 30 σ' with
  | some ([.ptr 0 0, .ptr 1 0, .lst .big x13, .int .i64 x14, .int .i64 x15], [.box [.bool b0_0, .int .u64 b0_1, .int .u64 b0_2] false, .box [.bool b1_0, .int .u64 b1_1, .int .u64 b1_2] false]) => p_128_0 (fun b0 b1 => k .normal (sx_128_0 b0 b1)) x13 x14 x15 (⟨b0_0, b0_1, b0_2⟩ : Big) (⟨b1_0, b1_1, b1_2⟩ : Big)
  | _ => none
theorem code_128_0 : pieceAt 1 code128 = .block 0 (.loop c128_0) := by kernel_rfl
theorem piece_128_0 (F : Nat) : PieceOK Try.prog 0 (pieceAt 1 code128) (L_128_0 (@p_128_0 F)) := by
  rw [code_128_0]
  refine piece_loops (T := t_128_0 @s_157) ⟨tabOK_of_all tys_ok, eqsOK_of_all eqs_ok, fun g E h => ?_, fun g t h => (by cases h)⟩ mixed (no_pieces rfl _) (some (fl_128_0, 2)) (some (fx_128_0, 2)) (fun _ => none) none fun ρ σ k r h => ?_
  · have := look_mem h
    simp only [t_128_0, List.mem_cons, List.not_mem_nil, or_false, Prod.mk.injEq] at this
    rcases this with ⟨rfl, rfl⟩
    · exact ok_157
  unfold L_128_0 at h
  split at h
  · rename_i x13 x14 x15 b0_0 b0_1 b0_2 b1_0 b1_1 b1_2 hv
    refine ⟨F, ?_⟩
    have hv2 := viewE_some hv
    show (normO 0 (some (fl_128_0, 2)) σ).bind _ = _
    rw [hv2]
    exact (rounds_128_0 @s_157 k F x13 x14 x15 (⟨b0_0, b0_1, b0_2⟩ : Big) (⟨b1_0, b1_1, b1_2⟩ : Big)).trans h
  · cases h

/-- ullage/span.hull -/
abbrev S_128 : Type 1 := ∀ {ρ : Type}, List (El .big) → (Big → Big → Option ρ) → Option ρ
def F128 : Nat := 300
noncomputable def g_128 (s_157 : S_157) (p_128_0 : P_128_0) {ρ : Type} (a0 : List (El .big)) (k : Big → Big → Option ρ) : Option ρ :=
  (Go.Ull.idx a0 0).bind fun x =>
    (Go.Ull.idx a0 0).bind fun x_1 =>
      Go.Ull.sel (Decidable.decide (Go.Ull.ElT.big = Go.Ull.ElT.big) && (Decidable.decide (0 ≤ 1) && Decidable.decide (1 ≤ Go.Ull.lenI a0)))
        (p_128_0 (fun b0 b1 => k b0 b1) (List.drop (Int.toNat 1) a0) (Go.Ull.lenI (List.drop (Int.toNat 1) a0)) 0 x x_1) Option.none
noncomputable def s_128 : S_128 := @fun _ a0 k => g_128 @s_157 (@p_128_0 F128) a0 k
noncomputable def e_128 (s : S_128) : Entry := fun _ args bs k =>
  match args, bs with
  | [.lst .big a0], [] => s a0 fun v0 v1 => k (.tuple [.agg (cBig v0), .agg (cBig v1)]) []
  | _, _ => none
noncomputable def t_128 (s_157 : S_157) (p_128_0 : P_128_0) : Tab := { ty := tys, eqs := eqs, call := [(157, e_157 @s_157)], fuel := 64, piece := [(1, L_128_0 @p_128_0)] }
theorem run_128 (s_157 : S_157) (p_128_0 : P_128_0) {ρ : Type} (a0 : List (El .big)) (K : AV → List Blk → Option ρ) :
    runF (t_128 @s_157 @p_128_0) code128 Try.f128.results.toList Try.f128.ntmps [.lst .big a0] [] K = g_128 @s_157 @p_128_0 a0 fun v0 v1 => K (.tuple [.agg (cBig v0), .agg (cBig v1)]) [] := by kernel_rfl
theorem ok_128 : EntryOK Try.prog 128 (e_128 @s_128) := by
  refine entry_of (T := t_128 @s_157 (@p_128_0 F128)) ⟨tabOK_of_all tys_ok, eqsOK_of_all eqs_ok, fun g E h => ?_, fun g t h => (by cases h)⟩ mixed Try.func128 (show Try.f128.body = some code128 by kernel_rfl) (by kernel_rfl) (pieces_of (by kernel_rfl) fun i E h => ?_) ?_
  · have := look_mem h
    simp only [t_128, List.mem_cons, List.not_mem_nil, or_false, Prod.mk.injEq] at this
    rcases this with ⟨rfl, rfl⟩
    · exact ok_157
  · have := look_mem h
    simp only [t_128, List.mem_cons, List.not_mem_nil, or_false, Prod.mk.injEq] at this
    rcases this with ⟨rfl, rfl⟩
    · exact piece_128_0 F128
  · intro ρ args bs k r h
    unfold e_128 at h
    split at h
    · rename_i a0
      exact (run_128 @s_157 (@p_128_0 F128) a0 k).trans h
    · cases h

end Go.Proofs.Ytmgdofgmidbddaa
