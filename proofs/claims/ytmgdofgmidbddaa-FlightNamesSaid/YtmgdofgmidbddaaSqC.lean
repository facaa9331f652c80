/- Functions with loops: typed specifications (printed by gen3.py). -/
import Derived.Test.YtmgdofgmidbddaaSqB
namespace Go.Proofs.Ytmgdofgmidbddaa
open Go Go.Ull
set_option linter.unusedVariables false

/-! ullage/span.slow -/
noncomputable def code162 : Code := Try.f162.body.getD .skip
noncomputable def c162_0 : Code := (match pieceAt 1 code162 with | .block _ (.loop c) => c | _ => .skip)
def fl_162_0 : List Bool := [false, false, true, true, true, true, true]
def fx_162_0 : List Bool := [false, false, false, false, true, true]
def st_162_0 (x6 : Int) (b0 : Big) (b1 : Big) (b2 : Big) (b3 : Big) : St := ⟨spread 86 fl_162_0 [.ptr 0 0, .ptr 1 0, .ptr 2 0, .ptr 3 0, .int .i64 x6], [.box (cBig b0) false, .box (cBig b1) false, .box (cBig b2) false, .box (cBig b3) false]⟩
def sx_162_0 (b0 : Big) (b1 : Big) (b2 : Big) (b3 : Big) : St := ⟨spread 86 fx_162_0 [.ptr 2 0, .ptr 3 0], [.box (cBig b0) false, .box (cBig b1) false, .box (cBig b2) false, .box (cBig b3) false]⟩
noncomputable def t_162_0 (s_156 : S_156) : Tab := { ty := tys, eqs := eqs, call := [(156, e_156 @s_156), (169, sub64E)], fuel := 64, norm := some (fl_162_0, 4) }
noncomputable def h_162_0 (s_156 : S_156) {ρ : Type} (p_n162_0 : Big → Big → Big → Big → Option ρ) (p_R162_0 : Int → Big → Big → Big → Big → Option ρ) (x6 : Int) (b0 : Big) (b1 : Big) (b2 : Big) (b3 : Big) : Option ρ :=
  Go.Ull.sel (Decidable.decide (x6 ≥ 0))
    (Go.Ull.sel (Decidable.decide (Go.IntKind.u64.wrap (x6.tmod 64) < 0)) Option.none
      (Go.Ull.sel (Decidable.decide (x6 ≥ 64))
        (Go.Ull.sel (Decidable.decide (Go.IntKind.u64.wrap (Go.IntKind.i64.wrap (x6 - 64)) < 0)) Option.none
          (s_156 b3 1 fun v0 =>
            s_156 b2 1 fun v0_1 =>
              Go.Ull.sel (Decidable.decide (v0.hi > b1.hi))
                (Go.Ull.sel
                  (Decidable.decide
                      (0 ≤
                        Go.Ull.subHi
                          (Go.IntKind.u64.wrap
                            (Go.Ull.bOr Go.IntKind.u64.bits v0.lo
                              (Go.IntKind.u64.wrap (Go.Ull.bAnd Go.IntKind.u64.bits (b0.hi.fdiv (2 ^ Min.min (Go.IntKind.u64.wrap (Go.IntKind.i64.wrap (x6 - 64))).toNat Go.IntKind.u64.bits)) 1))))
                          b1.lo 0) &&
                    Decidable.decide
                      (Go.Ull.subHi
                          (Go.IntKind.u64.wrap
                            (Go.Ull.bOr Go.IntKind.u64.bits v0.lo
                              (Go.IntKind.u64.wrap (Go.Ull.bAnd Go.IntKind.u64.bits (b0.hi.fdiv (2 ^ Min.min (Go.IntKind.u64.wrap (Go.IntKind.i64.wrap (x6 - 64))).toNat Go.IntKind.u64.bits)) 1))))
                          b1.lo 0 ≤
                        1))
                  (p_R162_0 (Go.IntKind.i64.wrap (x6 - 1)) b0 b1 { neg := v0_1.neg, hi := v0_1.hi, lo := Go.IntKind.u64.wrap (Go.Ull.bOr Go.IntKind.u64.bits v0_1.lo 1) }
                    { neg := Bool.false,
                      hi :=
                        Go.Ull.subLo v0.hi b1.hi
                          (Go.Ull.subHi
                            (Go.IntKind.u64.wrap
                              (Go.Ull.bOr Go.IntKind.u64.bits v0.lo
                                (Go.IntKind.u64.wrap (Go.Ull.bAnd Go.IntKind.u64.bits (b0.hi.fdiv (2 ^ Min.min (Go.IntKind.u64.wrap (Go.IntKind.i64.wrap (x6 - 64))).toNat Go.IntKind.u64.bits)) 1))))
                            b1.lo 0),
                      lo :=
                        Go.Ull.subLo
                          (Go.IntKind.u64.wrap
                            (Go.Ull.bOr Go.IntKind.u64.bits v0.lo
                              (Go.IntKind.u64.wrap (Go.Ull.bAnd Go.IntKind.u64.bits (b0.hi.fdiv (2 ^ Min.min (Go.IntKind.u64.wrap (Go.IntKind.i64.wrap (x6 - 64))).toNat Go.IntKind.u64.bits)) 1))))
                          b1.lo 0 })
                  Option.none)
                (Go.Ull.sel (v0.hi == b1.hi)
                  (Go.Ull.sel
                    (Decidable.decide
                      (Go.IntKind.u64.wrap
                          (Go.Ull.bOr Go.IntKind.u64.bits v0.lo
                            (Go.IntKind.u64.wrap (Go.Ull.bAnd Go.IntKind.u64.bits (b0.hi.fdiv (2 ^ Min.min (Go.IntKind.u64.wrap (Go.IntKind.i64.wrap (x6 - 64))).toNat Go.IntKind.u64.bits)) 1))) ≥
                        b1.lo))
                    (Go.Ull.sel
                      (Decidable.decide
                          (0 ≤
                            Go.Ull.subHi
                              (Go.IntKind.u64.wrap
                                (Go.Ull.bOr Go.IntKind.u64.bits v0.lo
                                  (Go.IntKind.u64.wrap (Go.Ull.bAnd Go.IntKind.u64.bits (b0.hi.fdiv (2 ^ Min.min (Go.IntKind.u64.wrap (Go.IntKind.i64.wrap (x6 - 64))).toNat Go.IntKind.u64.bits)) 1))))
                              b1.lo 0) &&
                        Decidable.decide
                          (Go.Ull.subHi
                              (Go.IntKind.u64.wrap
                                (Go.Ull.bOr Go.IntKind.u64.bits v0.lo
                                  (Go.IntKind.u64.wrap (Go.Ull.bAnd Go.IntKind.u64.bits (b0.hi.fdiv (2 ^ Min.min (Go.IntKind.u64.wrap (Go.IntKind.i64.wrap (x6 - 64))).toNat Go.IntKind.u64.bits)) 1))))
                              b1.lo 0 ≤
                            1))
                      (p_R162_0 (Go.IntKind.i64.wrap (x6 - 1)) b0 b1 { neg := v0_1.neg, hi := v0_1.hi, lo := Go.IntKind.u64.wrap (Go.Ull.bOr Go.IntKind.u64.bits v0_1.lo 1) }
                        { neg := Bool.false,
                          hi :=
                            Go.Ull.subLo v0.hi b1.hi
                              (Go.Ull.subHi
                                (Go.IntKind.u64.wrap
                                  (Go.Ull.bOr Go.IntKind.u64.bits v0.lo
                                    (Go.IntKind.u64.wrap (Go.Ull.bAnd Go.IntKind.u64.bits (b0.hi.fdiv (2 ^ Min.min (Go.IntKind.u64.wrap (Go.IntKind.i64.wrap (x6 - 64))).toNat Go.IntKind.u64.bits)) 1))))
                                b1.lo 0),
                          lo :=
                            Go.Ull.subLo
                              (Go.IntKind.u64.wrap
                                (Go.Ull.bOr Go.IntKind.u64.bits v0.lo
                                  (Go.IntKind.u64.wrap (Go.Ull.bAnd Go.IntKind.u64.bits (b0.hi.fdiv (2 ^ Min.min (Go.IntKind.u64.wrap (Go.IntKind.i64.wrap (x6 - 64))).toNat Go.IntKind.u64.bits)) 1))))
                              b1.lo 0 })
                      Option.none)
                    (p_R162_0 (Go.IntKind.i64.wrap (x6 - 1)) b0 b1 v0_1
                      { neg := v0.neg, hi := v0.hi,
                        lo :=
                          Go.IntKind.u64.wrap
                            (Go.Ull.bOr Go.IntKind.u64.bits v0.lo
                              (Go.IntKind.u64.wrap (Go.Ull.bAnd Go.IntKind.u64.bits (b0.hi.fdiv (2 ^ Min.min (Go.IntKind.u64.wrap (Go.IntKind.i64.wrap (x6 - 64))).toNat Go.IntKind.u64.bits)) 1))) }))
                  (p_R162_0 (Go.IntKind.i64.wrap (x6 - 1)) b0 b1 v0_1
                    { neg := v0.neg, hi := v0.hi,
                      lo :=
                        Go.IntKind.u64.wrap
                          (Go.Ull.bOr Go.IntKind.u64.bits v0.lo
                            (Go.IntKind.u64.wrap (Go.Ull.bAnd Go.IntKind.u64.bits (b0.hi.fdiv (2 ^ Min.min (Go.IntKind.u64.wrap (Go.IntKind.i64.wrap (x6 - 64))).toNat Go.IntKind.u64.bits)) 1))) }))))
        (s_156 b3 1 fun v0 =>
          s_156 b2 1 fun v0_1 =>
            Go.Ull.sel (Decidable.decide (v0.hi > b1.hi))
              (Go.Ull.sel
                (Decidable.decide
                    (0 ≤
                      Go.Ull.subHi
                        (Go.IntKind.u64.wrap
                          (Go.Ull.bOr Go.IntKind.u64.bits v0.lo (Go.IntKind.u64.wrap (Go.Ull.bAnd Go.IntKind.u64.bits (b0.lo.fdiv (2 ^ Min.min (Go.IntKind.u64.wrap (x6.tmod 64)).toNat Go.IntKind.u64.bits)) 1))))
                        b1.lo 0) &&
                  Decidable.decide
                    (Go.Ull.subHi
                        (Go.IntKind.u64.wrap
                          (Go.Ull.bOr Go.IntKind.u64.bits v0.lo (Go.IntKind.u64.wrap (Go.Ull.bAnd Go.IntKind.u64.bits (b0.lo.fdiv (2 ^ Min.min (Go.IntKind.u64.wrap (x6.tmod 64)).toNat Go.IntKind.u64.bits)) 1))))
                        b1.lo 0 ≤
                      1))
                (p_R162_0 (Go.IntKind.i64.wrap (x6 - 1)) b0 b1 { neg := v0_1.neg, hi := v0_1.hi, lo := Go.IntKind.u64.wrap (Go.Ull.bOr Go.IntKind.u64.bits v0_1.lo 1) }
                  { neg := Bool.false,
                    hi :=
                      Go.Ull.subLo v0.hi b1.hi
                        (Go.Ull.subHi
                          (Go.IntKind.u64.wrap
                            (Go.Ull.bOr Go.IntKind.u64.bits v0.lo (Go.IntKind.u64.wrap (Go.Ull.bAnd Go.IntKind.u64.bits (b0.lo.fdiv (2 ^ Min.min (Go.IntKind.u64.wrap (x6.tmod 64)).toNat Go.IntKind.u64.bits)) 1))))
                          b1.lo 0),
                    lo :=
                      Go.Ull.subLo
                        (Go.IntKind.u64.wrap
                          (Go.Ull.bOr Go.IntKind.u64.bits v0.lo (Go.IntKind.u64.wrap (Go.Ull.bAnd Go.IntKind.u64.bits (b0.lo.fdiv (2 ^ Min.min (Go.IntKind.u64.wrap (x6.tmod 64)).toNat Go.IntKind.u64.bits)) 1))))
                        b1.lo 0 })
                Option.none)
              (Go.Ull.sel (v0.hi == b1.hi)
                (Go.Ull.sel
                  (Decidable.decide
                    (Go.IntKind.u64.wrap
                        (Go.Ull.bOr Go.IntKind.u64.bits v0.lo (Go.IntKind.u64.wrap (Go.Ull.bAnd Go.IntKind.u64.bits (b0.lo.fdiv (2 ^ Min.min (Go.IntKind.u64.wrap (x6.tmod 64)).toNat Go.IntKind.u64.bits)) 1))) ≥
                      b1.lo))
                  (Go.Ull.sel
                    (Decidable.decide
                        (0 ≤
                          Go.Ull.subHi
                            (Go.IntKind.u64.wrap
                              (Go.Ull.bOr Go.IntKind.u64.bits v0.lo (Go.IntKind.u64.wrap (Go.Ull.bAnd Go.IntKind.u64.bits (b0.lo.fdiv (2 ^ Min.min (Go.IntKind.u64.wrap (x6.tmod 64)).toNat Go.IntKind.u64.bits)) 1))))
                            b1.lo 0) &&
                      Decidable.decide
                        (Go.Ull.subHi
                            (Go.IntKind.u64.wrap
                              (Go.Ull.bOr Go.IntKind.u64.bits v0.lo (Go.IntKind.u64.wrap (Go.Ull.bAnd Go.IntKind.u64.bits (b0.lo.fdiv (2 ^ Min.min (Go.IntKind.u64.wrap (x6.tmod 64)).toNat Go.IntKind.u64.bits)) 1))))
                            b1.lo 0 ≤
                          1))
                    (p_R162_0 (Go.IntKind.i64.wrap (x6 - 1)) b0 b1 { neg := v0_1.neg, hi := v0_1.hi, lo := Go.IntKind.u64.wrap (Go.Ull.bOr Go.IntKind.u64.bits v0_1.lo 1) }
                      { neg := Bool.false,
                        hi :=
                          Go.Ull.subLo v0.hi b1.hi
                            (Go.Ull.subHi
                              (Go.IntKind.u64.wrap
                                (Go.Ull.bOr Go.IntKind.u64.bits v0.lo (Go.IntKind.u64.wrap (Go.Ull.bAnd Go.IntKind.u64.bits (b0.lo.fdiv (2 ^ Min.min (Go.IntKind.u64.wrap (x6.tmod 64)).toNat Go.IntKind.u64.bits)) 1))))
                              b1.lo 0),
                        lo :=
                          Go.Ull.subLo
                            (Go.IntKind.u64.wrap
                              (Go.Ull.bOr Go.IntKind.u64.bits v0.lo (Go.IntKind.u64.wrap (Go.Ull.bAnd Go.IntKind.u64.bits (b0.lo.fdiv (2 ^ Min.min (Go.IntKind.u64.wrap (x6.tmod 64)).toNat Go.IntKind.u64.bits)) 1))))
                            b1.lo 0 })
                    Option.none)
                  (p_R162_0 (Go.IntKind.i64.wrap (x6 - 1)) b0 b1 v0_1
                    { neg := v0.neg, hi := v0.hi,
                      lo :=
                        Go.IntKind.u64.wrap
                          (Go.Ull.bOr Go.IntKind.u64.bits v0.lo (Go.IntKind.u64.wrap (Go.Ull.bAnd Go.IntKind.u64.bits (b0.lo.fdiv (2 ^ Min.min (Go.IntKind.u64.wrap (x6.tmod 64)).toNat Go.IntKind.u64.bits)) 1))) }))
                (p_R162_0 (Go.IntKind.i64.wrap (x6 - 1)) b0 b1 v0_1
                  { neg := v0.neg, hi := v0.hi,
                    lo :=
                      Go.IntKind.u64.wrap
                        (Go.Ull.bOr Go.IntKind.u64.bits v0.lo (Go.IntKind.u64.wrap (Go.Ull.bAnd Go.IntKind.u64.bits (b0.lo.fdiv (2 ^ Min.min (Go.IntKind.u64.wrap (x6.tmod 64)).toNat Go.IntKind.u64.bits)) 1))) })))))
    (p_n162_0 b0 b1 b2 b3)
noncomputable def l_162_0 (s_156 : S_156) {ρ : Type} (p_n162_0 : Big → Big → Big → Big → Option ρ) : Nat → Int → Big → Big → Big → Big → Option ρ
  | 0, _, _, _, _, _ => none
  | n + 1, x6, b0, b1, b2, b3 => h_162_0 @s_156 p_n162_0 (l_162_0 @s_156 p_n162_0 n) x6 b0 b1 b2 b3
abbrev P_162_0 : Type 1 := ∀ {ρ : Type}, (Big → Big → Big → Big → Option ρ) → Int → Big → Big → Big → Big → Option ρ
noncomputable def p_162_0 (F : Nat) : P_162_0 := @fun _ kn x6 b0 b1 b2 b3 => l_162_0 @s_156 kn F x6 b0 b1 b2 b3
theorem step_162_0 (s_156 : S_156) {ρ : Type} (x6 : Int) (b0 : Big) (b1 : Big) (b2 : Big) (b3 : Big) (k : AX → St → Option ρ) (R : St → Option ρ) :
    (ev (t_162_0 @s_156) c162_0 (st_162_0 x6 b0 b1 b2 b3) fun y σ' => match y with | .normal => (normO 0 (some (fl_162_0, 4)) σ').bind R | y => leaves 0 0 (some (fx_162_0, 4)) (fun _ => none) none k y σ') =
      h_162_0 @s_156 (fun b0 b1 b2 b3 => k .normal (sx_162_0 b0 b1 b2 b3)) (fun x6 b0 b1 b2 b3 => R (st_162_0 x6 b0 b1 b2 b3)) x6 b0 b1 b2 b3 := by kernel_rfl
theorem rounds_162_0 (s_156 : S_156) {ρ : Type} (k : AX → St → Option ρ) : ∀ (f : Nat) (x6 : Int) (b0 : Big) (b1 : Big) (b2 : Big) (b3 : Big),
    rounds 0 (some (fl_162_0, 4)) (ev (t_162_0 @s_156) c162_0) (leaves 0 0 (some (fx_162_0, 4)) (fun _ => none) none k) f (st_162_0 x6 b0 b1 b2 b3) = l_162_0 @s_156 (fun b0 b1 b2 b3 => k .normal (sx_162_0 b0 b1 b2 b3)) f x6 b0 b1 b2 b3
  | 0, _, _, _, _, _ => rfl
  | f + 1, x6, b0, b1, b2, b3 => by
    have h := step_162_0 @s_156 x6 b0 b1 b2 b3 k (rounds 0 (some (fl_162_0, 4)) (ev (t_162_0 @s_156) c162_0) (leaves 0 0 (some (fx_162_0, 4)) (fun _ => none) none k) f)
    rw [show (fun x6 b0 b1 b2 b3 => rounds 0 (some (fl_162_0, 4)) (ev (t_162_0 @s_156) c162_0) (leaves 0 0 (some (fx_162_0, 4)) (fun _ => none) none k) f (st_162_0 x6 b0 b1 b2 b3)) = l_162_0 @s_156 (fun b0 b1 b2 b3 => k .normal (sx_162_0 b0 b1 b2 b3)) f from funext fun x6 => funext fun b0 => funext fun b1 => funext fun b2 => funext fun b3 => rounds_162_0 @s_156 k f x6 b0 b1 b2 b3] at h
    exact h
noncomputable def L_162_0 (p_162_0 : P_162_0) : PEntry := fun _ σ' k => match viewE 0 fl_162_0 4 86 σ' with
  | some ([.ptr 0 0, .ptr 1 0, .ptr 2 0, .ptr 3 0, .int .i64 x6], [.box [.bool b0_0, .int .u64 b0_1, .int .u64 b0_2] false, .box [.bool b1_0, .int .u64 b1_1, .int .u64 b1_2] false, .box [.bool b2_0, .int .u64 b2_1, .int .u64 b2_2] false, .box [.bool b3_0, .int .u64 b3_1, .int .u64 b3_2] false]) => p_162_0 (fun b0 b1 b2 b3 => k .normal (sx_162_0 b0 b1 b2 b3)) x6 (⟨b0_0, b0_1, b0_2⟩ : Big) (⟨b1_0, b1_1, b1_2⟩ : Big) (⟨b2_0, b2_1, b2_2⟩ : Big) (⟨b3_0, b3_1, b3_2⟩ : Big)
  | _ => none
theorem code_162_0 : pieceAt 1 code162 = .block 0 (.loop c162_0) := by kernel_rfl
theorem piece_162_0 (F : Nat) : PieceOK Try.prog 0 (pieceAt 1 code162) (L_162_0 (@p_162_0 F)) := by
  rw [code_162_0]
  refine piece_loops (T := t_162_0 @s_156) ⟨tabOK_of_all tys_ok, eqsOK_of_all eqs_ok, fun g E h => ?_, fun g t h => (by cases h)⟩ mixed (no_pieces rfl _) (some (fl_162_0, 4)) (some (fx_162_0, 4)) (fun _ => none) none fun ρ σ k r h => ?_
  · have := look_mem h
    simp only [t_162_0, List.mem_cons, List.not_mem_nil, or_false, Prod.mk.injEq] at this
    rcases this with ⟨rfl, rfl⟩ | ⟨rfl, rfl⟩
    · exact ok_156
    · exact sub64_ok Try.func169 (by kernel_rfl) (by kernel_rfl) (by kernel_rfl) (by kernel_rfl)
  unfold L_162_0 at h
  split at h
  · rename_i x6 b0_0 b0_1 b0_2 b1_0 b1_1 b1_2 b2_0 b2_1 b2_2 b3_0 b3_1 b3_2 hv
    refine ⟨F, ?_⟩
    have hv2 := viewE_some hv
    show (normO 0 (some (fl_162_0, 4)) σ).bind _ = _
    rw [hv2]
    exact (rounds_162_0 @s_156 k F x6 (⟨b0_0, b0_1, b0_2⟩ : Big) (⟨b1_0, b1_1, b1_2⟩ : Big) (⟨b2_0, b2_1, b2_2⟩ : Big) (⟨b3_0, b3_1, b3_2⟩ : Big)).trans h
  · cases h

/-- ullage/span.slow -/
abbrev S_162 : Type 1 := ∀ {ρ : Type}, Big → Big → (Big → Big → Option ρ) → Option ρ
def F162 : Nat := 300
noncomputable def g_162 (s_156 : S_156) (p_162_0 : P_162_0) {ρ : Type} (a0 : Big) (a1 : Big) (k : Big → Big → Option ρ) : Option ρ :=
  p_162_0 (fun b0 b1 b2 b3 => k b2 b3) 127 a0 a1 { neg := Bool.false, hi := 0, lo := 0 } { neg := Bool.false, hi := 0, lo := 0 }
noncomputable def s_162 : S_162 := @fun _ a0 a1 k => g_162 @s_156 (@p_162_0 F162) a0 a1 k
noncomputable def e_162 (s : S_162) : Entry := fun _ args bs k =>
  match args, bs with
  | [.agg [.bool a0_0, .int .u64 a0_1, .int .u64 a0_2], .agg [.bool a1_0, .int .u64 a1_1, .int .u64 a1_2]], [] => s (⟨a0_0, a0_1, a0_2⟩ : Big) (⟨a1_0, a1_1, a1_2⟩ : Big) fun v0 v1 => k (.tuple [.agg (cBig v0), .agg (cBig v1)]) []
  | _, _ => none
noncomputable def t_162 (s_156 : S_156) (p_162_0 : P_162_0) : Tab := { ty := tys, eqs := eqs, call := [(156, e_156 @s_156), (169, sub64E)], fuel := 64, piece := [(1, L_162_0 @p_162_0)] }
theorem run_162 (s_156 : S_156) (p_162_0 : P_162_0) {ρ : Type} (a0 : Big) (a1 : Big) (K : AV → List Blk → Option ρ) :
    runF (t_162 @s_156 @p_162_0) code162 Try.f162.results.toList Try.f162.ntmps [.agg (cBig a0), .agg (cBig a1)] [] K = g_162 @s_156 @p_162_0 a0 a1 fun v0 v1 => K (.tuple [.agg (cBig v0), .agg (cBig v1)]) [] := by kernel_rfl
theorem ok_162 : EntryOK Try.prog 162 (e_162 @s_162) := by
  refine entry_of (T := t_162 @s_156 (@p_162_0 F162)) ⟨tabOK_of_all tys_ok, eqsOK_of_all eqs_ok, fun g E h => ?_, fun g t h => (by cases h)⟩ mixed Try.func162 (show Try.f162.body = some code162 by kernel_rfl) (by kernel_rfl) (pieces_of (by kernel_rfl) fun i E h => ?_) ?_
  · have := look_mem h
    simp only [t_162, List.mem_cons, List.not_mem_nil, or_false, Prod.mk.injEq] at this
    rcases this with ⟨rfl, rfl⟩ | ⟨rfl, rfl⟩
    · exact ok_156
    · exact sub64_ok Try.func169 (by kernel_rfl) (by kernel_rfl) (by kernel_rfl) (by kernel_rfl)
  · have := look_mem h
    simp only [t_162, List.mem_cons, List.not_mem_nil, or_false, Prod.mk.injEq] at this
    rcases this with ⟨rfl, rfl⟩
    · exact piece_162_0 F162
  · intro ρ args bs k r h
    unfold e_162 at h
    split at h
    · rename_i a0_0 a0_1 a0_2 a1_0 a1_1 a1_2
      exact (run_162 @s_156 (@p_162_0 F162) (⟨a0_0, a0_1, a0_2⟩ : Big) (⟨a1_0, a1_1, a1_2⟩ : Big) k).trans h
    · cases h

/-! ullage/span.root -/
noncomputable def code165 : Code := Try.f165.body.getD .skip
noncomputable def c165_0 : Code := (match pieceAt 1 code165 with | .block _ (.loop c) => c | _ => .skip)
def fl_165_0 : List Bool := [false, false, true, false, true, true]
def fx_165_0 : List Bool := [false, false, true, false, true]
def st_165_0 (x2 : Int) (x5 : Int) (b0 : Big) : St := ⟨spread 63 fl_165_0 [.int .u64 x2, .ptr 0 0, .int .u64 x5], [.box (cBig b0) false]⟩
def sx_165_0 (x2 : Int) (b0 : Big) : St := ⟨spread 63 fx_165_0 [.int .u64 x2, .ptr 0 0], [.box (cBig b0) false]⟩
noncomputable def t_165_0 (s_133 : S_133) (s_156 : S_156) : Tab := { ty := tys, eqs := eqs, call := [(133, e_133 @s_133), (156, e_156 @s_156), (159, mul64E)], fuel := 64, norm := some (fl_165_0, 1) }
noncomputable def h_165_0 (s_133 : S_133) (s_156 : S_156) {ρ : Type} (p_n165_0 : Int → Big → Option ρ) (p_R165_0 : Int → Int → Big → Option ρ) (x2 : Int) (x5 : Int) (b0 : Big) : Option ρ :=
  Go.Ull.sel (Decidable.decide (x5 > 0))
    (Go.Ull.sel
      (Decidable.decide (0 ≤ Go.IntKind.u64.wrap (Go.Ull.bOr Go.IntKind.u64.bits x2 x5)) &&
        (Decidable.decide (Go.IntKind.u64.wrap (Go.Ull.bOr Go.IntKind.u64.bits x2 x5) ≤ 18446744073709551615) &&
          (Decidable.decide (0 ≤ Go.IntKind.u64.wrap (Go.Ull.bOr Go.IntKind.u64.bits x2 x5)) && Decidable.decide (Go.IntKind.u64.wrap (Go.Ull.bOr Go.IntKind.u64.bits x2 x5) ≤ 18446744073709551615))))
      (Go.Ull.sel (Decidable.decide (Go.Ull.mulHi (Go.IntKind.u64.wrap (Go.Ull.bOr Go.IntKind.u64.bits x2 x5)) (Go.IntKind.u64.wrap (Go.Ull.bOr Go.IntKind.u64.bits x2 x5)) < b0.hi))
        (p_R165_0 (Go.IntKind.u64.wrap (Go.Ull.bOr Go.IntKind.u64.bits x2 x5)) (x5.fdiv (2 ^ Min.min (Int.toNat 1) Go.IntKind.u64.bits)) b0)
        (Go.Ull.sel (Go.Ull.mulHi (Go.IntKind.u64.wrap (Go.Ull.bOr Go.IntKind.u64.bits x2 x5)) (Go.IntKind.u64.wrap (Go.Ull.bOr Go.IntKind.u64.bits x2 x5)) == b0.hi)
          (Go.Ull.sel (Decidable.decide (Go.Ull.mulLo (Go.IntKind.u64.wrap (Go.Ull.bOr Go.IntKind.u64.bits x2 x5)) (Go.IntKind.u64.wrap (Go.Ull.bOr Go.IntKind.u64.bits x2 x5)) ≤ b0.lo))
            (p_R165_0 (Go.IntKind.u64.wrap (Go.Ull.bOr Go.IntKind.u64.bits x2 x5)) (x5.fdiv (2 ^ Min.min (Int.toNat 1) Go.IntKind.u64.bits)) b0)
            (p_R165_0 x2 (x5.fdiv (2 ^ Min.min (Int.toNat 1) Go.IntKind.u64.bits)) b0))
          (p_R165_0 x2 (x5.fdiv (2 ^ Min.min (Int.toNat 1) Go.IntKind.u64.bits)) b0)))
      Option.none)
    (p_n165_0 x2 b0)
noncomputable def l_165_0 (s_133 : S_133) (s_156 : S_156) {ρ : Type} (p_n165_0 : Int → Big → Option ρ) : Nat → Int → Int → Big → Option ρ
  | 0, _, _, _ => none
  | n + 1, x2, x5, b0 => h_165_0 @s_133 @s_156 p_n165_0 (l_165_0 @s_133 @s_156 p_n165_0 n) x2 x5 b0
abbrev P_165_0 : Type 1 := ∀ {ρ : Type}, (Int → Big → Option ρ) → Int → Int → Big → Option ρ
noncomputable def p_165_0 (F : Nat) : P_165_0 := @fun _ kn x2 x5 b0 => l_165_0 @s_133 @s_156 kn F x2 x5 b0
theorem step_165_0 (s_133 : S_133) (s_156 : S_156) {ρ : Type} (x2 : Int) (x5 : Int) (b0 : Big) (k : AX → St → Option ρ) (R : St → Option ρ) :
    (ev (t_165_0 @s_133 @s_156) c165_0 (st_165_0 x2 x5 b0) fun y σ' => match y with | .normal => (normO 0 (some (fl_165_0, 1)) σ').bind R | y => leaves 0 0 (some (fx_165_0, 1)) (fun _ => none) none k y σ') =
      h_165_0 @s_133 @s_156 (fun x2 b0 => k .normal (sx_165_0 x2 b0)) (fun x2 x5 b0 => R (st_165_0 x2 x5 b0)) x2 x5 b0 := by kernel_rfl
theorem rounds_165_0 (s_133 : S_133) (s_156 : S_156) {ρ : Type} (k : AX → St → Option ρ) : ∀ (f : Nat) (x2 : Int) (x5 : Int) (b0 : Big),
    rounds 0 (some (fl_165_0, 1)) (ev (t_165_0 @s_133 @s_156) c165_0) (leaves 0 0 (some (fx_165_0, 1)) (fun _ => none) none k) f (st_165_0 x2 x5 b0) = l_165_0 @s_133 @s_156 (fun x2 b0 => k .normal (sx_165_0 x2 b0)) f x2 x5 b0
  | 0, _, _, _ => rfl
  | f + 1, x2, x5, b0 => by
    have h := step_165_0 @s_133 @s_156 x2 x5 b0 k (rounds 0 (some (fl_165_0, 1)) (ev (t_165_0 @s_133 @s_156) c165_0) (leaves 0 0 (some (fx_165_0, 1)) (fun _ => none) none k) f)
    rw [show (fun x2 x5 b0 => rounds 0 (some (fl_165_0, 1)) (ev (t_165_0 @s_133 @s_156) c165_0) (leaves 0 0 (some (fx_165_0, 1)) (fun _ => none) none k) f (st_165_0 x2 x5 b0)) = l_165_0 @s_133 @s_156 (fun x2 b0 => k .normal (sx_165_0 x2 b0)) f from funext fun x2 => funext fun x5 => funext fun b0 => rounds_165_0 @s_133 @s_156 k f x2 x5 b0] at h
    exact h
noncomputable def L_165_0 (p_165_0 : P_165_0) : PEntry := fun _ σ' k => match viewE 0 fl_165_0 1 63 σ' with
  | some ([.int .u64 x2, .ptr 0 0, .int .u64 x5], [.box [.bool b0_0, .int .u64 b0_1, .int .u64 b0_2] false]) => p_165_0 (fun x2 b0 => k .normal (sx_165_0 x2 b0)) x2 x5 (⟨b0_0, b0_1, b0_2⟩ : Big)
  | _ => none
theorem code_165_0 : pieceAt 1 code165 = .block 0 (.loop c165_0) := by kernel_rfl
theorem piece_165_0 (F : Nat) : PieceOK Try.prog 0 (pieceAt 1 code165) (L_165_0 (@p_165_0 F)) := by
  rw [code_165_0]
  refine piece_loops (T := t_165_0 @s_133 @s_156) ⟨tabOK_of_all tys_ok, eqsOK_of_all eqs_ok, fun g E h => ?_, fun g t h => (by cases h)⟩ mixed (no_pieces rfl _) (some (fl_165_0, 1)) (some (fx_165_0, 1)) (fun _ => none) none fun ρ σ k r h => ?_
  · have := look_mem h
    simp only [t_165_0, List.mem_cons, List.not_mem_nil, or_false, Prod.mk.injEq] at this
    rcases this with ⟨rfl, rfl⟩ | ⟨rfl, rfl⟩ | ⟨rfl, rfl⟩
    · exact ok_133
    · exact ok_156
    · exact mul_ok
  unfold L_165_0 at h
  split at h
  · rename_i x2 x5 b0_0 b0_1 b0_2 hv
    refine ⟨F, ?_⟩
    have hv2 := viewE_some hv
    show (normO 0 (some (fl_165_0, 1)) σ).bind _ = _
    rw [hv2]
    exact (rounds_165_0 @s_133 @s_156 k F x2 x5 (⟨b0_0, b0_1, b0_2⟩ : Big)).trans h
  · cases h

/-- ullage/span.root -/
abbrev S_165 : Type 1 := ∀ {ρ : Type}, Int → (Int → Bool → Option ρ) → Option ρ
def F165 : Nat := 300
noncomputable def g_165 (s_133 : S_133) (s_156 : S_156) (p_165_0 : P_165_0) {ρ : Type} (a0 : Int) (k : Int → Bool → Option ρ) : Option ρ :=
  s_133 a0 fun v0 =>
    s_156 v0 32 fun v0 =>
      p_165_0
        (fun x2 b0 =>
          Go.Ull.sel (Decidable.decide (0 ≤ x2) && (Decidable.decide (x2 ≤ 18446744073709551615) && (Decidable.decide (0 ≤ x2) && Decidable.decide (x2 ≤ 18446744073709551615))))
            (Go.Ull.sel (Go.Ull.mulHi x2 x2 == b0.hi) (k x2 (Go.Ull.mulLo x2 x2 == b0.lo)) (k x2 Bool.false)) Option.none)
        0 281474976710656 v0
noncomputable def s_165 : S_165 := @fun _ a0 k => g_165 @s_133 @s_156 (@p_165_0 F165) a0 k
noncomputable def e_165 (s : S_165) : Entry := fun _ args bs k =>
  match args, bs with
  | [.int .i64 a0], [] => s a0 fun v0 v1 => k (.tuple [.int .u64 v0, .bool v1]) []
  | _, _ => none
noncomputable def t_165 (s_133 : S_133) (s_156 : S_156) (p_165_0 : P_165_0) : Tab := { ty := tys, eqs := eqs, call := [(133, e_133 @s_133), (156, e_156 @s_156), (159, mul64E)], fuel := 64, piece := [(1, L_165_0 @p_165_0)] }
theorem run_165 (s_133 : S_133) (s_156 : S_156) (p_165_0 : P_165_0) {ρ : Type} (a0 : Int) (K : AV → List Blk → Option ρ) :
    runF (t_165 @s_133 @s_156 @p_165_0) code165 Try.f165.results.toList Try.f165.ntmps [.int .i64 a0] [] K = g_165 @s_133 @s_156 @p_165_0 a0 fun v0 v1 => K (.tuple [.int .u64 v0, .bool v1]) [] := by kernel_rfl
theorem ok_165 : EntryOK Try.prog 165 (e_165 @s_165) := by
  refine entry_of (T := t_165 @s_133 @s_156 (@p_165_0 F165)) ⟨tabOK_of_all tys_ok, eqsOK_of_all eqs_ok, fun g E h => ?_, fun g t h => (by cases h)⟩ mixed Try.func165 (show Try.f165.body = some code165 by kernel_rfl) (by kernel_rfl) (pieces_of (by kernel_rfl) fun i E h => ?_) ?_
  · have := look_mem h
    simp only [t_165, List.mem_cons, List.not_mem_nil, or_false, Prod.mk.injEq] at this
    rcases this with ⟨rfl, rfl⟩ | ⟨rfl, rfl⟩ | ⟨rfl, rfl⟩
    · exact ok_133
    · exact ok_156
    · exact mul_ok
  · have := look_mem h
    simp only [t_165, List.mem_cons, List.not_mem_nil, or_false, Prod.mk.injEq] at this
    rcases this with ⟨rfl, rfl⟩
    · exact piece_165_0 F165
  · intro ρ args bs k r h
    unfold e_165 at h
    split at h
    · rename_i a0
      exact (run_165 @s_133 @s_156 (@p_165_0 F165) a0 k).trans h
    · cases h

/-! math/bits.Div64 -/
noncomputable def code161 : Code := Try.f161.body.getD .skip
noncomputable def c161_0 : Code := (match pieceAt 1 code161 with | .block _ (.loop c) => c | _ => .skip)
def fl_161_0 : List Bool := [false, false, true, false, false, false, false, false, true, true, true, true, false, true, true, true, true]
def fx_161_0 : List Bool := [false, false, true, false, false, false, false, false, true, true, true, true, false, true, true, true]
def st_161_0 (x2 : Int) (x8 : Int) (x9 : Int) (x10 : Int) (x11 : Int) (x13 : Int) (x14 : Int) (x15 : Int) (x16 : Int) : St := ⟨spread 135 fl_161_0 [.int .u64 x2, .int .u64 x8, .int .u64 x9, .int .u64 x10, .int .u64 x11, .int .u64 x13, .int .u64 x14, .int .u64 x15, .int .u64 x16], []⟩
def sx_161_0 (x2 : Int) (x8 : Int) (x9 : Int) (x10 : Int) (x11 : Int) (x13 : Int) (x14 : Int) (x15 : Int) : St := ⟨spread 135 fx_161_0 [.int .u64 x2, .int .u64 x8, .int .u64 x9, .int .u64 x10, .int .u64 x11, .int .u64 x13, .int .u64 x14, .int .u64 x15], []⟩
noncomputable def t_161_0 : Tab := { ty := tys, eqs := eqs, call := [(171, lz64E)], fuel := 64, norm := some (fl_161_0, 0) }
noncomputable def h_161_0 {ρ : Type} (p_n161_0 : Int → Int → Int → Int → Int → Int → Int → Int → Option ρ) (p_R161_0 : Int → Int → Int → Int → Int → Int → Int → Int → Int → Option ρ) (x2 : Int) (x8 : Int) (x9 : Int) (x10 : Int) (x11 : Int) (x13 : Int) (x14 : Int) (x15 : Int) (x16 : Int) : Option ρ :=
  Go.Ull.sel (Decidable.decide (x15 ≥ 4294967296))
    (Go.Ull.sel (Decidable.decide (Go.IntKind.u64.wrap (x16 + x9) ≥ 4294967296)) (p_n161_0 x2 x8 x9 x10 x11 x13 x14 (Go.IntKind.u64.wrap (x15 - 1)))
      (p_R161_0 x2 x8 x9 x10 x11 x13 x14 (Go.IntKind.u64.wrap (x15 - 1)) (Go.IntKind.u64.wrap (x16 + x9))))
    (Go.Ull.sel (Decidable.decide (Go.IntKind.u64.wrap (x15 * x10) > Go.IntKind.u64.wrap (Go.IntKind.u64.wrap (4294967296 * x16) + x13)))
      (Go.Ull.sel (Decidable.decide (Go.IntKind.u64.wrap (x16 + x9) ≥ 4294967296)) (p_n161_0 x2 x8 x9 x10 x11 x13 x14 (Go.IntKind.u64.wrap (x15 - 1)))
        (p_R161_0 x2 x8 x9 x10 x11 x13 x14 (Go.IntKind.u64.wrap (x15 - 1)) (Go.IntKind.u64.wrap (x16 + x9))))
      (p_n161_0 x2 x8 x9 x10 x11 x13 x14 x15))
noncomputable def l_161_0 {ρ : Type} (p_n161_0 : Int → Int → Int → Int → Int → Int → Int → Int → Option ρ) : Nat → Int → Int → Int → Int → Int → Int → Int → Int → Int → Option ρ
  | 0, _, _, _, _, _, _, _, _, _ => none
  | n + 1, x2, x8, x9, x10, x11, x13, x14, x15, x16 => h_161_0 p_n161_0 (l_161_0 p_n161_0 n) x2 x8 x9 x10 x11 x13 x14 x15 x16
abbrev P_161_0 : Type 1 := ∀ {ρ : Type}, (Int → Int → Int → Int → Int → Int → Int → Int → Option ρ) → Int → Int → Int → Int → Int → Int → Int → Int → Int → Option ρ
noncomputable def p_161_0 (F : Nat) : P_161_0 := @fun _ kn x2 x8 x9 x10 x11 x13 x14 x15 x16 => l_161_0 kn F x2 x8 x9 x10 x11 x13 x14 x15 x16
theorem step_161_0 {ρ : Type} (x2 : Int) (x8 : Int) (x9 : Int) (x10 : Int) (x11 : Int) (x13 : Int) (x14 : Int) (x15 : Int) (x16 : Int) (k : AX → St → Option ρ) (R : St → Option ρ) :
    (ev (t_161_0) c161_0 (st_161_0 x2 x8 x9 x10 x11 x13 x14 x15 x16) fun y σ' => match y with | .normal => (normO 0 (some (fl_161_0, 0)) σ').bind R | y => leaves 0 0 (some (fx_161_0, 0)) (fun _ => none) none k y σ') =
      h_161_0 (fun x2 x8 x9 x10 x11 x13 x14 x15 => k .normal (sx_161_0 x2 x8 x9 x10 x11 x13 x14 x15)) (fun x2 x8 x9 x10 x11 x13 x14 x15 x16 => R (st_161_0 x2 x8 x9 x10 x11 x13 x14 x15 x16)) x2 x8 x9 x10 x11 x13 x14 x15 x16 := by kernel_rfl
theorem rounds_161_0 {ρ : Type} (k : AX → St → Option ρ) : ∀ (f : Nat) (x2 : Int) (x8 : Int) (x9 : Int) (x10 : Int) (x11 : Int) (x13 : Int) (x14 : Int) (x15 : Int) (x16 : Int),
    rounds 0 (some (fl_161_0, 0)) (ev (t_161_0) c161_0) (leaves 0 0 (some (fx_161_0, 0)) (fun _ => none) none k) f (st_161_0 x2 x8 x9 x10 x11 x13 x14 x15 x16) = l_161_0 (fun x2 x8 x9 x10 x11 x13 x14 x15 => k .normal (sx_161_0 x2 x8 x9 x10 x11 x13 x14 x15)) f x2 x8 x9 x10 x11 x13 x14 x15 x16
  | 0, _, _, _, _, _, _, _, _, _ => rfl
  | f + 1, x2, x8, x9, x10, x11, x13, x14, x15, x16 => by
    have h := step_161_0 x2 x8 x9 x10 x11 x13 x14 x15 x16 k (rounds 0 (some (fl_161_0, 0)) (ev (t_161_0) c161_0) (leaves 0 0 (some (fx_161_0, 0)) (fun _ => none) none k) f)
    rw [show (fun x2 x8 x9 x10 x11 x13 x14 x15 x16 => rounds 0 (some (fl_161_0, 0)) (ev (t_161_0) c161_0) (leaves 0 0 (some (fx_161_0, 0)) (fun _ => none) none k) f (st_161_0 x2 x8 x9 x10 x11 x13 x14 x15 x16)) = l_161_0 (fun x2 x8 x9 x10 x11 x13 x14 x15 => k .normal (sx_161_0 x2 x8 x9 x10 x11 x13 x14 x15)) f from funext fun x2 => funext fun x8 => funext fun x9 => funext fun x10 => funext fun x11 => funext fun x13 => funext fun x14 => funext fun x15 => funext fun x16 => rounds_161_0 k f x2 x8 x9 x10 x11 x13 x14 x15 x16] at h
    exact h
noncomputable def L_161_0 (p_161_0 : P_161_0) : PEntry := fun _ σ' k => match viewE 0 fl_161_0 0 135 σ' with
  | some ([.int .u64 x2, .int .u64 x8, .int .u64 x9, .int .u64 x10, .int .u64 x11, .int .u64 x13, .int .u64 x14, .int .u64 x15, .int .u64 x16], []) => p_161_0 (fun x2 x8 x9 x10 x11 x13 x14 x15 => k .normal (sx_161_0 x2 x8 x9 x10 x11 x13 x14 x15)) x2 x8 x9 x10 x11 x13 x14 x15 x16
  | _ => none
theorem code_161_0 : pieceAt 1 code161 = .block 0 (.loop c161_0) := by kernel_rfl
theorem piece_161_0 (F : Nat) : PieceOK Try.prog 0 (pieceAt 1 code161) (L_161_0 (@p_161_0 F)) := by
  rw [code_161_0]
  refine piece_loops (T := t_161_0) ⟨tabOK_of_all tys_ok, eqsOK_of_all eqs_ok, fun g E h => ?_, fun g t h => (by cases h)⟩ mixed (no_pieces rfl _) (some (fl_161_0, 0)) (some (fx_161_0, 0)) (fun _ => none) none fun ρ σ k r h => ?_
  · have := look_mem h
    simp only [t_161_0, List.mem_cons, List.not_mem_nil, or_false, Prod.mk.injEq] at this
    rcases this with ⟨rfl, rfl⟩
    · exact lz_ok
  unfold L_161_0 at h
  split at h
  · rename_i x2 x8 x9 x10 x11 x13 x14 x15 x16 hv
    refine ⟨F, ?_⟩
    have hv2 := viewE_some hv
    show (normO 0 (some (fl_161_0, 0)) σ).bind _ = _
    rw [hv2]
    exact (rounds_161_0 k F x2 x8 x9 x10 x11 x13 x14 x15 x16).trans h
  · cases h
noncomputable def c161_2 : Code := (match pieceAt 5 code161 with | .block _ (.loop c) => c | _ => .skip)
def fl_161_2 : List Bool := [false, false, true, false, false, false, false, false, true, true, true, false, false, false, true, true, true, true, true]
def fx_161_2 : List Bool := [false, false, true, false, false, false, false, false, true, false, false, false, false, false, true, true, false, true, true]
def st_161_2 (x2 : Int) (x8 : Int) (x9 : Int) (x10 : Int) (x14 : Int) (x15 : Int) (x16 : Int) (x17 : Int) (x18 : Int) : St := ⟨spread 135 fl_161_2 [.int .u64 x2, .int .u64 x8, .int .u64 x9, .int .u64 x10, .int .u64 x14, .int .u64 x15, .int .u64 x16, .int .u64 x17, .int .u64 x18], []⟩
def sx_161_2 (x2 : Int) (x8 : Int) (x14 : Int) (x15 : Int) (x17 : Int) (x18 : Int) : St := ⟨spread 135 fx_161_2 [.int .u64 x2, .int .u64 x8, .int .u64 x14, .int .u64 x15, .int .u64 x17, .int .u64 x18], []⟩
noncomputable def t_161_2 : Tab := { ty := tys, eqs := eqs, call := [(171, lz64E)], fuel := 64, norm := some (fl_161_2, 0) }
noncomputable def h_161_2 {ρ : Type} (p_n161_2 : Int → Int → Int → Int → Int → Int → Option ρ) (p_R161_2 : Int → Int → Int → Int → Int → Int → Int → Int → Int → Option ρ) (x2 : Int) (x8 : Int) (x9 : Int) (x10 : Int) (x14 : Int) (x15 : Int) (x16 : Int) (x17 : Int) (x18 : Int) : Option ρ :=
  Go.Ull.sel (Decidable.decide (x18 ≥ 4294967296))
    (Go.Ull.sel (Decidable.decide (Go.IntKind.u64.wrap (x16 + x9) ≥ 4294967296)) (p_n161_2 x2 x8 x14 x15 x17 (Go.IntKind.u64.wrap (x18 - 1)))
      (p_R161_2 x2 x8 x9 x10 x14 x15 (Go.IntKind.u64.wrap (x16 + x9)) x17 (Go.IntKind.u64.wrap (x18 - 1))))
    (Go.Ull.sel (Decidable.decide (Go.IntKind.u64.wrap (x18 * x10) > Go.IntKind.u64.wrap (Go.IntKind.u64.wrap (4294967296 * x16) + x14)))
      (Go.Ull.sel (Decidable.decide (Go.IntKind.u64.wrap (x16 + x9) ≥ 4294967296)) (p_n161_2 x2 x8 x14 x15 x17 (Go.IntKind.u64.wrap (x18 - 1)))
        (p_R161_2 x2 x8 x9 x10 x14 x15 (Go.IntKind.u64.wrap (x16 + x9)) x17 (Go.IntKind.u64.wrap (x18 - 1))))
      (p_n161_2 x2 x8 x14 x15 x17 x18))
noncomputable def l_161_2 {ρ : Type} (p_n161_2 : Int → Int → Int → Int → Int → Int → Option ρ) : Nat → Int → Int → Int → Int → Int → Int → Int → Int → Int → Option ρ
  | 0, _, _, _, _, _, _, _, _, _ => none
  | n + 1, x2, x8, x9, x10, x14, x15, x16, x17, x18 => h_161_2 p_n161_2 (l_161_2 p_n161_2 n) x2 x8 x9 x10 x14 x15 x16 x17 x18
abbrev P_161_2 : Type 1 := ∀ {ρ : Type}, (Int → Int → Int → Int → Int → Int → Option ρ) → Int → Int → Int → Int → Int → Int → Int → Int → Int → Option ρ
noncomputable def p_161_2 (F : Nat) : P_161_2 := @fun _ kn x2 x8 x9 x10 x14 x15 x16 x17 x18 => l_161_2 kn F x2 x8 x9 x10 x14 x15 x16 x17 x18
theorem step_161_2 {ρ : Type} (x2 : Int) (x8 : Int) (x9 : Int) (x10 : Int) (x14 : Int) (x15 : Int) (x16 : Int) (x17 : Int) (x18 : Int) (k : AX → St → Option ρ) (R : St → Option ρ) :
    (ev (t_161_2) c161_2 (st_161_2 x2 x8 x9 x10 x14 x15 x16 x17 x18) fun y σ' => match y with | .normal => (normO 0 (some (fl_161_2, 0)) σ').bind R | y => leaves 0 2 (some (fx_161_2, 0)) (fun _ => none) none k y σ') =
      h_161_2 (fun x2 x8 x14 x15 x17 x18 => k .normal (sx_161_2 x2 x8 x14 x15 x17 x18)) (fun x2 x8 x9 x10 x14 x15 x16 x17 x18 => R (st_161_2 x2 x8 x9 x10 x14 x15 x16 x17 x18)) x2 x8 x9 x10 x14 x15 x16 x17 x18 := by kernel_rfl
theorem rounds_161_2 {ρ : Type} (k : AX → St → Option ρ) : ∀ (f : Nat) (x2 : Int) (x8 : Int) (x9 : Int) (x10 : Int) (x14 : Int) (x15 : Int) (x16 : Int) (x17 : Int) (x18 : Int),
    rounds 0 (some (fl_161_2, 0)) (ev (t_161_2) c161_2) (leaves 0 2 (some (fx_161_2, 0)) (fun _ => none) none k) f (st_161_2 x2 x8 x9 x10 x14 x15 x16 x17 x18) = l_161_2 (fun x2 x8 x14 x15 x17 x18 => k .normal (sx_161_2 x2 x8 x14 x15 x17 x18)) f x2 x8 x9 x10 x14 x15 x16 x17 x18
  | 0, _, _, _, _, _, _, _, _, _ => rfl
  | f + 1, x2, x8, x9, x10, x14, x15, x16, x17, x18 => by
    have h := step_161_2 x2 x8 x9 x10 x14 x15 x16 x17 x18 k (rounds 0 (some (fl_161_2, 0)) (ev (t_161_2) c161_2) (leaves 0 2 (some (fx_161_2, 0)) (fun _ => none) none k) f)
    rw [show (fun x2 x8 x9 x10 x14 x15 x16 x17 x18 => rounds 0 (some (fl_161_2, 0)) (ev (t_161_2) c161_2) (leaves 0 2 (some (fx_161_2, 0)) (fun _ => none) none k) f (st_161_2 x2 x8 x9 x10 x14 x15 x16 x17 x18)) = l_161_2 (fun x2 x8 x14 x15 x17 x18 => k .normal (sx_161_2 x2 x8 x14 x15 x17 x18)) f from funext fun x2 => funext fun x8 => funext fun x9 => funext fun x10 => funext fun x14 => funext fun x15 => funext fun x16 => funext fun x17 => funext fun x18 => rounds_161_2 k f x2 x8 x9 x10 x14 x15 x16 x17 x18] at h
    exact h
noncomputable def L_161_2 (p_161_2 : P_161_2) : PEntry := fun _ σ' k => match viewE 0 fl_161_2 0 135 σ' with
  | some ([.int .u64 x2, .int .u64 x8, .int .u64 x9, .int .u64 x10, .int .u64 x14, .int .u64 x15, .int .u64 x16, .int .u64 x17, .int .u64 x18], []) => p_161_2 (fun x2 x8 x14 x15 x17 x18 => k .normal (sx_161_2 x2 x8 x14 x15 x17 x18)) x2 x8 x9 x10 x14 x15 x16 x17 x18
  | _ => none
theorem code_161_2 : pieceAt 5 code161 = .block 2 (.loop c161_2) := by kernel_rfl
theorem piece_161_2 (F : Nat) : PieceOK Try.prog 0 (pieceAt 5 code161) (L_161_2 (@p_161_2 F)) := by
  rw [code_161_2]
  refine piece_loops (T := t_161_2) ⟨tabOK_of_all tys_ok, eqsOK_of_all eqs_ok, fun g E h => ?_, fun g t h => (by cases h)⟩ mixed (no_pieces rfl _) (some (fl_161_2, 0)) (some (fx_161_2, 0)) (fun _ => none) none fun ρ σ k r h => ?_
  · have := look_mem h
    simp only [t_161_2, List.mem_cons, List.not_mem_nil, or_false, Prod.mk.injEq] at this
    rcases this with ⟨rfl, rfl⟩
    · exact lz_ok
  unfold L_161_2 at h
  split at h
  · rename_i x2 x8 x9 x10 x14 x15 x16 x17 x18 hv
    refine ⟨F, ?_⟩
    have hv2 := viewE_some hv
    show (normO 0 (some (fl_161_2, 0)) σ).bind _ = _
    rw [hv2]
    exact (rounds_161_2 k F x2 x8 x9 x10 x14 x15 x16 x17 x18).trans h
  · cases h

/-- math/bits.Div64 -/
abbrev S_161 : Type 1 := ∀ {ρ : Type}, Int → Int → Int → (Int → Int → Option ρ) → Option ρ
def F161 : Nat := 300
noncomputable def g_161 (p_161_0 : P_161_0) (p_161_2 : P_161_2) {ρ : Type} (a0 : Int) (a1 : Int) (a2 : Int) (k : Int → Int → Option ρ) : Option ρ :=
  Go.Ull.sel (a2 == 0) Option.none
    (Go.Ull.sel (Decidable.decide (a2 ≤ a0)) Option.none
      (Go.Ull.sel (a0 == 0) (Go.Ull.sel (Decidable.decide (a2 = 0)) Option.none (Go.Ull.sel (Decidable.decide (a2 = 0)) Option.none (k (Go.IntKind.u64.wrap (a1.tdiv a2)) (a1.tmod a2))))
        (Go.Ull.sel (Decidable.decide (0 ≤ a2) && Decidable.decide (a2 ≤ 18446744073709551615))
          (Go.Ull.sel (Decidable.decide (Go.IntKind.u64.wrap (Go.Ull.lzI a2) < 0)) Option.none
            (Go.Ull.sel (Decidable.decide (Go.IntKind.u64.wrap (Go.Ull.lzI a2) < 0)) Option.none
              (Go.Ull.sel (Decidable.decide (Go.IntKind.u64.wrap (64 - Go.IntKind.u64.wrap (Go.Ull.lzI a2)) < 0)) Option.none
                (Go.Ull.sel (Decidable.decide (Go.IntKind.u64.wrap (Go.Ull.lzI a2) < 0)) Option.none
                  (Go.Ull.sel (Decidable.decide ((Go.IntKind.u64.wrap (a2 * 2 ^ Min.min (Go.IntKind.u64.wrap (Go.Ull.lzI a2)).toNat Go.IntKind.u64.bits)).fdiv (2 ^ Min.min (Int.toNat 32) Go.IntKind.u64.bits) = 0))
                    Option.none
                    (p_161_0
                      (fun x2 x8 x9 x10 x11 x13 x14 x15 =>
                        Go.Ull.sel (Decidable.decide (x9 = 0)) Option.none
                          (p_161_2
                            (fun x2 x8 x14 x15 x17 x18 =>
                              Go.Ull.sel (Decidable.decide (x8 < 0)) Option.none
                                (k (Go.IntKind.u64.wrap (Go.IntKind.u64.wrap (x15 * 4294967296) + x18))
                                  ((Go.IntKind.u64.wrap (Go.IntKind.u64.wrap (Go.IntKind.u64.wrap (x17 * 4294967296) + x14) - Go.IntKind.u64.wrap (x18 * x2))).fdiv (2 ^ Min.min x8.toNat Go.IntKind.u64.bits))))
                            x2 x8 x9 x10 x14 x15
                            (Go.IntKind.u64.wrap
                              (Go.IntKind.u64.wrap (Go.IntKind.u64.wrap (Go.IntKind.u64.wrap (x11 * 4294967296) + x13) - Go.IntKind.u64.wrap (x15 * x2)) -
                                Go.IntKind.u64.wrap (Go.IntKind.u64.wrap ((Go.IntKind.u64.wrap (Go.IntKind.u64.wrap (Go.IntKind.u64.wrap (x11 * 4294967296) + x13) - Go.IntKind.u64.wrap (x15 * x2))).tdiv x9) * x9)))
                            (Go.IntKind.u64.wrap (Go.IntKind.u64.wrap (Go.IntKind.u64.wrap (x11 * 4294967296) + x13) - Go.IntKind.u64.wrap (x15 * x2)))
                            (Go.IntKind.u64.wrap ((Go.IntKind.u64.wrap (Go.IntKind.u64.wrap (Go.IntKind.u64.wrap (x11 * 4294967296) + x13) - Go.IntKind.u64.wrap (x15 * x2))).tdiv x9))))
                      (Go.IntKind.u64.wrap (a2 * 2 ^ Min.min (Go.IntKind.u64.wrap (Go.Ull.lzI a2)).toNat Go.IntKind.u64.bits)) (Go.IntKind.u64.wrap (Go.Ull.lzI a2))
                      ((Go.IntKind.u64.wrap (a2 * 2 ^ Min.min (Go.IntKind.u64.wrap (Go.Ull.lzI a2)).toNat Go.IntKind.u64.bits)).fdiv (2 ^ Min.min (Int.toNat 32) Go.IntKind.u64.bits))
                      (Go.IntKind.u64.wrap (Go.Ull.bAnd Go.IntKind.u64.bits (Go.IntKind.u64.wrap (a2 * 2 ^ Min.min (Go.IntKind.u64.wrap (Go.Ull.lzI a2)).toNat Go.IntKind.u64.bits)) 4294967295))
                      (Go.IntKind.u64.wrap
                        (Go.Ull.bOr Go.IntKind.u64.bits (Go.IntKind.u64.wrap (a0 * 2 ^ Min.min (Go.IntKind.u64.wrap (Go.Ull.lzI a2)).toNat Go.IntKind.u64.bits))
                          (a1.fdiv (2 ^ Min.min (Go.IntKind.u64.wrap (64 - Go.IntKind.u64.wrap (Go.Ull.lzI a2))).toNat Go.IntKind.u64.bits))))
                      ((Go.IntKind.u64.wrap (a1 * 2 ^ Min.min (Go.IntKind.u64.wrap (Go.Ull.lzI a2)).toNat Go.IntKind.u64.bits)).fdiv (2 ^ Min.min (Int.toNat 32) Go.IntKind.u64.bits))
                      (Go.IntKind.u64.wrap (Go.Ull.bAnd Go.IntKind.u64.bits (Go.IntKind.u64.wrap (a1 * 2 ^ Min.min (Go.IntKind.u64.wrap (Go.Ull.lzI a2)).toNat Go.IntKind.u64.bits)) 4294967295))
                      (Go.IntKind.u64.wrap
                        ((Go.IntKind.u64.wrap
                              (Go.Ull.bOr Go.IntKind.u64.bits (Go.IntKind.u64.wrap (a0 * 2 ^ Min.min (Go.IntKind.u64.wrap (Go.Ull.lzI a2)).toNat Go.IntKind.u64.bits))
                                (a1.fdiv (2 ^ Min.min (Go.IntKind.u64.wrap (64 - Go.IntKind.u64.wrap (Go.Ull.lzI a2))).toNat Go.IntKind.u64.bits)))).tdiv
                          ((Go.IntKind.u64.wrap (a2 * 2 ^ Min.min (Go.IntKind.u64.wrap (Go.Ull.lzI a2)).toNat Go.IntKind.u64.bits)).fdiv (2 ^ Min.min (Int.toNat 32) Go.IntKind.u64.bits))))
                      (Go.IntKind.u64.wrap
                        (Go.IntKind.u64.wrap
                            (Go.Ull.bOr Go.IntKind.u64.bits (Go.IntKind.u64.wrap (a0 * 2 ^ Min.min (Go.IntKind.u64.wrap (Go.Ull.lzI a2)).toNat Go.IntKind.u64.bits))
                              (a1.fdiv (2 ^ Min.min (Go.IntKind.u64.wrap (64 - Go.IntKind.u64.wrap (Go.Ull.lzI a2))).toNat Go.IntKind.u64.bits))) -
                          Go.IntKind.u64.wrap
                            (Go.IntKind.u64.wrap
                                ((Go.IntKind.u64.wrap
                                      (Go.Ull.bOr Go.IntKind.u64.bits (Go.IntKind.u64.wrap (a0 * 2 ^ Min.min (Go.IntKind.u64.wrap (Go.Ull.lzI a2)).toNat Go.IntKind.u64.bits))
                                        (a1.fdiv (2 ^ Min.min (Go.IntKind.u64.wrap (64 - Go.IntKind.u64.wrap (Go.Ull.lzI a2))).toNat Go.IntKind.u64.bits)))).tdiv
                                  ((Go.IntKind.u64.wrap (a2 * 2 ^ Min.min (Go.IntKind.u64.wrap (Go.Ull.lzI a2)).toNat Go.IntKind.u64.bits)).fdiv (2 ^ Min.min (Int.toNat 32) Go.IntKind.u64.bits))) *
                              (Go.IntKind.u64.wrap (a2 * 2 ^ Min.min (Go.IntKind.u64.wrap (Go.Ull.lzI a2)).toNat Go.IntKind.u64.bits)).fdiv (2 ^ Min.min (Int.toNat 32) Go.IntKind.u64.bits))))))))))
          Option.none)))
noncomputable def s_161 : S_161 := @fun _ a0 a1 a2 k => g_161 (@p_161_0 F161) (@p_161_2 F161) a0 a1 a2 k
noncomputable def e_161 (s : S_161) : Entry := fun _ args bs k =>
  match args, bs with
  | [.int .u64 a0, .int .u64 a1, .int .u64 a2], [] => s a0 a1 a2 fun v0 v1 => k (.tuple [.int .u64 v0, .int .u64 v1]) []
  | _, _ => none
noncomputable def t_161 (p_161_0 : P_161_0) (p_161_2 : P_161_2) : Tab := { ty := tys, eqs := eqs, call := [(171, lz64E)], fuel := 64, piece := [(1, L_161_0 @p_161_0), (5, L_161_2 @p_161_2)] }
theorem run_161 (p_161_0 : P_161_0) (p_161_2 : P_161_2) {ρ : Type} (a0 : Int) (a1 : Int) (a2 : Int) (K : AV → List Blk → Option ρ) :
    runF (t_161 @p_161_0 @p_161_2) code161 Try.f161.results.toList Try.f161.ntmps [.int .u64 a0, .int .u64 a1, .int .u64 a2] [] K = g_161 @p_161_0 @p_161_2 a0 a1 a2 fun v0 v1 => K (.tuple [.int .u64 v0, .int .u64 v1]) [] := by kernel_rfl
theorem ok_161 : EntryOK Try.prog 161 (e_161 @s_161) := by
  refine entry_of (T := t_161 (@p_161_0 F161) (@p_161_2 F161)) ⟨tabOK_of_all tys_ok, eqsOK_of_all eqs_ok, fun g E h => ?_, fun g t h => (by cases h)⟩ mixed Try.func161 (show Try.f161.body = some code161 by kernel_rfl) (by kernel_rfl) (pieces_of (by kernel_rfl) fun i E h => ?_) ?_
  · have := look_mem h
    simp only [t_161, List.mem_cons, List.not_mem_nil, or_false, Prod.mk.injEq] at this
    rcases this with ⟨rfl, rfl⟩
    · exact lz_ok
  · have := look_mem h
    simp only [t_161, List.mem_cons, List.not_mem_nil, or_false, Prod.mk.injEq] at this
    rcases this with ⟨rfl, rfl⟩ | ⟨rfl, rfl⟩
    · exact piece_161_0 F161
    · exact piece_161_2 F161
  · intro ρ args bs k r h
    unfold e_161 at h
    split at h
    · rename_i a0 a1 a2
      exact (run_161 (@p_161_0 F161) (@p_161_2 F161) a0 a1 a2 k).trans h
    · cases h

end Go.Proofs.Ytmgdofgmidbddaa
