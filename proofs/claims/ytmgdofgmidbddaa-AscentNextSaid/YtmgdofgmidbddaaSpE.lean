/- AscentNext of the statement's own package: its two loops, and the whole. -/
import Derived.Test.YtmgdofgmidbddaaFrX
import Derived.Test.YtmgdofgmidbddaaSpD
namespace Go.Proofs.Ytmgdofgmidbddaa
open Go Go.Ull

noncomputable def code3 : Code := Try.f3.body.getD .skip
def fl3a : List Bool := [false, false, true, true, true, false, false, true, true, true, false, false, true, false, false, false, true, true]
def fl3b : List Bool := [false, false, true, true, true, false, false, true, true, true, false, false, true, false, false, false, true]
def fl3c : List Bool := [false, false, true, true, true, false, false, true, false, false, false, false, false, false, false, false, false, false, false, false, false, false, false, false, false, false, false, false, false, false, false, false, false, false, false, false, false, false, false, false, false, false, false, false, false, false, false, false, false, false, false, false, false, false, false, false, false, false, false, false, false, false, false, false, false, false, false, false, false, false, false, false, false, false, false, false, false, false, false, false, false, false, false, false, false, false, false, false, false, false, false, false, false, false, false, false, false, false, false, false, false, false, false, false, false, false, false, false, false, false, false, false, false, false, false, false, false, false, false, false, false, false, false, false, false, false, false, false, false, false, false, false, false, false, false, false, false, false, false, false, false, false, false, false, false, false, false, false, false, false, false, false, false, false, false, true, true]
def fl3d : List Bool := [false, false, false, false, false, false, false, true]
def fl3r : List Bool := [false, false, false, false, false, false, true]
noncomputable def c3_0 : Code := loopBody (pieceAt 1 code3)
noncomputable def c3_2 : Code := loopBody (pieceAt 5 code3)
def hp3 (a b : Window) : List Blk := [.box (cWindow a) false, .box (cWindow b) false]
def st3a (a b : Window) (t : Int) (ok : Bool) (x e n p q : Int) : St := ⟨spread 173 fl3a [i64 t, .ptr 0 0, .ptr 1 0, .bool ok, i64 x, i64 e, i64 n, i64 p, i64 q], hp3 a b⟩
def st3b (a b : Window) (t : Int) (ok : Bool) (x e n p : Int) : St := ⟨spread 173 fl3b [i64 t, .ptr 0 0, .ptr 1 0, .bool ok, i64 x, i64 e, i64 n, i64 p], hp3 a b⟩
def st3c (a b : Window) (t : Int) (ok : Bool) (m i : Int) : St := ⟨spread 173 fl3c [i64 t, .ptr 0 0, .ptr 1 0, .bool ok, i64 m, i64 i], hp3 a b⟩
def st3d (a b : Window) (ok : Bool) : St := ⟨spread 173 fl3d [.bool ok], hp3 a b⟩
def st3r (a b : Window) : St := ⟨spread 173 fl3r [.bool false], hp3 a b⟩

/-! The first loop: Euclid's. -/
def T3_0 : Tab := { ty := tys, eqs := eqs, call := [], norm := some (fl3a, 2) }
def lv3_0 {ρ : Type} (k : AX → St → Option ρ) : AX → St → Option ρ := leaves 0 0 (some (fl3b, 2)) (fun _ => none) none k

theorem step3_0 {ρ : Type} (a b : Window) (t : Int) (ok : Bool) (x e n p q : Int) (k : AX → St → Option ρ) (R : St → Option ρ) :
    (ev T3_0 c3_0 (st3a a b t ok x e n p q) fun y σ' => match y with | .normal => (normO 0 (some (fl3a, 2)) σ').bind R | y => lv3_0 k y σ') =
      bif decide (q > 0) then bif decide (q = 0) then none else R (st3a a b t ok x e n q (p.tmod q)) else k .normal (st3b a b t ok x e n p) := by kernel_rfl

theorem rounds3_0 {ρ : Type} (a b : Window) (t : Int) (ok : Bool) (x e n : Int) (k : AX → St → Option ρ) : ∀ (f : Nat) (p q : Int),
    rounds 0 (some (fl3a, 2)) (ev T3_0 c3_0) (lv3_0 k) f (st3a a b t ok x e n p q) = l_35_0 (fun p _ => k .normal (st3b a b t ok x e n p)) f p q
  | 0, _, _ => rfl
  | f + 1, p, q => by
    have h := step3_0 a b t ok x e n p q k (rounds 0 (some (fl3a, 2)) (ev T3_0 c3_0) (lv3_0 k) f)
    rw [rounds3_0 a b t ok x e n k f q (p.tmod q)] at h
    exact h

abbrev P_3_0 : Type 1 := ∀ {ρ : Type}, (Int → Option ρ) → Int → Int → Option ρ
def p_3_0 : P_3_0 := @fun _ k p q => l_35_0 (fun p _ => k p) 64 p q
def L_3_0 (p_3_0 : P_3_0) : PEntry := fun _ σ k =>
  match viewE 0 fl3a 2 173 σ with
  | some ([.int .i64 t, .ptr 0 0, .ptr 1 0, .bool ok, .int .i64 x, .int .i64 e, .int .i64 n, .int .i64 p, .int .i64 q], [.box [.int .i64 a0, .int .i64 a1, .int .i64 a2] false, .box [.int .i64 b0, .int .i64 b1, .int .i64 b2] false]) =>
    p_3_0 (fun p => k .normal (st3b ⟨a0, a1, a2⟩ ⟨b0, b1, b2⟩ t ok x e n p)) p q
  | _ => none

theorem code3_0 : pieceAt 1 code3 = .block 0 (.loop c3_0) := by kernel_rfl

theorem piece3_0 : PieceOK Try.prog 0 (pieceAt 1 code3) (L_3_0 @p_3_0) := by
  rw [code3_0]
  refine piece_loops (T := T3_0) ⟨tabOK_of_all tys_ok, eqsOK_of_all eqs_ok, fun g E h => (by cases h), fun g t h => (by cases h)⟩ mixed (no_pieces rfl _) (some (fl3a, 2)) (some (fl3b, 2)) (fun _ => none) none fun ρ σ k r h => ?_
  unfold L_3_0 at h
  split at h
  · rename_i t ok x e n p q a0 a1 a2 b0 b1 b2 hv
    refine ⟨64, ?_⟩
    have hv2 := viewE_some hv
    show (normO 0 (some (fl3a, 2)) σ).bind _ = _
    rw [hv2]
    exact (rounds3_0 ⟨a0, a1, a2⟩ ⟨b0, b1, b2⟩ t ok x e n k 64 p q).trans h
  · cases h

/-! The second loop: the times before the next meeting. -/
noncomputable def h_3_2 (s_9 : S_9) {ρ : Type} (a b : Window) (t : Int) (kn kr : Option ρ) (R : Int → Option ρ) (m i : Int) : Option ρ :=
  sel (decide (i < m)) (s_9 a (IntKind.i64.wrap (t + i)) fun v => sel v (s_9 b (IntKind.i64.wrap (t + i)) fun v => sel v kr (R (IntKind.i64.wrap (i + 1)))) (R (IntKind.i64.wrap (i + 1)))) kn
noncomputable def l_3_2 (s_9 : S_9) {ρ : Type} (a b : Window) (t : Int) (kn kr : Option ρ) : Nat → Int → Int → Option ρ
  | 0, _, _ => none
  | f + 1, m, i => h_3_2 @s_9 a b t kn kr (l_3_2 @s_9 a b t kn kr f m) m i
def T3_2 (s_9 : S_9) : Tab := { ty := tys, eqs := eqs, call := [(9, e_9 @s_9)], norm := some (fl3c, 2) }
def lv3_2 {ρ : Type} (k : AX → St → Option ρ) : AX → St → Option ρ := leaves 0 2 (some (fl3d, 2)) (fun _ => none) (some (fl3r, 2)) k

theorem step3_2 (s_9 : S_9) {ρ : Type} (a b : Window) (t : Int) (ok : Bool) (m i : Int) (k : AX → St → Option ρ) (R : St → Option ρ) :
    (ev (T3_2 @s_9) c3_2 (st3c a b t ok m i) fun y σ' => match y with | .normal => (normO 0 (some (fl3c, 2)) σ').bind R | y => lv3_2 k y σ') =
      h_3_2 @s_9 a b t (k .normal (st3d a b ok)) (k .ret (st3r a b)) (fun i => R (st3c a b t ok m i)) m i := by kernel_rfl

theorem rounds3_2 (s_9 : S_9) {ρ : Type} (a b : Window) (t : Int) (ok : Bool) (m : Int) (k : AX → St → Option ρ) : ∀ (f : Nat) (i : Int),
    rounds 0 (some (fl3c, 2)) (ev (T3_2 @s_9) c3_2) (lv3_2 k) f (st3c a b t ok m i) = l_3_2 @s_9 a b t (k .normal (st3d a b ok)) (k .ret (st3r a b)) f m i
  | 0, _ => rfl
  | f + 1, i => by
    have h := step3_2 @s_9 a b t ok m i k (rounds 0 (some (fl3c, 2)) (ev (T3_2 @s_9) c3_2) (lv3_2 k) f)
    rw [show (fun i => rounds 0 (some (fl3c, 2)) (ev (T3_2 @s_9) c3_2) (lv3_2 k) f (st3c a b t ok m i)) = l_3_2 @s_9 a b t (k .normal (st3d a b ok)) (k .ret (st3r a b)) f m from funext (rounds3_2 @s_9 a b t ok m k f)] at h
    exact h

abbrev P_3_2 : Type 1 := ∀ {ρ : Type}, Window → Window → Int → Option ρ → Option ρ → Int → Int → Option ρ
noncomputable def p_3_2 (F : Nat) : P_3_2 := @fun _ a b t kn kr m i => l_3_2 @s_9 a b t kn kr F m i
noncomputable def L_3_2 (p_3_2 : P_3_2) : PEntry := fun _ σ k =>
  match viewE 0 fl3c 2 173 σ with
  | some ([.int .i64 t, .ptr 0 0, .ptr 1 0, .bool ok, .int .i64 m, .int .i64 i], [.box [.int .i64 a0, .int .i64 a1, .int .i64 a2] false, .box [.int .i64 b0, .int .i64 b1, .int .i64 b2] false]) =>
    p_3_2 ⟨a0, a1, a2⟩ ⟨b0, b1, b2⟩ t (k .normal (st3d ⟨a0, a1, a2⟩ ⟨b0, b1, b2⟩ ok)) (k .ret (st3r ⟨a0, a1, a2⟩ ⟨b0, b1, b2⟩)) m i
  | _ => none

theorem code3_2 : pieceAt 5 code3 = .block 2 (.loop c3_2) := by kernel_rfl

theorem piece3_2 (F : Nat) : PieceOK Try.prog 0 (pieceAt 5 code3) (L_3_2 (@p_3_2 F)) := by
  rw [code3_2]
  refine piece_loops (T := T3_2 @s_9) ⟨tabOK_of_all tys_ok, eqsOK_of_all eqs_ok, fun g E h => ?_, fun g t h => (by cases h)⟩ mixed (no_pieces rfl _) (some (fl3c, 2)) (some (fl3d, 2)) (fun _ => none) (some (fl3r, 2)) fun ρ σ k r h => ?_
  · have := look_mem h
    simp only [T3_2, List.mem_cons, List.not_mem_nil, or_false, Prod.mk.injEq] at this
    obtain ⟨rfl, rfl⟩ := this
    exact ok_9
  unfold L_3_2 at h
  split at h
  · rename_i t ok m i a0 a1 a2 b0 b1 b2 hv
    refine ⟨F, ?_⟩
    have hv2 := viewE_some hv
    show (normO 0 (some (fl3c, 2)) σ).bind _ = _
    rw [hv2]
    exact (rounds3_2 @s_9 ⟨a0, a1, a2⟩ ⟨b0, b1, b2⟩ t ok m k F i).trans h
  · cases h
end Go.Proofs.Ytmgdofgmidbddaa
