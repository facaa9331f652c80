/- The greatest common divisor: a loop. -/
import Derived.Test.YtmgdofgmidbddaaFrW
import Derived.Test.YtmgdofgmidbddaaSpA
namespace Go.Proofs.Ytmgdofgmidbddaa
open Go Go.Ull

def blockId : Code → Nat | .block i _ => i | _ => 0
def loopBody : Code → Code | .block _ (.loop c) => c | _ => .skip

def fl35_0 : List Bool := [true, true]
noncomputable def code35 : Code := Try.f35.body.getD .skip
noncomputable def c35_0 : Code := loopBody (pieceAt 1 code35)
def st35_0 (a b : Int) : St := ⟨spread 12 fl35_0 [i64 a, i64 b], []⟩
def T35_0 : Tab := { ty := tys, eqs := eqs, call := [], norm := some (fl35_0, 0) }

def l_35_0 {ρ : Type} (k : Int → Int → Option ρ) : Nat → Int → Int → Option ρ
  | 0, _, _ => none
  | n + 1, a, b => bif decide (b > 0) then bif decide (b = 0) then none else l_35_0 k n b (a.tmod b) else k a b

theorem step35_0 {ρ : Type} (a b : Int) (k : AX → St → Option ρ) (R : St → Option ρ) :
    (ev T35_0 c35_0 (st35_0 a b) fun x σ' => match x with | .normal => (normO T35_0.m T35_0.norm σ').bind R | x => leave T35_0.m 0 (some (fl35_0, 0)) k x σ') =
      bif decide (b > 0) then bif decide (b = 0) then none else R (st35_0 b (a.tmod b)) else k .normal (st35_0 a b) := by kernel_rfl

theorem rounds35_0 {ρ : Type} (k : AX → St → Option ρ) : ∀ (n : Nat) (a b : Int), rounds T35_0.m T35_0.norm (ev T35_0 c35_0) (leave T35_0.m 0 (some (fl35_0, 0)) k) n (st35_0 a b) = l_35_0 (fun a b => k .normal (st35_0 a b)) n a b
  | 0, _, _ => rfl
  | n + 1, a, b => by
    have h := step35_0 a b k (rounds T35_0.m T35_0.norm (ev T35_0 c35_0) (leave T35_0.m 0 (some (fl35_0, 0)) k) n)
    rw [rounds35_0 k n b (a.tmod b)] at h
    exact h

def L_35_0 : PEntry := fun _ σ k =>
  match viewE 0 fl35_0 0 12 σ with
  | some ([.int .i64 a, .int .i64 b], []) => l_35_0 (fun a b => k .normal (st35_0 a b)) 64 a b
  | _ => none

theorem code35_0 : pieceAt 1 code35 = .block 0 (.loop c35_0) := by kernel_rfl

theorem piece35_0 : PieceOK Try.prog 0 (pieceAt 1 code35) L_35_0 := by
  rw [code35_0]
  refine piece_loop (T := T35_0) ⟨tabOK_of_all tys_ok, eqsOK_of_all eqs_ok, fun g E h => (by cases h), fun g t h => (by cases h)⟩ mixed (no_pieces rfl _) (some (fl35_0, 0)) (some (fl35_0, 0)) fun ρ σ k r h => ?_
  unfold L_35_0 at h
  split at h
  · rename_i a b hv
    refine ⟨64, ?_⟩
    have hv2 := viewE_some hv
    show (normO 0 (some (fl35_0, 0)) σ).bind _ = _
    rw [hv2]
    exact (rounds35_0 k 64 a b).trans h
  · cases h

abbrev S_35 : Type 1 := ∀ {ρ : Type}, Int → Int → (Int → Option ρ) → Option ρ
def t_35 : Tab := { ty := tys, eqs := eqs, call := [], piece := [(1, L_35_0)] }
def s_35 : S_35 := @fun _ a0 a1 k => l_35_0 (fun a _ => k a) 64 a0 a1
def e_35 (s : S_35) : Entry := fun _ args bs k =>
  match args, bs with
  | [.int .i64 a0, .int .i64 a1], [] => s a0 a1 fun v0 => k (.int .i64 v0) []
  | _, _ => none
theorem run_35 {ρ : Type} (a0 a1 : Int) (K : AV → List Blk → Option ρ) :
    runF t_35 (Try.f35.body.getD .skip) Try.f35.results.toList Try.f35.ntmps [.int .i64 a0, .int .i64 a1] [] K = s_35 a0 a1 fun v0 => K (.int .i64 v0) [] := by kernel_rfl
theorem ok_35 : EntryOK Try.prog 35 (e_35 @s_35) := by
  refine entry_of (T := t_35) ⟨tabOK_of_all tys_ok, eqsOK_of_all eqs_ok, fun g E h => (by cases h), fun g t h => (by cases h)⟩ mixed Try.func35 (show Try.f35.body = some code35 by kernel_rfl) (by kernel_rfl)
    (pieces_of (by kernel_rfl) fun i E h => ?_) ?_
  · have := look_mem h
    simp only [t_35, List.mem_cons, List.not_mem_nil, or_false, Prod.mk.injEq] at this
    obtain ⟨rfl, rfl⟩ := this
    exact piece35_0
  · intro ρ args bs k r h
    unfold e_35 at h
    split at h
    · rename_i a0 a1
      exact (run_35 a0 a1 k).trans h
    · cases h
end Go.Proofs.Ytmgdofgmidbddaa
