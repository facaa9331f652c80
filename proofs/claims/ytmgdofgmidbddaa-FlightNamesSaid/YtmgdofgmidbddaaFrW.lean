/- Loops whose number of rounds is not known. -/
import Derived.Test.YtmgdofgmidbddaaFrV
namespace Go.Ull
open Go.RowKit

/-- From the head of a round on. -/
def rounds {ρ : Type} (m : Nat) (nf : Option (List Bool × Nat)) (body : St → (AX → St → Option ρ) → Option ρ) (k : AX → St → Option ρ) : Nat → St → Option ρ
  | 0, _ => none
  | n + 1, σ => body σ fun x σ' => match x with | .normal => (normO m nf σ').bind (rounds m nf body k n) | x => k x σ'

theorem loopEv_rounds {ρ : Type} {m : Nat} {nf : Option (List Bool × Nat)} {body : St → (AX → St → Option ρ) → Option ρ} {k : AX → St → Option ρ} : ∀ (n : Nat) (σ : St), loopEv m nf body n σ k = (normO m nf σ).bind (rounds m nf body k n)
  | 0, σ => by
    cases normO m nf σ <;> rfl
  | n + 1, σ => by
    unfold loopEv
    congr 1
    funext σ
    show _ = body σ _
    congr 1
    funext x σ'
    cases x with
    | normal => exact loopEv_rounds n σ'
    | exit i => rfl
    | ret => rfl

/-- How a loop's block is left. -/
def leave {ρ : Type} (m id : Nat) (nfx : Option (List Bool × Nat)) (k : AX → St → Option ρ) : AX → St → Option ρ := fun x σ' =>
  match x with
  | .exit j => cond (Nat.beq j id) ((normO m nfx σ').bind (k .normal)) (k (.exit j) σ')
  | x => k x σ'

theorem piece_loop {P : Program} {T : Tab} (hG : Good P T) (hm : P.follows .mixedOrders = true) {id : Nat} {c : Code} (hp : ∀ c' ∈ subs c, ∀ E, (keyOf c').bind (look T.piece) = some E → PieceOK P T.m c' E)
    (nf nfx : Option (List Bool × Nat)) {E : PEntry} (h : ∀ (ρ : Type) (σ : St) (k : AX → St → Option ρ) (r : ρ), E ρ σ k = some r → ∃ n, (normO T.m nf σ).bind (rounds T.m nf (ev T c) (leave T.m id nfx k) n) = some r) :
    PieceOK P T.m (.block id (.loop c)) E := fun ρ σ k r hE => by
  obtain ⟨n, h1⟩ := h ρ σ k r hE
  rw [← loopEv_rounds] at h1
  obtain ⟨x, σ', h2, h3⟩ := loopEv_sound (P := P) (m := T.m) (c := c) (fun σ k r h => ev_sound hG hm c hp σ k r h) h1
  unfold leave at h2
  cases x with
  | normal => exact ⟨.normal, σ', h2, fun fr hfr mm C a w loc Q hC hr hQ => wpIn_block (wpIn_loop_rounds _ (h3 fr hfr mm C a w loc _ hC hr fun a' w' loc' hr' => hQ _ _ _ hr'))⟩
  | ret => exact ⟨.ret, σ', h2, fun fr hfr mm C a w loc Q hC hr hQ => wpIn_block (wpIn_loop_rounds _ (h3 fr hfr mm C a w loc _ hC hr fun a' w' loc' hr' => hQ _ _ _ hr'))⟩
  | exit j =>
    cases hj : Nat.beq j id with
    | true =>
      simp only [hj, cond_true] at h2
      obtain ⟨σ2, h4, h5⟩ := bind_some h2
      refine ⟨.normal, σ2, h5, fun fr hfr mm C a w loc Q hC hr hQ => wpIn_block (wpIn_loop_rounds _ (h3 fr hfr mm C a w loc _ hC hr fun a' w' loc' hr' => ?_))⟩
      show if j = id then _ else _
      rw [if_pos (Nat.eq_of_beq_eq_true hj)]
      obtain ⟨loc2, hr2⟩ := hr'.normO hC h4
      exact hQ _ _ _ hr2
    | false =>
      simp only [hj, cond_false] at h2
      refine ⟨.exit j, σ', h2, fun fr hfr mm C a w loc Q hC hr hQ => wpIn_block (wpIn_loop_rounds _ (h3 fr hfr mm C a w loc _ hC hr fun a' w' loc' hr' => ?_))⟩
      show if j = id then _ else _
      rw [if_neg (fun e => by subst e; simp at hj)]
      exact hQ _ _ _ hr'

/-- How a piece is left: what is kept by the way in which it is left. -/
def outs {ρ : Type} (m : Nat) (nfn : Option (List Bool × Nat)) (nfx : Nat → Option (List Bool × Nat)) (nfr : Option (List Bool × Nat)) (k : AX → St → Option ρ) : AX → St → Option ρ := fun x σ' =>
  match x with
  | .normal => (normO m nfn σ').bind (k .normal)
  | .exit j => (normO m (nfx j) σ').bind (k (.exit j))
  | .ret => (normO m nfr σ').bind (k .ret)

/-- A part of a code as a piece of its own. -/
theorem piece_code {P : Program} {T : Tab} (hG : Good P T) (hm : P.follows .mixedOrders = true) {c : Code} (hp : ∀ c' ∈ subs c, ∀ E, (keyOf c').bind (look T.piece) = some E → PieceOK P T.m c' E)
    (nf nfn : Option (List Bool × Nat)) (nfx : Nat → Option (List Bool × Nat)) (nfr : Option (List Bool × Nat)) {E : PEntry}
    (h : ∀ (ρ : Type) (σ : St) (k : AX → St → Option ρ) (r : ρ), E ρ σ k = some r → (normO T.m nf σ).bind (fun σ => ev T c σ (outs T.m nfn nfx nfr k)) = some r) : PieceOK P T.m c E := fun ρ σ k r hE => by
  obtain ⟨σ0, h1, h2⟩ := bind_some (h ρ σ k r hE)
  obtain ⟨x, σ1, h3, h4⟩ := ev_sound hG hm c hp σ0 _ r h2
  have key : ∀ (nf' : Option (List Bool × Nat)), (normO T.m nf' σ1).bind (k x) = some r → ∃ x σ', k x σ' = some r ∧ CodeOK P T.m c σ x σ' := fun nf' h5 => by
    obtain ⟨σ2, h6, h7⟩ := bind_some h5
    refine ⟨x, σ2, h7, fun fr hfr mm C a w loc Q hC hr hQ => ?_⟩
    obtain ⟨loc0, hr0⟩ := hr.normO hC h1
    refine h4 fr hfr mm C a w loc0 Q hC hr0 fun a' w' loc' hr' => ?_
    obtain ⟨loc2, hr2⟩ := hr'.normO hC h6
    exact hQ _ _ _ hr2
  unfold outs at h3
  cases x with
  | normal => exact key _ h3
  | exit j => exact key _ h3
  | ret => exact key _ h3

/-! ### The kept temporaries -/

def pick : List Bool → List AV → List AV
  | true :: fs, v :: vs => v :: pick fs vs
  | false :: fs, _ :: vs => pick fs vs
  | _, _ => []

def spread : Nat → List Bool → List AV → List AV
  | 0, _, _ => []
  | n + 1, true :: fs, v :: vs => v :: spread n fs vs
  | n + 1, true :: fs, [] => .undef :: spread n fs []
  | n + 1, false :: fs, vs => .undef :: spread n fs vs
  | n + 1, [], vs => .undef :: spread n [] vs

theorem maskL_spread : ∀ (fl : List Bool) (vs : List AV), maskL fl vs = spread vs.length fl (pick fl vs)
  | true :: fl, v :: vs => by simp [maskL, spread, pick, maskL_spread fl vs]
  | false :: fl, v :: vs => by simp [maskL, spread, pick, maskL_spread fl vs]
  | [], v :: vs => by
    have := maskL_spread [] vs
    have hp : pick [] vs = [] := by cases vs <;> rfl
    rw [hp] at this
    simp [maskL, spread, pick, this]
  | true :: _, [] => rfl
  | false :: _, [] => rfl
  | [], [] => rfl

theorem maskL_ren {hp : List Blk} {f nv : Nat → Nat} : ∀ (fl : List Bool) (vs : List AV), maskL fl (renL hp f nv (maskL fl vs)) = renL hp f nv (maskL fl vs)
  | true :: fl, v :: vs => by simp [maskL, renL, maskL_ren fl vs]
  | false :: fl, v :: vs => by simp [maskL, renL, AV.ren, maskL_ren fl vs]
  | [], v :: vs => by simp [maskL, renL, AV.ren, maskL_ren [] vs]
  | true :: _, [] => rfl
  | false :: _, [] => rfl
  | [], [] => rfl

/-- The kept temporaries and the blocks of a state that is brought into normal form. -/
def viewE (m : Nat) (fl : List Bool) (n nt : Nat) (σ : St) : Option (List AV × List Blk) :=
  (normEv m fl n σ).bind fun σ' => cond (Nat.beq σ'.tm.length nt) (some (pick fl σ'.tm, σ'.hp)) none

theorem viewE_some {m n nt : Nat} {fl : List Bool} {σ : St} {vs : List AV} {hp : List Blk} (h : viewE m fl n nt σ = some (vs, hp)) : normO m (some (fl, n)) σ = some ⟨spread nt fl vs, hp⟩ := by
  obtain ⟨σ', h1, h2⟩ := bind_some h
  obtain ⟨h3, h4⟩ := cond_none h2
  have h3 := Nat.eq_of_beq_eq_true h3
  cases h4
  show normEv m fl n σ = _
  rw [h1]
  have : maskL fl σ'.tm = σ'.tm := by
    unfold normEv at h1
    obtain ⟨_, h5⟩ := cond_none h1
    cases h5
    exact maskL_ren fl σ.tm
  have h6 := maskL_spread fl σ'.tm
  rw [this, h3] at h6
  rw [← h6]

end Go.Ull
