/- Loops: every way out is brought into normal form. -/
import Derived.Test.YtmgdofgmidbddaaFrW
namespace Go.Ull
open Go.RowKit

/-- How a loop's block is left; what is kept by the way in which it is left. -/
def leaves {ρ : Type} (m id : Nat) (nfx : Option (List Bool × Nat)) (nfe : Nat → Option (List Bool × Nat)) (nfr : Option (List Bool × Nat)) (k : AX → St → Option ρ) : AX → St → Option ρ := fun x σ' =>
  match x with
  | .exit j => cond (Nat.beq j id) ((normO m nfx σ').bind (k .normal)) ((normO m (nfe j) σ').bind (k (.exit j)))
  | .ret => (normO m nfr σ').bind (k .ret)
  | .normal => k .normal σ'

theorem piece_loops {P : Program} {T : Tab} (hG : Good P T) (hm : P.follows .mixedOrders = true) {id : Nat} {c : Code} (hp : ∀ c' ∈ subs c, ∀ E, (keyOf c').bind (look T.piece) = some E → PieceOK P T.m c' E)
    (nf nfx : Option (List Bool × Nat)) (nfe : Nat → Option (List Bool × Nat)) (nfr : Option (List Bool × Nat)) {E : PEntry}
    (h : ∀ (ρ : Type) (σ : St) (k : AX → St → Option ρ) (r : ρ), E ρ σ k = some r → ∃ n, (normO T.m nf σ).bind (rounds T.m nf (ev T c) (leaves T.m id nfx nfe nfr k) n) = some r) :
    PieceOK P T.m (.block id (.loop c)) E := fun ρ σ k r hE => by
  obtain ⟨n, h1⟩ := h ρ σ k r hE
  rw [← loopEv_rounds] at h1
  obtain ⟨x, σ', h2, h3⟩ := loopEv_sound (P := P) (m := T.m) (c := c) (fun σ k r h => ev_sound hG hm c hp σ k r h) h1
  unfold leaves at h2
  cases x with
  | normal => exact ⟨.normal, σ', h2, fun fr hfr mm C a w loc Q hC hr hQ => wpIn_block (wpIn_loop_rounds _ (h3 fr hfr mm C a w loc _ hC hr fun a' w' loc' hr' => hQ _ _ _ hr'))⟩
  | ret =>
    obtain ⟨σ2, h4, h5⟩ := bind_some h2
    refine ⟨.ret, σ2, h5, fun fr hfr mm C a w loc Q hC hr hQ => wpIn_block (wpIn_loop_rounds _ (h3 fr hfr mm C a w loc _ hC hr fun a' w' loc' hr' => ?_))⟩
    obtain ⟨loc2, hr2⟩ := hr'.normO hC h4
    exact hQ _ _ _ hr2
  | exit j =>
    cases hj : Nat.beq j id with
    | true =>
      simp only [hj, cond_true] at h2
      obtain ⟨σ2, h4, h5⟩ := bind_some h2
      refine ⟨.normal, σ2, h5, fun fr hfr mm C a w loc Q hC hr hQ => wpIn_block (wpIn_loop_rounds _ (h3 fr hfr mm C a w loc _ hC hr fun a' w' loc' hr' => ?_))⟩
      show if j = id then _ else _
      rw [if_pos (Nat.eq_of_beq_eq_true hj)]
      obtain ⟨loc2, hr2⟩ := hr'.normO hC h4
      exact hQ _ _ _ hr2
    | false =>
      simp only [hj, cond_false] at h2
      obtain ⟨σ2, h4, h5⟩ := bind_some h2
      refine ⟨.exit j, σ2, h5, fun fr hfr mm C a w loc Q hC hr hQ => wpIn_block (wpIn_loop_rounds _ (h3 fr hfr mm C a w loc _ hC hr fun a' w' loc' hr' => ?_))⟩
      show if j = id then _ else _
      rw [if_neg (fun e => by subst e; simp at hj)]
      obtain ⟨loc2, hr2⟩ := hr'.normO hC h4
      exact hQ _ _ _ hr2

end Go.Ull
