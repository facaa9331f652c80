/- Functions evaluated in place, with loops over functions. -/
import Derived.Test.YtmgdofgmidbddaaFrZb
namespace Go.Ull
open Go.RowKit

def rfOf (T : Tab) (seqs : List (Nat × SEntry)) : Code → Option PEntry
  | .block id (.rangeFunc g ps assign body) => some (rfE T seqs id g ps.toList assign body)
  | _ => none

def rfPieces (T : Tab) (seqs : List (Nat × SEntry)) (c : Code) : List Nat → List (Nat × PEntry)
  | [] => []
  | i :: is => match rfOf T seqs (pieceAt i c) with
    | some E => (i, E) :: rfPieces T seqs c is
    | none => rfPieces T seqs c is

theorem rfPieces_mem {T : Tab} {seqs : List (Nat × SEntry)} {c : Code} {i : Nat} {E : PEntry} : ∀ {is : List Nat}, (i, E) ∈ rfPieces T seqs c is → i ∈ is ∧ rfOf T seqs (pieceAt i c) = some E
  | [], h => by cases h
  | j :: is, h => by
    unfold rfPieces at h
    split at h
    · rename_i E' hE
      rcases List.mem_cons.1 h with h | h
      · cases h; exact ⟨List.mem_cons_self .., hE⟩
      · obtain ⟨h1, h2⟩ := rfPieces_mem h; exact ⟨List.mem_cons_of_mem _ h1, h2⟩
    · obtain ⟨h1, h2⟩ := rfPieces_mem h; exact ⟨List.mem_cons_of_mem _ h1, h2⟩

structure FnR where
  g : Nat
  fn : Func
  vecs : List (Nat × ElT) := []
  ro : List Nat := []
  fuel : Nat := 64
  frz : List Nat := []
  rf : List Nat := []

def FnROK (P : Program) (x : FnR) : Prop := P.funcs[x.g]? = some x.fn ∧ x.fn.body.isSome = true ∧ (x.fn.name == "runtime.NumGoroutine") = false ∧ (x.rf.all fun i => Nat.beq (found i (x.fn.body.getD .skip)).length 1) = true

def tabR (tys : List (Nat × Ty)) (eqs : List (Nat × List Bool)) (call : List (Nat × Entry)) (grow : List (Nat × ElT)) (x : FnR) (m : Nat) : Tab :=
  { ty := tys, eqs := eqs, call := call, vecs := x.vecs, fuel := x.fuel, m := m, ro := x.ro, grow := grow, frz := x.frz }

def runR (tys : List (Nat × Ty)) (eqs : List (Nat × List Bool)) (call : List (Nat × Entry)) (seqs : List (Nat × SEntry)) (grow : List (Nat × ElT)) (x : FnR) : Entry := fun _ args bs k =>
  runF { tabR tys eqs call grow x bs.length with piece := rfPieces (tabR tys eqs call grow x bs.length) seqs (x.fn.body.getD .skip) x.rf } (x.fn.body.getD .skip) x.fn.results.toList x.fn.ntmps args bs k

def seqR (tys : List (Nat × Ty)) (eqs : List (Nat × List Bool)) (x : FnR) : SEntry :=
  runI { ty := tys, eqs := eqs, call := [], fuel := x.fuel } (x.fn.body.getD .skip) x.fn.ntmps

def ItROK (P : Program) (x : FnR) : Prop := P.funcs[x.g]? = some x.fn ∧ x.fn.body.isSome = true ∧ (x.fn.name == "runtime.NumGoroutine") = false ∧ x.fn.results = #[]

theorem seqR_ok {P : Program} {tys : List (Nat × Ty)} {eqs : List (Nat × List Bool)} {x : FnR} (h1 : (tys.all fun p => tyB P p.1 p.2) = true) (h2 : (eqs.all fun p => eqB P p.1 p.2) = true) (hx : ItROK P x) : SeqOK P x.g (seqR tys eqs x) := by
  obtain ⟨h3, h4, h5, h6⟩ := hx
  cases hb : x.fn.body with
  | none => rw [hb] at h4; cases h4
  | some c =>
    have := runI_ok (T := { ty := tys, eqs := eqs, call := [], fuel := x.fuel }) ⟨tabOK_of_all h1, eqsOK_of_all h2, fun g E h => (by cases h), fun g t h => (by cases h)⟩ h3 hb h5 h6
    unfold seqR
    rw [hb]
    exact this

def closR (tys : List (Nat × Ty)) (eqs : List (Nat × List Bool)) (ext : List (Nat × Entry)) (grow : List (Nat × ElT)) (its fs : List FnR) : Nat → List (Nat × Entry)
  | 0 => ext
  | n + 1 => ext ++ fs.map fun x => (x.g, runR tys eqs (closR tys eqs ext grow its fs n) (its.map fun x => (x.g, seqR tys eqs x)) grow x)

theorem look_map {α β : Type _} {f : β → α} {key : β → Nat} : ∀ {l : List β} {i : Nat} {a : α}, look (l.map fun x => (key x, f x)) i = some a → ∃ x ∈ l, key x = i ∧ f x = a := fun {l i a} h => by
  obtain ⟨x, hx, h⟩ := List.mem_map.1 (look_mem h)
  cases h
  exact ⟨x, hx, rfl, rfl⟩

theorem runR_ok {P : Program} {tys : List (Nat × Ty)} {eqs : List (Nat × List Bool)} {call : List (Nat × Entry)} {seqs : List (Nat × SEntry)} {grow : List (Nat × ElT)} {x : FnR} (h1 : (tys.all fun p => tyB P p.1 p.2) = true) (h2 : (eqs.all fun p => eqB P p.1 p.2) = true)
    (hm : P.follows .mixedOrders = true) (hc : ∀ g E, look call g = some E → EntryOK P g E) (hs : ∀ g SE, look seqs g = some SE → SeqOK P g SE) (hgr : ∀ g t, look grow g = some t → GrowOK P g t) (hx : FnROK P x) : EntryOK P x.g (runR tys eqs call seqs grow x) := fun ρ args bs k r h => by
  obtain ⟨h3, h4, h5, h6⟩ := hx
  cases hb : x.fn.body with
  | none => rw [hb] at h4; cases h4
  | some c =>
    unfold runR at h
    rw [hb] at h h6
    have hG : Good P (tabR tys eqs call grow x bs.length) := ⟨tabOK_of_all h1, eqsOK_of_all h2, hc, hgr⟩
    refine runF_good (T := { tabR tys eqs call grow x bs.length with piece := rfPieces (tabR tys eqs call grow x bs.length) seqs c x.rf }) ⟨hG.ty, hG.eqs, hG.call, hG.grow⟩ hm h3 hb h5 (pieces_of ?_ fun i E hE => ?_) h
    · refine List.all_eq_true.2 fun p hp => ?_
      exact List.all_eq_true.1 h6 p.1 (rfPieces_mem (i := p.1) (E := p.2) hp).1
    · obtain ⟨_, h8⟩ := rfPieces_mem (look_mem hE)
      revert h8
      generalize pieceAt i c = d
      intro h8
      unfold rfOf at h8
      split at h8
      · cases h8
        exact piece_rf hG hm hs
      · cases h8

theorem closR_ok {P : Program} {tys : List (Nat × Ty)} {eqs : List (Nat × List Bool)} {ext : List (Nat × Entry)} {grow : List (Nat × ElT)} {its fs : List FnR} (h1 : (tys.all fun p => tyB P p.1 p.2) = true) (h2 : (eqs.all fun p => eqB P p.1 p.2) = true)
    (hm : P.follows .mixedOrders = true) (he : ∀ p ∈ ext, EntryOK P p.1 p.2) (hgr : ∀ g t, look grow g = some t → GrowOK P g t) (hi : ∀ x ∈ its, ItROK P x) (hf : ∀ x ∈ fs, FnROK P x) : ∀ n g E, look (closR tys eqs ext grow its fs n) g = some E → EntryOK P g E
  | 0, g, E, h => he (g, E) (look_mem h)
  | n + 1, g, E, h => by
    rcases List.mem_append.1 (look_mem h) with h | h
    · exact he (g, E) h
    · obtain ⟨x, hx, h⟩ := List.mem_map.1 h
      cases h
      refine runR_ok h1 h2 hm (closR_ok h1 h2 hm he hgr hi hf n) (fun g SE hSE => ?_) hgr (hf x hx)
      obtain ⟨y, hy, rfl, rfl⟩ := look_map hSE
      exact seqR_ok h1 h2 (hi y hy)

theorem rNil {P : Program} : ∀ x ∈ ([] : List FnR), FnROK P x := fun _ h => by cases h
theorem rCons {P : Program} {x : FnR} {l : List FnR} (h : FnROK P x) (t : ∀ y ∈ l, FnROK P y) : ∀ y ∈ x :: l, FnROK P y := fun y hy => by
  rcases List.mem_cons.1 hy with rfl | hy
  · exact h
  · exact t y hy
theorem iNil {P : Program} : ∀ x ∈ ([] : List FnR), ItROK P x := fun _ h => by cases h
theorem iCons {P : Program} {x : FnR} {l : List FnR} (h : ItROK P x) (t : ∀ y ∈ l, ItROK P y) : ∀ y ∈ x :: l, ItROK P y := fun y hy => by
  rcases List.mem_cons.1 hy with rfl | hy
  · exact h
  · exact t y hy

end Go.Ull
namespace Go.Ull
/-- A contract out of another one. -/
theorem entry_via {P : Program} {g : FuncId} {W E : Entry} (hW : EntryOK P g W) (h : ∀ (ρ : Type) (args : List AV) (bs : List Blk) (k : AV → List Blk → Option ρ) (r : ρ), E ρ args bs k = some r →
    ∃ k' : AV → List Blk → Option ρ, W ρ args bs k' = some r ∧ ∀ v bs', k' v bs' = some r → k v bs' = some r) : EntryOK P g E := fun ρ args bs k r hE => by
  obtain ⟨k', h1, h2⟩ := h ρ args bs k r hE
  obtain ⟨v, bs', h3, h4⟩ := hW ρ args bs k' r h1
  exact ⟨v, bs', h2 v bs' h3, h4⟩
end Go.Ull
