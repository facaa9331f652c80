/- From a contract to the statement's frame. -/
import Derived.Test.YtmgdofgmidbddaaFrU
namespace Go.Ull
open Go.RowKit

def ctx0 (w : World) : Ctx := { w0 := w, X0 := fun _ _ => False, A0 := fun _ _ => False, m := 0, loc0 := [], x0 := fun _ _ h => h.elim, xa := fun _ _ h => h.elim }

/-- Plain arguments. -/
theorem relSt0 {w : World} {args : List AV} {a : Array Value} (hs : a.size = args.length) (h : ∀ (i : Nat) c, args[i]? = some c → RelV w (fun _ _ => False) [] c (a.getD i Go.undef)) :
    RelSt (ctx0 w) ⟨args, []⟩ ⟨a, []⟩ w [] := by
  have hno : ∀ b o, ¬ auth [] [] b o := fun b o ⟨i, k, l, h1, _⟩ => by simp at h1
  have hX : (ctx0 w).X [] [] = fun _ _ => False := by
    funext b o
    exact propext ⟨fun h => h.elim id (hno b o), fun h => h.elim⟩
  refine ⟨rfl, Nat.zero_le _, fun i l hi => absurd hi (by simp [ctx0]), fun i l b hi => absurd hi (by simp [ctx0]), fun i l b _ hl => by simp at hl, Keep.refl _ _, fun b o hh => absurd hh (hno b o), fun i j l l' b _ hl => by simp at hl, fun i k l hk => by simp at hk, hs, fun t v hv => ?_, Marks.nil⟩
  show RelV w ((ctx0 w).X [] []) [] v _
  rw [hX]
  exact h t v hv

/-- A function that answers true, by its contract. -/
theorem calls_true {P : Program} {g : FuncId} {fn : Func} {c : Code} (hf : P.funcs[g]? = some fn) (hb : fn.body = some c) (hn : (fn.name == "runtime.NumGoroutine") = false) {E : Entry} (hE : EntryOK P g E)
    {args : List AV} (hrun : E Bool args [] (fun v bs => match v, bs with | .bool b, [] => some b | _, _ => none) = some true) {w : World} {a : Array Value} (hs : a.size = args.length)
    (h : ∀ (i : Nat) c, args[i]? = some c → RelV w (fun _ _ => False) [] c (a.getD i Go.undef)) :
    Calls P g a w fun e w' => e = .returned (.bool true) ∧ Below w.heap.size w w' := by
  obtain ⟨v, bs', h1, h2⟩ := hE Bool args [] _ true hrun
  split at h1
  · cases h1
    rcases h2 (ctx0 w) a [] rfl rfl (relSt0 hs h) with ⟨v, w', h3, _⟩ | ⟨_, h3⟩
    · have := Go.MuLone.run_callFunc_enter hf hn hb a (ctx0 w).w0
      rw [this] at h3; cases h3
    · refine h3.mono fun e w' ⟨u, he, loc', hr⟩ => ?_
      subst he
      have h4 : u = .bool true := (hr.tm 0 _ rfl).bool_inv
      subst h4
      exact ⟨rfl, hr.keep.to_below⟩
  · cases h1

end Go.Ull
