/- AscentNext: for every two windows and every time the statement's function answers true, and its arguments stay as they were. -/
import Derived.Test.YtmgdofgmidbddaaRows
import Derived.Test.YtmgdofgmidbddaaFrame
import Derived.Test.YtmgdofgmidbddaaMaE
import Derived.Test.YtmgdofgmidbddaaAliveA
import Derived.WalkKit
import Derived.ProofKit
import Derived.OpenShut
import Derived.Lib.SmallJoins
namespace Go.Proofs.Ytmgdofgmidbddaa.ascentNext
open Go.Joins Go.ChangeShapes Go.WideShapes Go.ChangeAt Go.RowKit Go.Deep Go.Ull

theorem own : ownKnob Try.prog.godebug = none := by kernel_rfl

theorem at6 : ∃ E, at_ 20 6 = some E := ⟨_, rfl⟩

theorem ok_6 : EntryOK Try.prog 6 (e_6 @s_6) := fun ρ args bs k r h => by
  unfold e_6 at h
  split at h
  · obtain ⟨E, hE⟩ := at6
    have := alive_run k
    rw [hE] at this
    exact at_ok hE ρ [] [] k r (this.trans h)
  · cases h

theorem walk (a b : Window) (t : Int) (w : World) :
    Calls Try.prog 3 #[.agg #[.int .i64 a.period, .int .i64 a.fr, .int .i64 a.len], .agg #[.int .i64 b.period, .int .i64 b.fr, .int .i64 b.len], .int .i64 t] w fun e w' => e = .returned (.bool true) ∧ Below w.heap.size w w' := by
  have three : ∀ (x y z : Int), RelV w (fun _ _ => False) [] (.agg [i64 x, i64 y, i64 z]) (.agg #[.int .i64 x, .int .i64 y, .int .i64 z]) := fun x y z =>
    .agg _ _ rfl fun i c hi => by
      match i with
      | 0 => cases hi; exact .int _ _
      | 1 => cases hi; exact .int _ _
      | 2 => cases hi; exact .int _ _
      | i + 3 => simp at hi
  refine calls_true (args := [.agg (cWindow a), .agg (cWindow b), i64 t]) Try.func3 (show Try.f3.body = some code3 by kernel_rfl) (by kernel_rfl) (ok_3 ok_6) (s3_law (a := a) (b := b) (t := t)) rfl fun i c hi => ?_
  match i with
  | 0 => cases hi; exact three _ _ _
  | 1 => cases hi; exact three _ _ _
  | 2 => cases hi; exact .int _ _
  | i + 3 => simp at hi

set_option maxRecDepth 100000 in
theorem lifted (os : Os) (started : os.Started) (H : Type) (enc : TypeId × Value → H) :
    ReturnsInHanded {} Try.checked os 3 .any (Rows.ascentNextSpec.pre6 enc Try.prog Try.f3 Rows.ascentNextRow.domain false) (Rows.ascentNextSpec.post enc Try.prog Try.f3 false true false false) := by
  refine returnsInHanded_of_change (C := Try.checked) own started (by kernel_rfl) Try.func3
    (ChangeSpec.witness6 (enc := enc) (C := Try.checked) false ⟨#[], #[.agg #[.int .i64 0, .int .i64 0, .int .i64 0], .agg #[.int .i64 0, .int .i64 0, .int .i64 0], .int .i64 0], []⟩ 8 (by kernel_rfl) (by kernel_rfl) (by kernel_rfl) (by kernel_rfl)) ?_
  intro W base args ds gs before hval0 hW hcnd _
  have hval : ∀ (j : Nat) t v, Try.f3.params[j]? = some t → args[j]? = some v → Value.okWide Try.prog W .any base t v := hval0
  have hW' := hW
  obtain ⟨p, q, hA0, hV, rfl, hfz, hnd⟩ := hW
  have hA : DataW.TrodAll enc Try.prog W 0 (fun _ => true) true Try.f3.params.toList args.toList ds p := hA0
  rw [Try.params3] at hA hval
  obtain ⟨v0, vs0, d0, ds0, p0, q0, hargs, rfl, rfl, h0, r0⟩ := trodAll_cons hA
  obtain ⟨v1, vs1, d1, ds1, p1, q1, rfl, rfl, rfl, h1, r1⟩ := trodAll_cons r0
  obtain ⟨v2, vs2, d2, ds2, p2, q2, rfl, rfl, rfl, h2, r2⟩ := trodAll_cons r1
  obtain ⟨rfl, rfl, rfl⟩ := trodAll_nil r2
  obtain rfl : args = #[v0, v1, v2] := by cases args; simp_all
  obtain ⟨rfl, rfl⟩ := trodVars_none hV
  obtain ⟨u0, u1, u2, y0, y1, y2, n0, rfl, rfl, rfl, g0, g1, g2⟩ := open_agg3 Try.underlying23 (by kernel_rfl) (by kernel_rfl) (hval 0 23 v0 rfl rfl) h0
  obtain ⟨x0, x1, x2, z0, z1, z2, n1, rfl, rfl, rfl, k0, k1, k2⟩ := open_agg3 Try.underlying23 (by kernel_rfl) (by kernel_rfl) (hval 1 23 v1 rfl rfl) h1
  obtain ⟨t, rfl, rfl, rfl, w2⟩ := open_int Try.underlying3 (hval 2 3 v2 rfl rfl) h2
  obtain ⟨a0, e0, rfl, wa0⟩ := DataW.trod_int Try.underlying3 g0
  obtain ⟨a1, e1, rfl, wa1⟩ := DataW.trod_int Try.underlying3 g1
  obtain ⟨a2, e2, rfl, wa2⟩ := DataW.trod_int Try.underlying3 g2
  obtain ⟨b0, e3, rfl, wb0⟩ := DataW.trod_int Try.underlying3 k0
  obtain ⟨b1, e4, rfl, wb1⟩ := DataW.trod_int Try.underlying3 k1
  obtain ⟨b2, e5, rfl, wb2⟩ := DataW.trod_int Try.underlying3 k2
  cases e0; cases e1; cases e2; cases e3; cases e4; cases e5
  clear hA0 hval0
  simp only [List.append_nil] at hW'
  refine (walk ⟨a0, a1, a2⟩ ⟨b0, b1, b2⟩ t W).mono fun e W' ⟨he, hg⟩ => ?_
  subst he
  have one : ∀ {sp : Nat → Bool} {n : Int}, (Lit.int .i64 n).wf = true → ∃ m, DataW.trod enc Try.prog W' 0 sp true m 3 [.int .i64 n] = some (.lit (.int .i64 n), []) := fun hw => shut_int Try.underlying3 hw
  have win : ∀ {sp : Nat → Bool} {x y z : Int}, (Lit.int .i64 x).wf = true → (Lit.int .i64 y).wf = true → (Lit.int .i64 z).wf = true →
      DataW.Trod enc Try.prog W' 0 sp true 23 (.agg #[.int .i64 x, .int .i64 y, .int .i64 z]) (.agg [.lit (.int .i64 x), .lit (.int .i64 y), .lit (.int .i64 z)]) [] := fun h1 h2 h3 =>
    shut_agg3 Try.underlying23 (by kernel_rfl) (by kernel_rfl) (one h1) (one h2) (one h3)
  exact ⟨_, rfl, _, _, _, [], [], [], hW', trodAll_cons_mk (shut_bool Try.underlying4 _) trodAll_mk0, trodAll_cons_mk (win wa0 wa1 wa2) (trodAll_cons_mk (win wb0 wb1 wb2) (trodAll_cons_mk (shut_int Try.underlying3 w2) trodAll_mk0)), rfl, hg.frame _, fun h => by cases h⟩

theorem over : Rows.ascentNextRow.holds Try.pinned (OpenSpec.ofChange Rows.ascentNextSpec) :=
  OpenClaim.holds_of_wide 3 Try.f3 rfl rfl rfl rfl rfl rfl rfl ⟨rfl, rfl, rfl, rfl, rfl⟩ rfl rfl rfl rfl rfl (by kernel_rfl) Try.func3 (by kernel_rfl)
    (of_decide_eq_true (by kernel_rfl)) (by unfold Func.isWrapper; first | (rw [if_pos (by decide +kernel)]; kernel_rfl) | (rw [if_neg (by decide +kernel)]; exact ⟨rfl, rfl⟩))
    (fun os started H enc _ => lifted os started H enc)

/-- The statement. -/
theorem proved : Rows.AscentNextSaid := over
#print axioms proved
end Go.Proofs.Ytmgdofgmidbddaa.ascentNext
