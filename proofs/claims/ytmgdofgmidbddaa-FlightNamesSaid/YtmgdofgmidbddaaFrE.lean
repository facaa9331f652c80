/- The table of types, and what the model's own steps give for the abstract operations. -/
import Derived.Test.YtmgdofgmidbddaaFrD
namespace Go.Ull
open Go.RowKit

def aggB (P : Program) (t : TypeId) : Bool :=
  match P.underlying t with
  | some (.struct _) | some (.array _ _) => true
  | _ => false

def sameB : Value → AV → Bool
  | .int k n, .int k' n' => decide (k = k') && decide (n = n')
  | .bool a, .bool b => a == b
  | .slice none 0 0, .nils => true
  | .pointer none, .nilp => true
  | .nilFunc, .nilfn => true
  | .nilIface, .niliface => true
  | _, _ => false

def sameL : List Value → List AV → Bool
  | [], [] => true
  | v :: vs, a :: as => sameB v a && sameL vs as
  | _, _ => false

def zeroB (z : Option Value) (a : AV) : Bool :=
  match z, a with
  | some (.agg cs), .agg as => sameL cs.toList as
  | some v, a => sameB v a
  | _, _ => false

def fieldsB (P : Program) : List Field → List (Nat × Nat × Bool) → Bool
  | [], [] => true
  | f :: fs, g :: gs => Nat.beq f.offset g.1 && Nat.beq (P.cellsOf f.type) g.2.1 && (aggB P f.type == g.2.2) && (P.info? f.type).isSome && (P.underlying f.type).isSome && fieldsB P fs gs
  | _, _ => false

/-- Is a type one of the elements' types? -/
def elB (P : Program) (el : TypeId) (e : ElT) : Bool :=
  Nat.beq (P.cellsOf el) (sz e) && ((aggB P el == !flat e) && ((P.info? el).isSome && ((P.underlying el).isSome &&
    (match P.info? el with
     | some i => (match i.zero with | some z => Nat.beq z.cells.size (sz e) && sameL z.cells.toList (zeroE e) | none => false) && (Nat.ble i.bytes 1024 && !Nat.beq i.bytes 0)
     | none => false))))

def arB (P : Program) (e : TypeId) (n s : Nat) (g : Bool) (el : Option ElT) (z : List AV) : Bool :=
  Nat.beq (P.cellsOf e) s && ((aggB P e == g) && ((P.info? e).isSome && ((P.underlying e).isSome && (Nat.beq z.length (n * s) &&
    (match el with | some et => Nat.beq (sz et) s && ((!flat et) == g) | none => true)))))

/-- Is what the table says of a type so in the program? -/
def tyB (P : Program) (t : TypeId) (ty : Ty) : Bool :=
  match ty with
  | .other => true
  | ty =>
    match P.info? t with
    | none => false
    | some i => zeroB i.zero ty.zero && Nat.beq i.size ty.size &&
      match ty, P.underlying t with
      | .int k, some (.int k') => decide (k = k')
      | .bool, some .bool => true
      | .ptr, some (.pointer _) => true
      | .func, some (.func _ _ _) => true
      | .iface, some (.interface _) => true
      | .slice e, some (.slice el) => elB P el e
      | .struct fs _, some (.struct fields) => fieldsB P fields.toList fs
      | .arr n s g el z, some (.array n' e) => Nat.beq n n' && arB P e n s g el z
      | _, _ => false

/-- The table holds of the program. -/
def TabOK (P : Program) (T : Tab) : Prop := ∀ t, tyB P t (T.tyOf t) = true

theorem tabOK_of_all {P : Program} {T : Tab} (h : (T.ty.all fun p => tyB P p.1 p.2) = true) : TabOK P T := by
  intro t
  unfold Tab.tyOf
  have key : ∀ l : List (Nat × Ty), (l.all fun p => tyB P p.1 p.2) = true → tyB P t ((look l t).getD .other) = true := by
    intro l
    induction l with
    | nil => intro _; rfl
    | cons p r ih =>
      intro hl
      simp only [List.all_cons, Bool.and_eq_true] at hl
      unfold look
      obtain ⟨j, a⟩ := p
      cases hb : Nat.beq t j with
      | true =>
        have : t = j := Nat.eq_of_beq_eq_true hb
        subst this
        exact hl.1
      | false => exact ih hl.2
  exact key _ h

section facts
variable {P : Program} {T : Tab} {t : TypeId}

theorem sameB_rel {w : World} {X : Nat → Nat → Prop} {loc : List Loc} {v : Value} {a : AV} (h : sameB v a = true) : RelV w X loc a v := by
  unfold sameB at h
  split at h
  · simp at h; obtain ⟨rfl, rfl⟩ := h; exact .int _ _
  · simp at h; subst h; exact .bool _
  · exact .nils _
  · exact .nilp
  · exact .nilfn
  · exact .niliface
  · cases h

theorem sameL_rel {w : World} {X : Nat → Nat → Prop} {loc : List Loc} : ∀ {vs : List Value} {as : List AV}, sameL vs as = true → as.length = vs.length ∧ ∀ (i : Nat) c, as[i]? = some c → RelV w X loc c (vs.getD i Go.undef)
  | [], [], _ => ⟨rfl, fun i c h => by simp at h⟩
  | v :: vs, a :: as, h => by
    simp only [sameL, Bool.and_eq_true] at h
    obtain ⟨h1, h2⟩ := sameL_rel (w := w) (X := X) (loc := loc) h.2
    refine ⟨by simp [h1], fun i c hi => ?_⟩
    cases i with
    | zero => simp at hi; subst hi; simpa using sameB_rel h.1
    | succ i => simpa using h2 i c (by simpa using hi)
  | [], _ :: _, h => by simp [sameL] at h
  | _ :: _, [], h => by simp [sameL] at h

theorem info_of (hT : TabOK P T) (hn : T.tyOf t ≠ .other) : ∃ i, P.info? t = some i ∧ i.size = (T.tyOf t).size ∧ zeroB i.zero (T.tyOf t).zero = true := by
  have h := hT t
  unfold tyB at h
  split at h
  · rename_i h0; exact (hn h0).elim
  · cases hi : P.info? t with
    | none => simp [hi] at h
    | some i =>
      simp only [hi, Bool.and_eq_true] at h
      exact ⟨i, rfl, Nat.eq_of_beq_eq_true h.1.2, h.1.1⟩

theorem run_typeInfo_of {i : TypeInfo} (h : P.info? t = some i) (w : World) : (typeInfo t).run P w = .ok i w := by
  simp [typeInfo, h]

theorem run_sizeOf_of (hT : TabOK P T) (hn : T.tyOf t ≠ .other) (w : World) : (sizeOf t).run P w = .ok (T.tyOf t).size w := by
  obtain ⟨i, h1, h2, _⟩ := info_of hT hn
  simp [sizeOf, typeInfo, h1, h2]

theorem run_sizeOf_cells (h : (P.info? t).isSome = true) (w : World) : (sizeOf t).run P w = .ok (P.cellsOf t) w := by
  obtain ⟨i, hi⟩ := Option.isSome_iff_exists.1 h
  simp [sizeOf, typeInfo, hi, Program.cellsOf]

theorem run_isAgg_of (h : (P.underlying t).isSome = true) (w : World) : (isAgg t).run P w = .ok (aggB P t) w := by
  obtain ⟨d, hd⟩ := Option.isSome_iff_exists.1 h
  unfold isAgg aggB
  simp only [Sem.run_bind, run_underlying hd, hd, Result.andThen_ok]
  cases d <;> rfl

/-- What the type's description is. -/
theorem und_of (hT : TabOK P T) (hn : T.tyOf t ≠ .other) : match T.tyOf t, P.underlying t with
      | .int k, some (.int k') => k = k'
      | .bool, some .bool => True
      | .ptr, some (.pointer _) => True
      | .func, some (.func _ _ _) => True
      | .iface, some (.interface _) => True
      | .slice e, some (.slice el) => elB P el e = true
      | .struct fs _, some (.struct fields) => fieldsB P fields.toList fs = true
      | .arr n s g el z, some (.array n' e) => n = n' ∧ arB P e n s g el z = true
      | _, _ => False := by
  have h := hT t
  unfold tyB at h
  split at h
  · rename_i h0; exact (hn h0).elim
  · cases hi : P.info? t with
    | none => simp [hi] at h
    | some i =>
      simp only [hi, Bool.and_eq_true] at h
      have h := h.2
      revert h
      cases T.tyOf t <;> cases hu : P.underlying t with
      | none => simp
      | some d => cases d <;> simp

theorem agg_of (hT : TabOK P T) (hn : T.tyOf t ≠ .other) (w : World) : (isAgg t).run P w = .ok (T.tyOf t).agg.isSome w := by
  have h := und_of hT hn
  have h2 : ∃ d, P.underlying t = some d := by
    cases hu : P.underlying t with
    | none => revert h; rw [hu]; cases T.tyOf t <;> simp
    | some d => exact ⟨d, rfl⟩
  obtain ⟨d, hd⟩ := h2
  rw [run_isAgg_of (by simp [hd])]
  congr 1
  revert h
  unfold aggB
  rw [hd]
  cases T.tyOf t <;> cases d <;> simp [Ty.agg]

end facts
end Go.Ull
