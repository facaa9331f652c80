/- == of aggregates whose cells are numbers and bools. -/
import Derived.Test.YtmgdofgmidbddaaFrK
namespace Go.Ull
open Go.RowKit

def kindsF (P : Program) (g : TypeId → Option (List Bool)) : List Field → Nat → Option (List Bool)
  | [], _ => some []
  | f :: fs, off =>
    match g f.type, kindsF P g fs (off + P.cellsOf f.type) with
    | some ks, some r => cond (decide (f.name ≠ "_") && (Nat.beq f.offset off && (Nat.beq ks.length (P.cellsOf f.type) && ((P.info? f.type).isSome && (P.underlying f.type).isSome)))) (some (ks ++ r)) none
    | _, _ => none

def repL (ks : List Bool) : Nat → List Bool
  | 0 => []
  | n + 1 => ks ++ repL ks n

/-- The kinds of a type's cells, if they are numbers (true) and bools (false) alone. -/
def kindsB (P : Program) : Nat → TypeId → Option (List Bool)
  | 0, _ => none
  | m + 1, t =>
    match P.underlying t with
    | some (.int _) => some [true]
    | some .bool => some [false]
    | some (.struct fs) => cond (!P.stoodInHeld t) (kindsF P (kindsB P m) fs.toList 0) none
    | some (.array n e) =>
      match kindsB P m e with
      | some ks => cond (Nat.beq ks.length (P.cellsOf e) && ((P.info? e).isSome && (P.underlying e).isSome)) (some (repL ks n)) none
      | none => none
    | _ => none

/-- Two rows of cells, from places on, have cells of these kinds. -/
def Fits (ks : List Bool) (xs ys : Array Value) (off : Nat) : Prop :=
  ∀ (i : Nat) k, ks[i]? = some k → if k then ∃ K a b, xs[off + i]? = some (.int K a) ∧ ys[off + i]? = some (.int K b) else ∃ a b, xs[off + i]? = some (.bool a) ∧ ys[off + i]? = some (.bool b)

def Same (n : Nat) (xs ys : Array Value) (off : Nat) : Prop := ∀ i, i < n → xs[off + i]? = ys[off + i]?

theorem Fits.left {ks r : List Bool} {xs ys : Array Value} {off : Nat} (h : Fits (ks ++ r) xs ys off) : Fits ks xs ys off := fun i k hi => h i k (by rw [List.getElem?_append_left (lt_of_getElem? hi)]; exact hi)

theorem Fits.right {ks r : List Bool} {xs ys : Array Value} {off : Nat} (h : Fits (ks ++ r) xs ys off) : Fits r xs ys (off + ks.length) := fun i k hi => by
  have := h (ks.length + i) k (by rw [List.getElem?_append_right (by omega)]; simpa using hi)
  simpa [Nat.add_assoc] using this

theorem Fits.le {ks : List Bool} {xs ys : Array Value} {off : Nat} (h : Fits ks xs ys off) : ks = [] ∨ (off + ks.length ≤ xs.size ∧ off + ks.length ≤ ys.size) := by
  rcases Nat.eq_zero_or_pos ks.length with h0 | h0
  · exact .inl (List.eq_nil_of_length_eq_zero h0)
  · refine .inr ?_
    have hl : ks[ks.length - 1]? = some ks[ks.length - 1] := by simp [show ks.length - 1 < ks.length by omega]
    have := h _ _ hl
    have key : ∀ {a : Array Value} {i : Nat} {v : Value}, a[i]? = some v → i < a.size := fun {a i v} h => by
      rcases Nat.lt_or_ge i a.size with h' | h'
      · exact h'
      · simp [Array.getElem?_eq_none h'] at h
    split at this
    · obtain ⟨_, _, _, h1, h2⟩ := this
      have := key h1; have := key h2; omega
    · obtain ⟨_, _, h1, h2⟩ := this
      have := key h1; have := key h2; omega

theorem Same.split {n m : Nat} {xs ys : Array Value} {off : Nat} : Same (n + m) xs ys off ↔ Same n xs ys off ∧ Same m xs ys (off + n) := by
  constructor
  · intro h
    exact ⟨fun i hi => h i (by omega), fun i hi => by have := h (n + i) (by omega); rwa [← Nat.add_assoc] at this⟩
  · rintro ⟨h1, h2⟩ i hi
    rcases Nat.lt_or_ge i n with h | h
    · exact h1 i h
    · have := h2 (i - n) (by omega)
      rwa [show off + n + (i - n) = off + i by omega] at this

/-- What '==' of a part gives. -/
def EqPart (P : Program) (d : Nat) (t : TypeId) (ks : List Bool) : Prop :=
  ∀ (w : World) (xs ys : Array Value) (off : Nat), Fits ks xs ys off →
    ∃ x y b, (part t xs off).run P w = .ok x w ∧ (part t ys off).run P w = .ok y w ∧ (Op.equalIn d t x y).run P w = .ok b w ∧ (b = true ↔ Same ks.length xs ys off)

theorem eqFields_run {P : Program} {d : Nat} {g : TypeId → Option (List Bool)} (hg : ∀ t ks, g t = some ks → EqPart P d t ks) (w : World) (xs ys : Array Value) :
    ∀ (fs : List Field) (off : Nat) (ks : List Bool), kindsF P g fs off = some ks → Fits ks xs ys off → ∃ b, (Op.eqFields d xs ys fs).run P w = .ok b w ∧ (b = true ↔ Same ks.length xs ys off)
  | [], off, ks, h, _ => by
    cases h
    exact ⟨true, rfl, by simp [Same]⟩
  | f :: fs, off, ks, h, hf => by
    unfold kindsF at h
    split at h
    · rename_i k1 r h1 h2
      cases hb : (decide (f.name ≠ "_") && (Nat.beq f.offset off && (Nat.beq k1.length (P.cellsOf f.type) && ((P.info? f.type).isSome && (P.underlying f.type).isSome)))) with
      | false => rw [hb] at h; cases h
      | true =>
        rw [hb] at h
        simp only [cond_true, Option.some.injEq] at h
        subst h
        simp only [Bool.and_eq_true] at hb
        obtain ⟨hb1, hb2, hb3, hb4, hb5⟩ := hb
        have hoff := Nat.eq_of_beq_eq_true hb2
        have hlen := Nat.eq_of_beq_eq_true hb3
        obtain ⟨x, y, b, g1, g2, g3, g4⟩ := hg _ _ h1 w xs ys off hf.left
        have hname : f.name ≠ "_" := of_decide_eq_true hb1
        have hf2 := hf.right
        rw [hlen] at hf2
        obtain ⟨b', k1', k2'⟩ := eqFields_run hg w xs ys fs _ _ h2 hf2
        cases b with
        | true =>
          refine ⟨b', ?_, ?_⟩
          · unfold Op.eqFields
            rw [if_pos hname]
            simp only [Sem.run_bind, hoff, g1, g2, g3, Result.andThen_ok, Bool.not_true, Bool.false_eq_true, if_false]
            exact k1'
          · rw [List.length_append, Same.split, ← hlen] at *
            exact ⟨fun h => ⟨g4.1 rfl, k2'.1 h⟩, fun h => k2'.2 h.2⟩
        | false =>
          refine ⟨false, ?_, ?_⟩
          · unfold Op.eqFields
            rw [if_pos hname]
            simp only [Sem.run_bind, hoff, g1, g2, g3, Result.andThen_ok, Bool.not_false, if_true, Sem.run_pure]
          · rw [List.length_append, Same.split]
            exact ⟨(fun h => by cases h), fun h => absurd (g4.2 h.1) (by simp)⟩
    · cases h

theorem eqItems_run {P : Program} {d : Nat} {e : TypeId} {ks : List Bool} (hg : EqPart P d e ks) (w : World) (xs ys : Array Value) :
    ∀ (n j off : Nat), off = j * ks.length → Fits (repL ks n) xs ys off → ∃ b, (Op.eqItems d e ks.length xs ys (List.range' j n)).run P w = .ok b w ∧ (b = true ↔ Same (repL ks n).length xs ys off)
  | 0, j, off, _, _ => ⟨true, rfl, by simp [repL, Same]⟩
  | n + 1, j, off, ho, hf => by
    obtain ⟨x, y, b, g1, g2, g3, g4⟩ := hg w xs ys off (show Fits (ks ++ repL ks n) xs ys off from hf).left
    obtain ⟨b', k1, k2⟩ := eqItems_run hg w xs ys n (j + 1) (off + ks.length) (by rw [Nat.add_mul]; omega) (show Fits (ks ++ repL ks n) xs ys off from hf).right
    rw [List.range'_succ]
    subst ho
    cases b with
    | true =>
      refine ⟨b', ?_, ?_⟩
      · unfold Op.eqItems
        simp only [Sem.run_bind, g1, g2, g3, Result.andThen_ok, Bool.not_true, Bool.false_eq_true, if_false]
        exact k1
      · rw [show repL ks (n + 1) = ks ++ repL ks n from rfl, List.length_append, Same.split]
        exact ⟨fun h => ⟨g4.1 rfl, k2.1 h⟩, fun h => k2.2 h.2⟩
    | false =>
      refine ⟨false, ?_, ?_⟩
      · unfold Op.eqItems
        simp only [Sem.run_bind, g1, g2, g3, Result.andThen_ok, Bool.not_false, if_true, Sem.run_pure]
      · rw [show repL ks (n + 1) = ks ++ repL ks n from rfl, List.length_append, Same.split]
        exact ⟨(fun h => by cases h), fun h => absurd (g4.2 h.1) (by simp)⟩

theorem part_agg {P : Program} {t : TypeId} {w : World} {xs : Array Value} {off : Nat} (h1 : (P.info? t).isSome = true) (h2 : (P.underlying t).isSome = true) :
    (part t xs off).run P w = if aggB P t = true then .ok (.agg (xs.extract off (off + P.cellsOf t))) w else match xs[off]? with | some v => .ok v w | none => .halt (.stuck "part: no such cell") w := by
  unfold part
  simp only [Sem.run_bind, run_isAgg_of h2, Result.andThen_ok]
  cases aggB P t with
  | true => simp [run_sizeOf_cells h1]
  | false =>
    simp only [Bool.false_eq_true, if_false]
    cases xs[off]? <;> rfl

theorem extract_get (xs : Array Value) (off n i : Nat) (hi : i < n) : (xs.extract off (off + n))[0 + i]? = xs[off + i]? := by
  rw [Array.getElem?_extract]
  simp only [Nat.zero_add]
  by_cases h : off + i < xs.size
  · rw [if_pos (by omega)]
  · rw [if_neg (by omega), Array.getElem?_eq_none (by omega)]

theorem Fits.extract {ks : List Bool} {xs ys : Array Value} {off : Nat} (h : Fits ks xs ys off) : Fits ks (xs.extract off (off + ks.length)) (ys.extract off (off + ks.length)) 0 := fun i k hi => by
  have := h i k hi
  have hlt := lt_of_getElem? hi
  rwa [extract_get _ _ _ _ hlt, extract_get _ _ _ _ hlt]

theorem Same.extract {n : Nat} {xs ys : Array Value} {off : Nat} : Same n (xs.extract off (off + n)) (ys.extract off (off + n)) 0 ↔ Same n xs ys off := by
  constructor
  · intro h i hi
    have := h i hi
    rwa [extract_get _ _ _ _ hi, extract_get _ _ _ _ hi] at this
  · intro h i hi
    rw [extract_get _ _ _ _ hi, extract_get _ _ _ _ hi]
    exact h i hi

/-- What '==' gives for whole values. -/
theorem eq_whole {P : Program} (d : Nat) : ∀ (m : Nat) (t : TypeId) (ks : List Bool), kindsB P m t = some ks → (P.info? t).isSome = true → ks.length = P.cellsOf t → EqPart P (d + m) t ks ∧
    (aggB P t = true → ∀ (w : World) (xs ys : Array Value), Fits ks xs ys 0 → ∃ b, (Op.equalIn (d + m) t (.agg xs) (.agg ys)).run P w = .ok b w ∧ (b = true ↔ Same ks.length xs ys 0))
  | 0, _, _, h, _, _ => by simp [kindsB] at h
  | m + 1, t, ks, h, hi, hlen => by
    have hagg : aggB P t = true → (∀ (w : World) (xs ys : Array Value), Fits ks xs ys 0 → ∃ b, (Op.equalIn (d + (m + 1)) t (.agg xs) (.agg ys)).run P w = .ok b w ∧ (b = true ↔ Same ks.length xs ys 0)) →
        (P.underlying t).isSome = true → EqPart P (d + (m + 1)) t ks := fun ha hh hu w xs ys off hf => by
      obtain ⟨b, h1, h2⟩ := hh w _ _ hf.extract
      refine ⟨_, _, b, ?_, ?_, h1, h2.trans Same.extract⟩
      · rw [part_agg hi hu, if_pos ha, hlen]
      · rw [part_agg hi hu, if_pos ha, hlen]
    unfold kindsB at h
    cases hu : P.underlying t with
    | none => simp [hu] at h
    | some D =>
      rw [hu] at h
      cases D with
      | int k =>
        cases h
        have ha : aggB P t = false := by simp [aggB, hu]
        refine ⟨fun w xs ys off hf => ?_, fun h => by rw [ha] at h; cases h⟩
        obtain ⟨K, a, b, h1, h2⟩ := hf 0 true rfl
        refine ⟨.int K a, .int K b, a == b, ?_, ?_, run_equalIn_int w (d + m) t K k a b hu, ?_⟩
        · rw [part_agg hi (by simp [hu]), ha]; simp at h1; simp [h1]
        · rw [part_agg hi (by simp [hu]), ha]; simp at h2; simp [h2]
        · constructor
          · intro h i hi'
            have : i = 0 := by simp at hi'; omega
            subst this
            rw [h1, h2, eq_of_beq h]
          · intro h
            have := h 0 (by simp)
            rw [h1, h2] at this
            cases this
            simp
      | bool =>
        cases h
        have ha : aggB P t = false := by simp [aggB, hu]
        refine ⟨fun w xs ys off hf => ?_, fun h => by rw [ha] at h; cases h⟩
        obtain ⟨a, b, h1, h2⟩ := hf 0 false rfl
        refine ⟨.bool a, .bool b, a == b, ?_, ?_, run_equalIn_bool' w (d + m) t a b hu, ?_⟩
        · rw [part_agg hi (by simp [hu]), ha]; simp at h1; simp [h1]
        · rw [part_agg hi (by simp [hu]), ha]; simp at h2; simp [h2]
        · constructor
          · intro h i hi'
            have : i = 0 := by simp at hi'; omega
            subst this
            rw [h1, h2, eq_of_beq h]
          · intro h
            have := h 0 (by simp)
            rw [h1, h2] at this
            cases this
            simp
      | struct fs =>
        simp only at h
        cases hs : P.stoodInHeld t with
        | true => rw [hs] at h; cases h
        | false =>
          rw [hs] at h
          simp only [Bool.not_false, cond_true] at h
          have ha : aggB P t = true := by simp [aggB, hu]
          have hfs : P.fieldsOf t = fs := by simp [Program.fieldsOf, hu]
          have main : ∀ (w : World) (xs ys : Array Value), Fits ks xs ys 0 → ∃ b, (Op.equalIn (d + (m + 1)) t (.agg xs) (.agg ys)).run P w = .ok b w ∧ (b = true ↔ Same ks.length xs ys 0) := fun w xs ys hf => by
            rw [show d + (m + 1) = (d + m) + 1 from rfl, run_equalIn_struct w (d + m) t xs ys (by rw [hfs]; exact hu) hs, hfs]
            have key : ∀ (l : List Field) (off : Nat) (ks : List Bool), kindsF P (kindsB P m) l off = some ks → kindsF P (fun t => cond (decide ((P.info? t).isSome = true) && decide (∃ ks, kindsB P m t = some ks ∧ ks.length = P.cellsOf t)) (kindsB P m t) none) l off = some ks := by
              intro l
              induction l with
              | nil => intro off ks h; exact h
              | cons f fs ih =>
                intro off ks h
                unfold kindsF at h ⊢
                split at h
                · rename_i k1 r h1 h2
                  cases hb : (decide (f.name ≠ "_") && (Nat.beq f.offset off && (Nat.beq k1.length (P.cellsOf f.type) && ((P.info? f.type).isSome && (P.underlying f.type).isSome)))) with
                  | false => rw [hb] at h; cases h
                  | true =>
                    have hb' := hb
                    simp only [Bool.and_eq_true] at hb'
                    have hc : (decide ((P.info? f.type).isSome = true) && decide (∃ ks, kindsB P m f.type = some ks ∧ ks.length = P.cellsOf f.type)) = true := by
                      rw [Bool.and_eq_true]
                      exact ⟨decide_eq_true hb'.2.2.2.1, decide_eq_true ⟨k1, h1, Nat.eq_of_beq_eq_true hb'.2.2.1⟩⟩
                    rw [hc, ih _ _ h2]
                    simp only [cond_true, h1]
                    exact h
                · cases h
            refine eqFields_run (d := d + m) (g := fun t => cond (decide ((P.info? t).isSome = true) && decide (∃ ks, kindsB P m t = some ks ∧ ks.length = P.cellsOf t)) (kindsB P m t) none) (fun t' ks' hg => ?_) w xs ys fs.toList 0 ks (key _ _ _ h) hf
            cases hc : (decide ((P.info? t').isSome = true) && decide (∃ ks, kindsB P m t' = some ks ∧ ks.length = P.cellsOf t')) with
            | false => rw [hc] at hg; cases hg
            | true =>
              rw [hc] at hg
              simp only [cond_true] at hg
              rw [Bool.and_eq_true] at hc
              obtain ⟨ks2, e1, e2⟩ := of_decide_eq_true hc.2
              rw [hg] at e1
              cases e1
              exact (eq_whole d m t' ks' hg (of_decide_eq_true hc.1) e2).1
          exact ⟨hagg ha main (by simp [hu]), fun _ => main⟩
      | array n e =>
        simp only at h
        split at h
        · rename_i k1 h1
          cases hb : (Nat.beq k1.length (P.cellsOf e) && ((P.info? e).isSome && (P.underlying e).isSome)) with
          | false => rw [hb] at h; cases h
          | true =>
            rw [hb] at h
            simp only [cond_true, Option.some.injEq] at h
            subst h
            simp only [Bool.and_eq_true] at hb
            obtain ⟨hb1, hb2, hb3⟩ := hb
            have hl1 := Nat.eq_of_beq_eq_true hb1
            have ha : aggB P t = true := by simp [aggB, hu]
            obtain ⟨i, hie⟩ := Option.isSome_iff_exists.1 hb2
            have main : ∀ (w : World) (xs ys : Array Value), Fits (repL k1 n) xs ys 0 → ∃ b, (Op.equalIn (d + (m + 1)) t (.agg xs) (.agg ys)).run P w = .ok b w ∧ (b = true ↔ Same (repL k1 n).length xs ys 0) := fun w xs ys hf => by
              rw [show d + (m + 1) = (d + m) + 1 from rfl, run_equalIn_array w (d + m) xs ys hu hie, ← hl1, List.range_eq_range']
              exact eqItems_run (eq_whole d m e k1 h1 hb2 hl1).1 w xs ys n 0 0 (by simp) hf
            exact ⟨hagg ha main (by simp [hu]), fun _ => main⟩
        · cases h
      | _ => cases h

def eqB (P : Program) (t : TypeId) (ks : List Bool) : Bool :=
  (kindsB P 8 t == some ks) && ((P.info? t).isSome && (Nat.beq ks.length (P.cellsOf t) && (aggB P t && !P.eqGuardType P.depth t)))

/-- The table of types that may be compared holds of the program. -/
def EqsOK (P : Program) (T : Tab) : Prop := ∀ t ks, look T.eqs t = some ks → eqB P t ks = true

theorem look_all {α : Type _} {p : Nat → α → Bool} : ∀ {l : List (Nat × α)}, (l.all fun q => p q.1 q.2) = true → ∀ {i : Nat} {a : α}, look l i = some a → p i a = true
  | [], _, _, _, h => by cases h
  | (j, b) :: r, hl, i, a, h => by
    simp only [List.all_cons, Bool.and_eq_true] at hl
    unfold look at h
    cases hb : Nat.beq i j with
    | true =>
      rw [hb] at h
      cases h
      rw [Nat.eq_of_beq_eq_true hb]
      exact hl.1
    | false =>
      rw [hb] at h
      exact look_all hl.2 h

theorem eqsOK_of_all {P : Program} {T : Tab} (h : (T.eqs.all fun p => eqB P p.1 p.2) = true) : EqsOK P T := fun _ _ hl => look_all (p := eqB P) h hl

theorem eqCells_fits {w : World} {X : Nat → Nat → Prop} {loc : List Loc} : ∀ {ks : List Bool} {cs ds : List AV} {b : Bool}, eqCells ks cs ds = some b → ∀ (f g : Nat → Value),
    (∀ (i : Nat) c, cs[i]? = some c → RelV w X loc c (f i)) → (∀ (i : Nat) c, ds[i]? = some c → RelV w X loc c (g i)) → cs.length = ks.length ∧ ds.length = ks.length ∧
      (∀ (i : Nat) k, ks[i]? = some k → if k then ∃ K a b, f i = .int K a ∧ g i = .int K b else ∃ a b, f i = .bool a ∧ g i = .bool b) ∧ (b = true ↔ ∀ i, i < ks.length → f i = g i)
  | [], [], [], b, h, f, g, _, _ => by cases h; exact ⟨rfl, rfl, fun i k hi => by simp at hi, by simp⟩
  | true :: ks, .int k a :: r, .int k' b' :: s, b, h, f, g, hf, hg => by
    simp only [eqCells] at h
    cases hk : decide (k = k') with
    | false => rw [hk] at h; cases h
    | true =>
      rw [hk] at h
      simp only [cond_true] at h
      have hk := of_decide_eq_true hk
      subst hk
      split at h
      · rename_i e he
        cases h
        obtain ⟨h1, h2, h3, h4⟩ := eqCells_fits he (fun i => f (i + 1)) (fun i => g (i + 1)) (fun i c hi => hf (i + 1) c (by simpa using hi)) (fun i c hi => hg (i + 1) c (by simpa using hi))
        have f0 := (hf 0 _ rfl).int_inv
        have g0 := (hg 0 _ rfl).int_inv
        refine ⟨by simp [h1], by simp [h2], fun i q hi => ?_, ?_⟩
        · cases i with
          | zero => simp at hi; subst hi; exact ⟨k, a, b', f0, g0⟩
          | succ i => exact h3 i q (by simpa using hi)
        · rw [Bool.and_eq_true, h4]
          constructor
          · rintro ⟨e1, e2⟩ i hi
            cases i with
            | zero => rw [f0, g0, eq_of_beq e1]
            | succ i => exact e2 i (by simpa using hi)
          · intro e
            refine ⟨?_, fun i hi => e (i + 1) (by simpa using hi)⟩
            have := e 0 (by simp)
            rw [f0, g0] at this
            cases this
            simp
      · cases h
  | false :: ks, .bool a :: r, .bool b' :: s, b, h, f, g, hf, hg => by
    simp only [eqCells] at h
    split at h
    · rename_i e he
      cases h
      obtain ⟨h1, h2, h3, h4⟩ := eqCells_fits he (fun i => f (i + 1)) (fun i => g (i + 1)) (fun i c hi => hf (i + 1) c (by simpa using hi)) (fun i c hi => hg (i + 1) c (by simpa using hi))
      have f0 := (hf 0 _ rfl).bool_inv
      have g0 := (hg 0 _ rfl).bool_inv
      refine ⟨by simp [h1], by simp [h2], fun i q hi => ?_, ?_⟩
      · cases i with
        | zero => simp at hi; subst hi; exact ⟨a, b', f0, g0⟩
        | succ i => exact h3 i q (by simpa using hi)
      · rw [Bool.and_eq_true, h4]
        constructor
        · rintro ⟨e1, e2⟩ i hi
          cases i with
          | zero => rw [f0, g0, eq_of_beq e1]
          | succ i => exact e2 i (by simpa using hi)
        · intro e
          refine ⟨?_, fun i hi => e (i + 1) (by simpa using hi)⟩
          have := e 0 (by simp)
          rw [f0, g0] at this
          cases this
          simp
    · cases h

theorem ok_eq {P : Program} {T : Tab} {dst : Option Tmp} {type : TypeId} {pos : String} {after : Array Edge} {guard : Option (Nat × Bool)}
    {vals : Operand → AV} {hp : List Blk} (hE : EqsOK P T) (op : BinOp) (t yt : TypeId) (x y : Operand) {cs ds : List AV} {ks : List Bool} (hx : vals x = .agg cs) (hy : vals y = .agg ds) (hk : look T.eqs t = some ks)
    {ρ : Type} {k : AV → Option ρ} {r : ρ} (h : eqEv ks op cs ds k = some r) :
    ∃ v, k v = some r ∧ OpOK P T ⟨dst, .binOp op t x y yt, type, pos, after, guard⟩ vals hp [] v [] := by
  have hb := hE t ks hk
  simp only [eqB, Bool.and_eq_true] at hb
  obtain ⟨b1, b2, b3, b4, b5⟩ := hb
  have key : ∀ (b : Bool), eqCells ks cs ds = some b → ∀ (w : World) (X : Nat → Nat → Prop) (loc : List Loc) (u v : Value), RelV w X loc (.agg cs) u → RelV w X loc (.agg ds) v →
      ∃ us vs, u = .agg us ∧ v = .agg vs ∧ (Op.equalIn 10000 t (.agg us) (.agg vs)).run P w = .ok b w := by
    intro b hb w X loc u v hu hv
    obtain ⟨us, rfl, u1, u2⟩ := hu.agg_inv
    obtain ⟨vs, rfl, v1, v2⟩ := hv.agg_inv
    obtain ⟨e1, e2, e3, e4⟩ := eqCells_fits hb (fun i => us.getD i Go.undef) (fun i => vs.getD i Go.undef) u2 v2
    have gu : ∀ {i : Nat}, i < ks.length → us[i]? = some (us.getD i Go.undef) := fun {i} hi => by simp [Array.getD_eq_getD_getElem?, show i < us.size by omega]
    have gv : ∀ {i : Nat}, i < ks.length → vs[i]? = some (vs.getD i Go.undef) := fun {i} hi => by simp [Array.getD_eq_getD_getElem?, show i < vs.size by omega]
    have hfit : Fits ks us vs 0 := fun i q hi => by
      have hlt := lt_of_getElem? hi
      have := e3 i q hi
      simp only [Nat.zero_add, gu hlt, gv hlt, Option.some.injEq]
      exact this
    obtain ⟨b', h1, h2⟩ := (eq_whole (P := P) 9992 8 t ks (eq_of_beq b1) b2 (Nat.eq_of_beq_eq_true b3)).2 b4 w us vs hfit
    refine ⟨us, vs, rfl, rfl, ?_⟩
    have : b' = b := by
      have hs : Same ks.length us vs 0 ↔ ∀ i, i < ks.length → us.getD i Go.undef = vs.getD i Go.undef := by
        constructor
        · intro h i hi
          have := h i hi
          simp only [Nat.zero_add, gu hi, gv hi, Option.some.injEq] at this
          exact this
        · intro h i hi
          simp only [Nat.zero_add, gu hi, gv hi, Option.some.injEq]
          exact h i hi
      rw [hs, ← e4] at h2
      cases b' <;> cases b <;> simp_all
    rw [← this]
    exact h1
  unfold eqEv at h
  split at h
  · rename_i b hb
    refine ⟨_, h, opOK_value fun C σ a w loc hr hv _ => ?_⟩
    have h1 := hv x (by simp [Op.operands]); rw [hx] at h1
    have h2 := hv y (by simp [Op.operands]); rw [hy] at h2
    obtain ⟨us, vs, e1, e2, e3⟩ := key b hb w _ loc _ _ h1 h2
    refine ⟨.bool b, ?_, .bool _⟩
    simp only [execOp, e1, e2, Sem.run_bind, run_eqGuard_agg w .eql t x y us vs (by simpa using b5), Result.andThen_ok, run_eql_struct, e3, Sem.run_pure]
  · rename_i b hb
    refine ⟨_, h, opOK_value fun C σ a w loc hr hv _ => ?_⟩
    have h1 := hv x (by simp [Op.operands]); rw [hx] at h1
    have h2 := hv y (by simp [Op.operands]); rw [hy] at h2
    obtain ⟨us, vs, e1, e2, e3⟩ := key b hb w _ loc _ _ h1 h2
    refine ⟨.bool (!b), ?_, .bool _⟩
    simp only [execOp, e1, e2, Sem.run_bind, run_eqGuard_agg w .neq t x y us vs (by simpa using b5), Result.andThen_ok, run_neq_struct, e3, Sem.run_pure]
  · cases h

end Go.Ull
