/- The abstract operations are sound: addresses, aggregates, slices. -/
import Derived.Test.YtmgdofgmidbddaaFrG
namespace Go.Ull
open Go.RowKit

theorem lt_of_getElem? {α : Type} {l : List α} {i : Nat} {a : α} (h : l[i]? = some a) : i < l.length := by
  rcases Nat.lt_or_ge i l.length with h' | h'
  · exact h'
  · simp [List.getElem?_eq_none h'] at h

section ops
variable {P : Program} {T : Tab} {dst : Option Tmp} {type : TypeId} {pos : String} {after : Array Edge} {guard : Option (Nat × Bool)}
variable {vals : Operand → AV} {hp : List Blk}

theorem ok_convert (hT : TabOK P T) (src t : TypeId) (x : Operand) {kd ks : IntKind} {n : Int} (ht : T.tyOf t = .int kd) (hs : T.known src = true) (hx : vals x = .int ks n) :
    OpOK P T ⟨dst, .convert src t x, type, pos, after, guard⟩ vals hp [] (.int kd (kd.wrap n)) [] :=
  opOK_value fun C σ a w loc hr hv _ => by
    have h1 := hv x (by simp [Op.operands]); rw [hx] at h1
    have hu := und_of (t := t) hT (by rw [ht]; simp)
    rw [ht] at hu
    have hu' : P.underlying t = some (.int kd) := by
      revert hu
      cases P.underlying t with
      | none => simp
      | some d => cases d <;> simp; exact fun h => h.symm
    have hs' : ∃ d, P.underlying src = some d := by
      have hu := und_of (t := src) hT (Tab.known_ne hs)
      cases hd : P.underlying src with
      | none => revert hu; rw [hd]; cases T.tyOf src <;> simp
      | some d => exact ⟨d, rfl⟩
    obtain ⟨d, hd⟩ := hs'
    refine ⟨.int kd (kd.wrap n), ?_, .int _ _⟩
    simp only [execOp, h1.int_inv, Go.convert, Sem.run_bind, run_underlying hd, run_underlying hu', Result.andThen_ok, Conv.intToInt, Sem.run_pure]

theorem ok_makeFunc (f : Fn) (x y : Array Operand) : OpOK P T ⟨dst, .makeFunc f x y, type, pos, after, guard⟩ vals hp [] (.fn f (x.toList.map vals) (y.toList.map vals)) [] :=
  opOK_value fun C σ a w loc hr hv _ => by
    refine ⟨.func f (x.map a.eval) (y.map a.eval), by simp [execOp, Instr.makeFunc], .fn _ _ _ _ _ (by simp) (fun i c hi => ?_) (by simp) (fun i c hi => ?_)⟩
    · rw [List.getElem?_map] at hi
      cases hxi : x.toList[i]? with
      | none => simp [hxi] at hi
      | some o =>
        simp only [hxi, Option.map_some, Option.some.injEq] at hi
        subst hi
        have hlt := lt_of_getElem? hxi
        have hmem : o ∈ x := by rw [← Array.mem_toList_iff]; exact List.mem_of_getElem? hxi
        have : (x.map a.eval).getD i Go.undef = a.eval o := by
          apply getD_of_getElem?
          rw [Array.getElem?_map]
          rw [Array.getElem?_toList] at hxi
          simp [hxi]
        rw [this]
        exact hv o (by simp [Op.operands, hmem])
    · rw [List.getElem?_map] at hi
      cases hxi : y.toList[i]? with
      | none => simp [hxi] at hi
      | some o =>
        simp only [hxi, Option.map_some, Option.some.injEq] at hi
        subst hi
        have hmem : o ∈ y := by rw [← Array.mem_toList_iff]; exact List.mem_of_getElem? hxi
        have : (y.map a.eval).getD i Go.undef = a.eval o := by
          apply getD_of_getElem?
          rw [Array.getElem?_map]
          rw [Array.getElem?_toList] at hxi
          simp [hxi]
        rw [this]
        exact hv o (by simp [Op.operands, hmem])

theorem ok_nilCheck (x : Operand) (h : match vals x with | .ptr _ _ | .eptr _ | .fn (.func _) _ _ => True | _ => False) :
    OpOK P T ⟨dst, .nilCheck x, type, pos, after, guard⟩ vals hp [] (vals x) [] :=
  opOK_value fun C σ a w loc hr hv _ => by
    have h1 := hv x (by simp [Op.operands])
    refine ⟨a.eval x, ?_, h1⟩
    revert h h1
    generalize vals x = u
    generalize ha : a.eval x = v
    intro h h1
    cases h1 <;> first | exact h.elim | (simp [execOp, ha]; done) | skip
    rename_i f _ _ _ _ _ _ _ _
    cases f <;> first | exact h.elim | simp [execOp, ha]

/-- A field of a struct: where it is. -/
theorem field_of (hT : TabOK P T) {t : TypeId} {fs : List (Nat × Nat × Bool)} {z : List AV} (ht : T.tyOf t = .struct fs z) {f d s : Nat} {g : Bool} (hf : fs[f]? = some (d, s, g)) :
    ∃ fields fl, P.underlying t = some (.struct fields) ∧ fields[f]? = some fl ∧ fl.offset = d ∧ P.cellsOf fl.type = s ∧ aggB P fl.type = g ∧ (P.info? fl.type).isSome = true ∧ (P.underlying fl.type).isSome = true := by
  have hu := und_of (t := t) hT (by rw [ht]; simp)
  rw [ht] at hu
  have hu' : ∃ fields, P.underlying t = some (.struct fields) ∧ fieldsB P fields.toList fs = true := by
    revert hu
    cases P.underlying t with
    | none => simp
    | some d => cases d <;> simp
  obtain ⟨fields, h1, h2⟩ := hu'
  have key : ∀ (l : List Field) (fs : List (Nat × Nat × Bool)) (f : Nat), fieldsB P l fs = true → fs[f]? = some (d, s, g) → ∃ fl, l[f]? = some fl ∧ fl.offset = d ∧ P.cellsOf fl.type = s ∧ aggB P fl.type = g ∧ (P.info? fl.type).isSome = true ∧ (P.underlying fl.type).isSome = true := by
    intro l
    induction l with
    | nil => intro fs f h hf; cases fs with
      | nil => simp at hf
      | cons => simp [fieldsB] at h
    | cons x xs ih =>
      intro fs f h hf
      cases fs with
      | nil => simp [fieldsB] at h
      | cons y ys =>
        simp only [fieldsB, Bool.and_eq_true] at h
        cases f with
        | zero =>
          simp at hf
          subst hf
          exact ⟨x, rfl, Nat.eq_of_beq_eq_true h.1.1.1.1.1, Nat.eq_of_beq_eq_true h.1.1.1.1.2, by simpa using h.1.1.1.2, h.1.1.2, h.1.2⟩
        | succ f => simpa using ih ys f h.2 (by simpa using hf)
  obtain ⟨fl, h3, h4⟩ := key _ _ _ h2 hf
  exact ⟨fields, fl, h1, by simpa using h3, h4⟩

theorem ok_fieldAddr_ptr (hT : TabOK P T) (t : TypeId) (x : Operand) (f : Nat) {fs : List (Nat × Nat × Bool)} {z : List AV} (ht : T.tyOf t = .struct fs z) {b off d s : Nat} {g : Bool}
    (hf : fs[f]? = some (d, s, g)) (hs : s ≠ 0) (hx : vals x = .ptr b off) : OpOK P T ⟨dst, .fieldAddr t x f, type, pos, after, guard⟩ vals hp [] (.ptr b (off + d)) [] :=
  opOK_value fun C σ a w loc hr hv _ => by
    have h1 := hv x (by simp [Op.operands]); rw [hx] at h1
    obtain ⟨cb, hl, h1⟩ := h1.ptr_inv
    obtain ⟨fields, fl, g1, g2, g3, g4, g5, g6, g7⟩ := field_of hT ht hf
    refine ⟨.pointer (some ⟨cb, off + d, none⟩), ?_, .ptr _ _ _ hl⟩
    simp only [execOp, h1, Instr.fieldAt, Instr.sureAddr, Sem.run_bind, run_underlying g1, Result.andThen_ok, g2, Sem.run_pure, fieldPlace, run_sizeOf_cells g6, g4]
    rw [if_neg hs]
    simp [g3, addr_add]

theorem ok_fieldAddr_eptr (hT : TabOK P T) (t : TypeId) (x : Operand) (f : Nat) {fs : List (Nat × Nat × Bool)} {z : List AV} (ht : T.tyOf t = .struct fs z) {cs : List AV} {d s : Nat} {g : Bool}
    (hf : fs[f]? = some (d, s, g)) (hs : s ≠ 0) (hx : vals x = .eptr cs) : OpOK P T ⟨dst, .fieldAddr t x f, type, pos, after, guard⟩ vals hp [] (.eptr (cs.drop d)) [] :=
  opOK_value fun C σ a w loc hr hv _ => by
    have h1 := hv x (by simp [Op.operands]); rw [hx] at h1
    obtain ⟨b, o, cv, h1, hc, hrel⟩ := h1.eptr_inv
    obtain ⟨fields, fl, g1, g2, g3, g4, g5, g6, g7⟩ := field_of hT ht hf
    refine ⟨.pointer (some ⟨b, o + d, none⟩), ?_, .eptr _ _ _ (fun i => cv (d + i)) (fun i c hi => ?_) (fun i c hi => ?_)⟩
    · simp only [execOp, h1, Instr.fieldAt, Instr.sureAddr, Sem.run_bind, run_underlying g1, Result.andThen_ok, g2, Sem.run_pure, fieldPlace, run_sizeOf_cells g6, g4]
      rw [if_neg hs]
      simp [g3, addr_add]
    · rw [List.getElem?_drop] at hi
      simpa [Nat.add_assoc] using hc _ _ hi
    · rw [List.getElem?_drop] at hi
      exact hrel _ _ hi

theorem RelV.agg_inv {w : World} {X : Nat → Nat → Prop} {loc : List Loc} {cs : List AV} {v : Value} (h : RelV w X loc (.agg cs) v) :
    ∃ vs : Array Value, v = .agg vs ∧ cs.length = vs.size ∧ ∀ (i : Nat) c, cs[i]? = some c → RelV w X loc c (vs.getD i Go.undef) := by
  cases h with
  | agg cs vs h r => exact ⟨vs, rfl, h, r⟩

theorem RelV.tuple_inv {w : World} {X : Nat → Nat → Prop} {loc : List Loc} {cs : List AV} {v : Value} (h : RelV w X loc (.tuple cs) v) :
    ∃ vs : Array Value, v = .tuple vs ∧ cs.length = vs.size ∧ ∀ (i : Nat) c, cs[i]? = some c → RelV w X loc c (vs.getD i Go.undef) := by
  cases h with
  | tuple cs vs h r => exact ⟨vs, rfl, h, r⟩

/-- A part of an aggregate, as the model takes it. -/
theorem run_part {t : TypeId} (h1 : (P.info? t).isSome = true) (h2 : (P.underlying t).isSome = true) {cs : List AV} {vs : Array Value} {off : Nat} {v : AV} {w : World} {X : Nat → Nat → Prop} {loc : List Loc}
    (hn : cs.length = vs.size) (hr : ∀ (i : Nat) c, cs[i]? = some c → RelV w X loc c (vs.getD i Go.undef)) (hv : partC (aggB P t) (P.cellsOf t) (cs.drop off) = some v) :
    ∃ x, (part t vs off).run P w = .ok x w ∧ RelV w X loc v x := by
  have hp := part_rel (w := w) (X := X) (loc := loc) (cs := cs.drop off) (f := fun j => vs.getD (off + j) Go.undef) (fun j c hj => by rw [List.getElem?_drop] at hj; exact hr _ _ hj) hv
  unfold part
  simp only [Sem.run_bind, run_isAgg_of h2, Result.andThen_ok]
  cases hg : aggB P t with
  | true =>
    obtain ⟨hle, hrel⟩ := hp.1 hg
    refine ⟨.agg (vs.extract off (off + P.cellsOf t)), by simp only [if_true, Sem.run_bind, run_sizeOf_cells h1, Result.andThen_ok, Sem.run_pure], ?_⟩
    have : (vs.extract off (off + P.cellsOf t)) = ((List.range (P.cellsOf t)).map fun j => vs.getD (off + j) Go.undef).toArray := by
      simp at hle
      apply Array.ext_getElem?
      intro i
      simp only [Array.getElem?_extract, List.getElem?_toArray, List.getElem?_map]
      by_cases hi : i < P.cellsOf t
      · rw [if_pos (by omega)]
        simp [hi, Array.getD_eq_getD_getElem?]
        rw [Array.getElem?_eq_getElem (by omega)]
        simp
      · rw [if_neg (by omega)]
        simp [hi]
    rw [this]
    exact hrel
  | false =>
    obtain ⟨h0, hrel⟩ := hp.2 hg
    simp at h0
    have hlt : off < vs.size := by omega
    refine ⟨vs[off], by simp [hlt], ?_⟩
    simpa [Array.getD_eq_getD_getElem?, hlt] using hrel

theorem ok_field (hT : TabOK P T) (t : TypeId) (x : Operand) (f : Nat) {fs : List (Nat × Nat × Bool)} {z : List AV} (ht : T.tyOf t = .struct fs z) {cs : List AV} {d s : Nat} {g : Bool} {v : AV}
    (hf : fs[f]? = some (d, s, g)) (hx : vals x = .agg cs) (hv : partC g s (cs.drop d) = some v) : OpOK P T ⟨dst, .field t x f, type, pos, after, guard⟩ vals hp [] v [] :=
  opOK_value fun C σ a w loc hr hvals _ => by
    have h1 := hvals x (by simp [Op.operands]); rw [hx] at h1
    obtain ⟨vs, h1, hn, hrel⟩ := h1.agg_inv
    obtain ⟨fields, fl, g1, g2, g3, g4, g5, g6, g7⟩ := field_of hT ht hf
    obtain ⟨x', hx', hrx⟩ := run_part (P := P) (t := fl.type) (off := d) g6 g7 hn hrel (by rw [g4, g5]; exact hv)
    refine ⟨x', ?_, hrx⟩
    simp only [execOp, h1, Instr.field, Sem.run_bind, run_underlying g1, Result.andThen_ok, g2, asAgg, Sem.run_pure, g3, hx']

theorem arr_of (hT : TabOK P T) {t : TypeId} {n s : Nat} {g : Bool} {el : Option ElT} {z : List AV} (ht : T.tyOf t = .arr n s g el z) :
    ∃ e, P.underlying t = some (.array n e) ∧ P.cellsOf e = s ∧ aggB P e = g ∧ (P.info? e).isSome = true ∧ (P.underlying e).isSome = true ∧ z.length = n * s ∧ (∀ et, el = some et → sz et = s ∧ (!flat et) = g) := by
  have hu := und_of (t := t) hT (by rw [ht]; simp)
  rw [ht] at hu
  revert hu
  cases P.underlying t with
  | none => exact fun h => h.elim
  | some d =>
    cases d with
    | array n' e =>
      rintro ⟨rfl, h⟩
      simp only [arB, Bool.and_eq_true] at h
      obtain ⟨h2, h3, h4, h5, h6, h7⟩ := h
      refine ⟨e, rfl, Nat.eq_of_beq_eq_true h2, by simpa using h3, h4, h5, Nat.eq_of_beq_eq_true h6, fun et he => ?_⟩
      subst he
      simp only [Bool.and_eq_true] at h7
      exact ⟨Nat.eq_of_beq_eq_true h7.1, eq_of_beq h7.2⟩
    | _ => exact fun h => h.elim

theorem slice_of (hT : TabOK P T) {t : TypeId} {e : ElT} (ht : T.tyOf t = .slice e) :
    ∃ el, P.underlying t = some (.slice el) ∧ P.cellsOf el = sz e ∧ aggB P el = (!flat e) ∧ (P.info? el).isSome = true ∧ (P.underlying el).isSome = true ∧
      ∃ i z, P.info? el = some i ∧ i.zero = some z ∧ z.cells.size = sz e ∧ i.bytes ≤ 1024 ∧ i.bytes ≠ 0 := by
  have hu := und_of (t := t) hT (by rw [ht]; simp)
  rw [ht] at hu
  revert hu
  cases P.underlying t with
  | none => exact fun h => h.elim
  | some d =>
    cases d with
    | slice el =>
      intro h
      simp only [elB, Bool.and_eq_true] at h
      obtain ⟨h1, h2, h3, h4, h5⟩ := h
      refine ⟨el, rfl, Nat.eq_of_beq_eq_true h1, by simpa using h2, h3, h4, ?_⟩
      cases hi : P.info? el with
      | none => simp [hi] at h5
      | some i =>
        simp only [hi, Bool.and_eq_true] at h5
        cases hz : i.zero with
        | none => simp [hz] at h5
        | some z =>
          simp only [hz] at h5
          exact ⟨i, z, rfl, hz, Nat.eq_of_beq_eq_true ((Bool.and_eq_true _ _).mp h5.1).1, Nat.le_of_ble_eq_true h5.2.1, fun e => by simp [e] at h5⟩
    | _ => exact fun h => h.elim

theorem slice_zero (hT : TabOK P T) {t : TypeId} {e : ElT} (ht : T.tyOf t = .slice e) :
    ∃ el, P.underlying t = some (.slice el) ∧ P.cellsOf el = sz e ∧ aggB P el = (!flat e) ∧ (P.info? el).isSome = true ∧ (P.underlying el).isSome = true ∧
      ∃ i z, P.info? el = some i ∧ i.zero = some z ∧ z.cells.size = sz e ∧ i.bytes ≤ 1024 ∧ i.bytes ≠ 0 ∧ sameL z.cells.toList (zeroE e) = true := by
  have hu := und_of (t := t) hT (by rw [ht]; simp)
  rw [ht] at hu
  revert hu
  cases P.underlying t with
  | none => exact fun h => h.elim
  | some d =>
    cases d with
    | slice el =>
      intro h
      simp only [elB, Bool.and_eq_true] at h
      obtain ⟨h1, h2, h3, h4, h5⟩ := h
      refine ⟨el, rfl, Nat.eq_of_beq_eq_true h1, by simpa using h2, h3, h4, ?_⟩
      cases hi : P.info? el with
      | none => simp [hi] at h5
      | some i =>
        simp only [hi, Bool.and_eq_true] at h5
        cases hz : i.zero with
        | none => simp [hz] at h5
        | some z =>
          simp only [hz] at h5
          exact ⟨i, z, rfl, hz, Nat.eq_of_beq_eq_true ((Bool.and_eq_true _ _).mp h5.1).1, Nat.le_of_ble_eq_true h5.2.1, fun e => by simp [e] at h5, ((Bool.and_eq_true _ _).mp h5.1).2⟩
    | _ => exact fun h => h.elim

/-- A number among the first ones, found by trying. -/
theorem arrIdx_some {ρ : Type} {i : Int} {k : Nat → Option ρ} {r : ρ} : ∀ {n j : Nat}, arrIdx i k n j = some r → ∃ m : Nat, i = (m : Int) ∧ j ≤ m ∧ m < j + n ∧ k m = some r
  | 0, _, h => by simp [arrIdx] at h
  | n + 1, j, h => by
    unfold arrIdx at h
    cases hd : decide (i = (j : Int)) with
    | true => simp only [hd, cond_true] at h; exact ⟨j, of_decide_eq_true hd, Nat.le_refl _, by omega, h⟩
    | false =>
      simp only [hd, cond_false] at h
      obtain ⟨m, h1, h2, h3, h4⟩ := arrIdx_some h
      exact ⟨m, h1, by omega, by omega, h4⟩

theorem ok_indexAddr_ptr (hT : TabOK P T) (t : TypeId) (x y : Operand) {n s : Nat} {g : Bool} {el : Option ElT} {z : List AV} (ht : T.tyOf t = .arr n s g el z) {b off m : Nat} {k : IntKind}
    (hx : vals x = .ptr b off) (hy : vals y = .int k (m : Int)) (hm : m < n) : OpOK P T ⟨dst, .indexAddr t x y, type, pos, after, guard⟩ vals hp [] (.ptr b (off + m * s)) [] :=
  opOK_value fun C σ a w loc hr hv _ => by
    have h1 := hv x (by simp [Op.operands]); rw [hx] at h1
    obtain ⟨cb, hl, h1⟩ := h1.ptr_inv
    have h2 := hv y (by simp [Op.operands]); rw [hy] at h2
    obtain ⟨e, g1, g2, g3, g4, g5, _, _⟩ := arr_of hT ht
    refine ⟨.pointer (some ⟨cb, off + m * s, none⟩), ?_, .ptr _ _ _ hl⟩
    simp only [execOp, h1, h2.int_inv, Instr.indexAt, asIntOf, Instr.sureAddr, Sem.run_bind, run_underlying g1, Result.andThen_ok, Sem.run_pure]
    rw [if_pos (by omega)]
    simp [run_sizeOf_cells g4, g2, addr_add]

theorem ok_indexAddr_eptr (hT : TabOK P T) (t : TypeId) (x y : Operand) {n s : Nat} {g : Bool} {el : Option ElT} {z : List AV} (ht : T.tyOf t = .arr n s g el z) {cs : List AV} {m : Nat} {k : IntKind}
    (hx : vals x = .eptr cs) (hy : vals y = .int k (m : Int)) (hm : m < n) : OpOK P T ⟨dst, .indexAddr t x y, type, pos, after, guard⟩ vals hp [] (.eptr (cs.drop (m * s))) [] :=
  opOK_value fun C σ a w loc hr hv _ => by
    have h1 := hv x (by simp [Op.operands]); rw [hx] at h1
    obtain ⟨b, o, cv, h1, hc, hrel⟩ := h1.eptr_inv
    have h2 := hv y (by simp [Op.operands]); rw [hy] at h2
    obtain ⟨e, g1, g2, g3, g4, g5, _, _⟩ := arr_of hT ht
    refine ⟨.pointer (some ⟨b, o + m * s, none⟩), ?_, .eptr _ _ _ (fun i => cv (m * s + i)) (fun i c hi => ?_) (fun i c hi => ?_)⟩
    · simp only [execOp, h1, h2.int_inv, Instr.indexAt, asIntOf, Instr.sureAddr, Sem.run_bind, run_underlying g1, Result.andThen_ok, Sem.run_pure]
      rw [if_pos (by omega)]
      simp [run_sizeOf_cells g4, g2, addr_add]
    · rw [List.getElem?_drop] at hi
      simpa [Nat.add_assoc] using hc _ _ hi
    · rw [List.getElem?_drop] at hi
      exact hrel _ _ hi

theorem RelV.lst_inv {w : World} {X : Nat → Nat → Prop} {loc : List Loc} {t : ElT} {xs : List (El t)} {v : Value} (h : RelV w X loc (.lst t xs) v) :
    ∃ (base : Option Addr) (cap b o : Nat) (cv : Nat → Nat → Value), v = .slice base xs.length cap ∧ xs.length ≤ cap ∧ (0 < xs.length → base = some ⟨b, o, none⟩) ∧
      (∀ (i : Nat) x (j : Nat) c, xs[i]? = some x → (enc t x)[j]? = some c → w.cell? ⟨b, o + i * sz t + j, Option.none⟩ = some (cv i j) ∧ ¬ X b (o + i * sz t + j)) ∧
      (∀ (i : Nat) x (j : Nat) c, xs[i]? = some x → (enc t x)[j]? = some c → RelV w X loc c (cv i j)) := by
  cases h with
  | lst t xs base len cap b o cv hn hc hb h r => subst hn; exact ⟨base, cap, b, o, cv, rfl, hc, hb, h, r⟩

theorem idx_some {α : Type} {xs : List α} {i : Int} {x : α} (h : idx xs i = some x) : ∃ n : Nat, i = (n : Int) ∧ xs[n]? = some x := by
  unfold idx at h
  cases hd : decide (0 ≤ i) with
  | false => simp [hd] at h
  | true =>
    simp only [hd, cond_true] at h
    have := of_decide_eq_true hd
    exact ⟨i.toNat, by omega, h⟩

theorem ok_indexAddr_lst (hT : TabOK P T) (t : TypeId) (x y : Operand) {e : ElT} (ht : T.tyOf t = .slice e) {xs : List (El e)} {z : El e} {i : Int} {k : IntKind}
    (hx : vals x = .lst e xs) (hy : vals y = .int k i) (hi : idx xs i = some z) : OpOK P T ⟨dst, .indexAddr t x y, type, pos, after, guard⟩ vals hp [] (.eptr (enc e z)) [] :=
  opOK_value fun C σ a w loc hr hv _ => by
    have h1 := hv x (by simp [Op.operands]); rw [hx] at h1
    obtain ⟨base, cap, b, o, cv, h1, hcap, hb, hc, hrel⟩ := h1.lst_inv
    have h2 := hv y (by simp [Op.operands]); rw [hy] at h2
    obtain ⟨n, rfl, hn⟩ := idx_some hi
    have hlt := lt_of_getElem? hn
    have hb := hb (by omega)
    subst hb
    obtain ⟨el, g1, g2, g3, g4, g5, _⟩ := slice_of hT ht
    refine ⟨.pointer (some ⟨b, o + n * sz e, none⟩), ?_, .eptr _ _ _ (cv n) (fun j c hj => hc n z j c hn hj) (fun j c hj => hrel n z j c hn hj)⟩
    simp only [execOp, h1, h2.int_inv, Instr.indexAt, asIntOf, Sem.run_bind, run_underlying g1, Result.andThen_ok, Sem.run_pure]
    rw [if_pos (by omega)]
    simp [run_sizeOf_cells g4, g2, addr_add]

theorem ok_index (hT : TabOK P T) (t : TypeId) (x y : Operand) {n s : Nat} {g : Bool} {el : Option ElT} {z : List AV} (ht : T.tyOf t = .arr n s g el z) {cs : List AV} {m : Nat} {k : IntKind} {v : AV}
    (hx : vals x = .agg cs) (hy : vals y = .int k (m : Int)) (hm : m < n) (hv : partC g s (cs.drop (m * s)) = some v) : OpOK P T ⟨dst, .index t x y, type, pos, after, guard⟩ vals hp [] v [] :=
  opOK_value fun C σ a w loc hr hvals _ => by
    have h1 := hvals x (by simp [Op.operands]); rw [hx] at h1
    obtain ⟨vs, h1, hn, hrel⟩ := h1.agg_inv
    have h2 := hvals y (by simp [Op.operands]); rw [hy] at h2
    obtain ⟨e, g1, g2, g3, g4, g5, _, _⟩ := arr_of hT ht
    obtain ⟨x', hx', hrx⟩ := run_part (P := P) (t := e) (off := m * s) g4 g5 hn hrel (by rw [g2, g3]; exact hv)
    refine ⟨x', ?_, hrx⟩
    simp only [execOp, h1, h2.int_inv, Instr.index, asIntOf, Sem.run_bind, run_underlying g1, Result.andThen_ok, Sem.run_pure]
    rw [if_pos (by omega)]
    simp [run_sizeOf_cells g4, g2, hx']

theorem ok_extract (x : Operand) (i : Nat) {vs : List AV} {v : AV} (hx : vals x = .tuple vs) (hi : vs[i]? = some v) : OpOK P T ⟨dst, .extract x i, type, pos, after, guard⟩ vals hp [] v [] :=
  opOK_value fun C σ a w loc hr hvals _ => by
    have h1 := hvals x (by simp [Op.operands]); rw [hx] at h1
    obtain ⟨us, h1, hn, hrel⟩ := h1.tuple_inv
    have hlt := lt_of_getElem? hi
    refine ⟨us.getD i Go.undef, ?_, hrel i v hi⟩
    have hlt' : i < us.size := by omega
    simp [execOp, h1, Instr.extract, hlt', Array.getD_eq_getD_getElem?]

theorem ok_makeInterface (hT : TabOK P T) (t : TypeId) (x : Operand) (hk : T.known t = true) (hi : T.tyOf t ≠ .iface) : OpOK P T ⟨dst, .makeInterface t x, type, pos, after, guard⟩ vals hp [] (.iface t (vals x)) [] :=
  opOK_value fun C σ a w loc hr hvals _ => by
    have hu := und_of (t := t) hT (Tab.known_ne hk)
    have hd : ∃ d, P.underlying t = some d ∧ (∀ ms, d ≠ .interface ms) := by
      revert hu hi
      cases P.underlying t with
      | none => cases T.tyOf t <;> simp
      | some d =>
        intro hi hu
        refine ⟨d, rfl, fun ms e => ?_⟩
        subst e
        revert hi hu
        cases T.tyOf t <;> simp
    obtain ⟨d, h1, h2⟩ := hd
    refine ⟨.iface t (a.eval x), ?_, .iface _ _ _ (hvals x (by simp [Op.operands]))⟩
    simp only [execOp, Instr.makeInterface, Sem.run_bind, run_underlying h1, Result.andThen_ok]
    cases d <;> first | exact absurd rfl (h2 _) | rfl

end ops
end Go.Ull
