/- The abstract operations are sound: build, slices, len, max, min. -/
import Derived.Test.YtmgdofgmidbddaaFrI
import Derived.Laws.AppendOwn
namespace Go.Ull
open Go.RowKit

theorem fillEv_length {pl : Nat → Option (Nat × Nat)} : ∀ {ps : List (Nat × AV)} {cs cs' : List AV}, fillEv pl cs ps = some cs' → cs'.length = cs.length
  | [], cs, cs', h => by cases h; rfl
  | (i, v) :: ps, cs, cs', h => by
    unfold fillEv at h
    split at h
    · rename_i off size ds hp hds
      cases hb : (Nat.beq ds.length size && Nat.ble (off + ds.length) cs.length) with
      | false => simp [hb] at h
      | true =>
        simp only [hb, cond_true] at h
        simp only [Bool.and_eq_true] at hb
        have hb2 := Nat.le_of_ble_eq_true hb.2
        rw [fillEv_length h]
        simp [splice]; omega
    · cases h

section ops
variable {P : Program} {T : Tab} {dst : Option Tmp} {type : TypeId} {pos : String} {after : Array Edge} {guard : Option (Nat × Bool)}
variable {vals : Operand → AV} {hp : List Blk}

theorem zero_cells (hT : TabOK P T) {t : TypeId} {z : List AV} (h : (T.tyOf t).zero = .agg z) : ∃ zs : Array Value, (∀ w : World, (zeroValue t).run P w = .ok (.agg zs) w) ∧ z.length = zs.size ∧
    ∀ (w : World) (X : Nat → Nat → Prop) (loc : List Loc) (i : Nat) x, z[i]? = some x → RelV w X loc x (zs.getD i Go.undef) := by
  have hn : T.tyOf t ≠ .other := by intro e; rw [e] at h; cases h
  obtain ⟨i, h1, _, h3⟩ := info_of hT hn
  rw [h] at h3
  unfold zeroB at h3
  split at h3
  · rename_i c as hz ha
    cases ha
    refine ⟨c, fun w => by simp [zeroValue, typeInfo, h1, hz], ?_, fun w X loc j x hj => ?_⟩
    · simpa using (sameL_rel (w := default) (X := fun _ _ => False) (loc := []) h3).1
    · simpa [Array.getD_eq_getD_getElem?, List.getD] using (sameL_rel (w := w) (X := X) (loc := loc) h3).2 j x hj
  · rename_i v hz hs
    cases v <;> simp [sameB] at h3
  · cases h3

theorem run_places {fields : List Field} {fs : List (Nat × Nat × Bool)} (h : fieldsB P fields fs = true) (w : World) :
    (fields.mapM (m := Sem) fun f => do pure (f.offset, ← sizeOf f.type)).run P w = .ok (fields.map fun f => (f.offset, P.cellsOf f.type)) w := by
  induction fields generalizing fs with
  | nil => rfl
  | cons f r ih =>
    cases fs with
    | nil => simp [fieldsB] at h
    | cons g gs =>
      simp only [fieldsB, Bool.and_eq_true] at h
      simp only [List.mapM_cons, Sem.run_bind, run_sizeOf_cells h.1.1.2, Result.andThen_ok, Sem.run_pure, ih h.2, List.map_cons]

theorem fieldsB_get {fields : List Field} {fs : List (Nat × Nat × Bool)} (h : fieldsB P fields fs = true) {i : Nat} {p : Nat × Nat} (hi : (fs[i]?).map (fun f => (f.1, f.2.1)) = some p) :
    (fields.map fun f => (f.offset, P.cellsOf f.type))[i]? = some p := by
  induction fields generalizing fs i with
  | nil => cases fs with
    | nil => simp at hi
    | cons => simp [fieldsB] at h
  | cons f r ih =>
    cases fs with
    | nil => simp at hi
    | cons g gs =>
      simp only [fieldsB, Bool.and_eq_true] at h
      cases i with
      | zero =>
        simp at hi
        subst hi
        simp [Nat.eq_of_beq_eq_true h.1.1.1.1.1, Nat.eq_of_beq_eq_true h.1.1.1.1.2]
      | succ i => simpa using ih h.2 (by simpa using hi)

theorem parts_rel {w : World} {X : Nat → Nat → Prop} {loc : List Loc} {a : Act} {ps : List (Nat × Operand)} (h : ∀ x ∈ ps.map (·.2), RelV w X loc (vals x) (a.eval x)) :
    ∀ (i : Nat) p q, (ps.map fun p => (p.1, vals p.2))[i]? = some p → (ps.map fun p => (p.1, a.eval p.2))[i]? = some q → p.1 = q.1 ∧ RelV w X loc p.2 q.2 := by
  intro i p q hp hq
  rw [List.getElem?_map] at hp hq
  cases hx : ps[i]? with
  | none => simp [hx] at hp
  | some x =>
    simp only [hx, Option.map_some, Option.some.injEq] at hp hq
    subst hp; subst hq
    exact ⟨rfl, h _ (List.mem_map.2 ⟨x, List.mem_of_getElem? hx, rfl⟩)⟩

theorem ok_build_struct (hT : TabOK P T) (t : TypeId) (ps : Array (Nat × Operand)) {fs : List (Nat × Nat × Bool)} {z cs : List AV} (ht : T.tyOf t = .struct fs z)
    (h : fillEv (fun i => (fs[i]?).map fun f => (f.1, f.2.1)) z (ps.toList.map fun p => (p.1, vals p.2)) = some cs) :
    OpOK P T ⟨dst, .build t ps, type, pos, after, guard⟩ vals hp [] (.agg cs) [] :=
  opOK_value fun C σ a w loc hr hv _ => by
    obtain ⟨zs, g1, g2, g3⟩ := zero_cells hT (t := t) (z := z) (by rw [ht])
    have hu := und_of (t := t) hT (by rw [ht]; simp)
    rw [ht] at hu
    have hu' : ∃ fields, P.underlying t = some (.struct fields) ∧ fieldsB P fields.toList fs = true := by
      revert hu
      cases P.underlying t with
      | none => simp
      | some d => cases d <;> simp
    obtain ⟨fields, h1, h2⟩ := hu'
    obtain ⟨c', k1, k2, k3⟩ := fill_rel (w := w) (X := C.X σ.hp loc) (loc := loc) (pl' := fun i => (fields.toList.map fun f => (f.offset, P.cellsOf f.type))[i]?) (qs := ps.toList.map fun p => (p.1, a.eval p.2)) (c := zs)
      (fun i p hi => fieldsB_get h2 hi) h (by simp) (parts_rel fun x hx => hv x (by simpa [Op.operands] using hx)) g2 (g3 _ _ _)
    refine ⟨.agg c', ?_, .agg _ _ k2 k3⟩
    have hpl := run_places h2 w
    rw [← Array.toList_mapM] at hpl
    simp only [execOp, Instr.build, Sem.run_bind, g1, Result.andThen_ok, run_underlying h1, Value.cells]
    have hm : (fields.mapM (m := Sem) fun f => do pure (f.offset, ← sizeOf f.type)).run P w = .ok ((fields.toList.map fun f => (f.offset, P.cellsOf f.type)).toArray) w := by
      rw [Array.mapM_eq_mapM_toList, Sem.run_map, run_places h2 w]
      rfl
    rw [hm]
    simp only [Result.andThen_ok]
    have hfill : Instr.fill (((fields.toList.map fun f => (f.offset, P.cellsOf f.type)).toArray)[·]?) zs (ps.map fun (i, x) => (i, a.eval x)).toList = some c' := by
      rw [← k1]
      congr 1
      · funext i; simp
      · simp
    rw [hfill]
    rfl

theorem ok_build_arr (hT : TabOK P T) (t : TypeId) (ps : Array (Nat × Operand)) {n s : Nat} {g : Bool} {el : Option ElT} {z cs : List AV} (ht : T.tyOf t = .arr n s g el z)
    (h : fillEv (fun i => some (i * s, s)) z (ps.toList.map fun p => (p.1, vals p.2)) = some cs) :
    OpOK P T ⟨dst, .build t ps, type, pos, after, guard⟩ vals hp [] (.agg cs) [] :=
  opOK_value fun C σ a w loc hr hv _ => by
    obtain ⟨zs, g1, g2, g3⟩ := zero_cells hT (t := t) (z := z) (by rw [ht])
    obtain ⟨e, h1, h2, h3, h4, h5, _, _⟩ := arr_of hT ht
    obtain ⟨c', k1, k2, k3⟩ := fill_rel (w := w) (X := C.X σ.hp loc) (loc := loc) (pl' := fun i => some (i * s, s)) (qs := ps.toList.map fun p => (p.1, a.eval p.2)) (c := zs)
      (fun i p hi => hi) h (by simp) (parts_rel fun x hx => hv x (by simpa [Op.operands] using hx)) g2 (g3 _ _ _)
    refine ⟨.agg c', ?_, .agg _ _ k2 k3⟩
    simp only [execOp, Instr.build, Sem.run_bind, g1, Result.andThen_ok, run_underlying h1, Value.cells, run_sizeOf_cells h4, h2]
    have hfill : Instr.fill (fun i => some (i * s, s)) zs (ps.map fun (i, x) => (i, a.eval x)).toList = some c' := by
      rw [← k1]
      congr 1
      simp
    rw [hfill]
    rfl

theorem ok_buildSlice (hT : TabOK P T) (t : TypeId) (n : Nat) (ps : Array (Nat × Operand)) {e : ElT} {cs : List AV} {xs : List (El e)} (ht : T.tyOf t = .slice e) (hn : n ≠ 0) (hle : n * sz e ≤ 16777216)
    (h : fillEv (fun i => some (i * sz e, sz e)) (List.replicate (n * sz e) .undef) (ps.toList.map fun p => (p.1, vals p.2)) = some cs) (hx : decAll e (chunk n (sz e) cs) = some xs) :
    OpOK P T ⟨dst, .buildSlice t n ps, type, pos, after, guard⟩ vals hp [] (.lst e xs) [] :=
  opOK_grow fun C σ a w loc hr hv _ => by
    obtain ⟨el, h1, h2, h3, h4, h5, i, z, g1, g2, g3, _⟩ := slice_of hT ht
    have hpos := sz_pos e
    have hnz : n * sz e ≠ 0 := by
      intro h0
      rcases Nat.mul_eq_zero.1 h0 with h | h
      · exact hn h
      · omega
    obtain ⟨c', k1, k2, k3⟩ := fill_rel (w := w) (X := C.X σ.hp loc) (loc := loc) (pl' := fun i => some (i * sz e, sz e)) (qs := ps.toList.map fun p => (p.1, a.eval p.2))
      (c := (Array.range (n * sz e)).map fun i => z.cells[i % z.cells.size]!)
      (fun i p hi => hi) h (by simp) (parts_rel fun x hx => hv x (by simpa [Op.operands] using hx)) (by simp) (fun i x hi => by
        rw [List.getElem?_replicate] at hi
        split at hi
        · cases hi; exact .undef _
        · cases hi)
    have hlen : xs.length = n := by
      rw [decAll_length hx]
      have hcl : cs.length = n * sz e := by rw [k2]; have := (fillEv_length h); simp at this; omega
      exact chunk_length hpos hcl (Nat.le_refl _)
    have hw := Keep.alloc w (.cells c' el)
    refine ⟨.slice (some ⟨w.heap.size, 0, none⟩) n n, w.alloc (.cells c' el), ?_, hw, ?_⟩
    · simp only [execOp, Instr.buildSlice, Sem.run_bind, run_underlying h1, Result.andThen_ok, run_sizeOf_cells h4, h2]
      rw [if_neg (by omega), if_neg hnz]
      have hz : (zeroValue el).run P w = .ok z w := by simp [zeroValue, typeInfo, g1, g2]
      have hfill : Instr.fill (fun i => some (i * sz e, sz e)) ((Array.range (n * sz e)).map fun i => z.cells[i % z.cells.size]!) (ps.map fun (i, x) => (i, a.eval x)).toList = some c' := by
        rw [← k1]
        congr 1
        simp
      simp only [Sem.run_bind, hz, Result.andThen_ok, Sem.run_pure, hfill]
      simp [newRow]
    · have hmono : ∀ {av : AV} {v : Value}, RelV w (C.X σ.hp loc) loc av v → RelV (w.alloc (.cells c' el)) (C.X σ.hp loc) loc av v := fun hr' =>
        hr'.mono (fun _ _ h _ => h) fun b o v h1 h2 => ⟨hw.cell h1 (fun f => f), h2⟩
      have := lst_of_cells (w := w.alloc (.cells c' el)) (X := C.X σ.hp loc) (loc := loc) (t := e) (xs := xs) (base := some ⟨w.heap.size, 0, none⟩) (cap := n) (b := w.heap.size) (o := 0)
        (fun j => c'.getD j Go.undef) (by omega) (fun _ => rfl) (fun j hj => by
          have hjs : j < c'.size := by
            have hcl : cs.length = n * sz e := by rw [k2]; have := (fillEv_length h); simp at this; omega
            rw [hlen] at hj; omega
          refine ⟨by simp [World.cell?_alloc_new, hjs, Array.getD_eq_getD_getElem?], fun hX => ?_⟩
          rcases hX with hX | ⟨i, k, l, _, hl, hz⟩
          · have := C.x0 _ _ hX
            have := hr.keep.size
            omega
          · have := hr.at_lt hl (zone_at hz)
            omega)
        (decAll_rel hx _ fun j c hj => hmono (k3 j c hj))
      rw [hlen] at this
      exact this

end ops
end Go.Ull
