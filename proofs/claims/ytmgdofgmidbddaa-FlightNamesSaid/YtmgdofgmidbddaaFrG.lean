/- The abstract operations are sound: memory. -/
import Derived.Test.YtmgdofgmidbddaaFrF
namespace Go.Ull
open Go.RowKit

theorem addr_add (b o j : Nat) : (⟨b, o, none⟩ : Addr).add j = ⟨b, o + j, none⟩ := by
  unfold Addr.add
  split
  · rename_i h; subst h; rfl
  · rfl

theorem Tab.known_ne {T : Tab} {t : Nat} (h : T.known t = true) : T.tyOf t ≠ .other := by
  intro e; simp [Tab.known, e] at h

theorem cells_rel {w : World} {X : Nat → Nat → Prop} {loc : List Loc} {av : AV} {v : Value} {xs : List AV} (hc : cellsOf av = some xs) (h : RelV w X loc av v) :
    xs.length = v.cells.size ∧ ∀ (i : Nat) c, xs[i]? = some c → RelV w X loc c (v.cells.getD i Go.undef) := by
  cases h with
  | agg cs vs h r => cases hc; exact ⟨h, r⟩
  | undef => cases hc
  | _ =>
    cases hc
    refine ⟨rfl, fun i c hi => ?_⟩
    cases i with
    | zero => simp at hi; subst hi; constructor <;> assumption
    | succ i => simp at hi

/-- A value read out of a row of cells. -/
theorem part_rel {w : World} {X : Nat → Nat → Prop} {loc : List Loc} {cs : List AV} {f : Nat → Value} (h : ∀ (j : Nat) c, cs[j]? = some c → RelV w X loc c (f j))
    {g : Bool} {n : Nat} {v : AV} (hv : partC g n cs = some v) :
    (g = true → n ≤ cs.length ∧ RelV w X loc v (.agg ((List.range n).map f).toArray)) ∧ (g = false → 0 < cs.length ∧ RelV w X loc v (f 0)) := by
  unfold partC at hv
  cases g with
  | true =>
    simp only [cond_true] at hv
    cases hb : Nat.ble n cs.length with
    | false => simp [hb] at hv
    | true =>
      simp only [hb, cond_true, Option.some.injEq] at hv
      subst hv
      have hle := Nat.le_of_ble_eq_true hb
      refine ⟨fun _ => ⟨hle, .agg _ _ (by simp [hle]) fun i c hi => ?_⟩, fun h => by cases h⟩
      rw [List.getElem?_take] at hi
      split at hi
      · rename_i hlt
        have := h i c hi
        simpa [Array.getD_eq_getD_getElem?, hlt] using this
      · cases hi
  | false =>
    simp only [cond_false] at hv
    refine ⟨(fun h => by cases h), fun _ => ⟨?_, h 0 v hv⟩⟩
    rcases Nat.lt_or_ge 0 cs.length with h' | h'
    · exact h'
    · simp [List.getElem?_eq_none h'] at hv

theorem load_src {P : Program} {T : Tab} (hT : TabOK P T) {t : TypeId} {w : World} {X : Nat → Nat → Prop} {loc : List Loc} {cs : List AV} {f : Nat → Value} {b o : Nat} {v : AV}
    (hc : ∀ (j : Nat) c, cs[j]? = some c → w.cell? ⟨b, o + j, none⟩ = some (f j)) (h : ∀ (j : Nat) c, cs[j]? = some c → RelV w X loc c (f j))
    (hv : loadT (T.tyOf t) cs = some v) : ∃ x, (loadVar t ⟨b, o, none⟩).run P w = .ok x w ∧ RelV w X loc v x := by
  have hn : T.tyOf t ≠ .other := by intro e; rw [e] at hv; cases hv
  have hv' : partC (T.tyOf t).agg.isSome (T.tyOf t).size cs = some v := by
    revert hv; unfold loadT; cases T.tyOf t <;> simp
  have hp := part_rel h hv'
  have hlt : ∀ {j : Nat}, j < cs.length → w.cell? ⟨b, o + j, none⟩ = some (f j) := fun {j} hj => hc j cs[j] (by simp [hj])
  cases hg : (T.tyOf t).agg.isSome with
  | true =>
    obtain ⟨hle, hrel⟩ := hp.1 hg
    refine ⟨_, ?_, hrel⟩
    unfold loadVar
    simp only [Sem.run_bind, agg_of hT hn, Result.andThen_ok, hg, if_true, run_sizeOf_of hT hn]
    rw [run_loadCells w _ _ f (fun j hj => by rw [addr_add]; exact hlt (by omega))]
    rfl
  | false =>
    obtain ⟨h0, hrel⟩ := hp.2 hg
    refine ⟨_, ?_, hrel⟩
    unfold loadVar
    simp only [Sem.run_bind, agg_of hT hn, Result.andThen_ok, hg, Bool.false_eq_true, if_false]
    have := hlt h0
    simp only [Nat.add_zero] at this
    simp [this]

section ops
variable {P : Program} {T : Tab} {dst : Option Tmp} {type : TypeId} {pos : String} {after : Array Edge} {guard : Option (Nat × Bool)}
variable {vals : Operand → AV} {hp : List Blk}

theorem RelV.ptr_inv {w : World} {X : Nat → Nat → Prop} {loc : List Loc} {i o : Nat} {v : Value} (h : RelV w X loc (.ptr i o) v) :
    ∃ b, loc[i]? = some (.blk b) ∧ v = .pointer (some ⟨b, o, none⟩) := by
  cases h with
  | ptr i b o h => exact ⟨b, h, rfl⟩

theorem RelV.eptr_inv {w : World} {X : Nat → Nat → Prop} {loc : List Loc} {cs : List AV} {v : Value} (h : RelV w X loc (.eptr cs) v) :
    ∃ (b o : Nat) (cv : Nat → Value), v = .pointer (some ⟨b, o, none⟩) ∧ (∀ (i : Nat) c, cs[i]? = some c → w.cell? ⟨b, o+i, Option.none⟩ = some (cv i) ∧ ¬ X b (o+i)) ∧ (∀ (i : Nat) c, cs[i]? = some c → RelV w X loc c (cv i)) := by
  cases h with
  | eptr cs b o cv h r => exact ⟨b, o, cv, rfl, h, r⟩

theorem ok_load_ptr (hT : TabOK P T) (t : TypeId) (x : Operand) {b off : Nat} {cs : List AV} {ro : Bool} {v : AV} (fp : List Nat) (hx : vals x = .ptr b off) (hb : hp[b]? = some (.box cs ro)) (hm : b ∈ fp)
    (hv : loadT (T.tyOf t) (cs.drop off) = some v) : OpOK P T ⟨dst, .load t x, type, pos, after, guard⟩ vals hp fp v [] :=
  opOK_value fun C σ a w loc hr hvals hf => by
    have h1 := hvals x (by simp [Op.operands]); rw [hx] at h1
    obtain ⟨cb, hl, h1⟩ := h1.ptr_inv
    have hb' : σ.hp[b]? = some (.box cs ro) := (hf b hm).trans hb
    obtain ⟨cb', c, ty, hl', hc, hn, hrel, _⟩ := hr.box_loc hb'
    rw [hl] at hl'; cases hl'
    obtain ⟨x', hx', hrx⟩ := load_src (P := P) hT (t := t) (w := w) (X := C.X σ.hp loc) (loc := loc) (cs := cs.drop off) (f := fun j => c.getD (off + j) Go.undef) (b := cb) (o := off)
      (fun j d hj => by
        rw [List.getElem?_drop] at hj
        have : off + j < c.size := by
          rw [hn]
          rcases Nat.lt_or_ge (off + j) cs.length with h' | h'
          · exact h'
          · simp [List.getElem?_eq_none h'] at hj
        simp [World.cell?, hc, this, Array.getD_eq_getD_getElem?])
      (fun j d hj => by rw [List.getElem?_drop] at hj; exact hrel _ _ hj) hv
    exact ⟨x', by simp [execOp, h1, Instr.loadAt, Instr.sureAddr, hx'], hrx⟩

theorem ok_load_eptr (hT : TabOK P T) (t : TypeId) (x : Operand) {cs : List AV} {v : AV} (fp : List Nat) (hx : vals x = .eptr cs)
    (hv : loadT (T.tyOf t) cs = some v) : OpOK P T ⟨dst, .load t x, type, pos, after, guard⟩ vals hp fp v [] :=
  opOK_value fun C σ a w loc hr hvals hf => by
    have h1 := hvals x (by simp [Op.operands]); rw [hx] at h1
    obtain ⟨b, o, cv, h1, hc, hrel⟩ := h1.eptr_inv
    obtain ⟨x', hx', hrx⟩ := load_src (P := P) hT (t := t) (w := w) (X := C.X σ.hp loc) (loc := loc) (cs := cs) (f := cv) (b := b) (o := o)
      (fun j d hj => (hc j d hj).1) hrel hv
    exact ⟨x', by simp [execOp, h1, Instr.loadAt, Instr.sureAddr, hx'], hrx⟩

/-- A new box. -/
theorem opOK_newBox {o : Oper} {s : Nat} {cs : List AV} (hs : hp[s]? = some .dead) (hm : T.m ≤ s)
    (h : ∀ (C : Ctx) (σ : St) (a : Act) (w : World) (loc : List Loc), RelSt C σ a w loc → (∀ x ∈ o.op.operands, RelV w (C.X σ.hp loc) loc (vals x) (a.eval x)) →
      ∃ c ty, (execOp a.eval o).run P w = .ok (.value (.pointer (some ⟨w.heap.size, 0, none⟩))) (w.alloc (.cells c ty)) ∧ c.size = cs.length ∧
        ∀ (i : Nat) x, cs[i]? = some x → RelV w (C.X σ.hp loc) loc x (c.getD i Go.undef)) :
    OpOK P T o vals hp [s] (.ptr s 0) [(s, .box cs false)] := by
  intro C σ a w loc hC hr hv hf fr mm K Q hK
  obtain ⟨c, ty, h1, h2, h3⟩ := h C σ a w loc hr (fun x hx => hv x hx ▸ hr.eval x)
  have hs' : σ.hp[s]? = some .dead := (hf s (by simp)).trans hs
  have hnew := hr.newBox hs' (by omega) ty h2 h3
  refine wp_of_value h1 (hK _ _ _ ⟨_, rfl⟩ (hnew.put (v := .ptr s 0) (.ptr _ _ _ ?_) o.dst))
  have : s < loc.length := by
    rw [hr.llen]
    rcases Nat.lt_or_ge s σ.hp.length with h' | h'
    · exact h'
    · simp [List.getElem?_eq_none h'] at hs'
  simp [this]

theorem zero_of (hT : TabOK P T) {t : TypeId} {cs : List AV} (h : cellsOf (T.tyOf t).zero = some cs) : ∃ z, (∀ w : World, (zeroValue t).run P w = .ok z w) ∧ z.cells.size = cs.length ∧
    ∀ (w : World) (X : Nat → Nat → Prop) (loc : List Loc) (i : Nat) x, cs[i]? = some x → RelV w X loc x (z.cells.getD i Go.undef) := by
  have hn : T.tyOf t ≠ .other := by intro e; rw [e] at h; cases h
  obtain ⟨i, h1, _, h3⟩ := info_of hT hn
  have hrel : ∃ z, i.zero = some z ∧ ∀ (w : World) (X : Nat → Nat → Prop) (loc : List Loc), RelV w X loc (T.tyOf t).zero z := by
    unfold zeroB at h3
    split at h3
    · rename_i c as hz ha
      refine ⟨_, hz, fun w X loc => ?_⟩
      rw [ha]
      have := sameL_rel (w := w) (X := X) (loc := loc) h3
      exact .agg _ _ (by simpa using this.1) fun j c hj => by simpa [Array.getD_eq_getD_getElem?, List.getD] using this.2 j c hj
    · rename_i v hz _
      exact ⟨v, hz, fun w X loc => sameB_rel h3⟩
    · cases h3
  obtain ⟨z, hz, hrel⟩ := hrel
  refine ⟨z, fun w => by simp [zeroValue, typeInfo, h1, hz], ?_, fun w X loc => (cells_rel h (hrel w X loc)).2⟩
  exact (cells_rel h (hrel default (fun _ _ => False) [])).1.symm

theorem ok_alloc (hT : TabOK P T) (t : TypeId) {s : Nat} {cs : List AV} (hs : hp[s]? = some .dead) (hm : T.m ≤ s) (hz : cellsOf (T.tyOf t).zero = some cs) :
    OpOK P T ⟨dst, .alloc t, type, pos, after, guard⟩ vals hp [s] (.ptr s 0) [(s, .box cs false)] :=
  opOK_newBox hs hm fun C σ a w loc hr _ => by
    obtain ⟨z, h1, h2, h3⟩ := zero_of hT hz
    exact ⟨z.cells, t, by simp [execOp, Instr.alloc, h1, newVar, newRow], h2, h3 _ _ _⟩

theorem ok_box (t : TypeId) (x : Operand) {s : Nat} {cs : List AV} (hs : hp[s]? = some .dead) (hm : T.m ≤ s) (hx : cellsOf (vals x) = some cs) :
    OpOK P T ⟨dst, .box t x, type, pos, after, guard⟩ vals hp [s] (.ptr s 0) [(s, .box cs false)] :=
  opOK_newBox hs hm fun C σ a w loc hr hv => by
    have h1 := cells_rel hx (hv x (by simp [Op.operands]))
    exact ⟨(a.eval x).cells, t, by simp [execOp, Instr.box, newVar, newRow], h1.1.symm, h1.2⟩

theorem setCells_heap (b : Nat) {ty : TypeId} {fr : Nat × Nat} : ∀ (vs : List Value) (o : Nat) (w : World) (c : Array Value), w.heap[b]? = some (.cells c ty fr) → o + vs.length ≤ c.size →
    ∃ c', (w.setCells b o vs).heap[b]? = some (.cells c' ty fr) ∧ c'.size = c.size ∧ (∀ (i : Nat), c'[i]? = if o ≤ i ∧ i < o + vs.length then vs[i - o]? else c[i]?) ∧
      (w.setCells b o vs).heap.size = w.heap.size ∧ (w.setCells b o vs).os = w.os ∧ (w.setCells b o vs).tape = w.tape ∧ (w.setCells b o vs).output = w.output ∧
      ∀ k, k ≠ b → (w.setCells b o vs).heap[k]? = w.heap[k]?
  | [], o, w, c, h, _ => ⟨c, h, rfl, fun i => by rw [if_neg]; simp, rfl, rfl, rfl, rfl, fun _ _ => rfl⟩
  | v :: vs, o, w, c, h, hle => by
    have h1 : (w.setCell ⟨b, o, none⟩ v).heap[b]? = some (.cells (c.setIfInBounds o v) ty fr) := by
      simp [World.setCell, Array.getElem?_modify, h]
    obtain ⟨c', g1, g2, g3, g4, g5, g6, g7, g8⟩ := setCells_heap b vs (o + 1) (w.setCell ⟨b, o, none⟩ v) _ h1 (by simp at hle ⊢; omega)
    refine ⟨c', g1, by simpa using g2, fun i => ?_, g4.trans (World.size_setCell _ _ _), g5, g6, g7, fun k hk => (g8 k hk).trans (Below.heap_setCell w ⟨b, o, none⟩ v k hk)⟩
    rw [g3 i]
    simp only [List.length_cons] at hle ⊢
    by_cases hi : o + 1 ≤ i ∧ i < o + 1 + vs.length
    · rw [if_pos hi, if_pos (by omega), show i - o = (i - (o + 1)) + 1 by omega, List.getElem?_cons_succ]
    · rw [if_neg hi]
      by_cases he : i = o
      · subst he
        rw [if_pos (by omega)]
        have : i < c.size := by omega
        simp [this]
      · rw [if_neg (by omega), Array.getElem?_setIfInBounds_ne (by omega)]

theorem storable_oneCell {w : World} {X : Nat → Nat → Prop} {loc : List Loc} {av : AV} {v : Value} (h : RelV w X loc av v) (hs : storable av = true) : v.oneCell' = true := by
  cases h <;> first | rfl | (simp [storable] at hs)

theorem ok_store (hT : TabOK P T) (t : TypeId) (x y : Operand) {b off : Nat} {cs xs : List AV} (fp : List Nat) (hk : T.known t = true) (hx : vals x = .ptr b off) (hy : cellsOf (vals y) = some xs)
    (hb : hp[b]? = some (.box cs false)) (hm : b ∈ fp) (hn : xs.length = (T.tyOf t).size) (hle : off + xs.length ≤ cs.length) (hst : xs.all storable = true) :
    OpOK P T ⟨dst, .store t x y, type, pos, after, guard⟩ vals hp fp (.tuple []) [(b, .box (splice cs off xs) false)] := by
  intro C σ a w loc hC hr hv hf fr mm K Q hK
  have h1 := hr.eval x; rw [hv x (by simp [Op.operands]), hx] at h1
  obtain ⟨cb, hl, h1⟩ := h1.ptr_inv
  have h2 := hr.eval y; rw [hv y (by simp [Op.operands])] at h2
  obtain ⟨g1, g2⟩ := cells_rel hy h2
  have hb' : σ.hp[b]? = some (.box cs false) := (hf b hm).trans hb
  obtain ⟨cb', c, ty, hl', hc, hcn, hrel, _⟩ := hr.box_loc hb'
  rw [hl] at hl'; cases hl'
  have hlen : (a.eval y).cells.toList.length = xs.length := by rw [g1]; simp
  obtain ⟨c', k1, k2, k3, k4, k5, k6, k7, k8⟩ := setCells_heap cb (a.eval y).cells.toList off w c hc (by omega)
  have hrun : (storeCells ⟨cb, off, none⟩ (a.eval y).cells.toList).run P w = .ok () (w.setCells cb off (a.eval y).cells.toList) := by
    refine run_storeCells_cells cb off _ 0 w (fun j hj => ?_) (fun j hj => ?_) (fun v hv => ?_)
    · have : off + j < c.size := by omega
      simp [World.cell?, hc, this]
    · simp [World.frozen?, hc]
    · obtain ⟨i, hi, rfl⟩ := List.getElem_of_mem hv
      have hix : i < xs.length := by omega
      have := g2 i xs[i] (by simp [hix])
      have hs : storable xs[i] = true := List.all_eq_true.1 hst _ (List.getElem_mem hix)
      have h3 := storable_oneCell this hs
      have hlt : i < (a.eval y).cells.size := by simpa using hi
      simpa [Array.getD_eq_getD_getElem?, hlt] using h3
  have hsz : (sizeOf t).run P w = .ok (T.tyOf t).size w := run_sizeOf_of hT (Tab.known_ne hk) w
  refine wp_of_skip (w' := w.setCells cb off (a.eval y).cells.toList) ?_ (hK _ _ loc ⟨_, rfl⟩ ?_)
  · simp only [execOp, h1, Instr.storeAt, Instr.sureAddr, storeVar, Sem.run_bind, Sem.run_pure, Result.andThen_ok, hsz]
    rw [if_neg (by omega)]
    simp [hrun]
  · have hnew := hr.writeBox (cs' := splice cs off xs) hb' hl hc k1 k2 (by simp [splice]; omega) (fun j z hj => ?_) k5 k6 k7 k4 k8
    · exact hnew.put (v := .tuple []) (.tuple _ _ rfl fun i c h => by simp at h) dst
    · have hjlt : j < cs.length := by
        rcases Nat.lt_or_ge j (splice cs off xs).length with h' | h'
        · simp [splice] at h'; omega
        · simp [List.getElem?_eq_none h'] at hj
      have hc'j : c'.getD j Go.undef = if off ≤ j ∧ j < off + xs.length then (a.eval y).cells.getD (j - off) Go.undef else c.getD j Go.undef := by
        simp only [Array.getD_eq_getD_getElem?]
        rw [k3 j, hlen]
        split
        · simp
        · rfl
      rw [hc'j]
      unfold splice at hj
      by_cases hin : off ≤ j ∧ j < off + xs.length
      · rw [if_pos hin]
        rw [List.getElem?_append_right (by simp; omega)] at hj
        rw [List.getElem?_append_left (by simp; omega)] at hj
        refine g2 _ _ ?_
        rw [← hj]; congr 1
        simp; omega
      · rw [if_neg hin]
        by_cases hlo : j < off
        · rw [List.getElem?_append_left (by simp; omega), List.getElem?_take_of_lt hlo] at hj
          exact hrel j z hj
        · rw [List.getElem?_append_right (by simp; omega), List.getElem?_append_right (by simp; omega), List.getElem?_drop] at hj
          refine hrel j z ?_
          rw [← hj]; congr 1
          simp; omega

end ops
end Go.Ull
