/- Slices that are made, and arrays out of slices. -/
import Derived.Test.YtmgdofgmidbddaaFrQ
namespace Go.Ull
open Go.RowKit

section ops
variable {P : Program} {T : Tab} {dst : Option Tmp} {type : TypeId} {pos : String} {after : Array Edge} {guard : Option (Nat × Bool)}
variable {vals : Operand → AV} {hp : List Blk}

theorem flat_rel {w : World} {X : Nat → Nat → Prop} {loc : List Loc} {z : Array Value} {zs : List AV} (hz : sameL z.toList zs = true) (hpos : 0 < zs.length) (n : Nat) :
    ((Array.range (n * zs.length)).map fun i => z[i % z.size]!).size = (List.replicate n zs).flatten.length ∧
    ∀ (i : Nat) x, (List.replicate n zs).flatten[i]? = some x → RelV w X loc x (((Array.range (n * zs.length)).map fun i => z[i % z.size]!).getD i Go.undef) := by
  have h1 := sameL_rel (w := w) (X := X) (loc := loc) hz
  have hsz : z.size = zs.length := by rw [h1.1]; simp
  have hget : ∀ (n i : Nat) x, (List.replicate n zs).flatten[i]? = some x → i < n * zs.length ∧ zs[i % zs.length]? = some x := fun n => by
    induction n with
    | zero => intro i x h; simp at h
    | succ n ih =>
      intro i x h
      rw [List.replicate_succ, List.flatten_cons, List.getElem?_append] at h
      split at h
      · rename_i hlt
        refine ⟨by rw [Nat.add_mul]; omega, ?_⟩
        rw [Nat.mod_eq_of_lt hlt]; exact h
      · rename_i hlt
        obtain ⟨h2, h3⟩ := ih _ _ h
        refine ⟨by rw [Nat.add_mul]; omega, ?_⟩
        rw [← Nat.mod_eq_sub_mod (by omega)] at h3; exact h3
  refine ⟨by simp, fun i x hi => ?_⟩
  obtain ⟨h2, h3⟩ := hget n i x hi
  have h4 := h1.2 _ x h3
  have h5 : i % zs.length < z.size := by rw [hsz]; exact Nat.mod_lt _ hpos
  have h6 : (((Array.range (n * zs.length)).map fun i => z[i % z.size]!).getD i Go.undef) = z.toList.getD (i % zs.length) Go.undef := by
    rw [Array.getD_eq_getD_getElem?, Array.getElem?_map, Array.getElem?_range]
    rw [if_pos h2]
    have : z[i % zs.length]? = some (z[i % zs.length]'h5) := by simp [h5]
    simp only [Option.map_some, Option.getD_some, hsz, getElem!_def, this]
    simp [List.getD, h5]
  rw [h6]; exact h4

theorem zeroE_length (e : ElT) : (zeroE e).length = sz e := by cases e <;> rfl

theorem run_makeSlice (hT : TabOK P T) {t : TypeId} {e : ElT} (ht : T.tyOf t = .slice e) {n : Nat} (hn0 : n ≠ 0) (hn : n ≤ 65536) (w : World) :
    ∃ (el : TypeId) (c : Array Value), (Instr.makeSlice t (.int .i64 n) (.int .i64 n)).run P w = .ok (.slice (some ⟨w.heap.size, 0, none⟩) n n) (w.alloc (.cells c el)) ∧ c.size = (List.replicate n (zeroE e)).flatten.length ∧
      ∀ (X : Nat → Nat → Prop) (loc : List Loc) (i : Nat) x, (List.replicate n (zeroE e)).flatten[i]? = some x → RelV w X loc x (c.getD i Go.undef) := by
  obtain ⟨el, h1, h2, h3, h4, h5, i, z, g1, g2, g3, g4, g5, g6⟩ := slice_zero hT ht
  refine ⟨el, (Array.range (n * sz e)).map fun i => z.cells[i % z.cells.size]!, ?_, ?_, fun X loc => ?_⟩
  · have hw : IntKind.i64.wrap (n : Int) = n := by rw [IntKind.wrap_i64]; omega
    have hb1 : decide ((i.bytes : Int) * n > 2 ^ 48) = false := by
      refine decide_eq_false ?_
      have : i.bytes * n ≤ 1024 * 65536 := Nat.mul_le_mul g4 hn
      have h2 : ((i.bytes * n : Nat) : Int) ≤ ((1024 * 65536 : Nat) : Int) := Int.ofNat_le.2 this
      rw [Int.natCast_mul] at h2
      omega
    have hb2 : decide ((n : Int) < 0) = false := decide_eq_false (by omega)
    have hb3 : decide ((n : Int) > n) = false := decide_eq_false (by omega)
    have hz : ∀ w, (zeroValue el).run P w = .ok z w := fun w => by simp [zeroValue, typeInfo, g1, g2]
    have h0 : n * sz e ≠ 0 := by
      intro h
      rcases Nat.mul_eq_zero.1 h with h | h
      · exact hn0 h
      · have := sz_pos e; omega
    have e1 : ∀ w' : World, (asInt (.int .i64 (n : Int))).run P w' = .ok (n : Int) w' := fun w' => rfl
    unfold Instr.makeSlice
    simp only [Sem.run_bind, run_underlying h1, e1, run_typeInfo_of g1, Result.andThen_ok, hw, hb1, hb2, hb3, Bool.or_false, Bool.false_eq_true, if_false]
    simp only [Sem.run_bind, run_askRoom, Result.andThen_ok, run_sizeOf_cells h4, h2, Int.toNat_natCast, if_neg h0, hz, Sem.run_pure]
    simp [newRow]
  · have := (flat_rel (w := w) (X := fun _ _ => False) (loc := []) g6 (by rw [zeroE_length]; exact sz_pos e) n).1
    rwa [zeroE_length] at this
  · have := (flat_rel (w := w) (X := X) (loc := loc) g6 (by rw [zeroE_length]; exact sz_pos e) n).2
    rwa [zeroE_length] at this

theorem RelV.bsl_inv {w : World} {X : Nat → Nat → Prop} {loc : List Loc} {i n : Nat} {t : ElT} {v : Value} (h : RelV w X loc (.bsl i n t) v) : ∃ b, loc[i]? = some (.blk b) ∧ v = .slice (some ⟨b, 0, none⟩) n n := by
  cases h with
  | bsl i n b t h => exact ⟨b, h, rfl⟩

/-- A box that is written no more, as a list. -/
theorem RelSt.frozen {C : Ctx} {σ : St} {a : Act} {w : World} {loc : List Loc} (hr : RelSt C σ a w loc) {b k n : Nat} {cs : List AV} {e : ElT} {xs : List (El e)} (hb : σ.hp[b]? = some (.box cs true)) (hl : loc[b]? = some (.blk k))
    (hlen : cs.length = n * sz e) (hd : decAll e (chunk n (sz e) cs) = some xs) : RelV w (C.X σ.hp loc) loc (.lst e xs) (.slice (some ⟨k, 0, none⟩) n n) := by
  obtain ⟨k', c, ty, hl', hc, hn, hrel, hro⟩ := hr.box_loc hb
  rw [hl] at hl'; cases hl'
  have hxl : xs.length = n := by
    rw [decAll_length hd]
    exact chunk_length (sz_pos e) hlen (Nat.le_refl _)
  have := lst_of_cells (w := w) (X := C.X σ.hp loc) (loc := loc) (t := e) (xs := xs) (base := some ⟨k, 0, none⟩) (cap := n) (b := k) (o := 0) (fun j => c.getD j Go.undef) (by omega) (fun _ => rfl) (fun j hj => by
      rw [hxl] at hj
      have hjs : j < c.size := by omega
      exact ⟨by simp [World.cell?, hc, hjs, Array.getD_eq_getD_getElem?], by rw [Nat.zero_add]; exact hro rfl _ (by omega)⟩)
    (decAll_rel hd _ fun j d hj => hrel j d hj)
  rw [hxl] at this
  exact this

theorem ok_makeSlice (hT : TabOK P T) (t : TypeId) (x y : Operand) {e : ElT} (ht : T.tyOf t = .slice e) {n s : Nat} (hn0 : n ≠ 0) (hn : n ≤ 65536) (hs : hp[s]? = some .dead) (hm : T.m ≤ s) (hx : vals x = .int .i64 (n : Int)) (hy : vals y = .int .i64 (n : Int)) :
    OpOK P T ⟨dst, .makeSlice t x y, type, pos, after, guard⟩ vals hp [s] (.bsl s n e) [(s, .box (List.replicate n (zeroE e)).flatten false)] ∧
    ∀ xs, decAll e (chunk n (sz e) (List.replicate n (zeroE e)).flatten) = some xs →
      OpOK P T ⟨dst, .makeSlice t x y, type, pos, after, guard⟩ vals hp [s] (.lst e xs) [(s, .box (List.replicate n (zeroE e)).flatten true)] := by
  have base : ∀ (C : Ctx) (σ : St) (a : Act) (w : World) (loc : List Loc), C.m = T.m → RelSt C σ a w loc → (∀ z ∈ (Op.makeSlice t x y).operands, σ.eval z = vals z) → (∀ i ∈ [s], σ.hp[i]? = hp[i]?) →
      ∃ w', (execOp a.eval ⟨dst, .makeSlice t x y, type, pos, after, guard⟩).run P w = .ok (.value (.slice (some ⟨w.heap.size, 0, none⟩) n n)) w' ∧ (loc.set s (.blk w.heap.size))[s]? = some (.blk w.heap.size) ∧ s < σ.hp.length ∧
        RelSt C { σ with hp := σ.hp.set s (.box (List.replicate n (zeroE e)).flatten false) } a w' (loc.set s (.blk w.heap.size)) := fun C σ a w loc hC hr hv hf => by
    have g1 := hr.eval x; rw [hv x (by simp [Op.operands]), hx] at g1
    have g2 := hr.eval y; rw [hv y (by simp [Op.operands]), hy] at g2
    obtain ⟨el, c, h1, h2, h3⟩ := run_makeSlice hT ht hn0 hn w
    have hs' : σ.hp[s]? = some .dead := (hf s (by simp)).trans hs
    have hslt := lt_of_getElem? hs'
    refine ⟨_, ?_, by rw [List.getElem?_set_self (by rw [hr.llen]; exact hslt)], hslt, hr.newBox hs' (by omega) el h2 (h3 _ _)⟩
    simp only [execOp, g1.int_inv, g2.int_inv, Sem.run_bind, h1, Result.andThen_ok, Sem.run_pure]
  refine ⟨fun C σ a w loc hC hr hv hf fr mm K Q hK => ?_, fun xs hd C σ a w loc hC hr hv hf fr mm K Q hK => ?_⟩
  · obtain ⟨w', h1, h2, _, h3⟩ := base C σ a w loc hC hr hv hf
    exact wp_of_value h1 (hK _ _ _ ⟨_, rfl⟩ (h3.put (v := .bsl s n e) (.bsl s n _ e h2) dst))
  · obtain ⟨w', h1, h2, hslt, h3⟩ := base C σ a w loc hC hr hv hf
    have h4 := h3.freeze (i := s) (cs := (List.replicate n (zeroE e)).flatten) (r := false) (by show (σ.hp.set s _)[s]? = _; rw [List.getElem?_set_self hslt]) (by omega)
    have h5 : RelSt C { σ with hp := σ.hp.set s (.box (List.replicate n (zeroE e)).flatten true) } a w' (loc.set s (.blk w.heap.size)) := by
      have : ({ ({ σ with hp := σ.hp.set s (.box (List.replicate n (zeroE e)).flatten false) } : St) with hp := (σ.hp.set s (.box (List.replicate n (zeroE e)).flatten false)).set s (.box (List.replicate n (zeroE e)).flatten true) } : St) = { σ with hp := σ.hp.set s (.box (List.replicate n (zeroE e)).flatten true) } := by
        rw [List.set_set]
      rw [← this]; exact h4
    have h6 := h5.frozen (b := s) (k := w.heap.size) (n := n) (e := e) (xs := xs) (by show (σ.hp.set s _)[s]? = _; rw [List.getElem?_set_self hslt]) h2 (by simp [zeroE_length]) hd
    exact wp_of_value h1 (hK _ _ _ ⟨_, rfl⟩ (h5.put h6 dst))

theorem ok_move_frz (x : Operand) {b n : Nat} {e : ElT} {cs : List AV} {r : Bool} {xs : List (El e)} (hx : vals x = .bsl b n e) (hb : hp[b]? = some (.box cs r)) (hm : T.m ≤ b) (hlen : cs.length = n * sz e) (hd : decAll e (chunk n (sz e) cs) = some xs) :
    OpOK P T ⟨dst, .move x, type, pos, after, guard⟩ vals hp [b] (.lst e xs) [(b, .box cs true)] := by
  intro C σ a w loc hC hr hv hf fr mm K Q hK
  have g1 := hr.eval x; rw [hv x (by simp [Op.operands]), hx] at g1
  obtain ⟨k, hl, g1⟩ := g1.bsl_inv
  have hb' := (hf b (by simp)).trans hb
  have h2 := hr.freeze hb' (by omega)
  have h3 := h2.frozen (b := b) (k := k) (n := n) (e := e) (xs := xs) (by show (σ.hp.set b _)[b]? = _; rw [List.getElem?_set_self (lt_of_getElem? hb')]) hl hlen hd
  refine wp_of_value (x := a.eval x) (w' := w) rfl (hK _ _ _ ⟨_, rfl⟩ (h2.put (v := .lst e xs) ?_ dst))
  rw [g1]; exact h3

theorem ok_indexAddr_bsl (hT : TabOK P T) (t : TypeId) (x y : Operand) {e : ElT} (ht : T.tyOf t = .slice e) {b n m : Nat} {k : IntKind}
    (hx : vals x = .bsl b n e) (hy : vals y = .int k (m : Int)) (hm : m < n) : OpOK P T ⟨dst, .indexAddr t x y, type, pos, after, guard⟩ vals hp [] (.ptr b (m * sz e)) [] :=
  opOK_value fun C σ a w loc hr hv _ => by
    have h1 := hv x (by simp [Op.operands]); rw [hx] at h1
    obtain ⟨kb, hl, h1⟩ := h1.bsl_inv
    have h2 := hv y (by simp [Op.operands]); rw [hy] at h2
    obtain ⟨el, g1, g2, g3, g4, g5, _⟩ := slice_of hT ht
    refine ⟨.pointer (some ⟨kb, m * sz e, none⟩), ?_, .ptr _ _ _ hl⟩
    simp only [execOp, h1, h2.int_inv, Instr.indexAt, asIntOf, Sem.run_bind, run_underlying g1, Result.andThen_ok, Sem.run_pure]
    rw [if_pos (by omega)]
    simp [run_sizeOf_cells g4, g2, addr_add]

theorem flat_enc {e : ElT} : ∀ {xs : List (El e)} {i : Nat} {c : AV}, (xs.map (enc e)).flatten[i]? = some c → ∃ x, xs[i / sz e]? = some x ∧ (enc e x)[i % sz e]? = some c
  | [], i, c, h => by simp at h
  | x :: xs, i, c, h => by
    rw [List.map_cons, List.flatten_cons, List.getElem?_append, enc_length] at h
    split at h
    · rename_i hlt
      exact ⟨x, by rw [Nat.div_eq_of_lt hlt]; rfl, by rw [Nat.mod_eq_of_lt hlt]; exact h⟩
    · rename_i hlt
      obtain ⟨y, h1, h2⟩ := flat_enc (xs := xs) h
      have hp := sz_pos e
      refine ⟨y, ?_, by rw [Nat.mod_eq_sub_mod (by omega)]; exact h2⟩
      rw [Nat.div_eq_sub_div hp (by omega)]
      simpa using h1

theorem ok_s2a (hT : TabOK P T) (t : TypeId) (x : Operand) {n s : Nat} {g : Bool} {e : ElT} {z : List AV} (ht : T.tyOf t = .arr n s g (some e) z) {xs : List (El e)} (hx : vals x = .lst e xs) (hn : n ≤ xs.length) (hn0 : n ≠ 0) :
    OpOK P T ⟨dst, .sliceToArrayPointer t x, type, pos, after, guard⟩ vals hp [] (.eptr ((xs.take n).map (enc e)).flatten) [] :=
  opOK_value fun C σ a w loc hr hv _ => by
    have h1 := hv x (by simp [Op.operands]); rw [hx] at h1
    obtain ⟨base, cap, b, o, cv, h1, hcap, hb, hc, hrel⟩ := h1.lst_inv
    have hb := hb (by omega)
    subst hb
    obtain ⟨el, k1, _⟩ := arr_of hT ht
    have key : ∀ {i : Nat} {c : AV}, ((xs.take n).map (enc e)).flatten[i]? = some c → ∃ y, xs[i / sz e]? = some y ∧ (enc e y)[i % sz e]? = some c := fun {i c} h => by
      obtain ⟨y, h1, h2⟩ := flat_enc h
      rw [List.getElem?_take] at h1
      split at h1
      · exact ⟨y, h1, h2⟩
      · cases h1
    refine ⟨.pointer (some ⟨b, o, none⟩), ?_, .eptr _ _ _ (fun i => cv (i / sz e) (i % sz e)) (fun i c hi => ?_) (fun i c hi => ?_)⟩
    · simp only [execOp, h1, Instr.arrayAt, Sem.run_bind, run_underlying k1, Result.andThen_ok]
      rw [if_neg (by omega)]
      rfl
    · obtain ⟨y, h2, h3⟩ := key hi
      have := hc _ _ _ _ h2 h3
      rwa [show o + i / sz e * sz e + i % sz e = o + i by have := Nat.div_add_mod' i (sz e); omega] at this
    · obtain ⟨y, h2, h3⟩ := key hi
      exact hrel _ _ _ _ h2 h3

end ops
end Go.Ull
