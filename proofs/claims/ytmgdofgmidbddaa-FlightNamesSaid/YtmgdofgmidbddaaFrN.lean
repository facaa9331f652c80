/- append on growable slices. -/
import Derived.Test.YtmgdofgmidbddaaFrM
namespace Go.Ull
open Go.RowKit

theorem enc_storable {t : ElT} {x : El t} {j : Nat} {c : AV} (h : (enc t x)[j]? = some c) : storable c = true := by
  have key : (enc t x).all storable = true := by cases t <;> rfl
  exact List.all_eq_true.1 key c (List.mem_of_getElem? h)

/-- The cells of a list. -/
theorem lst_cells {w : World} {X : Nat → Nat → Prop} {loc : List Loc} {t : ElT} {ys : List (El t)} {v : Value} (h : RelV w X loc (.lst t ys) v) :
    ∃ (base : Option Addr) (cap b o : Nat) (f : Nat → Value), v = .slice base ys.length cap ∧ (0 < ys.length → base = some ⟨b, o, none⟩) ∧ (∀ j, j < ys.length * sz t → w.cell? ⟨b, o + j, none⟩ = some (f j) ∧ (f j).oneCell' = true) ∧
      ∀ (i : Nat) x (m : Nat) y, ys[i]? = some x → (enc t x)[m]? = some y → RelV w X loc y (f (i * sz t + m)) := by
  obtain ⟨base, cap, b, o, cv, rfl, hcap, hb, hc, hr⟩ := h.lst_inv
  have hpos := sz_pos t
  have hmod : ∀ (i m : Nat), m < sz t → (i * sz t + m) / sz t = i ∧ (i * sz t + m) % sz t = m := fun i m hm => by
    constructor
    · rw [Nat.add_comm, Nat.add_mul_div_right _ _ hpos, Nat.div_eq_of_lt hm]; omega
    · rw [Nat.add_comm, Nat.add_mul_mod_self_right, Nat.mod_eq_of_lt hm]
  refine ⟨base, cap, b, o, fun j => cv (j / sz t) (j % sz t), rfl, hb, fun j hj => ?_, fun i x m y hi hm => ?_⟩
  · have hi : j / sz t < ys.length := by rw [Nat.div_lt_iff_lt_mul hpos]; exact hj
    have hm : j % sz t < sz t := Nat.mod_lt _ hpos
    have hx : ys[j / sz t]? = some ys[j / sz t] := by simp [hi]
    have hy : (enc t ys[j / sz t])[j % sz t]? = some ((enc t ys[j / sz t])[j % sz t]'(by rw [enc_length]; exact hm)) := by simp [enc_length, hm]
    have h1 := (hc _ _ _ _ hx hy).1
    have h2 := hr _ _ _ _ hx hy
    have hj2 : o + j / sz t * sz t + j % sz t = o + j := by
      have := Nat.div_add_mod j (sz t)
      rw [Nat.mul_comm] at this
      omega
    rw [hj2] at h1
    exact ⟨h1, storable_oneCell h2 (enc_storable hy)⟩
  · have hm' : m < sz t := by have := lt_of_getElem? hm; rwa [enc_length] at this
    simp only [(hmod i m hm').1, (hmod i m hm').2]
    exact hr i x m y hi hm

theorem append_get {α : Type} {xs ys : List α} {i : Nat} {x : α} (h : (xs ++ ys)[i]? = some x) : xs[i]? = some x ∨ (xs.length ≤ i ∧ ys[i - xs.length]? = some x) := by
  rw [List.getElem?_append] at h
  split at h
  · exact .inl h
  · exact .inr ⟨by omega, h⟩

section ops
variable {P : Program} {T : Tab} {dst : Option Tmp} {type : TypeId} {pos : String} {after : Array Edge} {guard : Option (Nat × Bool)}
variable {vals : Operand → AV} {hp : List Blk}

/-- Nil, laid into a growable variable. -/
theorem ok_newVec {s : Nat} (t : ElT) (hs : hp[s]? = some .dead) (hm : T.m ≤ s) :
    OpOK P T ⟨dst, .assign (.const (.slice none 0 0)), type, pos, after, guard⟩ vals hp [s] (.gro s 0) [(s, .vec 0 t [])] := by
  intro C σ a w loc hC hr hv hf fr mm K Q hK
  have hs' : σ.hp[s]? = some .dead := (hf s (by simp)).trans hs
  have hslt := lt_of_getElem? hs'
  have hls : loc[s]? = some .none := by
    obtain ⟨l, hl⟩ := hr.loc_of hs'
    have := hr.hp s _ l hs' hl
    rw [hl, show l = .none from this]
  have hsl := lt_of_getElem? hls
  have hauth : ∀ b o, auth (σ.hp.set s (.vec 0 t [])) (loc.set s (.vc 0 none 0 0)) b o → auth σ.hp loc b o := fun b o ha => by
    rcases auth_set_dead ha with hz | hz
    · exact hz.elim
    · exact hz
  have hX : ∀ b o, C.X (σ.hp.set s (.vec 0 t [])) (loc.set s (.vc 0 none 0 0)) b o → C.X σ.hp loc b o := fun b o hx => hx.imp id (hauth b o)
  have hc : ∀ b o v, w.cell? ⟨b, o, none⟩ = some v → ¬ C.X σ.hp loc b o → w.cell? ⟨b, o, none⟩ = some v ∧ ¬ C.X (σ.hp.set s (.vec 0 t [])) (loc.set s (.vc 0 none 0 0)) b o := fun b o v h1 h2 => ⟨h1, fun hx => h2 (hX b o hx)⟩
  have hl : ∀ (i : Nat) l, loc[i]? = some l → l ≠ .none → (loc.set s (.vc 0 none 0 0))[i]? = some l := fun i l hi hn => by
    by_cases his : s = i
    · subst his; rw [hls] at hi; cases hi; exact (hn rfl).elim
    · rw [List.getElem?_set_ne his]; exact hi
  have hnew : RelSt C { σ with hp := σ.hp.set s (.vec 0 t []) } a w (loc.set s (.vc 0 none 0 0)) := by
    refine ⟨by simp [hr.llen], by simp [hr.mle], fun i ds hi hd => ?_, fun i l b hi hl' hb => ?_, fun i l b hi hl' hb => ?_, hr.keep, fun b o ha hb => hr.authA b o (hauth b o ha) hb, fun i j l l' b hij hi hj hb hb' => ?_,
      fun i k l hi hl' => ?_, hr.tms, fun u v hv => (hr.tm u v hv).mono hl hc, hr.defers⟩
    · rw [List.getElem?_set_ne (by omega)]
      exact hr.bor i ds hi hd
    · rw [List.getElem?_set_ne (by omega)] at hl'; exact hr.borv i l b hi hl' hb
    · by_cases his : s = i
      · subst his; rw [List.getElem?_set_self hsl] at hl'; cases hl'; cases hb
      · rw [List.getElem?_set_ne his] at hl'; exact hr.fresh i l b hi hl' hb
    · by_cases hsi : s = i
      · subst hsi; rw [List.getElem?_set_self hsl] at hi; cases hi; cases hb
      · rw [List.getElem?_set_ne hsi] at hi
        by_cases hsj : s = j
        · subst hsj; rw [List.getElem?_set_self hsl] at hj; cases hj; cases hb'
        · rw [List.getElem?_set_ne hsj] at hj
          exact hr.dist i j l l' b hij hi hj hb hb'
    · by_cases hsi : s = i
      · subst hsi
        rw [List.getElem?_set_self hslt] at hi
        rw [List.getElem?_set_self hsl] at hl'
        cases hi; cases hl'
        exact ⟨rfl, rfl, Nat.le_refl _, fun _ => rfl, fun b' hb' => by cases hb'⟩
      · rw [List.getElem?_set_ne hsi] at hi hl'
        exact (hr.hp i k l hi hl').mono hl hc fun _ _ => rfl
  exact wp_of_value (x := .slice none 0 0) rfl (hK _ _ _ ⟨_, rfl⟩ (hnew.put (v := .gro s 0) (.gro s 0 0 none 0 0 none 0 0 (by simp [hsl]) (Nat.le_refl _) (fun _ => ⟨rfl, rfl, rfl⟩)) dst))

theorem RelV.gro_inv {w : World} {X : Nat → Nat → Prop} {loc : List Loc} {i n : Nat} {v : Value} (h : RelV w X loc (.gro i n) v) :
    ∃ c b len cap s len' cap', loc[i]? = some (.vc c b len cap) ∧ v = .slice s len' cap' ∧ n ≤ c ∧ (n = c → s = b.map (fun b => ⟨b, 0, none⟩) ∧ len' = len ∧ cap' = cap) := by
  cases h with
  | gro i n c b len cap s len' cap' h hle hv => exact ⟨c, b, len, cap, s, len', cap', h, rfl, hle, hv⟩

theorem RelV.gro_now {w : World} {X : Nat → Nat → Prop} {loc : List Loc} {i n : Nat} {b : Option Nat} {len cap : Nat} (h : loc[i]? = some (.vc n b len cap)) :
    RelV w X loc (.gro i n) (.slice (b.map fun b => ⟨b, 0, none⟩) len cap) := .gro i n n b len cap _ _ _ h (Nat.le_refl _) fun _ => ⟨rfl, rfl, rfl⟩

theorem src_cells {w : World} {X : Nat → Nat → Prop} {loc : List Loc} {t : ElT} {ys : List (El t)} {s : AV} {v : Value} (hs : srcOf t s = some ys) (h : RelV w X loc s v) :
    ∃ (base : Option Addr) (cap b o : Nat) (f : Nat → Value), v = .slice base ys.length cap ∧ (0 < ys.length → base = some ⟨b, o, none⟩) ∧ (∀ j, j < ys.length * sz t → w.cell? ⟨b, o + j, none⟩ = some (f j) ∧ (f j).oneCell' = true) ∧
      ∀ (i : Nat) x (m : Nat) y, ys[i]? = some x → (enc t x)[m]? = some y → RelV w X loc y (f (i * sz t + m)) :=
  lst_cells (lstOf_rel (by rw [← srcOf_eq]; exact hs) h)

theorem drewAlloc_keep (w : World) (o : Obj) : Keep (fun _ _ => False) w (w.drew.alloc o) :=
  ⟨rfl, rfl, rfl, by simp, fun b hb => .inl (Below.heap_alloc w.drew o b hb)⟩

theorem ok_append (hT : TabOK P T) (x y : Operand) (cargs : Array TypeId) {i n : Nat} {t : ElT} {xs ys : List (El t)} (ht : T.tyOf (cargs.getD 0 0) = .slice t) (hc2 : cargs = #[cargs.getD 0 0, cargs.getD 0 0])
    (fp : List Nat) (hx : vals x = .gro i n) (hi : hp[i]? = some (.vec n t xs)) (hm : i ∈ fp) (hy : srcOf t (vals y) = some ys) (hroom : xs.length + ys.length ≤ 4294967296) :
    OpOK P T ⟨dst, .call ⟨.builtin .append, #[x, y], cargs⟩, type, pos, after, guard⟩ vals hp fp (.gro i (n + 1)) [(i, .vec (n + 1) t (xs ++ ys))] := by
  intro C σ a w loc hC hr hv hf fr mm K Q hK
  have g1 := hr.eval x; rw [hv x (by simp [Op.operands, Call.operands]), hx] at g1
  have g2 := hr.eval y; rw [hv y (by simp [Op.operands, Call.operands])] at g2
  obtain ⟨base, c2, b2, o2, f, g2, hb2, hf2, hr2⟩ := src_cells hy g2
  have hi' : σ.hp[i]? = some (.vec n t xs) := (hf i hm).trans hi
  obtain ⟨cn, bo, len, cap, s', len', cap', hl, g1, _, g11⟩ := g1.gro_inv
  obtain ⟨rfl, h1, h2, h3, h4⟩ := hr.hp i _ _ hi' hl
  obtain ⟨es, el', ec⟩ := g11 rfl
  rw [es, el', ec] at g1
  clear es el' ec g11
  obtain ⟨el, k1, k2, k3, k4, k5, info, z, k6, k7, k8, k9, k10⟩ := slice_of hT ht
  have hsize : info.size = sz t := by rw [← k2]; simp [Program.cellsOf, k6]
  generalize hty : cargs.getD 0 0 = ty at *
  have fin : ∀ (v : Value) (w' : World) (loc' : List Loc), (Builtin.append_ #[ty, ty] type #[a.eval x, a.eval y]).run P w = .ok v w' →
      RelSt C { σ with hp := σ.hp.set i (.vec (n + 1) t (xs ++ ys)) } a w' loc' →
      RelV w' (C.X (σ.hp.set i (.vec (n + 1) t (xs ++ ys))) loc') loc' (.gro i (n + 1)) v →
      Oper.wpIn (ro fr) mm P ⟨dst, .call ⟨.builtin .append, #[x, y], cargs⟩, type, pos, after, guard⟩ a w K Q := fun v w' loc' e1 e2 e3 => by
    refine wp_of_value (x := v) (w' := w') ?_ (hK _ _ loc' ⟨_, rfl⟩ (e2.put e3 dst))
    rw [run_builtin_op, hc2]
    simp only [List.map_toArray, List.map_cons, List.map_nil, builtin, Sem.run_bind, e1, Result.andThen_ok, Sem.run_pure]
  by_cases hy0 : ys = []
  · subst hy0
    have e1 : (Builtin.append_ #[ty, ty] type #[a.eval x, a.eval y]).run P w = .ok (.slice (bo.map fun b => ⟨b, 0, none⟩) len cap) w := by
      have g2' : a.eval y = .slice base 0 c2 := g2
      rw [g1, g2']
      have hfc : (Builtin.firstCells info.size 0 (.slice base 0 c2)).run P w = .ok #[] w := by
        cases base with
        | none => rfl
        | some a =>
          simp only [Builtin.firstCells, Nat.zero_mul]
          exact run_loadCells_list w a [] (fun j v h => by simp at h)
      cases bo with
      | none => simp [Builtin.append_, run_underlying k1, sizeOf, typeInfo, k6, Builtin.lenOf, h2, hfc]
      | some b => simp [Builtin.append_, run_underlying k1, sizeOf, typeInfo, k6, Builtin.lenOf, h2, hfc, storeCells]
    have hll := lt_of_getElem? hl
    refine fin _ w (loc.set i (.vc (n + 1) bo len cap)) e1 ?_ (.gro_now (List.getElem?_set_self hll))
    rw [List.append_nil]
    refine hr.revec hi' (Nat.lt_succ_self _) hl (Keep.refl _ _) (fun g hg => .inl ⟨hg, Nat.le_refl _⟩) h1 h2 h3 fun g hg => ?_
    obtain ⟨c, ty', q1, q2, q3, _⟩ := h4 g hg
    exact ⟨c, ty', q1, q2, q3⟩
  · have hypos : 0 < ys.length := by
      rcases Nat.eq_zero_or_pos ys.length with h | h
      · exact absurd (List.eq_nil_of_length_eq_zero h) hy0
      · exact h
    have hb2 := hb2 hypos
    subst hb2
    -- the new cells, as a list
    have hnews : ∀ (j : Nat) u, ((List.range (ys.length * sz t)).map f)[j]? = some u → w.cell? ((⟨b2, o2, none⟩ : Addr).add j) = some u := fun j u hj => by
      rw [List.getElem?_map] at hj
      cases hj2 : (List.range (ys.length * sz t))[j]? with
      | none => simp [hj2] at hj
      | some j' =>
        have hlt := lt_of_getElem? hj2
        simp at hlt
        rw [List.getElem?_range hlt] at hj2
        cases hj2
        simp only [List.getElem?_range hlt, Option.map_some, Option.some.injEq] at hj
        subst hj
        rw [addr_add]
        exact (hf2 j hlt).1
    have hnlen : ((List.range (ys.length * sz t)).map f).length = ys.length * info.size := by simp [hsize]
    have hn1 : ∀ u ∈ (List.range (ys.length * sz t)).map f, u.oneCell' = true := fun u hu => by
      obtain ⟨j, hj, rfl⟩ := List.mem_map.1 hu
      exact (hf2 j (by simpa using hj)).2
    have hbytes : (len + ys.length) * info.bytes ≤ 140737488355328 := by
      have : (len + ys.length) * info.bytes ≤ 4294967296 * 1024 := Nat.mul_le_mul (by omega) k9
      omega
    by_cases hfits : len + ys.length ≤ cap
    · -- in place
      cases bo with
      | none => have := h3 rfl; omega
      | some g =>
        obtain ⟨c, tyc, q1, q2, q3, q4⟩ := h4 g rfl
        have hle : len * sz t + ((List.range (ys.length * sz t)).map f).length ≤ c.size := by
          rw [hnlen, hsize, ← Nat.add_mul]
          exact Nat.le_trans (Nat.mul_le_mul_right _ hfits) q2
        obtain ⟨c', s1, s2, s3, s4, s5, s6, s7, s8⟩ := setCells_heap g ((List.range (ys.length * sz t)).map f) (len * sz t) w c q1 hle
        have hst : (storeCells ⟨g, len * sz t, none⟩ ((List.range (ys.length * sz t)).map f)).run P w = .ok () (w.setCells g (len * sz t) ((List.range (ys.length * sz t)).map f)) := by
          refine run_storeCells_cells g (len * sz t) _ 0 w (fun j hj => ?_) (fun j hj => ?_) hn1
          · have : len * sz t + j < c.size := by omega
            simp [World.cell?, q1, this]
          · simp [World.frozen?, q1]
        have hfc := run_firstCells_some (P := P) w info.size ys.length ⟨b2, o2, none⟩ ys.length c2 _ hnlen hnews
        have e1 : (Builtin.append_ #[ty, ty] type #[a.eval x, a.eval y]).run P w = .ok (.slice (some ⟨g, 0, none⟩) (len + ys.length) cap) (w.setCells g (len * sz t) ((List.range (ys.length * sz t)).map f)) := by
          rw [g1, g2]
          have hadd : (⟨g, 0, none⟩ : Addr).add (len * info.size) = ⟨g, len * sz t, none⟩ := by rw [addr_add, hsize]; simp
          simp [Builtin.append_, run_underlying k1, sizeOf, typeInfo, k6, Builtin.lenOf, hfits, hfc, hadd, hst]
        have hkeep : Keep (fun b o => zone (.vec n t xs) (.vc n (some g) len cap) b o) w (w.setCells g (len * sz t) ((List.range (ys.length * sz t)).map f)) := by
          refine ⟨s5, s6, s7, by omega, fun b hb => ?_⟩
          by_cases hbg : b = g
          · subst hbg
            refine .inr ⟨c, c', tyc, q1, s1, s2, fun o ho => ?_⟩
            rw [s3 o, if_neg]
            intro hin
            exact ho ⟨rfl, hin.1⟩
          · exact .inl (s8 b hbg)
        have hnew := hr.revec (zs := xs ++ ys) (go := some g) (len' := len + ys.length) (cap' := cap) hi' (Nat.lt_succ_self _) hl hkeep (fun g' hg' => .inl ⟨hg', by omega⟩) (by rw [List.length_append]; omega) hfits (fun e => by cases e)
          (fun g' hg' => by cases hg'; exact ⟨c', tyc, s1, by rw [s2]; exact q2, fun j u m v hj hm => by
          have hm' : m < sz t := by have := lt_of_getElem? hm; rwa [enc_length] at this
          rcases append_get hj with hj | ⟨hjl, hj⟩
          · have hjlt := lt_of_getElem? hj
            have : j * sz t + m < len * sz t := by
              have : (j + 1) * sz t ≤ len * sz t := Nat.mul_le_mul_right _ (by omega)
              rw [Nat.add_mul] at this; omega
            have hg : c'.getD (j * sz t + m) Go.undef = c.getD (j * sz t + m) Go.undef := by
              simp only [Array.getD_eq_getD_getElem?]
              rw [s3, if_neg (by omega)]
            rw [hg]
            exact q3 j u m v hj hm
          · have hjlt := lt_of_getElem? hj
            have hsub : (j - xs.length) * sz t + xs.length * sz t = j * sz t := by rw [← Nat.add_mul]; congr 1; omega
            have h5 : (j - xs.length) * sz t + m < ys.length * sz t := by
              have : (j - xs.length + 1) * sz t ≤ ys.length * sz t := Nat.mul_le_mul_right _ (by omega)
              rw [Nat.add_mul] at this; omega
            have hg : c'.getD (j * sz t + m) Go.undef = f ((j - xs.length) * sz t + m) := by
              simp only [Array.getD_eq_getD_getElem?]
              rw [s3, if_pos (by rw [h1]; simp; omega), List.getElem?_map, show j * sz t + m - len * sz t = (j - xs.length) * sz t + m by rw [h1]; omega, List.getElem?_range h5]
              rfl
            rw [hg]
            exact hr2 _ u m v hj hm⟩)
        refine fin _ _ _ e1 hnew ?_
        exact RelV.gro_now (b := some g) (by simp [lt_of_getElem? hl])
    · -- new memory
      have hz48 := growslice_fits (need := len + ys.length) (old := cap) (bytes := info.bytes) (by omega) hbytes
      have hcap := grownCap_ge w (len + ys.length) cap el
      have done : ∀ (olds : List Value), olds.length = len * sz t →
          (∀ (j : Nat) u (m : Nat) v, xs[j]? = some u → (enc t u)[m]? = some v → RelV w (C.X σ.hp loc) loc v (olds.getD (j * sz t + m) Go.undef)) →
          (Builtin.append_ #[ty, ty] type #[a.eval x, a.eval y]).run P w = .ok (.slice (some ⟨w.heap.size, 0, none⟩) (len + ys.length) (grownCap w (len + ys.length) cap el))
            (w.drew.alloc (.cells (olds.toArray ++ ((List.range (ys.length * sz t)).map f).toArray ++ Builtin.zeroCells z.cells (grownCap w (len + ys.length) cap el - (len + ys.length))) el)) →
          Oper.wpIn (ro fr) mm P ⟨dst, .call ⟨.builtin .append, #[x, y], cargs⟩, type, pos, after, guard⟩ a w K Q := fun olds holen hold e1 => by
        have hkeep : Keep (fun b o => zone (.vec n t xs) (.vc n bo len cap) b o) w (w.drew.alloc (.cells (olds.toArray ++ ((List.range (ys.length * sz t)).map f).toArray ++ Builtin.zeroCells z.cells (grownCap w (len + ys.length) cap el - (len + ys.length))) el)) := by
          have := drewAlloc_keep w (.cells (olds.toArray ++ ((List.range (ys.length * sz t)).map f).toArray ++ Builtin.zeroCells z.cells (grownCap w (len + ys.length) cap el - (len + ys.length))) el)
          exact ⟨this.os, this.tape, this.output, this.size, fun b hb => .inl (this.same hb fun o f => f)⟩
        have hcells : ∀ (j : Nat), j < (len + ys.length) * sz t → (olds.toArray ++ ((List.range (ys.length * sz t)).map f).toArray ++ Builtin.zeroCells z.cells (grownCap w (len + ys.length) cap el - (len + ys.length))).getD j Go.undef =
            if j < len * sz t then olds.getD j Go.undef else f (j - len * sz t) := fun j hj => by
          have hj2 : j < (olds.toArray ++ ((List.range (ys.length * sz t)).map f).toArray).size := by simp [holen]; rw [← Nat.add_mul]; exact hj
          simp only [Array.getD_eq_getD_getElem?]
          rw [Array.getElem?_append_left hj2]
          by_cases hlo : j < len * sz t
          · rw [if_pos hlo, Array.getElem?_append_left (by simp [holen]; exact hlo)]
            simp [List.getD]
          · rw [if_neg hlo, Array.getElem?_append_right (by simp [holen]; omega)]
            have h6 : j - len * sz t < ys.length * sz t := by rw [Nat.add_mul] at hj; omega
            simp only [List.size_toArray, holen, List.getElem?_toArray]
            rw [List.getElem?_map, List.getElem?_range h6]
            rfl
        have hnew := hr.revec (zs := xs ++ ys) (go := some w.heap.size) (len' := len + ys.length) (cap' := grownCap w (len + ys.length) cap el) hi' (Nat.lt_succ_self _) hl hkeep (fun g' hg' => .inr (by cases hg'; exact Nat.le_refl _)) (by rw [List.length_append]; omega) hcap (fun e => by cases e)
          (fun g' hg' => by cases hg'; exact ⟨olds.toArray ++ ((List.range (ys.length * sz t)).map f).toArray ++ Builtin.zeroCells z.cells (grownCap w (len + ys.length) cap el - (len + ys.length)), el, by show (w.heap.push _)[w.heap.size]? = _; simp, by
            simp only [Array.size_append, List.size_toArray, holen, List.length_map, List.length_range, size_zeroCells, k8]
            rw [← Nat.add_mul, ← Nat.add_mul]
            exact Nat.mul_le_mul_right _ (by omega), fun j u m v hj hm => by
          have hm' : m < sz t := by have := lt_of_getElem? hm; rwa [enc_length] at this
          rcases append_get hj with hj | ⟨hjl, hj⟩
          · have hjlt := lt_of_getElem? hj
            have h7 : j * sz t + m < len * sz t := by
              have : (j + 1) * sz t ≤ len * sz t := Nat.mul_le_mul_right _ (by omega)
              rw [Nat.add_mul] at this; omega
            rw [hcells _ (by rw [Nat.add_mul]; omega), if_pos h7]
            exact hold j u m v hj hm
          · have hjlt := lt_of_getElem? hj
            have hsub : (j - xs.length) * sz t + xs.length * sz t = j * sz t := by rw [← Nat.add_mul]; congr 1; omega
            have h5 : (j - xs.length) * sz t + m < ys.length * sz t := by
              have : (j - xs.length + 1) * sz t ≤ ys.length * sz t := Nat.mul_le_mul_right _ (by omega)
              rw [Nat.add_mul] at this; omega
            rw [hcells _ (by rw [Nat.add_mul, h1]; omega), if_neg (by rw [h1]; omega), show j * sz t + m - len * sz t = (j - xs.length) * sz t + m by rw [h1]; omega]
            exact hr2 _ u m v hj hm⟩)
        refine fin _ _ _ e1 hnew ?_
        exact RelV.gro_now (b := some w.heap.size) (by simp [lt_of_getElem? hl])
      cases bo with
      | none =>
        have hcap0 := h3 rfl
        subst hcap0
        have hl0 : len = 0 := by omega
        subst hl0
        refine done [] (by simp) (fun j u m v hj => ?_) ?_
        · have := lt_of_getElem? hj; omega
        · rw [g1, g2]
          have := run_append_nil (P := P) w ty type el info z k1 k6 k7 ⟨b2, o2, none⟩ ys.length c2 _ hnlen hnews hypos (by omega) (by
            have : ys.length * info.bytes ≤ 4294967296 * 1024 := Nat.mul_le_mul (by omega) k9
            omega)
          simpa using this
      | some g =>
        obtain ⟨c, tyc, q1, q2, q3, q4⟩ := h4 g rfl
        have hcsz : len * sz t ≤ c.size := Nat.le_trans (Nat.mul_le_mul_right _ h2) q2
        have hog : ∀ (j : Nat), j < len * sz t → (c.toList.take (len * sz t)).getD j Go.undef = c.getD j Go.undef := fun j hj => by
          simp only [List.getD, Array.getD_eq_getD_getElem?]
          rw [List.getElem?_take_of_lt hj, Array.getElem?_toList]
        refine done (c.toList.take (len * sz t)) (by rw [List.length_take]; simp; omega) (fun j u m v hj hm => ?_) ?_
        · have hjlt := lt_of_getElem? hj
          have hm' : m < sz t := by have := lt_of_getElem? hm; rwa [enc_length] at this
          rw [hog _ (by
            have : (j + 1) * sz t ≤ len * sz t := Nat.mul_le_mul_right _ (by omega)
            rw [Nat.add_mul] at this; omega)]
          exact q3 j u m v hj hm
        · rw [g1, g2]
          exact run_append_grow (P := P) w ty type el info z k1 k6 k7 ⟨g, 0, none⟩ len cap (c.toList.take (len * sz t)) (by rw [hsize, List.length_take]; simp; omega) (fun j v hj => by
            have hjlt := lt_of_getElem? hj
            rw [List.length_take] at hjlt
            rw [List.getElem?_take_of_lt (by omega), Array.getElem?_toList] at hj
            rw [addr_add, Nat.zero_add]
            simp [World.cell?, q1, hj]) ⟨b2, o2, none⟩ ys.length c2 _ hnlen hnews (by omega) (by omega) hz48

end ops
end Go.Ull
