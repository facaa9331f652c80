/- Blocks get other numbers; growable slices as lists. -/
import Derived.Test.YtmgdofgmidbddaaFrN
import Derived.Conc.MuLone
namespace Go.Ull
open Go.RowKit

theorem renL_map (hp : List Blk) (f nv : Nat → Nat) : ∀ (cs : List AV), renL hp f nv cs = cs.map (AV.ren hp f nv)
  | [] => rfl
  | c :: cs => by rw [renL, renL_map hp f nv cs]; rfl

theorem snapL_map (hp : List Blk) : ∀ (cs : List AV), snapL hp cs = cs.map (AV.snap hp)
  | [] => rfl
  | c :: cs => by rw [snapL, snapL_map hp cs]; rfl

theorem mem_idsL {i : Nat} : ∀ {cs : List AV}, i ∈ idsL cs ↔ ∃ c ∈ cs, i ∈ c.ids
  | [] => by simp [idsL]
  | c :: cs => by simp [idsL, mem_idsL (cs := cs)]

theorem renL_get {hp : List Blk} {f nv : Nat → Nat} {i : Nat} {cs : List AV} {c : AV} (h : (renL hp f nv cs)[i]? = some c) : ∃ d, cs[i]? = some d ∧ c = d.ren hp f nv := by
  rw [renL_map, List.getElem?_map] at h
  cases hd : cs[i]? with
  | none => simp [hd] at h
  | some d => simp only [hd, Option.map_some, Option.some.injEq] at h; exact ⟨d, rfl, h.symm⟩

theorem snapL_get {hp : List Blk} {i : Nat} {cs : List AV} {c : AV} (h : (snapL hp cs)[i]? = some c) : ∃ d, cs[i]? = some d ∧ c = d.snap hp := by
  rw [snapL_map, List.getElem?_map] at h
  cases hd : cs[i]? with
  | none => simp [hd] at h
  | some d => simp only [hd, Option.map_some, Option.some.injEq] at h; exact ⟨d, rfl, h.symm⟩

theorem renL_length (hp : List Blk) (f nv : Nat → Nat) (cs : List AV) : (renL hp f nv cs).length = cs.length := by rw [renL_map]; simp
theorem snapL_length (hp : List Blk) (cs : List AV) : (snapL hp cs).length = cs.length := by rw [snapL_map]; simp

theorem enc_ren (hp : List Blk) (f nv : Nat → Nat) (t : ElT) (x : El t) : renL hp f nv (enc t x) = enc t x := by cases t <;> rfl

theorem enc_ren_get {hp : List Blk} {f nv : Nat → Nat} {i : Nat} {t : ElT} {x : El t} {c : AV} (h : (enc t x)[i]? = some c) : c.ren hp f nv = c := by
  have h2 : (renL hp f nv (enc t x))[i]? = some c := by rw [enc_ren]; exact h
  obtain ⟨d, h3, h4⟩ := renL_get h2
  rw [h] at h3
  cases h3
  exact h4.symm

theorem enc_ids {i : Nat} {t : ElT} {x : El t} {c : AV} (h : (enc t x)[i]? = some c) : c.ids = [] := by
  have key : ∀ c ∈ enc t x, c.ids = [] := by cases t <;> simp [enc, AV.ids]
  exact key c (List.mem_of_getElem? h)

theorem RelV.reloc {w w' : World} {X X' : Nat → Nat → Prop} {loc loc' : List Loc} {hp : List Blk} {f nv : Nat → Nat} {S : Nat → Prop}
    (hptr : ∀ (i b : Nat), S i → loc[i]? = some (.blk b) → loc'[f i]? = some (.blk b))
    (hgro : ∀ (i c : Nat) (t : ElT) (xs : List (El t)), S i → hp[i]? = some (.vec c t xs) → ∀ c' b len cap, loc[i]? = some (.vc c' b len cap) → c' = c ∧ loc'[f i]? = some (.vc (nv i) b len cap))
    (hc : ∀ b o v, w.cell? ⟨b, o, none⟩ = some v → ¬ X b o → w'.cell? ⟨b, o, none⟩ = some v ∧ ¬ X' b o)
    {a : AV} {v : Value} (h : RelV w X loc a v) (hS : ∀ i ∈ a.ids, S i) : RelV w' X' loc' (a.ren hp f nv) v := by
  induction h with
  | undef v => exact .undef v
  | bool b => exact .bool b
  | int k n => exact .int k n
  | agg cs vs h r ih =>
    refine .agg _ vs (by rw [renL_length]; exact h) fun i c hi => ?_
    obtain ⟨d, h1, rfl⟩ := renL_get hi
    exact ih i d h1 fun j hj => hS j (mem_idsL.2 ⟨d, List.mem_of_getElem? h1, hj⟩)
  | tuple cs vs h r ih =>
    refine .tuple _ vs (by rw [renL_length]; exact h) fun i c hi => ?_
    obtain ⟨d, h1, rfl⟩ := renL_get hi
    exact ih i d h1 fun j hj => hS j (mem_idsL.2 ⟨d, List.mem_of_getElem? h1, hj⟩)
  | lst t xs base len cap b' o cv hn hc' hb' h r ih =>
    refine .lst t xs base len cap b' o cv hn hc' hb' (fun i x j c hi hj => hc _ _ _ (h i x j c hi hj).1 (h i x j c hi hj).2) fun i x j c hi hj => ?_
    have := ih i x j c hi hj (fun j' hj' => by rw [enc_ids hj] at hj'; cases hj')
    rwa [enc_ren_get hj] at this
  | nils base => exact .nils base
  | gro i n c b len cap s len' cap' h hle hv =>
    have hSi : S i := hS i (by simp [AV.ids])
    unfold AV.ren
    split
    · rename_i c1 t xs hb
      obtain ⟨h1, h2⟩ := hgro i c1 t xs hSi hb _ _ _ _ h
      cases hnc : Nat.beq n c1 with
      | false => exact .undef _
      | true => exact .gro _ _ _ b len cap _ _ _ h2 (Nat.le_refl _) fun _ => hv (by rw [h1]; exact Nat.eq_of_beq_eq_true hnc)
    · exact .undef _
  | eptr cs b' o cv h r ih =>
    refine .eptr _ b' o cv (fun i c hi => ?_) (fun i c hi => ?_)
    · obtain ⟨d, h1, rfl⟩ := renL_get hi
      exact hc _ _ _ (h i d h1).1 (h i d h1).2
    · obtain ⟨d, h1, rfl⟩ := renL_get hi
      exact ih i d h1 fun j hj => hS j (mem_idsL.2 ⟨d, List.mem_of_getElem? h1, hj⟩)
  | ptr i b' o h => exact .ptr _ b' o (hptr i b' (hS i (by simp [AV.ids])) h)
  | bsl i n b' t h => exact .bsl _ n b' t (hptr i b' (hS i (by simp [AV.ids])) h)
  | nilp => exact .nilp
  | fn g x y x' y' hx rx hy ry ihx ihy =>
    refine .fn g _ _ x' y' (by rw [renL_length]; exact hx) (fun i c hi => ?_) (by rw [renL_length]; exact hy) (fun i c hi => ?_)
    · obtain ⟨d, h1, rfl⟩ := renL_get hi
      exact ihx i d h1 fun j hj => hS j (by simp only [AV.ids, List.mem_append]; exact .inl (mem_idsL.2 ⟨d, List.mem_of_getElem? h1, hj⟩))
    · obtain ⟨d, h1, rfl⟩ := renL_get hi
      exact ihy i d h1 fun j hj => hS j (by simp only [AV.ids, List.mem_append]; exact .inr (mem_idsL.2 ⟨d, List.mem_of_getElem? h1, hj⟩))
  | nilfn => exact .nilfn
  | iface t v v' r ih => exact .iface t _ v' (ih fun j hj => hS j hj)
  | niliface => exact .niliface

/-- The place of a block that got another number. -/
def Loc.at' (l : Loc) (n : Nat) : Loc := match l with | .vc _ b k c => .vc n b k c | l => l

theorem Loc.at'_at (l : Loc) (n : Nat) : (l.at' n).at = l.at := by cases l <;> rfl

theorem zone_ren {hp : List Blk} {f nv : Nat → Nat} {i n : Nat} {k : Blk} {l : Loc} {b o : Nat} : zone (k.ren hp f nv i) (l.at' n) b o ↔ zone k l b o := by
  cases k with
  | box cs r => cases r <;> cases l <;> rfl
  | dead => cases l <;> rfl
  | vec c t xs => cases l with
    | vc m b' len cap => cases b' <;> rfl
    | _ => rfl

theorem BlkOK.reloc {w w' : World} {X X' : Nat → Nat → Prop} {loc loc' : List Loc} {hp : List Blk} {f nv : Nat → Nat} {S : Nat → Prop} {k : Blk} {l : Loc} (i : Nat)
    (h : BlkOK w X loc k l)
    (hptr : ∀ (i b : Nat), S i → loc[i]? = some (.blk b) → loc'[f i]? = some (.blk b))
    (hgro : ∀ (i c : Nat) (t : ElT) (xs : List (El t)), S i → hp[i]? = some (.vec c t xs) → ∀ c' b len cap, loc[i]? = some (.vc c' b len cap) → c' = c ∧ loc'[f i]? = some (.vc (nv i) b len cap))
    (hc : ∀ b o v, w.cell? ⟨b, o, none⟩ = some v → ¬ X b o → w'.cell? ⟨b, o, none⟩ = some v ∧ ¬ X' b o)
    (hb : ∀ b, l.at = some b → w'.heap[b]? = w.heap[b]?) (hS : ∀ j ∈ k.ids, S j) : BlkOK w' X' loc' (k.ren hp f nv i) (l.at' (nv i)) := by
  cases k with
  | dead => cases (h : l = .none); rfl
  | box cs ro => cases l with
    | blk b =>
      obtain ⟨c, ty, h1, h2, h3, h4⟩ := h
      refine ⟨c, ty, (hb b rfl).trans h1, by rw [renL_length]; exact h2, fun j x hj => ?_, fun hr o ho => ?_⟩
      · obtain ⟨d, h5, rfl⟩ := renL_get hj
        exact (h3 j d h5).reloc hptr hgro hc fun j hj => hS j (mem_idsL.2 ⟨d, List.mem_of_getElem? h5, hj⟩)
      · rw [renL_length] at ho
        have hcell : w.cell? ⟨b, o, none⟩ = some (c[o]'(by omega)) := by simp [World.cell?, h1, h2, ho]
        exact (hc b o _ hcell (h4 hr o ho)).2
    | _ => exact h.elim
  | vec n t xs => cases l with
    | vc m b len cap =>
      obtain ⟨_, h1, h2, h3, h4⟩ := h
      refine ⟨rfl, h1, h2, h3, fun b' hb' => ?_⟩
      obtain ⟨c, ty, g1, g2, g3, g4⟩ := h4 b' hb'
      refine ⟨c, ty, (hb b' hb').trans g1, g2, fun j x m y hx hy => ?_, fun o ho => ?_⟩
      · have := (g3 j x m y hx hy).reloc (hp := hp) (f := f) (nv := nv) hptr hgro hc fun j hj => by rw [enc_ids hy] at hj; cases hj
        rwa [enc_ren_get hy] at this
      · have hlt : o < c.size := Nat.lt_of_lt_of_le ho (Nat.le_trans (Nat.mul_le_mul_right _ h2) g2)
        have hcell : w.cell? ⟨b', o, none⟩ = some c[o] := by simp [World.cell?, g1, hlt]
        exact (hc b' o _ hcell (g4 o ho)).2
    | _ => exact h.elim

/-- A growable slice, as a list. -/
theorem RelV.snap {w : World} {X : Nat → Nat → Prop} {loc : List Loc} {hp : List Blk} {S : Nat → Prop} (hb : ∀ (i : Nat) k l, S i → hp[i]? = some k → loc[i]? = some l → k ≠ .dead → BlkOK w X loc k l)
    {a : AV} {v : Value} (h : RelV w X loc a v) (hS : ∀ i ∈ a.ids, S i) : RelV w X loc (a.snap hp) v := by
  induction h with
  | agg cs vs h r ih =>
    refine .agg _ vs (by rw [snapL_length]; exact h) fun i c hi => ?_
    obtain ⟨d, h1, rfl⟩ := snapL_get hi
    exact ih i d h1 fun j hj => hS j (mem_idsL.2 ⟨d, List.mem_of_getElem? h1, hj⟩)
  | tuple cs vs h r ih =>
    refine .tuple _ vs (by rw [snapL_length]; exact h) fun i c hi => ?_
    obtain ⟨d, h1, rfl⟩ := snapL_get hi
    exact ih i d h1 fun j hj => hS j (mem_idsL.2 ⟨d, List.mem_of_getElem? h1, hj⟩)
  | gro i n c b len cap s len' cap' h hle hv =>
    unfold AV.snap
    split
    · rename_i c1 t xs hk
      cases hnc : Nat.beq n c1 with
      | false => exact .undef _
      | true =>
        obtain ⟨rfl, h1, h2, h3, h4⟩ := hb i _ _ (hS i (by simp [AV.ids])) hk h (by intro e; cases e)
        obtain ⟨rfl, rfl, rfl⟩ := hv (Nat.eq_of_beq_eq_true hnc)
        show RelV w X loc (.lst t xs) _
        cases b with
        | none =>
          have h0 := h3 rfl
          subst h0
          have : xs = [] := List.eq_nil_of_length_eq_zero (by omega)
          subst this
          exact .lst t [] _ _ _ 0 0 (fun _ _ => Go.undef) h1 h2 (fun h => by omega) (fun i x j c hi => by simp at hi) (fun i x j c hi => by simp at hi)
        | some b =>
          obtain ⟨cc, ty, g1, g2, g3, g4⟩ := h4 b rfl
          have hlt : ∀ (i : Nat) (x : El t) (j : Nat) (y : AV), xs[i]? = some x → (enc t x)[j]? = some y → i * sz t + j < len' * sz t := fun i x j y hi hj => by
            have a1 := lt_of_getElem? hi
            have a2 := lt_of_getElem? hj
            rw [enc_length] at a2
            have : (i + 1) * sz t ≤ len' * sz t := Nat.mul_le_mul_right _ (by omega)
            rw [Nat.add_mul] at this; omega
          refine .lst t xs _ _ _ b 0 (fun i j => cc.getD (i * sz t + j) Go.undef) h1 h2 (fun _ => rfl) (fun i x j y hi hj => ?_) (fun i x j y hi hj => g3 i x j y hi hj)
          have a3 := hlt i x j y hi hj
          have a4 : i * sz t + j < cc.size := Nat.lt_of_lt_of_le a3 (Nat.le_trans (Nat.mul_le_mul_right _ h2) g2)
          rw [Nat.zero_add]
          refine ⟨?_, g4 _ a3⟩
          simp [World.cell?, g1, a4, Array.getD_eq_getD_getElem?]
    · exact .undef _
  | iface t v v' r ih => exact .iface t _ v' (ih hS)
  | undef v => exact .undef v
  | bool b => exact .bool b
  | int k n => exact .int k n
  | lst t xs base len cap b' o cv hn hc' hb' h r ih => exact .lst t xs base len cap b' o cv hn hc' hb' h r
  | nils base => exact .nils base
  | eptr cs b' o cv h r ih => exact .eptr cs b' o cv h r
  | bsl i n b' t h => exact .bsl i n b' t h
  | ptr i b' o h =>
    unfold AV.snap
    split
    · rename_i cs hk
      cases hid : (idsL cs).isEmpty with
      | false => exact .ptr i b' o h
      | true =>
        obtain ⟨c, ty, g1, g2, g3, g4⟩ := hb i _ _ (hS i (by simp [AV.ids])) hk h (by intro e; cases e)
        refine .eptr _ b' o (fun j => c.getD (o + j) Go.undef) (fun j d hj => ?_) (fun j d hj => ?_)
        · rw [List.getElem?_drop] at hj
          have hlt := lt_of_getElem? hj
          refine ⟨?_, g4 rfl _ hlt⟩
          have : o + j < c.size := by omega
          simp [World.cell?, g1, this, Array.getD_eq_getD_getElem?]
        · rw [List.getElem?_drop] at hj
          exact g3 _ _ hj
    · exact .ptr i b' o h
  | nilp => exact .nilp
  | fn g x y x' y' hx rx hy ry ihx ihy =>
    refine .fn g _ _ x' y' (by rw [snapL_length]; exact hx) (fun i c hi => ?_) (by rw [snapL_length]; exact hy) (fun i c hi => ?_)
    · obtain ⟨d, h1, rfl⟩ := snapL_get hi
      exact ihx i d h1 fun j hj => hS j (by simp only [AV.ids, List.mem_append]; exact .inl (mem_idsL.2 ⟨d, List.mem_of_getElem? h1, hj⟩))
    · obtain ⟨d, h1, rfl⟩ := snapL_get hi
      exact ihy i d h1 fun j hj => hS j (by simp only [AV.ids, List.mem_append]; exact .inr (mem_idsL.2 ⟨d, List.mem_of_getElem? h1, hj⟩))
  | nilfn => exact .nilfn
  | niliface => exact .niliface

section ops
variable {P : Program} {T : Tab} {dst : Option Tmp} {type : TypeId} {pos : String} {after : Array Edge} {guard : Option (Nat × Bool)}
variable {vals : Operand → AV} {hp : List Blk}

theorem ok_indexAddr_gro (hT : TabOK P T) (t : TypeId) (x y : Operand) {e : ElT} (ht : T.tyOf t = .slice e) {xs : List (El e)} {z : El e} {i : Int} {k : IntKind} {b n : Nat} (fp : List Nat)
    (hx : vals x = .gro b n) (hb : hp[b]? = some (.vec n e xs)) (hm : b ∈ fp) (hy : vals y = .int k i) (hi : idx xs i = some z) :
    OpOK P T ⟨dst, .indexAddr t x y, type, pos, after, guard⟩ vals hp fp (.eptr (enc e z)) [] :=
  opOK_value fun C σ a w loc hr hv hf => by
    have h0 := hv x (by simp [Op.operands]); rw [hx] at h0
    have h0' := h0.snap (hp := σ.hp) (S := fun _ => True) (fun i k l _ h1 h2 _ => hr.hp i k l h1 h2) (fun _ _ => trivial)
    have hb' : σ.hp[b]? = some (.vec n e xs) := (hf b hm).trans hb
    have hsn : (AV.gro b n).snap σ.hp = .lst e xs := by
      unfold AV.snap
      rw [hb']
      simp
    rw [hsn] at h0'
    obtain ⟨base, cap, b, o, cv, h1, hcap, hb, hc, hrel⟩ := h0'.lst_inv
    have h2 := hv y (by simp [Op.operands]); rw [hy] at h2
    obtain ⟨n, rfl, hn⟩ := idx_some hi
    have hlt := lt_of_getElem? hn
    have hb := hb (by omega)
    subst hb
    obtain ⟨el, g1, g2, g3, g4, g5, _⟩ := slice_of hT ht
    refine ⟨.pointer (some ⟨b, o + n * sz e, none⟩), ?_, .eptr _ _ _ (cv n) (fun j c hj => hc n z j c hn hj) (fun j c hj => hrel n z j c hn hj)⟩
    simp only [execOp, h1, h2.int_inv, Instr.indexAt, asIntOf, Sem.run_bind, run_underlying g1, Result.andThen_ok, Sem.run_pure]
    rw [if_pos (by omega)]
    simp [run_sizeOf_cells g4, g2, addr_add]

end ops
end Go.Ull
