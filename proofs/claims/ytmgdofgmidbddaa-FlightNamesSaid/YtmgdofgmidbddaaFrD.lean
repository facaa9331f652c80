/- Stores, and growable slices, in the relation. -/
import Derived.Test.YtmgdofgmidbddaaFrC
import Derived.Laws.IdiomCopy
namespace Go.Ull
open Go.RowKit

theorem cell_lt {w : World} {b o : Nat} {v : Value} (hv : w.cell? ⟨b, o, none⟩ = some v) : b < w.heap.size := by
  rcases Nat.lt_or_ge b w.heap.size with h' | h'
  · exact h'
  · simp [World.cell?, Array.getElem?_eq_none h'] at hv

theorem RelSt.at_lt {C : Ctx} {σ : St} {a : Act} {w : World} {loc : List Loc} (h : RelSt C σ a w loc) {i : Nat} {l : Loc} {b : Nat} (hi : loc[i]? = some l) (hb : l.at = some b) : b < w.heap.size := by
  have : i < σ.hp.length := by
    rw [← h.llen]
    rcases Nat.lt_or_ge i loc.length with h' | h'
    · exact h'
    · simp [List.getElem?_eq_none h'] at hi
  exact (h.hp i σ.hp[i] l (by simp [this]) hi).at_lt hb

theorem RelSt.loc_of {C : Ctx} {σ : St} {a : Act} {w : World} {loc : List Loc} (h : RelSt C σ a w loc) {i : Nat} {k : Blk} (hi : σ.hp[i]? = some k) : ∃ l, loc[i]? = some l := by
  have : i < loc.length := by
    rw [h.llen]
    rcases Nat.lt_or_ge i σ.hp.length with h' | h'
    · exact h'
    · simp [List.getElem?_eq_none h'] at hi
  exact ⟨loc[i], by simp [this]⟩

theorem RelSt.box_loc {C : Ctx} {σ : St} {a : Act} {w : World} {loc : List Loc} (h : RelSt C σ a w loc) {i : Nat} {cs : List AV} {r : Bool} (hi : σ.hp[i]? = some (.box cs r)) :
    ∃ b c ty, loc[i]? = some (.blk b) ∧ w.heap[b]? = some (.cells c ty (0, 0)) ∧ c.size = cs.length ∧
      (∀ j x, cs[j]? = some x → RelV w (C.X σ.hp loc) loc x (c.getD j Go.undef)) ∧ (r = true → ∀ o, o < cs.length → ¬ C.X σ.hp loc b o) := by
  obtain ⟨l, hl⟩ := h.loc_of hi
  have := h.hp i _ l hi hl
  cases l with
  | blk b => obtain ⟨c, ty, h1, h2, h3, h4⟩ := this; exact ⟨b, c, ty, hl, h1, h2, h3, h4⟩
  | _ => exact this.elim

/-- A world whose one block has other cells. -/
theorem cell_of_heap {w w' : World} {b : Nat} (h : w'.heap[b]? = w.heap[b]?) (o : Nat) : w'.cell? ⟨b, o, none⟩ = w.cell? ⟨b, o, none⟩ := by
  simp [World.cell?, h]

/-- A box is written (its place in memory is block b). -/
theorem RelSt.writeBox {C : Ctx} {σ : St} {a : Act} {w w' : World} {loc : List Loc} (h : RelSt C σ a w loc) {i b : Nat} {cs cs' : List AV} (hi : σ.hp[i]? = some (.box cs false))
    (hl : loc[i]? = some (.blk b)) {c c' : Array Value} {ty : TypeId} (hc : w.heap[b]? = some (.cells c ty (0, 0))) (hc' : w'.heap[b]? = some (.cells c' ty (0, 0)))
    (hn : c'.size = c.size) (hcs : cs'.length = cs.length) (hr : ∀ j x, cs'[j]? = some x → RelV w (C.X σ.hp loc) loc x (c'.getD j Go.undef))
    (hos : w'.os = w.os) (htape : w'.tape = w.tape) (hout : w'.output = w.output) (hsz : w'.heap.size = w.heap.size) (hothers : ∀ k, k ≠ b → w'.heap[k]? = w.heap[k]?) :
    RelSt C { σ with hp := σ.hp.set i (.box cs' false) } a w' loc := by
  have hilt : i < σ.hp.length := by
    rcases Nat.lt_or_ge i σ.hp.length with h' | h'
    · exact h'
    · simp [List.getElem?_eq_none h'] at hi
  have hauth : ∀ b' o, auth (σ.hp.set i (.box cs' false)) loc b' o ↔ auth σ.hp loc b' o := fun b' o => by
    constructor
    · rintro ⟨j, k, l, h1, h2, h3⟩
      by_cases hij : i = j
      · subst hij
        rw [List.getElem?_set_self hilt] at h1
        cases h1
        rw [hl] at h2; cases h2
        exact ⟨i, _, _, hi, hl, h3⟩
      · rw [List.getElem?_set_ne hij] at h1
        exact ⟨j, k, l, h1, h2, h3⟩
    · rintro ⟨j, k, l, h1, h2, h3⟩
      by_cases hij : i = j
      · subst hij
        rw [hi] at h1; cases h1
        exact ⟨i, _, l, List.getElem?_set_self hilt, h2, by rw [hl] at h2; cases h2; exact h3⟩
      · exact ⟨j, k, l, by rw [List.getElem?_set_ne hij]; exact h1, h2, h3⟩
  have hX : C.X (σ.hp.set i (.box cs' false)) loc = C.X σ.hp loc := by
    funext b' o
    exact propext (or_congr Iff.rfl (hauth b' o))
  have hXb : ∀ o, C.X σ.hp loc b o := fun o => .inr ⟨i, _, _, hi, hl, rfl⟩
  have hcell : ∀ b' o v, w.cell? ⟨b', o, none⟩ = some v → ¬ C.X σ.hp loc b' o → w'.cell? ⟨b', o, none⟩ = some v ∧ ¬ C.X σ.hp loc b' o := fun b' o v h1 h2 => by
    have : b' ≠ b := fun e => h2 (e ▸ hXb o)
    exact ⟨(cell_of_heap (hothers b' this) o).trans h1, h2⟩
  have hk1 : Keep (fun b' _ => b' = b) w w' := by
    refine ⟨hos, htape, hout, by omega, fun b' _ => ?_⟩
    by_cases e : b' = b
    · subst e
      exact .inr ⟨c, c', ty, hc, hc', hn, fun o ho => (ho rfl).elim⟩
    · exact .inl (hothers b' e)
  have hkeep : Keep C.A0 C.w0 w' := by
    refine h.keep.trans (B := fun b' _ => b' = b) hk1 (fun b' o hb' e => ?_)
    · subst e
      exact h.authA b' o ⟨i, _, _, hi, hl, rfl⟩ hb'
  refine ⟨by simp [h.llen], by simp [h.mle], h.bor, h.borv, h.fresh, hkeep, fun b' o ha hb' => h.authA b' o ((hauth b' o).1 ha) hb', h.dist, fun j k l hj hl' => ?_, h.tms, fun t v hv => ?_, h.defers.keep hk1⟩
  · show BlkOK w' (C.X (σ.hp.set i (.box cs' false)) loc) loc k l
    rw [hX]
    by_cases hij : i = j
    · subst hij
      rw [List.getElem?_set_self hilt] at hj
      cases hj
      rw [hl] at hl'; cases hl'
      exact ⟨c', ty, hc', by have := h.hp i _ _ hi hl; obtain ⟨d, ty', g1, g2, _⟩ := this; rw [hc] at g1; cases g1; omega, fun j x hx => (hr j x hx).mono (fun _ _ h _ => h) hcell, fun hf => by cases hf⟩
    · rw [List.getElem?_set_ne hij] at hj
      refine (h.hp j k l hj hl').mono (fun _ _ h _ => h) hcell fun b' hb' => hothers b' fun e => ?_
      subst e
      exact h.dist i j _ l b' hij hl hl' rfl hb'
  · show RelV w' (C.X (σ.hp.set i (.box cs' false)) loc) loc v _
    rw [hX]
    exact (h.tm t v hv).mono (fun _ _ h _ => h) hcell

/-- A box of one's own that is written no more. -/
theorem RelSt.freeze {C : Ctx} {σ : St} {a : Act} {w : World} {loc : List Loc} (h : RelSt C σ a w loc) {i : Nat} {cs : List AV} {r : Bool} (hi : σ.hp[i]? = some (.box cs r)) (hm : C.m ≤ i) :
    RelSt C { σ with hp := σ.hp.set i (.box cs true) } a w loc := by
  obtain ⟨b, c, ty, hl, hc, hn, hr, hro⟩ := h.box_loc hi
  have hilt : i < σ.hp.length := by
    rcases Nat.lt_or_ge i σ.hp.length with h' | h'
    · exact h'
    · simp [List.getElem?_eq_none h'] at hi
  have hauth : ∀ b' o, auth (σ.hp.set i (.box cs true)) loc b' o → auth σ.hp loc b' o ∧ b' ≠ b := fun b' o => by
    rintro ⟨j, k, l, h1, h2, h3⟩
    by_cases hij : i = j
    · subst hij
      rw [List.getElem?_set_self hilt] at h1
      cases h1
      exact h3.elim
    · rw [List.getElem?_set_ne hij] at h1
      exact ⟨⟨j, k, l, h1, h2, h3⟩, fun e => h.dist i j _ l b hij hl h2 rfl (e ▸ zone_at h3)⟩
  have hX : ∀ b' o, C.X (σ.hp.set i (.box cs true)) loc b' o → C.X σ.hp loc b' o := fun b' o hx => hx.imp id fun ha => (hauth b' o ha).1
  have hcell : ∀ b' o v, w.cell? ⟨b', o, none⟩ = some v → ¬ C.X σ.hp loc b' o → w.cell? ⟨b', o, none⟩ = some v ∧ ¬ C.X (σ.hp.set i (.box cs true)) loc b' o :=
    fun b' o v h1 h2 => ⟨h1, fun hx => h2 (hX b' o hx)⟩
  refine ⟨by simp [h.llen], by simp [h.mle], h.bor, h.borv, h.fresh, h.keep, fun b' o ha hb' => h.authA b' o (hauth b' o ha).1 hb', h.dist, fun j k l hj hl' => ?_, h.tms, fun t v hv => (h.tm t v hv).mono (fun _ _ h _ => h) hcell, h.defers⟩
  · by_cases hij : i = j
    · subst hij
      rw [List.getElem?_set_self hilt] at hj
      cases hj
      rw [hl] at hl'; cases hl'
      refine ⟨c, ty, hc, hn, fun j x hx => (hr j x hx).mono (fun _ _ h _ => h) hcell, fun _ o ho hx => ?_⟩
      rcases hx with hx | hx
      · have := C.x0 b o hx
        have := h.fresh i _ b hm hl rfl
        omega
      · exact (hauth b o hx).2 rfl
    · rw [List.getElem?_set_ne hij] at hj
      exact (h.hp j k l hj hl').mono (fun _ _ h _ => h) hcell fun _ _ => rfl

/-- More room for blocks. -/
theorem RelSt.room {C : Ctx} {σ : St} {a : Act} {w : World} {loc : List Loc} (h : RelSt C σ a w loc) (n : Nat) :
    RelSt C { σ with hp := σ.hp ++ List.replicate n .dead } a w (loc ++ List.replicate n .none) := by
  have hrep : ∀ (i : Nat) (l : Loc), (loc ++ List.replicate n Loc.none)[i]? = some l → loc[i]? = some l ∨ (σ.hp.length ≤ i ∧ l = .none) := fun i l hi => by
    rw [List.getElem?_append] at hi
    split at hi
    · exact .inl hi
    · refine .inr ⟨by rw [← h.llen]; omega, ?_⟩
      rw [List.getElem?_replicate] at hi
      split at hi <;> cases hi; rfl
  have hrepk : ∀ (i : Nat) (k : Blk), (σ.hp ++ List.replicate n Blk.dead)[i]? = some k → σ.hp[i]? = some k ∨ (σ.hp.length ≤ i ∧ k = .dead) := fun i k hi => by
    rw [List.getElem?_append] at hi
    split at hi
    · exact .inl hi
    · refine .inr ⟨by omega, ?_⟩
      rw [List.getElem?_replicate] at hi
      split at hi <;> cases hi; rfl
  have hlo : ∀ (i : Nat) l, loc[i]? = some l → (loc ++ List.replicate n Loc.none)[i]? = some l := fun i l hi => by
    rw [List.getElem?_append_left]
    · exact hi
    · rcases Nat.lt_or_ge i loc.length with h' | h'
      · exact h'
      · simp [List.getElem?_eq_none h'] at hi
  have hauth : ∀ b o, auth (σ.hp ++ List.replicate n .dead) (loc ++ List.replicate n .none) b o → auth σ.hp loc b o := by
    rintro b o ⟨i, k, l, h1, h2, h3⟩
    rcases hrep i l h2 with h2 | ⟨_, rfl⟩
    · rcases hrepk i k h1 with h1 | ⟨_, rfl⟩
      · exact ⟨i, k, l, h1, h2, h3⟩
      · exact h3.elim
    · have := zone_at h3; cases this
  have hcell : ∀ b' o v, w.cell? ⟨b', o, none⟩ = some v → ¬ C.X σ.hp loc b' o → w.cell? ⟨b', o, none⟩ = some v ∧ ¬ C.X (σ.hp ++ List.replicate n .dead) (loc ++ List.replicate n .none) b' o :=
    fun b' o v h1 h2 => ⟨h1, fun hx => h2 (hx.imp id (hauth b' o))⟩
  have hl : ∀ (i : Nat) l, loc[i]? = some l → l ≠ .none → (loc ++ List.replicate n Loc.none)[i]? = some l := fun i l hi _ => hlo i l hi
  refine ⟨by simp [h.llen], by simp only [List.length_append]; have := h.mle; omega, fun i ds hi hd => (h.bor i ds hi hd).imp fun l' ⟨h1, h2⟩ => ⟨hlo i l' h1, h2⟩, fun i l b hi hl' hb => ?_, fun i l b hi hl' hb => ?_, h.keep, fun b o ha hb => h.authA b o (hauth b o ha) hb,
    fun i j l l' b hij hi hj hb hb' => ?_, fun i k l hi hl' => ?_, h.tms, fun t v hv => (h.tm t v hv).mono hl hcell, h.defers⟩
  · rcases hrep i l hl' with hl' | ⟨_, rfl⟩
    · exact h.borv i l b hi hl' hb
    · cases hb
  · rcases hrep i l hl' with hl' | ⟨_, rfl⟩
    · exact h.fresh i l b hi hl' hb
    · cases hb
  · rcases hrep i l hi with hi | ⟨_, rfl⟩
    · rcases hrep j l' hj with hj | ⟨_, rfl⟩
      · exact h.dist i j l l' b hij hi hj hb hb'
      · cases hb'
    · cases hb
  · rcases hrepk i k hi with hi | ⟨h2, rfl⟩
    · rcases hrep i l hl' with hl' | ⟨h2, rfl⟩
      · exact (h.hp i k l hi hl').mono hl hcell fun _ _ => rfl
      · rcases Nat.lt_or_ge i σ.hp.length with h' | h'
        · omega
        · simp [List.getElem?_eq_none h'] at hi
    · rcases hrep i l hl' with hl' | ⟨h3, rfl⟩
      · rcases Nat.lt_or_ge i loc.length with h' | h'
        · rw [h.llen] at h'; omega
        · simp [List.getElem?_eq_none h'] at hl'
      · rfl

end Go.Ull
