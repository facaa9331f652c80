/- Growable slices. -/
import Derived.Test.YtmgdofgmidbddaaFrL
namespace Go.Ull
open Go.RowKit

theorem Keep.same {A : Nat → Nat → Prop} {w w' : World} (h : Keep A w w') {b : Nat} (hb : b < w.heap.size) (hA : ∀ o, ¬ A b o) : w'.heap[b]? = w.heap[b]? := by
  rcases h.block b hb with h1 | ⟨c, c', ty, h1, h2, h3, h4⟩
  · exact h1
  · have : c' = c := Array.ext_getElem? fun i => h4 i (hA i)
    rw [h1, h2, this]

/-- A growable slice has become another one. -/
theorem RelSt.revec {C : Ctx} {σ : St} {a : Act} {w w' : World} {loc : List Loc} (h : RelSt C σ a w loc) {i n n' : Nat} {t : ElT} {xs zs : List (El t)} (hi : σ.hp[i]? = some (.vec n t xs))
    (hnn : n < n') {bo : Option Nat} {len cap : Nat} (hl : loc[i]? = some (.vc n bo len cap)) {go : Option Nat} {len' cap' : Nat} (hk : Keep (fun b o => zone (.vec n t xs) (.vc n bo len cap) b o) w w')
    (hg : ∀ g, go = some g → (bo = some g ∧ len ≤ len') ∨ w.heap.size ≤ g) (hlen : len' = zs.length) (hcap : len' ≤ cap') (hg0 : go = none → cap' = 0)
    (hcs : ∀ g, go = some g → ∃ (c' : Array Value) (ty : TypeId), w'.heap[g]? = some (.cells c' ty (0, 0)) ∧ cap' * sz t ≤ c'.size ∧
      (∀ (j : Nat) x (m : Nat) y, zs[j]? = some x → (enc t x)[m]? = some y → RelV w (C.X σ.hp loc) loc y (c'.getD (j * sz t + m) Go.undef))) :
    RelSt C { σ with hp := σ.hp.set i (.vec n' t zs) } a w' (loc.set i (.vc n' go len' cap')) := by
  have hilt := lt_of_getElem? hi
  have hillt := lt_of_getElem? hl
  have hbi := h.hp i _ _ hi hl
  -- what may be written behind, may be written before, or is new
  have hauth : ∀ b o, auth (σ.hp.set i (.vec n' t zs)) (loc.set i (.vc n' go len' cap')) b o → auth σ.hp loc b o ∨ w.heap.size ≤ b := fun b o => by
    rintro ⟨j, k, l, h1, h2, h3⟩
    by_cases hij : i = j
    · subst hij
      rw [List.getElem?_set_self hilt] at h1
      rw [List.getElem?_set_self hillt] at h2
      cases h1; cases h2
      cases go with
      | none => exact h3.elim
      | some g =>
        obtain ⟨rfl, ho⟩ := h3
        rcases hg b rfl with ⟨rfl, hle⟩ | hg
        · exact .inl ⟨i, _, _, hi, hl, rfl, Nat.le_trans (Nat.mul_le_mul_right _ hle) ho⟩
        · exact .inr hg
    · rw [List.getElem?_set_ne hij] at h1 h2
      exact .inl ⟨j, k, l, h1, h2, h3⟩
  have hX : ∀ b o, b < w.heap.size → C.X (σ.hp.set i (.vec n' t zs)) (loc.set i (.vc n' go len' cap')) b o → C.X σ.hp loc b o := fun b o hb hx => by
    rcases hx with hx | hx
    · exact .inl hx
    · rcases hauth b o hx with hx | hx
      · exact .inr hx
      · omega
  have hcell : ∀ b o v, w.cell? ⟨b, o, none⟩ = some v → ¬ C.X σ.hp loc b o → w'.cell? ⟨b, o, none⟩ = some v ∧ ¬ C.X (σ.hp.set i (.vec n' t zs)) (loc.set i (.vc n' go len' cap')) b o :=
    fun b o v h1 h2 => ⟨hk.cell h1 fun hz => h2 (.inr ⟨i, _, _, hi, hl, hz⟩), fun hx => h2 (hX b o (cell_lt h1) hx)⟩
  have hll : ∀ (j : Nat) l, loc[j]? = some l → l ≠ .none → ∃ l', (loc.set i (.vc n' go len' cap'))[j]? = some l' ∧ l.Le l' := fun j l hj _ => by
    by_cases hij : i = j
    · subst hij
      rw [hl] at hj; cases hj
      exact ⟨_, List.getElem?_set_self hillt, .inr ⟨_, _, _, _, hnn, rfl⟩⟩
    · exact ⟨l, by rw [List.getElem?_set_ne hij]; exact hj, .refl l⟩
  have hkeep : Keep C.A0 C.w0 w' := h.keep.trans hk fun b o hb hz => h.authA b o ⟨i, _, _, hi, hl, hz⟩ hb
  have hblk : ∀ (j : Nat) l b, j ≠ i → loc[j]? = some l → l.at = some b → w'.heap[b]? = w.heap[b]? := fun j l b hji hj hb =>
    hk.same (h.at_lt hj hb) fun o hz => h.dist i j _ l b (Ne.symm hji) hl hj (zone_at hz) hb
  refine ⟨by simp [h.llen], by simp [h.mle], fun j l hj hd => ?_, fun j l b hj hl' hb => ?_, fun j l b hj hl' hb => ?_, hkeep, fun b o ha hb => ?_, fun j k l l' b hjk hj hk' hb hb' => ?_, fun j k l hj hl' => ?_, h.tms, fun u v hv => ?_, h.defers.keep hk⟩
  · obtain ⟨l', h1, h2⟩ := h.bor j l hj hd
    by_cases hij : i = j
    · subst hij
      rw [hl] at h1; cases h1
      refine ⟨_, List.getElem?_set_self hillt, ?_⟩
      cases l with
      | blk b => cases h2
      | vc _ _ _ _ => exact ⟨_, _, _, _, rfl⟩
      | none => trivial
    · exact ⟨l', by rw [List.getElem?_set_ne hij]; exact h1, h2⟩
  · by_cases hij : i = j
    · subst hij
      rw [List.getElem?_set_self hillt] at hl'
      cases hl'
      rcases hg b hb with ⟨rfl, _⟩ | hg
      · exact h.borv i _ b hj hl rfl
      · exact .inr (Nat.le_trans h.keep.size hg)
    · rw [List.getElem?_set_ne hij] at hl'
      exact h.borv j l b hj hl' hb
  · by_cases hij : i = j
    · subst hij
      rw [List.getElem?_set_self hillt] at hl'
      cases hl'
      rcases hg b hb with ⟨rfl, _⟩ | hg
      · exact h.fresh i _ b hj hl rfl
      · exact Nat.le_trans h.keep.size hg
    · rw [List.getElem?_set_ne hij] at hl'
      exact h.fresh j l b hj hl' hb
  · rcases hauth b o ha with ha | ha
    · exact h.authA b o ha hb
    · have := h.keep.size; omega
  · have key : ∀ (j : Nat) l, j ≠ i → loc[j]? = some l → l.at = some b → go = some b → False := fun j l hji hj hb hgb => by
      rcases hg b hgb with ⟨rfl, _⟩ | hg
      · exact h.dist i j _ l b (Ne.symm hji) hl hj rfl hb
      · have := h.at_lt hj hb; omega
    by_cases hij : i = j
    · subst hij
      rw [List.getElem?_set_self hillt] at hj
      rw [List.getElem?_set_ne hjk] at hk'
      cases hj
      exact key k l' (Ne.symm hjk) hk' hb' hb
    · rw [List.getElem?_set_ne hij] at hj
      by_cases hik : i = k
      · subst hik
        rw [List.getElem?_set_self hillt] at hk'
        cases hk'
        exact key j l (Ne.symm hij) hj hb hb'
      · rw [List.getElem?_set_ne hik] at hk'
        exact h.dist j k l l' b hjk hj hk' hb hb'
  · by_cases hij : i = j
    · subst hij
      rw [List.getElem?_set_self hilt] at hj
      rw [List.getElem?_set_self hillt] at hl'
      cases hj; cases hl'
      refine ⟨rfl, hlen, hcap, hg0, fun g hgg => ?_⟩
      obtain ⟨c', ty, hc', hsz, hr⟩ := hcs g hgg
      refine ⟨c', ty, hc', hsz, fun j x m y hx hy => (hr j x m y hx hy).mono' hll hcell, fun o ho hx => ?_⟩
      rcases hx with hx | ⟨j, k, l, h1, h2, h3⟩
      · rcases hg g hgg with ⟨rfl, hle⟩ | hg
        · by_cases ho2 : o < len * sz t
          · obtain ⟨_, _, _, _, hcont⟩ := hbi
            obtain ⟨c, ty', _, _, _, hn⟩ := hcont g rfl
            exact hn o ho2 (.inl hx)
          · have hA : auth σ.hp loc g o := ⟨i, _, _, hi, hl, rfl, by omega⟩
            exact C.xa g o hx (h.authA g o hA (C.x0 g o hx))
        · have := C.x0 g o hx
          have := h.keep.size
          omega
      · by_cases hij : i = j
        · subst hij
          rw [List.getElem?_set_self hilt] at h1
          rw [List.getElem?_set_self hillt] at h2
          cases h1; cases h2
          rw [hgg] at h3
          obtain ⟨_, ho'⟩ := h3
          omega
        · rw [List.getElem?_set_ne hij] at h1 h2
          rcases hg g hgg with ⟨rfl, _⟩ | hg
          · exact h.dist i j _ l g hij hl h2 rfl (zone_at h3)
          · have := h.at_lt h2 (zone_at h3); omega
    · rw [List.getElem?_set_ne hij] at hj hl'
      exact (h.hp j k l hj hl').mono' hll hcell fun b hb => hblk j l b (Ne.symm hij) hl' hb
  · exact (h.tm u v hv).mono' hll hcell

end Go.Ull
