/- The abstract operations are sound: built aggregates and slices. -/
import Derived.Test.YtmgdofgmidbddaaFrH
namespace Go.Ull
open Go.RowKit

theorem lstOf_rel {w : World} {X : Nat → Nat → Prop} {loc : List Loc} {t : ElT} {a : AV} {xs : List (El t)} {v : Value} (h : lstOf t a = some xs) (hr : RelV w X loc a v) : RelV w X loc (.lst t xs) v := by
  unfold lstOf at h
  split at h
  · split at h
    · rename_i he
      subst he
      cases h
      exact hr
    · cases h
  · cases h
    cases hr
    exact .lst _ _ _ _ _ 0 0 (fun _ _ => Go.undef) rfl (Nat.le_refl _) (fun h => by cases h) (fun i x j c h => by simp at h) (fun i x j c h => by simp at h)
  · cases h

theorem srcOf_eq (t : ElT) (a : AV) : srcOf t a = lstOf t a := by
  unfold srcOf lstOf
  rfl

theorem ints_eq : ∀ {n : Nat} {cs : List AV} {l : List Int} {r : List AV}, ints n cs = some (l, r) → cs = l.map i64 ++ r ∧ l.length = n
  | 0, cs, l, r, h => by cases h; exact ⟨rfl, rfl⟩
  | n + 1, [], l, r, h => by simp [ints] at h
  | n + 1, c :: cs, l, r, h => by
    have key : ∀ a, c = i64 a → c :: cs = l.map i64 ++ r ∧ l.length = n + 1 := by
      rintro a rfl
      simp only [ints] at h
      split at h
      · rename_i l' r' hi
        cases h
        obtain ⟨h1, h2⟩ := ints_eq hi
        exact ⟨by simp [h1], by simp [h2]⟩
      · cases h
    cases c with
    | int k a => cases k with
      | i64 => exact key a rfl
      | _ => simp [ints] at h
    | _ => simp [ints] at h

theorem rel_at {w : World} {X : Nat → Nat → Prop} {loc : List Loc} {cs ds : List AV} {p q : AV} (hpq : ∀ v, RelV w X loc p v → RelV w X loc q v) {f : Nat → Value}
    (hf : ∀ (j : Nat) c, (cs ++ p :: ds)[j]? = some c → RelV w X loc c (f j)) (j : Nat) (c : AV) (hj : (cs ++ q :: ds)[j]? = some c) : RelV w X loc c (f j) := by
  rcases Nat.lt_trichotomy j cs.length with h | h | h
  · rw [List.getElem?_append_left h] at hj
    exact hf j c (by rw [List.getElem?_append_left h]; exact hj)
  · subst h
    simp at hj
    subst hj
    exact hpq _ (hf _ p (by simp))
  · refine hf j c ?_
    rw [List.getElem?_append_right (by omega)] at hj ⊢
    rw [show j - cs.length = (j - cs.length - 1) + 1 by omega] at hj ⊢
    simpa using hj

theorem dec_rel {w : World} {X : Nat → Nat → Prop} {loc : List Loc} {t : ElT} {cs : List AV} {x : El t} (h : dec t cs = some x) :
    cs.length = sz t ∧ ∀ f : Nat → Value, (∀ (j : Nat) c, cs[j]? = some c → RelV w X loc c (f j)) → ∀ (j : Nat) c, (enc t x)[j]? = some c → RelV w X loc c (f j) := by
  unfold dec at h
  cases t
  case arc =>
    simp only at h
    split at h
    · rename_i hi
      obtain ⟨rfl, _⟩ := ints_eq hi
      split at h
      · rename_i hps hi2
        obtain ⟨rfl, _⟩ := ints_eq hi2
        cases h
        exact ⟨rfl, fun f hf => rel_at (cs := List.map i64 [_, _, _, _, _, _, _, _, _, _, _, _]) (fun v hv => lstOf_rel hps hv) hf⟩
      · cases h
    · cases h
  case part =>
    simp only at h
    split at h
    · rename_i hi
      obtain ⟨rfl, _⟩ := ints_eq hi
      split at h
      · rename_i hps hi2
        obtain ⟨rfl, _⟩ := ints_eq hi2
        cases h
        exact ⟨rfl, fun f hf => rel_at (cs := List.map i64 [_, _, _, _, _, _, _, _, _, _, _, _]) (fun v hv => lstOf_rel hps hv) hf⟩
      · cases h
    · cases h
  case update =>
    simp only at h
    split at h
    · rename_i hi
      obtain ⟨rfl, _⟩ := ints_eq hi
      split at h
      · rename_i hps
        cases h
        exact ⟨rfl, fun f hf => rel_at (cs := List.map i64 [_, _, _, _, _, _, _]) (fun v hv => lstOf_rel hps hv) hf⟩
      · cases h
    · cases h
  case spans =>
    simp only at h
    split at h
    · exact ⟨rfl, fun f hf => rel_at (cs := []) (fun v hv => lstOf_rel h hv) hf⟩
    · cases h
  all_goals
    simp only at h
    split at h
    · first
        | (cases h; exact ⟨rfl, fun f hf => hf⟩)
        | (rename_i hi
           obtain ⟨rfl, _⟩ := ints_eq hi
           cases h
           exact ⟨rfl, fun f hf => hf⟩)
    · cases h

/-- The cells of a list of elements, one behind the other. -/
def flatE (t : ElT) (xs : List (El t)) : List AV := xs.flatMap (enc t)

theorem flatE_get {t : ElT} : ∀ {xs : List (El t)} {i : Nat} {x : El t} {j : Nat} {c : AV}, xs[i]? = some x → (enc t x)[j]? = some c → (flatE t xs)[i * sz t + j]? = some c
  | [], i, x, j, c, h, _ => by simp at h
  | y :: ys, 0, x, j, c, h, hj => by
    simp at h; subst h
    show ((enc t y) ++ flatE t ys)[0 * sz t + j]? = _
    rw [List.getElem?_append_left (by have := lt_of_getElem? hj; omega)]
    simpa using hj
  | y :: ys, i + 1, x, j, c, h, hj => by
    show ((enc t y) ++ flatE t ys)[(i + 1) * sz t + j]? = _
    have he : (enc t y).length = sz t := enc_length t y
    rw [List.getElem?_append_right (by rw [he, Nat.add_mul]; omega), he]
    have := flatE_get (xs := ys) (i := i) (by simpa using h) hj
    rw [← this]
    congr 1
    rw [Nat.add_mul]; omega

theorem flatE_length {t : ElT} (xs : List (El t)) : (flatE t xs).length = xs.length * sz t := by
  induction xs with
  | nil => simp [flatE]
  | cons x xs ih =>
    show (enc t x ++ flatE t xs).length = _
    rw [List.length_append, ih, enc_length, List.length_cons, Nat.add_mul]; omega

theorem decAll_rel {w : World} {X : Nat → Nat → Prop} {loc : List Loc} {t : ElT} : ∀ {fuel : Nat} {cs : List AV} {xs : List (El t)}, decAll t (chunk fuel (sz t) cs) = some xs →
    ∀ f : Nat → Value, (∀ (j : Nat) c, cs[j]? = some c → RelV w X loc c (f j)) → ∀ (j : Nat) c, (flatE t xs)[j]? = some c → RelV w X loc c (f j)
  | 0, cs, xs, h, f, hf, j, c, hj => by
    simp [chunk, decAll] at h; subst h; simp [flatE] at hj
  | fuel + 1, [], xs, h, f, hf, j, c, hj => by
    simp [chunk, decAll] at h; subst h; simp [flatE] at hj
  | fuel + 1, a :: as, xs, h, f, hf, j, c, hj => by
    unfold chunk at h
    unfold decAll at h
    split at h
    · rename_i x ys hx hys
      cases h
      obtain ⟨hl, hr⟩ := dec_rel (w := w) (X := X) (loc := loc) hx
      have he : (enc t x).length = sz t := enc_length t x
      by_cases hjs : j < sz t
      · refine hr f (fun i z hi => hf i z ?_) j c ?_
        · rw [List.getElem?_take] at hi
          split at hi
          · exact hi
          · cases hi
        · have : (enc t x ++ flatE t ys)[j]? = some c := hj
          rwa [List.getElem?_append_left (by omega)] at this
      · have : (enc t x ++ flatE t ys)[j]? = some c := hj
        rw [List.getElem?_append_right (by omega), he] at this
        have := decAll_rel hys (fun i => f (sz t + i)) (fun i z hi => by rw [List.getElem?_drop] at hi; exact hf _ z hi) (j - sz t) c this
        simpa [show sz t + (j - sz t) = j by omega] using this
    · cases h

theorem decAll_length {t : ElT} : ∀ {l : List (List AV)} {xs : List (El t)}, decAll t l = some xs → xs.length = l.length
  | [], xs, h => by simp [decAll] at h; subst h; rfl
  | c :: cs, xs, h => by
    unfold decAll at h
    split at h
    · rename_i hys
      cases h
      simp [decAll_length hys]
    · cases h

theorem chunk_length {n : Nat} (hn : 0 < n) : ∀ {fuel q : Nat} {cs : List AV}, cs.length = q * n → q ≤ fuel → (chunk fuel n cs).length = q
  | 0, q, _, _, h => by simp [chunk]; omega
  | fuel + 1, q, [], h, _ => by
    have : q = 0 := by
      simp only [List.length_nil] at h
      rcases Nat.mul_eq_zero.1 h.symm with h | h
      · exact h
      · omega
    simp [chunk, this]
  | fuel + 1, 0, c :: cs, h, _ => by simp at h
  | fuel + 1, q + 1, c :: cs, h, hq => by
    unfold chunk
    rw [List.length_cons, chunk_length (q := q) hn (by rw [List.length_drop, h, Nat.add_mul]; omega) (by omega)]

theorem sz_pos (t : ElT) : 0 < sz t := by cases t <;> decide

/-- A row of cells that a list lies in. -/
theorem lst_of_cells {w : World} {X : Nat → Nat → Prop} {loc : List Loc} {t : ElT} {xs : List (El t)} {base : Option Addr} {cap b o : Nat} (f : Nat → Value) (hcap : xs.length ≤ cap)
    (hb : 0 < xs.length → base = some ⟨b, o, none⟩) (hc : ∀ (j : Nat), j < xs.length * sz t → w.cell? ⟨b, o + j, none⟩ = some (f j) ∧ ¬ X b (o + j))
    (hr : ∀ (j : Nat) c, (flatE t xs)[j]? = some c → RelV w X loc c (f j)) : RelV w X loc (.lst t xs) (.slice base xs.length cap) :=
  .lst t xs base xs.length cap b o (fun i j => f (i * sz t + j)) rfl hcap hb
    (fun i x j c hi hj => by
      have h1 := flatE_get hi hj
      have h2 := lt_of_getElem? h1
      rw [flatE_length] at h2
      simpa [Nat.add_assoc] using hc _ h2)
    (fun i x j c hi hj => hr _ _ (flatE_get hi hj))

theorem foldl_zip_set (off : Nat) : ∀ (l : List Value) (k : Nat) (c : Array Value), (((l.zipIdx k).foldl (fun cs (p : Value × Nat) => cs.setIfInBounds (off + p.2) p.1) c).size = c.size) ∧
    ∀ (i : Nat), ((l.zipIdx k).foldl (fun cs (p : Value × Nat) => cs.setIfInBounds (off + p.2) p.1) c)[i]? = if off + k ≤ i ∧ i < off + k + l.length ∧ i < c.size then l[i - (off + k)]? else c[i]?
  | [], k, c => ⟨rfl, fun i => by rw [if_neg (by simp; omega)]; rfl⟩
  | v :: l, k, c => by
    obtain ⟨h1, h2⟩ := foldl_zip_set off l (k + 1) (c.setIfInBounds (off + k) v)
    refine ⟨by simpa [List.zipIdx_cons] using h1, fun i => ?_⟩
    simp only [List.zipIdx_cons, List.foldl_cons]
    rw [h2 i]
    simp only [Array.size_setIfInBounds, List.length_cons]
    by_cases hi : off + (k + 1) ≤ i ∧ i < off + (k + 1) + l.length ∧ i < c.size
    · rw [if_pos hi, if_pos (by omega), show i - (off + k) = (i - (off + (k + 1))) + 1 by omega, List.getElem?_cons_succ]
    · rw [if_neg hi]
      by_cases he : i = off + k
      · subst he
        by_cases hs : off + k < c.size
        · rw [if_pos (by omega)]; simp [hs]
        · rw [if_neg (by omega)]; simp [hs]
      · rw [if_neg (by omega), Array.getElem?_setIfInBounds_ne (by omega)]

theorem fill_rel {w : World} {X : Nat → Nat → Prop} {loc : List Loc} {pl pl' : Nat → Option (Nat × Nat)} (hpl : ∀ i p, pl i = some p → pl' i = some p) :
    ∀ {ps : List (Nat × AV)} {qs : List (Nat × Value)} {cs cs' : List AV} {c : Array Value}, fillEv pl cs ps = some cs' → ps.length = qs.length →
      (∀ (i : Nat) p q, ps[i]? = some p → qs[i]? = some q → p.1 = q.1 ∧ RelV w X loc p.2 q.2) → cs.length = c.size → (∀ (i : Nat) x, cs[i]? = some x → RelV w X loc x (c.getD i Go.undef)) →
      ∃ c', Instr.fill pl' c qs = some c' ∧ cs'.length = c'.size ∧ ∀ (i : Nat) x, cs'[i]? = some x → RelV w X loc x (c'.getD i Go.undef)
  | [], [], cs, cs', c, h, _, _, hn, hr => by cases h; exact ⟨c, rfl, hn, hr⟩
  | [], _ :: _, _, _, _, _, hl, _, _, _ => by simp at hl
  | _ :: _, [], _, _, _, _, hl, _, _, _ => by simp at hl
  | (i, v) :: ps, (i', u) :: qs, cs, cs', c, h, hl, hpq, hn, hr => by
    obtain ⟨h1, h2⟩ := hpq 0 (i, v) (i', u) rfl rfl
    simp only at h1 h2
    subst h1
    unfold fillEv at h
    split at h
    · rename_i off size ds hp hds
      cases hb : (Nat.beq ds.length size && Nat.ble (off + ds.length) cs.length) with
      | false => simp [hb] at h
      | true =>
        simp only [hb, cond_true] at h
        simp only [Bool.and_eq_true] at hb
        have hb1 := Nat.eq_of_beq_eq_true hb.1
        have hb2 := Nat.le_of_ble_eq_true hb.2
        obtain ⟨g1, g2⟩ := cells_rel hds h2
        have hz : u.cells.zipIdx.foldl (fun cs (p : Value × Nat) => cs.setIfInBounds (off + p.2) p.1) c = (u.cells.toList.zipIdx 0).foldl (fun cs (p : Value × Nat) => cs.setIfInBounds (off + p.2) p.1) c := by
          rw [← Array.foldl_toList, Array.toList_zipIdx]
        obtain ⟨k1, k2⟩ := foldl_zip_set off u.cells.toList 0 c
        obtain ⟨c', m1, m2⟩ := fill_rel hpl (qs := qs) (c := u.cells.zipIdx.foldl (fun cs (p : Value × Nat) => cs.setIfInBounds (off + p.2) p.1) c) h (by simpa using hl)
          (fun j p q hj hk => hpq (j + 1) p q (by simpa using hj) (by simpa using hk)) (by rw [hz, k1]; simp [splice]; omega) (fun j x hj => by
            rw [hz]
            have hjlt : j < cs.length := by have := lt_of_getElem? hj; simp [splice] at this; omega
            have : ((u.cells.toList.zipIdx 0).foldl (fun cs (p : Value × Nat) => cs.setIfInBounds (off + p.2) p.1) c).getD j Go.undef =
                if off ≤ j ∧ j < off + ds.length then u.cells.getD (j - off) Go.undef else c.getD j Go.undef := by
              simp only [Array.getD_eq_getD_getElem?]
              rw [k2 j]
              have hlen : u.cells.toList.length = ds.length := by simp [g1]
              by_cases hin : off ≤ j ∧ j < off + ds.length
              · rw [if_pos hin, if_pos (by rw [hlen]; omega)]; simp
              · rw [if_neg hin, if_neg (by rw [hlen]; omega)]
            rw [this]
            unfold splice at hj
            by_cases hin : off ≤ j ∧ j < off + ds.length
            · rw [if_pos hin]
              rw [List.getElem?_append_right (by simp; omega), List.getElem?_append_left (by simp; omega)] at hj
              refine g2 _ _ ?_
              rw [← hj]; congr 1
              simp; omega
            · rw [if_neg hin]
              by_cases hlo : j < off
              · rw [List.getElem?_append_left (by simp; omega), List.getElem?_take_of_lt hlo] at hj
                exact hr j x hj
              · rw [List.getElem?_append_right (by simp; omega), List.getElem?_append_right (by simp; omega), List.getElem?_drop] at hj
                refine hr j x ?_
                rw [← hj]; congr 1
                simp; omega)
        refine ⟨c', ?_, m2⟩
        unfold Instr.fill
        rw [hpl i _ hp]
        simp only
        rw [if_neg (by rw [Bool.or_eq_true, not_or]; constructor <;> simp <;> omega)]
        exact m1
    · cases h

end Go.Ull
