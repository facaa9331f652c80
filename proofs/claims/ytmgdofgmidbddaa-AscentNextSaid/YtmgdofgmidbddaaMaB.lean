/- Plain laws: two windows, and the first time in both. -/
import Derived.Test.YtmgdofgmidbddaaMaA
namespace Go.Ull.Ma

def InW (w : Window) (x : Int) : Prop := (x - w.fr) % w.period < w.len
def Ok (w : Window) : Prop := 1 ≤ w.period ∧ w.period ≤ 1073741824 ∧ -1073741824 ≤ w.fr ∧ w.fr ≤ 1073741824 ∧ 0 ≤ w.len ∧ w.len ≤ w.period
def Both (a b : Window) (x : Int) : Prop := InW a x ∧ InW b x

/-- The first time from t on that is in a window. -/
def firstIn (b : Window) (t : Int) : Int := if (t - b.fr) % b.period < b.len then t else t + b.period - (t - b.fr) % b.period

theorem shift_mod {x f p i : Int} (h0 : 0 ≤ (x - f) % p + i) (h1 : (x - f) % p + i < p) : (x + i - f) % p = (x - f) % p + i := by
  have : x + i - f = (x - f) + i := by omega
  rw [this, Int.add_emod, ← Int.emod_eq_of_lt h0 h1, Int.emod_eq_of_lt h0 h1]
  conv => lhs; rw [← Int.add_emod]
  have g := Int.mul_ediv_add_emod (x - f) p
  have e : (x - f) + i = ((x - f) % p + i) + p * ((x - f) / p) := by omega
  rw [e, Int.add_mul_emod_self_left, Int.emod_eq_of_lt h0 h1]

theorem shift_mod2 {x f p i : Int} (h0 : p ≤ (x - f) % p + i) (h1 : (x - f) % p + i < 2 * p) : (x + i - f) % p = (x - f) % p + i - p := by
  have g := Int.mul_ediv_add_emod (x - f) p
  have e : x + i - f = ((x - f) % p + i - p) + p * ((x - f) / p + 1) := by rw [Int.mul_add]; omega
  rw [e, Int.add_mul_emod_self_left, Int.emod_eq_of_lt (by omega) (by omega)]

theorem firstIn_spec {b : Window} (hb : Ok b) (hl : 0 < b.len) (t : Int) : t ≤ firstIn b t ∧ firstIn b t < t + b.period ∧ InW b (firstIn b t) ∧ ∀ y, t ≤ y → y < firstIn b t → ¬ InW b y := by
  obtain ⟨h1, h2, h3, h4, h5, h6⟩ := hb
  have g1 := Int.emod_lt_of_pos (t - b.fr) (show 0 < b.period by omega)
  have g2 := Int.emod_nonneg (t - b.fr) (show b.period ≠ 0 by omega)
  unfold firstIn
  split
  · rename_i h
    exact ⟨by omega, by omega, h, fun y h7 h8 => by omega⟩
  · rename_i h
    refine ⟨by omega, by omega, ?_, fun y h7 h8 hy => ?_⟩
    · unfold InW
      have := shift_mod2 (x := t) (f := b.fr) (p := b.period) (i := b.period - (t - b.fr) % b.period) (by omega) (by omega)
      rw [show t + b.period - (t - b.fr) % b.period = t + (b.period - (t - b.fr) % b.period) by omega, this]
      omega
    · unfold InW at hy
      have := shift_mod (x := t) (f := b.fr) (p := b.period) (i := y - t) (by omega) (by omega)
      rw [show t + (y - t) = y by omega] at this
      omega

theorem firstIn_le {b : Window} (hb : Ok b) {t y : Int} (h : t ≤ y) (hy : InW b y) : firstIn b t ≤ y := by
  have hl : 0 < b.len := by
    obtain ⟨h1, _⟩ := hb
    unfold InW at hy
    have := Int.emod_nonneg (y - b.fr) (show b.period ≠ 0 by omega)
    omega
  obtain ⟨_, _, _, g⟩ := firstIn_spec hb hl t
  by_cases hc : firstIn b t ≤ y
  · exact hc
  · exact absurd hy (g y h (by omega))

/-- A pass of a: s is a beginning. -/
theorem pass_in {a : Window} (ha : Ok a) {s y : Int} (hs : (s - a.fr) % a.period = 0) (h0 : s ≤ y) (h1 : y < s + a.period) : InW a y ↔ y < s + a.len := by
  obtain ⟨h2, h3, _⟩ := ha
  have := shift_mod (x := s) (f := a.fr) (p := a.period) (i := y - s) (by omega) (by omega)
  rw [show s + (y - s) = y by omega, hs] at this
  unfold InW
  omega

theorem begin_zero {w : Window} (hw : Ok w) (t : Int) : (t - (t - w.fr) % w.period - w.fr) % w.period = 0 := by
  obtain ⟨h1, _⟩ := hw
  have g := Int.mul_ediv_add_emod (t - w.fr) w.period
  have : t - (t - w.fr) % w.period - w.fr = w.period * ((t - w.fr) / w.period) := by omega
  rw [this, Int.mul_emod_right]

theorem begin_add {w : Window} {s k : Int} (h : (s - w.fr) % w.period = 0) : (s + w.period * k - w.fr) % w.period = 0 := by
  have : s + w.period * k - w.fr = (s - w.fr) + w.period * k := by omega
  rw [this, Int.add_mul_emod_self_left, h]

/-- Does a pass of a meet b? -/
theorem pass_meets {b : Window} (hb : Ok b) {la s : Int} (hla : 0 < la) (hlb : 0 < b.len) :
    (∃ y, s ≤ y ∧ y < s + la ∧ InW b y) ↔ (b.period ≤ la + b.len - 1 ∨ ((s - b.fr) % b.period + la - 1) % b.period < la + b.len - 1) := by
  obtain ⟨h1, h2, h3, h4, h5, h6⟩ := hb
  have g1 := Int.emod_lt_of_pos (s - b.fr) (show 0 < b.period by omega)
  have g2 := Int.emod_nonneg (s - b.fr) (show b.period ≠ 0 by omega)
  constructor
  · rintro ⟨y, h7, h8, h9⟩
    by_cases hr : b.period ≤ la + b.len - 1
    · exact .inl hr
    · refine .inr ?_
      unfold InW at h9
      by_cases hc : (s - b.fr) % b.period + (y - s) < b.period
      · have := shift_mod (x := s) (f := b.fr) (p := b.period) (i := y - s) (by omega) hc
        rw [show s + (y - s) = y by omega] at this
        rw [Int.emod_eq_of_lt (by omega) (by omega)]
        omega
      · have e : (s - b.fr) % b.period + la - 1 = ((s - b.fr) % b.period + la - 1 - b.period) + b.period * 1 := by omega
        rw [e, Int.add_mul_emod_self_left, Int.emod_eq_of_lt (by omega) (by omega)]
        omega
  · intro h
    by_cases hu : (s - b.fr) % b.period < b.len
    · exact ⟨s, by omega, by omega, hu⟩
    · have key : b.period - (s - b.fr) % b.period < la := by
        rcases h with h | h
        · omega
        · by_cases hc : (s - b.fr) % b.period + la - 1 < b.period
          · rw [Int.emod_eq_of_lt (by omega) hc] at h; omega
          · omega
      refine ⟨s + (b.period - (s - b.fr) % b.period), by omega, by omega, ?_⟩
      unfold InW
      rw [shift_mod2 (by omega) (by omega)]
      omega

/-- The passes that meet b, by the remainder of their number times the period. -/
theorem pass_hit {b : Window} (hb : Ok b) {la p s k u lo hi : Int} (hla : 0 < la) (hlb : 0 < b.len) (hr : la + b.len - 1 < b.period)
    (hu : u = ((s - b.fr) % b.period + la - 1) % b.period) (hlo : lo = (-u) % b.period) (hhi : hi = (la + b.len - 1 - 1 - u) % b.period) :
    (lo ≤ hi → (((s + p * k - b.fr) % b.period + la - 1) % b.period < la + b.len - 1 ↔ Hit (p % b.period) b.period lo hi k)) ∧ (hi < lo → ((s - b.fr) % b.period + la - 1) % b.period < la + b.len - 1) := by
  obtain ⟨h1, h2, h3, h4, h5, h6⟩ := hb
  have a1 := Int.emod_lt_of_pos ((s - b.fr) % b.period + la - 1) (show 0 < b.period by omega)
  have a2 := Int.emod_nonneg ((s - b.fr) % b.period + la - 1) (show b.period ≠ 0 by omega)
  have v1 := Int.emod_lt_of_pos (p * k) (show 0 < b.period by omega)
  have v2 := Int.emod_nonneg (p * k) (show b.period ≠ 0 by omega)
  have e0 : ((s + p * k - b.fr) % b.period + la - 1) % b.period = (u + (p * k) % b.period) % b.period := by
    have g1 := Int.mul_ediv_add_emod (s - b.fr) b.period
    have g2 := Int.mul_ediv_add_emod (s + p * k - b.fr) b.period
    have g3 := Int.mul_ediv_add_emod (p * k) b.period
    have g4 := Int.mul_ediv_add_emod ((s - b.fr) % b.period + la - 1) b.period
    rw [← hu] at g4
    have e : (s + p * k - b.fr) % b.period + la - 1 = (u + (p * k) % b.period) + b.period * ((s - b.fr) / b.period + p * k / b.period + ((s - b.fr) % b.period + la - 1) / b.period - (s + p * k - b.fr) / b.period) := by
      rw [Int.mul_sub, Int.mul_add, Int.mul_add]; omega
    rw [e, Int.add_mul_emod_self_left]
  have e4 : (p % b.period * k) % b.period = (p * k) % b.period := by rw [Int.mul_emod, Int.emod_emod, ← Int.mul_emod]
  unfold Hit
  rw [e0, e4, ← hu]
  rw [← hu] at a1 a2
  generalize (p * k) % b.period = v at *
  generalize b.period = q at *
  have l1 : lo = if u = 0 then 0 else q - u := by
    split
    · rename_i h; rw [hlo, h]; simp
    · rw [hlo, show -u = (q - u) + q * (-1) by omega, Int.add_mul_emod_self_left, Int.emod_eq_of_lt (by omega) (by omega)]
  have l2 : hi = if u ≤ la + b.len - 1 - 1 then la + b.len - 1 - 1 - u else q + (la + b.len - 1 - 1 - u) := by
    split
    · rw [hhi, Int.emod_eq_of_lt (by omega) (by omega)]
    · have : (la + b.len - 1 - 1 - u) % q = ((q + (la + b.len - 1 - 1 - u)) + q * (-1)) % q := by congr 1; omega
      rw [hhi, this, Int.add_mul_emod_self_left, Int.emod_eq_of_lt (by omega) (by omega)]
  have l3 : (u + v) % q = if u + v < q then u + v else u + v - q := by
    split
    · rw [Int.emod_eq_of_lt (by omega) (by omega)]
    · have : (u + v) % q = ((u + v - q) + q * 1) % q := by congr 1; omega
      rw [this, Int.add_mul_emod_self_left, Int.emod_eq_of_lt (by omega) (by omega)]
  rw [l3]
  clear hlo hhi e0 e4 l3 hu
  refine ⟨fun h => ?_, fun h => ?_⟩
  · split <;> split at l1 <;> split at l2 <;> omega
  · split at l1 <;> split at l2 <;> omega

/-- The first time from t on in both, or none. -/
def NextSpec (a b : Window) (t x e : Int) : Prop := ((∀ y, t ≤ y → ¬ Both a b y) ∧ x = 0 ∧ e = 7) ∨ (t ≤ x ∧ Both a b x ∧ (∀ y, t ≤ y → y < x → ¬ Both a b y) ∧ e = 0)

theorem NextSpec.unique {a b : Window} {t x e x' e' : Int} (h : NextSpec a b t x e) (h' : NextSpec b a t x' e') : x = x' ∧ e = e' := by
  rcases h with ⟨h1, rfl, rfl⟩ | ⟨h1, h2, h3, rfl⟩ <;> rcases h' with ⟨g1, rfl, rfl⟩ | ⟨g1, g2, g3, rfl⟩
  · exact ⟨rfl, rfl⟩
  · exact absurd ⟨g2.2, g2.1⟩ (h1 _ g1)
  · exact absurd ⟨h2.2, h2.1⟩ (g1 _ h1)
  · refine ⟨?_, rfl⟩
    by_cases hx : x < x'
    · exact absurd ⟨h2.2, h2.1⟩ (g3 _ h1 hx)
    · by_cases hx2 : x' < x
      · exact absurd ⟨g2.2, g2.1⟩ (h3 _ g1 hx2)
      · omega

/-- A meeting in the pass that is under way. -/
theorem next_here {a b : Window} (ha : Ok a) (hb : Ok b) (hl : 0 < b.len) {t : Int} (h : firstIn b t < t - (t - a.fr) % a.period + a.len) : NextSpec a b t (firstIn b t) 0 := by
  obtain ⟨g1, g2, g3, g4⟩ := firstIn_spec hb hl t
  have z := begin_zero ha t
  have m1 := Int.emod_nonneg (t - a.fr) (show a.period ≠ 0 by have := ha.1; omega)
  have m2 := ha.2.2.2.2.2
  exact .inr ⟨g1, ⟨(pass_in ha z (by omega) (by omega)).2 h, g3⟩, fun y h1 h2 h3 => g4 y h1 h2 h3.2, rfl⟩

/-- No meeting from t on before the next pass. -/
theorem not_here {a b : Window} (ha : Ok a) (hb : Ok b) {t : Int} (h : ¬ firstIn b t < t - (t - a.fr) % a.period + a.len) {y : Int} (h1 : t ≤ y) (hy : Both a b y) : t - (t - a.fr) % a.period + a.period ≤ y := by
  by_cases hc : t - (t - a.fr) % a.period + a.period ≤ y
  · exact hc
  · have m1 := Int.emod_nonneg (t - a.fr) (show a.period ≠ 0 by have := ha.1; omega)
    have := (pass_in ha (begin_zero ha t) (by omega) (by omega)).1 hy.1
    have := firstIn_le hb h1 hy.2
    omega

theorem len_pos {w : Window} (hw : Ok w) {y : Int} (h : InW w y) : 0 < w.len := by
  unfold InW at h
  have := Int.emod_nonneg (y - w.fr) (show w.period ≠ 0 by have := hw.1; omega)
  omega

/-- The pass of a time. -/
theorem pass_of {a : Window} (ha : Ok a) {s y : Int} (hs : (s - a.fr) % a.period = 0) (h : s ≤ y) (hy : InW a y) : ∃ k, 0 ≤ k ∧ s + a.period * k ≤ y ∧ y < s + a.period * k + a.len := by
  have g1 := Int.mul_ediv_add_emod (y - s) a.period
  have g2 := Int.emod_lt_of_pos (y - s) (show 0 < a.period by have := ha.1; omega)
  have g3 := Int.emod_nonneg (y - s) (show a.period ≠ 0 by have := ha.1; omega)
  refine ⟨(y - s) / a.period, Int.ediv_nonneg (by omega) (by have := ha.1; omega), by omega, ?_⟩
  exact (pass_in ha (begin_add (k := (y - s) / a.period) hs) (by omega) (by omega)).1 hy

/-- A meeting in a later pass. -/
theorem next_later {a b : Window} (ha : Ok a) (hb : Ok b) (hlb : 0 < b.len) {t s k : Int} (hs : s = t - (t - a.fr) % a.period + a.period) (h : ¬ firstIn b t < t - (t - a.fr) % a.period + a.len) (hk : 0 ≤ k)
    (hm : ∃ y, s + a.period * k ≤ y ∧ y < s + a.period * k + a.len ∧ InW b y) (hn : ∀ j, 0 ≤ j → j < k → ¬ ∃ y, s + a.period * j ≤ y ∧ y < s + a.period * j + a.len ∧ InW b y) :
    NextSpec a b t (firstIn b (s + a.period * k)) 0 := by
  have hz : (s - a.fr) % a.period = 0 := by
    have := begin_add (k := 1) (begin_zero ha t)
    rw [Int.mul_one, ← hs] at this; exact this
  have m0 := ha.1
  have m1 := Int.emod_lt_of_pos (t - a.fr) (show 0 < a.period by omega)
  have m2 := ha.2.2.2.2.2
  obtain ⟨y0, h1, h2, h3⟩ := hm
  obtain ⟨g1, g2, g3, g4⟩ := firstIn_spec hb hlb (s + a.period * k)
  have hle := firstIn_le hb h1 h3
  have hpk : 0 ≤ a.period * k := Int.mul_nonneg (by omega) hk
  refine .inr ⟨by omega, ⟨(pass_in ha (begin_add hz) g1 (by omega)).2 (by omega), g3⟩, fun y h4 h5 h6 => ?_, rfl⟩
  have h7 := not_here ha hb h h4 h6
  rw [← hs] at h7
  obtain ⟨j, j0, j1, j2⟩ := pass_of ha hz h7 h6.1
  by_cases hj : j < k
  · exact hn j j0 hj ⟨y, j1, j2, h6.2⟩
  · have := Int.mul_le_mul_of_nonneg_left (show k ≤ j by omega) (show 0 ≤ a.period by omega)
    exact g4 y (by omega) h5 h6.2

/-- No meeting at all. -/
theorem next_none {a b : Window} (ha : Ok a) (hb : Ok b) {t s : Int} (hs : s = t - (t - a.fr) % a.period + a.period) (h : ¬ firstIn b t < t - (t - a.fr) % a.period + a.len)
    (hn : ∀ j, 0 ≤ j → ¬ ∃ y, s + a.period * j ≤ y ∧ y < s + a.period * j + a.len ∧ InW b y) : NextSpec a b t 0 7 := by
  have hz : (s - a.fr) % a.period = 0 := by
    have := begin_add (k := 1) (begin_zero ha t)
    rw [Int.mul_one, ← hs] at this; exact this
  refine .inl ⟨fun y h4 h6 => ?_, rfl, rfl⟩
  have h7 := not_here ha hb h h4 h6
  rw [← hs] at h7
  obtain ⟨j, j0, j1, j2⟩ := pass_of ha hz h7 h6.1
  exact hn j j0 ⟨y, j1, j2, h6.2⟩

end Go.Ull.Ma
