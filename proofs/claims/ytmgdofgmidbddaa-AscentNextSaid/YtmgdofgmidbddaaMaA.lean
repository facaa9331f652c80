/- Plain laws: the least multiple whose remainder lies between two bounds, and the greatest common divisor. -/
import Derived.Test.YtmgdofgmidbddaaFrV
import Derived.IntWalk
namespace Go.Ull.Ma

theorem wrap_in {x : Int} (h : -9223372036854775808 ≤ x ∧ x ≤ 9223372036854775807) : IntKind.i64.wrap x = x := IntWalk.i64_in x h

theorem mod_in {n m : Int} (h1 : 0 < m) (h2 : m ≤ 1073741824) : IntKind.i64.wrap (n.tmod m + m) = n.tmod m + m ∧ (n.tmod m + m).tmod m = n % m := by
  have a1 := Int.tmod_lt_of_pos n h1
  have a2 : -m < n.tmod m := by
    have := Int.tmod_lt_of_pos (-n) h1
    rw [Int.neg_tmod] at this
    omega
  refine ⟨wrap_in ⟨by omega, by omega⟩, ?_⟩
  rw [Int.tmod_eq_emod_of_nonneg (by omega), Int.add_emod_right]
  have : (n.tmod m) % m = n % m := by
    have := Int.mul_tdiv_add_tmod n m
    conv => rhs; rw [← this]
    rw [Int.add_comm, Int.add_mul_emod_self_left]
  exact this


theorem div_le {x c : Int} {y : Int} (hc : 0 < c) : y ≤ x / c ↔ y * c ≤ x := Int.le_ediv_iff_mul_le hc

/-- The least number from 0 on for which something is true; -1: there is none. -/
def Least (In : Int → Prop) (r : Int) : Prop := (r = -1 ∧ ∀ j, 0 ≤ j → ¬ In j) ∨ (0 ≤ r ∧ In r ∧ ∀ j, 0 ≤ j → j < r → ¬ In j)

def Hit (a m lo hi j : Int) : Prop := lo ≤ (a * j) % m ∧ (a * j) % m ≤ hi

theorem hit_period {a m lo hi j : Int} (h : Hit a m lo hi j) : Hit a m lo hi (j - m) := by
  unfold Hit at *
  have : a * (j - m) = a * j + m * (-a) := by rw [Int.mul_sub, Int.mul_neg, Int.mul_comm m a]; omega
  rw [this, Int.add_mul_emod_self_left]; exact h

theorem least_lt {a m lo hi r : Int} (hm : 0 < m) (h : Least (Hit a m lo hi) r) : r < m := by
  rcases h with ⟨rfl, _⟩ | ⟨h0, h1, h2⟩
  · omega
  · by_cases hr : r < m
    · exact hr
    · exact absurd (hit_period h1) (h2 (r - m) (by omega) (by omega))

theorem hit_zero {a m hi : Int} (hh : 0 ≤ hi) : Least (Hit a m 0 hi) 0 := .inr ⟨by omega, ⟨by simp, by simpa using hh⟩, fun j h1 h2 => by omega⟩

theorem hit_none {m lo hi : Int} (h : 0 < lo) : Least (Hit 0 m lo hi) (-1) := .inl ⟨rfl, fun j _ hj => by
  unfold Hit at hj; simp at hj; omega⟩

/-- The first multiple that is not below. -/
theorem ceil_facts {a x : Int} (ha : 0 < a) : x ≤ a * ((x + a - 1) / a) ∧ ∀ j, x ≤ a * j → (x + a - 1) / a ≤ j := by
  have h1 := Int.mul_ediv_add_emod (x + a - 1) a
  have h2 := Int.emod_lt_of_pos (x + a - 1) ha
  have h3 := Int.emod_nonneg (x + a - 1) (show a ≠ 0 by omega)
  refine ⟨by omega, fun j hj => ?_⟩
  have : (x + a - 1) / a < j + 1 := Int.ediv_lt_of_lt_mul ha (by rw [Int.add_mul, Int.mul_comm j a]; omega)
  omega

theorem hit_direct {a m lo hi : Int} (ha : 0 < a) (hlo : 0 < lo) (hhi : hi < m) (h : a * ((lo + a - 1) / a) ≤ hi) : Least (Hit a m lo hi) ((lo + a - 1) / a) := by
  obtain ⟨h1, h2⟩ := ceil_facts (x := lo) ha
  have h0 : 0 ≤ (lo + a - 1) / a := Int.ediv_nonneg (by omega) (by omega)
  refine .inr ⟨h0, ?_, fun j hj0 hj hit => ?_⟩
  · unfold Hit
    rw [Int.emod_eq_of_lt (by omega) (by omega)]
    exact ⟨h1, h⟩
  · unfold Hit at hit
    have hlt : a * j < lo := by
      by_cases hc : lo ≤ a * j
      · have := h2 j hc; omega
      · omega
    rw [Int.emod_eq_of_lt (Int.mul_nonneg (by omega) hj0) (by omega)] at hit
    omega

/-- No multiple between the bounds: which rounds about m lead to one. -/
theorem hit_step {a m lo hi y : Int} (ha : 0 < a) (hle : lo ≤ hi) (h : hi < a * ((lo + a - 1) / a)) :
    Hit (m % a) a ((-hi) % a) ((-lo) % a) y ↔ ∃ k, lo + m * y ≤ a * k ∧ a * k ≤ hi + m * y := by
  obtain ⟨h1, h2⟩ := ceil_facts (x := lo) ha
  generalize hq : (lo + a - 1) / a = q at *
  have hlow : a * (q - 1) < lo := by
    by_cases hc : lo ≤ a * (q - 1)
    · have := h2 _ hc; omega
    · omega
  rw [Int.mul_sub, Int.mul_one] at hlow
  have e1 : (-hi) % a = a * q - hi := by
    have : -hi = (a * q - hi) + a * (-q) := by rw [Int.mul_neg]; omega
    rw [this, Int.add_mul_emod_self_left, Int.emod_eq_of_lt (by omega) (by omega)]
  have e2 : (-lo) % a = a * q - lo := by
    have : -lo = (a * q - lo) + a * (-q) := by rw [Int.mul_neg]; omega
    rw [this, Int.add_mul_emod_self_left, Int.emod_eq_of_lt (by omega) (by omega)]
  have e3 : (m % a * y) % a = (m * y) % a := by rw [Int.mul_emod, Int.emod_emod, ← Int.mul_emod]
  unfold Hit
  rw [e1, e2, e3]
  have g1 := Int.mul_ediv_add_emod (m * y) a
  have g2 := Int.emod_lt_of_pos (m * y) ha
  have g3 := Int.emod_nonneg (m * y) (show a ≠ 0 by omega)
  generalize m * y / a = z at *
  generalize m * y % a = s at *
  constructor
  · intro ⟨h3, h4⟩
    refine ⟨q + z, ?_, ?_⟩
    · rw [Int.mul_add]; omega
    · rw [Int.mul_add]; omega
  · rintro ⟨k, h3, h4⟩
    have hk : k = q + z := by
      have l1 : k ≤ q + z := by
        by_cases hc : k ≤ q + z
        · exact hc
        · have := Int.mul_le_mul_of_nonneg_left (show q + z + 1 ≤ k by omega) (show 0 ≤ a by omega)
          rw [Int.mul_add, Int.mul_add] at this
          omega
      have l2 : q + z ≤ k := by
        by_cases hc : q + z ≤ k
        · exact hc
        · have := Int.mul_le_mul_of_nonneg_left (show k ≤ q + z - 1 by omega) (show 0 ≤ a by omega)
          rw [Int.mul_sub, Int.mul_add] at this
          omega
      omega
    subst hk
    rw [Int.mul_add] at h3 h4
    omega

theorem hit_rec {a m lo hi r : Int} (ha : 0 < a) (hm : a < m) (hlo : 0 < lo) (hle : lo ≤ hi) (hhi : hi < m) (h : hi < a * ((lo + a - 1) / a)) (hr : Least (Hit (m % a) a ((-hi) % a) ((-lo) % a)) r) :
    (r < 0 ∧ Least (Hit a m lo hi) (-1)) ∨ (0 ≤ r ∧ Least (Hit a m lo hi) ((lo + m * r + a - 1) / a)) := by
  have round : ∀ j, 0 ≤ j → Hit a m lo hi j → 0 ≤ (a * j) / m ∧ Hit (m % a) a ((-hi) % a) ((-lo) % a) ((a * j) / m) ∧ lo + m * ((a * j) / m) ≤ a * j := fun j hj hit => by
    have g1 := Int.mul_ediv_add_emod (a * j) m
    unfold Hit at hit
    refine ⟨Int.ediv_nonneg (Int.mul_nonneg (by omega) hj) (by omega), (hit_step ha hle h).2 ⟨j, by omega, by omega⟩, by omega⟩
  rcases hr with ⟨rfl, hn⟩ | ⟨h0, h1, h2⟩
  · refine .inl ⟨by omega, .inl ⟨rfl, fun j hj hit => ?_⟩⟩
    obtain ⟨g1, g2, _⟩ := round j hj hit
    exact hn _ g1 g2
  · refine .inr ⟨h0, .inr ?_⟩
    obtain ⟨k, g1, g2⟩ := (hit_step ha hle h).1 h1
    obtain ⟨c1, c2⟩ := ceil_facts (x := lo + m * r) ha
    have hk := c2 k g1
    have hmr : 0 ≤ m * r := Int.mul_nonneg (by omega) h0
    refine ⟨Int.ediv_nonneg (by omega) (by omega), ?_, fun j hj0 hj hit => ?_⟩
    · have := Int.mul_le_mul_of_nonneg_left hk (show 0 ≤ a by omega)
      unfold Hit
      have e : a * ((lo + m * r + a - 1) / a) = (a * ((lo + m * r + a - 1) / a) - m * r) + m * r := by omega
      rw [e, Int.add_mul_emod_self_left, Int.emod_eq_of_lt (by omega) (by omega)]
      omega
    · obtain ⟨g3, g4, g5⟩ := round j hj0 hit
      have hle2 : r ≤ (a * j) / m := by
        by_cases hc : r ≤ (a * j) / m
        · exact hc
        · exact absurd g4 (h2 _ g3 (by omega))
      have := Int.mul_le_mul_of_nonneg_left hle2 (show 0 ≤ m by omega)
      have := c2 j (by omega)
      omega

theorem half_prod {a m : Int} (ha : 0 < a) (hm : a < m) : 2 * (m % a * a) < a * m ∧ 0 ≤ m % a ∧ m % a < a := by
  have g1 := Int.mul_ediv_add_emod m a
  have g2 := Int.emod_lt_of_pos m ha
  have g3 := Int.emod_nonneg m (show a ≠ 0 by omega)
  have g4 : 1 ≤ m / a := by rw [Int.le_ediv_iff_mul_le ha]; omega
  have := Int.mul_le_mul_of_nonneg_left g4 (show 0 ≤ a by omega)
  have h5 : 2 * (m % a) < m := by omega
  have := Int.mul_lt_mul_of_pos_left h5 ha
  refine ⟨?_, g3, g2⟩
  rw [Int.mul_comm (m % a) a]
  have e : a * (2 * (m % a)) = 2 * (a * (m % a)) := by rw [Int.mul_left_comm]
  omega

end Go.Ull.Ma
