/- Plain laws: how often two windows meet. -/
import Derived.Test.YtmgdofgmidbddaaMaB
namespace Go.Ull.Ma

theorem bezout_nat : ∀ a b : Nat, ∃ x y : Int, (a : Int) * x + (b : Int) * y = (Nat.gcd a b : Nat) := fun a b => by
  induction a, b using Nat.gcd.induction with
  | H0 n => exact ⟨0, 1, by simp⟩
  | H1 m n hm ih =>
    obtain ⟨x, y, h⟩ := ih
    rw [Nat.gcd_rec]
    refine ⟨y - (n / m : Nat) * x, x, ?_⟩
    rw [← h]
    have e : (n : Int) = ((n % m : Nat) : Int) + (m : Int) * ((n / m : Nat) : Int) := by
      have := Nat.mod_add_div n m
      exact_mod_cast this.symm
    conv => lhs; rw [e]
    rw [Int.mul_sub, Int.add_mul, Int.mul_assoc]
    omega

theorem bezout {p q : Int} (hp : 0 ≤ p) (hq : 0 ≤ q) : ∃ x y : Int, p * x + q * y = (Int.gcd p q : Nat) := by
  obtain ⟨x, y, h⟩ := bezout_nat p.toNat q.toNat
  refine ⟨x, y, ?_⟩
  rw [Int.toNat_of_nonneg hp, Int.toNat_of_nonneg hq] at h
  rw [h]
  congr 1
  unfold Int.gcd
  congr 1 <;> omega

theorem both_iff {a b : Window} (ha : Ok a) (hb : Ok b) : (∃ y, Both a b y) ↔ ∃ i j, 0 ≤ i ∧ i < a.len ∧ 0 ≤ j ∧ j < b.len ∧ ((Int.gcd a.period b.period : Nat) : Int) ∣ (a.fr + i) - (b.fr + j) := by
  have hp := ha.1
  have hq := hb.1
  have la := ha.2.2.2.2.2
  have lb := hb.2.2.2.2.2
  constructor
  · rintro ⟨y, h1, h2⟩
    unfold InW at h1 h2
    refine ⟨(y - a.fr) % a.period, (y - b.fr) % b.period, Int.emod_nonneg _ (by omega), h1, Int.emod_nonneg _ (by omega), h2, ?_⟩
    have g1 := Int.mul_ediv_add_emod (y - a.fr) a.period
    have g2 := Int.mul_ediv_add_emod (y - b.fr) b.period
    have e : a.fr + (y - a.fr) % a.period - (b.fr + (y - b.fr) % b.period) = b.period * ((y - b.fr) / b.period) - a.period * ((y - a.fr) / a.period) := by omega
    rw [e]
    exact Int.dvd_sub (Int.dvd_mul_of_dvd_left (Int.gcd_dvd_right ..)) (Int.dvd_mul_of_dvd_left (Int.gcd_dvd_left ..))
  · rintro ⟨i, j, h1, h2, h3, h4, c, hc⟩
    obtain ⟨x, y, hxy⟩ := bezout (p := a.period) (q := b.period) (by omega) (by omega)
    refine ⟨a.fr + i - a.period * (x * c), ?_, ?_⟩
    · unfold InW
      rw [show a.fr + i - a.period * (x * c) - a.fr = i + a.period * (-(x * c)) by rw [Int.mul_neg]; omega, Int.add_mul_emod_self_left, Int.emod_eq_of_lt h1 (by omega)]
      exact h2
    · unfold InW
      have e : a.fr + i - a.period * (x * c) - b.fr = j + b.period * (y * c) := by
        have : a.period * (x * c) + b.period * (y * c) = ((Int.gcd a.period b.period : Nat) : Int) * c := by
          rw [← hxy, Int.add_mul, Int.mul_assoc, Int.mul_assoc]
        omega
      rw [e, Int.add_mul_emod_self_left, Int.emod_eq_of_lt h3 (by omega)]
      exact h4

/-- Places in common, modulo g. -/
def sharedV (fr long other wide g : Int) : Int :=
  let at_ := (other - fr) % g
  max 0 (min long (at_ + wide) - at_) + max 0 (min long (at_ + wide - g))

theorem at_sym {f h g : Int} (hg : 0 < g) : (f - h) % g = if (h - f) % g = 0 then 0 else g - (h - f) % g := by
  have g1 := Int.mul_ediv_add_emod (h - f) g
  have g2 := Int.emod_lt_of_pos (h - f) hg
  have g3 := Int.emod_nonneg (h - f) (show g ≠ 0 by omega)
  split
  · rename_i hz
    have : f - h = 0 + g * (-((h - f) / g)) := by rw [Int.mul_neg]; omega
    rw [this, Int.add_mul_emod_self_left]; simp
  · have : f - h = (g - (h - f) % g) + g * (-((h - f) / g) - 1) := by rw [Int.mul_sub, Int.mul_neg]; omega
    rw [this, Int.add_mul_emod_self_left, Int.emod_eq_of_lt (by omega) (by omega)]

theorem shared_sym {fr long other wide g : Int} (hg : 0 < g) (h1 : 0 ≤ long) (h2 : long < g) (h3 : 0 ≤ wide) (h4 : wide < g) : sharedV fr long other wide g = sharedV other wide fr long g := by
  have g2 := Int.emod_lt_of_pos (other - fr) hg
  have g3 := Int.emod_nonneg (other - fr) (show g ≠ 0 by omega)
  unfold sharedV
  rw [at_sym (f := fr) (h := other) hg]
  generalize (other - fr) % g = u at *
  show max 0 (min long (u + wide) - u) + max 0 (min long (u + wide - g)) = max 0 (min wide ((if u = 0 then 0 else g - u) + long) - (if u = 0 then 0 else g - u)) + max 0 (min wide ((if u = 0 then 0 else g - u) + long - g))
  split <;> omega

theorem shared_bound {fr long other wide g : Int} (hg : 0 < g) (h1 : 0 ≤ long) (h2 : long < g) (h3 : 0 ≤ wide) (h4 : wide < g) : 0 ≤ sharedV fr long other wide g ∧ sharedV fr long other wide g ≤ long ∧ sharedV fr long other wide g ≤ wide := by
  have g2 := Int.emod_lt_of_pos (other - fr) hg
  have g3 := Int.emod_nonneg (other - fr) (show g ≠ 0 by omega)
  unfold sharedV
  generalize (other - fr) % g = u at *
  show 0 ≤ max 0 (min long (u + wide) - u) + max 0 (min long (u + wide - g)) ∧ max 0 (min long (u + wide) - u) + max 0 (min long (u + wide - g)) ≤ long ∧ max 0 (min long (u + wide) - u) + max 0 (min long (u + wide - g)) ≤ wide
  omega

theorem shared_zero {fr long other wide g : Int} (hg : 0 < g) (h1 : 0 ≤ long) (h2 : long < g) (h3 : 0 ≤ wide) (h4 : wide < g) :
    sharedV fr long other wide g = 0 ↔ ¬ ∃ i j, 0 ≤ i ∧ i < long ∧ 0 ≤ j ∧ j < wide ∧ g ∣ (fr + i) - (other + j) := by
  have g1 := Int.mul_ediv_add_emod (other - fr) g
  have g2 := Int.emod_lt_of_pos (other - fr) hg
  have g3 := Int.emod_nonneg (other - fr) (show g ≠ 0 by omega)
  unfold sharedV
  generalize hu : (other - fr) % g = u at *
  generalize (other - fr) / g = z at *
  show max 0 (min long (u + wide) - u) + max 0 (min long (u + wide - g)) = 0 ↔ _
  constructor
  · rintro h ⟨i, j, i1, i2, j1, j2, c, hc⟩
    have e : i - u - j = g * (c + z) := by rw [Int.mul_add]; omega
    have : c + z = 0 ∨ c + z = -1 := by
      have l1 : c + z < 1 := by
        by_cases hh : c + z < 1
        · exact hh
        · have := Int.mul_le_mul_of_nonneg_left (show 1 ≤ c + z by omega) (show 0 ≤ g by omega)
          omega
      have l2 : -2 < c + z := by
        by_cases hh : -2 < c + z
        · exact hh
        · have := Int.mul_le_mul_of_nonneg_left (show c + z ≤ -2 by omega) (show 0 ≤ g by omega)
          omega
      omega
    rcases this with h5 | h5 <;> rw [h5] at e <;> omega
  · intro h
    by_cases hz : max 0 (min long (u + wide) - u) + max 0 (min long (u + wide - g)) = 0
    · exact hz
    · exfalso
      apply h
      by_cases hc : u < long ∧ 0 < wide
      · exact ⟨u, 0, g3, hc.1, by omega, hc.2, -z, by rw [Int.mul_neg]; omega⟩
      · exact ⟨0, g - u, by omega, by omega, by omega, by omega, -z - 1, by rw [Int.mul_sub, Int.mul_neg]; omega⟩

/-- How many times of a common period are in both. -/
def oftenV (a b : Window) : Int :=
  let g : Int := (Int.gcd a.period b.period : Nat)
  g * (a.len / g) * (b.len / g) + a.len / g * (b.len % g) + b.len / g * (a.len % g) + sharedV a.fr (a.len % g) b.fr (b.len % g) g

theorem gcd_pos {a b : Window} (ha : Ok a) : 0 < ((Int.gcd a.period b.period : Nat) : Int) := by
  have := ha.1
  have : 0 < Int.gcd a.period b.period := Int.gcd_pos_of_ne_zero_left _ (by omega)
  omega

theorem often_sym {a b : Window} (ha : Ok a) : oftenV a b = oftenV b a := by
  have hg := gcd_pos (b := b) ha
  unfold oftenV
  rw [Int.gcd_comm b.period a.period]
  generalize ((Int.gcd a.period b.period : Nat) : Int) = g at *
  show g * (a.len / g) * (b.len / g) + a.len / g * (b.len % g) + b.len / g * (a.len % g) + sharedV a.fr (a.len % g) b.fr (b.len % g) g = g * (b.len / g) * (a.len / g) + b.len / g * (a.len % g) + a.len / g * (b.len % g) + sharedV b.fr (b.len % g) a.fr (a.len % g) g
  rw [shared_sym hg (Int.emod_nonneg _ (by omega)) (Int.emod_lt_of_pos _ hg) (Int.emod_nonneg _ (by omega)) (Int.emod_lt_of_pos _ hg)]
  rw [show g * (a.len / g) * (b.len / g) = g * (b.len / g) * (a.len / g) by rw [Int.mul_assoc, Int.mul_assoc, Int.mul_comm (a.len / g)]]
  omega

theorem often_zero {a b : Window} (ha : Ok a) (hb : Ok b) : oftenV a b = 0 ↔ ¬ ∃ y, Both a b y := by
  have hg := gcd_pos (b := b) ha
  rw [both_iff ha hb]
  unfold oftenV
  have la := ha.2.2.2.2.1
  have lb := hb.2.2.2.2.1
  generalize ((Int.gcd a.period b.period : Nat) : Int) = g at *
  have x0 : 0 ≤ a.len / g := Int.ediv_nonneg la (by omega)
  have y0 : 0 ≤ b.len / g := Int.ediv_nonneg lb (by omega)
  have m0 := Int.emod_nonneg a.len (show g ≠ 0 by omega)
  have m1 := Int.emod_lt_of_pos a.len hg
  have n0 := Int.emod_nonneg b.len (show g ≠ 0 by omega)
  have n1 := Int.emod_lt_of_pos b.len hg
  have ea := Int.mul_ediv_add_emod a.len g
  have eb := Int.mul_ediv_add_emod b.len g
  have hs := shared_bound (fr := a.fr) (other := b.fr) hg m0 m1 n0 n1
  have hz := shared_zero (fr := a.fr) (other := b.fr) hg m0 m1 n0 n1
  show g * (a.len / g) * (b.len / g) + a.len / g * (b.len % g) + b.len / g * (a.len % g) + sharedV a.fr (a.len % g) b.fr (b.len % g) g = 0 ↔ _
  generalize a.len / g = x at *
  generalize b.len / g = y at *
  generalize a.len % g = m at *
  generalize b.len % g = n at *
  have p1 : 0 ≤ g * x * y := Int.mul_nonneg (Int.mul_nonneg (by omega) x0) y0
  have p2 : 0 ≤ x * n := Int.mul_nonneg x0 n0
  have p3 : 0 ≤ y * m := Int.mul_nonneg y0 m0
  constructor
  · rintro h ⟨i, j, i1, i2, j1, j2, hd⟩
    have q1 : g * x * y = 0 := by omega
    have q2 : x * n = 0 := by omega
    have q3 : y * m = 0 := by omega
    have q4 : sharedV a.fr m b.fr n g = 0 := by omega
    rcases Int.mul_eq_zero.1 q2 with hx | hn
    · rcases Int.mul_eq_zero.1 q3 with hy | hm
      · subst hx hy
        rw [Int.mul_zero] at ea eb
        exact (hz.1 q4) ⟨i, j, i1, by omega, j1, by omega, hd⟩
      · subst hx hm; rw [Int.mul_zero] at ea; omega
    · subst hn
      rcases Int.mul_eq_zero.1 q1 with hx | hy
      · rcases Int.mul_eq_zero.1 hx with hx | hx
        · omega
        · subst hx
          rcases Int.mul_eq_zero.1 q3 with hy | hm
          · subst hy; rw [Int.mul_zero] at eb; omega
          · subst hm; rw [Int.mul_zero] at ea; omega
      · subst hy; rw [Int.mul_zero] at eb; omega
  · intro h
    have big : ∀ {l : Int}, 0 < l → (0 < x ∨ 0 < y) → 0 < a.len → 0 < b.len → False := fun _ hc hla hlb => by
      have gx : 0 < x → g ≤ a.len := fun hx => by
        have := Int.mul_le_mul_of_nonneg_left (show 1 ≤ x by omega) (show 0 ≤ g by omega); omega
      have gy : 0 < y → g ≤ b.len := fun hy => by
        have := Int.mul_le_mul_of_nonneg_left (show 1 ≤ y by omega) (show 0 ≤ g by omega); omega
      rcases hc with hx | hy
      · refine h ⟨(b.fr - a.fr) % g, 0, Int.emod_nonneg _ (by omega), by have := Int.emod_lt_of_pos (b.fr - a.fr) hg; have := gx hx; omega, by omega, hlb, -((b.fr - a.fr) / g), ?_⟩
        have := Int.mul_ediv_add_emod (b.fr - a.fr) g
        rw [Int.mul_neg]; omega
      · refine h ⟨0, (a.fr - b.fr) % g, by omega, hla, Int.emod_nonneg _ (by omega), by have := Int.emod_lt_of_pos (a.fr - b.fr) hg; have := gy hy; omega, (a.fr - b.fr) / g, ?_⟩
        have := Int.mul_ediv_add_emod (a.fr - b.fr) g
        omega
    have q4 : sharedV a.fr m b.fr n g = 0 := hz.2 fun ⟨i, j, i1, i2, j1, j2, hd⟩ => h ⟨i, j, i1, by have := Int.mul_nonneg (show 0 ≤ g by omega) x0; omega, j1, by have := Int.mul_nonneg (show 0 ≤ g by omega) y0; omega, hd⟩
    by_cases hla : 0 < a.len
    · by_cases hlb : 0 < b.len
      · by_cases hc : 0 < x ∨ 0 < y
        · exact (big (l := 1) (by omega) hc hla hlb).elim
        · have hx : x = 0 := by omega
          have hy : y = 0 := by omega
          subst hx hy; simp [q4]
      · have hy : y = 0 := by
          by_cases hy : 0 < y
          · have := Int.mul_le_mul_of_nonneg_left (show 1 ≤ y by omega) (show 0 ≤ g by omega); omega
          · omega
        subst hy
        rw [Int.mul_zero] at eb
        have hn : n = 0 := by omega
        subst hn; simp [q4]
    · have hx : x = 0 := by
        by_cases hx : 0 < x
        · have := Int.mul_le_mul_of_nonneg_left (show 1 ≤ x by omega) (show 0 ≤ g by omega); omega
        · omega
      subst hx
      rw [Int.mul_zero] at ea
      have hm : m = 0 := by omega
      subst hm; simp [q4]

theorem often_bound {a b : Window} (ha : Ok a) (hb : Ok b) : 0 ≤ oftenV a b ∧ oftenV a b ≤ a.period / (Int.gcd a.period b.period : Nat) * b.period := by
  have hg := gcd_pos (b := b) ha
  unfold oftenV
  have la := ha.2.2.2.2.1
  have lb := hb.2.2.2.2.1
  have la2 := ha.2.2.2.2.2
  have lb2 := hb.2.2.2.2.2
  obtain ⟨P, hP⟩ := (Int.gcd_dvd_left (a := a.period) (b := b.period))
  obtain ⟨Q, hQ⟩ := (Int.gcd_dvd_right (a := a.period) (b := b.period))
  generalize ((Int.gcd a.period b.period : Nat) : Int) = g at *
  have x0 : 0 ≤ a.len / g := Int.ediv_nonneg la (by omega)
  have y0 : 0 ≤ b.len / g := Int.ediv_nonneg lb (by omega)
  have m0 := Int.emod_nonneg a.len (show g ≠ 0 by omega)
  have m1 := Int.emod_lt_of_pos a.len hg
  have n0 := Int.emod_nonneg b.len (show g ≠ 0 by omega)
  have n1 := Int.emod_lt_of_pos b.len hg
  have ea := Int.mul_ediv_add_emod a.len g
  have eb := Int.mul_ediv_add_emod b.len g
  have hs := shared_bound (fr := a.fr) (other := b.fr) hg m0 m1 n0 n1
  have hd : a.period / g = P := by rw [hP]; exact Int.mul_ediv_cancel_left P (by omega)
  rw [hd]
  show 0 ≤ g * (a.len / g) * (b.len / g) + a.len / g * (b.len % g) + b.len / g * (a.len % g) + sharedV a.fr (a.len % g) b.fr (b.len % g) g ∧ g * (a.len / g) * (b.len / g) + a.len / g * (b.len % g) + b.len / g * (a.len % g) + sharedV a.fr (a.len % g) b.fr (b.len % g) g ≤ _
  generalize a.len / g = x at *
  generalize b.len / g = y at *
  generalize a.len % g = m at *
  generalize b.len % g = n at *
  generalize sharedV a.fr m b.fr n g = s at *
  have p1 : 0 ≤ g * x * y := Int.mul_nonneg (Int.mul_nonneg (by omega) x0) y0
  have p2 : 0 ≤ x * n := Int.mul_nonneg x0 n0
  have p3 : 0 ≤ y * m := Int.mul_nonneg y0 m0
  refine ⟨by omega, ?_⟩
  rw [hQ]
  rw [hP] at la2
  rw [hQ] at lb2
  -- x ≤ P, and x = P only if m = 0
  have xP : x < P ∨ (x = P ∧ m = 0) := by
    by_cases h : x < P
    · exact .inl h
    · have := Int.mul_le_mul_of_nonneg_left (show P ≤ x by omega) (show 0 ≤ g by omega)
      have hm : m = 0 := by omega
      refine .inr ⟨?_, hm⟩
      by_cases h2 : P + 1 ≤ x
      · have := Int.mul_le_mul_of_nonneg_left h2 (show 0 ≤ g by omega)
        rw [Int.mul_add] at this; omega
      · omega
  have yQ : y < Q ∨ (y = Q ∧ n = 0) := by
    by_cases h : y < Q
    · exact .inl h
    · have := Int.mul_le_mul_of_nonneg_left (show Q ≤ y by omega) (show 0 ≤ g by omega)
      have hm : n = 0 := by omega
      refine .inr ⟨?_, hm⟩
      by_cases h2 : Q + 1 ≤ y
      · have := Int.mul_le_mul_of_nonneg_left h2 (show 0 ≤ g by omega)
        rw [Int.mul_add] at this; omega
      · omega
  rcases xP with hx | ⟨rfl, rfl⟩
  · rcases yQ with hy | ⟨rfl, rfl⟩
    · have k1 := Int.mul_le_mul_of_nonneg_left (show n ≤ g by omega) x0
      have k2 := Int.mul_le_mul_of_nonneg_left (show m ≤ g by omega) y0
      have k3 := Int.mul_le_mul (show x + 1 ≤ P by omega) (Int.mul_le_mul_of_nonneg_left (show y + 1 ≤ Q by omega) (show 0 ≤ g by omega)) (Int.mul_nonneg (by omega) (by omega)) (by omega)
      have e : (x + 1) * (g * (y + 1)) = g * x * y + x * g + y * g + g := by
        rw [Int.add_mul, Int.mul_add, Int.mul_add, Int.one_mul, Int.mul_one, ← Int.mul_assoc, Int.mul_comm x g, Int.mul_comm y g]; omega
      omega
    · have k2 := Int.mul_le_mul_of_nonneg_left (show m ≤ g by omega) y0
      have k3 := Int.mul_le_mul_of_nonneg_right (show x + 1 ≤ P by omega) (Int.mul_nonneg (show 0 ≤ g by omega) y0)
      have e : (x + 1) * (g * y) = g * x * y + y * g := by rw [Int.add_mul, Int.one_mul, ← Int.mul_assoc, Int.mul_comm x g, Int.mul_comm y g]
      have hs0 : s = 0 := by omega
      simp only [Int.mul_zero] at *
      omega
  · rcases yQ with hy | ⟨rfl, rfl⟩
    · have k1 := Int.mul_le_mul_of_nonneg_left (show n ≤ g by omega) x0
      have k3 := Int.mul_le_mul_of_nonneg_left (Int.mul_le_mul_of_nonneg_left (show y + 1 ≤ Q by omega) (show 0 ≤ g by omega)) x0
      have e : x * (g * (y + 1)) = g * x * y + x * g := by rw [Int.mul_add, Int.mul_add, ← Int.mul_assoc, Int.mul_comm x g, Int.mul_one, Int.mul_comm x g]
      have hs0 : s = 0 := by omega
      simp only [Int.mul_zero] at *
      omega
    · have hs0 : s = 0 := by omega
      subst hs0
      simp only [Int.mul_zero, Int.add_zero]
      rw [← Int.mul_assoc, Int.mul_comm x g]
      omega

end Go.Ull.Ma
