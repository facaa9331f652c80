/- What the functions of windows answer: mod, place, Contains, shared, the greatest common divisor, first, Often. -/
import Derived.Test.YtmgdofgmidbddaaMaC
import Derived.Test.YtmgdofgmidbddaaSpF
namespace Go.Ull
theorem sel_dec {α : Type _} {p : Prop} [d : Decidable p] {a b : α} : sel (decide p) a b = if p then a else b := by
  cases d <;> rfl
theorem sel_not {α : Type _} {c : Bool} {a b : α} : sel (!c) a b = sel c b a := by cases c <;> rfl
theorem sel_beq {α : Type _} {x y : Int} {a b : α} : sel (x == y) a b = if x = y then a else b := by
  by_cases h : x = y
  · simp [h]
  · have : (x == y) = false := by simpa using h
    rw [this, if_neg h]
theorem sel_true {α : Type _} {a b : α} : sel true a b = a := rfl
theorem sel_false {α : Type _} {a b : α} : sel false a b = b := rfl
end Go.Ull
namespace Go.Proofs.Ytmgdofgmidbddaa
open Go Go.Ull Go.Ull.Ma

theorem s33_law {ρ : Type} {n m : Int} {k : Int → Option ρ} (h1 : 0 < m) (h2 : m ≤ 1073741824) : s_33 n m k = k (n % m) := by
  show g_33 n m k = _
  unfold g_33
  have := mod_in (n := n) h1 h2
  rw [this.1, this.2, sel_dec, if_neg (by omega), sel_dec, if_neg (by omega)]

theorem s30_law {ρ : Type} {t : Int} {k : Bool → Option ρ} : s_30 t k = k (decide (-1152921504606846976 ≤ t ∧ t ≤ 1152921504606846976)) := by
  show g_30 t k = _
  unfold g_30
  rw [sel_dec]
  split
  · rename_i h
    congr 1
    simp only [decide_eq_decide]
    omega
  · rename_i h
    congr 1
    simp only [Bool.false_eq, decide_eq_false_iff_not]
    omega

instance (w : Window) : Decidable (Ok w) := by unfold Ok; infer_instance

theorem s29_law {ρ : Type} {w : Window} {k : Bool → Option ρ} : s_29 w k = k (decide (Ok w)) := by
  show g_29 w k = _
  unfold g_29
  have no : ∀ (p : Prop), [Decidable p] → ¬ p → (if p then k (decide (w.len ≤ w.period)) else k false) = k false := fun p _ h => if_neg h
  by_cases h : Ok w
  · obtain ⟨h1, h2, h3, h4, h5, h6⟩ := id h
    rw [sel_dec, if_pos (by omega), sel_dec, if_pos (by omega), sel_dec, if_pos (by omega), sel_dec, if_pos (by omega), sel_dec, if_pos (by omega)]
    congr 1
    simp only [decide_eq_decide]
    exact ⟨fun _ => h, fun _ => h6⟩
  · rw [sel_dec, sel_dec, sel_dec, sel_dec, sel_dec, decide_eq_false h]
    unfold Ok at h
    split
    · split
      · split
        · split
          · split
            · rw [decide_eq_false (by omega)]
            · rfl
          · rfl
        · rfl
      · rfl
    · rfl

theorem s31_law {ρ : Type} {w : Window} {t : Int} {k : Int → Option ρ} (hw : Ok w) : s_31 w t k = k ((t - w.fr) % w.period) := by
  show g_31 @s_33 w t k = _
  unfold g_31
  obtain ⟨h1, h2, h3, h4, h5, h6⟩ := hw
  rw [s33_law (by omega) h2, s33_law (by omega) h2, s33_law (by omega) h2]
  have a1 := Int.emod_lt_of_pos t (show 0 < w.period by omega)
  have a2 := Int.emod_nonneg t (show w.period ≠ 0 by omega)
  have b1 := Int.emod_lt_of_pos w.fr (show 0 < w.period by omega)
  have b2 := Int.emod_nonneg w.fr (show w.period ≠ 0 by omega)
  rw [wrap_in (by omega), ← Int.sub_emod]

instance (w : Window) (t : Int) : Decidable (InW w t) := by unfold InW; infer_instance

theorem s9_law {ρ : Type} {w : Window} {t : Int} {k : Bool → Option ρ} (hw : Ok w) : s_9 w t k = k (decide (InW w t)) := by
  show g_9 @s_29 @s_31 w t k = _
  unfold g_9
  rw [s29_law, decide_eq_true hw, sel_true, s31_law hw]
  rfl

theorem s36_law {ρ : Type} {fr long other wide g : Int} {k : Int → Option ρ} (hg : 0 < g) (hg2 : g ≤ 1073741824) (h1 : 0 ≤ long) (h2 : long < g) (h3 : 0 ≤ wide) (h4 : wide < g) (h5 : -1073741824 ≤ fr ∧ fr ≤ 1073741824) (h6 : -1073741824 ≤ other ∧ other ≤ 1073741824) :
    s_36 fr long other wide g k = k (sharedV fr long other wide g) := by
  show g_36 @s_33 fr long other wide g k = _
  unfold g_36
  rw [wrap_in (by omega), s33_law hg hg2]
  unfold sharedV
  have g2 := Int.emod_lt_of_pos (other - fr) hg
  have g3 := Int.emod_nonneg (other - fr) (show g ≠ 0 by omega)
  generalize (other - fr) % g = u at *
  show k _ = k (max 0 (min long (u + wide) - u) + max 0 (min long (u + wide - g)))
  congr 1
  rw [wrap_in (x := u + wide) (by omega), wrap_in (x := u + wide - g) (by omega)]
  have e1 : (if u + wide < long then u + wide else long) = min long (u + wide) := by split <;> omega
  have e2 : (if u + wide - g < long then u + wide - g else long) = min long (u + wide - g) := by split <;> omega
  rw [e1, e2, wrap_in (x := min long (u + wide) - u) (by omega)]
  have e3 : ∀ x : Int, (if x > 0 then x else 0) = max 0 x := fun x => by split <;> omega
  rw [e3, e3, wrap_in (by omega)]

theorem gcd_step {a b : Int} (ha : 0 ≤ a) (hb : 0 ≤ b) : Int.gcd b (a % b) = Int.gcd a b := by
  obtain ⟨A, rfl⟩ := Int.eq_ofNat_of_zero_le ha
  obtain ⟨B, rfl⟩ := Int.eq_ofNat_of_zero_le hb
  show Nat.gcd B ((A : Int) % B).natAbs = Nat.gcd A B
  rw [← Int.natCast_emod, Int.natAbs_natCast, Nat.gcd_comm A B, Nat.gcd_rec B A, Nat.gcd_comm]

theorem l35_law {ρ : Type} {k : Int → Int → Option ρ} : ∀ (n : Nat) (a b : Int), 0 ≤ b → b ≤ a → a * b < 2 ^ n → l_35_0 k (n + 1) a b = k (Int.gcd a b : Nat) 0
  | n, a, b, h0, h1, h2 => by
    unfold l_35_0
    by_cases hb : 0 < b
    · rw [decide_eq_true (show b > 0 from hb), cond_true, decide_eq_false (show ¬ b = 0 by omega), cond_false]
      rw [Int.tmod_eq_emod_of_nonneg (by omega)]
      have hn : ∃ n', n = n' + 1 := by
        cases n with
        | zero => have : 1 * 1 ≤ a * b := Int.mul_le_mul (by omega) (by omega) (by omega) (by omega)
                  simp at h2; omega
        | succ n => exact ⟨n, rfl⟩
      obtain ⟨n', rfl⟩ := hn
      have g2 := Int.emod_lt_of_pos a hb
      have g3 := Int.emod_nonneg a (show b ≠ 0 by omega)
      have g : 2 * (b * (a % b)) < 2 ^ (n' + 1) := by
        have g1 := Int.mul_ediv_add_emod a b
        have g4 : 1 ≤ a / b := by rw [Int.le_ediv_iff_mul_le hb]; omega
        have := Int.mul_le_mul_of_nonneg_left g4 (show 0 ≤ b by omega)
        have h5 : 2 * (a % b) < a + 1 := by omega
        have := Int.mul_le_mul_of_nonneg_left (show 2 * (a % b) ≤ a by omega) (show 0 ≤ b by omega)
        have e : b * (2 * (a % b)) = 2 * (b * (a % b)) := by rw [Int.mul_left_comm]
        rw [Int.mul_comm a b] at h2
        omega
      rw [l35_law n' b (a % b) g3 (by omega) (by rw [Int.pow_succ] at g; omega)]
      rw [gcd_step (by omega) h0]
    · have : b = 0 := by omega
      subst this
      rw [decide_eq_false (by omega), cond_false]
      congr 1
      simp; omega

theorem s34_law {ρ : Type} : ∀ (n : Nat) (a m lo hi : Int) (k : Int → Option ρ), 0 ≤ a → a < m → m ≤ 1073741824 → 0 ≤ lo → lo ≤ hi → hi < m → a * m < 2 ^ n → ∃ r, Least (Hit a m lo hi) r ∧ s_34 (n + 1) a m lo hi k = k r
  | n, a, m, lo, hi, k, ha, hm, hm2, hlo, hle, hhi, hf => by
    show ∃ r, _ ∧ g_34 @s_33 (@s_34 n) a m lo hi k = _
    unfold g_34
    rw [sel_beq]
    by_cases hz : lo = 0
    · subst hz; exact ⟨0, hit_zero hle, if_pos rfl⟩
    rw [if_neg hz, sel_beq]
    by_cases haz : a = 0
    · subst haz; exact ⟨-1, hit_none (by omega), if_pos rfl⟩
    rw [if_neg haz, sel_dec, if_neg haz]
    have ha' : 0 < a := by omega
    rw [wrap_in (x := lo + a) (by omega), wrap_in (x := lo + a - 1) (by omega), Int.tdiv_eq_ediv_of_nonneg (by omega)]
    have c1 : 0 ≤ (lo + a - 1) / a := Int.ediv_nonneg (by omega) (by omega)
    have c2 := Int.mul_ediv_add_emod (lo + a - 1) a
    have c3 := Int.emod_nonneg (lo + a - 1) (show a ≠ 0 by omega)
    have c4 : (lo + a - 1) / a ≤ lo + a - 1 := Int.ediv_le_self _ (by omega)
    rw [wrap_in (x := (lo + a - 1) / a) (by omega), Int.mul_comm _ a, wrap_in (x := a * ((lo + a - 1) / a)) (by have := Int.mul_nonneg (show 0 ≤ a by omega) c1; omega), sel_dec]
    by_cases hd : a * ((lo + a - 1) / a) ≤ hi
    · exact ⟨_, hit_direct ha' (by omega) hhi hd, if_pos hd⟩
    rw [if_neg hd, sel_dec, if_neg haz, wrap_in (x := 0 - hi) (by omega), wrap_in (x := 0 - lo) (by omega), s33_law ha' (by omega), s33_law ha' (by omega), Int.zero_sub, Int.zero_sub, Int.tmod_eq_emod_of_nonneg (by omega)]
    obtain ⟨p1, p2, p3⟩ := half_prod ha' hm
    have hn : ∃ n', n = n' + 1 := by
      cases n with
      | zero => have : 1 * 1 ≤ a * m := Int.mul_le_mul (by omega) (by omega) (by omega) (by omega)
                simp at hf; omega
      | succ n => exact ⟨n, rfl⟩
    obtain ⟨n', rfl⟩ := hn
    have q1 : (-hi) % a ≤ (-lo) % a := by
      have e1 : (-hi) % a = a * ((lo + a - 1) / a) - hi := by
        have : -hi = (a * ((lo + a - 1) / a) - hi) + a * (-((lo + a - 1) / a)) := by rw [Int.mul_neg]; omega
        rw [this, Int.add_mul_emod_self_left, Int.emod_eq_of_lt (by omega) (by omega)]
      have e2 : (-lo) % a = a * ((lo + a - 1) / a) - lo := by
        have c5 := Int.emod_lt_of_pos (lo + a - 1) ha'
        have : -lo = (a * ((lo + a - 1) / a) - lo) + a * (-((lo + a - 1) / a)) := by rw [Int.mul_neg]; omega
        rw [this, Int.add_mul_emod_self_left, Int.emod_eq_of_lt (by omega) (by omega)]
      omega
    have q0 := Int.emod_nonneg (-hi) (show a ≠ 0 by omega)
    have q2 := Int.emod_lt_of_pos (-lo) ha'
    obtain ⟨r, hr, he⟩ := s34_law n' (m % a) a ((-hi) % a) ((-lo) % a) (fun v0 => sel (decide (v0 < 0)) (k (-1)) (sel (decide (a = 0)) none
      (k (IntKind.i64.wrap ((IntKind.i64.wrap (IntKind.i64.wrap (IntKind.i64.wrap (lo + IntKind.i64.wrap (m * v0)) + a) - 1)).tdiv a))))) p2 p3 (by omega) q0 q1 q2 (by rw [Int.pow_succ] at hf; omega)
    rw [he, sel_dec, sel_dec, if_neg haz]
    have hlt := least_lt (by omega) hr
    rcases hit_rec ha' hm (by omega) hle hhi (by omega) hr with ⟨h1, h2⟩ | ⟨h1, h2⟩
    · exact ⟨-1, h2, if_pos h1⟩
    · refine ⟨_, h2, ?_⟩
      rw [if_neg (by omega)]
      have m1 := Int.mul_nonneg (show 0 ≤ m by omega) h1
      have m2 := Int.mul_le_mul (show m ≤ 1073741824 by omega) (show r ≤ 1073741824 by omega) h1 (by omega)
      rw [wrap_in (x := m * r) (by omega), wrap_in (x := lo + m * r) (by omega), wrap_in (x := lo + m * r + a) (by omega), wrap_in (x := lo + m * r + a - 1) (by omega), Int.tdiv_eq_ediv_of_nonneg (by omega)]
      have c5 : 0 ≤ (lo + m * r + a - 1) / a := Int.ediv_nonneg (by omega) (by omega)
      have c6 : (lo + m * r + a - 1) / a ≤ lo + m * r + a - 1 := Int.ediv_le_self _ (by omega)
      rw [wrap_in (by omega)]

theorem s35_law {ρ : Type} {a b : Int} {k : Int → Option ρ} (ha : 1 ≤ a ∧ a ≤ 1073741824) (hb : 1 ≤ b ∧ b ≤ 1073741824) : s_35 a b k = k (Int.gcd a b : Nat) := by
  show l_35_0 (fun a _ => k a) 64 a b = _
  have hab : a * b ≤ 1073741824 * 1073741824 := Int.mul_le_mul ha.2 hb.2 (by omega) (by omega)
  have key : ∀ (c d : Int), 0 ≤ d → d ≤ c → c * d < 2 ^ 61 → Int.gcd c d = Int.gcd a b → ∀ j, j = 63 ∨ j = 64 → l_35_0 (fun a _ => k a) j c d = k (Int.gcd a b : Nat) := fun c d h0 h1 h2 h3 j hj => by
    rcases hj with rfl | rfl
    · rw [l35_law 62 c d h0 h1 (by omega), h3]
    · rw [l35_law 63 c d h0 h1 (by omega), h3]
  by_cases h : b ≤ a
  · exact key a b (by omega) h (by omega) rfl 64 (.inr rfl)
  · unfold l_35_0
    rw [decide_eq_true (show b > 0 by omega), cond_true, decide_eq_false (show ¬ b = 0 by omega), cond_false, Int.tmod_eq_emod_of_nonneg (by omega), Int.emod_eq_of_lt (by omega) (by omega)]
    exact key b a (by omega) (by omega) (by rw [Int.mul_comm]; omega) (Int.gcd_comm ..) 63 (.inl rfl)

theorem s8_law {ρ : Type} {a b : Window} {k : Int → Int → Option ρ} : s_8 a b k = if Ok a ∧ Ok b then k (oftenV a b) 0 else k 0 2 := by
  show g_8 @s_29 @s_35 @s_36 a b k = _
  unfold g_8
  rw [s29_law, sel_not, sel_dec]
  by_cases ha : Ok a
  · rw [if_pos ha, s29_law, sel_not, sel_dec]
    by_cases hb : Ok b
    · rw [if_pos hb, if_pos ⟨ha, hb⟩]
      rw [s35_law ⟨ha.1, ha.2.1⟩ ⟨hb.1, hb.2.1⟩]
      have hg := gcd_pos (b := b) ha
      have hbd := often_bound ha hb
      have la := ha.2.2.2.2.1
      have lb := hb.2.2.2.2.1
      have la2 := ha.2.2.2.2.2
      have lb2 := hb.2.2.2.2.2
      have a1 := ha.2.1
      have b1 := hb.2.1
      have hgle : ((Int.gcd a.period b.period : Nat) : Int) ≤ a.period := Int.le_of_dvd (by have := ha.1; omega) (Int.gcd_dvd_left ..)
      unfold oftenV at hbd ⊢
      generalize ((Int.gcd a.period b.period : Nat) : Int) = g at *
      have x0 : 0 ≤ a.len / g := Int.ediv_nonneg la (by omega)
      have y0 : 0 ≤ b.len / g := Int.ediv_nonneg lb (by omega)
      have x1 : a.len / g ≤ a.len := Int.ediv_le_self _ la
      have y1 : b.len / g ≤ b.len := Int.ediv_le_self _ lb
      have m0 := Int.emod_nonneg a.len (show g ≠ 0 by omega)
      have m1 := Int.emod_lt_of_pos a.len hg
      have n0 := Int.emod_nonneg b.len (show g ≠ 0 by omega)
      have n1 := Int.emod_lt_of_pos b.len hg
      have ea := Int.mul_ediv_add_emod a.len g
      have eb := Int.mul_ediv_add_emod b.len g
      have hs := shared_bound (fr := a.fr) (other := b.fr) hg m0 m1 n0 n1
      rw [sel_dec, if_neg (by omega), sel_dec, if_neg (by omega), sel_dec, if_neg (by omega), sel_dec, if_neg (by omega)]
      rw [Int.tmod_eq_emod_of_nonneg la, Int.tmod_eq_emod_of_nonneg lb, Int.tdiv_eq_ediv_of_nonneg la, Int.tdiv_eq_ediv_of_nonneg lb]
      rw [s36_law hg (by omega) m0 m1 n0 n1 ⟨by have := ha.2.2.1; omega, by have := ha.2.2.2.1; omega⟩ ⟨by have := hb.2.2.1; omega, by have := hb.2.2.2.1; omega⟩]
      show k _ 0 = k (g * (a.len / g) * (b.len / g) + a.len / g * (b.len % g) + b.len / g * (a.len % g) + sharedV a.fr (a.len % g) b.fr (b.len % g) g) 0
      congr 1
      generalize a.len / g = x at *
      generalize b.len / g = y at *
      generalize a.len % g = m at *
      generalize b.len % g = n at *
      generalize sharedV a.fr m b.fr n g = s at *
      have p0 : 0 ≤ g * x := Int.mul_nonneg (by omega) x0
      have p1 : 0 ≤ g * x * y := Int.mul_nonneg p0 y0
      have p2 : 0 ≤ x * n := Int.mul_nonneg x0 n0
      have p3 : 0 ≤ y * m := Int.mul_nonneg y0 m0
      have u1 : g * x * y ≤ 1073741824 * 1073741824 := Int.mul_le_mul (by omega) (by omega) y0 (by omega)
      have u2 : x * n ≤ 1073741824 * 1073741824 := Int.mul_le_mul (by omega) (by omega) n0 (by omega)
      have u3 : y * m ≤ 1073741824 * 1073741824 := Int.mul_le_mul (by omega) (by omega) m0 (by omega)
      rw [wrap_in (x := x) (by omega), wrap_in (x := y) (by omega), wrap_in (x := g * x) (by omega), wrap_in (x := g * x * y) (by omega), wrap_in (x := x * n) (by omega), wrap_in (x := y * m) (by omega),
        wrap_in (x := g * x * y + x * n) (by omega), wrap_in (x := g * x * y + x * n + y * m) (by omega), wrap_in (by omega)]
    · rw [if_neg hb, if_neg fun h => hb h.2]
  · rw [if_neg ha, if_neg fun h => ha h.1]

end Go.Proofs.Ytmgdofgmidbddaa
