/- What Next and the statement's function answer. -/
import Derived.Test.YtmgdofgmidbddaaMaD
namespace Go.Proofs.Ytmgdofgmidbddaa
open Go Go.Ull Go.Ull.Ma

def Near (t : Int) : Prop := -1152921504606846976 ≤ t ∧ t ≤ 1152921504606846976
instance (t : Int) : Decidable (Near t) := by unfold Near; infer_instance

theorem s32_law {ρ : Type} {a b : Window} {begin fr : Int} {k : Int → Bool → Option ρ} (ha : Ok a) (hb : Ok b) (h1 : -3000000000000000000 ≤ begin ∧ begin ≤ 3000000000000000000) (h2 : begin ≤ fr) (h3 : fr ≤ 3000000000000000000) :
    s_32 a b begin fr k = k (firstIn b fr) (decide (0 < b.len ∧ firstIn b fr < begin + a.len)) := by
  show g_32 @s_31 a b begin fr k = _
  unfold g_32
  have e : (if fr > begin then fr else begin) = fr := by split <;> omega
  rw [e, s31_law hb]
  have g1 := Int.emod_lt_of_pos (fr - b.fr) (show 0 < b.period by have := hb.1; omega)
  have g2 := Int.emod_nonneg (fr - b.fr) (show b.period ≠ 0 by have := hb.1; omega)
  obtain ⟨p1, p2, p3, p4, p5, p6⟩ := hb
  obtain ⟨q1, q2, q3, q4, q5, q6⟩ := ha
  unfold firstIn
  rw [wrap_in (x := b.period - (fr - b.fr) % b.period) (by omega), wrap_in (x := fr + (b.period - (fr - b.fr) % b.period)) (by omega), wrap_in (x := begin + a.len) (by omega)]
  rw [sel_dec, sel_dec, sel_dec]
  by_cases hc : (fr - b.fr) % b.period ≥ b.len
  · rw [if_pos hc, if_neg (show ¬ (fr - b.fr) % b.period < b.len by omega)]
    rw [show fr + (b.period - (fr - b.fr) % b.period) = fr + b.period - (fr - b.fr) % b.period by omega]
    by_cases hl : b.len > 0
    · rw [if_pos hl]; congr 1; simp only [decide_eq_decide]; omega
    · rw [if_neg hl]; congr 1; symm; simp only [decide_eq_false_iff_not]; omega
  · rw [if_neg hc, if_pos (show (fr - b.fr) % b.period < b.len by omega)]
    by_cases hl : b.len > 0
    · rw [if_pos hl]; congr 1; simp only [decide_eq_decide]; omega
    · rw [if_neg hl]; congr 1; symm; simp only [decide_eq_false_iff_not]; omega

theorem s7_law {ρ : Type} {a b : Window} {t : Int} {k : Int → Int → Option ρ} (ha : Ok a) (hb : Ok b) (ht : Near t) : ∃ x e, NextSpec a b t x e ∧ s_7 a b t k = k x e := by
  show ∃ x e, _ ∧ g_7 @s_29 @s_30 @s_31 @s_32 @s_33 (@s_34 64) a b t k = _
  unfold g_7
  obtain ⟨t1, t2⟩ := ht
  have m1 := Int.emod_lt_of_pos (t - a.fr) (show 0 < a.period by have := ha.1; omega)
  have m2 := Int.emod_nonneg (t - a.fr) (show a.period ≠ 0 by have := ha.1; omega)
  obtain ⟨q1, q2, q3, q4, q5, q6⟩ := id ha
  obtain ⟨p1, p2, p3, p4, p5, p6⟩ := id hb
  rw [s29_law, decide_eq_true ha, sel_not, sel_true, s29_law, decide_eq_true hb, sel_not, sel_true, s30_law, decide_eq_true (show _ ∧ _ from ⟨t1, t2⟩), sel_not, sel_true, s31_law ha,
    wrap_in (x := t - (t - a.fr) % a.period) (by omega), s32_law ha hb (by omega) (by omega) (by omega), sel_dec]
  by_cases hc : 0 < b.len ∧ firstIn b t < t - (t - a.fr) % a.period + a.len
  · exact ⟨_, _, next_here ha hb hc.1 hc.2, if_pos hc⟩
  rw [if_neg hc, sel_beq]
  by_cases hla : a.len = 0
  · refine ⟨0, 7, .inl ⟨fun y _ h => ?_, rfl, rfl⟩, if_pos hla⟩
    have := len_pos ha h.1; omega
  rw [if_neg hla, sel_beq]
  by_cases hlb : b.len = 0
  · refine ⟨0, 7, .inl ⟨fun y _ h => ?_, rfl, rfl⟩, if_pos hlb⟩
    have := len_pos hb h.2; omega
  rw [if_neg hlb]
  have hla : 0 < a.len := by omega
  have hlb : 0 < b.len := by omega
  have hn : ¬ firstIn b t < t - (t - a.fr) % a.period + a.len := fun h => hc ⟨hlb, h⟩
  have hs : t - (t - a.fr) % a.period + a.period = t - (t - a.fr) % a.period + a.period := rfl
  rw [wrap_in (x := t - (t - a.fr) % a.period + a.period) (by omega), wrap_in (x := a.len + b.len) (by omega), wrap_in (x := a.len + b.len - 1) (by omega), sel_dec]
  generalize hsd : t - (t - a.fr) % a.period + a.period = s at *
  have fin : ∀ (j : Int), 0 ≤ j → j < 1073741824 → s_32 a b (IntKind.i64.wrap (s + IntKind.i64.wrap (j * a.period))) (IntKind.i64.wrap (s + IntKind.i64.wrap (j * a.period))) (fun v0 _ => k v0 0) = k (firstIn b (s + a.period * j)) 0 := fun j h0 h1 => by
    have u1 : j * a.period ≤ 1073741824 * 1073741824 := Int.mul_le_mul (by omega) (by omega) (by omega) (by omega)
    have u2 : 0 ≤ j * a.period := Int.mul_nonneg h0 (by omega)
    rw [wrap_in (x := j * a.period) (by omega), wrap_in (x := s + j * a.period) (by omega), s32_law ha hb (by omega) (by omega) (by omega), Int.mul_comm j]
  by_cases hr : a.len + b.len - 1 < b.period
  · rw [if_pos hr, s31_law hb]
    have b1 := Int.emod_lt_of_pos (s - b.fr) (show 0 < b.period by omega)
    have b2 := Int.emod_nonneg (s - b.fr) (show b.period ≠ 0 by omega)
    rw [wrap_in (x := (s - b.fr) % b.period + a.len) (by omega), wrap_in (x := (s - b.fr) % b.period + a.len - 1) (by omega), s33_law (by omega) (by omega)]
    have c1 := Int.emod_lt_of_pos ((s - b.fr) % b.period + a.len - 1) (show 0 < b.period by omega)
    have c2 := Int.emod_nonneg ((s - b.fr) % b.period + a.len - 1) (show b.period ≠ 0 by omega)
    generalize hu : ((s - b.fr) % b.period + a.len - 1) % b.period = u at *
    rw [wrap_in (x := 0 - u) (by omega), s33_law (by omega) (by omega), wrap_in (x := a.len + b.len - 1 - 1) (by omega), wrap_in (x := a.len + b.len - 1 - 1 - u) (by omega), s33_law (by omega) (by omega), Int.zero_sub]
    have d1 := Int.emod_lt_of_pos (-u) (show 0 < b.period by omega)
    have d2 := Int.emod_nonneg (-u) (show b.period ≠ 0 by omega)
    have d3 := Int.emod_lt_of_pos (a.len + b.len - 1 - 1 - u) (show 0 < b.period by omega)
    have d4 := Int.emod_nonneg (a.len + b.len - 1 - 1 - u) (show b.period ≠ 0 by omega)
    generalize hlo : (-u) % b.period = lo at *
    generalize hhi : (a.len + b.len - 1 - 1 - u) % b.period = hi at *
    rw [sel_dec, sel_dec, sel_dec, if_neg (show ¬ b.period = 0 by omega)]
    have z1 := Int.emod_lt_of_pos a.period (show 0 < b.period by omega)
    have z2 := Int.emod_nonneg a.period (show b.period ≠ 0 by omega)
    have z3 : a.period % b.period * b.period < 2 ^ 63 := by
      have : a.period % b.period * b.period ≤ 1073741824 * 1073741824 := Int.mul_le_mul (by omega) (by omega) (by omega) (by omega)
      omega
    rw [Int.tmod_eq_emod_of_nonneg (show 0 ≤ a.period by omega)]
    have meets : ∀ j, (∃ y, s + a.period * j ≤ y ∧ y < s + a.period * j + a.len ∧ InW b y) ↔ ((s + a.period * j - b.fr) % b.period + a.len - 1) % b.period < a.len + b.len - 1 := fun j => by
      rw [pass_meets hb hla hlb]
      exact ⟨fun h => h.resolve_left (by omega), .inr⟩
    by_cases hlh : lo > hi
    · rw [if_pos hlh]
      obtain ⟨r, hr1, hr2⟩ := s34_law 63 (a.period % b.period) b.period 0 hi (fun v0_6 => sel (decide (v0_6 < 0)) (k 0 7) (s_32 a b (IntKind.i64.wrap (s + IntKind.i64.wrap (v0_6 * a.period))) (IntKind.i64.wrap (s + IntKind.i64.wrap (v0_6 * a.period))) fun v0 _ => k v0 0)) z2 z1 (by omega) (by omega) d4 d3 z3
      have hr0 : r = 0 := by
        rcases hr1 with ⟨_, h⟩ | ⟨h1, h2, h3⟩
        · exact absurd ⟨by simp, by simpa using d4⟩ (h 0 (by omega))
        · by_cases h0 : 0 < r
          · exact absurd ⟨by simp, by simpa using d4⟩ (h3 0 (by omega) h0)
          · omega
      subst hr0
      refine ⟨_, _, next_later ha hb hlb (k := 0) hsd.symm hn (by omega) ?_ (fun j h1 h2 => by omega), ?_⟩
      · rw [meets 0, Int.mul_zero, Int.add_zero]
        exact (pass_hit (p := a.period) (k := 0) hb hla hlb hr hu.symm hlo.symm hhi.symm).2 hlh
      · rw [hr2, sel_dec, if_neg (by omega), fin 0 (by omega) (by omega)]
    · rw [if_neg hlh]
      have hit : ∀ j, (∃ y, s + a.period * j ≤ y ∧ y < s + a.period * j + a.len ∧ InW b y) ↔ Hit (a.period % b.period) b.period lo hi j := fun j => by
        rw [meets j]
        exact (pass_hit hb hla hlb hr hu.symm hlo.symm hhi.symm).1 (by omega)
      obtain ⟨r, hr1, hr2⟩ := s34_law 63 (a.period % b.period) b.period lo hi (fun v0_6 => sel (decide (v0_6 < 0)) (k 0 7) (s_32 a b (IntKind.i64.wrap (s + IntKind.i64.wrap (v0_6 * a.period))) (IntKind.i64.wrap (s + IntKind.i64.wrap (v0_6 * a.period))) fun v0 _ => k v0 0)) z2 z1 (by omega) d2 (by omega) d3 z3
      rw [if_neg (show ¬ b.period = 0 by omega), hr2, sel_dec]
      have hlt := least_lt (by omega) hr1
      rcases hr1 with ⟨rfl, h⟩ | ⟨h1, h2, h3⟩
      · exact ⟨0, 7, next_none ha hb hsd.symm hn fun j hj hm => h j hj ((hit j).1 hm), if_pos (by omega)⟩
      · refine ⟨_, _, next_later ha hb hlb hsd.symm hn h1 ((hit r).2 h2) (fun j g1 g2 hm => h3 j g1 g2 ((hit j).1 hm)), ?_⟩
        rw [if_neg (by omega), fin r h1 (by omega)]
  · rw [if_neg hr]
    refine ⟨_, _, next_later ha hb hlb (k := 0) hsd.symm hn (by omega) ?_ (fun j h1 h2 => by omega), ?_⟩
    · rw [pass_meets hb hla hlb]; exact .inl (by omega)
    · exact fin 0 (by omega) (by omega)

theorem s7_bad {ρ : Type} {a b : Window} {t : Int} {k : Int → Int → Option ρ} (h : ¬ (Ok a ∧ Ok b ∧ Near t)) : s_7 a b t k = k 0 2 := by
  show g_7 @s_29 @s_30 @s_31 @s_32 @s_33 (@s_34 64) a b t k = _
  unfold g_7
  rw [s29_law, sel_not, sel_dec]
  split
  · rw [s29_law, sel_not, sel_dec]
    split
    · rw [s30_law, sel_not, sel_dec, if_neg (show ¬ (-1152921504606846976 ≤ t ∧ t ≤ 1152921504606846976) from fun h2 => h ⟨by assumption, by assumption, h2⟩)]
    · rfl
  · rfl

theorem inW_sub {w : Window} {x c : Int} : InW w (x - w.period * c) ↔ InW w x := by
  unfold InW
  rw [show x - w.period * c - w.fr = (x - w.fr) + w.period * (-c) by rw [Int.mul_neg]; omega, Int.add_mul_emod_self_left]

/-- The common period. -/
def allV (a b : Window) : Int := a.period / ((Int.gcd a.period b.period : Nat) : Int) * b.period

theorem all_facts {a b : Window} (ha : Ok a) (hb : Ok b) : 1 ≤ allV a b ∧ allV a b ≤ 1152921504606846976 ∧ ∀ x, Both a b (x - allV a b) ↔ Both a b x := by
  have hg := gcd_pos (b := b) ha
  obtain ⟨P, hP⟩ := (Int.gcd_dvd_left (a := a.period) (b := b.period))
  obtain ⟨Q, hQ⟩ := (Int.gcd_dvd_right (a := a.period) (b := b.period))
  have hgle : ((Int.gcd a.period b.period : Nat) : Int) ≤ a.period := Int.le_of_dvd (by have := ha.1; omega) (Int.gcd_dvd_left ..)
  have a1 := ha.1
  have a2 := ha.2.1
  have b1 := hb.1
  have b2 := hb.2.1
  unfold allV
  generalize ((Int.gcd a.period b.period : Nat) : Int) = g at *
  have hd : a.period / g = P := by rw [hP]; exact Int.mul_ediv_cancel_left P (by omega)
  have h1 : 1 ≤ a.period / g := by rw [Int.le_ediv_iff_mul_le hg]; omega
  have h2 : a.period / g ≤ a.period := Int.ediv_le_self _ (by omega)
  have u1 : a.period / g * b.period ≤ 1073741824 * 1073741824 := Int.mul_le_mul (by omega) (by omega) (by omega) (by omega)
  have u2 : 1 * 1 ≤ a.period / g * b.period := Int.mul_le_mul h1 b1 (by omega) (by omega)
  refine ⟨by omega, by omega, fun x => ?_⟩
  have e1 : a.period / g * b.period = a.period * Q := by rw [hd, hQ, hP, ← Int.mul_assoc, Int.mul_comm P]
  have e2 : a.period / g * b.period = b.period * (a.period / g) := Int.mul_comm ..
  unfold Both
  conv => lhs; rw [e2]
  rw [inW_sub, ← e2, e1, inW_sub]

theorem l32_law {ρ : Type} {a b : Window} {t m : Int} {kn kr : Option ρ} (ha : Ok a) (hb : Ok b) (ht : Near t) (hm : m ≤ 3000) : ∀ (f : Nat) (i : Int), 0 ≤ i → m - i + 1 ≤ f → 1 ≤ f → (∀ j, i ≤ j → j < m → ¬ Both a b (t + j)) →
    l_3_2 @s_9 a b t kn kr f m i = kn
  | 0, i, h0, h1, hf, _ => by omega
  | f + 1, i, h0, h1, hf, h2 => by
    show h_3_2 @s_9 a b t kn kr (l_3_2 @s_9 a b t kn kr f m) m i = kn
    unfold h_3_2
    rw [sel_dec]
    obtain ⟨t1, t2⟩ := ht
    split
    · rename_i hlt
      have ih := l32_law ha hb ⟨t1, t2⟩ hm f (i + 1) (by omega) (by omega) (by omega) (fun j g1 g2 => h2 j (by omega) g2) (kn := kn) (kr := kr)
      have hno := h2 i (by omega) hlt
      rw [wrap_in (x := t + i) (by omega), wrap_in (x := i + 1) (by omega), s9_law ha, sel_dec]
      split
      · rename_i hA
        rw [s9_law hb, sel_dec, if_neg fun hB => hno ⟨hA, hB⟩, ih]
      · exact ih
    · rfl

theorem s7_use {ρ : Type} {a b : Window} {t : Int} {K : Int → Int → Option ρ} {r : Option ρ} (ha : Ok a) (hb : Ok b) (ht : Near t) (h : ∀ x e, NextSpec a b t x e → K x e = r) : s_7 a b t K = r := by
  obtain ⟨x, e, h1, h2⟩ := s7_law (k := K) ha hb ht
  rw [h2, h x e h1]

theorem sel_bne {α : Type _} {x y : Int} {a b : α} : sel (x != y) a b = if x = y then b else a := by
  by_cases h : x = y
  · simp [h]
  · have : (x != y) = true := by simpa using h
    rw [this, if_neg h]

theorem s3_law {ρ : Type} {a b : Window} {t : Int} {k : Bool → Option ρ} : s_3 a b t k = k true := by
  show g_3 @s_6 @s_7 @s_8 @s_9 @p_3_0 (@p_3_2 3001) a b t k = _
  unfold g_3
  show s_7 a b t _ = _
  by_cases hok : Ok a ∧ Ok b ∧ Near t
  · obtain ⟨ha, hb, ht⟩ := hok
    refine s7_use ha hb ht fun x e h1 => s7_use hb ha ht fun x' e' h1' => ?_
    obtain ⟨rfl, rfl⟩ := h1.unique h1'
    rw [s8_law, if_pos ⟨ha, hb⟩, s8_law, if_pos ⟨hb, ha⟩, sel_bne, if_pos rfl, sel_bne, if_pos rfl, often_sym (a := b) hb, sel_bne, if_pos rfl, sel_bne, if_pos rfl]
    show sel (e == 2) _ _ = _
    have he : e = 7 ∨ e = 0 := by rcases h1 with ⟨_, _, h⟩ | ⟨_, _, _, h⟩ <;> omega
    rw [sel_beq, if_neg (by omega), sel_bne, if_pos rfl]
    show s_35 a.period b.period _ = _
    rw [s35_law ⟨ha.1, ha.2.1⟩ ⟨hb.1, hb.2.1⟩]
    obtain ⟨f1, f2, f3⟩ := all_facts ha hb
    have hg := gcd_pos (b := b) ha
    have hbd := often_bound ha hb
    have hP : a.period / ((Int.gcd a.period b.period : Nat) : Int) ≤ a.period := Int.ediv_le_self _ (by have := ha.1; omega)
    have hP0 : 0 ≤ a.period / ((Int.gcd a.period b.period : Nat) : Int) := Int.ediv_nonneg (by have := ha.1; omega) (by omega)
    rw [Int.tdiv_eq_ediv_of_nonneg (show 0 ≤ a.period by have := ha.1; omega), wrap_in (x := a.period / ((Int.gcd a.period b.period : Nat) : Int)) (by have := ha.2.1; omega)]
    change _ ≤ _ ∧ _ ≤ allV a b at hbd
    show sel (decide (((Int.gcd a.period b.period : Nat) : Int) = 0)) none (sel (decide (oftenV a b < 0)) (k false) (sel (decide (oftenV a b > IntKind.i64.wrap (allV a b))) (k false) (sel (!(oftenV a b == 0) == (e == 7)) (k false) (sel (e != 0) (k true)
      (sel (decide (x < t)) (k false) (sel (decide (IntKind.i64.wrap (x - t) ≥ IntKind.i64.wrap (allV a b))) (k false)
        (s_9 a x fun v0_5 => sel (!v0_5) (k false) (s_9 b x fun v0_6 => sel (!v0_6) (k false) (s_9 a (IntKind.i64.wrap (x - IntKind.i64.wrap (allV a b))) fun v0_7 => sel (!v0_7) (k false) (s_9 b (IntKind.i64.wrap (x - IntKind.i64.wrap (allV a b))) fun v0_8 => sel (!v0_8) (k false)
          (l_3_2 @s_9 a b t (k true) (k false) 3001 (if IntKind.i64.wrap (x - t) < 3000 then IntKind.i64.wrap (x - t) else 3000) 0))))))))))) = _
    rw [sel_dec, if_neg (by omega), sel_dec, if_neg (by omega), wrap_in (x := allV a b) (by omega), sel_dec, if_neg (by omega)]
    have hz := often_zero ha hb
    obtain ⟨t1, t2⟩ := id ht
    rcases h1 with ⟨n1, rfl, rfl⟩ | ⟨n1, n2, n3, rfl⟩
    · have hnone : ¬ ∃ y, Both a b y := by
        rintro ⟨y, hy⟩
        -- moved on by whole common periods
        have mv : ∀ (m : Nat), Both a b (y + allV a b * m) := fun m => by
          induction m with
          | zero => simpa using hy
          | succ m ih =>
            rw [← f3]
            have e : y + allV a b * ((m + 1 : Nat) : Int) - allV a b = y + allV a b * m := by
              rw [show ((m + 1 : Nat) : Int) = (m : Int) + 1 by omega, Int.mul_add]; omega
            rw [e]; exact ih
        have := mv (t - y).toNat
        have hge : ((t - y).toNat : Int) ≤ allV a b * ((t - y).toNat : Int) := by
          have := Int.mul_le_mul_of_nonneg_right f1 (show 0 ≤ ((t - y).toNat : Int) by omega)
          omega
        exact n1 _ (by omega) this
      rw [hz.2 hnone]
      rfl
    · have hsome : oftenV a b ≠ 0 := fun h => hz.1 h ⟨x, n2⟩
      have hb0 : (oftenV a b == 0) = false := by simpa using hsome
      rw [hb0]
      show sel (decide (x < t)) _ _ = _
      have hxt : x - t < allV a b := by
        by_cases h : x - t < allV a b
        · exact h
        · exact absurd ((f3 x).2 n2) (n3 (x - allV a b) (by omega) (by omega))
      have n4 := (f3 x).2 n2
      rw [sel_dec, if_neg (by omega), wrap_in (x := x - t) (by omega), sel_dec, if_neg (by omega), s9_law ha, decide_eq_true n2.1, s9_law hb, decide_eq_true n2.2, wrap_in (x := x - allV a b) (by omega), s9_law ha, decide_eq_true n4.1, s9_law hb, decide_eq_true n4.2]
      show l_3_2 @s_9 a b t (k true) (k false) 3001 _ 0 = _
      refine l32_law ha hb ht (by split <;> omega) 3001 0 (by omega) (by split <;> omega) (by omega) fun j j1 j2 => n3 (t + j) (by omega) ?_
      split at j2 <;> omega
  · rw [s7_bad hok, s7_bad (fun h => hok ⟨h.2.1, h.1, h.2.2⟩), s8_law]
    by_cases hab : Ok a ∧ Ok b
    · rw [if_pos hab, s8_law, if_pos hab.symm, often_sym (a := b) hab.2, sel_bne, if_pos rfl, sel_bne, if_pos rfl, sel_bne, if_pos rfl, sel_bne, if_pos rfl]
      rfl
    · rw [if_neg hab, s8_law, if_neg (fun h => hab h.symm), sel_bne, if_pos rfl, sel_bne, if_pos rfl, sel_bne, if_pos rfl, sel_bne, if_pos rfl]
      rfl

end Go.Proofs.Ytmgdofgmidbddaa
