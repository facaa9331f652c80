/- Iterators: functions that are handed 'yield'. -/
import Derived.Test.YtmgdofgmidbddaaFrX
namespace Go.Ull
open Go.RowKit

abbrev SEntry := ∀ (ρ S : Type), List AV → (S → List AV → (Bool → S → Option ρ) → Option ρ) → S → (S → Option ρ) → Option ρ

def isMove (ys : List Nat) (o : Oper) : Bool :=
  match o.op with
  | .move (.tmp t) => ys.contains t
  | _ => false

def isYield (ys : List Nat) (o : Oper) : Option (List Operand) :=
  match o.op with
  | .call c => match c.callee with
    | .value (.tmp t) => cond (ys.contains t) (some c.args.toList) none
    | _ => none
  | _ => none

def ysDrop (ys : List Nat) (d : Option Nat) : List Nat :=
  match d with
  | none => ys
  | some d => ys.filter fun t => !Nat.beq t d

def ysAdd (n : Nat) (ys : List Nat) (d : Option Nat) : List Nat :=
  match d with
  | none => ys
  | some d => cond (Nat.blt d n) (d :: ys) (ysDrop ys (some d))

def opsI (T : Tab) (all : List Oper) {ρ S : Type} (Y : S → List AV → (Bool → S → Option ρ) → Option ρ) : List Oper → List AV → List Nat → S → (List AV → List Nat → S → Option ρ) → Option ρ
  | [], tm, ys, s, k => k tm ys s
  | o :: rest, tm, ys, s, k =>
    guardEv all o ⟨tm, []⟩
      (fun σ => cond (isMove ys o) (opsI T all Y rest (σ.put o.dst .undef).tm (ysAdd tm.length ys o.dst) s k)
        (match isYield ys o with
         | some args => Y s (args.map σ.eval) fun b s' => opsI T all Y rest (σ.put o.dst (.bool b)).tm (ysDrop ys o.dst) s' k
         | none => opEv T o ⟨σ.tm, []⟩ 0 fun v _ ups => cond ups.isEmpty (opsI T all Y rest (σ.put o.dst v).tm (ysDrop ys o.dst) s k) none))
      (fun σ => opsI T all Y rest (σ.put o.dst (.tuple [])).tm (ysDrop ys o.dst) s k)

def loopI {ρ S : Type} (body : List AV → List Nat → S → (AX → List AV → List Nat → S → Option ρ) → Option ρ) : Nat → List AV → List Nat → S → (AX → List AV → List Nat → S → Option ρ) → Option ρ
  | 0, _, _, _, _ => none
  | n + 1, tm, ys, s, k => body tm ys s fun x tm ys s => match x with | .normal => loopI body n tm ys s k | x => k x tm ys s

def evI (T : Tab) {ρ S : Type} (Y : S → List AV → (Bool → S → Option ρ) → Option ρ) : Code → List AV → List Nat → S → (AX → List AV → List Nat → S → Option ρ) → Option ρ
  | .skip, tm, ys, s, k => k .normal tm ys s
  | .label _, tm, ys, s, k => k .normal tm ys s
  | .region _ ops draw, tm, ys, s, k => cond draw none (opsI T ops.toList Y ops.toList tm ys s fun tm ys s => k .normal tm ys s)
  | .seq a b, tm, ys, s, k => evI T Y a tm ys s fun x tm ys s => match x with | .normal => evI T Y b tm ys s k | x => k x tm ys s
  | .cond c a b, tm, ys, s, k => match (⟨tm, []⟩ : St).eval c with | .bool v => cond v (evI T Y a tm ys s k) (evI T Y b tm ys s k) | _ => none
  | .block id c, tm, ys, s, k => evI T Y c tm ys s fun x tm ys s => match x with | .exit j => cond (Nat.beq j id) (k .normal tm ys s) (k (.exit j) tm ys s) | x => k x tm ys s
  | .loop c, tm, ys, s, k => loopI (evI T Y c) T.fuel tm ys s k
  | .exit id, tm, ys, s, k => k (.exit id) tm ys s
  | .scope c, tm, ys, s, k => evI T Y c tm ys s k
  | .ret, tm, ys, s, k => k .ret tm ys s
  | _, _, _, _, _ => none

/-- An iterator's own run. -/
def runI (T : Tab) (body : Code) (ntmps : Nat) : SEntry := fun _ _ caps Y s k =>
  cond (Nat.beq T.m 0) (evI T Y body (.undef :: caps ++ List.replicate (ntmps - (caps.length + 1)) (.tuple [])) [0] s fun x _ _ s => match x with | .exit _ => none | _ => k s) none

/-! ### What it says -/

def YieldsTo (P : Program) (l : Nat) (us : Array Value) (w : World) (R : Ending → World → Prop) : Prop :=
  ∃ fn tmps assign body, (Instr.yield l us).run P w = .ok (.round l fn tmps assign body) w ∧ RoundIn (ro none) 0 P l fn tmps assign body w R

/-- What a round may make of what lies outside. -/
def Steps {ρ S : Type} (Y : S → List AV → (Bool → S → Option ρ) → Option ρ) (Stp : S → List AV → Bool → S → Prop) : Prop :=
  ∀ s args (kk : Bool → S → Option ρ) r, Y s args kk = some r → ∃ b s', kk b s' = some r ∧ Stp s args b s'

structure Env (P : Program) (l : Nat) {S : Type} (Stp : S → List AV → Bool → S → Prop) (Out : S → (Nat → Nat → Prop) → World → Prop) : Prop where
  lt : ∀ s A w, Out s A w → ∀ b o, A b o → b < w.heap.size
  keep : ∀ s A w w', Out s A w → Keep (fun _ _ => False) w w' → Out s A w'
  step : ∀ s args b s', Stp s args b s' → ∀ A w (us : Array Value), us.size = args.length →
    (∀ (i : Nat) c, args[i]? = some c → RelV w A [] c (us.getD i Go.undef)) → Out s A w →
    YieldsTo P l us w fun e w' => e = .returned (.bool b) ∧ ∃ A', Out s' A' w' ∧ (∀ b o v, w.cell? ⟨b, o, none⟩ = some v → ¬ A b o → w'.cell? ⟨b, o, none⟩ = some v) ∧ ∀ b o, A' b o → b < w.heap.size → A b o

structure ItOK (l : Nat) (ys : List Nat) (tm : List AV) (A : Nat → Nat → Prop) (a : Act) (w : World) : Prop where
  tms : a.tmps.size = tm.length
  tm : ∀ t v, tm[t]? = some v → RelV w A [] v (a.tmps.getD t Go.undef)
  ys : ∀ t ∈ ys, a.tmps.getD t Go.undef = .func (.yield l) #[] #[]
  dz : a.defers = []

def ctxA (w : World) (A : Nat → Nat → Prop) (h : ∀ b o, A b o → b < w.heap.size) : Ctx := { w0 := w, X0 := A, A0 := fun _ _ => False, m := 0, loc0 := [], x0 := h, xa := fun _ _ _ f => f }

theorem ctxA_X {w : World} {A : Nat → Nat → Prop} {h : ∀ b o, A b o → b < w.heap.size} : (ctxA w A h).X [] [] = A := by
  funext b o
  refine propext ⟨fun h => h.elim id ?_, .inl⟩
  rintro ⟨i, k, l, h1, _⟩
  simp at h1

theorem ItOK.rel {l : Nat} {ys : List Nat} {tm : List AV} {A : Nat → Nat → Prop} {a : Act} {w : World} (h : ItOK l ys tm A a w) (hA : ∀ b o, A b o → b < w.heap.size) : RelSt (ctxA w A hA) ⟨tm, []⟩ a w [] := by
  refine ⟨rfl, Nat.zero_le _, fun i l hi => absurd hi (by simp [ctxA]), fun i l b hi => absurd hi (by simp [ctxA]), fun i l b _ hl => by simp at hl, Keep.refl _ _, fun b o hh => ?_, fun i j l l' b _ hl => by simp at hl, fun i k l hk => by simp at hk, h.tms, fun t v hv => ?_, by rw [h.dz]; exact Marks.nil⟩
  · obtain ⟨i, k, l, h1, _⟩ := hh; simp at h1
  · show RelV w ((ctxA w A hA).X [] []) [] v _
    rw [ctxA_X]; exact h.tm t v hv

theorem put_getD {a : Act} {d : Option Nat} {x : Value} {t : Nat} (h : ∀ d', d = some d' → t ≠ d') : (a.put d x).tmps.getD t Go.undef = a.tmps.getD t Go.undef := by
  cases d with
  | none => rfl
  | some d =>
    have := h d rfl
    simp only [Act.put, Array.getD_eq_getD_getElem?]
    rw [Array.getElem?_setIfInBounds_ne (Ne.symm this)]

theorem ysDrop_mem {ys : List Nat} {d : Option Nat} {t : Nat} (h : t ∈ ysDrop ys d) : t ∈ ys ∧ ∀ d', d = some d' → t ≠ d' := by
  cases d with
  | none => exact ⟨h, fun _ e => by cases e⟩
  | some d =>
    simp only [ysDrop, List.mem_filter] at h
    refine ⟨h.1, fun d' e e2 => ?_⟩
    cases e; subst e2
    simp at h

/-- One's own step. -/
theorem ItOK.own {l : Nat} {ys : List Nat} {tm : List AV} {A : Nat → Nat → Prop} {a : Act} {w : World} (h : ItOK l ys tm A a w) (hA : ∀ b o, A b o → b < w.heap.size) {d : Option Nat} {v : AV} {x : Value} {w' : World} {loc' : List Loc}
    (hr : RelSt (ctxA w A hA) ((⟨tm, []⟩ : St).put d v) (a.put d x) w' loc') (hd : a.defers = []) : ItOK l (ysDrop ys d) ((⟨tm, []⟩ : St).put d v).tm A (a.put d x) w' ∧ Keep (fun _ _ => False) w w' := by
  have h0 : loc' = [] := by
    have := hr.llen
    rw [put_hp] at this
    exact List.eq_nil_of_length_eq_zero this
  subst h0
  refine ⟨⟨hr.tms, fun t u hu => ?_, fun t ht => ?_, by cases d <;> exact hd⟩, hr.keep⟩
  · have := hr.tm t u hu
    rw [put_hp] at this
    rwa [show (ctxA w A hA).X (⟨tm, []⟩ : St).hp [] = A from ctxA_X] at this
  · obtain ⟨h1, h2⟩ := ysDrop_mem ht
    rw [put_getD h2]; exact h.ys t h1

theorem isYield_spec {ys : List Nat} {o : Oper} {args : List Operand} (h : isYield ys o = some args) : ∃ c t, o.op = .call c ∧ c.callee = .value (.tmp t) ∧ t ∈ ys ∧ args = c.args.toList := by
  unfold isYield at h
  split at h
  · rename_i c hc
    split at h
    · rename_i t ht
      cases hb : ys.contains t with
      | true => rw [hb] at h; cases h; exact ⟨c, t, hc, ht, by simpa using hb, rfl⟩
      | false => rw [hb] at h; cases h
    · cases h
  · cases h

theorem roundIn_any {P : Program} {l n : Nat} {f : FuncId} {tmps : Array Value} {assign body : Code} {w : World} {R : Ending → World → Prop} (h : RoundIn (ro none) 0 P l f tmps assign body w R) : RoundIn (ro none) n P l f tmps assign body w R :=
  ⟨h.1, fun c cs _ => h.2 c cs fun _ hd => by cases hd⟩

theorem wp_yield {P : Program} {o : Oper} {c : Call} {t l : Nat} {a : Act} {w : World} {mm : Nat} {b : Bool} {R : World → Prop} {K : Act → World → Prop} {Q : Exit → Act → World → Prop} (ho : o.op = .call c) (hc : c.callee = .value (.tmp t)) (ht : a.tmps.getD t Go.undef = .func (.yield l) #[] #[])
    (h : YieldsTo P l (c.args.map a.eval) w fun e w' => e = .returned (.bool b) ∧ R w') (hK : ∀ w', R w' → K (a.put o.dst (.bool b)) w') : o.wpIn (ro none) mm P a w K Q := by
  obtain ⟨fn, tmps, assign, body, h1, h2⟩ := h
  refine ⟨fun _ _ => trivial, ?_⟩
  have hrun : (execOp a.eval o).run P w = .ok (.round l fn tmps assign body) w := by
    obtain ⟨dst, op, type, pos, after, guard⟩ := o
    simp only at ho
    subst ho
    have e1 : a.eval (.tmp t) = .func (.yield l) #[] #[] := ht
    simp only [execOp, resolve, hc, e1, Deferred.ofValue, invoke, Sem.run_bind, Sem.run_pure, Result.andThen_ok]
    simpa using h1
  rw [show (ro none).round = none from rfl, run_semAt hrun (by intro d e; cases e) none]
  rw [Oper.uponIn_round]
  refine ⟨fun h => (by cases h), roundIn_any (RoundIn.mono h2 fun e w' he => ?_)⟩
  obtain ⟨rfl, hR⟩ := he
  exact hK w' hR

theorem opsI_sound {P : Program} {T : Tab} (hG : Good P T) (hm : T.m = 0) {ρ S : Type} {Y : S → List AV → (Bool → S → Option ρ) → Option ρ} {Stp : S → List AV → Bool → S → Prop} (hY : Steps Y Stp) {ops : Array Oper} {r : ρ} :
    ∀ (rest : List Oper) (tm : List AV) (ys : List Nat) (s : S) (k : List AV → List Nat → S → Option ρ), opsI T ops.toList Y rest tm ys s k = some r → ∃ tm' ys' s', k tm' ys' s' = some r ∧
      ∀ (l : Nat) (Out : S → (Nat → Nat → Prop) → World → Prop), Env P l Stp Out → ∀ (mm : Nat) (A : Nat → Nat → Prop) (a : Act) (w : World) (Q : Exit → Act → World → Prop), Out s A w → ItOK l ys tm A a w → (∀ A' a' w', Out s' A' w' → ItOK l ys' tm' A' a' w' → Q .normal a' w') → wpListIn (ro none) mm P ops Q rest a w
  | [], tm, ys, s, k, h => ⟨tm, ys, s, h, fun l Out hE mm A a w Q ho hi hQ => hQ A a w ho hi⟩
  | o :: rest, tm, ys, s, k, h => by
    unfold opsI at h
    obtain ⟨run, h1, h2⟩ := guardEv_some h
    cases run with
    | false =>
      obtain ⟨tm', ys', s', h3, h4⟩ := opsI_sound hG hm hY rest _ _ _ _ h2
      refine ⟨tm', ys', s', h3, fun l Out hE mm A a w Q ho hi hQ => wpListIn_step fun K hK => ?_⟩
      have hA := hE.lt s A w ho
      have hr := hi.rel hA
      rw [wanted_of hr h1, if_neg (by simp)]
      refine ⟨fun _ _ => trivial, hK _ _ ?_⟩
      obtain ⟨g1, g2⟩ := hi.own hA (hr.put (v := .tuple []) undef_rel o.dst) hi.dz
      exact h4 l Out hE mm A _ w Q ho g1 hQ
    | true =>
      simp only at h2
      cases hmv : isMove ys o with
      | true =>
        rw [hmv, cond_true] at h2
        obtain ⟨tm', ys', s', h3, h4⟩ := opsI_sound hG hm hY rest _ _ _ _ h2
        refine ⟨tm', ys', s', h3, fun l Out hE mm A a w Q ho hi hQ => wpListIn_step fun K hK => ?_⟩
        have hA := hE.lt s A w ho
        have hr := hi.rel hA
        rw [wanted_of hr h1, if_pos rfl]
        unfold isMove at hmv
        split at hmv
        · rename_i t hop
          have ht : t ∈ ys := by simpa using hmv
          refine wp_of_value (x := a.tmps.getD t Go.undef) (w' := w) ?_ (hK _ _ ?_)
          · obtain ⟨dst, op, type, pos, after, guard⟩ := o
            simp only at hop
            subst hop
            rfl
          · obtain ⟨g1, g2⟩ := hi.own hA (hr.put (v := .undef) (.undef (a.tmps.getD t Go.undef)) o.dst) hi.dz
            refine h4 l Out hE mm A _ w Q ho ⟨g1.tms, g1.tm, fun t' ht' => ?_, g1.dz⟩ hQ
            by_cases hin : t' ∈ ysDrop ys o.dst
            · exact g1.ys t' hin
            · cases hd : o.dst with
              | none => rw [hd] at ht' hin; exact absurd ht' hin
              | some d =>
                rw [hd] at ht' hin
                unfold ysAdd at ht'
                cases hlt : Nat.blt d tm.length with
                | false => simp only [hlt, cond_false] at ht'; exact absurd ht' hin
                | true =>
                  simp only [hlt, cond_true] at ht'
                  have hlt : d < tm.length := Nat.le_of_ble_eq_true hlt
                  have : t' = d := by
                    rcases List.mem_cons.1 ht' with e | e
                    · exact e
                    · by_cases e2 : t' = d
                      · exact e2
                      · refine absurd ?_ hin
                        simp only [ysDrop, List.mem_filter]
                        refine ⟨e, ?_⟩
                        cases hb : Nat.beq t' d with
                        | false => rfl
                        | true => exact absurd (Nat.eq_of_beq_eq_true hb) e2
                  subst this
                  have : t' < a.tmps.size := by rw [hi.tms]; exact hlt
                  simp [Act.put, Array.getD_eq_getD_getElem?, this, ← hi.ys t ht]
        · cases hmv
      | false =>
        rw [hmv, cond_false] at h2
        split at h2
        · rename_i args hy
          obtain ⟨c, t, hop, hcal, ht, rfl⟩ := isYield_spec hy
          obtain ⟨b, s1, h3, hst⟩ := hY _ _ _ _ h2
          obtain ⟨tm', ys', s', h4, h5⟩ := opsI_sound hG hm hY rest _ _ _ _ h3
          refine ⟨tm', ys', s', h4, fun l Out hE mm A a w Q ho hi hQ => wpListIn_step fun K hK => ?_⟩
          have hA := hE.lt s A w ho
          have hr := hi.rel hA
          rw [wanted_of hr h1, if_pos rfl]
          refine wp_yield hop hcal (hi.ys t ht) (hE.step _ _ _ _ hst A w (c.args.map a.eval) (by simp) (fun i d hd => ?_) ho) fun w' ⟨A', ho', hcell, hsub⟩ => hK _ _ ?_
          · rw [List.getElem?_map, Array.getElem?_toList] at hd
            cases hx : c.args[i]? with
            | none => simp [hx] at hd
            | some x =>
              simp only [hx, Option.map_some, Option.some.injEq] at hd
              subst hd
              have := hr.eval x
              rw [show (ctxA w A hA).X (⟨tm, []⟩ : St).hp [] = A from ctxA_X] at this
              simpa [Array.getD_eq_getD_getElem?, hx] using this
          · have hi' : ItOK l ys tm A' a w' := ⟨hi.tms, fun t v hv => (hi.tm t v hv).mono (fun _ _ h _ => h) fun b o v e1 e2 => ⟨hcell b o v e1 e2, fun e3 => e2 (hsub b o e3 (cell_lt e1))⟩, hi.ys, hi.dz⟩
            have hA' := hE.lt s1 A' w' ho'
            obtain ⟨g1, _⟩ := hi'.own hA' ((hi'.rel hA').put (v := .bool b) (.bool b) o.dst) hi.dz
            exact h5 l Out hE mm A' _ w' Q ho' g1 hQ
        · obtain ⟨v, fp, ups, h3, h4⟩ := opEv_ok hG h2
          obtain ⟨h5, h6⟩ := cond_none h3
          have hu : ups = [] := by simpa using h5
          subst hu
          obtain ⟨tm', ys', s', h7, h8⟩ := opsI_sound hG hm hY rest _ _ _ _ h6
          refine ⟨tm', ys', s', h7, fun l Out hE mm A a w Q ho hi hQ => wpListIn_step fun K hK => ?_⟩
          have hA := hE.lt s A w ho
          have hr := hi.rel hA
          rw [wanted_of hr h1, if_pos rfl]
          refine h4 (ctxA w A hA) ⟨tm, []⟩ a w [] hm.symm hr (fun _ _ => rfl) (fun _ _ => rfl) none mm K Q fun a' w' loc' ⟨x, hx⟩ hr' => ?_
          subst hx
          obtain ⟨g1, g2⟩ := hi.own (v := v) hA (loc' := loc') hr' hi.dz
          exact hK _ _ (h8 l Out hE mm A _ w' Q (hE.keep s A w w' ho g2) g1 hQ)

/-- What an iterator's code makes of what lies outside. -/
def CodeI (P : Program) {S : Type} (Stp : S → List AV → Bool → S → Prop) (c : Code) (tm : List AV) (ys : List Nat) (s : S) (x : AX) (tm' : List AV) (ys' : List Nat) (s' : S) : Prop :=
  ∀ (l : Nat) (Out : S → (Nat → Nat → Prop) → World → Prop), Env P l Stp Out → ∀ (mm : Nat) (A : Nat → Nat → Prop) (a : Act) (w : World) (Q : Exit → Act → World → Prop), Out s A w → ItOK l ys tm A a w → (∀ A' a' w', Out s' A' w' → ItOK l ys' tm' A' a' w' → Q x.exit' a' w') → c.wpIn (ro none) mm P Q a w

theorem loopI_sound {P : Program} {ρ S : Type} {Stp : S → List AV → Bool → S → Prop} {c : Code} {r : ρ} {body : List AV → List Nat → S → (AX → List AV → List Nat → S → Option ρ) → Option ρ}
    (hb : ∀ tm ys s k, body tm ys s k = some r → ∃ x tm' ys' s', k x tm' ys' s' = some r ∧ CodeI P Stp c tm ys s x tm' ys' s') : ∀ (n : Nat) (tm : List AV) (ys : List Nat) (s : S) (k : AX → List AV → List Nat → S → Option ρ), loopI body n tm ys s k = some r →
    ∃ x tm' ys' s', k x tm' ys' s' = some r ∧ ∀ (l : Nat) (Out : S → (Nat → Nat → Prop) → World → Prop), Env P l Stp Out → ∀ (mm : Nat) (A : Nat → Nat → Prop) (a : Act) (w : World) (Q : Exit → Act → World → Prop), Out s A w → ItOK l ys tm A a w → (∀ A' a' w', Out s' A' w' → ItOK l ys' tm' A' a' w' → Q x.exit' a' w') → Code.roundsIn (ro none) mm P c Q n a w
  | 0, tm, ys, s, k, h => by cases h
  | n + 1, tm, ys, s, k, h => by
    unfold loopI at h
    obtain ⟨x, tm1, ys1, s1, h1, h2⟩ := hb _ _ _ _ h
    cases x with
    | normal =>
      obtain ⟨y, tm2, ys2, s2, g1, g2⟩ := loopI_sound hb n _ _ _ _ h1
      exact ⟨y, tm2, ys2, s2, g1, fun l Out hE mm A a w Q ho hi hQ => h2 l Out hE mm A a w _ ho hi fun A' a' w' ho' hi' => g2 l Out hE mm A' a' w' Q ho' hi' hQ⟩
    | exit i => exact ⟨_, _, _, _, h1, fun l Out hE mm A a w Q ho hi hQ => h2 l Out hE mm A a w _ ho hi fun A' a' w' ho' hi' => hQ _ _ _ ho' hi'⟩
    | ret => exact ⟨_, _, _, _, h1, fun l Out hE mm A a w Q ho hi hQ => h2 l Out hE mm A a w _ ho hi fun A' a' w' ho' hi' => hQ _ _ _ ho' hi'⟩

theorem evI_sound {P : Program} {T : Tab} (hG : Good P T) (hm : T.m = 0) {ρ S : Type} {Y : S → List AV → (Bool → S → Option ρ) → Option ρ} {Stp : S → List AV → Bool → S → Prop} (hY : Steps Y Stp) {r : ρ} :
    ∀ (c : Code) (tm : List AV) (ys : List Nat) (s : S) (k : AX → List AV → List Nat → S → Option ρ), evI T Y c tm ys s k = some r → ∃ x tm' ys' s', k x tm' ys' s' = some r ∧ CodeI P Stp c tm ys s x tm' ys' s'
  | .skip, tm, ys, s, k, h => ⟨_, _, _, _, h, fun l Out hE mm A a w Q ho hi hQ => wpIn_skip (hQ _ _ _ ho hi)⟩
  | .label _, tm, ys, s, k, h => ⟨_, _, _, _, h, fun l Out hE mm A a w Q ho hi hQ => wpIn_label (hQ _ _ _ ho hi)⟩
  | .region id ops draw, tm, ys, s, k, h => by
    unfold evI at h
    cases draw with
    | true => cases h
    | false =>
      obtain ⟨tm', ys', s', h1, h2⟩ := opsI_sound hG hm hY (ops := ops) _ _ _ _ _ h
      exact ⟨_, _, _, _, h1, fun l Out hE mm A a w Q ho hi hQ => wpIn_region_list (h2 l Out hE mm A a w Q ho hi hQ)⟩
  | .seq x y, tm, ys, s, k, h => by
    unfold evI at h
    obtain ⟨x1, tm1, ys1, s1, h1, h2⟩ := evI_sound hG hm hY x _ _ _ _ h
    cases x1 with
    | normal =>
      obtain ⟨x2, tm2, ys2, s2, g1, g2⟩ := evI_sound hG hm hY y _ _ _ _ h1
      exact ⟨_, _, _, _, g1, fun l Out hE mm A a w Q ho hi hQ => wpIn_seq (h2 l Out hE mm A a w _ ho hi fun A' a' w' ho' hi' => g2 l Out hE mm A' a' w' Q ho' hi' hQ)⟩
    | exit i => exact ⟨_, _, _, _, h1, fun l Out hE mm A a w Q ho hi hQ => wpIn_seq (h2 l Out hE mm A a w _ ho hi fun A' a' w' ho' hi' => hQ _ _ _ ho' hi')⟩
    | ret => exact ⟨_, _, _, _, h1, fun l Out hE mm A a w Q ho hi hQ => wpIn_seq (h2 l Out hE mm A a w _ ho hi fun A' a' w' ho' hi' => hQ _ _ _ ho' hi')⟩
  | .cond o x y, tm, ys, s, k, h => by
    unfold evI at h
    split at h
    · rename_i v hv
      have hcond : ∀ {l : Nat} {Out : S → (Nat → Nat → Prop) → World → Prop} (hE : Env P l Stp Out) {A : Nat → Nat → Prop} {a : Act} {w : World}, Out s A w → ItOK l ys tm A a w → a.eval o = .bool v := fun {l Out} hE {A a w} ho hi => by
        have := (hi.rel (hE.lt s A w ho)).eval o
        rw [hv] at this
        exact this.bool_inv
      cases v with
      | true =>
        obtain ⟨x1, tm1, ys1, s1, h1, h2⟩ := evI_sound hG hm hY x _ _ _ _ h
        exact ⟨_, _, _, _, h1, fun l Out hE mm A a w Q ho hi hQ => wpIn_cond_true (hcond hE ho hi) (h2 l Out hE mm A a w Q ho hi hQ)⟩
      | false =>
        obtain ⟨x1, tm1, ys1, s1, h1, h2⟩ := evI_sound hG hm hY y _ _ _ _ h
        exact ⟨_, _, _, _, h1, fun l Out hE mm A a w Q ho hi hQ => wpIn_cond_false (hcond hE ho hi) (h2 l Out hE mm A a w Q ho hi hQ)⟩
    · cases h
  | .block id c, tm, ys, s, k, h => by
    unfold evI at h
    obtain ⟨x1, tm1, ys1, s1, h1, h2⟩ := evI_sound hG hm hY c _ _ _ _ h
    cases x1 with
    | normal => exact ⟨_, _, _, _, h1, fun l Out hE mm A a w Q ho hi hQ => wpIn_block (h2 l Out hE mm A a w _ ho hi fun A' a' w' ho' hi' => hQ _ _ _ ho' hi')⟩
    | ret => exact ⟨_, _, _, _, h1, fun l Out hE mm A a w Q ho hi hQ => wpIn_block (h2 l Out hE mm A a w _ ho hi fun A' a' w' ho' hi' => hQ _ _ _ ho' hi')⟩
    | exit j =>
      cases hj : Nat.beq j id with
      | true =>
        simp only [hj, cond_true] at h1
        refine ⟨_, _, _, _, h1, fun l Out hE mm A a w Q ho hi hQ => wpIn_block (h2 l Out hE mm A a w _ ho hi fun A' a' w' ho' hi' => ?_)⟩
        show if j = id then _ else _
        rw [if_pos (Nat.eq_of_beq_eq_true hj)]
        exact hQ _ _ _ ho' hi'
      | false =>
        simp only [hj, cond_false] at h1
        refine ⟨_, _, _, _, h1, fun l Out hE mm A a w Q ho hi hQ => wpIn_block (h2 l Out hE mm A a w _ ho hi fun A' a' w' ho' hi' => ?_)⟩
        show if j = id then _ else _
        rw [if_neg (fun e => by subst e; simp at hj)]
        exact hQ _ _ _ ho' hi'
  | .loop c, tm, ys, s, k, h => by
    unfold evI at h
    obtain ⟨x1, tm1, ys1, s1, h1, h2⟩ := loopI_sound (P := P) (Stp := Stp) (c := c) (fun tm ys s k h => evI_sound hG hm hY c tm ys s k h) _ _ _ _ _ h
    exact ⟨_, _, _, _, h1, fun l Out hE mm A a w Q ho hi hQ => wpIn_loop_rounds _ (h2 l Out hE mm A a w Q ho hi hQ)⟩
  | .exit i, tm, ys, s, k, h => ⟨_, _, _, _, h, fun l Out hE mm A a w Q ho hi hQ => wpIn_exit (hQ _ _ _ ho hi)⟩
  | .scope c, tm, ys, s, k, h => by
    unfold evI at h
    obtain ⟨x1, tm1, ys1, s1, h1, h2⟩ := evI_sound hG hm hY c _ _ _ _ h
    refine ⟨_, _, _, _, h1, fun l Out hE mm A a w Q ho hi hQ => wpIn_scope_straight (h2 l Out hE mm A a w _ ho hi fun A' a' w' ho' hi' => ?_)⟩
    cases x1 <;> exact hQ _ _ _ ho' hi'
  | .ret, tm, ys, s, k, h => ⟨_, _, _, _, h, fun l Out hE mm A a w Q ho hi hQ => wpIn_ret (hQ _ _ _ ho hi)⟩
  | .goto _, _, _, _, _, h => by cases h
  | .rangeFunc _ _ _ _, _, _, _, _, h => by cases h

def SeqOK (P : Program) (g : FuncId) (SE : SEntry) : Prop :=
  (∀ args w, (callFunc g args).run P w = .ok (.enter g args) w) ∧
  ∀ (ρ S : Type) (caps : List AV) (Y : S → List AV → (Bool → S → Option ρ) → Option ρ) (Stp : S → List AV → Bool → S → Prop) (s : S) (k : S → Option ρ) (r : ρ), Steps Y Stp → SE ρ S caps Y s k = some r →
    ∃ s', k s' = some r ∧ ∀ (l : Nat) (Out : S → (Nat → Nat → Prop) → World → Prop), Env P l Stp Out → ∀ (A : Nat → Nat → Prop) (w : World) (cv : Array Value), cv.size = caps.length →
      (∀ (i : Nat) c, caps[i]? = some c → RelV w A [] c (cv.getD i Go.undef)) → Out s A w → Calls P g (#[.func (.yield l) #[] #[]] ++ cv) w fun e w' => (∃ v, e = .returned v) ∧ ∃ A', Out s' A' w'

theorem runI_ok {P : Program} {T : Tab} (hG : Good P T) {g : FuncId} {fn : Func} {c : Code} (hf : P.funcs[g]? = some fn) (hb : fn.body = some c) (hn : (fn.name == "runtime.NumGoroutine") = false) (hres : fn.results = #[]) : SeqOK P g (runI T c fn.ntmps) :=
  ⟨fun args w => Go.MuLone.run_callFunc_enter hf hn hb args w, fun ρ S caps Y Stp s k r hY h => by
  unfold runI at h
  obtain ⟨h1, h2⟩ := cond_none h
  obtain ⟨x, tm', ys', s', h3, h4⟩ := evI_sound hG (Nat.eq_of_beq_eq_true h1) hY c _ _ _ _ h2
  have main : k s' = some r → (x = .normal ∨ x = .ret) → ∃ s', k s' = some r ∧ ∀ (l : Nat) (Out : S → (Nat → Nat → Prop) → World → Prop), Env P l Stp Out → ∀ (A : Nat → Nat → Prop) (w : World) (cv : Array Value), cv.size = caps.length →
      (∀ (i : Nat) c, caps[i]? = some c → RelV w A [] c (cv.getD i Go.undef)) → Out s A w → Calls P g (#[.func (.yield l) #[] #[]] ++ cv) w fun e w' => (∃ v, e = .returned v) ∧ ∃ A', Out s' A' w' := fun hk hx => by
    refine ⟨s', hk, fun l Out hE A w cv hsz hrel ho => callsIn_ro.1 (callsIn_of_wp (F := ro none) (n := 0) hf hb trivial ?_)⟩
    have hI : ItOK l [0] (.undef :: caps ++ List.replicate (fn.ntmps - (caps.length + 1)) (.tuple [])) A { tmps := (#[.func (.yield l) #[] #[]] ++ cv) ++ Array.replicate (fn.ntmps - (#[Value.func (.yield l) #[] #[]] ++ cv).size) undef, defers := [] } w := by
      obtain ⟨p1, p2⟩ := append_rel (w := w) (X := A) (loc := []) (a := [.undef]) (b := caps) (a' := #[.func (.yield l) #[] #[]]) (b' := cv) rfl hsz.symm (fun i c hi => by
        match i with
        | 0 => cases hi; exact .undef _
        | i + 1 => simp at hi) hrel
      have hs1 : (#[Value.func (.yield l) #[] #[]] ++ cv).size = caps.length + 1 := by simp [hsz]; omega
      rw [hs1]
      obtain ⟨q1, q2⟩ := append_rel (w := w) (X := A) (loc := []) (a := [.undef] ++ caps) (b := List.replicate (fn.ntmps - (caps.length + 1)) (.tuple [])) (a' := #[.func (.yield l) #[] #[]] ++ cv) (b' := Array.replicate (fn.ntmps - (caps.length + 1)) undef) p1 (by simp)
        p2 (fun i c hi => by
          rw [List.getElem?_replicate] at hi
          split at hi
          · rename_i hlt
            cases hi
            have : (Array.replicate (fn.ntmps - (caps.length + 1)) undef).getD i Go.undef = Go.undef := by simp only [Array.getD_eq_getD_getElem?, Array.getElem?_replicate]; split <;> rfl
            rw [this]; exact undef_rel
          · cases hi)
      refine ⟨q1.symm, q2, fun t ht => ?_, rfl⟩
      have : t = 0 := by simpa using ht
      subst this
      simp [Array.getD_eq_getD_getElem?, Array.getElem?_append]
    refine h4 l Out hE 0 A _ w _ ho hI fun A' a' w' ho' hi' => ?_
    have hp : bodyPost P fn (fun e w' => (∃ v, e = .returned v) ∧ ∃ A', Out s' A' w') .normal a' w' := ⟨hi'.dz, .tuple #[], by unfold results; rw [hres, Array.mapM_eq_mapM_toList]; simp [Sem.run_pure], ⟨_, rfl⟩, A', ho'⟩
    rcases hx with rfl | rfl
    · exact hp
    · exact hp
  cases x with
  | normal => exact main h3 (.inl rfl)
  | ret => exact main h3 (.inr rfl)
  | exit i => cases h3⟩

end Go.Ull
