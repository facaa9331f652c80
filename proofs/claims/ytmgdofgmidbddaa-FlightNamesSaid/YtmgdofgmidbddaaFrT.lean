/- A whole code, and a whole function. -/
import Derived.Test.YtmgdofgmidbddaaFrS
import Derived.LoopN
import Derived.Scope
import Derived.LoopNIn
namespace Go.Ull
open Go.RowKit

theorem maskL_length : ∀ (fl : List Bool) (vs : List AV), (maskL fl vs).length = vs.length
  | true :: fl, v :: vs => by simp [maskL, maskL_length fl vs]
  | false :: fl, v :: vs => by simp [maskL, maskL_length fl vs]
  | [], v :: vs => by simp [maskL, maskL_length [] vs]
  | true :: _, [] => rfl
  | false :: _, [] => rfl
  | [], [] => rfl

theorem maskL_get : ∀ {fl : List Bool} {vs : List AV} {i : Nat} {c : AV}, (maskL fl vs)[i]? = some c → c = .undef ∨ vs[i]? = some c
  | true :: fl, v :: vs, 0, c, h => by simp [maskL] at h; subst h; exact .inr rfl
  | true :: fl, v :: vs, i + 1, c, h => by simpa using maskL_get (fl := fl) (vs := vs) (by simpa [maskL] using h)
  | false :: fl, v :: vs, 0, c, h => by simp [maskL] at h; exact .inl h.symm
  | false :: fl, v :: vs, i + 1, c, h => by simpa using maskL_get (fl := fl) (vs := vs) (by simpa [maskL] using h)
  | [], v :: vs, 0, c, h => by simp [maskL] at h; exact .inl h.symm
  | [], v :: vs, i + 1, c, h => by simpa using maskL_get (fl := []) (vs := vs) (by simpa [maskL] using h)
  | true :: _, [], i, c, h => by simp [maskL] at h
  | false :: _, [], i, c, h => by simp [maskL] at h
  | [], [], i, c, h => by simp [maskL] at h

theorem idsH_mem {hp : List Blk} {i j : Nat} {k : Blk} (hk : hp[i]? = some k) (hj : j ∈ k.ids) : ∀ {is : List Nat}, i ∈ is → j ∈ idsH hp is
  | [], h => by simp at h
  | i' :: is, h => by
    simp only [idsH, List.mem_append]
    rcases List.mem_cons.1 h with rfl | h
    · left; rw [hk]; exact hj
    · exact .inr (idsH_mem hk hj h)

theorem RelSt.norm {C : Ctx} {σ σ' : St} {a : Act} {w : World} {loc : List Loc} (hr : RelSt C σ a w loc) {m n : Nat} {fl : List Bool} (hm : C.m = m) (h : normEv m fl n σ = some σ') :
    ∃ loc', RelSt C σ' a w loc' := by
  unfold normEv at h
  obtain ⟨h1, h2⟩ := cond_none h
  simp only [Bool.and_eq_true, List.all_eq_true] at h1
  obtain ⟨h1, h3, h4, h5⟩ := h1
  have h1 := Nat.le_of_ble_eq_true h1
  have h3 := Nat.le_of_ble_eq_true h3
  have h4 : ∀ i ∈ idsL (maskL fl σ.tm), i < n := fun i hi => Nat.le_of_ble_eq_true (h4 i hi)
  have h5 : ∀ i ∈ idsH σ.hp (List.range n), i < n := fun i hi => Nat.le_of_ble_eq_true (h5 i hi)
  cases h2
  have hget : ∀ i, i < n → ∃ k l, σ.hp[i]? = some k ∧ loc[i]? = some l ∧ BlkOK w (C.X σ.hp loc) loc k l := fun i hi => by
    have h6 : σ.hp[i]? = some (σ.hp[i]'(by omega)) := by simp [show i < σ.hp.length by omega]
    obtain ⟨l, hl⟩ := hr.loc_of h6
    exact ⟨_, l, h6, hl, hr.hp i _ l h6 hl⟩
  let loc1 : List Loc := (List.range n).map fun i => ((loc[i]?).getD .none).at' 0
  have hloc1 : ∀ (i : Nat) l, loc1[i]? = some l → ∃ l0, i < n ∧ loc[i]? = some l0 ∧ l = l0.at' 0 := fun i l hl => by
    rw [List.getElem?_map] at hl
    cases hj : (List.range n)[i]? with
    | none => simp [hj] at hl
    | some i' =>
      have hlt := lt_of_getElem? hj
      simp at hlt
      rw [List.getElem?_range hlt] at hj
      cases hj
      obtain ⟨k, l0, g1, g2, _⟩ := hget i hlt
      rw [List.getElem?_range hlt] at hl
      simp only [Option.map_some, g2, Option.getD_some, Option.some.injEq] at hl
      exact ⟨l0, hlt, g2, hl.symm⟩
  have hloc1' : ∀ (i : Nat) l0, i < n → loc[i]? = some l0 → loc1[i]? = some (l0.at' 0) := fun i l0 hi hl => by
    show ((List.range n).map _)[i]? = _
    rw [List.getElem?_map, List.getElem?_range hi]; simp [hl]
  have hlent : ∀ (i : Nat) k, (lent σ.hp (fun i => i) (fun _ => 0) (List.range n))[i]? = some k → ∃ k0, i < n ∧ σ.hp[i]? = some k0 ∧ k = k0.ren σ.hp (fun i => i) (fun _ => 0) i := fun i k hk => by
    rw [lent_get] at hk
    cases hj : (List.range n)[i]? with
    | none => simp [hj] at hk
    | some i' =>
      have hlt := lt_of_getElem? hj
      simp at hlt
      rw [List.getElem?_range hlt] at hj
      cases hj
      obtain ⟨k0, l0, g1, g2, _⟩ := hget i hlt
      rw [List.getElem?_range hlt] at hk
      simp only [Option.map_some, g1, Option.getD_some, Option.some.injEq] at hk
      exact ⟨k0, hlt, g1, hk.symm⟩
  have hauth : ∀ b o, auth (lent σ.hp (fun i => i) (fun _ => 0) (List.range n)) loc1 b o → auth σ.hp loc b o := fun b o => by
    rintro ⟨i, k, l, g1, g2, g3⟩
    obtain ⟨k0, _, g4, rfl⟩ := hlent i k g1
    obtain ⟨l0, _, g5, rfl⟩ := hloc1 i l g2
    exact ⟨i, k0, l0, g4, g5, zone_ren.1 g3⟩
  have hcell : ∀ b o v, w.cell? ⟨b, o, none⟩ = some v → ¬ C.X σ.hp loc b o → w.cell? ⟨b, o, none⟩ = some v ∧ ¬ C.X (lent σ.hp (fun i => i) (fun _ => 0) (List.range n)) loc1 b o :=
    fun b o v g1 g2 => ⟨g1, fun hx => g2 (hx.imp id (hauth b o))⟩
  have hptr : ∀ (i b : Nat), i < n → loc[i]? = some (.blk b) → loc1[i]? = some (.blk b) := fun i b hi hl => hloc1' i _ hi hl
  have hgro : ∀ (i c : Nat) (t : ElT) (xs : List (El t)), i < n → σ.hp[i]? = some (.vec c t xs) → ∀ c' b len cap, loc[i]? = some (.vc c' b len cap) → c' = c ∧ loc1[i]? = some (.vc 0 b len cap) := fun i c t xs hi hk c' b len cap hl =>
    ⟨(hr.hp i _ _ hk hl).1.symm, hloc1' i _ hi hl⟩
  have hN : (List.range n).length = n := by simp
  refine ⟨loc1, by show ((List.range n).map _).length = _; rw [lent_length]; simp, by show C.m ≤ _; rw [lent_length, hN]; omega, fun i l hi hl => ?_, fun i l b hi hl hb => ?_, fun i l b hi hl hb => ?_, hr.keep, fun b o ha hb => hr.authA b o (hauth b o ha) hb,
    fun i j l l' b hij hi hj hb hb' => ?_, fun i k l hi hl => ?_, ?_, fun t c hc => ?_, hr.defers⟩
  · obtain ⟨l', g1, g2⟩ := hr.bor i l hi hl
    refine ⟨_, hloc1' i l' (by omega) g1, ?_⟩
    cases l with
    | none => trivial
    | blk b => cases (g2 : l' = _); rfl
    | vc _ _ _ _ => obtain ⟨_, _, _, _, rfl⟩ := g2; exact ⟨_, _, _, _, rfl⟩
  · obtain ⟨l0, g1, g2, rfl⟩ := hloc1 i l hl
    rw [Loc.at'_at] at hb
    exact hr.borv i l0 b hi g2 hb
  · obtain ⟨l0, g1, g2, rfl⟩ := hloc1 i l hl
    rw [Loc.at'_at] at hb
    exact hr.fresh i l0 b hi g2 hb
  · obtain ⟨l0, _, g2, rfl⟩ := hloc1 i l hi
    obtain ⟨l1, _, g3, rfl⟩ := hloc1 j l' hj
    rw [Loc.at'_at] at hb hb'
    exact hr.dist i j l0 l1 b hij g2 g3 hb hb'
  · obtain ⟨k0, g1, g2, rfl⟩ := hlent i k hi
    obtain ⟨l0, _, g3, rfl⟩ := hloc1 i l hl
    exact (hr.hp i k0 l0 g2 g3).reloc (S := (· < n)) i hptr hgro hcell (fun _ _ => rfl) fun j hj => h5 j (idsH_mem g2 hj (List.mem_range.2 g1))
  · rw [hr.tms]
    show σ.tm.length = (renL σ.hp _ _ (maskL fl σ.tm)).length
    rw [renL_length, maskL_length]
  · obtain ⟨d, g1, rfl⟩ := renL_get hc
    rcases maskL_get g1 with rfl | g2
    · exact .undef _
    · exact (hr.tm t d g2).reloc (S := (· < n)) hptr hgro hcell fun j hj => h4 j (mem_idsL.2 ⟨d, List.mem_of_getElem? g1, hj⟩)

theorem RelSt.normO {C : Ctx} {σ σ' : St} {a : Act} {w : World} {loc : List Loc} (hr : RelSt C σ a w loc) {m : Nat} {nf : Option (List Bool × Nat)} (hm : C.m = m) (h : normO m nf σ = some σ') :
    ∃ loc', RelSt C σ' a w loc' := by
  unfold Ull.normO at h
  split at h
  · cases h; exact ⟨loc, hr⟩
  · exact hr.norm hm h

def AX.exit' : AX → Exit
  | .normal => .normal
  | .exit i => .exit i
  | .ret => .ret

section
variable {P : Program} {b : Frame} {a : Act} {k : List Item} {cs : List Frame} {w : World}
theorem stepR_scope {c : Code} : step P (lone (b.atR a (.code (.scope c) :: k)) cs w) = .next (lone (b.atR a (.code c :: .inScope c :: k)) cs w) :=
  step_lone_go (by simp [stepG, stepG.exec, Frame.atR])
theorem stepR_inScope {c : Code} : step P (lone (b.atR a (.inScope c :: k)) cs w) = .next (lone (b.atR a k) cs w) :=
  step_lone_go (by simp [stepG, stepG.exec, Frame.atR])
end

theorem wpIn_scope_straight {F : Fence} {n : Nat} {P : Program} {Q : Exit → Act → World → Prop} {a : Act} {w : World} {c : Code} (h : c.wpIn F n P (Exit.noGoto Q) a w) : (Code.scope c).wpIn F n P Q a w := by
  intro b k cs hro hb hr
  have h0 : (lone (b.atR a (.code (.scope c) :: k)) cs w).fenced P F := fenced_calm hb hr rfl
  obtain ⟨e, a₁, w₁, hq, harr⟩ := h b (.inScope c :: k) cs hro hb hr
  cases e with
  | normal => exact ⟨.normal, a₁, w₁, hq, .head h0 stepR_scope (StepsIn.trans harr (.one (fenced_calm hb hr rfl) stepR_inScope))⟩
  | exit id =>
    have hx : exitTo id (.inScope c :: k) = exitTo id k := by simp [exitTo]
    exact ⟨_, a₁, w₁, hq, fun k' hk => .head h0 stepR_scope (harr.1 k' (by rw [hx]; exact hk)),
      fun hr' hk => let ⟨k₁, h1, h2⟩ := harr.2 hr' (by rw [hx]; exact hk); ⟨k₁, h1, .head h0 stepR_scope h2⟩⟩
  | goto l => exact hq.elim
  | ret => exact ⟨_, a₁, w₁, hq, .of_steps (.one h0 stepR_scope) harr⟩
  | panic ch => exact ⟨_, a₁, w₁, hq, .of_steps (.one h0 stepR_scope) harr⟩
  | outgrown => exact ⟨_, a₁, w₁, hq, .of_steps (.one h0 stepR_scope) harr⟩

/-- Does a code hold a loop over a function? -/
def hasRF : Code → Bool
  | .rangeFunc _ _ _ _ => true
  | .seq a b => hasRF a || hasRF b
  | .cond _ a b => hasRF a || hasRF b
  | .block _ a => hasRF a
  | .loop a => hasRF a
  | .scope a => hasRF a
  | _ => false

/-- What a code makes of a state. -/
def CodeOK (P : Program) (m : Nat) (c : Code) (σ : St) (x : AX) (σ' : St) : Prop :=
  ∀ (fr : Option Nat), (hasRF c = true → fr = none) → ∀ (mm : Nat) (C : Ctx) (a : Act) (w : World) (loc : List Loc) (Q : Exit → Act → World → Prop), C.m = m → RelSt C σ a w loc → (∀ a' w' loc', RelSt C σ' a' w' loc' → Q x.exit' a' w') → c.wpIn (ro fr) mm P Q a w

def PieceOK (P : Program) (m : Nat) (c : Code) (E : PEntry) : Prop :=
  ∀ (ρ : Type) (σ : St) (k : AX → St → Option ρ) (r : ρ), E ρ σ k = some r → ∃ x σ', k x σ' = some r ∧ CodeOK P m c σ x σ'

theorem loopEv_sound {P : Program} {m : Nat} {c : Code} {nf : Option (List Bool × Nat)} {ρ : Type} {body : St → (AX → St → Option ρ) → Option ρ}
    (hb : ∀ (σ : St) (k : AX → St → Option ρ) (r : ρ), body σ k = some r → ∃ x σ', k x σ' = some r ∧ CodeOK P m c σ x σ') : ∀ {n : Nat} {σ : St} {k : AX → St → Option ρ} {r : ρ}, loopEv m nf body n σ k = some r →
    ∃ x σ', k x σ' = some r ∧ ∀ (fr : Option Nat), (hasRF c = true → fr = none) → ∀ (mm : Nat) (C : Ctx) (a : Act) (w : World) (loc : List Loc) (Q : Exit → Act → World → Prop), C.m = m → RelSt C σ a w loc → (∀ a' w' loc', RelSt C σ' a' w' loc' → Q x.exit' a' w') → Code.roundsIn (ro fr) mm P c Q n a w
  | 0, σ, k, r, h => by cases h
  | n + 1, σ, k, r, h => by
    unfold loopEv at h
    obtain ⟨σ0, h0, h⟩ := bind_some h
    obtain ⟨x, σ1, h1, h2⟩ := hb _ _ _ h
    have other : ∀ (x' : AX), x = x' → x' ≠ .normal → k x' σ1 = some r → ∃ x σ', k x σ' = some r ∧ ∀ (fr : Option Nat), (hasRF c = true → fr = none) → ∀ (mm : Nat) (C : Ctx) (a : Act) (w : World) (loc : List Loc) (Q : Exit → Act → World → Prop), C.m = m → RelSt C σ a w loc →
        (∀ a' w' loc', RelSt C σ' a' w' loc' → Q x.exit' a' w') → Code.roundsIn (ro fr) mm P c Q (n + 1) a w := fun x' hx hne hk => by
      subst hx
      refine ⟨x, σ1, hk, fun fr hfr mm C a w loc Q hC hr hQ => ?_⟩
      obtain ⟨loc0, hr0⟩ := hr.normO hC h0
      refine h2 fr hfr mm C a w loc0 _ hC hr0 fun a' w' loc' hr' => ?_
      cases x with
      | normal => exact absurd rfl hne
      | exit i => exact hQ _ _ _ hr'
      | ret => exact hQ _ _ _ hr'
    cases x with
    | normal =>
      obtain ⟨y, σ2, g1, g2⟩ := loopEv_sound hb h1
      refine ⟨y, σ2, g1, fun fr hfr mm C a w loc Q hC hr hQ => ?_⟩
      obtain ⟨loc0, hr0⟩ := hr.normO hC h0
      exact h2 fr hfr mm C a w loc0 _ hC hr0 fun a' w' loc' hr' => g2 fr hfr mm C a' w' loc' Q hC hr' hQ
    | exit i => exact other _ rfl (by simp) h1
    | ret => exact other _ rfl (by simp) h1

theorem ev_sound {P : Program} {T : Tab} (hG : Good P T) (hm : P.follows .mixedOrders = true) {ρ : Type} : ∀ (c : Code), (∀ c' ∈ subs c, ∀ E, (keyOf c').bind (look T.piece) = some E → PieceOK P T.m c' E) →
    ∀ (σ : St) (k : AX → St → Option ρ) (r : ρ), ev T c σ k = some r → ∃ x σ', k x σ' = some r ∧ CodeOK P T.m c σ x σ'
  | .skip, _, σ, k, r, h => ⟨.normal, σ, h, fun fr hfr mm C a w loc Q hC hr hQ => wpIn_skip (hQ _ _ _ hr)⟩
  | .label l, _, σ, k, r, h => ⟨.normal, σ, h, fun fr hfr mm C a w loc Q hC hr hQ => wpIn_label (hQ _ _ _ hr)⟩
  | .region id ops draw, _, σ, k, r, h => by
    obtain ⟨σ', h1, h2⟩ := region_ok (id := id) hG hm (ρ := ρ) h
    exact ⟨.normal, σ', h1, fun fr hfr mm C a w loc Q hC hr hQ => h2 fr mm C a w loc Q hC hr hQ⟩
  | .seq x y, hp, σ, k, r, h => by
    unfold ev at h
    split at h
    · rename_i E hE
      exact hp _ (by simp [subs]) E hE ρ σ k r h
    · obtain ⟨x1, σ1, h1, h2⟩ := ev_sound hG hm x (fun c' hc' => hp c' (by simp [subs, hc'])) σ _ r h
      have other : x1 ≠ .normal → k x1 σ1 = some r → ∃ x' σ', k x' σ' = some r ∧ CodeOK P T.m (.seq x y) σ x' σ' := fun hne hk =>
        ⟨x1, σ1, hk, fun fr hfr mm C a w loc Q hC hr hQ => wpIn_seq (h2 fr (fun h => hfr (by simp [hasRF, h])) mm C a w loc _ hC hr fun a' w' loc' hr' => by
          cases x1 with
          | normal => exact absurd rfl hne
          | exit i => exact hQ _ _ _ hr'
          | ret => exact hQ _ _ _ hr')⟩
      cases x1 with
      | normal =>
        obtain ⟨x2, σ2, g1, g2⟩ := ev_sound hG hm y (fun c' hc' => hp c' (by simp [subs, hc'])) σ1 k r h1
        exact ⟨x2, σ2, g1, fun fr hfr mm C a w loc Q hC hr hQ => wpIn_seq (h2 fr (fun h => hfr (by simp [hasRF, h])) mm C a w loc _ hC hr fun a' w' loc' hr' => g2 fr (fun h => hfr (by simp [hasRF, h])) mm C a' w' loc' Q hC hr' hQ)⟩
      | exit i => exact other (by simp) h1
      | ret => exact other (by simp) h1
  | .cond o x y, hp, σ, k, r, h => by
    unfold ev at h
    split at h
    · rename_i v hv
      have hcond : ∀ {C : Ctx} {a : Act} {w : World} {loc : List Loc}, RelSt C σ a w loc → a.eval o = .bool v := fun hr => by
        have := hr.eval o
        rw [hv] at this
        exact this.bool_inv
      cases v with
      | true =>
        obtain ⟨x1, σ1, h1, h2⟩ := ev_sound hG hm x (fun c' hc' => hp c' (by simp [subs, hc'])) σ k r h
        exact ⟨x1, σ1, h1, fun fr hfr mm C a w loc Q hC hr hQ => wpIn_cond_true (hcond hr) (h2 fr (fun h => hfr (by simp [hasRF, h])) mm C a w loc Q hC hr hQ)⟩
      | false =>
        obtain ⟨x1, σ1, h1, h2⟩ := ev_sound hG hm y (fun c' hc' => hp c' (by simp [subs, hc'])) σ k r h
        exact ⟨x1, σ1, h1, fun fr hfr mm C a w loc Q hC hr hQ => wpIn_cond_false (hcond hr) (h2 fr (fun h => hfr (by simp [hasRF, h])) mm C a w loc Q hC hr hQ)⟩
    · cases h
  | .block id c, hp, σ, k, r, h => by
    unfold ev at h
    split at h
    · rename_i E hE
      exact hp (.block id c) (by simp [subs]) E hE ρ σ k r h
    · obtain ⟨x1, σ1, h1, h2⟩ := ev_sound hG hm c (fun c' hc' => hp c' (by simp [subs, hc'])) σ _ r h
      cases x1 with
      | normal => exact ⟨.normal, σ1, h1, fun fr hfr mm C a w loc Q hC hr hQ => wpIn_block (h2 fr (fun h => hfr (by simp [hasRF, h])) mm C a w loc _ hC hr fun a' w' loc' hr' => hQ _ _ _ hr')⟩
      | ret => exact ⟨.ret, σ1, h1, fun fr hfr mm C a w loc Q hC hr hQ => wpIn_block (h2 fr (fun h => hfr (by simp [hasRF, h])) mm C a w loc _ hC hr fun a' w' loc' hr' => hQ _ _ _ hr')⟩
      | exit j =>
        cases hj : Nat.beq j id with
        | true =>
          simp only [hj, cond_true] at h1
          refine ⟨.normal, σ1, h1, fun fr hfr mm C a w loc Q hC hr hQ => wpIn_block (h2 fr (fun h => hfr (by simp [hasRF, h])) mm C a w loc _ hC hr fun a' w' loc' hr' => ?_)⟩
          show if j = id then _ else _
          rw [if_pos (Nat.eq_of_beq_eq_true hj)]
          exact hQ _ _ _ hr'
        | false =>
          simp only [hj, cond_false] at h1
          refine ⟨.exit j, σ1, h1, fun fr hfr mm C a w loc Q hC hr hQ => wpIn_block (h2 fr (fun h => hfr (by simp [hasRF, h])) mm C a w loc _ hC hr fun a' w' loc' hr' => ?_)⟩
          show if j = id then _ else _
          rw [if_neg (fun e => by subst e; simp at hj)]
          exact hQ _ _ _ hr'
  | .loop c, hp, σ, k, r, h => by
    unfold ev at h
    obtain ⟨x1, σ1, h1, h2⟩ := loopEv_sound (P := P) (m := T.m) (c := c) (fun σ k r h => ev_sound hG hm c (fun c' hc' => hp c' (by simp [subs, hc'])) σ k r h) h
    exact ⟨x1, σ1, h1, fun fr hfr mm C a w loc Q hC hr hQ => wpIn_loop_rounds _ (h2 fr (fun h => hfr (by simp [hasRF, h])) mm C a w loc Q hC hr hQ)⟩
  | .exit id, _, σ, k, r, h => ⟨.exit id, σ, h, fun fr hfr mm C a w loc Q hC hr hQ => wpIn_exit (hQ _ _ _ hr)⟩
  | .scope c, hp, σ, k, r, h => by
    unfold ev at h
    obtain ⟨x1, σ1, h1, h2⟩ := ev_sound hG hm c (fun c' hc' => hp c' (by simp [subs, hc'])) σ k r h
    refine ⟨x1, σ1, h1, fun fr hfr mm C a w loc Q hC hr hQ => wpIn_scope_straight (h2 fr (fun h => hfr (by simp [hasRF, h])) mm C a w loc _ hC hr fun a' w' loc' hr' => ?_)⟩
    have := hQ _ _ _ hr'
    cases x1 <;> exact this
  | .ret, _, σ, k, r, h => ⟨.ret, σ, h, fun fr hfr mm C a w loc Q hC hr hQ => wpIn_ret (hQ _ _ _ hr)⟩
  | .goto _, _, _, _, _, h => by cases h

/-- The pieces of a function, found by their numbers. -/
theorem pieces_of {P : Program} {T : Tab} {c : Code} (h1 : (T.piece.all fun p => Nat.beq (found p.1 c).length 1) = true) (h2 : ∀ i E, look T.piece i = some E → PieceOK P T.m (pieceAt i c) E) :
    ∀ c' ∈ subs c, ∀ E, (keyOf c').bind (look T.piece) = some E → PieceOK P T.m c' E := fun c' hc' E hE => by
  obtain ⟨i, hi, hE⟩ := bind_some hE
  have h3 := look_all (p := fun i _ => Nat.beq (found i c).length 1) h1 hE
  have h4 := Nat.eq_of_beq_eq_true h3
  have hmem : c' ∈ found i c := List.mem_filter.2 ⟨hc', by simp [hasKey, hi]⟩
  have : pieceAt i c = c' := by
    unfold pieceAt
    cases hf : found i c with
    | nil => rw [hf] at hmem; simp at hmem
    | cons d l =>
      rw [hf] at h4 hmem
      cases l with
      | nil => simp at hmem; simp [hmem]
      | cons e l => simp at h4
  rw [← this]
  exact h2 i E hE

theorem no_pieces {P : Program} {T : Tab} (h : T.piece = []) (c : Code) : ∀ c' ∈ subs c, ∀ E, (keyOf c').bind (look T.piece) = some E → PieceOK P T.m c' E := fun c' _ E hE => by
  rw [h] at hE
  obtain ⟨i, _, hE⟩ := bind_some hE
  cases hE

end Go.Ull
