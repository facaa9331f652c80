/- Loops over functions. -/
import Derived.Test.YtmgdofgmidbddaaFrY
namespace Go.Ull
open Go.RowKit

def setPs : List Nat → List AV → List AV → List AV
  | p :: ps, v :: vs, tm => setPs ps vs (tm.set p v)
  | _, _, tm => tm

def jmp : AX → Code
  | .ret => .ret
  | .exit j => .exit j
  | .normal => .skip

/-- The blocks after a round. -/
def roundHp (hp bs : List Blk) : List Blk :=
  updHp hp (back bs (fun i => ((List.range hp.length)[i]?).getD 0) (fun j => verOf hp (((List.range hp.length)[j]?).getD 0) + 1) 0 (List.range hp.length))

def roundE (T : Tab) (tm0 : List AV) (ps : List Nat) (assign body : Code) {ρ : Type} (s : List Blk × Option AX) (args : List AV) (kk : Bool → List Blk × Option AX → Option ρ) : Option ρ :=
  match s.2 with
  | some _ => none
  | none =>
    let m := s.1.length
    let T' : Tab := { T with m := m, piece := [] }
    cond (Nat.beq args.length ps.length && ((idsL (setPs ps args tm0)).all (fun i => Nat.blt i m) && (idsH s.1 (List.range m)).all (fun i => Nat.blt i m)))
      (ev T' assign ⟨renL s.1 (posOf (List.range m)) (fun _ => 0) (setPs ps args tm0), lent s.1 (posOf (List.range m)) (fun _ => 0) (List.range m)⟩ fun x σ1 =>
        match x with
        | .normal => ev T' body σ1 fun x σ2 => (normEv m [] m σ2).bind fun σ3 =>
          cond (Nat.beq σ3.hp.length m && (idsH σ3.hp (List.range m)).all (fun i => Nat.blt i m))
            (match x with
             | .normal => kk true (roundHp s.1 σ3.hp, none)
             | x => kk false (roundHp s.1 σ3.hp, some x)) none
        | _ => none) none

def rfE (T : Tab) (seqs : List (Nat × SEntry)) (id : Nat) (g : Operand) (ps : List Nat) (assign body : Code) : PEntry := fun ρ σ k =>
  match σ.eval g with
  | .fn (.func gf) [] caps =>
    match look seqs gf with
    | some SE => cond ((idsL caps).isEmpty && (!hasRF assign && !hasRF body))
        (SE ρ (List Blk × Option AX) caps (roundE T σ.tm ps assign body) (σ.hp, none) fun s =>
          match s.2 with
          | none => k .normal ⟨σ.tm, s.1⟩
          | some .normal => none
          | some (.exit j) => cond (Nat.beq j id) (k .normal ⟨σ.tm, s.1⟩) (k (.exit j) ⟨σ.tm, s.1⟩)
          | some .ret => k .ret ⟨σ.tm, s.1⟩) none
    | none => none
  | _ => none

/-! ### A round -/

def stepR (P : Program) (tm : List AV) (ps : List Nat) (assign body : Code) (s : List Blk × Option AX) (args : List AV) (b : Bool) (s' : List Blk × Option AX) : Prop :=
  s.2 = none ∧ args.length = ps.length ∧ (∀ i ∈ idsL (setPs ps args tm), i < s.1.length) ∧ (∀ i ∈ idsH s.1 (List.range s.1.length), i < s.1.length) ∧
  ∃ σ1 x σ2 σ3, CodeOK P s.1.length assign ⟨renL s.1 (posOf (List.range s.1.length)) (fun _ => 0) (setPs ps args tm), lent s.1 (posOf (List.range s.1.length)) (fun _ => 0) (List.range s.1.length)⟩ .normal σ1 ∧
    CodeOK P s.1.length body σ1 x σ2 ∧ normEv s.1.length [] s.1.length σ2 = some σ3 ∧ σ3.hp.length = s.1.length ∧ (∀ i ∈ idsH σ3.hp (List.range s.1.length), i < s.1.length) ∧
    s'.1 = roundHp s.1 σ3.hp ∧ ((x = .normal ∧ b = true ∧ s'.2 = none) ∨ (x ≠ .normal ∧ b = false ∧ s'.2 = some x))

theorem all_blt {l : List Nat} {m : Nat} (h : l.all (fun i => Nat.blt i m) = true) : ∀ i ∈ l, i < m := fun i hi => Nat.le_of_ble_eq_true (List.all_eq_true.1 h i hi)

theorem roundE_steps {P : Program} {T : Tab} (hG : Good P T) (hm : P.follows .mixedOrders = true) {tm : List AV} {ps : List Nat} {assign body : Code} {ρ : Type} : Steps (ρ := ρ) (roundE T tm ps assign body) (stepR P tm ps assign body) := fun s args kk r h => by
  unfold roundE at h
  split at h
  · cases h
  · rename_i hs
    obtain ⟨h1, h2⟩ := cond_none h
    simp only [Bool.and_eq_true] at h1
    obtain ⟨h1, h3, h4⟩ := h1
    have hG' : Good P { T with m := s.1.length, piece := [] } := ⟨hG.ty, hG.eqs, hG.call, hG.grow⟩
    obtain ⟨x1, σ1, g1, g2⟩ := ev_sound hG' hm assign (no_pieces rfl _) _ _ _ h2
    cases x1 with
    | normal =>
      obtain ⟨x, σ2, g3, g4⟩ := ev_sound hG' hm body (no_pieces rfl _) _ _ _ g1
      obtain ⟨σ3, g5, g6⟩ := bind_some g3
      obtain ⟨g7, g8⟩ := cond_none g6
      simp only [Bool.and_eq_true] at g7
      have base : ∀ b s', s'.1 = roundHp s.1 σ3.hp → ((x = .normal ∧ b = true ∧ s'.2 = none) ∨ (x ≠ .normal ∧ b = false ∧ s'.2 = some x)) → stepR P tm ps assign body s args b s' := fun b s' e1 e2 =>
        ⟨hs, Nat.eq_of_beq_eq_true h1, all_blt h3, all_blt h4, σ1, x, σ2, σ3, g2, g4, g5, Nat.eq_of_beq_eq_true g7.1, all_blt g7.2, e1, e2⟩
      cases x with
      | normal => exact ⟨true, _, g8, base _ _ rfl (.inl ⟨rfl, rfl, rfl⟩)⟩
      | exit j => exact ⟨false, _, g8, base _ _ rfl (.inr ⟨by simp, rfl, rfl⟩)⟩
      | ret => exact ⟨false, _, g8, base _ _ rfl (.inr ⟨by simp, rfl, rfl⟩)⟩
    | exit j => cases g1
    | ret => cases g1

theorem setPs_rel {w : World} {X : Nat → Nat → Prop} {loc : List Loc} : ∀ (ps : List Nat) (us : List Value) (args tm : List AV) (t : Array Value), us.length = args.length → t.size = tm.length →
    (∀ (i : Nat) c, tm[i]? = some c → RelV w X loc c (t.getD i Go.undef)) → (∀ (i : Nat) c, args[i]? = some c → RelV w X loc c (us.getD i Go.undef)) →
    ((ps.zip us).foldl (fun t (p, v) => t.setIfInBounds p v) t).size = (setPs ps args tm).length ∧
      ∀ (i : Nat) c, (setPs ps args tm)[i]? = some c → RelV w X loc c (((ps.zip us).foldl (fun t (p, v) => t.setIfInBounds p v) t).getD i Go.undef)
  | [], us, args, tm, t, _, h1, h2, _ => ⟨h1, h2⟩
  | p :: ps, [], [], tm, t, _, h1, h2, _ => ⟨h1, h2⟩
  | p :: ps, [], _ :: _, tm, t, h0, _, _, _ => by simp at h0
  | p :: ps, _ :: _, [], tm, t, h0, _, _, _ => by simp at h0
  | p :: ps, u :: us, v :: args, tm, t, h0, h1, h2, h3 => by
    show ((ps.zip us).foldl _ (t.setIfInBounds p u)).size = (setPs ps args (tm.set p v)).length ∧ _
    refine setPs_rel ps us args (tm.set p v) (t.setIfInBounds p u) (by simpa using h0) (by simp [h1]) ?_ ?_
    · intro i c hi
      by_cases e : p = i
      · subst e
        have hlt : p < tm.length := by
          have := lt_of_getElem? hi
          simpa using this
        rw [List.getElem?_set_self hlt] at hi
        cases hi
        have := h3 0 v rfl
        have h5 : p < t.size := by omega
        simpa [Array.getD_eq_getD_getElem?, h5] using this
      · rw [List.getElem?_set_ne e] at hi
        have := h2 i c hi
        rw [Array.getD_eq_getD_getElem?, Array.getElem?_setIfInBounds_ne e]
        rwa [Array.getD_eq_getD_getElem?] at this
    · intro i c hi
      have := h3 (i + 1) c (by simpa using hi)
      simpa using this

/-- The record of a loop turns, in one's own world and in the one that one began with. -/
theorem RelSt.turnBoth {C : Ctx} {σ : St} {a : Act} {w : World} {loc : List Loc} (hr : RelSt C σ a w loc) {l : Nat} {o o' : Obj} {r : Loop} (hl0 : C.w0.heap[l]? = some o) (hl : w.heap[l]? = some (.loop r))
    {C' : Ctx} (hC : C' = ⟨C.w0.putObj l o', C.X0, C.A0, C.m, C.loc0, fun b i h => by rw [World.putObj_size]; exact C.x0 b i h, C.xa⟩) : RelSt C' σ a (w.putObj l o') loc := by
  subst hC
  have hc : ∀ b i v, w.cell? ⟨b, i, none⟩ = some v → ¬ C.X σ.hp loc b i → (w.putObj l o').cell? ⟨b, i, none⟩ = some v ∧ ¬ C.X σ.hp loc b i := fun b i v h1 h2 => ⟨cell_putObj hl (fun _ _ _ e => by cases e) h1, h2⟩
  have hlt : l < C.w0.heap.size := (Array.getElem?_eq_some_iff.1 hl0).1
  have hlt' : l < w.heap.size := (Array.getElem?_eq_some_iff.1 hl).1
  have hs : (C.w0.putObj l o').heap.size = C.w0.heap.size := World.putObj_size
  refine ⟨hr.llen, hr.mle, hr.bor, fun i l' b h1 h2 h3 => ?_, fun i l' b h1 h2 h3 => ?_, ?_, fun b i h1 h2 => ?_, hr.dist, fun i k l' hi hl' => ?_, hr.tms, fun t v hv => (hr.tm t v hv).mono (fun _ _ h _ => h) hc, ?_⟩
  · rcases hr.borv i l' b h1 h2 h3 with h | h
    · exact .inl h
    · exact .inr (Nat.le_trans (Nat.le_of_eq hs) h)
  · exact Nat.le_trans (Nat.le_of_eq hs) (hr.fresh i l' b h1 h2 h3)
  · refine ⟨hr.keep.os, hr.keep.tape, hr.keep.output, Nat.le_trans (Nat.le_of_eq hs) (Nat.le_trans hr.keep.size (Nat.le_of_eq World.putObj_size.symm)), fun b hb => ?_⟩
    by_cases e : b = l
    · subst e
      left
      show (w.putObj b o').heap[b]? = (C.w0.putObj b o').heap[b]?
      rw [World.putObj_heap_same hlt', World.putObj_heap_same hlt]
    · show (w.putObj l o').heap[b]? = (C.w0.putObj l o').heap[b]? ∨ ∃ c c' ty, (C.w0.putObj l o').heap[b]? = _ ∧ (w.putObj l o').heap[b]? = _ ∧ _
      rw [World.putObj_heap_other e, World.putObj_heap_other e]
      exact hr.keep.block b (Nat.lt_of_lt_of_le hb (Nat.le_of_eq hs))
  · exact hr.authA b i h1 (Nat.lt_of_lt_of_le h2 (Nat.le_of_eq hs))
  · refine (hr.hp i k l' hi hl').mono (fun _ _ h _ => h) hc fun b hb => World.putObj_heap_other fun e => ?_
    subst e
    obtain ⟨c, ty, f, h1⟩ := (hr.hp i k l' hi hl').at_cells hb
    rw [hl] at h1; cases h1
  · refine ⟨hr.defers.1, fun d hd => ?_⟩
    obtain ⟨D, h1, h2, h3⟩ := hr.defers.2 d hd
    refine ⟨D, h1, Nat.le_trans (Nat.le_of_eq hs) h2, ?_⟩
    rw [World.putObj_heap_other fun e => ?_]
    · exact h3
    · subst e; rw [hl] at h3; cases h3

theorem putObj_twice {w : World} {l : Nat} {o o' : Obj} : (w.putObj l o).putObj l o' = w.putObj l o' := by
  unfold World.putObj
  simp

theorem putObj_self {w : World} {l : Nat} {o : Obj} (h : w.heap[l]? = some o) : w.putObj l o = w := by
  unfold World.putObj
  have : w.heap.setIfInBounds l o = w.heap := by
    obtain ⟨h1, h2⟩ := Array.getElem?_eq_some_iff.1 h
    apply Array.ext
    · simp
    · intro i h3 h4
      rw [Array.getElem_setIfInBounds h4]
      split
      · rename_i e; subst e; exact h2.symm
      · rfl
  rw [this]

theorem Keep.noncells {A : Nat → Nat → Prop} {w w' : World} (h : Keep A w w') {b : Nat} {o : Obj} (hb : w.heap[b]? = some o) (ho : ∀ c ty f, o ≠ .cells c ty f) : w'.heap[b]? = some o := by
  rcases h.block b (Array.getElem?_eq_some_iff.1 hb).1 with h1 | ⟨c, c', ty, h1, _⟩
  · rw [h1]; exact hb
  · rw [hb] at h1; cases h1; exact absurd rfl (ho _ _ _)

def outR (C : Ctx) (tm : List AV) (a : Act) (D : Nat) (rec : LoopState → Option Code → Loop) (s : List Blk × Option AX) (A : Nat → Nat → Prop) (w : World) : Prop :=
  ∃ loc, RelSt C ⟨tm, s.1⟩ a w loc ∧ A = C.X s.1 loc ∧ w.heap[D]? = some (.deferred (some [])) ∧
    (match s.2 with
     | none => w.heap[D + 1]? = some (.loop (rec .ready none))
     | some x => x ≠ .normal ∧ w.heap[D + 1]? = some (.loop (rec .done (some (jmp x)))))

theorem env_round {P : Program} {C : Ctx} {tm : List AV} {a : Act} {D : Nat} {ps : Array Tmp} {assign body : Code} {fn : FuncId} (ha : hasRF assign = false) (hb : hasRF body = false) (hD : C.w0.heap.size ≤ D) :
    Env P (D + 1) (stepR P tm ps.toList assign body) (outR C tm a D fun st pe => { state := st, pending := pe, fn, tmps := a.tmps, params := ps, assign, body, defers := D }) := by
  obtain ⟨rec, hrec⟩ : ∃ rec : LoopState → Option Code → Loop, rec = fun st pe => { state := st, pending := pe, fn, tmps := a.tmps, params := ps, assign, body, defers := D } := ⟨_, rfl⟩
  rw [← hrec]
  refine ⟨fun s A w ⟨loc, hr, hA, _⟩ b o hAb => ?_, fun s A w w' ⟨loc, hr, hA, hDd, hl⟩ hk => ?_, fun s args b s' hst A w us hus hargs ⟨loc, hr, hA, hDd, hl⟩ => ?_⟩
  · subst hA
    rcases hAb with h | ⟨i, k, l, h1, h2, h3⟩
    · exact Nat.lt_of_lt_of_le (C.x0 b o h) hr.keep.size
    · exact hr.at_lt h2 (zone_at h3)
  · refine ⟨loc, hr.grow hk, hA, hk.noncells hDd (fun _ _ _ e => by cases e), ?_⟩
    split
    · rename_i hs; rw [hs] at hl; exact hk.noncells hl (fun _ _ _ e => by cases e)
    · rename_i x hs; rw [hs] at hl; exact ⟨hl.1, hk.noncells hl.2 (fun _ _ _ e => by cases e)⟩
  · subst hA
    obtain ⟨hs2, hlen, hall, hcl, σ1, x, σ2, σ3, hassign, hbody, hnorm, hlen3, hids3, hs1', hx⟩ := hst
    rw [hs2] at hl
    simp only at hl
    have hDlt : D < w.heap.size := (Array.getElem?_eq_some_iff.1 hDd).1
    have hy := run_yield (P := P) (args := us) hl (by rw [hrec]; simpa [hus] using hlen)
    rw [hrec] at hy
    refine ⟨fn, _, assign, body, hy, roundIn_of_wpIn (F := ro none) (n := 0) trivial ?_⟩
    -- the arguments in their places
    have hfold : (ps.zip us).foldl (fun tmps (t, a) => tmps.setIfInBounds t a) a.tmps = (ps.toList.zip us.toList).foldl (fun t (p, v) => t.setIfInBounds p v) a.tmps := by
      rw [← Array.foldl_toList, Array.toList_zip]
    obtain ⟨hsz, hrel⟩ := setPs_rel (w := w) (X := C.X s.1 loc) (loc := loc) ps.toList us.toList args tm a.tmps (by simpa using hus) hr.tms (fun i c hi => hr.tm i c hi) (fun i c hi => by
      have := (hargs i c hi).mono (loc' := loc) (fun j l hj _ => by simp at hj) (fun b o v h1 h2 => ⟨h1, h2⟩)
      simpa [Array.getD_eq_getD_getElem?, List.getD] using this)
    rw [← hfold] at hsz hrel
    obtain ⟨C', loc1, q1, q2, q3, q4, q5, q6⟩ := hr.lend (hp := s.1) (is := List.range s.1.length) (all := setPs ps.toList args tm) (args := (ps.zip us).foldl (fun tmps (t, a) => tmps.setIfInBounds t a) a.tmps)
      (fun _ _ => rfl) (fun i hi => List.mem_range.1 hi) List.nodup_range (fun i hi => List.mem_range.2 (hall i hi)) (fun i hi k hk j hj => List.mem_range.2 (hcl j (idsH_mem hk hj hi))) hsz (fun j c hc => hrel j c hc)
      (v := .undef) (bs' := σ3.hp) (by simpa using hlen3) (fun i hi => by simp [AV.ids] at hi) (fun k hk i hi => by
        obtain ⟨j, hj⟩ := List.mem_iff_getElem?.1 hk
        have := lt_of_getElem? hj
        simpa using hids3 i (idsH_mem hj hi (List.mem_range.2 (by omega)))) (f' := fun i => ((List.range s.1.length)[i]?).getD 0) (nv := fun j => verOf s.1 (((List.range s.1.length)[j]?).getD 0) + 1) rfl rfl
    have hm' : C'.m = s.1.length := by rw [q1, lent_length]; simp
    refine hassign (some (D + 1)) (fun h => by rw [ha] at h; cases h) 0 C' _ w loc1 _ hm' q5 fun a1 w1 loc1' hr1 => ?_
    -- the round begins
    have hl1 : w1.heap[D + 1]? = some (.loop (rec .ready none)) := hr1.keep.noncells (by rw [q2]; exact hl) (fun _ _ _ e => by cases e)
    refine ⟨_, run_beginRound hl1 (by rw [hrec]), ?_⟩
    have hl0 : C'.w0.heap[D + 1]? = some (.loop (rec .ready none)) := by rw [q2]; exact hl
    obtain ⟨rb, hrb⟩ : ∃ rb : Loop, rb = { rec .ready none with state := .busy } := ⟨_, rfl⟩
    obtain ⟨C2, hC2⟩ : ∃ C2 : Ctx, C2 = ⟨C'.w0.putObj (D + 1) (.loop rb), C'.X0, C'.A0, C'.m, C'.loc0, fun b i h => by rw [World.putObj_size]; exact C'.x0 b i h, C'.xa⟩ := ⟨_, rfl⟩
    have hr2 : RelSt C2 σ1 a1 (w1.putObj (D + 1) (.loop rb)) loc1' := hr1.turnBoth hl0 hl1 hC2
    rw [← hrb]
    refine hbody (some (D + 1)) (fun h => by rw [hb] at h; cases h) 0 C2 _ _ loc1' _ (by rw [hC2]; exact hm') hr2 fun a2 w2 loc2 hr3 => ?_
    have hl02 : C2.w0.heap[D + 1]? = some (.loop rb) := by rw [hC2]; exact World.putObj_heap_same (Array.getElem?_eq_some_iff.1 hl0).1
    have hl2 : w2.heap[D + 1]? = some (.loop rb) := hr3.keep.noncells hl02 (fun _ _ _ e => by cases e)
    have hl2lt : D + 1 < w2.heap.size := (Array.getElem?_eq_some_iff.1 hl2).1
    -- back to the record as it was
    have hback : C' = ⟨C2.w0.putObj (D + 1) (.loop (rec .ready none)), C2.X0, C2.A0, C2.m, C2.loc0, fun b i h => by rw [World.putObj_size]; exact C2.x0 b i h, C2.xa⟩ := by
      subst hC2
      have e : (C'.w0.putObj (D + 1) (.loop rb)).putObj (D + 1) (.loop (rec .ready none)) = C'.w0 := by rw [putObj_twice, putObj_self hl0]
      obtain ⟨c1, c2, c3, c4, c5, c6, c7⟩ := C'
      simp only at e
      congr 1
      exact e.symm
    have hr4 : RelSt C' σ2 a2 (w2.putObj (D + 1) (.loop (rec .ready none))) loc2 := hr3.turnBoth hl02 hl2 hback
    obtain ⟨loc3, hr5⟩ := hr4.norm hm' hnorm
    have hr6 : RelSt C' ⟨[.undef], σ3.hp⟩ ⟨#[Go.undef], []⟩ (w2.putObj (D + 1) (.loop (rec .ready none))) loc3 := hr5.mkValue (.undef _)
    obtain ⟨locN, hr7, _, hsub⟩ := q6 _ _ _ hr6
    have hkeep6 : Keep C'.A0 w (w2.putObj (D + 1) (.loop (rec .ready none))) := q2 ▸ hr6.keep
    have hDv : (w2.putObj (D + 1) (.loop (rec .ready none))).heap[D]? = some (.deferred (some [])) := hkeep6.noncells hDd (fun _ _ _ e => by cases e)
    have hD2 : w2.heap[D]? = some (.deferred (some [])) := by rw [World.putObj_heap_other (by omega)] at hDv; exact hDv
    -- the round's end
    have fin : ∀ (jump : Option Code) (x' : Option AX), (match x' with | none => jump = none | some y => y ≠ .normal ∧ jump = some (jmp y)) → s'.2 = x' → b = jump.isNone →
        ∃ v w', (Instr.endRound (D + 1) jump).run P w2 = .ok v w' ∧ (Ending.returned v = .returned (.bool b) ∧ ∃ A', outR C tm a D rec s' A' w' ∧ (∀ b o v, w.cell? ⟨b, o, none⟩ = some v → ¬ C.X s.1 loc b o → w'.cell? ⟨b, o, none⟩ = some v) ∧ ∀ b o, A' b o → b < w.heap.size → C.X s.1 loc b o) := fun jump x' hj hx' hbj => by
      refine ⟨_, _, run_endRound jump hl2, by rw [hbj], C.X s'.1 locN, ?_, fun b' o v h1 h2 => ?_, fun b' o h1 h2 => ?_⟩
      · have hfinal : (w2.putObj (D + 1) (.loop (rec .ready none))).putObj (D + 1) (.loop { rec .ready none with state := if jump.isNone then .ready else .done, pending := jump }) = w2.putObj (D + 1) (.loop { rb with state := if jump.isNone then .ready else .done, pending := jump }) := by rw [hrb]; exact putObj_twice
        have hrl : (w2.putObj (D + 1) (.loop (rec .ready none))).heap[D + 1]? = some (.loop (rec .ready none)) := World.putObj_heap_same hl2lt
        have hr8 := hr7.turn (o' := .loop { rec .ready none with state := if jump.isNone then .ready else .done, pending := jump }) (ds := a.defers) hrl (fun _ _ _ e => by cases e) (by omega) ⟨hr7.defers.1, fun d hd => by
          obtain ⟨D', e1, e2, e3⟩ := hr7.defers.2 d hd
          refine ⟨D', e1, e2, ?_⟩
          rw [World.putObj_heap_other fun e => ?_]
          · exact e3
          · subst e; rw [hrl] at e3; cases e3⟩
        rw [hfinal] at hr8
        refine ⟨locN, by rw [hs1']; exact hr8, rfl, ?_, ?_⟩
        · rw [World.putObj_heap_other (by omega)]; exact hD2
        · rw [hx']
          cases x' with
          | none =>
            subst hj
            show (w2.putObj _ _).heap[D + 1]? = _
            rw [World.putObj_heap_same hl2lt, hrb, hrec]; rfl
          | some y =>
            obtain ⟨h1, rfl⟩ := hj
            refine ⟨h1, ?_⟩
            rw [World.putObj_heap_same hl2lt, hrb, hrec]; rfl
      · have h3 := hkeep6.cell h1 fun hA => h2 (.inr (q4 b' o hA))
        rw [← putObj_twice (o := .loop (rec .ready none))]
        exact cell_putObj (World.putObj_heap_same hl2lt) (fun _ _ _ e => by cases e) h3
      · rcases h1 with h1 | h1
        · exact .inl h1
        · rw [hs1'] at h1; exact .inr (hsub b' o h1 h2)
    rcases hx with ⟨rfl, rfl, e3⟩ | ⟨hne, rfl, e3⟩
    · exact fin none none rfl e3 rfl
    · cases x with
      | normal => exact absurd rfl hne
      | ret => exact fin (some .ret) (some .ret) ⟨by simp, rfl⟩ e3 rfl
      | exit j => exact fin (some (.exit j)) (some (.exit j)) ⟨by simp, rfl⟩ e3 rfl

end Go.Ull
