/- A function, run by the evaluator, keeps what its run says. -/
import Derived.Test.YtmgdofgmidbddaaFrT
import Derived.RangeFuncRecord
namespace Go.Ull
open Go.RowKit

theorem resEv_sound {P : Program} {T : Tab} (hT : TabOK P T) {C : Ctx} {σ : St} {a : Act} {w : World} {loc : List Loc} (hr : RelSt C σ a w loc) {x : ResultVar} {v : AV} (h : resEv T σ x = some v) :
    ∃ u, (match x with
      | .tmp t => (pure (a.tmps.getD t undef) : Sem Value)
      | .cell b t => do loadVar t (← asAddr (a.tmps.getD b undef))).run P w = .ok u w ∧ RelV w (C.X σ.hp loc) loc v u := by
  unfold resEv at h
  cases x with
  | tmp t => exact ⟨_, rfl, hr.tm t v h⟩
  | cell b t =>
    simp only at h
    split at h
    · rename_i i off hi
      split at h
      · rename_i cs ro hb
        have h1 := hr.tm b _ hi
        obtain ⟨cb, hl, h1⟩ := h1.ptr_inv
        obtain ⟨cb', c, ty, hl', hc, hn, hrel, _⟩ := hr.box_loc hb
        rw [hl] at hl'; cases hl'
        obtain ⟨x', hx', hrx⟩ := load_src (P := P) hT (t := t) (w := w) (X := C.X σ.hp loc) (loc := loc) (cs := cs.drop off) (f := fun j => c.getD (off + j) Go.undef) (b := cb) (o := off)
          (fun j d hj => by
            rw [List.getElem?_drop] at hj
            have : off + j < c.size := by rw [hn]; exact lt_of_getElem? hj
            simp [World.cell?, hc, this, Array.getD_eq_getD_getElem?])
          (fun j d hj => by rw [List.getElem?_drop] at hj; exact hrel _ _ hj) h
        refine ⟨x', ?_, hrx⟩
        have h1' : a.tmps.getD b undef = .pointer (some ⟨cb, off, none⟩) := h1
        simp only [h1', asAddr, Sem.run_bind, Sem.run_pure, Result.andThen_ok]
        exact hx'
      · cases h
    · cases h

theorem resAll_sound {P : Program} {T : Tab} (hT : TabOK P T) {C : Ctx} {σ : St} {a : Act} {w : World} {loc : List Loc} (hr : RelSt C σ a w loc) : ∀ {rs : List ResultVar} {vs : List AV}, resAll T σ rs = some vs →
    ∃ us : List Value, (rs.mapM (m := Sem) fun
      | .tmp t => pure (a.tmps.getD t undef)
      | .cell b t => do loadVar t (← asAddr (a.tmps.getD b undef))).run P w = .ok us w ∧ vs.length = us.length ∧ ∀ (i : Nat) c, vs[i]? = some c → RelV w (C.X σ.hp loc) loc c (us.getD i Go.undef)
  | [], vs, h => by cases h; exact ⟨[], rfl, rfl, fun i c h => by simp at h⟩
  | x :: rs, vs, h => by
    unfold resAll at h
    split at h
    · rename_i v vs' h1 h2
      cases h
      obtain ⟨u, g1, g2⟩ := resEv_sound hT hr h1
      obtain ⟨us, g3, g4, g5⟩ := resAll_sound hT hr h2
      refine ⟨u :: us, ?_, by simp [g4], fun i c hi => ?_⟩
      · rw [List.mapM_cons]
        simp only [Sem.run_bind]
        cases x with
        | tmp t => simp only at g1 ⊢; rw [g1]; simp only [Result.andThen_ok, g3, Sem.run_pure]
        | cell b t => simp only at g1 ⊢; rw [g1]; simp only [Result.andThen_ok, g3, Sem.run_pure]
      · cases i with
        | zero => simp at hi; subst hi; exact g2
        | succ i => simpa using g5 i c (by simpa using hi)
    · cases h

theorem resOf_rel {w : World} {X : Nat → Nat → Prop} {loc : List Loc} {vs : List AV} {us : List Value} (h1 : vs.length = us.length) (h2 : ∀ (i : Nat) c, vs[i]? = some c → RelV w X loc c (us.getD i Go.undef)) :
    RelV w X loc (resOf vs) (if h : us.toArray.size = 1 then us.toArray[0] else .tuple us.toArray) := by
  have gen : us.length ≠ 1 → resOf vs = .tuple vs → RelV w X loc (resOf vs) (if h : us.toArray.size = 1 then us.toArray[0] else .tuple us.toArray) := fun hne he => by
    rw [dif_neg (by simpa using hne), he]
    refine .tuple vs us.toArray (by simpa using h1) fun i c hi => ?_
    have := h2 i c hi
    simpa [Array.getD_eq_getD_getElem?, List.getD] using this
  cases vs with
  | nil => exact gen (by rw [← h1]; simp) rfl
  | cons v vs => cases vs with
    | nil =>
      cases us with
      | nil => simp at h1
      | cons u us => cases us with
        | nil =>
          have := h2 0 v rfl
          simpa [resOf] using this
        | cons u' us => simp at h1
    | cons v' vs => exact gen (by rw [← h1]; simp) rfl

theorem BlkOK.at_cells {w : World} {X : Nat → Nat → Prop} {loc : List Loc} {k : Blk} {l : Loc} (h : BlkOK w X loc k l) {b : Nat} (hb : l.at = some b) : ∃ c ty f, w.heap[b]? = some (.cells c ty f) := by
  cases k with
  | dead => subst h; cases hb
  | box cs ro => cases l with
    | blk b' => cases hb; obtain ⟨c, ty, h1, _⟩ := h; exact ⟨_, _, _, h1⟩
    | _ => exact h.elim
  | vec n t xs => cases l with
    | vc m b' len cap =>
      obtain ⟨_, _, _, _, h4⟩ := h
      obtain ⟨c, ty, h1, _⟩ := h4 b hb
      exact ⟨_, _, _, h1⟩
    | _ => exact h.elim

theorem cell_putObj {w : World} {l : Nat} {o o' : Obj} (hl : w.heap[l]? = some o) (ho : ∀ c ty f, o ≠ .cells c ty f) {b i : Nat} {v : Value} (h : w.cell? ⟨b, i, none⟩ = some v) : (w.putObj l o').cell? ⟨b, i, none⟩ = some v := by
  have hbl : b ≠ l := fun e => by
    subst e
    unfold World.cell? at h
    rw [hl] at h
    cases o with
    | cells c ty f => exact ho _ _ _ rfl
    | _ => cases h
  unfold World.cell? at h ⊢
  rw [World.putObj_heap_other hbl]
  exact h

/-- A block that is no cells, and none of the caller's, turns. -/
theorem RelSt.turn {C : Ctx} {σ : St} {a : Act} {w : World} {loc : List Loc} (hr : RelSt C σ a w loc) {l : Nat} {o o' : Obj} (hl : w.heap[l]? = some o) (ho : ∀ c ty f, o ≠ .cells c ty f) (hn : C.w0.heap.size ≤ l) {ds : List Deferred}
    (hm : Marks C.w0.heap.size (w.putObj l o') ds) : RelSt C σ { a with defers := ds } (w.putObj l o') loc := by
  have hc : ∀ b i v, w.cell? ⟨b, i, none⟩ = some v → ¬ C.X σ.hp loc b i → (w.putObj l o').cell? ⟨b, i, none⟩ = some v ∧ ¬ C.X σ.hp loc b i := fun b i v h1 h2 => ⟨cell_putObj hl ho h1, h2⟩
  have hk : Keep C.A0 C.w0 (w.putObj l o') := ⟨hr.keep.os, hr.keep.tape, hr.keep.output, by rw [World.putObj_size]; exact hr.keep.size, fun b hb => by
    rw [World.putObj_heap_other (by omega)]; exact hr.keep.block b hb⟩
  refine ⟨hr.llen, hr.mle, hr.bor, hr.borv, hr.fresh, hk, hr.authA, hr.dist, fun i k l' hi hl' => ?_, hr.tms, fun t v hv => (hr.tm t v hv).mono (fun _ _ h _ => h) hc, hm⟩
  refine (hr.hp i k l' hi hl').mono (fun _ _ h _ => h) hc fun b hb => World.putObj_heap_other fun e => ?_
  subst e
  obtain ⟨c, ty, f, h1⟩ := (hr.hp i k l' hi hl').at_cells hb
  rw [hl] at h1; cases h1
  exact ho _ _ _ rfl

/-- The marks are come to, one by one. -/
theorem leave_marks {P : Program} {fn : Func} {R : Ending → World → Prop} {C : Ctx} {σ : St} {tmps : Array Value} {loc : List Loc}
    (h : ∀ w, RelSt C σ ⟨tmps, []⟩ w loc → ∃ u, (results fn tmps).run P w = .ok u w ∧ R (.returned u) w) : ∀ (ds : List Deferred) (w : World), RelSt C σ ⟨tmps, ds⟩ w loc → LeavesInM (ro none) 0 P fn tmps R ds .returning w
  | [], w, hr => h w hr
  | d :: ds, w, hr => by
    obtain ⟨h1, h2⟩ := hr.defers
    obtain ⟨D, rfl, hD, hw⟩ := h2 d (by simp)
    have h1 := List.nodup_cons.1 (show (_ :: ds).Nodup from h1)
    refine ⟨by simp, .inl ⟨D, _, rfl, run_takeDeferred hw, leave_marks h ds _ (hr.turn (a := ⟨tmps, _⟩) hw (fun _ _ _ e => by cases e) hD ⟨h1.2, fun d hd => ?_⟩)⟩⟩
    obtain ⟨D', rfl, hD', hw'⟩ := h2 d (by simp [hd])
    refine ⟨D', rfl, hD', ?_⟩
    rw [World.putObj_heap_other fun e => ?_]
    · exact hw'
    · subst e; exact h1.1 hd

theorem RelSt.mkValue {C : Ctx} {σ : St} {a : Act} {w : World} {loc : List Loc} (hr : RelSt C σ a w loc) {v : AV} {u : Value} (hv : RelV w (C.X σ.hp loc) loc v u) :
    RelSt C { tm := [v], hp := σ.hp } ⟨#[u], []⟩ w loc :=
  ⟨hr.llen, hr.mle, hr.bor, hr.borv, hr.fresh, hr.keep, hr.authA, hr.dist, hr.hp, rfl, fun t c hc => by
    cases t with
    | zero => simp at hc; subst hc; exact hv
    | succ t => simp at hc, Marks.nil⟩

theorem runF_good {P : Program} {T : Tab} (hG : Good P T) (hm : P.follows .mixedOrders = true) {g : FuncId} {fn : Func} {c : Code} (hf : P.funcs[g]? = some fn) (hb : fn.body = some c)
    (hn : (fn.name == "runtime.NumGoroutine") = false) (hp : ∀ c' ∈ subs c, ∀ E, (keyOf c').bind (look T.piece) = some E → PieceOK P T.m c' E) {args : List AV} {bs : List Blk} {ρ : Type} {k : AV → List Blk → Option ρ} {r : ρ}
    (h : runF T c fn.results.toList fn.ntmps args bs k = some r) : ∃ v bs', k v bs' = some r ∧ GoodCall P g args bs v bs' := by
  unfold runF at h
  obtain ⟨h1, h2⟩ := cond_none h
  have h1 := Nat.eq_of_beq_eq_true h1
  obtain ⟨x, σ1, h3, h4⟩ := ev_sound hG hm c hp _ _ r h2
  have main : (resAll T σ1 fn.results.toList).bind (fun vs => (normEv T.m [true] T.m { tm := [(resOf vs).snap (List.replicate T.m .dead ++ σ1.hp.drop T.m)], hp := σ1.hp }).bind fun σ' =>
      match σ'.tm with
      | [v] => k v σ'.hp
      | _ => none) = some r → (x = .normal ∨ x = .ret) → ∃ v bs', k v bs' = some r ∧ GoodCall P g args bs v bs' := fun h5 hx => by
    obtain ⟨vs, h6, h7⟩ := bind_some h5
    obtain ⟨σ2, h8, h9⟩ := bind_some h7
    have htm : ∃ v, σ2.tm = [v] := by
      split at h9
      · rename_i v hv; exact ⟨v, hv⟩
      · cases h9
    obtain ⟨v, hv⟩ := htm
    rw [hv] at h9
    refine ⟨v, σ2.hp, h9, fun C a loc hCm hloc hr => .inr ⟨Go.MuLone.run_callFunc_enter hf hn hb a C.w0, callsIn_ro.1 (callsIn_of_wp_marks (F := ro none) (n := 0) hf hb trivial ?_)⟩⟩
    have hsz : a.size = args.length := hr.tms
    have hstart : RelSt C { tm := args ++ List.replicate (fn.ntmps - args.length) (.tuple []), hp := bs } { tmps := a ++ Array.replicate (fn.ntmps - a.size) undef, defers := [] } C.w0 loc := by
      obtain ⟨q1, q2⟩ := append_rel (w := C.w0) (X := C.X bs loc) (loc := loc) (a := args) (b := List.replicate (fn.ntmps - args.length) (.tuple [])) (a' := a) (b' := Array.replicate (fn.ntmps - a.size) undef) hsz.symm (by simp [hsz])
        (fun i c hi => hr.tm i c hi) (fun i c hi => by
          rw [List.getElem?_replicate] at hi
          split at hi
          · rename_i hlt
            cases hi
            have : (Array.replicate (fn.ntmps - a.size) undef).getD i Go.undef = Go.undef := by simp only [Array.getD_eq_getD_getElem?, Array.getElem?_replicate]; split <;> rfl
            rw [this]; exact undef_rel
          · cases hi)
      exact ⟨hr.llen, hr.mle, hr.bor, hr.borv, hr.fresh, hr.keep, hr.authA, hr.dist, hr.hp, q1.symm, q2, Marks.nil⟩
    refine h4 none (fun _ => rfl) 0 C _ C.w0 loc _ (by rw [hCm, h1]) hstart fun a' w' loc' hr'' => ?_
    have hpost : LeavesInM (ro none) 0 P fn a'.tmps (fun e w' => ∃ u, e = .returned u ∧ ∃ loc', RelSt C ⟨[v], σ2.hp⟩ ⟨#[u], []⟩ w' loc') a'.defers .returning w' := by
      refine leave_marks (C := C) (σ := σ1) (loc := loc') (fun w' hr' => ?_) _ _ hr''
      obtain ⟨us, g1, g2, g3⟩ := resAll_sound hG.ty hr' h6
      have g4 := resOf_rel g2 g3
      refine ⟨(if h : us.toArray.size = 1 then us.toArray[0] else .tuple us.toArray), ?_, _, rfl, ?_⟩
      · unfold results
        rw [Array.mapM_eq_mapM_toList]
        simp only [map_eq_pure_bind, bind_assoc, pure_bind, Sem.run_bind, Sem.run_pure]
        exact congrArg (fun r => Result.andThen r (fun a w' => Result.ok (if h : a.toArray.size = 1 then a.toArray[0] else Value.tuple a.toArray) w')) g1
      · have g5 := g4.snap (hp := List.replicate T.m .dead ++ σ1.hp.drop T.m) (S := fun _ => True) (fun i k l _ e1 e2 e3 => by
          rw [List.getElem?_append] at e1
          split at e1
          · rw [List.getElem?_replicate] at e1
            split at e1
            · cases e1; exact absurd rfl e3
            · cases e1
          · rename_i hlt
            simp only [List.length_replicate] at hlt e1
            rw [List.getElem?_drop] at e1
            rw [show T.m + (i - T.m) = i by omega] at e1
            exact hr'.hp i k l e1 e2) (fun _ _ => trivial)
        obtain ⟨loc2, g6⟩ := (hr'.mkValue g5).norm (by rw [hCm, h1]) h8
        refine ⟨loc2, ?_⟩
        have : σ2 = ⟨[v], σ2.hp⟩ := by cases σ2; simp at hv; simp [hv]
        rw [← this]; exact g6
    rcases hx with rfl | rfl
    · exact hpost
    · exact hpost
  cases x with
  | normal => exact main h3 (.inl rfl)
  | ret => exact main h3 (.inr rfl)
  | exit i => cases h3

theorem entry_of {P : Program} {T : Tab} (hG : Good P T) (hm : P.follows .mixedOrders = true) {g : FuncId} {fn : Func} {c : Code} (hf : P.funcs[g]? = some fn) (hb : fn.body = some c)
    (hn : (fn.name == "runtime.NumGoroutine") = false) (hp : ∀ c' ∈ subs c, ∀ E, (keyOf c').bind (look T.piece) = some E → PieceOK P T.m c' E) {E : Entry}
    (h : ∀ (ρ : Type) (args : List AV) (bs : List Blk) (k : AV → List Blk → Option ρ) (r : ρ), E ρ args bs k = some r → runF T c fn.results.toList fn.ntmps args bs k = some r) : EntryOK P g E :=
  fun ρ args bs k r hE => runF_good hG hm hf hb hn hp (h ρ args bs k r hE)

end Go.Ull
