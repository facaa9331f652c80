/- The piece of a loop over a function. -/
import Derived.Test.YtmgdofgmidbddaaFrZ
namespace Go.Ull
open Go.RowKit

/-- A value that leads to no block of one's own. -/
theorem RelV.plain {w : World} {X : Nat → Nat → Prop} {loc loc' : List Loc} {a : AV} {v : Value} (h : RelV w X loc a v) (hS : a.ids = []) : RelV w X loc' a v := by
  have nil_of : ∀ {cs : List AV} {c : AV} {i : Nat}, idsL cs = [] → cs[i]? = some c → c.ids = [] := fun {cs c i} h h1 => by
    refine List.eq_nil_iff_forall_not_mem.2 fun j hj => ?_
    have := mem_idsL.2 ⟨c, List.mem_of_getElem? h1, hj⟩
    rw [h] at this; cases this
  induction h with
  | undef v => exact .undef v
  | bool b => exact .bool b
  | int k n => exact .int k n
  | agg cs vs h r ih => exact .agg _ vs h fun i c hi => ih i c hi (nil_of hS hi)
  | tuple cs vs h r ih => exact .tuple _ vs h fun i c hi => ih i c hi (nil_of hS hi)
  | lst t xs base len cap b' o cv hn hc' hb' h r ih => exact .lst t xs base len cap b' o cv hn hc' hb' h fun i x j c hi hj => ih i x j c hi hj (enc_ids hj)
  | nils base => exact .nils base
  | gro i n c b len cap s len' cap' h hle hv => cases hS
  | eptr cs b' o cv h r ih => exact .eptr _ b' o cv h fun i c hi => ih i c hi (nil_of hS hi)
  | ptr i b' o h => cases hS
  | bsl i n b' t h => cases hS
  | nilp => exact .nilp
  | fn g x y x' y' hx rx hy ry ihx ihy =>
    have h1 : idsL x = [] ∧ idsL y = [] := by simpa [AV.ids] using hS
    exact .fn g _ _ x' y' hx (fun i c hi => ihx i c hi (nil_of h1.1 hi)) hy (fun i c hi => ihy i c hi (nil_of h1.2 hi))
  | nilfn => exact .nilfn
  | iface t v v' r ih => exact .iface t _ v' (ih hS)
  | niliface => exact .niliface

theorem piece_rf {P : Program} {T : Tab} (hG : Good P T) (hm : P.follows .mixedOrders = true) {seqs : List (Nat × SEntry)} (hS : ∀ g SE, look seqs g = some SE → SeqOK P g SE) {id : Nat} {g : Operand} {ps : Array Tmp} {assign body : Code} {m : Nat} :
    PieceOK P m (.block id (.rangeFunc g ps assign body)) (rfE T seqs id g ps.toList assign body) := fun ρ σ k r h => by
  unfold rfE at h
  split at h
  · rename_i gf caps hg
    split at h
    · rename_i SE hSE
      obtain ⟨h1, h2⟩ := cond_none h
      simp only [Bool.and_eq_true, Bool.not_eq_true', List.isEmpty_iff] at h1
      obtain ⟨h1, ha, hb⟩ := h1
      obtain ⟨heg, hseq⟩ := hS gf SE hSE
      obtain ⟨s', h3, h4⟩ := hseq ρ _ caps _ _ _ _ r (roundE_steps hG hm) h2
      -- what the statement comes to
      have main : ∀ (x : AX), (match s'.2 with | none => x = .normal | some y => y ≠ .normal ∧ x = (match y with | .exit j => cond (Nat.beq j id) .normal (.exit j) | y => y)) →
          CodeOK P m (.block id (.rangeFunc g ps assign body)) σ x ⟨σ.tm, s'.1⟩ := fun x hx fr hfr mm C a w loc Q hC hr hQ => by
        have hfr0 : fr = none := hfr rfl
        subst hfr0
        refine wpIn_block (wpIn_rangeFunc fun fn hfn => ?_)
        rw [show (ro none).round = none from rfl]
        have g1 := hr.eval g
        rw [hg] at g1
        obtain ⟨first', lb, e1, n1, _, n2, r2⟩ := g1.fn_inv
        have hf0 : first' = #[] := Array.eq_empty_of_size_eq_zero (by simpa using n1.symm)
        subst hf0
        obtain ⟨rec, hrec⟩ : ∃ rec : LoopState → Option Code → Loop, rec = fun st pe => { state := st, pending := pe, fn, tmps := a.tmps, params := ps, assign, body, defers := w.heap.size } := ⟨_, rfl⟩
        obtain ⟨W1, hW1⟩ : ∃ W1, (w.alloc (.deferred (some []))).alloc (.loop (rec .ready none)) = W1 := ⟨_, rfl⟩
        have hL1 : W1.heap[w.heap.size + 1]? = some (.loop (rec .ready none)) := by
          rw [← hW1]; have := World.alloc_heap_new (w.alloc (.deferred (some []))) (.loop (rec .ready none)); rwa [World.size_alloc] at this
        have hK1 : W1.heap[w.heap.size]? = some (.deferred (some [])) := by
          rw [← hW1]; exact (Below.heap_alloc _ _ _ (by simp)).trans (World.alloc_heap_new w _)
        have hgrow : Keep (fun _ _ => False) w W1 := by
          rw [← hW1]; exact (Keep.alloc w _).trans (Keep.alloc _ _) (fun _ _ _ f => f)
        have hr1 := hr.grow hgrow
        have hw0 : C.w0.heap.size ≤ w.heap.size := hr.keep.size
        refine ⟨w.heap.size + 1, [{ target := .collected w.heap.size, args := #[] }], W1, { target := .fn (.func gf) lb, args := #[.func (.yield (w.heap.size + 1)) #[] #[]] }, W1, gf,
          #[.func (.yield (w.heap.size + 1)) #[] #[]] ++ lb, W1, ?_, ?_, fun _ _ => trivial, ?_, fun h => (by cases h), ?_⟩
        · rw [← hW1, hrec]; exact run_enterLoop_outer _ _ _ _ _
        · simp only [resolve, e1]
          simp [go_sem]
        · simp [invoke, go_sem, heg]
        · refine callsIn_ro.2 (Calls.mono (h4 (w.heap.size + 1) _ (env_round (C := C) (tm := σ.tm) (a := a) (fn := fn) ha hb hw0) (C.X σ.hp loc) W1 lb n2.symm (fun i c hi => ?_) ⟨loc, hr1, rfl, hK1, by rw [hL1, hrec]⟩) fun e w2 ⟨⟨v, he⟩, A', loc', hr2, hA', hD2, hl2⟩ => ?_)
          · refine RelV.plain ((r2 i c hi).mono (fun _ _ h _ => h) fun b o v e2 e3 => ⟨hgrow.cell e2 (fun f => f), e3⟩) ?_
            refine List.eq_nil_iff_forall_not_mem.2 fun j hj => ?_
            have := mem_idsL.2 ⟨c, List.mem_of_getElem? hi, hj⟩
            rw [h1] at this; cases this
          · subst he
            have hsz2 : w.heap.size < w2.heap.size := (Array.getElem?_eq_some_iff.1 hD2).1
            -- the record is exhausted; the mark is among the deferred calls
            have fin : ∀ (L : Loop), w2.heap[w.heap.size + 1]? = some (.loop L) → ∀ L', RelSt C ⟨σ.tm, s'.1⟩ { a with defers := [({ target := .collected w.heap.size, args := #[] } : Deferred)] ++ a.defers } (w2.putObj (w.heap.size + 1) (.loop L')) loc' := fun L hL L' =>
              hr2.turn hL (fun _ _ _ e => by cases e) (by omega) (by
                refine ⟨List.nodup_cons.2 ⟨fun hmem => ?_, hr2.defers.1⟩, fun d hd => ?_⟩
                · obtain ⟨D', q1, q2, q3⟩ := hr.defers.2 _ hmem
                  have : D' < w.heap.size := (Array.getElem?_eq_some_iff.1 q3).1
                  simp only [Deferred.mk.injEq, Target.collected.injEq] at q1
                  omega
                · rcases List.mem_cons.1 hd with rfl | hd
                  · exact ⟨_, rfl, hw0, by rw [World.putObj_heap_other (by omega)]; exact hD2⟩
                  · obtain ⟨D', q1, q2, q3⟩ := hr2.defers.2 d hd
                    refine ⟨D', q1, q2, ?_⟩
                    rw [World.putObj_heap_other fun e => ?_]
                    · exact q3
                    · subst e; rw [hL] at q3; cases q3)
            cases hs2 : s'.2 with
            | none =>
              rw [hs2] at hl2 hx
              simp only at hl2 hx
              subst hx
              exact ⟨none, _, run_endLoop hl2 (by simp), hQ _ _ loc' (fin _ hl2 _)⟩
            | some y =>
              rw [hs2] at hl2 hx
              obtain ⟨hne, hl2⟩ := hl2
              obtain ⟨_, rfl⟩ := hx
              refine ⟨some (jmp y), _, run_endLoop hl2 (by simp), ?_⟩
              cases y with
              | normal => exact absurd rfl hne
              | ret => exact wpIn_ret (hQ _ _ loc' (fin _ hl2 _))
              | exit j =>
                refine wpIn_exit ?_
                show if j = id then _ else _
                cases hj : Nat.beq j id with
                | true =>
                  rw [if_pos (Nat.eq_of_beq_eq_true hj)]
                  simp only [hj, cond_true] at hQ
                  exact hQ _ _ loc' (fin _ hl2 _)
                | false =>
                  rw [if_neg (fun e => by subst e; simp at hj)]
                  simp only [hj, cond_false] at hQ
                  exact hQ _ _ loc' (fin _ hl2 _)
      split at h3
      · rename_i hs; exact ⟨.normal, _, h3, main .normal (by rw [hs])⟩
      · cases h3
      · rename_i j hs
        cases hj : Nat.beq j id with
        | true => rw [hj, cond_true] at h3; exact ⟨.normal, _, h3, main .normal (by rw [hs]; exact ⟨by simp, by simp [hj]⟩)⟩
        | false => rw [hj, cond_false] at h3; exact ⟨.exit j, _, h3, main (.exit j) (by rw [hs]; exact ⟨by simp, by simp [hj]⟩)⟩
      · rename_i hs; exact ⟨.ret, _, h3, main .ret (by rw [hs]; exact ⟨by simp, rfl⟩)⟩
    · cases h
  · cases h

end Go.Ull
