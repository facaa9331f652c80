/- Every operation that the evaluator takes, is sound. -/
import Derived.Test.YtmgdofgmidbddaaFrQb
namespace Go.Ull
open Go.RowKit

structure Good (P : Program) (T : Tab) : Prop where
  ty : TabOK P T
  eqs : EqsOK P T
  call : ∀ g E, look T.call g = some E → EntryOK P g E
  grow : ∀ g t, look T.grow g = some t → GrowOK P g t

theorem cond_none {ρ : Type} {b : Bool} {x : Option ρ} {r : ρ} (h : cond b x none = some r) : b = true ∧ x = some r := by cases b <;> simp_all

theorem freshB_some {T : Tab} {σ : St} {slot : Nat} {ρ : Type} {k : Option ρ} {r : ρ} (h : freshB T σ slot k = some r) : T.m ≤ slot ∧ σ.hp[slot]? = some .dead ∧ k = some r := by
  obtain ⟨h1, h2⟩ := cond_none h
  refine ⟨Nat.le_of_ble_eq_true h1, ?_⟩
  split at h2
  · rename_i hk; exact ⟨hk, h2⟩
  · cases h2

theorem bind_some {α : Type _} {ρ : Type _} {x : Option α} {f : α → Option ρ} {r : ρ} (h : x.bind f = some r) : ∃ a, x = some a ∧ f a = some r := by
  cases x with
  | none => cases h
  | some a => exact ⟨a, rfl, h⟩

section ops
variable {P : Program} {T : Tab} {dst : Option Tmp} {type : TypeId} {pos : String} {after : Array Edge} {guard : Option (Nat × Bool)}
variable {vals : Operand → AV} {hp : List Blk}

theorem ok_buildSlice0 (hT : TabOK P T) (t : TypeId) {e : ElT} (ht : T.tyOf t = .slice e) (ps : Array (Nat × Operand)) (hps : ps.toList = []) :
    OpOK P T ⟨dst, .buildSlice t 0 ps, type, pos, after, guard⟩ vals hp [] .nils [] :=
  opOK_grow fun C σ a w loc hr hv _ => by
    obtain ⟨el, h1, h2, h3, h4, h5, i, z, g1, g2, g3, _⟩ := slice_of hT ht
    have : ps = #[] := by cases ps; simp at hps; subst hps; rfl
    subst this
    refine ⟨.slice (some ⟨w.heap.size, 0, none⟩) 0 0, w.alloc (.cells #[] el), ?_, Keep.alloc w _, .nils _⟩
    have h0 : Array.map (fun _ : Nat => (default : Value)) (Array.range 0) = #[] := Array.eq_empty_of_size_eq_zero (by simp)
    simp [execOp, Instr.buildSlice, run_underlying h1, run_sizeOf_cells h4, h2, Instr.fill, newRow, h0]

/-- A block that is as it was. -/
theorem opOK_noup {o : Oper} {b : Nat} {k : Blk} {v : AV} (hb : hp[b]? = some k) (h : OpOK P T o vals hp [b] v [(b, k)]) : OpOK P T o vals hp [b] v [] := by
  intro C σ a w loc hC hr hv hf fr mm K Q hK
  refine h C σ a w loc hC hr hv hf fr mm K Q fun a' w' loc' hx' h' => hK a' w' loc' hx' ?_
  have hset : σ.hp.set b k = σ.hp := by
    apply List.ext_getElem?
    intro i
    rw [List.getElem?_set]
    split
    · rename_i e
      subst e
      have := (hf b (by simp)).trans hb
      rw [this, if_pos (lt_of_getElem? this)]
    · rfl
  have : σ.app o.dst v [(b, k)] = σ.app o.dst v [] := by
    unfold St.app
    simp only [updHp, hset]
  rw [← this]; exact h'

theorem callEv_ok (hG : Good P T) {σ : St} (f : Operand) (args : Array Operand) (cargs : Array TypeId) {ρ : Type} {k : AV → List Nat → List (Nat × Blk) → Option ρ} {r : ρ}
    (h : callEv T σ (σ.eval f) (args.toList.map σ.eval) k = some r) :
    ∃ v fp ups, k v fp ups = some r ∧ OpOK P T ⟨dst, .call ⟨.value f, args, cargs⟩, type, pos, after, guard⟩ σ.eval σ.hp fp v ups := by
  unfold callEv at h
  split at h
  · rename_i g first cap hf
    split at h
    · rename_i E hE
      simp only at h
      obtain ⟨h1, h2⟩ := cond_none h
      simp only [Bool.and_eq_true, List.all_eq_true, List.contains_iff_mem] at h1
      obtain ⟨v, bs', h3, h4⟩ := hG.call g E hE ρ _ _ _ r h2
      obtain ⟨h5, h6⟩ := cond_none h3
      simp only [Bool.and_eq_true, List.all_eq_true] at h5
      obtain ⟨h5, h7, h8⟩ := h5
      refine ⟨_, _, _, h6, ok_call f args cargs hf rfl (T.keep.contains g) rfl (fun i hi => Nat.le_of_ble_eq_true (h1.2 i hi)) (dedup_nodup _) (fun i hi => dedup_mem.2 (List.mem_append_left _ hi)) (fun i hi k hk j hj => ?_)
        (Nat.eq_of_beq_eq_true h5) (fun i hi => Nat.le_of_ble_eq_true (h7 i hi)) (fun k hk i hi => Nat.le_of_ble_eq_true (h8 i (List.mem_flatMap.2 ⟨k, hk, hi⟩))) h4⟩
      refine h1.1 j ?_
      have key : ∀ (is : List Nat), i ∈ is → j ∈ idsH σ.hp is := by
        intro is
        induction is with
        | nil => intro h; simp at h
        | cons i' is ih =>
          intro h
          simp only [idsH, List.mem_append]
          rcases List.mem_cons.1 h with rfl | h
          · left; rw [hk]; exact hj
          · exact .inr (ih h)
      exact key _ hi
    · cases h
  · cases h

theorem builtinEv_ok (hG : Good P T) {σ : St} (b : Builtin) (args : Array Operand) (cargs : Array TypeId) {ρ : Type} {k : AV → List Nat → List (Nat × Blk) → Option ρ} {r : ρ}
    (h : builtinEv T.tyOf cargs.toList b σ (args.toList.map σ.eval) k = some r) :
    ∃ v fp ups, k v fp ups = some r ∧ OpOK P T ⟨dst, .call ⟨.builtin b, args, cargs⟩, type, pos, after, guard⟩ σ.eval σ.hp fp v ups := by
  obtain ⟨args⟩ := args
  obtain ⟨cargs⟩ := cargs
  unfold builtinEv at h
  split at h
  · rename_i v ha
    obtain ⟨x, rfl, rfl⟩ : ∃ x, args = [x] ∧ σ.eval x = v := by
      cases args with
      | nil => simp at ha
      | cons x l => cases l with
        | nil => simp at ha; exact ⟨x, rfl, ha⟩
        | cons y l => simp at ha
    split at h
    · rename_i t hts
      simp only at hts
      subst hts
      split at h
      · rename_i e n ht hn
        exact ⟨_, _, _, h, ok_len hG.ty #[t] x ht (by simp) _ hn (fun i hi => hi)⟩
      · cases h
    · cases h
  · rename_i n rr ha
    split at h
    · rename_i m hm
      exact ⟨_, _, _, h, ok_max _ _ ha hm⟩
    · cases h
  · rename_i n rr ha
    split at h
    · rename_i m hm
      exact ⟨_, _, _, h, ok_min _ _ ha hm⟩
    · cases h
  · rename_i b n src ha
    obtain ⟨x, y, rfl, hx, rfl⟩ : ∃ x y, args = [x, y] ∧ σ.eval x = .gro b n ∧ σ.eval y = src := by
      cases args with
      | nil => simp at ha
      | cons x l => cases l with
        | nil => simp at ha
        | cons y l => cases l with
          | nil => simp at ha; exact ⟨x, y, rfl, ha⟩
          | cons z l => simp at ha
    split at h
    · rename_i t1 t2 hts
      simp only at hts
      subst hts
      obtain ⟨h1, h2⟩ := cond_none h
      have := Nat.eq_of_beq_eq_true h1
      subst this
      split at h2
      · rename_i t' c t xs ht hb
        obtain ⟨h3, h4⟩ := cond_none h2
        simp only [Bool.and_eq_true, decide_eq_true_eq] at h3
        obtain ⟨rfl, h3⟩ := h3
        have := Nat.eq_of_beq_eq_true h3
        subst this
        split at h4
        · rename_i ys hy
          obtain ⟨h5, h6⟩ := cond_none h4
          exact ⟨_, _, _, h6, ok_append hG.ty x y #[t1, t1] ht rfl [b] hx hb (by simp) hy (Nat.le_of_ble_eq_true h5)⟩
        · cases h4
      · cases h2
    · cases h
  · cases h

theorem opEv_ok (hG : Good P T) {o : Oper} {σ : St} {slot : Nat} {ρ : Type} {k : AV → List Nat → List (Nat × Blk) → Option ρ} {r : ρ} (h : opEv T o σ slot k = some r) :
    ∃ v fp ups, k v fp ups = some r ∧ OpOK P T o σ.eval σ.hp fp v ups := by
  have hT := hG.ty
  obtain ⟨dst, op, type, pos, after, guard⟩ := o
  unfold opEv at h
  cases op <;> simp only at h <;> try (cases h; done)
  case move x =>
    split at h
    · rename_i b n e hf hx
      split at h
      · rename_i cs r hb
        obtain ⟨h1, h2⟩ := cond_none h
        simp only [Bool.and_eq_true] at h1
        split at h2
        · rename_i xs hd
          exact ⟨_, _, _, h2, ok_move_frz x hx hb (Nat.le_of_ble_eq_true h1.1) (Nat.eq_of_beq_eq_true h1.2) hd⟩
        · cases h2
      · cases h
    · exact ⟨_, _, _, h, ok_move x⟩
  case makeSlice t x y =>
    split at h
    · rename_i e n m ht hx hy
      obtain ⟨h1, h2⟩ := cond_none h
      simp only [Bool.and_eq_true, decide_eq_true_eq] at h1
      obtain ⟨rfl, h3, h4⟩ := h1
      obtain ⟨k, rfl⟩ := Int.eq_ofNat_of_zero_le (show 0 ≤ n by omega)
      obtain ⟨g1, g2, g3⟩ := freshB_some h2
      obtain ⟨o1, o2⟩ := ok_makeSlice (P := P) (T := T) (dst := dst) (type := type) (pos := pos) (after := after) (guard := guard) (vals := σ.eval) (hp := σ.hp) hT t x y ht (n := k) (by omega) (by omega) g2 g1 hx hy
      cases hf : T.isFrz ⟨dst, .makeSlice t x y, type, pos, after, guard⟩ with
      | true =>
        rw [hf] at g3
        simp only [cond_true] at g3
        split at g3
        · rename_i xs hd
          exact ⟨_, _, _, g3, o2 xs hd⟩
        · cases g3
      | false =>
        rw [hf] at g3
        exact ⟨_, _, _, g3, o1⟩
    · cases h
  case sliceToArrayPointer t x =>
    split at h
    · rename_i n s g e z e' xs ht hx
      obtain ⟨h1, h2⟩ := cond_none h
      simp only [Bool.and_eq_true, decide_eq_true_eq, Bool.not_eq_true'] at h1
      obtain ⟨rfl, h3, h4, h5⟩ := h1
      exact ⟨_, _, _, h2, ok_s2a hT t x ht hx (Nat.le_of_ble_eq_true h4) (fun e => by subst e; simp at h5)⟩
    · cases h
  case assign x =>
    split at h
    · rename_i t ht
      obtain ⟨h1, h2, h3⟩ := freshB_some h
      unfold vecAt at ht
      split at ht
      · rename_i he
        cases he
        exact ⟨_, _, _, h3, ok_newVec t h2 h1⟩
      · cases ht
    · exact ⟨_, _, _, h, ok_assign x⟩
  case pick c x y =>
    split at h
    · rename_i b hc
      refine ⟨cond b (σ.eval x) (σ.eval y), [], [], ?_, ok_pick c x y b hc⟩
      cases b <;> exact h
    · cases h
  case alloc t =>
    split at h
    · rename_i cs hz
      obtain ⟨h1, h2, h3⟩ := freshB_some h
      exact ⟨_, _, _, h3, ok_alloc hT t h2 h1 hz⟩
    · cases h
  case box t x =>
    split at h
    · rename_i cs hz
      obtain ⟨h1, h2, h3⟩ := freshB_some h
      exact ⟨_, _, _, h3, ok_box_ro t x h2 h1 hz _⟩
    · cases h
  case build t ps =>
    split at h
    · rename_i fs z ht
      split at h
      · rename_i cs hc; exact ⟨_, _, _, h, ok_build_struct hT t ps ht hc⟩
      · cases h
    · rename_i n s g el z ht
      split at h
      · rename_i cs hc; exact ⟨_, _, _, h, ok_build_arr hT t ps ht hc⟩
      · cases h
    · cases h
  case buildSlice t n ps =>
    split at h
    · rename_i e ht
      cases hn : Nat.beq n 0 with
      | true =>
        rw [hn] at h
        have := Nat.eq_of_beq_eq_true hn
        subst this
        simp only [cond_true] at h
        split at h
        · rename_i hps; exact ⟨_, _, _, h, ok_buildSlice0 hT t ht ps hps⟩
        · cases h
      | false =>
        rw [hn] at h
        obtain ⟨h1, h2⟩ := cond_none h
        split at h2
        · rename_i cs hc
          split at h2
          · rename_i xs hx
            exact ⟨_, _, _, h2, ok_buildSlice hT t n ps ht (fun e => by subst e; simp at hn) (Nat.le_of_ble_eq_true h1) hc hx⟩
          · cases h2
        · cases h2
    · cases h
  case load t x =>
    split at h
    · rename_i b off hx
      split at h
      · rename_i cs ro hb
        split at h
        · rename_i v hv; exact ⟨_, _, _, h, ok_load_ptr hT t x [b] hx hb (by simp) hv⟩
        · cases h
      · cases h
    · rename_i cs hx
      split at h
      · rename_i v hv; exact ⟨_, _, _, h, ok_load_eptr hT t x [] hx hv⟩
      · cases h
    · cases h
  case store t x y =>
    obtain ⟨h1, h2⟩ := cond_none h
    split at h2
    · rename_i b off xs hx hy
      split at h2
      · rename_i cs hb
        obtain ⟨h3, h4⟩ := cond_none h2
        simp only [Bool.and_eq_true] at h3
        exact ⟨_, _, _, h4, ok_store hT t x y [b] h1 hx hy hb (by simp) (Nat.eq_of_beq_eq_true h3.1) (Nat.le_of_ble_eq_true h3.2.1) h3.2.2⟩
      · cases h2
    · cases h2
  case nilCheck x =>
    split at h
    · rename_i b off hx; exact ⟨_, _, _, h, by have := ok_nilCheck (P := P) (T := T) (dst := dst) (type := type) (pos := pos) (after := after) (guard := guard) (vals := σ.eval) (hp := σ.hp) x (by rw [hx]; trivial); rwa [hx] at this⟩
    · rename_i cs hx; exact ⟨_, _, _, h, by have := ok_nilCheck (P := P) (T := T) (dst := dst) (type := type) (pos := pos) (after := after) (guard := guard) (vals := σ.eval) (hp := σ.hp) x (by rw [hx]; trivial); rwa [hx] at this⟩
    · rename_i f a b hx; exact ⟨_, _, _, h, by have := ok_nilCheck (P := P) (T := T) (dst := dst) (type := type) (pos := pos) (after := after) (guard := guard) (vals := σ.eval) (hp := σ.hp) x (by rw [hx]; trivial); rwa [hx] at this⟩
    · cases h
  case binOp op t x y yt =>
    split at h
    · rename_i xs ys hx hy
      split at h
      · rename_i ks hk
        obtain ⟨v, h1, h2⟩ := ok_eq (dst := dst) (type := type) (pos := pos) (after := after) (guard := guard) (vals := σ.eval) (hp := σ.hp) hG.eqs op t yt x y hx hy hk h
        exact ⟨v, _, _, h1, h2⟩
      · cases h
    · obtain ⟨v, h1, h2⟩ := ok_binOp (dst := dst) (type := type) (pos := pos) (after := after) (guard := guard) (vals := σ.eval) (hp := σ.hp) op t yt x y hT h
      exact ⟨v, _, _, h1, h2⟩
  case unOp op t x =>
    obtain ⟨v, h1, h2⟩ := ok_unOp (P := P) (T := T) (dst := dst) (type := type) (pos := pos) (after := after) (guard := guard) (vals := σ.eval) (hp := σ.hp) op t x h
    exact ⟨v, _, _, h1, h2⟩
  case convert src t x =>
    obtain ⟨h1, h2⟩ := cond_none h
    split at h2
    · rename_i kd ks n ht hx; exact ⟨_, _, _, h2, ok_convert hT src t x ht h1 hx⟩
    · cases h2
  case makeFunc f x y => exact ⟨_, _, _, h, ok_makeFunc f x y⟩
  case fieldAddr t x f =>
    split at h
    · rename_i fs z b off ht hx
      split at h
      · rename_i d s g hf
        cases hs : Nat.beq s 0 with
        | true => rw [hs] at h; cases h
        | false => rw [hs] at h; exact ⟨_, _, _, h, ok_fieldAddr_ptr hT t x f ht hf (fun e => by subst e; simp at hs) hx⟩
      · cases h
    · rename_i fs z cs ht hx
      split at h
      · rename_i d s g hf
        cases hs : Nat.beq s 0 with
        | true => rw [hs] at h; cases h
        | false => rw [hs] at h; exact ⟨_, _, _, h, ok_fieldAddr_eptr hT t x f ht hf (fun e => by subst e; simp at hs) hx⟩
      · cases h
    · cases h
  case field t x f =>
    split at h
    · rename_i fs z cs ht hx
      split at h
      · rename_i d s g hf
        split at h
        · rename_i v hv; exact ⟨_, _, _, h, ok_field hT t x f ht hf hx hv⟩
        · cases h
      · cases h
    · cases h
  case indexAddr t x y =>
    split at h
    · rename_i n s g el z b off ki j ht hx hy
      obtain ⟨m, h1, h2, h3, h4⟩ := arrIdx_some h
      subst h1
      exact ⟨_, _, _, h4, ok_indexAddr_ptr hT t x y ht hx hy (by omega)⟩
    · rename_i n s g el z cs ki j ht hx hy
      obtain ⟨m, h1, h2, h3, h4⟩ := arrIdx_some h
      subst h1
      exact ⟨_, _, _, h4, ok_indexAddr_eptr hT t x y ht hx hy (by omega)⟩
    · rename_i e e' xs ki j ht hx hy
      obtain ⟨h1, h2⟩ := cond_none h
      have := of_decide_eq_true h1
      subst this
      obtain ⟨z, h3, h4⟩ := bind_some h2
      exact ⟨_, _, _, h4, ok_indexAddr_lst hT t x y ht hx hy h3⟩
    · rename_i e b n e' ki j ht hx hy
      obtain ⟨h0, h9⟩ := cond_none h
      have := of_decide_eq_true h0
      subst this
      obtain ⟨m, h1, h2, h3, h4⟩ := arrIdx_some h9
      subst h1
      exact ⟨_, _, _, h4, ok_indexAddr_bsl hT t x y ht hx hy (by omega)⟩
    · rename_i e b n ki j ht hx hy
      split at h
      · rename_i c e' xs hb
        obtain ⟨h1, h2⟩ := cond_none h
        simp only [Bool.and_eq_true, decide_eq_true_eq] at h1
        obtain ⟨rfl, h1⟩ := h1
        have := Nat.eq_of_beq_eq_true h1
        subst this
        obtain ⟨z, h3, h4⟩ := bind_some h2
        exact ⟨_, _, _, h4, ok_indexAddr_gro hT t x y ht [b] hx hb (by simp) hy h3⟩
      · cases h
    · cases h
  case index t x y =>
    split at h
    · rename_i n s g el z cs ki j ht hx hy
      obtain ⟨m, h1, h2, h3, h4⟩ := arrIdx_some h
      subst h1
      split at h4
      · rename_i v hv; exact ⟨_, _, _, h4, ok_index hT t x y ht hx hy (by omega) hv⟩
      · cases h4
    · cases h
  case slice t x lo hi mx =>
    cases mx with
    | some m => cases h
    | none =>
      simp only at h
      split at h
      · rename_i al ah n s g e z b off ht hx
        split at h
        · rename_i cs ro hb
          split at h
          · rename_i kl l' kh h' hl' hh2
            obtain ⟨h1, h2⟩ := cond_none h
            simp only [Bool.and_eq_true, decide_eq_true_eq] at h1
            obtain ⟨h1, h3, h4, h5, h6⟩ := h1
            split at h2
            · rename_i xs hxs
              obtain ⟨h7, h8⟩ := cond_none h2
              obtain ⟨ln, rfl⟩ := Int.eq_ofNat_of_zero_le h1
              obtain ⟨hn, rfl⟩ := Int.eq_ofNat_of_zero_le (Int.le_trans h1 h3)
              have main : OpOK P T ⟨dst, .slice t x lo hi none, type, pos, after, guard⟩ σ.eval σ.hp [b] (.lst e xs) [(b, .box cs true)] := by
                refine ok_slice_arr (kl := kl) (kh := kh) hT t x lo hi ht [b] hx ?_ ?_ hb (by simp) (Nat.le_of_ble_eq_true h6) (by omega) (by omega) (Nat.le_of_ble_eq_true h5) hxs
                · cases lo with
                  | none => simp only [Option.map_none, Option.getD_none, AV.int.injEq] at hl'; omega
                  | some y => exact hl'
                · cases hi with
                  | none => simp only [Option.map_none, Option.getD_none, AV.int.injEq] at hh2; omega
                  | some y => exact hh2
              cases ro with
              | false => exact ⟨_, _, _, h8, main⟩
              | true => exact ⟨_, _, _, h8, opOK_noup hb main⟩
            · cases h2
          · cases h
        · cases h
      · rename_i e e' xs kl l ht hx hl hh
        obtain ⟨h1, h2⟩ := cond_none h
        simp only [Bool.and_eq_true, decide_eq_true_eq] at h1
        obtain ⟨rfl, h3, h4⟩ := h1
        cases hi with
        | some _ => cases hh
        | none =>
          cases lo with
          | none => cases hl
          | some y => exact ⟨_, _, _, h2, ok_slice_lst hT t x y ht hx (Option.some.inj hl) h3 h4⟩
      · cases h
  case extract x i =>
    split at h
    · rename_i vs hx
      split at h
      · rename_i v hv; exact ⟨_, _, _, h, ok_extract x i hx hv⟩
      · cases h
    · cases h
  case makeInterface t x =>
    have hk : T.tyOf t ≠ .iface → T.tyOf t ≠ .other → T.known t = true := fun _ h2 => by
      unfold Tab.known
      split
      · rename_i h; exact absurd h h2
      · rfl
    split at h
    · cases h
    · cases h
    · rename_i h1 h2; exact ⟨_, _, _, h, ok_makeInterface hT t x (hk h1 h2) h1⟩
  case call c =>
    obtain ⟨callee, args, cargs⟩ := c
    cases callee with
    | builtin b => exact builtinEv_ok hG b args cargs h
    | value f =>
      simp only at h
      split at h
      · rename_i t hg
        split at h
        · rename_i y hargs
          split at h
          · rename_i n hy
            obtain ⟨h1, h2⟩ := cond_none h
            obtain ⟨h3, h4, h5⟩ := freshB_some h2
            simp only [Bool.and_eq_true, decide_eq_true_eq] at h1
            obtain ⟨m, rfl⟩ := Int.eq_ofNat_of_zero_le h1.1
            have : args = #[.const (.slice none 0 0), y] := by cases args; simp at hargs; simp [hargs]
            subst this
            cases f with
            | func g => exact ⟨_, _, _, h5, ok_grow (hG.grow g t hg) y cargs h4 h3 hy (by omega)⟩
            | _ => cases hg
          · cases h
        · cases h
      · exact callEv_ok hG f args cargs h
    | invoke _ _ => cases h

end ops
end Go.Ull
