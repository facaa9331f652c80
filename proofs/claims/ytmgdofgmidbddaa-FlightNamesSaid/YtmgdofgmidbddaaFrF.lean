/- The abstract operations are sound: those that call nothing. -/
import Derived.Test.YtmgdofgmidbddaaFrE
import Derived.CallsIn
import Derived.TacticsIn
import Derived.OrdersIn
import Derived.LoopNIn
namespace Go.Ull
open Go.RowKit

/-- No fence; the frame is a round's, or a plain one. -/
def ro (f : Option Nat) : Fence := { Fence.wide with round := f }

theorem callsIn_ro {f : Option Nat} {n : Nat} {P : Program} {g : FuncId} {args : Array Value} {w : World} {R : Ending → World → Prop} : CallsIn (ro f) n P g args w R ↔ Calls P g args w R :=
  callsIn_wide (n := n)

/-- What is asked of an operation: it makes of every state that fits what is said. -/
def OpOK (P : Program) (T : Tab) (o : Oper) (vals : Operand → AV) (hp : List Blk) (fp : List Nat) (v : AV) (ups : List (Nat × Blk)) : Prop :=
  ∀ (C : Ctx) (σ : St) (a : Act) (w : World) (loc : List Loc), C.m = T.m → RelSt C σ a w loc →
    (∀ x ∈ o.op.operands, σ.eval x = vals x) → (∀ i ∈ fp, σ.hp[i]? = hp[i]?) →
    ∀ (f : Option Nat) (m : Nat) (K : Act → World → Prop) (Q : Exit → Act → World → Prop), (∀ a' w' loc', (∃ x, a' = a.put o.dst x) → RelSt C (σ.app o.dst v ups) a' w' loc' → K a' w') → o.wpIn (ro f) m P a w K Q

theorem run_semAt {P : Program} {o : Oper} {a : Act} {w w' : World} {x : Next} (h : (execOp a.eval o).run P w = .ok x w') (hx : ∀ d, x ≠ .defer d) (f : Option Nat) : (o.semAt f a.eval).run P w = .ok x w' := by
  rw [Oper.semAt_eq]
  · exact h
  · intro c hc
    obtain ⟨dst, op, type, pos, after, guard⟩ := o
    simp only at hc
    subst hc
    simp only [execOp, Sem.run_bind] at h
    cases hr : (resolve a.eval c type).run P w with
    | ok d w1 =>
      rw [hr] at h
      simp only [Result.andThen_ok, Sem.run_pure, Result.ok.injEq] at h
      exact hx d h.1.symm
    | halt y w1 => rw [hr] at h; cases h

theorem wp_of_value {P : Program} {o : Oper} {a : Act} {w w' : World} {x : Value} {f : Option Nat} {m : Nat} {K : Act → World → Prop} {Q : Exit → Act → World → Prop}
    (h : (execOp a.eval o).run P w = .ok (.value x) w') (hk : K (a.put o.dst x) w') : o.wpIn (ro f) m P a w K Q := by
  refine ⟨fun _ _ => trivial, ?_⟩
  rw [show (ro f).round = f from rfl, run_semAt h (by intro d e; cases e) f]; exact hk

theorem wp_of_skip {P : Program} {o : Oper} {a : Act} {w w' : World} {f : Option Nat} {m : Nat} {K : Act → World → Prop} {Q : Exit → Act → World → Prop}
    (h : (execOp a.eval o).run P w = .ok .skip w') (hk : K (a.put o.dst Go.undef) w') : o.wpIn (ro f) m P a w K Q := by
  refine ⟨fun _ _ => trivial, ?_⟩
  rw [show (ro f).round = f from rfl, run_semAt h (by intro d e; cases e) f]; exact hk

theorem ofVal_rel {w : World} {X : Nat → Nat → Prop} {loc : List Loc} (v : Value) : RelV w X loc (ofVal v) v := by
  unfold ofVal
  cases v with
  | bool b => exact .bool _
  | int k n => exact .int _ _
  | slice a n c =>
    cases a with
    | some _ => exact .undef _
    | none =>
      simp only
      cases h : Nat.beq n 0 && Nat.beq c 0 with
      | false => exact .undef _
      | true =>
        simp only [Bool.and_eq_true] at h
        rw [Nat.eq_of_beq_eq_true h.1, Nat.eq_of_beq_eq_true h.2]
        exact .nils _
  | pointer a => cases a with
    | none => exact .nilp
    | some _ => exact .undef _
  | nilFunc => exact .nilfn
  | nilIface => exact .niliface
  | func f a b =>
    simp only
    cases h : Nat.beq a.size 0 && Nat.beq b.size 0 with
    | false => exact .undef _
    | true =>
      simp only [Bool.and_eq_true] at h
      exact .fn _ _ _ _ _ (Nat.eq_of_beq_eq_true h.1).symm (fun i c h => by simp at h) (Nat.eq_of_beq_eq_true h.2).symm (fun i c h => by simp at h)
  | _ => exact .undef _

theorem RelSt.eval {C : Ctx} {σ : St} {a : Act} {w : World} {loc : List Loc} (h : RelSt C σ a w loc) (x : Operand) : RelV w (C.X σ.hp loc) loc (σ.eval x) (a.eval x) := by
  cases x with
  | tmp t =>
    show RelV _ _ _ ((σ.tm[t]?).getD .undef) (a.tmps.getD t Go.undef)
    cases ht : σ.tm[t]? with
    | none => exact .undef _
    | some v => exact h.tm t v ht
  | const v => exact ofVal_rel v
  | global g => exact .undef _
  | func f => exact .fn _ _ _ _ _ rfl (fun i c h => by simp at h) rfl (fun i c h => by simp at h)

/-- An operation that hands back a value and leaves the world. -/
theorem opOK_value {P : Program} {T : Tab} {o : Oper} {vals : Operand → AV} {hp : List Blk} {fp : List Nat} {v : AV}
    (h : ∀ (C : Ctx) (σ : St) (a : Act) (w : World) (loc : List Loc), RelSt C σ a w loc → (∀ x ∈ o.op.operands, RelV w (C.X σ.hp loc) loc (vals x) (a.eval x)) →
      (∀ i ∈ fp, σ.hp[i]? = hp[i]?) → ∃ x, (execOp a.eval o).run P w = .ok (.value x) w ∧ RelV w (C.X σ.hp loc) loc v x) :
    OpOK P T o vals hp fp v [] := by
  intro C σ a w loc _ hr hv hf fr mm K Q hK
  obtain ⟨x, h1, h2⟩ := h C σ a w loc hr (fun x hx => hv x hx ▸ hr.eval x) hf
  exact wp_of_value h1 (hK _ _ _ ⟨_, rfl⟩ (hr.put h2 o.dst))

/-- An operation that hands back a value and makes memory that nobody writes. -/
theorem opOK_grow {P : Program} {T : Tab} {o : Oper} {vals : Operand → AV} {hp : List Blk} {fp : List Nat} {v : AV}
    (h : ∀ (C : Ctx) (σ : St) (a : Act) (w : World) (loc : List Loc), RelSt C σ a w loc → (∀ x ∈ o.op.operands, RelV w (C.X σ.hp loc) loc (vals x) (a.eval x)) →
      (∀ i ∈ fp, σ.hp[i]? = hp[i]?) → ∃ x w', (execOp a.eval o).run P w = .ok (.value x) w' ∧ Keep (fun _ _ => False) w w' ∧ RelV w' (C.X σ.hp loc) loc v x) :
    OpOK P T o vals hp fp v [] := by
  intro C σ a w loc _ hr hv hf fr mm K Q hK
  obtain ⟨x, w', h1, h2, h3⟩ := h C σ a w loc hr (fun x hx => hv x hx ▸ hr.eval x) hf
  exact wp_of_value h1 (hK _ _ _ ⟨_, rfl⟩ ((hr.grow h2).put h3 o.dst))

section ops
variable {P : Program} {T : Tab} {dst : Option Tmp} {type : TypeId} {pos : String} {after : Array Edge} {guard : Option (Nat × Bool)}
variable {vals : Operand → AV} {hp : List Blk}

theorem ok_move (x : Operand) : OpOK P T ⟨dst, .move x, type, pos, after, guard⟩ vals hp [] (vals x) [] :=
  opOK_value fun _ _ a w _ _ hv _ => ⟨a.eval x, rfl, hv x (by simp [Op.operands])⟩

theorem ok_assign (x : Operand) : OpOK P T ⟨dst, .assign x, type, pos, after, guard⟩ vals hp [] (vals x) [] :=
  opOK_value fun _ _ a w _ _ hv _ => ⟨a.eval x, rfl, hv x (by simp [Op.operands])⟩

theorem RelV.bool_inv {w : World} {X : Nat → Nat → Prop} {loc : List Loc} {b : Bool} {v : Value} (h : RelV w X loc (.bool b) v) : v = .bool b := by cases h; rfl
theorem RelV.int_inv {w : World} {X : Nat → Nat → Prop} {loc : List Loc} {k : IntKind} {n : Int} {v : Value} (h : RelV w X loc (.int k n) v) : v = .int k n := by cases h; rfl

theorem ok_pick (c x y : Operand) (b : Bool) (hc : vals c = .bool b) : OpOK P T ⟨dst, .pick c x y, type, pos, after, guard⟩ vals hp [] (cond b (vals x) (vals y)) [] :=
  opOK_value fun _ _ a w _ _ hv _ => by
    have h1 := hv c (by simp [Op.operands]); rw [hc] at h1; have h1 := h1.bool_inv
    cases b
    · exact ⟨a.eval y, by simp [execOp, asBool, h1], hv y (by simp [Op.operands])⟩
    · exact ⟨a.eval x, by simp [execOp, asBool, h1], hv x (by simp [Op.operands])⟩

theorem ok_unOp (op : UnOp) (t : TypeId) (x : Operand) {ρ : Type} {k : AV → Option ρ} {r : ρ} (h : unEv op (vals x) k = some r) :
    ∃ v, k v = some r ∧ OpOK P T ⟨dst, .unOp op t x, type, pos, after, guard⟩ vals hp [] v [] := by
  unfold unEv at h
  split at h
  · rename_i ka n hx
    refine ⟨_, h, opOK_value fun _ _ a w _ _ hv _ => ?_⟩
    have h1 := hv x (by simp [Op.operands]); rw [hx] at h1; have h1 := h1.int_inv
    exact ⟨.int ka (ka.wrap (0 - n)), by simp [execOp, h1, Op.unary, Op.intArith], .int _ _⟩
  · rename_i b hx
    refine ⟨_, h, opOK_value fun _ _ a w _ _ hv _ => ?_⟩
    have h1 := hv x (by simp [Op.operands]); rw [hx] at h1; have h1 := h1.bool_inv
    exact ⟨.bool !b, by simp [execOp, h1, Op.unary], .bool _⟩
  · rename_i ka n hx
    refine ⟨_, h, opOK_value fun _ _ a w _ _ hv _ => ?_⟩
    have h1 := hv x (by simp [Op.operands]); rw [hx] at h1; have h1 := h1.int_inv
    exact ⟨_, by simp only [execOp, h1, Op.unary, Op.intBits, Sem.run_bind, Sem.run_pure, Result.andThen_ok], .int _ _⟩
  · cases h

theorem ok_binOp (op : BinOp) (t yt : TypeId) (x y : Operand) {ρ : Type} {k : AV → Option ρ} {r : ρ} (hT : TabOK P T) (h : binEv (T.tyOf t) op (vals x) (vals y) k = some r) :
    ∃ v, k v = some r ∧ OpOK P T ⟨dst, .binOp op t x y yt, type, pos, after, guard⟩ vals hp [] v [] := by
  have key : ∀ v, k v = some r → (∀ (w : World) (X : Nat → Nat → Prop) (loc : List Loc) (a : Act), RelV w X loc (vals x) (a.eval x) → RelV w X loc (vals y) (a.eval y) →
      ∃ z, (execOp a.eval ⟨dst, .binOp op t x y yt, type, pos, after, guard⟩).run P w = .ok (.value z) w ∧ RelV w X loc v z) →
      ∃ v, k v = some r ∧ OpOK P T ⟨dst, .binOp op t x y yt, type, pos, after, guard⟩ vals hp [] v [] := fun v hk hz =>
    ⟨v, hk, opOK_value fun C σ a w loc _ hv _ => hz w _ loc a (hv x (by simp [Op.operands])) (hv y (by simp [Op.operands]))⟩
  unfold binEv at h
  split at h
  · rename_i ka n kb m hx hy
    have fin : ∀ v z, k v = some r → (∀ (w : World) (X : Nat → Nat → Prop) (loc : List Loc), RelV w X loc v z) →
        (∀ (w : World), (eqGuard op t x y (.int ka n) (.int kb m) >>= fun _ => Go.binOp op t (.int ka n) (.int kb m)).run P w = .ok z w) →
        ∃ v, k v = some r ∧ OpOK P T ⟨dst, .binOp op t x y yt, type, pos, after, guard⟩ vals hp [] v [] := fun v z hk1 hrel hrun =>
      key v hk1 fun w X loc a h1 h2 => by
        rw [hx] at h1; rw [hy] at h2
        refine ⟨z, ?_, hrel _ _ _⟩
        have := hrun w
        simp only [execOp, h1.int_inv, h2.int_inv, Sem.run_bind] at this ⊢
        rw [this]; rfl
    split at h
    · cases hd : decide (m < 0) with
      | true => simp [hd] at h
      | false =>
        simp only [hd, cond_false] at h
        have hd := of_decide_eq_false hd
        exact fin _ _ h (fun _ _ _ => .int _ _) fun w => by simp [eqGuard, Go.binOp, Op.shift, hd]
    · cases hd : decide (m < 0) with
      | true => simp [hd] at h
      | false =>
        simp only [hd, cond_false] at h
        have hd := of_decide_eq_false hd
        exact fin _ _ h (fun _ _ _ => .int _ _) fun w => by simp [eqGuard, Go.binOp, Op.shift, hd]
    · cases hk : decide (ka = kb) with
      | false => simp [hk] at h
      | true =>
        simp only [hk, cond_true] at h
        have hk := of_decide_eq_true hk
        subst hk
        unfold intBin at h
        split at h
        all_goals first
          | (refine fin _ _ h (fun _ _ _ => .bool _) fun w => ?_; simp [eqGuard, Go.binOp, Op.intCmp]; done)
          | (refine fin _ _ h (fun _ _ _ => .int _ _) fun w => ?_; simp [eqGuard, Go.binOp, Op.intArith]; done)
          | (refine fin _ (.int ka _) h (fun _ _ _ => .int _ _) fun w => ?_; simp only [Sem.run_bind, eqGuard, Go.binOp, ne_eq, not_true_eq_false, if_false, Op.intBits]; rfl)
          | (cases hd : decide (m = 0) with
             | true => simp [hd] at h
             | false =>
               simp only [hd, cond_false] at h
               have hd := of_decide_eq_false hd
               exact fin _ _ h (fun _ _ _ => .int _ _) fun w => by simp [eqGuard, Go.binOp, Op.intDiv, hd])
          | cases h
  · rename_i b c hx hy
    have hb : ∀ (w : World), T.tyOf t = .bool → (Op.equal t (.bool b) (.bool c)).run P w = .ok (b == c) w := fun w ht => by
      have hu := und_of (t := t) hT (by rw [ht]; simp)
      rw [ht] at hu
      have hu' : P.underlying t = some .bool := by
        revert hu
        cases P.underlying t with
        | none => simp
        | some d => cases d <;> simp
      exact run_equalIn_bool' (P := P) w 9999 t b c hu'
    split at h
    · rename_i ht
      refine key _ h fun w X loc a h1 h2 => ?_
      rw [hx] at h1; rw [hy] at h2
      exact ⟨_, by simp only [execOp, h1.bool_inv, h2.bool_inv, eqGuard, Go.binOp, Sem.run_bind]; simp [hb w ht], .bool _⟩
    · rename_i ht
      refine key _ h fun w X loc a h1 h2 => ?_
      rw [hx] at h1; rw [hy] at h2
      exact ⟨_, by simp only [execOp, h1.bool_inv, h2.bool_inv, eqGuard, Go.binOp, Sem.run_bind]; simp [hb w ht], .bool _⟩
    · cases h
  · cases h

end ops
end Go.Ull
