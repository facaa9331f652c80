/- Regions: the operations of one, in the text's order and in every other order that may be. -/
import Derived.Test.YtmgdofgmidbddaaFrR
import Derived.Orders
namespace Go.Ull
open Go.RowKit

/-- An operation that was met: was it run, what did it look at, what did it do. -/
structure Rec where
  i : Nat
  o : Oper
  run : Bool
  vals : Operand → AV
  hp : List Blk
  fp : List Nat
  v : AV
  ups : List (Nat × Blk)

def guardIs (all : List Oper) (o : Oper) (σ : St) (run : Bool) : Prop :=
  match o.guard with
  | none => run = true
  | some (j, want) => ∃ d, (all[j]?).bind (·.dst) = some d ∧ ((∃ v, σ.tm[d]? = some (.bool v) ∧ (v == want) = run) ∨ (σ.tm[d]? = some (.tuple []) ∧ run = false))

def Rec.Pre (all : List Oper) (x : Rec) (σ : St) : Prop :=
  guardIs all x.o σ x.run ∧ (x.run = true → (∀ y ∈ x.o.op.operands, σ.eval y = x.vals y) ∧ ∀ i ∈ x.fp, σ.hp[i]? = x.hp[i]?)

def Rec.next (x : Rec) (σ : St) : St := match x.run with
  | true => σ.app x.o.dst x.v x.ups
  | false => σ.put x.o.dst (.tuple [])

def RecOK (P : Program) (T : Tab) (x : Rec) : Prop := x.run = true → OpOK P T x.o x.vals x.hp x.fp x.v x.ups

inductive Chain (all : List Oper) : St → List Rec → St → Prop
  | nil (σ : St) : Chain all σ [] σ
  | cons {σ σ' : St} {x : Rec} {L : List Rec} (h : x.Pre all σ) (t : Chain all (x.next σ) L σ') : Chain all σ (x :: L) σ'

def Rec.fps (x : Rec) : List Nat × List Nat := match x.run with
  | true => (x.fp, x.ups.map (·.1))
  | false => ([], [])

theorem St.put_same {σ : St} {d : Nat} {v : AV} (h : σ.tm[d]? = some v) : σ.put (some d) v = σ := by
  have : σ.tm.set d v = σ.tm := by
    apply List.ext_getElem?
    intro i
    rw [List.getElem?_set]
    split
    · rename_i e
      subst e
      rw [h, if_pos (lt_of_getElem? h)]
    · rfl
  simp [St.put, this]

theorem guardEv_some {all : List Oper} {o : Oper} {σ : St} {ρ : Type} {yes no : St → Option ρ} {r : ρ} (h : guardEv all o σ yes no = some r) :
    ∃ run, guardIs all o σ run ∧ (match run with | true => yes σ | false => no σ) = some r := by
  unfold guardEv at h
  unfold guardIs
  split at h
  · rename_i hg; simp only [hg]; exact ⟨true, rfl, h⟩
  · rename_i j want hg
    split at h
    · cases h
    · rename_i d hd
      simp only [hg] at *
      split at h
      · rename_i v hv
        cases want <;> cases v
        · rw [St.put_same hv] at h; exact ⟨true, ⟨d, hd, .inl ⟨_, hv, rfl⟩⟩, h⟩
        · rw [St.put_same hv] at h; exact ⟨false, ⟨d, hd, .inl ⟨_, hv, rfl⟩⟩, h⟩
        · rw [St.put_same hv] at h; exact ⟨false, ⟨d, hd, .inl ⟨_, hv, rfl⟩⟩, h⟩
        · rw [St.put_same hv] at h; exact ⟨true, ⟨d, hd, .inl ⟨_, hv, rfl⟩⟩, h⟩
      · rename_i hv
        exact ⟨false, ⟨d, hd, .inr ⟨hv, rfl⟩⟩, h⟩
      · cases h

theorem shareEv_some {T : Tab} {o : Oper} {v : AV} {ρ : Type} {k : AV → Option ρ} {r : ρ} (h : shareEv T o v k = some r) : k v = some r := by
  unfold shareEv at h
  split at h
  · rename_i d hd
    cases hc : T.share.contains d with
    | true =>
      rw [hc] at h
      cases v <;> exact h
    | false => rw [hc] at h; exact h
  · exact h

theorem evOps_chain {P : Program} {T : Tab} (hG : Good P T) {all : List Oper} {ρ : Type} {r : ρ} : ∀ {rest : List Oper} {slot n : Nat} {σ : St} {fps : List (List Nat × List Nat)} {k : St → List (List Nat × List Nat) → Option ρ},
    evOps T all rest slot σ fps k = some r → ∃ (L : List Rec) (σ' : St), L.map (·.o) = rest ∧ Chain all σ L σ' ∧ (∀ x ∈ L, RecOK P T x) ∧ (∀ (j : Nat) x, L[j]? = some x → x.i = n + j) ∧
      k σ' ((L.map Rec.fps).reverse ++ fps) = some r
  | [], slot, n, σ, fps, k, h => ⟨[], σ, rfl, .nil σ, by simp, by simp, h⟩
  | o :: rest, slot, n, σ, fps, k, h => by
    unfold evOps at h
    obtain ⟨run, h1, h2⟩ := guardEv_some h
    cases run with
    | true =>
      obtain ⟨v, fp, ups, h3, h4⟩ := opEv_ok hG h2
      have h5 := shareEv_some h3
      obtain ⟨L, σ', g1, g2, g3, g4, g5⟩ := evOps_chain hG (n := n + 1) h5
      refine ⟨⟨n, o, true, σ.eval, σ.hp, fp, v, ups⟩ :: L, σ', by simp [g1], .cons ⟨h1, fun _ => ⟨fun _ _ => rfl, fun _ _ => rfl⟩⟩ g2, fun x hx => ?_, fun j x hj => ?_, ?_⟩
      · rcases List.mem_cons.1 hx with rfl | hx
        · exact fun _ => h4
        · exact g3 x hx
      · cases j with
        | zero => simp at hj; subst hj; rfl
        | succ j => have := g4 j x (by simpa using hj); omega
      · simpa [Rec.fps] using g5
    | false =>
      obtain ⟨L, σ', g1, g2, g3, g4, g5⟩ := evOps_chain hG (n := n + 1) h2
      refine ⟨⟨n, o, false, σ.eval, σ.hp, [], .undef, []⟩ :: L, σ', by simp [g1], .cons ⟨h1, fun e => by cases e⟩ g2, fun x hx => ?_, fun j x hj => ?_, ?_⟩
      · rcases List.mem_cons.1 hx with rfl | hx
        · exact fun e => by cases e
        · exact g3 x hx
      · cases j with
        | zero => simp at hj; subst hj; rfl
        | succ j => have := g4 j x (by simpa using hj); omega
      · simpa [Rec.fps] using g5

theorem wanted_of {C : Ctx} {σ : St} {a : Act} {w : World} {loc : List Loc} (hr : RelSt C σ a w loc) {ops : Array Oper} {o : Oper} {run : Bool} (h : guardIs ops.toList o σ run) :
    Region.wanted o (yielded ops a.tmps) = run := by
  unfold guardIs at h
  unfold Region.wanted
  split at h
  · rename_i hg; rw [hg]; exact h.symm
  · rename_i j want hg
    rw [hg]
    obtain ⟨d, hd, h⟩ := h
    rw [Array.getElem?_toList] at hd
    have key : ∀ v, σ.tm[d]? = some v → a.tmps[d]? = some (a.tmps.getD d Go.undef) := fun v hv => by
      have : d < a.tmps.size := by rw [hr.tms]; exact lt_of_getElem? hv
      simp [Array.getD_eq_getD_getElem?, this]
    rcases h with ⟨v, hv, rfl⟩ | ⟨hv, rfl⟩
    · have h1 := (hr.tm d _ hv).bool_inv
      have h2 := key _ hv
      rw [h1] at h2
      have hy : yielded ops a.tmps j = some v := by simp [yielded, hd, h2]
      show (yielded ops a.tmps j == some want) = _
      rw [hy]; cases v <;> cases want <;> rfl
    · have h1 := hr.tm d _ hv
      obtain ⟨vs, h3, h4, _⟩ := h1.tuple_inv
      have h2 := key _ hv
      rw [h3] at h2
      have hy : yielded ops a.tmps j = none := by simp [yielded, hd, h2]
      show (yielded ops a.tmps j == some want) = _
      rw [hy]; cases want <;> rfl

theorem undef_rel {w : World} {X : Nat → Nat → Prop} {loc : List Loc} : RelV w X loc (.tuple []) Go.undef := .tuple [] #[] rfl (fun i c h => by simp at h)

theorem Rec.step {P : Program} {T : Tab} {C : Ctx} {σ : St} {a : Act} {w : World} {loc : List Loc} (hC : C.m = T.m) (hr : RelSt C σ a w loc) {ops : Array Oper} {x : Rec} (hx : RecOK P T x) (hp : x.Pre ops.toList σ)
    {K : Act → World → Prop} {Q : Exit → Act → World → Prop} (hK : ∀ a' w' loc', RelSt C (x.next σ) a' w' loc' → K a' w') :
    ∀ (fr : Option Nat) (mm : Nat), if Region.wanted x.o (yielded ops a.tmps) then x.o.wpIn (ro fr) mm P a w K Q else (∀ f, x.o.about P w a.eval = some f → (ro fr).fn f) ∧ K (a.put x.o.dst Go.undef) w := by
  intro fr mm
  rw [wanted_of hr hp.1]
  cases hrun : x.run with
  | true =>
    rw [if_pos rfl]
    obtain ⟨h1, h2⟩ := hp.2 hrun
    refine hx hrun C σ a w loc hC hr h1 h2 fr mm K Q fun a' w' loc' _ h => hK a' w' loc' ?_
    unfold Rec.next; rw [hrun]; exact h
  | false =>
    rw [if_neg (by simp)]
    refine ⟨fun _ _ => trivial, hK _ _ loc ?_⟩
    unfold Rec.next; rw [hrun]
    exact hr.put undef_rel _

theorem chain_wpList {P : Program} {T : Tab} {C : Ctx} (hC : C.m = T.m) {ops : Array Oper} {Q : Exit → Act → World → Prop} {σ' : St} (hQ : ∀ a' w' loc', RelSt C σ' a' w' loc' → Q .normal a' w') (fr : Option Nat) (mm : Nat) :
    ∀ {L : List Rec} {σ : St} {a : Act} {w : World} {loc : List Loc}, RelSt C σ a w loc → Chain ops.toList σ L σ' → (∀ x ∈ L, RecOK P T x) → wpListIn (ro fr) mm P ops Q (L.map (·.o)) a w
  | [], σ, a, w, loc, hr, h, _ => by cases h; exact hQ _ _ _ hr
  | x :: L, σ, a, w, loc, hr, h, hok => by
    cases h with
    | cons h1 h2 =>
      refine wpListIn_step fun K hK => Rec.step hC hr (hok x (by simp)) h1 (fun a' w' loc' hr' => hK a' w' ?_) fr mm
      exact chain_wpList hC hQ fr mm hr' h2 fun y hy => hok y (by simp [hy])

/-! ### Orders -/

def Rec.Apart (all : List Oper) (x y : Rec) : Prop :=
  (∀ d, x.o.dst = some d → d ∉ looksAt all y.o ∧ y.o.dst ≠ some d) ∧ (∀ d, y.o.dst = some d → d ∉ looksAt all x.o) ∧
  (∀ i ∈ x.fps.2, i ∉ y.fps.1) ∧ (∀ i ∈ y.fps.2, i ∉ x.fps.1) ∧ ∀ i ∈ x.fps.2, i ∉ y.fps.2

theorem put_tm {σ : St} {d : Option Nat} {v : AV} {t : Nat} (h : ∀ d', d = some d' → d' ≠ t) : (σ.put d v).tm[t]? = σ.tm[t]? := by
  cases d with
  | none => rfl
  | some d => simp only [St.put]; rw [List.getElem?_set_ne (h d rfl)]

theorem put_hp {σ : St} {d : Option Nat} {v : AV} : (σ.put d v).hp = σ.hp := by cases d <;> rfl

theorem next_tm {y : Rec} {σ : St} {t : Nat} (h : ∀ d, y.o.dst = some d → d ≠ t) : (y.next σ).tm[t]? = σ.tm[t]? := by
  unfold Rec.next
  split
  · exact put_tm h
  · exact put_tm h

theorem next_hp {y : Rec} {σ : St} {i : Nat} (h : i ∉ y.fps.2) : (y.next σ).hp[i]? = σ.hp[i]? := by
  unfold Rec.next
  unfold Rec.fps at h
  split
  · rename_i hr
    rw [hr] at h
    unfold St.app
    rw [put_hp]
    show (updHp σ.hp y.ups)[i]? = _
    rw [updHp_upd]; exact upd_out h
  · rw [put_hp]

theorem pre_frame {all : List Oper} {x y : Rec} {σ : St} (h1 : ∀ d, y.o.dst = some d → d ∉ looksAt all x.o) (h2 : ∀ i ∈ y.fps.2, i ∉ x.fps.1) : x.Pre all (y.next σ) ↔ x.Pre all σ := by
  unfold Rec.Pre
  refine and_congr ?_ ?_
  · unfold guardIs
    split
    · exact Iff.rfl
    · rename_i j want hg
      refine exists_congr fun d => and_congr_right fun hd => ?_
      have : (y.next σ).tm[d]? = σ.tm[d]? := next_tm fun d' hd' e => by
        subst e
        exact h1 d' hd' (by simp [looksAt, hg, hd])
      rw [this]
  · refine forall_congr' fun hr => and_congr (forall_congr' fun z => forall_congr' fun hz => ?_) (forall_congr' fun i => forall_congr' fun hi => ?_)
    · have : (y.next σ).eval z = σ.eval z := by
        cases z with
        | tmp t =>
          simp only [St.eval]
          rw [next_tm fun d hd e => ?_]
          subst e
          exact h1 d hd (List.mem_append_left _ (List.mem_filterMap.2 ⟨.tmp d, by simpa using hz, rfl⟩))
        | _ => rfl
      rw [this]
    · rw [next_hp fun h => h2 i h (by simp [Rec.fps, hr, hi])]

theorem upd_set {α : Type} {i : Nat} {a : α} : ∀ {r : List (Nat × α)} {l : List α}, i ∉ r.map (·.1) → upd (l.set i a) r = (upd l r).set i a
  | [], _, _ => rfl
  | (j, b) :: r, l, h => by
    simp only [List.map_cons, List.mem_cons, not_or] at h
    rw [upd, upd, List.set_comm _ _ h.1, upd_set h.2]

theorem upd_comm {α : Type} : ∀ {r s : List (Nat × α)} {l : List α}, (∀ i ∈ r.map (·.1), i ∉ s.map (·.1)) → upd (upd l r) s = upd (upd l s) r
  | [], _, _, _ => rfl
  | (j, b) :: r, s, l, h => by
    rw [upd, upd_comm (r := r) fun i hi => h i (List.mem_cons_of_mem _ hi), upd_set (h j (List.mem_cons_self ..)), upd]

theorem next_comm {all : List Oper} {x y : Rec} {σ : St} (h : Rec.Apart all x y) : y.next (x.next σ) = x.next (y.next σ) := by
  obtain ⟨h1, h2, h3, h4, h5⟩ := h
  have htm : ∀ (u v : AV) (tm : List AV), (match y.o.dst with | some d => (match x.o.dst with | some d => tm.set d u | none => tm).set d v | none => (match x.o.dst with | some d => tm.set d u | none => tm)) =
      (match x.o.dst with | some d => (match y.o.dst with | some d => tm.set d v | none => tm).set d u | none => (match y.o.dst with | some d => tm.set d v | none => tm)) := fun u v tm => by
    cases hx : x.o.dst with
    | none => cases y.o.dst <;> rfl
    | some d => cases hy : y.o.dst with
      | none => rfl
      | some d' =>
        have hne : d ≠ d' := fun e => (h1 d hx).2 (by rw [hy, e])
        exact List.set_comm _ _ hne
  have hput : ∀ (σ : St) (u v : AV), (σ.put x.o.dst u).put y.o.dst v = (σ.put y.o.dst v).put x.o.dst u := fun σ u v => by
    cases hx : x.o.dst with
    | none => rfl
    | some d => cases hy : y.o.dst with
      | none => rfl
      | some d' =>
        have hne : d ≠ d' := fun e => (h1 d hx).2 (by rw [hy, e])
        simp only [St.put, St.mk.injEq, and_true]
        exact List.set_comm _ _ hne
  have hph : ∀ (σ : St) (d : Option Nat) (u : AV) (hp : List Blk), ({ (σ.put d u) with hp := hp } : St) = ({ σ with hp := hp } : St).put d u := fun σ d u hp => by cases d <;> rfl
  unfold Rec.next
  unfold Rec.fps at h5
  cases hx : x.run <;> cases hy : y.run <;> simp only [hx, hy] at h5 ⊢
  · exact hput _ _ _
  · unfold St.app
    rw [put_hp, hph, hput]
  · unfold St.app
    rw [put_hp, hph, hput]
  · unfold St.app
    simp only [put_hp, hph, updHp_upd]
    rw [hput, upd_comm h5]

theorem chain_front {all : List Oper} {x : Rec} {B : List Rec} {σ' : St} : ∀ {A : List Rec} {σ : St}, Chain all σ (A ++ x :: B) σ' → (∀ y ∈ A, Rec.Apart all y x) → x.Pre all σ ∧ Chain all (x.next σ) (A ++ B) σ'
  | [], σ, h, _ => by cases h with | cons h1 h2 => exact ⟨h1, h2⟩
  | y :: A, σ, h, hA => by
    cases h with
    | cons h1 h2 =>
      obtain ⟨g1, g2⟩ := chain_front h2 fun z hz => hA z (by simp [hz])
      have hap := hA y (by simp)
      have hap' := hap
      obtain ⟨a1, a2, a3, a4, a5⟩ := hap
      refine ⟨(pre_frame (fun d hd => (a1 d hd).1) a3).1 g1, .cons ((pre_frame a2 a4).2 h1) ?_⟩
      rw [← next_comm hap']
      exact g2

/-- One waits for the other, directly or through others. -/
inductive Way (ops : Array Oper) : Nat → Nat → Prop
  | one {i j : Nat} {o : Oper} {e : Edge} (h : ops[j]? = some o) (he : e ∈ o.after) (hb : Region.binds .any e = true) (hi : e.on = i) : Way ops i j
  | step {i j : Nat} {o : Oper} {e : Edge} (h : ops[j]? = some o) (he : e ∈ o.after) (hb : Region.binds .any e = true) (t : Way ops i e.on) : Way ops i j

theorem reachB_way {ops : Array Oper} : ∀ {f y x : Nat}, reachB ops.toList f y x = true → Way ops y x
  | 0, _, _, h => by cases h
  | f + 1, y, x, h => by
    unfold reachB at h
    split at h
    · rename_i o ho
      rw [Array.getElem?_toList] at ho
      simp only [List.any_eq_true, Bool.and_eq_true, Bool.or_eq_true] at h
      obtain ⟨e, he, hb, h⟩ := h
      rcases h with h | ⟨_, h⟩
      · exact .one ho (by simpa using he) hb (Nat.eq_of_beq_eq_true h)
      · exact .step ho (by simpa using he) hb (reachB_way h)
    · cases h

theorem getD_true {l : Array Bool} {i : Nat} (h : l.getD i false = true) : l.getD i true = true := by
  rw [Array.getD_eq_getD_getElem?] at h ⊢
  cases hg : l[i]? with
  | none => rw [hg] at h; cases h
  | some b => rw [hg] at h; exact h

theorem chain_wpAny {P : Program} {T : Tab} {C : Ctx} (hC : C.m = T.m) {ops : Array Oper} {Q : Exit → Act → World → Prop} {σ' : St} (hQ : ∀ a' w' loc', RelSt C σ' a' w' loc' → Q .normal a' w') (fr : Option Nat) (mm : Nat) :
    ∀ {fuel : Nat} {L : List Rec} {listed : Array Bool} {σ : St} {a : Act} {w : World} {loc : List Loc}, RelSt C σ a w loc → Chain ops.toList σ L σ' → (∀ x ∈ L, RecOK P T x) → L.length ≤ fuel →
      (∀ x ∈ L, ops[x.i]? = some x.o) → listed.size = ops.size → (∀ i, i < ops.size → (listed.getD i true = false ↔ ∃ x ∈ L, x.i = i)) → L.Pairwise (fun y x => y.i < x.i ∧ (Way ops y.i x.i ∨ Rec.Apart ops.toList y x)) →
      (∀ (j : Nat) o, ops[j]? = some o → listed.getD j true = true → ∀ e ∈ o.after, Region.binds .any e = true → listed.getD e.on true = true) →
      (∀ x ∈ L, ∀ e ∈ x.o.after, Region.binds .any e = true → e.on < x.i) → wpAnyIn (ro fr) mm P .any ops Q fuel listed a w := by
  intro fuel
  induction fuel with
  | zero =>
    intro L listed σ a w loc hr hch hok hlen hops hsz hli hpw hclo hord
    have : L = [] := List.eq_nil_of_length_eq_zero (by omega)
    subst this
    cases hch
    refine ⟨List.eq_nil_iff_forall_not_mem.2 fun i hi => ?_, hQ _ _ _ hr⟩
    obtain ⟨h1, o, h2, _⟩ := mem_ready.1 hi
    have hlt : i < ops.size := (Array.getElem?_eq_some_iff.1 h2).1
    obtain ⟨x, hx, _⟩ := (hli i hlt).1 h1
    simp at hx
  | succ fuel ih =>
    intro L listed σ a w loc hr hch hok hlen hops hsz hli hpw hclo hord
    refine ⟨fun hready => ?_, fun i hi => ?_⟩
    · cases L with
      | nil => cases hch; exact hQ _ _ _ hr
      | cons x B =>
        exfalso
        have hxi := hops x (by simp)
        have hlt : x.i < ops.size := (Array.getElem?_eq_some_iff.1 hxi).1
        have : x.i ∈ Region.ready .any ops listed := mem_ready.2 ⟨(hli x.i hlt).2 ⟨x, by simp, rfl⟩, x.o, hxi, fun e he hb => by
          have hlt2 := hord x (by simp) e he hb
          have h3 : ¬ (listed.getD e.on true = false) := fun h4 => by
            obtain ⟨z, hz, hz2⟩ := (hli e.on (by omega)).1 h4
            rcases List.mem_cons.1 hz with rfl | hz
            · omega
            · have := ((List.pairwise_cons.1 hpw).1 z hz).1
              omega
          have h5 : e.on < listed.size := by omega
          simpa [Array.getD_eq_getD_getElem?, h5] using h3⟩
        rw [hready] at this
        simp at this
    · obtain ⟨h1, o, h2, h3⟩ := mem_ready.1 hi
      have hlt : i < ops.size := (Array.getElem?_eq_some_iff.1 h2).1
      obtain ⟨x, hx, rfl⟩ := (hli i hlt).1 h1
      have hxo := hops x hx
      rw [h2] at hxo
      cases hxo
      obtain ⟨A, B, rfl⟩ := List.append_of_mem hx
      have hpw2 := List.pairwise_append.1 hpw
      have hA : ∀ y ∈ A, Rec.Apart ops.toList y x := fun y hy => by
        rcases (hpw2.2.2 y hy x (by simp)).2 with hway | h
        · exfalso
          have way : ∀ {i j : Nat}, Way ops i j → listed.getD j true = true → listed.getD i true = true := fun {i j} h => by
            induction h with
            | one h he hb hi => intro hj; subst hi; exact hclo _ _ h hj _ he hb
            | step h he hb t ih => intro hj; exact ih (hclo _ _ h hj _ he hb)
          have h6 : listed.getD y.i true = true := by
            cases hway with
            | one h he hb hi =>
              rw [h2] at h; cases h
              rw [← hi]
              exact getD_true (h3 _ he hb)
            | step h he hb t =>
              rw [h2] at h; cases h
              exact way t (getD_true (h3 _ he hb))
          have hyo := hops y (by simp [hy])
          have hylt : y.i < ops.size := (Array.getElem?_eq_some_iff.1 hyo).1
          have h7 := (hli y.i hylt).2 ⟨y, by simp [hy], rfl⟩
          rw [h6] at h7; cases h7
        · exact h
      obtain ⟨hpre, hch2⟩ := chain_front hch hA
      have hnex : ∀ z ∈ A ++ B, z.i ≠ x.i := fun z hz e => by
        rcases List.mem_append.1 hz with hz | hz
        · have := (hpw2.2.2 z hz x (by simp)).1; omega
        · have := ((List.pairwise_cons.1 hpw2.2.1).1 z hz).1; omega
      have hsub : ∀ z ∈ A ++ B, z ∈ A ++ x :: B := fun z hz => by
        rcases List.mem_append.1 hz with hz | hz
        · simp [hz]
        · simp [hz]
      have hstep := Rec.step (P := P) (T := T) (K := wpAnyIn (ro fr) mm P .any ops Q fuel (listed.setIfInBounds x.i true)) (Q := Q) hC hr (hok x hx) hpre (fun a' w' loc' hr' => by
        refine ih hr' hch2 (fun z hz => hok z (hsub z hz)) (by simp at hlen ⊢; omega) (fun z hz => hops z (hsub z hz)) (by simpa using hsz) (fun j hj => ?_) ?_ ?_ (fun z hz => hord z (hsub z hz))
        · by_cases hji : x.i = j
          · subst hji
            have : (listed.setIfInBounds x.i true).getD x.i true = true := by simp [Array.getD_eq_getD_getElem?, hsz, hj]
            rw [this]
            constructor
            · intro h; cases h
            · rintro ⟨z, hz, h⟩; exact absurd h (hnex z hz)
          · have : (listed.setIfInBounds x.i true).getD j true = listed.getD j true := getD_set_ne true hji
            rw [this, hli j hj]
            constructor
            · rintro ⟨z, hz, h⟩
              rcases List.mem_append.1 hz with hz | hz
              · exact ⟨z, by simp [hz], h⟩
              · rcases List.mem_cons.1 hz with rfl | hz
                · exact absurd h hji
                · exact ⟨z, by simp [hz], h⟩
            · rintro ⟨z, hz, h⟩; exact ⟨z, hsub z hz, h⟩
        · exact List.pairwise_append.2 ⟨hpw2.1, (List.pairwise_cons.1 hpw2.2.1).2, fun y hy z hz => hpw2.2.2 y hy z (by simp [hz])⟩
        · intro j o hj hl e he hb
          have up : ∀ k, listed.getD k true = true → (listed.setIfInBounds x.i true).getD k true = true := fun k hk => by
            by_cases hkx : x.i = k
            · subst hkx
              have : (listed.setIfInBounds x.i true).getD x.i true = true := by simp [Array.getD_eq_getD_getElem?, hsz, hlt]
              exact this
            · rw [getD_set_ne true hkx]; exact hk
          by_cases hjx : x.i = j
          · subst hjx
            rw [h2] at hj; cases hj
            exact up _ (getD_true (h3 e he hb))
          · rw [getD_set_ne true hjx] at hl
            exact up _ (hclo j o hj hl e he hb)) fr mm
      unfold wpOpIn
      rw [h2]
      exact hstep

theorem disjoint_spec {a b : List Nat} (h : disjoint a b = true) : ∀ i ∈ a, i ∉ b := fun i hi hb => by
  have := List.all_eq_true.1 h i hi
  simp [hb] at this

theorem apart_rec {all : List Oper} {x y : Rec} (h : apart all x.o y.o x.fps y.fps = true) : Rec.Apart all x y := by
  unfold apart at h
  simp only [Bool.and_eq_true] at h
  obtain ⟨h1, h2, h3, h4, h5⟩ := h
  refine ⟨fun d hd => ?_, fun d hd => ?_, disjoint_spec h3, disjoint_spec h4, disjoint_spec h5⟩
  · simp only [hd, Bool.and_eq_true] at h1
    refine ⟨by simpa using h1.1, fun e => ?_⟩
    simp [e] at h1
  · simp only [hd] at h2
    simpa using h2

theorem zip3_mem {x : Rec} : ∀ {L : List Rec} {n : Nat}, (∀ (j : Nat) y, L[j]? = some y → y.i = n + j) → x ∈ L → (x.o, x.fps, x.i) ∈ zip3 (L.map (·.o)) (L.map Rec.fps) n
  | [], _, _, h => by simp at h
  | y :: L, n, hi, h => by
    simp only [List.map_cons, zip3, List.mem_cons]
    rcases List.mem_cons.1 h with rfl | h
    · left; rw [hi 0 x rfl]; rfl
    · right; exact zip3_mem (fun j z hz => by have := hi (j + 1) z (by simpa using hz); omega) h

theorem apartAll_spec {ops : Array Oper} : ∀ {L : List Rec} {n : Nat}, (∀ (j : Nat) y, L[j]? = some y → y.i = n + j) → (∀ x ∈ L, ops[x.i]? = some x.o) → apartAll ops.toList (zip3 (L.map (·.o)) (L.map Rec.fps) n) = true →
    L.Pairwise (fun y x => y.i < x.i ∧ (Way ops y.i x.i ∨ Rec.Apart ops.toList y x))
  | [], _, _, _, _ => List.Pairwise.nil
  | y :: L, n, hi, hops, h => by
    simp only [List.map_cons, zip3, apartAll, Bool.and_eq_true] at h
    have hi' : ∀ (j : Nat) z, L[j]? = some z → z.i = n + 1 + j := fun j z hz => by have := hi (j + 1) z (by simpa using hz); omega
    have hy0 : y.i = n := hi 0 y rfl
    refine List.pairwise_cons.2 ⟨fun x hx => ⟨?_, ?_⟩, apartAll_spec hi' (fun x hx => hops x (by simp [hx])) h.2⟩
    · obtain ⟨j, hj⟩ := List.mem_iff_getElem?.1 hx
      have := hi' j x hj
      omega
    · have h2 := List.all_eq_true.1 h.1 _ (zip3_mem hi' hx)
      simp only [Bool.or_eq_true, List.any_eq_true, Bool.and_eq_true] at h2
      rcases h2 with ⟨e, he, h3, h4⟩ | h2 | h2
      · exact .inl (.one (hops x (by simp [hx])) (by simpa using he) h4 ((Nat.eq_of_beq_eq_true h3).trans hy0.symm))
      · exact .inr (apart_rec h2)
      · rw [← hy0] at h2; exact .inl (reachB_way h2)

theorem ordAll_spec : ∀ {L : List Rec} {n : Nat}, (∀ (j : Nat) y, L[j]? = some y → y.i = n + j) → ordAll (L.map (·.o)) n = true → ∀ x ∈ L, ∀ e ∈ x.o.after, Region.binds .any e = true → e.on < x.i
  | [], _, _, _, x, hx, _, _, _ => by simp at hx
  | y :: L, n, hi, h, x, hx, e, he, hb => by
    simp only [List.map_cons, ordAll, Bool.and_eq_true] at h
    rcases List.mem_cons.1 hx with rfl | hx
    · have := List.all_eq_true.1 h.1 e (by simpa using he)
      simp only [hb, Bool.not_true, Bool.false_or] at this
      have h0 := hi 0 x rfl
      have := Nat.le_of_ble_eq_true this
      omega
    · exact ordAll_spec (fun j z hz => by have := hi (j + 1) z (by simpa using hz); omega) h.2 x hx e he hb

theorem region_ok {P : Program} {T : Tab} (hG : Good P T) (hm : P.follows .mixedOrders = true) {id : Nat} {ops : Array Oper} {draw : Bool} {σ : St} {ρ : Type} {k : St → Option ρ} {r : ρ} (h : evRegion T ops.toList draw σ k = some r) :
    ∃ σ', k σ' = some r ∧ ∀ (fr : Option Nat) (mm : Nat) (C : Ctx) (a : Act) (w : World) (loc : List Loc) (Q : Exit → Act → World → Prop), C.m = T.m → RelSt C σ a w loc →
      (∀ a' w' loc', RelSt C σ' a' w' loc' → Q .normal a' w') → (Code.region id ops draw).wpIn (ro fr) mm P Q a w := by
  unfold evRegion at h
  obtain ⟨L, σ', h1, h2, h3, h4, h5⟩ := evOps_chain hG (n := 0) h
  cases draw with
  | false =>
    refine ⟨σ', h5, fun fr mm C a w loc Q hC hr hQ => wpIn_region_list ?_⟩
    rw [← h1]
    exact chain_wpList hC hQ fr mm (hr.room _) h2 h3
  | true =>
    obtain ⟨h6, h7⟩ := cond_none h5
    simp only [List.append_nil, List.reverse_reverse, Bool.and_eq_true] at h6
    refine ⟨σ', h7, fun fr mm C a w loc Q hC hr hQ => wpIn_region_any hm ?_⟩
    have hlen : L.length = ops.size := by rw [← Array.length_toList, ← h1]; simp
    have hget : ∀ (j : Nat), j < L.length → ∃ x, L[j]? = some x ∧ x.i = j := fun j hj => ⟨L[j], by simp [hj], by have := h4 j L[j] (by simp [hj]); omega⟩
    have hidx : ∀ x ∈ L, ∃ j, L[j]? = some x ∧ x.i = j := fun x hx => by
      obtain ⟨j, hj⟩ := List.mem_iff_getElem?.1 hx
      exact ⟨j, hj, by have := h4 j x hj; omega⟩
    have hopsL : ∀ x ∈ L, ops[x.i]? = some x.o := fun x hx => by
      obtain ⟨j, hj, hji⟩ := hidx x hx
      rw [hji, ← Array.getElem?_toList, ← h1, List.getElem?_map, hj]; rfl
    refine chain_wpAny hC hQ fr mm (L := L) ((hr.room _).grow (Keep.drew w)) h2 h3 (by omega) hopsL (by simp) (fun i hi => ?_) (apartAll_spec (n := 0) h4 hopsL (by rw [h1]; exact h6.1)) (fun j o hj hl e he hb => ?_) (ordAll_spec (n := 0) h4 (by rw [h1]; exact h6.2))
    · constructor
      · intro _
        obtain ⟨x, hx, hxi⟩ := hget i (by omega)
        exact ⟨x, List.mem_of_getElem? hx, hxi⟩
      · intro _
        simp [Array.getD_eq_getD_getElem?, hi]
    · have hjlt : j < ops.size := (Array.getElem?_eq_some_iff.1 hj).1
      simp [Array.getD_eq_getD_getElem?, hjlt] at hl

end Go.Ull
