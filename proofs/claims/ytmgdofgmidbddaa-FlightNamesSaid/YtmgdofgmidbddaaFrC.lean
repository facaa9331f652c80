/- What an abstract state says of the model's frame and world. -/
import Derived.Test.YtmgdofgmidbddaaFrB
namespace Go.Ull
open Go.RowKit

inductive Loc where
  | none
  | blk (b : Nat)
  | vc (ver : Nat) (b : Option Nat) (len cap : Nat)

def Loc.at : Loc → Option Nat
  | .blk b => some b
  | .vc _ b _ _ => b
  | .none => Option.none

/-- What becomes of a place: a box stays, a growable slice may become a newer one. -/
def Loc.Le : Loc → Loc → Prop
  | .blk b, l => l = .blk b
  | .vc n b k c, l => l = .vc n b k c ∨ ∃ n' b' k' c', n < n' ∧ l = .vc n' b' k' c'
  | .none, _ => True

theorem Loc.Le.refl (l : Loc) : l.Le l := by cases l <;> simp [Loc.Le]

def Loc.Kin : Loc → Loc → Prop
  | .blk b, l => l = .blk b
  | .vc _ _ _ _, l => ∃ n' b' k' c', l = .vc n' b' k' c'
  | .none, _ => True

theorem Loc.Kin.refl (l : Loc) : l.Kin l := by cases l <;> simp [Loc.Kin]

inductive RelV (w : World) (X : Nat → Nat → Prop) (loc : List Loc) : AV → Value → Prop
  | undef (v : Value) : RelV w X loc .undef v
  | bool (b : Bool) : RelV w X loc (.bool b) (.bool b)
  | int (k : IntKind) (n : Int) : RelV w X loc (.int k n) (.int k n)
  | agg (cs : List AV) (vs : Array Value) (h : cs.length = vs.size) (r : ∀ i c, cs[i]? = some c → RelV w X loc c (vs.getD i Go.undef)) :
      RelV w X loc (.agg cs) (.agg vs)
  | tuple (cs : List AV) (vs : Array Value) (h : cs.length = vs.size) (r : ∀ i c, cs[i]? = some c → RelV w X loc c (vs.getD i Go.undef)) :
      RelV w X loc (.tuple cs) (.tuple vs)
  | lst (t : ElT) (xs : List (El t)) (base : Option Addr) (len cap b o : Nat) (cv : Nat → Nat → Value) (hn : len = xs.length) (hc : len ≤ cap)
      (hb : 0 < len → base = some ⟨b, o, Option.none⟩)
      (h : ∀ i x j c, xs[i]? = some x → (enc t x)[j]? = some c → w.cell? ⟨b, o + i * sz t + j, Option.none⟩ = some (cv i j) ∧ ¬ X b (o + i * sz t + j))
      (r : ∀ i x j c, xs[i]? = some x → (enc t x)[j]? = some c → RelV w X loc c (cv i j)) :
      RelV w X loc (.lst t xs) (.slice base len cap)
  | nils (base : Option Addr) : RelV w X loc .nils (.slice base 0 0)
  | gro (i n c : Nat) (b : Option Nat) (len cap : Nat) (s : Option Addr) (len' cap' : Nat) (h : loc[i]? = some (.vc c b len cap)) (hle : n ≤ c)
      (hv : n = c → s = b.map (fun b => ⟨b, 0, Option.none⟩) ∧ len' = len ∧ cap' = cap) : RelV w X loc (.gro i n) (.slice s len' cap')
  | eptr (cs : List AV) (b o : Nat) (cv : Nat → Value)
      (h : ∀ i c, cs[i]? = some c → w.cell? ⟨b, o + i, Option.none⟩ = some (cv i) ∧ ¬ X b (o + i))
      (r : ∀ i c, cs[i]? = some c → RelV w X loc c (cv i)) :
      RelV w X loc (.eptr cs) (.pointer (some ⟨b, o, Option.none⟩))
  | bsl (i n b : Nat) (t : ElT) (h : loc[i]? = some (.blk b)) : RelV w X loc (.bsl i n t) (.slice (some ⟨b, 0, Option.none⟩) n n)
  | ptr (i b o : Nat) (h : loc[i]? = some (.blk b)) : RelV w X loc (.ptr i o) (.pointer (some ⟨b, o, Option.none⟩))
  | nilp : RelV w X loc .nilp (.pointer Option.none)
  | fn (f : Fn) (a b : List AV) (a' b' : Array Value) (ha : a.length = a'.size) (ra : ∀ i c, a[i]? = some c → RelV w X loc c (a'.getD i Go.undef))
      (hb : b.length = b'.size) (rb : ∀ i c, b[i]? = some c → RelV w X loc c (b'.getD i Go.undef)) : RelV w X loc (.fn f a b) (.func f a' b')
  | nilfn : RelV w X loc .nilfn .nilFunc
  | iface (t : TypeId) (v : AV) (v' : Value) (r : RelV w X loc v v') : RelV w X loc (.iface t v) (.iface t v')
  | niliface : RelV w X loc .niliface .nilIface

theorem RelV.mono' {w w' : World} {X X' : Nat → Nat → Prop} {loc loc' : List Loc}
    (hl : ∀ (i : Nat) l, loc[i]? = some l → l ≠ .none → ∃ l', loc'[i]? = some l' ∧ l.Le l')
    (hc : ∀ b o v, w.cell? ⟨b, o, none⟩ = some v → ¬ X b o → w'.cell? ⟨b, o, none⟩ = some v ∧ ¬ X' b o)
    {a : AV} {v : Value} (h : RelV w X loc a v) : RelV w' X' loc' a v := by
  induction h with
  | undef v => exact .undef v
  | bool b => exact .bool b
  | int k n => exact .int k n
  | agg cs vs h r ih => exact .agg cs vs h ih
  | tuple cs vs h r ih => exact .tuple cs vs h ih
  | lst t xs base len cap b o cv hn hc' hb h r ih =>
    exact .lst t xs base len cap b o cv hn hc' hb (fun i x j c hi hj => hc _ _ _ (h i x j c hi hj).1 (h i x j c hi hj).2) ih
  | nils base => exact .nils base
  | gro i n c b len cap s len' cap' h hle hv =>
    obtain ⟨l', h1, h2⟩ := hl _ _ h (by intro e; cases e)
    rcases h2 with rfl | ⟨n', b', k', c2, h3, rfl⟩
    · exact .gro i n c b len cap s len' cap' h1 hle hv
    · exact .gro i n n' b' k' c2 s len' cap' h1 (by omega) (fun e => by omega)
  | eptr cs b o cv h r ih => exact .eptr cs b o cv (fun i c hi => hc _ _ _ (h i c hi).1 (h i c hi).2) ih
  | ptr i b o h =>
    obtain ⟨l', h1, h2⟩ := hl _ _ h (by intro e; cases e)
    cases (h2 : l' = _)
    exact .ptr i b o h1
  | bsl i n b t h =>
    obtain ⟨l', h1, h2⟩ := hl _ _ h (by intro e; cases e)
    cases (h2 : l' = _)
    exact .bsl i n b t h1
  | nilp => exact .nilp
  | fn f a b a' b' ha ra hb rb iha ihb => exact .fn f a b a' b' ha iha hb ihb
  | nilfn => exact .nilfn
  | iface t v v' r ih => exact .iface t v v' ih
  | niliface => exact .niliface

theorem RelV.mono {w w' : World} {X X' : Nat → Nat → Prop} {loc loc' : List Loc}
    (hl : ∀ (i : Nat) l, loc[i]? = some l → l ≠ .none → loc'[i]? = some l)
    (hc : ∀ b o v, w.cell? ⟨b, o, none⟩ = some v → ¬ X b o → w'.cell? ⟨b, o, none⟩ = some v ∧ ¬ X' b o)
    {a : AV} {v : Value} (h : RelV w X loc a v) : RelV w' X' loc' a v :=
  h.mono' (fun i l h1 h2 => ⟨l, hl i l h1 h2, .refl l⟩) hc

/-- Which cells a block of the abstract heap lets one write. -/
def zone : Blk → Loc → Nat → Nat → Prop
  | .box _ false, .blk b', b, _ => b = b'
  | .vec _ t _, .vc _ (some b') len _, b, o => b = b' ∧ len * sz t ≤ o
  | _, _, _, _ => False

def auth (hp : List Blk) (loc : List Loc) (b o : Nat) : Prop := ∃ (i : Nat) (k : Blk) (l : Loc), hp[i]? = some k ∧ loc[i]? = some l ∧ zone k l b o

structure Ctx where
  w0 : World
  X0 : Nat → Nat → Prop
  A0 : Nat → Nat → Prop
  m : Nat
  loc0 : List Loc
  x0 : ∀ b o, X0 b o → b < w0.heap.size
  xa : ∀ b o, X0 b o → ¬ A0 b o

def Ctx.X (C : Ctx) (hp : List Blk) (loc : List Loc) (b o : Nat) : Prop := C.X0 b o ∨ auth hp loc b o

/-- What was there is there still, but for the cells of A. -/
structure Keep (A : Nat → Nat → Prop) (w w' : World) : Prop where
  os : w'.os = w.os
  tape : w'.tape = w.tape
  output : w'.output = w.output
  size : w.heap.size ≤ w'.heap.size
  block : ∀ b, b < w.heap.size → w'.heap[b]? = w.heap[b]? ∨
    ∃ c c' ty, w.heap[b]? = some (.cells c ty (0, 0)) ∧ w'.heap[b]? = some (.cells c' ty (0, 0)) ∧ c'.size = c.size ∧ ∀ o, ¬ A b o → c'[o]? = c[o]?

theorem Keep.refl (A : Nat → Nat → Prop) (w : World) : Keep A w w := ⟨rfl, rfl, rfl, Nat.le_refl _, fun _ _ => .inl rfl⟩

theorem Keep.trans {A B : Nat → Nat → Prop} {w w' w'' : World} (h : Keep A w w') (k : Keep B w' w'') (hAB : ∀ b o, b < w.heap.size → B b o → A b o) : Keep A w w'' := by
  refine ⟨k.os.trans h.os, k.tape.trans h.tape, k.output.trans h.output, Nat.le_trans h.size k.size, fun b hb => ?_⟩
  rcases h.block b hb with h1 | ⟨c, c', ty, h1, h2, h3, h4⟩
  · rcases k.block b (Nat.lt_of_lt_of_le hb h.size) with k1 | ⟨d, d', ty', k1, k2, k3, k4⟩
    · exact .inl (k1.trans h1)
    · exact .inr ⟨d, d', ty', h1 ▸ k1, k2, k3, fun o ho => k4 o fun hB => ho (hAB b o hb hB)⟩
  · rcases k.block b (Nat.lt_of_lt_of_le hb h.size) with k1 | ⟨d, d', ty', k1, k2, k3, k4⟩
    · exact .inr ⟨c, c', ty, h1, k1.trans h2, h3, h4⟩
    · rw [h2] at k1
      cases k1
      exact .inr ⟨c, d', ty, h1, k2, k3.trans h3, fun o ho => (k4 o fun hB => ho (hAB b o hb hB)).trans (h4 o ho)⟩

theorem Keep.cell {A : Nat → Nat → Prop} {w w' : World} (h : Keep A w w') {b o : Nat} {v : Value} (hv : w.cell? ⟨b, o, none⟩ = some v) (hA : ¬ A b o) :
    w'.cell? ⟨b, o, none⟩ = some v := by
  have hb : b < w.heap.size := by
    rcases Nat.lt_or_ge b w.heap.size with h | h
    · exact h
    · simp [World.cell?, Array.getElem?_eq_none h] at hv
  rcases h.block b hb with h1 | ⟨c, c', ty, h1, h2, h3, h4⟩
  · simpa [World.cell?, h1] using hv
  · simp only [World.cell?, h1, h2, Option.isSome_none, Bool.false_eq_true, if_false] at hv ⊢
    rw [h4 o hA]; exact hv

theorem Keep.to_below {w w' : World} (h : Keep (fun _ _ => False) w w') : Below w.heap.size w w' :=
  ⟨h.os, h.tape, h.output, h.size, fun b hb => by
    rcases h.block b hb with h1 | ⟨c, c', ty, h1, h2, h3, h4⟩
    · exact h1
    · have : c' = c := Array.ext_getElem? fun i => h4 i (fun f => f)
      rw [h1, h2, this]⟩

def BlkOK (w : World) (X : Nat → Nat → Prop) (loc : List Loc) : Blk → Loc → Prop
  | .dead, l => l = .none
  | .box cs ro, .blk b => ∃ c ty, w.heap[b]? = some (.cells c ty (0, 0)) ∧ c.size = cs.length ∧ (∀ i x, cs[i]? = some x → RelV w X loc x (c.getD i Go.undef)) ∧
      (ro = true → ∀ o, o < cs.length → ¬ X b o)
  | .vec n t xs, .vc m b len cap => n = m ∧ len = xs.length ∧ len ≤ cap ∧ (b = none → cap = 0) ∧ ∀ b', b = some b' →
      ∃ c ty, w.heap[b']? = some (.cells c ty (0, 0)) ∧ cap * sz t ≤ c.size ∧
        (∀ i x j y, xs[i]? = some x → (enc t x)[j]? = some y → RelV w X loc y (c.getD (i * sz t + j) Go.undef)) ∧ ∀ o, o < len * sz t → ¬ X b' o
  | _, _ => False

/-- The marks that loops over functions have left among the deferred calls. -/
def Marks (n : Nat) (w : World) (ds : List Deferred) : Prop :=
  ds.Nodup ∧ ∀ d ∈ ds, ∃ D, d = { target := .collected D, args := #[] } ∧ n ≤ D ∧ w.heap[D]? = some (.deferred (some []))

theorem Marks.nil {n : Nat} {w : World} : Marks n w [] := ⟨List.nodup_nil, fun d h => by simp at h⟩

theorem Marks.keep {n : Nat} {w w' : World} {ds : List Deferred} {A : Nat → Nat → Prop} (h : Marks n w ds) (hk : Keep A w w') : Marks n w' ds :=
  ⟨h.1, fun d hd => by
    obtain ⟨D, h1, h2, h3⟩ := h.2 d hd
    have hD : D < w.heap.size := by
      rcases Nat.lt_or_ge D w.heap.size with h' | h'
      · exact h'
      · simp [Array.getElem?_eq_none h'] at h3
    rcases hk.block D hD with h4 | ⟨c, c', ty, h4, _⟩
    · exact ⟨D, h1, h2, h4.trans h3⟩
    · rw [h3] at h4; cases h4⟩

structure RelSt (C : Ctx) (σ : St) (a : Act) (w : World) (loc : List Loc) : Prop where
  llen : loc.length = σ.hp.length
  mle : C.m ≤ σ.hp.length
  bor : ∀ (i : Nat) l, i < C.m → C.loc0[i]? = some l → ∃ l', loc[i]? = some l' ∧ l.Kin l'
  borv : ∀ (i : Nat) l b, i < C.m → loc[i]? = some l → l.at = some b → (C.loc0[i]?).bind Loc.at = some b ∨ C.w0.heap.size ≤ b
  fresh : ∀ (i : Nat) l b, C.m ≤ i → loc[i]? = some l → l.at = some b → C.w0.heap.size ≤ b
  keep : Keep C.A0 C.w0 w
  authA : ∀ b o, auth σ.hp loc b o → b < C.w0.heap.size → C.A0 b o
  dist : ∀ (i j : Nat) l l' b, i ≠ j → loc[i]? = some l → loc[j]? = some l' → l.at = some b → l'.at = some b → False
  hp : ∀ (i : Nat) k l, σ.hp[i]? = some k → loc[i]? = some l → BlkOK w (C.X σ.hp loc) loc k l
  tms : a.tmps.size = σ.tm.length
  tm : ∀ (t : Nat) v, σ.tm[t]? = some v → RelV w (C.X σ.hp loc) loc v (a.tmps.getD t Go.undef)
  defers : Marks C.w0.heap.size w a.defers

theorem getD_of_getElem? {α : Type} {a : Array α} {i : Nat} {d v : α} (h : a[i]? = some v) : a.getD i d = v := by
  simp [Array.getD_eq_getD_getElem?, h]

/-! ### Blocks and what is in them -/

theorem BlkOK.at_lt {w : World} {X : Nat → Nat → Prop} {loc : List Loc} {k : Blk} {l : Loc} (h : BlkOK w X loc k l) {b : Nat} (hb : l.at = some b) : b < w.heap.size := by
  have key : ∀ {b : Nat} {o : Obj}, w.heap[b]? = some o → b < w.heap.size := fun {b o} h => by
    rcases Nat.lt_or_ge b w.heap.size with h' | h'
    · exact h'
    · simp [Array.getElem?_eq_none h'] at h
  cases k with
  | dead => subst h; cases hb
  | box cs ro => cases l with
    | blk b' => cases hb; obtain ⟨c, ty, h1, _⟩ := h; exact key h1
    | _ => exact h.elim
  | vec n t xs => cases l with
    | vc m b' len cap =>
      obtain ⟨_, _, _, _, h4⟩ := h
      obtain ⟨c, ty, h1, _⟩ := h4 b hb
      exact key h1
    | _ => exact h.elim

theorem BlkOK.mono' {w w' : World} {X X' : Nat → Nat → Prop} {loc loc' : List Loc} {k : Blk} {l : Loc} (h : BlkOK w X loc k l)
    (hl : ∀ (i : Nat) l, loc[i]? = some l → l ≠ .none → ∃ l', loc'[i]? = some l' ∧ l.Le l')
    (hc : ∀ b o v, w.cell? ⟨b, o, none⟩ = some v → ¬ X b o → w'.cell? ⟨b, o, none⟩ = some v ∧ ¬ X' b o)
    (hb : ∀ b, l.at = some b → w'.heap[b]? = w.heap[b]?) : BlkOK w' X' loc' k l := by
  cases k with
  | dead => exact h
  | box cs ro => cases l with
    | blk b =>
      obtain ⟨c, ty, h1, h2, h3, h4⟩ := h
      refine ⟨c, ty, (hb b rfl).trans h1, h2, fun i x hi => (h3 i x hi).mono' hl hc, fun hr o ho => ?_⟩
      have hcell : w.cell? ⟨b, o, none⟩ = some (c[o]'(by omega)) := by simp [World.cell?, h1, h2, ho]
      exact (hc b o _ hcell (h4 hr o ho)).2
    | _ => exact h.elim
  | vec n t xs => cases l with
    | vc m b len cap =>
      obtain ⟨h0, h1, h2, h3, h4⟩ := h
      refine ⟨h0, h1, h2, h3, fun b' hb' => ?_⟩
      obtain ⟨c, ty, g1, g2, g3, g4⟩ := h4 b' hb'
      refine ⟨c, ty, (hb b' hb').trans g1, g2, fun i x j y hi hj => (g3 i x j y hi hj).mono' hl hc, fun o ho => ?_⟩
      have hlt : o < c.size := Nat.lt_of_lt_of_le ho (Nat.le_trans (Nat.mul_le_mul_right _ h2) g2)
      have hcell : w.cell? ⟨b', o, none⟩ = some c[o] := by simp [World.cell?, g1, hlt]
      exact (hc b' o _ hcell (g4 o ho)).2
    | _ => exact h.elim

theorem BlkOK.mono {w w' : World} {X X' : Nat → Nat → Prop} {loc loc' : List Loc} {k : Blk} {l : Loc} (h : BlkOK w X loc k l)
    (hl : ∀ (i : Nat) l, loc[i]? = some l → l ≠ .none → loc'[i]? = some l)
    (hc : ∀ b o v, w.cell? ⟨b, o, none⟩ = some v → ¬ X b o → w'.cell? ⟨b, o, none⟩ = some v ∧ ¬ X' b o)
    (hb : ∀ b, l.at = some b → w'.heap[b]? = w.heap[b]?) : BlkOK w' X' loc' k l :=
  h.mono' (fun i l h1 h2 => ⟨l, hl i l h1 h2, .refl l⟩) hc hb

theorem zone_at {k : Blk} {l : Loc} {b o : Nat} (h : zone k l b o) : l.at = some b := by
  unfold zone at h
  split at h
  · subst h; rfl
  · obtain ⟨rfl, _⟩ := h; rfl
  · exact h.elim

/-- The world may have new blocks. -/
theorem RelSt.grow {C : Ctx} {σ : St} {a : Act} {w w' : World} {loc : List Loc} (h : RelSt C σ a w loc) (hk : Keep (fun _ _ => False) w w') : RelSt C σ a w' loc := by
  have hbel := hk.to_below
  have hc : ∀ b o v, w.cell? ⟨b, o, none⟩ = some v → ¬ C.X σ.hp loc b o → w'.cell? ⟨b, o, none⟩ = some v ∧ ¬ C.X σ.hp loc b o :=
    fun b o v h1 h2 => ⟨hk.cell h1 (fun f => f), h2⟩
  refine ⟨h.llen, h.mle, h.bor, h.borv, h.fresh, h.keep.trans hk (fun _ _ _ f => f.elim), h.authA, h.dist, fun i k l hi hl => ?_, h.tms, fun t v hv => (h.tm t v hv).mono (fun _ _ h _ => h) hc, h.defers.keep hk⟩
  exact (h.hp i k l hi hl).mono (fun _ _ h _ => h) hc fun b hb => hbel.block b ((h.hp i k l hi hl).at_lt hb)

theorem Keep.alloc (w : World) (o : Obj) : Keep (fun _ _ => False) w (w.alloc o) :=
  ⟨rfl, rfl, rfl, by simp, fun b hb => .inl (Below.heap_alloc _ _ _ hb)⟩

theorem Keep.drew (w : World) : Keep (fun _ _ => False) w w.drew := ⟨rfl, rfl, rfl, Nat.le_refl _, fun _ _ => .inl rfl⟩

/-- A value into a temporary. -/
theorem RelSt.put {C : Ctx} {σ : St} {a : Act} {w : World} {loc : List Loc} (h : RelSt C σ a w loc) {v : AV} {x : Value} (hv : RelV w (C.X σ.hp loc) loc v x) (d : Option Nat) :
    RelSt C (σ.put d v) (a.put d x) w loc := by
  cases d with
  | none => exact h
  | some d =>
    refine ⟨h.llen, h.mle, h.bor, h.borv, h.fresh, h.keep, h.authA, h.dist, h.hp, by simp [Act.put, St.put, h.tms], fun t u hu => ?_, h.defers⟩
    simp only [St.put, List.getElem?_set] at hu
    show RelV w (C.X σ.hp loc) loc u _
    split at hu
    · rename_i hdt
      subst hdt
      split at hu
      · rename_i hlt
        cases hu
        have : (a.put (some d) x).tmps[d]? = some x := by simp [Act.put, h.tms, hlt]
        rw [getD_of_getElem? this]; exact hv
      · cases hu
    · rename_i hdt
      have : (a.put (some d) x).tmps.getD t Go.undef = a.tmps.getD t Go.undef := by
        simp only [Act.put, Array.getD_eq_getD_getElem?]
        rw [Array.getElem?_setIfInBounds_ne hdt]
      rw [this]; exact h.tm t u hu

theorem auth_set_dead {hp : List Blk} {loc : List Loc} {i : Nat} {k : Blk} {l : Loc} {b o : Nat} :
    auth (hp.set i k) (loc.set i l) b o → (zone k l b o) ∨ auth hp loc b o := by
  rintro ⟨j, k', l', h1, h2, h3⟩
  by_cases hij : i = j
  · subst hij
    rw [List.getElem?_set] at h1 h2
    simp only [if_true] at h1 h2
    split at h1
    · split at h2
      · cases h1; cases h2; exact .inl h3
      · cases h2
    · cases h1
  · rw [List.getElem?_set_ne hij] at h1 h2
    exact .inr ⟨j, k', l', h1, h2, h3⟩

theorem auth_set_old {hp : List Blk} {loc : List Loc} {i : Nat} {k : Blk} {l : Loc} (hd : loc[i]? = some .none) {b o : Nat} :
    auth hp loc b o → auth (hp.set i k) (loc.set i l) b o := by
  rintro ⟨j, k', l', h1, h2, h3⟩
  by_cases hij : i = j
  · subst hij
    rw [hd] at h2; cases h2
    exact (by have := zone_at h3; cases this)
  · exact ⟨j, k', l', by rw [List.getElem?_set_ne hij]; exact h1, by rw [List.getElem?_set_ne hij]; exact h2, h3⟩

/-- A new box. -/
theorem RelSt.newBox {C : Ctx} {σ : St} {a : Act} {w : World} {loc : List Loc} (h : RelSt C σ a w loc) {s : Nat} (hs : σ.hp[s]? = some .dead) (hm : C.m ≤ s)
    {cs : List AV} {c : Array Value} (ty : TypeId) (hn : c.size = cs.length) (hr : ∀ i x, cs[i]? = some x → RelV w (C.X σ.hp loc) loc x (c.getD i Go.undef)) :
    RelSt C { σ with hp := σ.hp.set s (.box cs false) } a (w.alloc (.cells c ty)) (loc.set s (.blk w.heap.size)) := by
  have hslt : s < σ.hp.length := by
    rcases Nat.lt_or_ge s σ.hp.length with h' | h'
    · exact h'
    · simp [List.getElem?_eq_none h'] at hs
  have hls : loc[s]? = some .none := by
    have : s < loc.length := by rw [h.llen]; exact hslt
    have hl := h.hp s .dead loc[s] hs (by simp [this])
    simp only [BlkOK] at hl
    simp [this, hl]
  have hsl : s < loc.length := by rw [h.llen]; exact hslt
  have hw0 : C.w0.heap.size ≤ w.heap.size := h.keep.size
  have hl : ∀ (i : Nat) l, loc[i]? = some l → l ≠ .none → (loc.set s (.blk w.heap.size))[i]? = some l := fun i l hi hn => by
    by_cases his : s = i
    · subst his; rw [hls] at hi; cases hi; exact (hn rfl).elim
    · rw [List.getElem?_set_ne his]; exact hi
  have hX : ∀ b o, C.X (σ.hp.set s (.box cs false)) (loc.set s (.blk w.heap.size)) b o → b < w.heap.size → C.X σ.hp loc b o := fun b o hx hb => by
    rcases hx with hx | hx
    · exact .inl hx
    · rcases auth_set_dead hx with hz | hx
      · have := zone_at hz; simp only [Loc.at, Option.some.injEq] at this; omega
      · exact .inr hx
  have cell_lt : ∀ {b o : Nat} {v : Value}, w.cell? ⟨b, o, none⟩ = some v → b < w.heap.size := fun {b o v} hv => by
    rcases Nat.lt_or_ge b w.heap.size with h' | h'
    · exact h'
    · simp [World.cell?, Array.getElem?_eq_none h'] at hv
  have hc : ∀ b o v, w.cell? ⟨b, o, none⟩ = some v → ¬ C.X σ.hp loc b o →
      (w.alloc (.cells c ty)).cell? ⟨b, o, none⟩ = some v ∧ ¬ C.X (σ.hp.set s (.box cs false)) (loc.set s (.blk w.heap.size)) b o :=
    fun b o v h1 h2 => ⟨(Keep.alloc w (.cells c ty)).cell h1 (fun f => f), fun hx => h2 (hX b o hx (cell_lt h1))⟩
  have atlt : ∀ (i : Nat) l b, loc[i]? = some l → l.at = some b → b < w.heap.size := fun i l b hi hb => by
    have : i < σ.hp.length := by
      rw [← h.llen]
      rcases Nat.lt_or_ge i loc.length with h' | h'
      · exact h'
      · simp [List.getElem?_eq_none h'] at hi
    exact (h.hp i σ.hp[i] l (by simp [this]) hi).at_lt hb
  refine ⟨by simp [h.llen], by simp [h.mle], fun i ds hi hb => ?_, fun i l b hi hl' hb => ?_, fun i l b hi hl' hb => ?_, h.keep.trans (Keep.alloc w _) (fun _ _ _ f => f.elim), fun b o ha hb => ?_,
    fun i j l l' b hij hi hj hb hb' => ?_, fun i k l hi hl' => ?_, h.tms, fun t v hv => (h.tm t v hv).mono hl hc, h.defers.keep (Keep.alloc w (.cells c ty))⟩
  · rw [List.getElem?_set_ne (by omega)]
    exact h.bor i ds hi hb
  · rw [List.getElem?_set_ne (by omega)] at hl'
    exact h.borv i l b hi hl' hb
  · by_cases his : s = i
    · subst his
      rw [List.getElem?_set_self hsl] at hl'
      cases hl'; simp only [Loc.at, Option.some.injEq] at hb; omega
    · rw [List.getElem?_set_ne his] at hl'
      exact h.fresh i l b hi hl' hb
  · rcases auth_set_dead ha with hz | hx
    · have := zone_at hz; simp only [Loc.at, Option.some.injEq] at this; omega
    · exact h.authA b o hx hb
  · by_cases hsi : s = i
    · subst hsi
      rw [List.getElem?_set_self hsl] at hi
      rw [List.getElem?_set_ne hij] at hj
      cases hi; simp only [Loc.at, Option.some.injEq] at hb
      have := atlt j l' b hj hb'
      omega
    · rw [List.getElem?_set_ne hsi] at hi
      by_cases hsj : s = j
      · subst hsj
        rw [List.getElem?_set_self hsl] at hj
        cases hj; simp only [Loc.at, Option.some.injEq] at hb'
        have := atlt i l b hi hb
        omega
      · rw [List.getElem?_set_ne hsj] at hj
        exact h.dist i j l l' b hij hi hj hb hb'
  · by_cases hsi : s = i
    · subst hsi
      rw [List.getElem?_set_self hslt] at hi
      rw [List.getElem?_set_self hsl] at hl'
      cases hi; cases hl'
      refine ⟨c, ty, ?_, hn, fun i x hi => (hr i x hi).mono hl hc, fun hf => by cases hf⟩
      show (w.heap.push _)[w.heap.size]? = _
      simp
    · rw [List.getElem?_set_ne hsi] at hi hl'
      exact (h.hp i k l hi hl').mono hl hc fun b hb => Below.heap_alloc _ _ _ (atlt i l b hl' hb)

end Go.Ull
