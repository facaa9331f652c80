/- A call, by its contract. -/
import Derived.Test.YtmgdofgmidbddaaFrO
namespace Go.Ull
open Go.RowKit

/-- What calling a function brings. -/
def CallRun (P : Program) (g : FuncId) (args : Array Value) (w : World) (K : Value → World → Prop) : Prop :=
  (∃ v w', (callFunc g args).run P w = .ok (.value v) w' ∧ K v w') ∨
  ((callFunc g args).run P w = .ok (.enter g args) w ∧ Calls P g args w fun e w' => ∃ v, e = .returned v ∧ K v w')

/-- Arguments and blocks lead to a result and blocks, in every world. -/
def GoodCall (P : Program) (g : FuncId) (args : List AV) (bs : List Blk) (v : AV) (bs' : List Blk) : Prop :=
  ∀ (C : Ctx) (a : Array Value) (loc : List Loc), C.m = bs.length → C.loc0 = loc → RelSt C ⟨args, bs⟩ ⟨a, []⟩ C.w0 loc →
    CallRun P g a C.w0 fun u w' => ∃ loc', RelSt C ⟨[v], bs'⟩ ⟨#[u], []⟩ w' loc'

def EntryOK (P : Program) (g : FuncId) (E : Entry) : Prop :=
  ∀ (ρ : Type) (args : List AV) (bs : List Blk) (k : AV → List Blk → Option ρ) (r : ρ), E ρ args bs k = some r → ∃ v bs', k v bs' = some r ∧ GoodCall P g args bs v bs'

/-! ### Lists, changed at some places -/

def upd {α : Type} (l : List α) : List (Nat × α) → List α
  | [] => l
  | (i, a) :: r => upd (l.set i a) r

theorem updHp_upd : ∀ (l : List (Nat × Blk)) (hp : List Blk), updHp hp l = upd hp l
  | [], _ => rfl
  | (i, b) :: r, hp => updHp_upd r (hp.set i b)

theorem upd_length {α : Type} : ∀ (r : List (Nat × α)) (l : List α), (upd l r).length = l.length
  | [], _ => rfl
  | (i, a) :: r, l => (upd_length r _).trans (by simp)

theorem upd_out {α : Type} {i : Nat} : ∀ {r : List (Nat × α)} {l : List α}, i ∉ r.map (·.1) → (upd l r)[i]? = l[i]?
  | [], _, _ => rfl
  | (j, a) :: r, l, h => by
    simp only [List.map_cons, List.mem_cons, not_or] at h
    rw [upd, upd_out h.2, List.getElem?_set_ne (Ne.symm h.1)]

theorem upd_in {α : Type} {i : Nat} {a : α} : ∀ {r : List (Nat × α)} {l : List α}, (r.map (·.1)).Nodup → (i, a) ∈ r → i < l.length → (upd l r)[i]? = some a
  | [], _, _, h, _ => by simp at h
  | (j, b) :: r, l, hn, h, hl => by
    have hn' := List.nodup_cons.1 (show (j :: r.map (·.1)).Nodup from hn)
    rcases List.mem_cons.1 h with h | h
    · cases h
      rw [upd, upd_out hn'.1, List.getElem?_set_self hl]
    · exact upd_in (r := r) hn'.2 h (by simpa using hl)

theorem lent_get {hp : List Blk} {f nv : Nat → Nat} : ∀ {is : List Nat} {j : Nat}, (lent hp f nv is)[j]? = (is[j]?).map fun i => ((hp[i]?).getD .dead).ren hp f nv i
  | [], j => by simp [lent]
  | i :: is, 0 => by simp [lent]
  | i :: is, j + 1 => by simpa [lent] using lent_get (is := is) (j := j)

theorem lent_length {hp : List Blk} {f nv : Nat → Nat} : ∀ (is : List Nat), (lent hp f nv is).length = is.length
  | [] => rfl
  | i :: is => by simp [lent, lent_length is]

/-- Places, handed back. -/
def backL (ls : List Loc) (nv : Nat → Nat) : Nat → List Nat → List (Nat × Loc)
  | _, [] => []
  | j, i :: is => (i, ((ls[j]?).getD .none).at' (nv j)) :: backL ls nv (j + 1) is

theorem backL_keys {ls : List Loc} {nv : Nat → Nat} : ∀ (j : Nat) (is : List Nat), (backL ls nv j is).map (·.1) = is
  | _, [] => rfl
  | j, i :: is => by simp [backL, backL_keys (j + 1) is]

theorem back_keys {bs : List Blk} {f nv : Nat → Nat} : ∀ (j : Nat) (is : List Nat), (back bs f nv j is).map (·.1) = is
  | _, [] => rfl
  | j, i :: is => by simp [back, back_keys (j + 1) is]

theorem backL_mem {ls : List Loc} {nv : Nat → Nat} : ∀ {j0 : Nat} {is : List Nat} {j i : Nat}, is[j]? = some i → (i, ((ls[j0 + j]?).getD .none).at' (nv (j0 + j))) ∈ backL ls nv j0 is
  | _, [], _, _, h => by simp at h
  | j0, i :: is, 0, i', h => by simp at h; subst h; simp [backL]
  | j0, i :: is, j + 1, i', h => by
    have := backL_mem (ls := ls) (nv := nv) (j0 := j0 + 1) (is := is) (j := j) (i := i') (by simpa using h)
    rw [show j0 + 1 + j = j0 + (j + 1) by omega] at this
    simp only [backL, List.mem_cons]; exact .inr this

theorem back_mem {bs : List Blk} {f nv : Nat → Nat} : ∀ {j0 : Nat} {is : List Nat} {j i : Nat}, is[j]? = some i → (i, ((bs[j0 + j]?).getD .dead).ren bs f nv (j0 + j)) ∈ back bs f nv j0 is
  | _, [], _, _, h => by simp at h
  | j0, i :: is, 0, i', h => by simp at h; subst h; simp [back]
  | j0, i :: is, j + 1, i', h => by
    have := back_mem (bs := bs) (f := f) (nv := nv) (j0 := j0 + 1) (is := is) (j := j) (i := i') (by simpa using h)
    rw [show j0 + 1 + j = j0 + (j + 1) by omega] at this
    simp only [back, List.mem_cons]; exact .inr this

theorem posOf_get : ∀ {l : List Nat} {i : Nat}, i ∈ l → l[posOf l i]? = some i
  | [], _, h => by simp at h
  | j :: r, i, h => by
    unfold posOf
    cases hb : Nat.beq i j with
    | true => simp [Nat.eq_of_beq_eq_true hb]
    | false =>
      have hne : i ≠ j := fun e => by subst e; simp at hb
      simpa using posOf_get ((List.mem_cons.1 h).resolve_left hne)

theorem dedup_mem {i : Nat} : ∀ {l : List Nat}, i ∈ dedup l ↔ i ∈ l
  | [] => Iff.rfl
  | j :: r => by
    have ih := dedup_mem (i := i) (l := r)
    simp only [dedup]
    cases hc : (dedup r).contains j with
    | true =>
      simp only [cond_true, ih, List.mem_cons]
      have : j ∈ r := dedup_mem.1 (by simpa using hc)
      constructor
      · exact .inr
      · rintro (rfl | h)
        · exact this
        · exact h
    | false => simp only [cond_false, List.mem_cons, ih]

theorem dedup_nodup : ∀ (l : List Nat), (dedup l).Nodup
  | [] => List.nodup_nil
  | j :: r => by
    simp only [dedup]
    cases hc : (dedup r).contains j with
    | true => exact dedup_nodup r
    | false => exact List.nodup_cons.2 ⟨by simpa using hc, dedup_nodup r⟩

theorem Nodup_get {l : List Nat} (h : l.Nodup) {i j a : Nat} (hi : l[i]? = some a) (hj : l[j]? = some a) : i = j := by
  have h1 := lt_of_getElem? hi
  have h2 := lt_of_getElem? hj
  rw [List.getElem?_eq_getElem h1] at hi
  rw [List.getElem?_eq_getElem h2] at hj
  rcases Nat.lt_trichotomy i j with hlt | he | hlt
  · exact absurd ((Option.some.inj hi).trans (Option.some.inj hj).symm) ((List.pairwise_iff_getElem.1 h) i j h1 h2 hlt)
  · exact he
  · exact absurd ((Option.some.inj hj).trans (Option.some.inj hi).symm) ((List.pairwise_iff_getElem.1 h) j i h2 h1 hlt)

theorem Loc.kin_le {l m : Loc} {n : Nat} (hk : (l.at' 0).Kin m) (hv : ∀ c b k e, l = .vc c b k e → c < n) : l.Le (m.at' n) := by
  cases l with
  | none => trivial
  | blk b => cases (hk : m = _); rfl
  | vc c b k e =>
    obtain ⟨n', b', k', c', rfl⟩ := hk
    exact .inr ⟨n, b', k', c', hv c b k e rfl, rfl⟩

theorem Loc.kin_trans {l l' m : Loc} {n : Nat} (h : l.Kin l') (hk : (l'.at' 0).Kin m) : l.Kin (m.at' n) := by
  cases l with
  | none => trivial
  | blk b =>
    cases (h : l' = _)
    cases (hk : m = _); rfl
  | vc c b k e =>
    obtain ⟨n', b', k', c', rfl⟩ := h
    obtain ⟨n2, b2, k2, c2, rfl⟩ := hk
    exact ⟨_, _, _, _, rfl⟩

/-- Blocks are lent, and come back: what is true then. -/
theorem RelSt.lend {C : Ctx} {σ : St} {a : Act} {w : World} {loc : List Loc} (hr : RelSt C σ a w loc) {hp : List Blk} {is : List Nat} {all : List AV} {args : Array Value}
    (hhp : ∀ i ∈ is, σ.hp[i]? = hp[i]?) (hlt : ∀ i ∈ is, i < hp.length) (hnd : is.Nodup) (hall : ∀ i ∈ idsL all, i ∈ is) (hcl : ∀ i ∈ is, ∀ k, hp[i]? = some k → ∀ j ∈ k.ids, j ∈ is)
    (hsz : args.size = all.length) (hrel : ∀ (j : Nat) c, all[j]? = some c → RelV w (C.X σ.hp loc) loc c (args.getD j Go.undef))
    {v : AV} {bs' : List Blk} (hlen : bs'.length = is.length) (hv : ∀ i ∈ v.ids, i < is.length) (hbs : ∀ k ∈ bs', ∀ i ∈ k.ids, i < is.length)
    {f' nv : Nat → Nat} (hf' : f' = fun i => (is[i]?).getD 0) (hnv : nv = fun j => verOf hp ((is[j]?).getD 0) + 1) :
    ∃ (C' : Ctx) (loc1 : List Loc), C'.m = (lent hp (posOf is) (fun _ => 0) is).length ∧ C'.w0 = w ∧ C'.loc0 = loc1 ∧ (∀ b o, C'.A0 b o → auth σ.hp loc b o) ∧
      RelSt C' ⟨renL hp (posOf is) (fun _ => 0) all, lent hp (posOf is) (fun _ => 0) is⟩ ⟨args, []⟩ w loc1 ∧
      ∀ (u : Value) (w' : World) (loc2 : List Loc), RelSt C' ⟨[v], bs'⟩ ⟨#[u], []⟩ w' loc2 →
        ∃ locN, RelSt C { σ with hp := updHp σ.hp (back bs' f' nv 0 is) } a w' locN ∧ RelV w' (C.X (updHp σ.hp (back bs' f' nv 0 is)) locN) locN (v.ren bs' f' nv) u ∧
          ∀ b o, auth (updHp σ.hp (back bs' f' nv 0 is)) locN b o → b < w.heap.size → auth σ.hp loc b o := by
  -- the lent blocks
  have hget : ∀ i ∈ is, ∃ k l, hp[i]? = some k ∧ σ.hp[i]? = some k ∧ loc[i]? = some l ∧ BlkOK w (C.X σ.hp loc) loc k l := fun i hi => by
    have h1 : hp[i]? = some (hp[i]'(hlt i hi)) := by simp [hlt i hi]
    have h2 := (hhp i hi).trans h1
    obtain ⟨l, hl⟩ := hr.loc_of h2
    exact ⟨_, l, h1, h2, hl, hr.hp i _ l h2 hl⟩
  let loc1 : List Loc := is.map fun i => ((loc[i]?).getD .none).at' 0
  have hloc1 : ∀ (j : Nat) l, loc1[j]? = some l → ∃ i l0, is[j]? = some i ∧ loc[i]? = some l0 ∧ l = l0.at' 0 := fun j l hl => by
    rw [List.getElem?_map] at hl
    cases hj : is[j]? with
    | none => simp [hj] at hl
    | some i =>
      obtain ⟨k, l0, h1, h2, h3, _⟩ := hget i (List.mem_of_getElem? hj)
      simp only [hj, Option.map_some, h3, Option.getD_some, Option.some.injEq] at hl
      exact ⟨i, l0, rfl, h3, hl.symm⟩
  have hloc1' : ∀ (j i : Nat) l0, is[j]? = some i → loc[i]? = some l0 → loc1[j]? = some (l0.at' 0) := fun j i l0 hj hl => by
    show (is.map _)[j]? = _
    rw [List.getElem?_map, hj]; simp [hl]
  have hlent : ∀ (j : Nat) k, (lent hp (posOf is) (fun _ => 0) is)[j]? = some k → ∃ i k0, is[j]? = some i ∧ σ.hp[i]? = some k0 ∧ k = k0.ren hp (posOf is) (fun _ => 0) i := fun j k hk => by
    rw [lent_get] at hk
    cases hj : is[j]? with
    | none => simp [hj] at hk
    | some i =>
      obtain ⟨k0, l0, h1, h2, h3, _⟩ := hget i (List.mem_of_getElem? hj)
      simp only [hj, Option.map_some, h1, Option.getD_some, Option.some.injEq] at hk
      exact ⟨i, k0, rfl, h2, hk.symm⟩
  -- F3
  have hF3' : ∀ b o, auth (lent hp (posOf is) (fun _ => 0) is) loc1 b o → ∃ i l, i ∈ is ∧ loc[i]? = some l ∧ l.at = some b ∧ auth σ.hp loc b o := fun b o => by
    rintro ⟨j, k, l, h1, h2, h3⟩
    obtain ⟨i, k0, g1, g2, rfl⟩ := hlent j k h1
    obtain ⟨i', l0, g3, g4, rfl⟩ := hloc1 j l h2
    rw [g1] at g3; cases g3
    have := zone_ren.1 h3
    exact ⟨i, l0, List.mem_of_getElem? g1, g4, zone_at this, i, k0, l0, g2, g4, this⟩
  have hF3 : ∀ b o, auth (lent hp (posOf is) (fun _ => 0) is) loc1 b o → auth σ.hp loc b o := fun b o h => (hF3' b o h).choose_spec.choose_spec.2.2.2
  have hX0lt : ∀ b o, C.X σ.hp loc b o → b < w.heap.size := fun b o hx => by
    rcases hx with hx | ⟨i, k, l, h1, h2, h3⟩
    · exact Nat.lt_of_lt_of_le (C.x0 b o hx) hr.keep.size
    · exact hr.at_lt h2 (zone_at h3)
  let C' : Ctx := ⟨w, fun b o => C.X σ.hp loc b o ∧ ¬ auth (lent hp (posOf is) (fun _ => 0) is) loc1 b o, auth (lent hp (posOf is) (fun _ => 0) is) loc1,
    (lent hp (posOf is) (fun _ => 0) is).length, loc1, fun b o h => hX0lt b o h.1, fun b o h => h.2⟩
  have hC'X : ∀ b o, C'.X (lent hp (posOf is) (fun _ => 0) is) loc1 b o → C.X σ.hp loc b o := fun b o hx => by
    rcases hx with hx | hx
    · exact hx.1
    · exact .inr (hF3 b o hx)
  have hcell0 : ∀ b o v, w.cell? ⟨b, o, none⟩ = some v → ¬ C.X σ.hp loc b o → w.cell? ⟨b, o, none⟩ = some v ∧ ¬ C'.X (lent hp (posOf is) (fun _ => 0) is) loc1 b o :=
    fun b o v h1 h2 => ⟨h1, fun hx => h2 (hC'X b o hx)⟩
  have hptr0 : ∀ (i b : Nat), i ∈ is → loc[i]? = some (.blk b) → loc1[posOf is i]? = some (.blk b) := fun i b hi hl => hloc1' _ i _ (posOf_get hi) hl
  have hgro0 : ∀ (i c : Nat) (t : ElT) (xs : List (El t)), i ∈ is → hp[i]? = some (.vec c t xs) → ∀ c' b len cap, loc[i]? = some (.vc c' b len cap) → c' = c ∧ loc1[posOf is i]? = some (.vc 0 b len cap) := fun i c t xs hi hk c' b len cap hl => by
    obtain ⟨k, l, h1, h2, h3, h4⟩ := hget i hi
    rw [hk] at h1; cases h1
    rw [hl] at h3; cases h3
    exact ⟨h4.1.symm, hloc1' _ i _ (posOf_get hi) hl⟩
  have hrel1 : RelSt C' ⟨renL hp (posOf is) (fun _ => 0) all, lent hp (posOf is) (fun _ => 0) is⟩ ⟨args, []⟩ w loc1 := by
    refine ⟨by show (is.map _).length = _; simp [lent_length], Nat.le_refl _, fun i l hi hl => ⟨l, hl, .refl l⟩, fun i l b hi hl hb => .inl (by show (loc1[i]?).bind _ = _; rw [hl]; exact hb), fun i l b hi hl hb => ?_, Keep.refl _ _, fun b o h _ => h, fun i j l l' b hij hi hj hb hb' => ?_,
      fun j k l hj hl => ?_, ?_, fun t c hc => ?_, Marks.nil⟩
    · have h1 := lt_of_getElem? hl
      have h2 : loc1.length = is.length := by show (is.map _).length = _; simp
      have h3 : (lent hp (posOf is) (fun _ => 0) is).length ≤ i := hi
      rw [lent_length] at h3
      omega
    · obtain ⟨i1, l1, g1, g2, rfl⟩ := hloc1 i l hi
      obtain ⟨j1, l2, g3, g4, rfl⟩ := hloc1 j l' hj
      rw [Loc.at'_at] at hb hb'
      refine hr.dist i1 j1 l1 l2 b (fun e => ?_) g2 g4 hb hb'
      subst e
      exact hij (Nodup_get hnd g1 g3)
    · obtain ⟨i, k0, g1, g2, rfl⟩ := hlent j k hj
      obtain ⟨i', l0, g3, g4, rfl⟩ := hloc1 j l hl
      rw [g1] at g3; cases g3
      have hmem := List.mem_of_getElem? g1
      exact (hr.hp i k0 l0 g2 g4).reloc (S := (· ∈ is)) i hptr0 hgro0 hcell0 (fun _ _ => rfl) (fun j hj => hcl i hmem k0 ((hhp i hmem).symm.trans g2) j hj)
    · show args.size = (renL hp (posOf is) (fun _ => 0) all).length
      rw [renL_length]; exact hsz
    · obtain ⟨d, h1, rfl⟩ := renL_get hc
      exact (hrel t d h1).reloc (S := (· ∈ is)) hptr0 hgro0 hcell0 fun j hj => hall j (mem_idsL.2 ⟨d, List.mem_of_getElem? h1, hj⟩)
  refine ⟨C', loc1, rfl, rfl, rfl, hF3, hrel1, fun u w' loc2 hr2 => ?_⟩
  subst hf' hnv
  generalize hF : (fun (i : Nat) => (is[i]?).getD 0) = F
  generalize hN : (fun (j : Nat) => verOf hp ((is[j]?).getD 0) + 1) = N
  have hFj : ∀ {j i : Nat}, is[j]? = some i → F j = i := fun {j i} h => by rw [← hF]; simp [h]
  have hNj : ∀ {j i : Nat}, is[j]? = some i → N j = verOf hp i + 1 := fun {j i} h => by rw [← hN]; simp [h]
  let locN := upd loc (backL loc2 N 0 is)
  have hl2len : loc2.length = is.length := hr2.llen.trans hlen
  -- the new blocks and places
  have hin : ∀ (j i : Nat), is[j]? = some i → ∃ k l, bs'[j]? = some k ∧ loc2[j]? = some l ∧ (updHp σ.hp (back bs' F N 0 is))[i]? = some (k.ren bs' F N j) ∧ locN[i]? = some (l.at' (N j)) := fun j i hj => by
    have hjl := lt_of_getElem? hj
    have h1 : bs'[j]? = some (bs'[j]'(by omega)) := by simp [hlen, hjl]
    have h2 : loc2[j]? = some (loc2[j]'(by omega)) := by simp [hl2len, hjl]
    obtain ⟨k0, l0, q1, q2, q3, _⟩ := hget i (List.mem_of_getElem? hj)
    refine ⟨_, _, h1, h2, ?_, ?_⟩
    · rw [updHp_upd]
      have := back_mem (bs := bs') (f := F) (nv := N) (j0 := 0) hj
      simp only [Nat.zero_add, h1, Option.getD_some] at this
      exact upd_in (by rw [back_keys]; exact hnd) this (lt_of_getElem? q2)
    · have := backL_mem (ls := loc2) (nv := N) (j0 := 0) hj
      simp only [Nat.zero_add, h2, Option.getD_some] at this
      exact upd_in (by rw [backL_keys]; exact hnd) this (lt_of_getElem? q3)
  have houth : ∀ i, i ∉ is → (updHp σ.hp (back bs' F N 0 is))[i]? = σ.hp[i]? := fun i hi => by rw [updHp_upd]; exact upd_out (by rw [back_keys]; exact hi)
  have houtl : ∀ i, i ∉ is → locN[i]? = loc[i]? := fun i hi => upd_out (by rw [backL_keys]; exact hi)
  have hpos : ∀ (i : Nat), i ∈ is → ∃ (j : Nat), is[j]? = some i := fun i hi => ⟨posOf is i, posOf_get hi⟩
  -- who may write
  have hauthN : ∀ b o, auth (updHp σ.hp (back bs' F N 0 is)) locN b o → auth bs' loc2 b o ∨ ∃ i k l, i ∉ is ∧ σ.hp[i]? = some k ∧ loc[i]? = some l ∧ zone k l b o := fun b o => by
    rintro ⟨i, k, l, h1, h2, h3⟩
    by_cases hi : i ∈ is
    · obtain ⟨j, hj⟩ := hpos i hi
      obtain ⟨k', l', q1, q2, q3, q4⟩ := hin j i hj
      rw [q3] at h1; cases h1
      rw [q4] at h2; cases h2
      exact .inl ⟨j, k', l', q1, q2, zone_ren.1 h3⟩
    · rw [houth i hi] at h1
      rw [houtl i hi] at h2
      exact .inr ⟨i, k, l, hi, h1, h2, h3⟩
  have hA2 : ∀ b o, auth bs' loc2 b o → b < w.heap.size → auth (lent hp (posOf is) (fun _ => 0) is) loc1 b o := hr2.authA
  have hnA : ∀ i l b o, i ∉ is → loc[i]? = some l → l.at = some b → ¬ auth (lent hp (posOf is) (fun _ => 0) is) loc1 b o := fun i l b o hi hl hb h => by
    obtain ⟨i', l', h1, h2, h3, _⟩ := hF3' b o h
    exact hr.dist i i' l l' b (fun e => hi (e ▸ h1)) hl h2 hb h3
  have hcA : ∀ b o v, w.cell? ⟨b, o, none⟩ = some v → ¬ C.X σ.hp loc b o → w'.cell? ⟨b, o, none⟩ = some v ∧ ¬ C.X (updHp σ.hp (back bs' F N 0 is)) locN b o := fun b o v h1 h2 => by
    refine ⟨hr2.keep.cell h1 fun hA => h2 (.inr (hF3 b o hA)), fun hx => ?_⟩
    rcases hx with hx | hx
    · exact h2 (.inl hx)
    · rcases hauthN b o hx with hx | ⟨i, k, l, _, g1, g2, g3⟩
      · exact h2 (.inr (hF3 b o (hA2 b o hx (cell_lt h1))))
      · exact h2 (.inr ⟨i, k, l, g1, g2, g3⟩)
  have hcB : ∀ b o v, w'.cell? ⟨b, o, none⟩ = some v → ¬ C'.X bs' loc2 b o → w'.cell? ⟨b, o, none⟩ = some v ∧ ¬ C.X (updHp σ.hp (back bs' F N 0 is)) locN b o := fun b o v h1 h2 => by
    refine ⟨h1, fun hx => h2 ?_⟩
    rcases hx with hx | hx
    · exact .inl ⟨.inl hx, fun hA => C.xa b o hx (hr.authA b o (hF3 b o hA) (C.x0 b o hx))⟩
    · rcases hauthN b o hx with hx | ⟨i, k, l, hi, g1, g2, g3⟩
      · exact .inr hx
      · exact .inl ⟨.inr ⟨i, k, l, g1, g2, g3⟩, hnA i l b o hi g2 (zone_at g3)⟩
  -- a lent place and what it has become
  have hkin : ∀ (j i : Nat) l0 l2, is[j]? = some i → loc[i]? = some l0 → loc2[j]? = some l2 → (l0.at' 0).Kin l2 := fun j i l0 l2 hj hl h2 => by
    obtain ⟨l', g1, g2⟩ := hr2.bor j (l0.at' 0) (by show j < (lent hp (posOf is) (fun _ => 0) is).length; rw [lent_length]; exact lt_of_getElem? hj) (hloc1' j i l0 hj hl)
    rw [h2] at g1; cases g1; exact g2
  have hle : ∀ (i : Nat) l, loc[i]? = some l → l ≠ .none → ∃ l', locN[i]? = some l' ∧ l.Le l' := fun i l hl _ => by
    by_cases hi : i ∈ is
    · obtain ⟨j, hj⟩ := hpos i hi
      obtain ⟨k', l', q1, q2, q3, q4⟩ := hin j i hj
      refine ⟨_, q4, Loc.kin_le (hkin j i l l' hj hl q2) fun c b k e hvc => ?_⟩
      subst hvc
      obtain ⟨k0, l0, p1, p2, p3, p4⟩ := hget i hi
      rw [hl] at p3; cases p3
      rw [hNj hj]
      cases k0 with
      | vec c' t xs => obtain ⟨rfl, _⟩ := p4; simp [verOf, p1]
      | dead => cases (p4 : _ = _)
      | box cs r => exact p4.elim
    · exact ⟨l, by rw [houtl i hi]; exact hl, .refl l⟩
  have hptr2 : ∀ (i b : Nat), i < is.length → loc2[i]? = some (.blk b) → locN[F i]? = some (.blk b) := fun i b hi hl => by
    have hj : is[i]? = some is[i] := by simp [hi]
    obtain ⟨k', l', q1, q2, q3, q4⟩ := hin i _ hj
    rw [hl] at q2; cases q2
    rw [hFj hj]; exact q4
  have hgro2 : ∀ (i c : Nat) (t : ElT) (xs : List (El t)), i < is.length → bs'[i]? = some (.vec c t xs) → ∀ c' b len cap, loc2[i]? = some (.vc c' b len cap) → c' = c ∧ locN[F i]? = some (.vc (N i) b len cap) := fun i c t xs hi hk c' b len cap hl => by
    have hj : is[i]? = some is[i] := by simp [hi]
    obtain ⟨k', l', q1, q2, q3, q4⟩ := hin i _ hj
    rw [hl] at q2; cases q2
    rw [hFj hj]
    exact ⟨(hr2.hp i _ _ hk hl).1.symm, q4⟩
  have hatN : ∀ (j i : Nat) l2 b, is[j]? = some i → loc2[j]? = some l2 → l2.at = some b → (∃ l0, loc[i]? = some l0 ∧ l0.at = some b) ∨ w.heap.size ≤ b := fun j i l2 b hj h2 hb => by
    rcases hr2.borv j l2 b (by show j < (lent hp (posOf is) (fun _ => 0) is).length; rw [lent_length]; exact lt_of_getElem? hj) h2 hb with h | h
    · obtain ⟨k0, l0, p1, p2, p3, p4⟩ := hget i (List.mem_of_getElem? hj)
      have h' : (loc1[j]?).bind Loc.at = some b := h
      rw [hloc1' j i l0 hj p3, Option.bind_some, Loc.at'_at] at h'
      exact .inl ⟨l0, p3, h'⟩
    · exact .inr h
  have hblk : ∀ i l b, i ∉ is → loc[i]? = some l → l.at = some b → w'.heap[b]? = w.heap[b]? := fun i l b hi hl hb =>
    Keep.same hr2.keep (hr.at_lt hl hb) fun o hA => hnA i l b o hi hl hb hA
  refine ⟨locN, ⟨?_, ?_, fun i l hi hl => ?_, fun i l b hi hl hb => ?_, fun i l b hi hl hb => ?_, hr.keep.trans hr2.keep fun b o hb hA => hr.authA b o (hF3 b o hA) hb, fun b o ha hb => ?_, fun i j l l' b hij hi hj hb hb' => ?_,
    fun i k l hi hl => ?_, hr.tms, fun t c hc => (hr.tm t c hc).mono' hle hcA, hr.defers.keep hr2.keep⟩, ?_, fun b o ha hb => ?_⟩
  · show (upd loc _).length = (updHp σ.hp _).length
    rw [updHp_upd, upd_length, upd_length]; exact hr.llen
  · show C.m ≤ (updHp σ.hp _).length
    rw [updHp_upd, upd_length]; exact hr.mle
  · obtain ⟨l', g1, g2⟩ := hr.bor i l hi hl
    by_cases hmem : i ∈ is
    · obtain ⟨j, hj⟩ := hpos i hmem
      obtain ⟨k2, l2, q1, q2, q3, q4⟩ := hin j i hj
      exact ⟨_, q4, Loc.kin_trans g2 (hkin j i l' l2 hj g1 q2)⟩
    · exact ⟨l', by rw [houtl i hmem]; exact g1, g2⟩
  · by_cases hmem : i ∈ is
    · obtain ⟨j, hj⟩ := hpos i hmem
      obtain ⟨k2, l2, q1, q2, q3, q4⟩ := hin j i hj
      rw [q4] at hl; cases hl
      rw [Loc.at'_at] at hb
      rcases hatN j i l2 b hj q2 hb with ⟨l0, p1, p2⟩ | h
      · exact hr.borv i l0 b hi p1 p2
      · exact .inr (Nat.le_trans hr.keep.size h)
    · rw [houtl i hmem] at hl; exact hr.borv i l b hi hl hb
  · by_cases hmem : i ∈ is
    · obtain ⟨j, hj⟩ := hpos i hmem
      obtain ⟨k2, l2, q1, q2, q3, q4⟩ := hin j i hj
      rw [q4] at hl; cases hl
      rw [Loc.at'_at] at hb
      rcases hatN j i l2 b hj q2 hb with ⟨l0, p1, p2⟩ | h
      · exact hr.fresh i l0 b hi p1 p2
      · exact Nat.le_trans hr.keep.size h
    · rw [houtl i hmem] at hl; exact hr.fresh i l b hi hl hb
  · rcases hauthN b o ha with ha | ⟨i, k, l, _, g1, g2, g3⟩
    · exact hr.authA b o (hF3 b o (hA2 b o ha (Nat.lt_of_lt_of_le hb hr.keep.size))) hb
    · exact hr.authA b o ⟨i, k, l, g1, g2, g3⟩ hb
  · have key : ∀ i1 j1 l1 l2, i1 ∈ is → j1 ∉ is → locN[i1]? = some l1 → locN[j1]? = some l2 → l1.at = some b → l2.at = some b → False := fun i1 j1 l1 l2 hm hn h1 h2 hb1 hb2 => by
      obtain ⟨j, hj⟩ := hpos i1 hm
      obtain ⟨k2, l2', q1, q2, q3, q4⟩ := hin j i1 hj
      rw [q4] at h1; cases h1
      rw [Loc.at'_at] at hb1
      rw [houtl j1 hn] at h2
      rcases hatN j i1 l2' b hj q2 hb1 with ⟨l0, p1, p2⟩ | h
      · exact hr.dist i1 j1 l0 l2 b (fun e => hn (e ▸ hm)) p1 h2 p2 hb2
      · have := hr.at_lt h2 hb2; omega
    by_cases hmi : i ∈ is
    · by_cases hmj : j ∈ is
      · obtain ⟨pi, hpi⟩ := hpos i hmi
        obtain ⟨pj, hpj⟩ := hpos j hmj
        obtain ⟨_, l1, _, q2, _, q4⟩ := hin pi i hpi
        obtain ⟨_, l2, _, r2, _, r4⟩ := hin pj j hpj
        rw [q4] at hi; cases hi
        rw [r4] at hj; cases hj
        rw [Loc.at'_at] at hb hb'
        refine hr2.dist pi pj l1 l2 b (fun e => hij ?_) q2 r2 hb hb'
        subst e
        rw [hpi] at hpj; exact Option.some.inj hpj
      · exact key i j l l' hmi hmj hi hj hb hb'
    · by_cases hmj : j ∈ is
      · exact key j i l' l hmj hmi hj hi hb' hb
      · rw [houtl i hmi] at hi
        rw [houtl j hmj] at hj
        exact hr.dist i j l l' b hij hi hj hb hb'
  · by_cases hmem : i ∈ is
    · obtain ⟨j, hj⟩ := hpos i hmem
      obtain ⟨k2, l2, q1, q2, q3, q4⟩ := hin j i hj
      rw [show ({ σ with hp := updHp σ.hp (back bs' F N 0 is) } : St).hp = updHp σ.hp (back bs' F N 0 is) from rfl, q3] at hi
      cases hi
      rw [q4] at hl; cases hl
      exact (hr2.hp j k2 l2 q1 q2).reloc (S := (· < is.length)) j hptr2 hgro2 hcB (fun _ _ => rfl) (fun j' hj' => hbs k2 (List.mem_of_getElem? q1) j' hj')
    · rw [show ({ σ with hp := updHp σ.hp (back bs' F N 0 is) } : St).hp = updHp σ.hp (back bs' F N 0 is) from rfl, houth i hmem] at hi
      rw [houtl i hmem] at hl
      exact (hr.hp i k l hi hl).mono' hle hcA fun b hb => hblk i l b hmem hl hb
  · have := hr2.tm 0 v rfl
    exact this.reloc (S := (· < is.length)) hptr2 hgro2 hcB hv
  · rcases hauthN b o ha with ha | ⟨i, k, l, _, g1, g2, g3⟩
    · exact hF3 b o (hA2 b o ha hb)
    · exact ⟨i, k, l, g1, g2, g3⟩

end Go.Ull
