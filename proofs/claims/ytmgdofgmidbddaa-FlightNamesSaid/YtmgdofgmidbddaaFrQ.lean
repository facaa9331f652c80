/- A call, as an operation. -/
import Derived.Test.YtmgdofgmidbddaaFrP
namespace Go.Ull
open Go.RowKit

theorem append_rel {w : World} {X : Nat → Nat → Prop} {loc : List Loc} {a b : List AV} {a' b' : Array Value} (ha : a.length = a'.size) (hb : b.length = b'.size)
    (ra : ∀ (i : Nat) c, a[i]? = some c → RelV w X loc c (a'.getD i Go.undef)) (rb : ∀ (i : Nat) c, b[i]? = some c → RelV w X loc c (b'.getD i Go.undef)) :
    (a ++ b).length = (a' ++ b').size ∧ ∀ (i : Nat) c, (a ++ b)[i]? = some c → RelV w X loc c ((a' ++ b').getD i Go.undef) := by
  refine ⟨by simp [ha, hb], fun i c hi => ?_⟩
  rw [List.getElem?_append] at hi
  simp only [Array.getD_eq_getD_getElem?, Array.getElem?_append]
  split at hi
  · rename_i hlt
    have := ra i c hi
    rw [if_pos (by omega)]
    rwa [Array.getD_eq_getD_getElem?] at this
  · rename_i hlt
    have := rb _ c hi
    rw [if_neg (by omega), ← ha]
    rwa [Array.getD_eq_getD_getElem?] at this

theorem RelV.fn_inv {w : World} {X : Nat → Nat → Prop} {loc : List Loc} {f : Fn} {a b : List AV} {v : Value} (h : RelV w X loc (.fn f a b) v) :
    ∃ a' b', v = .func f a' b' ∧ a.length = a'.size ∧ (∀ (i : Nat) c, a[i]? = some c → RelV w X loc c (a'.getD i Go.undef)) ∧
      b.length = b'.size ∧ ∀ (i : Nat) c, b[i]? = some c → RelV w X loc c (b'.getD i Go.undef) := by
  cases h with
  | fn f a b a' b' ha ra hb rb => exact ⟨a', b', rfl, ha, ra, hb, rb⟩

section ops
variable {P : Program} {T : Tab} {dst : Option Tmp} {type : TypeId} {pos : String} {after : Array Edge} {guard : Option (Nat × Bool)}
variable {vals : Operand → AV} {hp : List Blk}

theorem snap_congr {hp hp' : List Blk} {L : List Nat} (hh : ∀ i ∈ L, hp[i]? = hp'[i]?) : ∀ (v : AV), (∀ i ∈ v.ids, i ∈ L) → v.snap hp = v.snap hp'
  | .gro b n, h => by simp only [AV.snap, hh b (h b (by simp [AV.ids]))]
  | .agg cs, h => by
    simp only [AV.snap, AV.agg.injEq]
    exact go cs h
  | .tuple cs, h => by
    simp only [AV.snap, AV.tuple.injEq]
    exact go cs h
  | .iface t v, h => by simp only [AV.snap, snap_congr hh v h]
  | .ptr b o, h => by simp only [AV.snap, hh b (h b (by simp [AV.ids]))]
  | .fn f a b, h => by
    simp only [AV.ids, List.mem_append] at h
    simp only [AV.snap, go a fun i hi => h i (.inl hi), go b fun i hi => h i (.inr hi)]
  | .undef, _ | .bool _, _ | .int _ _, _ | .lst _ _, _ | .nils, _ | .eptr _, _ | .bsl _ _ _, _ | .nilp, _ | .nilfn, _ | .niliface, _ => rfl
where go : ∀ (cs : List AV), (∀ i ∈ idsL cs, i ∈ L) → snapL hp cs = snapL hp' cs
  | [], _ => rfl
  | c :: cs, h => by
    simp only [idsL, List.mem_append] at h
    rw [snapL, snapL, snap_congr hh c fun i hi => h i (.inl hi), go cs fun i hi => h i (.inr hi)]

theorem ok_call {g : FuncId} (f : Operand) (args : Array Operand) (cargs : Array TypeId) {first cap raw all : List AV} {is : List Nat} (hf : vals f = .fn (.func g) first cap)
    (hraw : raw = first ++ args.toList.map vals ++ cap) (keep : Bool) (hall : all = cond keep raw (snapL hp raw)) (hlt : ∀ i ∈ is, i < hp.length) (hnd : is.Nodup) (hids : ∀ i ∈ idsL all, i ∈ is)
    (hcl : ∀ i ∈ is, ∀ k, hp[i]? = some k → ∀ j ∈ k.ids, j ∈ is) {v : AV} {bs' : List Blk} (hlen : bs'.length = is.length) (hv : ∀ i ∈ v.ids, i < is.length) (hbs : ∀ k ∈ bs', ∀ i ∈ k.ids, i < is.length)
    (hG : GoodCall P g (renL hp (posOf is) (fun _ => 0) all) (lent hp (posOf is) (fun _ => 0) is) v bs') :
    OpOK P T ⟨dst, .call ⟨.value f, args, cargs⟩, type, pos, after, guard⟩ vals hp (idsL raw ++ is)
      (v.ren bs' (fun i => (is[i]?).getD 0) (fun j => verOf hp ((is[j]?).getD 0) + 1)) (back bs' (fun i => (is[i]?).getD 0) (fun j => verOf hp ((is[j]?).getD 0) + 1) 0 is) := by
  intro C σ a w loc hC hr hvs hfp fr mm K Q hK
  have g1 := hr.eval f; rw [hvs f (by simp [Op.operands, Call.operands]), hf] at g1
  obtain ⟨first', cap', e1, n1, r1, n2, r2⟩ := g1.fn_inv
  have hargs : (args.toList.map vals).length = (args.map a.eval).size ∧ ∀ (i : Nat) c, (args.toList.map vals)[i]? = some c → RelV w (C.X σ.hp loc) loc c ((args.map a.eval).getD i Go.undef) := by
    refine ⟨by simp, fun i c hi => ?_⟩
    rw [List.getElem?_map, Array.getElem?_toList] at hi
    cases hx : args[i]? with
    | none => simp [hx] at hi
    | some x =>
      simp only [hx, Option.map_some, Option.some.injEq] at hi
      subst hi
      have := hr.eval x
      rw [hvs x (by simp [Op.operands, Call.operands, Array.mem_of_getElem? hx])] at this
      simpa [Array.getD_eq_getD_getElem?, hx] using this
  obtain ⟨m1, m2⟩ := append_rel n1 hargs.1 r1 hargs.2
  obtain ⟨m3, m4⟩ := append_rel m1 n2 m2 r2
  rw [← hraw] at m3 m4
  have hsnap : ∀ i ∈ idsL raw, σ.hp[i]? = hp[i]? := fun i hi => hfp i (by simp [hi])
  have m5 : (first' ++ args.map a.eval ++ cap').size = all.length := by
    rw [hall]; cases keep
    · simp only [cond_false, snapL_length]; exact m3.symm
    · exact m3.symm
  have m6 : ∀ (i : Nat) c, all[i]? = some c → RelV w (C.X σ.hp loc) loc c ((first' ++ args.map a.eval ++ cap').getD i Go.undef) := fun i c hi => by
    rw [hall] at hi
    cases keep
    · simp only [cond_false] at hi
      obtain ⟨d, h1, rfl⟩ := snapL_get hi
      rw [← snap_congr (L := idsL raw) hsnap d fun j hj => mem_idsL.2 ⟨d, List.mem_of_getElem? h1, hj⟩]
      exact (m4 i d h1).snap (S := fun _ => True) (fun i k l _ h1 h2 _ => hr.hp i k l h1 h2) (fun _ _ => trivial)
    · exact m4 i c hi
  obtain ⟨C', loc1, q1, q2, q3, _, q4, q5⟩ := hr.lend (hp := hp) (is := is) (all := all) (args := first' ++ args.map a.eval ++ cap') (fun i hi => hfp i (by simp [hi])) hlt hnd hids hcl m5 m6
    hlen hv hbs rfl rfl
  have hrun : ∀ R, (callFunc g (first' ++ args.map a.eval ++ cap')).run P w = R → (execOp a.eval ⟨dst, .call ⟨.value f, args, cargs⟩, type, pos, after, guard⟩).run P w = R := fun R h => by
    simp only [execOp, resolve, e1, Deferred.ofValue, invoke, Sem.run_bind, Sem.run_pure, Result.andThen_ok]
    exact h
  have hfin : ∀ (u : Value) (w' : World) (loc' : List Loc), RelSt C' ⟨[v], bs'⟩ ⟨#[u], []⟩ w' loc' → K (a.put dst u) w' := fun u w' loc2 h2 => by
    obtain ⟨locN, h3, h4, _⟩ := q5 u w' loc2 h2
    exact hK _ _ locN ⟨_, rfl⟩ (h3.put h4 dst)
  rcases hG C' _ loc1 q1 q3 (by rw [q2]; exact q4) with ⟨u, w', h1, loc2, h2⟩ | ⟨h1, h2⟩
  · rw [q2] at h1
    exact wp_of_value (hrun _ h1) (hfin u w' loc2 h2)
  · rw [q2] at h1 h2
    refine ⟨fun _ _ => trivial, ?_⟩
    rw [show (ro fr).round = fr from rfl, run_semAt (hrun _ h1) (by intro d e; cases e) fr]
    refine ⟨fun h => (by cases h), callsIn_ro.2 (Calls.mono h2 fun e w' he => ?_)⟩
    obtain ⟨u, rfl, loc2, h3⟩ := he
    exact hfin u w' loc2 h3

/-- A box that is never written. -/
theorem ok_box_ro (t : TypeId) (x : Operand) {s : Nat} {cs : List AV} (hs : hp[s]? = some .dead) (hm : T.m ≤ s) (hx : cellsOf (vals x) = some cs) (r : Bool) :
    OpOK P T ⟨dst, .box t x, type, pos, after, guard⟩ vals hp [s] (.ptr s 0) [(s, .box cs r)] := by
  cases r with
  | false => exact ok_box t x hs hm hx
  | true =>
    intro C σ a w loc hC hr hv hf fr mm K Q hK
    refine ok_box t x hs hm hx C σ a w loc hC hr hv hf fr mm K Q fun a' w' loc' hx' h' => hK a' w' loc' hx' ?_
    have hslt : s < σ.hp.length := lt_of_getElem? ((hf s (by simp)).trans hs)
    have hsame : ∀ b : Bool, σ.app dst (.ptr s 0) [(s, .box cs b)] = ({ σ with hp := σ.hp.set s (.box cs b) } : St).put dst (.ptr s 0) := fun b => rfl
    have hput : ∀ (σ' : St) (d : Option Nat) (v : AV), (σ'.put d v).hp = σ'.hp := fun σ' d v => by cases d <;> rfl
    have hi : (σ.app dst (.ptr s 0) [(s, .box cs false)]).hp[s]? = some (.box cs false) := by
      rw [hsame, hput]; exact List.getElem?_set_self hslt
    have h2 := h'.freeze hi (by rw [hC]; exact hm)
    have h3 : ({ σ.app dst (.ptr s 0) [(s, .box cs false)] with hp := (σ.app dst (.ptr s 0) [(s, .box cs false)]).hp.set s (.box cs true) } : St) = σ.app dst (.ptr s 0) [(s, .box cs true)] := by
      rw [hsame, hsame]
      cases dst with
      | none => simp [St.put, List.set_set]
      | some d => simp [St.put, List.set_set]
    rw [← h3]; exact h2

/-- A new growable slice, with room. -/
theorem RelSt.newVec {C : Ctx} {σ : St} {a : Act} {w w' : World} {loc : List Loc} (hr : RelSt C σ a w loc) (hk : Keep (fun _ _ => False) w w') {s : Nat} (t : ElT) (hs : σ.hp[s]? = some .dead) (hm : C.m ≤ s) {b : Option Nat} {cap : Nat}
    (hb0 : b = none → cap = 0) (hb : ∀ g, b = some g → w.heap.size ≤ g ∧ ∃ c ty, w'.heap[g]? = some (.cells c ty (0, 0)) ∧ cap * sz t ≤ c.size) :
    RelSt C { σ with hp := σ.hp.set s (.vec 0 t []) } a w' (loc.set s (.vc 0 b 0 cap)) := by
  have hslt := lt_of_getElem? hs
  have hls : loc[s]? = some .none := by
    obtain ⟨l, hl⟩ := hr.loc_of hs
    have := hr.hp s _ l hs hl
    rw [hl, show l = .none from this]
  have hsl := lt_of_getElem? hls
  have hw0 : C.w0.heap.size ≤ w.heap.size := hr.keep.size
  have hgr := hr.grow hk
  have hl : ∀ (i : Nat) l, loc[i]? = some l → l ≠ .none → (loc.set s (.vc 0 b 0 cap))[i]? = some l := fun i l hi hn => by
    by_cases his : s = i
    · subst his; rw [hls] at hi; cases hi; exact (hn rfl).elim
    · rw [List.getElem?_set_ne his]; exact hi
  have hX : ∀ k o, C.X (σ.hp.set s (.vec 0 t [])) (loc.set s (.vc 0 b 0 cap)) k o → k < w.heap.size → C.X σ.hp loc k o := fun k o hx hk2 => by
    rcases hx with hx | hx
    · exact .inl hx
    · rcases auth_set_dead hx with hz | hx
      · have h1 : b = some k := zone_at hz
        have := (hb k h1).1
        omega
      · exact .inr hx
  have hc : ∀ k o v, w.cell? ⟨k, o, none⟩ = some v → ¬ C.X σ.hp loc k o → w'.cell? ⟨k, o, none⟩ = some v ∧ ¬ C.X (σ.hp.set s (.vec 0 t [])) (loc.set s (.vc 0 b 0 cap)) k o :=
    fun k o v h1 h2 => ⟨hk.cell h1 (fun f => f), fun hx => h2 (hX k o hx (cell_lt h1))⟩
  refine ⟨by simp [hr.llen], by simp [hr.mle], fun i l hi hd => ?_, fun i l k hi hl' hb' => ?_, fun i l k hi hl' hb' => ?_, hgr.keep, fun k o ha hk2 => ?_, fun i j l l' k hij hi hj hb1 hb2 => ?_,
    fun i k l hi hl' => ?_, hr.tms, fun u v hv => (hr.tm u v hv).mono hl hc, hr.defers.keep hk⟩
  · rw [List.getElem?_set_ne (by omega)]
    exact hr.bor i l hi hd
  · rw [List.getElem?_set_ne (by omega)] at hl'; exact hr.borv i l k hi hl' hb'
  · by_cases his : s = i
    · subst his; rw [List.getElem?_set_self hsl] at hl'; cases hl'
      have := (hb k hb').1
      omega
    · rw [List.getElem?_set_ne his] at hl'; exact hr.fresh i l k hi hl' hb'
  · rcases auth_set_dead ha with hz | hx
    · have h1 : b = some k := zone_at hz
      have := (hb k h1).1
      omega
    · exact hr.authA k o hx hk2
  · by_cases hsi : s = i
    · subst hsi
      rw [List.getElem?_set_self hsl] at hi
      rw [List.getElem?_set_ne hij] at hj
      cases hi
      have := (hb k hb1).1
      have := hr.at_lt hj hb2
      omega
    · rw [List.getElem?_set_ne hsi] at hi
      by_cases hsj : s = j
      · subst hsj
        rw [List.getElem?_set_self hsl] at hj
        cases hj
        have := (hb k hb2).1
        have := hr.at_lt hi hb1
        omega
      · rw [List.getElem?_set_ne hsj] at hj
        exact hr.dist i j l l' k hij hi hj hb1 hb2
  · by_cases hsi : s = i
    · subst hsi
      rw [List.getElem?_set_self hslt] at hi
      rw [List.getElem?_set_self hsl] at hl'
      cases hi; cases hl'
      refine ⟨rfl, rfl, Nat.zero_le _, hb0, fun g hg => ?_⟩
      obtain ⟨_, c, ty, h1, h2⟩ := hb g hg
      exact ⟨c, ty, h1, h2, fun i x j y hi => by simp at hi, fun o ho => by omega⟩
    · rw [List.getElem?_set_ne hsi] at hi hl'
      exact (hr.hp i k l hi hl').mono hl hc fun b' hb' => hk.to_below.block b' (hr.at_lt hl' hb')

/-- What slices.Grow makes of nil. -/
def GrowOK (P : Program) (g : FuncId) (t : ElT) : Prop :=
  ∀ (n : Nat) (w : World), n ≤ 4294967296 → CallRun P g #[.slice none 0 0, .int .i64 n] w fun u w' => ∃ b cap, u = .slice (b.map fun b => ⟨b, 0, none⟩) 0 cap ∧ Keep (fun _ _ => False) w w' ∧ (b = none → cap = 0) ∧
    ∀ k, b = some k → w.heap.size ≤ k ∧ ∃ c ty, w'.heap[k]? = some (.cells c ty (0, 0)) ∧ cap * sz t ≤ c.size

theorem ok_grow {g : FuncId} {t : ElT} (hG : GrowOK P g t) (y : Operand) (cargs : Array TypeId) {s n : Nat} (hs : hp[s]? = some .dead) (hm : T.m ≤ s) (hy : vals y = .int .i64 (n : Int)) (hn : n ≤ 4294967296) :
    OpOK P T ⟨dst, .call ⟨.value (.func g), #[.const (.slice none 0 0), y], cargs⟩, type, pos, after, guard⟩ vals hp [s] (.gro s 0) [(s, .vec 0 t [])] := by
  intro C σ a w loc hC hr hv hf fr mm K Q hK
  have hs' : σ.hp[s]? = some .dead := (hf s (by simp)).trans hs
  have h1 := hr.eval y
  rw [hv y (by simp [Op.operands, Call.operands]), hy] at h1
  have h1 := h1.int_inv
  have hrun : ∀ R, (callFunc g #[.slice none 0 0, .int .i64 n]).run P w = R → (execOp a.eval ⟨dst, .call ⟨.value (.func g), #[.const (.slice none 0 0), y], cargs⟩, type, pos, after, guard⟩).run P w = R := fun R h => by
    have e1 : a.eval (.const (.slice none 0 0)) = .slice none 0 0 := rfl
    have e2 : a.eval (.func g) = .func (.func g) #[] #[] := rfl
    simp only [execOp, resolve, e2, Deferred.ofValue, invoke, Sem.run_bind, Sem.run_pure, Result.andThen_ok, List.map_toArray, List.map_cons, List.map_nil, e1, h1]
    simpa using h
  have hfin : ∀ (u : Value) (w' : World), (∃ b cap, u = .slice (b.map fun b => ⟨b, 0, none⟩) 0 cap ∧ Keep (fun _ _ => False) w w' ∧ (b = none → cap = 0) ∧
      ∀ k, b = some k → w.heap.size ≤ k ∧ ∃ c ty, w'.heap[k]? = some (.cells c ty (0, 0)) ∧ cap * sz t ≤ c.size) → K (a.put dst u) w' := fun u w' ⟨b, cap, e1, e2, e3, e4⟩ => by
    subst e1
    have h2 := hr.newVec e2 t hs' (by rw [hC]; exact hm) e3 e4
    have hslt := lt_of_getElem? hs'
    exact hK _ _ _ ⟨_, rfl⟩ (h2.put (v := .gro s 0) (.gro_now (by rw [List.getElem?_set_self (by rw [hr.llen]; exact hslt)])) dst)
  rcases hG n w hn with ⟨u, w', h2, h3⟩ | ⟨h2, h3⟩
  · exact wp_of_value (hrun _ h2) (hfin u w' h3)
  · refine ⟨fun _ _ => trivial, ?_⟩
    rw [show (ro fr).round = fr from rfl, run_semAt (hrun _ h2) (by intro d e; cases e) fr]
    refine ⟨fun h => (by cases h), callsIn_ro.2 (Calls.mono h3 fun e w' he => ?_)⟩
    obtain ⟨u, rfl, h4⟩ := he
    exact hfin u w' h4

end ops
end Go.Ull
