/- The abstract operations are sound: slices of slices, len, max, min, == of aggregates. -/
import Derived.Test.YtmgdofgmidbddaaFrJ
import Derived.ChangeKeysEq
namespace Go.Ull
open Go.RowKit

theorem run_bounds {P : Program} {w : World} {n l h : Nat} {lo hi : Option Value} {kl kh : IntKind} (hlo : match lo with | some v => v = .int kl (l : Int) | none => l = 0)
    (hhi : match hi with | some v => v = .int kh (h : Int) | none => h = n) (hlh : l ≤ h) (hhn : h ≤ n) : (Instr.sliceBounds false n n lo hi none).run P w = .ok (l, h, n) w := by
  cases lo <;> cases hi <;> simp only at hlo hhi <;> subst hlo <;> subst hhi
  · simp [Instr.sliceBounds]
  · simp only [Instr.sliceBounds, Sem.run_bind, Sem.run_pure, Result.andThen_ok, Instr.sliceBound, asIntOf]
    rw [if_pos (by omega)]; simp
  · simp only [Instr.sliceBounds, Sem.run_bind, Sem.run_pure, Result.andThen_ok, Instr.sliceBound, asIntOf]
    rw [if_pos (by omega)]; simp
  · simp only [Instr.sliceBounds, Sem.run_bind, Sem.run_pure, Result.andThen_ok, Instr.sliceBound, asIntOf]
    rw [if_pos (by omega)]
    simp only [Sem.run_pure, Result.andThen_ok, Int.toNat_natCast]
    rw [if_pos (by omega)]; simp

section ops
variable {P : Program} {T : Tab} {dst : Option Tmp} {type : TypeId} {pos : String} {after : Array Edge} {guard : Option (Nat × Bool)}
variable {vals : Operand → AV} {hp : List Blk}

theorem ok_slice_lst (hT : TabOK P T) (t : TypeId) (x y : Operand) {e : ElT} (ht : T.tyOf t = .slice e) {xs : List (El e)} {k : IntKind} {l : Int}
    (hx : vals x = .lst e xs) (hy : vals y = .int k l) (h0 : 0 ≤ l) (h1 : l ≤ (xs.length : Int)) :
    OpOK P T ⟨dst, .slice t x (some y) none none, type, pos, after, guard⟩ vals hp [] (.lst e (xs.drop l.toNat)) [] :=
  opOK_value fun C σ a w loc hr hv _ => by
    have g1 := hv x (by simp [Op.operands]); rw [hx] at g1
    obtain ⟨base, cap, b, o, cv, g1, hcap, hb, hc, hrel⟩ := g1.lst_inv
    have g2 := hv y (by simp [Op.operands]); rw [hy] at g2
    obtain ⟨el, k1, k2, k3, k4, k5, _⟩ := slice_of hT ht
    obtain ⟨n, rfl⟩ := Int.eq_ofNat_of_zero_le h0
    have hn : n ≤ xs.length := by omega
    refine ⟨.slice (if cap = n then base else base.map (·.add (n * sz e))) (xs.length - n) (cap - n), ?_, ?_⟩
    · simp only [execOp, g1, g2.int_inv, Instr.sliceAt, Sem.run_bind, run_underlying k1, Result.andThen_ok, Instr.slice, Instr.sliceBounds, Option.map_some, Option.map_none, Sem.run_pure, Instr.sliceBound, asIntOf]
      rw [if_pos (by omega)]
      simp [run_sizeOf_cells k4, k2]
    · have hlen : (xs.drop n).length = xs.length - n := by simp
      simp only [Int.toNat_natCast]
      refine .lst e (xs.drop n) _ _ _ b (o + n * sz e) (fun i j => cv (n + i) j) (by simp) (by omega) (fun h => ?_) (fun i x j c hi hj => ?_) (fun i x j c hi hj => ?_)
      · rw [if_neg (by omega), hb (by omega)]
        simp [addr_add]
      · rw [List.getElem?_drop] at hi
        have := hc _ x j c hi hj
        rwa [show o + n * sz e + i * sz e + j = o + (n + i) * sz e + j by rw [Nat.add_mul]; omega]
      · rw [List.getElem?_drop] at hi
        exact hrel _ x j c hi hj

/-- A slice of an array of one's own, which is written no more. -/
theorem ok_slice_arr (hT : TabOK P T) (t : TypeId) (x : Operand) (lo hi : Option Operand) {n s : Nat} {g : Bool} {e : ElT} {z : List AV} (ht : T.tyOf t = .arr n s g (some e) z) {b off l h : Nat} {cs : List AV} {r : Bool} {xs : List (El e)}
    {kl kh : IntKind} (fp : List Nat) (hx : vals x = .ptr b off) (hlo : match lo with | some y => vals y = .int kl (l : Int) | none => l = 0) (hhi : match hi with | some y => vals y = .int kh (h : Int) | none => h = n)
    (hb : hp[b]? = some (.box cs r)) (hm : b ∈ fp) (hmb : T.m ≤ b) (hlh : l ≤ h) (hhn : h ≤ n) (hle : off + n * s ≤ cs.length)
    (hd : decAll e (chunk n s (((cs.drop off).take (h * s)).drop (l * s))) = some xs) :
    OpOK P T ⟨dst, .slice t x lo hi none, type, pos, after, guard⟩ vals hp fp (.lst e xs) [(b, .box cs true)] := by
  intro C σ a w loc hC hr hv hf fr mm K Q hK
  have g1 := hr.eval x; rw [hv x (by cases lo <;> cases hi <;> simp [Op.operands]), hx] at g1
  obtain ⟨cb, hl, g1⟩ := g1.ptr_inv
  have hb' : σ.hp[b]? = some (.box cs r) := (hf b hm).trans hb
  obtain ⟨el, k1, k2, k3, k4, k5, k6, k7⟩ := arr_of hT ht
  obtain ⟨k7, k8⟩ := k7 e rfl
  have hr2 := hr.freeze hb' (by omega)
  have hblt := lt_of_getElem? hb'
  obtain ⟨cb', c, ty, hl', hc, hn, hrel, hro⟩ := hr2.box_loc (i := b) (cs := cs) (r := true) (by simp [hblt])
  rw [hl] at hl'; cases hl'
  have hxl : xs.length = h - l := by
    rw [decAll_length hd]
    refine chunk_length (by rw [← k7]; exact sz_pos e) (q := h - l) ?_ (by omega)
    simp only [List.length_drop, List.length_take]
    have : h * s ≤ n * s := Nat.mul_le_mul_right _ hhn
    rw [Nat.sub_mul]; omega
  refine wp_of_value (w' := w) (x := .slice (some (if n = l then ⟨cb, off, none⟩ else ⟨cb, off + l * s, none⟩)) (h - l) (n - l)) ?_ (hK _ _ loc ⟨_, rfl⟩ ?_)
  · have e1 : ∀ y, hi = some y → a.eval y = .int kh (h : Int) := fun y hy => by
      have := hr.eval y
      rw [hv y (by subst hy; cases lo <;> simp [Op.operands])] at this
      subst hy
      simp only at hhi
      rw [hhi] at this
      exact this.int_inv
    have e2 : ∀ y, lo = some y → a.eval y = .int kl (l : Int) := fun y hy => by
      have := hr.eval y
      rw [hv y (by subst hy; cases hi <;> simp [Op.operands])] at this
      subst hy
      simp only at hlo
      rw [hlo] at this
      exact this.int_inv
    have hB := run_bounds (P := P) (w := w) (n := n) (l := l) (h := h) (lo := lo.map a.eval) (hi := hi.map a.eval) (kl := kl) (kh := kh)
      (by cases lo with | none => exact hlo | some y => exact e2 y rfl) (by cases hi with | none => exact hhi | some y => exact e1 y rfl) hlh hhn
    simp only [execOp, g1, Instr.sliceAt, Sem.run_bind, run_underlying k1, Result.andThen_ok, Instr.sureAddr, Sem.run_pure, Option.map_none, run_sizeOf_cells k4, k2, hB, addr_add]
  · have hrv : RelV w (C.X (σ.hp.set b (.box cs true)) loc) loc (.lst e xs) (.slice (some (if n = l then ⟨cb, off, none⟩ else ⟨cb, off + l * s, none⟩)) (h - l) (n - l)) := by
      have := lst_of_cells (w := w) (X := C.X (σ.hp.set b (.box cs true)) loc) (loc := loc) (t := e) (xs := xs) (base := some (if n = l then ⟨cb, off, none⟩ else ⟨cb, off + l * s, none⟩)) (cap := n - l) (b := cb) (o := off + l * s)
        (fun j => c.getD (off + l * s + j) Go.undef) (by omega) (fun hp => by rw [if_neg (by omega)]) (fun j hj => by
          rw [hxl, k7] at hj
          have h2 : l * s + (h - l) * s = h * s := by rw [← Nat.add_mul]; congr 1; omega
          have h3 : h * s ≤ n * s := Nat.mul_le_mul_right _ hhn
          have hlt : off + l * s + j < c.size := by omega
          exact ⟨by simp [World.cell?, hc, hlt, Array.getD_eq_getD_getElem?], hro rfl _ (by omega)⟩)
        (by
          rw [← k7] at hd
          refine decAll_rel hd _ fun j d hj => ?_
          rw [List.getElem?_drop, List.getElem?_take] at hj
          split at hj
          · rw [List.getElem?_drop] at hj
            have := hrel _ d hj
            rwa [k7, ← Nat.add_assoc] at this
          · cases hj)
      rw [hxl] at this
      exact this
    exact hr2.put hrv dst

theorem run_builtin_op (ρ : Operand → Value) (b : Builtin) (args : Array Operand) (cargs : Array TypeId) (w : World) :
    (execOp ρ ⟨dst, .call ⟨.builtin b, args, cargs⟩, type, pos, after, guard⟩).run P w = (builtin b cargs type (args.map fun | .const _ => true | _ => false) (args.map ρ)).run P w := by
  simp only [execOp, resolve, Sem.run_bind, Sem.run_pure, Result.andThen_ok, invoke]
  rfl

theorem ok_len (hT : TabOK P T) (cargs : Array TypeId) (x : Operand) {e : ElT} (ht : T.tyOf (cargs.getD 0 0) = .slice e) (hc : 0 < cargs.size) {n : Int} (fp : List Nat) (hn : lenEv hp (vals x) = some n) (hids : ∀ i ∈ (vals x).ids, i ∈ fp) :
    OpOK P T ⟨dst, .call ⟨.builtin .len, #[x], cargs⟩, type, pos, after, guard⟩ vals hp fp (i64 n) [] :=
  opOK_value fun C σ a w loc hr hv hf => by
    have g1 := hv x (by simp [Op.operands, Call.operands])
    obtain ⟨el, k1, _⟩ := slice_of hT ht
    have hlen : ∃ b c m, a.eval x = .slice b m c ∧ (m : Int) = n := by
      revert hn hids g1
      generalize vals x = v
      generalize a.eval x = u
      intro hn hids g1
      unfold lenEv at hn
      split at hn
      · obtain ⟨base, cap, b, o, cv, rfl, _⟩ := g1.lst_inv
        cases hn
        exact ⟨_, _, _, rfl, rfl⟩
      · cases g1; cases hn; exact ⟨_, _, _, rfl, rfl⟩
      · cases g1; cases hn; exact ⟨_, _, _, rfl, rfl⟩
      · rename_i b n1
        split at hn
        · rename_i c1 t xs hb
          cases hnc : Nat.beq n1 c1 with
          | false => rw [hnc] at hn; cases hn
          | true =>
            rw [hnc] at hn
            cases hn
            cases g1 with
            | gro _ _ c2 b' len cap s' len' cap' hloc hle hv2 =>
              have hb' := (hf b (hids b (by simp [AV.ids]))).trans hb
              have := hr.hp b _ _ hb' hloc
              obtain ⟨rfl, hl2, _⟩ := this
              obtain ⟨_, rfl, _⟩ := hv2 (Nat.eq_of_beq_eq_true hnc)
              exact ⟨_, _, _, rfl, by rw [hl2]⟩
        · cases hn
      · cases hn
    obtain ⟨b, c, m, g2, rfl⟩ := hlen
    refine ⟨.int .i64 m, ?_, .int _ _⟩
    have hc0 : cargs[0]? = some (cargs.getD 0 0) := by simp [hc, Array.getD_eq_getD_getElem?]
    rw [run_builtin_op]
    have : (Builtin.len_ cargs type #[a.eval x]).run P w = .ok (.int .i64 m) w := by
      unfold Builtin.len_
      rw [hc0, g2]
      simp only [List.getElem?_toArray, List.getElem?_cons_zero, Sem.run_bind, run_underlying k1, Result.andThen_ok, Sem.run_pure, goInt]
    simp only [List.map_toArray, List.map_cons, List.map_nil, builtin, Sem.run_bind, this, Result.andThen_ok, Sem.run_pure]

theorem maxEv_run {w : World} {X : Nat → Nat → Prop} {loc : List Loc} : ∀ {l : List AV} {vs : List Value} {m r : Int}, maxEv m l = some r → l.length = vs.length → (∀ (i : Nat) c, l[i]? = some c → RelV w X loc c (vs.getD i Go.undef)) →
    (vs.foldlM Builtin.max2 (.int .i64 m)).run P w = .ok (.int .i64 r) w
  | [], [], m, r, h, _, _ => by cases h; rfl
  | [], _ :: _, _, _, _, hl, _ => by simp at hl
  | _ :: _, [], _, _, _, hl, _ => by simp at hl
  | c :: cs, v :: vs, m, r, h, hl, hr => by
    have h0 := hr 0 c rfl
    simp at h0
    cases c with
    | int k n =>
      cases k with
      | i64 =>
        rw [h0.int_inv]
        simp only [maxEv] at h
        simp only [List.foldlM_cons, Sem.run_bind, Builtin.max2, Sem.run_pure, Result.andThen_ok]
        exact maxEv_run h (by simpa using hl) fun i c hi => by simpa using hr (i + 1) c (by simpa using hi)
      | _ => simp [maxEv] at h
    | _ => simp [maxEv] at h

theorem minEv_run {w : World} {X : Nat → Nat → Prop} {loc : List Loc} : ∀ {l : List AV} {vs : List Value} {m r : Int}, minEv m l = some r → l.length = vs.length → (∀ (i : Nat) c, l[i]? = some c → RelV w X loc c (vs.getD i Go.undef)) →
    (vs.foldlM Builtin.min2 (.int .i64 m)).run P w = .ok (.int .i64 r) w
  | [], [], m, r, h, _, _ => by cases h; rfl
  | [], _ :: _, _, _, _, hl, _ => by simp at hl
  | _ :: _, [], _, _, _, hl, _ => by simp at hl
  | c :: cs, v :: vs, m, r, h, hl, hr => by
    have h0 := hr 0 c rfl
    simp at h0
    cases c with
    | int k n =>
      cases k with
      | i64 =>
        rw [h0.int_inv]
        simp only [minEv] at h
        simp only [List.foldlM_cons, Sem.run_bind, Builtin.min2, Sem.run_pure, Result.andThen_ok]
        exact minEv_run h (by simpa using hl) fun i c hi => by simpa using hr (i + 1) c (by simpa using hi)
      | _ => simp [minEv] at h
    | _ => simp [minEv] at h

theorem ok_max (args : Array Operand) (cargs : Array TypeId) {n m : Int} {r : List AV} (ha : args.toList.map vals = .int .i64 n :: r) (hm : maxEv n r = some m) :
    OpOK P T ⟨dst, .call ⟨.builtin .max, args, cargs⟩, type, pos, after, guard⟩ vals hp [] (i64 m) [] :=
  opOK_value fun C σ a w loc hr hv _ => by
    refine ⟨.int .i64 m, ?_, .int _ _⟩
    rw [run_builtin_op]
    have hargs : ∀ (i : Nat) c, (args.toList.map vals)[i]? = some c → RelV w (C.X σ.hp loc) loc c ((args.toList.map a.eval).getD i Go.undef) := fun i c hi => by
      rw [List.getElem?_map] at hi
      cases hx : args.toList[i]? with
      | none => simp [hx] at hi
      | some x =>
        simp only [hx, Option.map_some, Option.some.injEq] at hi
        subst hi
        have hmem : x ∈ args := by rw [← Array.mem_toList_iff]; exact List.mem_of_getElem? hx
        simpa [List.getD, List.getElem?_map, hx] using hv x (by simp [Op.operands, Call.operands, hmem])
    rw [ha] at hargs
    have hl : (args.toList.map vals).length = (args.toList.map a.eval).length := by simp
    rw [ha] at hl
    cases hvs : args.toList.map a.eval with
    | nil => rw [hvs] at hl; simp at hl
    | cons v vs =>
      rw [hvs] at hargs hl
      have h0 := (hargs 0 _ rfl)
      simp at h0
      have h0 := h0.int_inv
      subst h0
      have : (Builtin.max_ cargs type (args.map a.eval)).run P w = .ok (.int .i64 m) w := by
        unfold Builtin.max_
        rw [Array.toList_map, hvs]
        exact maxEv_run hm (by simpa using hl) fun i c hi => by simpa using hargs (i + 1) c (by simpa using hi)
      simp only [builtin, Sem.run_bind, this, Result.andThen_ok, Sem.run_pure]

theorem ok_min (args : Array Operand) (cargs : Array TypeId) {n m : Int} {r : List AV} (ha : args.toList.map vals = .int .i64 n :: r) (hm : minEv n r = some m) :
    OpOK P T ⟨dst, .call ⟨.builtin .min, args, cargs⟩, type, pos, after, guard⟩ vals hp [] (i64 m) [] :=
  opOK_value fun C σ a w loc hr hv _ => by
    refine ⟨.int .i64 m, ?_, .int _ _⟩
    rw [run_builtin_op]
    have hargs : ∀ (i : Nat) c, (args.toList.map vals)[i]? = some c → RelV w (C.X σ.hp loc) loc c ((args.toList.map a.eval).getD i Go.undef) := fun i c hi => by
      rw [List.getElem?_map] at hi
      cases hx : args.toList[i]? with
      | none => simp [hx] at hi
      | some x =>
        simp only [hx, Option.map_some, Option.some.injEq] at hi
        subst hi
        have hmem : x ∈ args := by rw [← Array.mem_toList_iff]; exact List.mem_of_getElem? hx
        simpa [List.getD, List.getElem?_map, hx] using hv x (by simp [Op.operands, Call.operands, hmem])
    rw [ha] at hargs
    have hl : (args.toList.map vals).length = (args.toList.map a.eval).length := by simp
    rw [ha] at hl
    cases hvs : args.toList.map a.eval with
    | nil => rw [hvs] at hl; simp at hl
    | cons v vs =>
      rw [hvs] at hargs hl
      have h0 := (hargs 0 _ rfl)
      simp at h0
      have h0 := h0.int_inv
      subst h0
      have : (Builtin.min_ cargs type (args.map a.eval)).run P w = .ok (.int .i64 m) w := by
        unfold Builtin.min_
        rw [Array.toList_map, hvs]
        exact minEv_run hm (by simpa using hl) fun i c hi => by simpa using hargs (i + 1) c (by simpa using hi)
      simp only [builtin, Sem.run_bind, this, Result.andThen_ok, Sem.run_pure]

end ops
end Go.Ull
