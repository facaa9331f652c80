/- math/bits, by the shelf's contracts. -/
import Derived.Test.YtmgdofgmidbddaaGrowL
import Derived.Shelf.Bits.Mul64
import Derived.Shelf.Small.Bits
namespace Go.Proofs
open Go.Shelf
def Try.lz_ren : Go.Shelf.Ren := ⟨fun | 134 => 171 | 129 => 172 | n => n, fun | 53 => 98 | 3 => 3 | 4 => 4 | 46 => 97 | 5 => 5 | 9 => 9 | n => n, fun | n => n⟩
theorem Try.lz : Go.Proofs.Lays.n134 Try.prog Try.lz_ren := {
  mixed := by kernel_rfl
  f129 := Try.func172.trans (congrArg some (by kernel_rfl))
  f134 := Try.func171.trans (congrArg some (by kernel_rfl))
  t3 := Try.underlying3
  a3 := Try.isAgg3
  z3 := Try.sizeOf3
  v3 := Try.zeroValue3
  t4 := Try.underlying4
  a4 := Try.isAgg4
  z4 := Try.sizeOf4
  v4 := Try.zeroValue4
  t5 := Try.underlying5
  a5 := Try.isAgg5
  z5 := Try.sizeOf5
  v5 := Try.zeroValue5
  t9 := Try.underlying9
  a9 := Try.isAgg9
  z9 := Try.sizeOf9
  v9 := Try.zeroValue9
  t46 := Try.underlying97
  a46 := Try.isAgg97
  z46 := Try.sizeOf97
  v46 := Try.zeroValue97
  t53 := Try.underlying98
  a53 := Try.isAgg98
  z53 := Try.sizeOf98
  v53 := Try.zeroValue98 }
def Try.mul64_ren : Go.Shelf.Ren := ⟨fun | 264 => 159 | n => n, fun | 53 => 98 | 46 => 97 | n => n, fun | n => n⟩
theorem Try.mul64 : Go.Proofs.Lays.n264 Try.prog Try.mul64_ren := {
  mixed := by kernel_rfl
  f264 := Try.func159.trans (congrArg some (by kernel_rfl))
  t46 := Try.underlying97
  a46 := Try.isAgg97
  z46 := Try.sizeOf97
  v46 := Try.zeroValue97
  t53 := Try.underlying98
  a53 := Try.isAgg98
  z53 := Try.sizeOf98
  v53 := Try.zeroValue98 }
end Go.Proofs
namespace Go.Ull
open Go.RowKit
/-- A function that hands back a value and leaves the world as it is. -/
theorem goodCall_calls {P : Program} {g : FuncId} {args : List AV} {bs : List Blk} {v : AV}
    (h : ∀ (a : Array Value) (w : World) (X : Nat → Nat → Prop) (loc : List Loc), a.size = args.length → (∀ (i : Nat) c, args[i]? = some c → RelV w X loc c (a.getD i Go.undef)) →
      ∃ u, (callFunc g a).run P w = .ok (.enter g a) w ∧ Calls P g a w (fun e w' => e = .returned u ∧ w' = w) ∧ RelV w X loc v u) : GoodCall P g args bs v bs := fun C a loc hm hl hr => by
  obtain ⟨u, h1, h2, h3⟩ := h a C.w0 _ loc hr.tms hr.tm
  exact .inr ⟨h1, h2.mono fun e w' ⟨h4, h5⟩ => ⟨u, h4, loc, by subst h5; exact hr.mkValue h3⟩⟩

theorem one_arg {w : World} {X : Nat → Nat → Prop} {loc : List Loc} {x : Int} {k1 : IntKind} {a : Array Value} (hs : a.size = 1)
    (h : ∀ (i : Nat) d, [AV.int k1 x][i]? = some d → RelV w X loc d (a.getD i Go.undef)) : a = #[.int k1 x] := by
  have h0 := (h 0 _ rfl).int_inv
  apply Array.ext (by simpa using hs)
  intro i h3 h4
  have h5 : a.getD i Go.undef = a[i] := by simp [Array.getD_eq_getD_getElem?, h3]
  match i, h4 with
  | 0, _ => rw [← h5, h0]; rfl

theorem two_args {w : World} {X : Nat → Nat → Prop} {loc : List Loc} {x y : Int} {k1 k2 : IntKind} {a : Array Value} (hs : a.size = 2)
    (h : ∀ (i : Nat) d, [AV.int k1 x, AV.int k2 y][i]? = some d → RelV w X loc d (a.getD i Go.undef)) : a = #[.int k1 x, .int k2 y] := by
  have h0 := (h 0 _ rfl).int_inv
  have h1 := (h 1 _ rfl).int_inv
  apply Array.ext (by simpa using hs)
  intro i h3 h4
  have h5 : a.getD i Go.undef = a[i] := by simp [Array.getD_eq_getD_getElem?, h3]
  match i, h4 with
  | 0, _ => rw [← h5, h0]; rfl
  | 1, _ => rw [← h5, h1]; rfl

@[reducible] def lzI (x : Int) : Int := 64 - (Lib.bitLen x.toNat : Int)

def lz64E : Entry := fun _ args bs k =>
  match args with
  | [.int .u64 x] => cond (decide (0 ≤ x) && decide (x ≤ 18446744073709551615)) (k (i64 (lzI x)) bs) none
  | _ => none

@[reducible] def mulHi (x y : Int) : Int := ((x.toNat * y.toNat / 18446744073709551616 : Nat) : Int)
@[reducible] def mulLo (x y : Int) : Int := ((x.toNat * y.toNat % 18446744073709551616 : Nat) : Int)

def mul64E : Entry := fun _ args bs k =>
  match args with
  | [.int .u64 x, .int .u64 y] => cond (decide (0 ≤ x) && (decide (x ≤ 18446744073709551615) && (decide (0 ≤ y) && decide (y ≤ 18446744073709551615))))
      (k (.tuple [.int .u64 (mulHi x y), .int .u64 (mulLo x y)]) bs) none
  | _ => none
end Go.Ull
namespace Go.Proofs.Ytmgdofgmidbddaa
open Go Go.Ull
theorem lz_ok : EntryOK Try.prog 171 lz64E := fun ρ args bs k r h => by
  unfold lz64E at h
  split at h
  · rename_i x
    obtain ⟨h1, h2⟩ := cond_none h
    simp only [Bool.and_eq_true, decide_eq_true_eq] at h1
    refine ⟨_, _, h2, goodCall_calls fun a w X loc hs hr => ?_⟩
    have := one_arg hs hr
    subst this
    exact ⟨_, Go.MuLone.run_callFunc_enter Try.func171 (by kernel_rfl) (show Try.f171.body = some (Try.f171.body.getD .skip) by kernel_rfl) _ _, Any.bits_LeadingZeros64 Try.lz x w h1.1 h1.2, .int _ _⟩
  · cases h
theorem mul_ok : EntryOK Try.prog 159 mul64E := fun ρ args bs k r h => by
  unfold mul64E at h
  split at h
  · rename_i x y
    obtain ⟨h1, h2⟩ := cond_none h
    simp only [Bool.and_eq_true, decide_eq_true_eq] at h1
    obtain ⟨h1, h3, h4, h5⟩ := h1
    refine ⟨_, _, h2, goodCall_calls fun a w X loc hs hr => ?_⟩
    have := two_args hs hr
    subst this
    obtain ⟨x, rfl⟩ := Int.eq_ofNat_of_zero_le h1
    obtain ⟨y, rfl⟩ := Int.eq_ofNat_of_zero_le h4
    refine ⟨_, Go.MuLone.run_callFunc_enter Try.func159 (by kernel_rfl) (show Try.f159.body = some (Try.f159.body.getD .skip) by kernel_rfl) _ _, Any.bits_Mul64 Try.mul64 x y (by omega) (by omega) w, ?_⟩
    refine .tuple _ _ rfl fun i d hi => ?_
    match i with
    | 0 => cases hi; exact .int _ _
    | 1 => cases hi; exact .int _ _
    | i + 2 => simp at hi
  · cases h
end Go.Proofs.Ytmgdofgmidbddaa
