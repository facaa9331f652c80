/- The typed data of the program and an abstract evaluator of its code: definitions only. -/
import Derived.WalkKit
import Derived.KernelRfl
namespace Go.Ull

structure Span where
  lo : Int
  hi : Int
structure Big where
  neg : Bool
  hi : Int
  lo : Int
structure W where
  h : Int
  l : Int
structure Box where
  x : Span
  y : Span
  z : Span
structure Point where
  pos : Int
  val : Span
structure Planet where
  mu : Span
  radius : Span
  oblate : Span
  spin : Span
  pull : Box
structure State where
  t : Int
  p : Box
  v : Box
  m : Span
structure Arc where
  time : Int
  step : Int
  thrust : Span
  flow : Span
  dir : Box
  drag : List Point
  drop : Span
structure Tube where
  fr : Int
  to : Int
  p : Box
  v : Box
  m : Span
structure Radio where
  kind : Int
  fr : Box
  dir : Box
  value : Span
structure Knob where
  pitch : Span
  level : Span
structure Part where
  arc : Arc
  pitch : Span
  level : Span
structure Ascent where
  planet : Planet
  start : State
  east : Box
  up : Box
  parts : List Part
  density : List Point
  axial : Int
  bending : Int
  height : Span
  speed : Span
  climb : Span
  gap : Int
structure Window where
  period : Int
  fr : Int
  len : Int
structure Slot where
  fr : Int
  to : Int
structure Update where
  h : Int
  acc : Box
  heard : List Radio
structure Report where
  node : Int
  sensor : Int
  heard : Radio
structure Lesson where
  part : Span
  kept : Bool
  node : Int

/-- The types of the elements of slices. -/
inductive ElT where
  | num | span | big | w | box | point | arc | state | tube | radio | knob | part | slot | update | report | lesson | pair | num2 | spans
  deriving DecidableEq

abbrev El : ElT → Type
  | .num => Int
  | .span => Span
  | .big => Big
  | .w => W
  | .box => Box
  | .point => Point
  | .arc => Arc
  | .state => State
  | .tube => Tube
  | .radio => Radio
  | .knob => Knob
  | .part => Part
  | .slot => Slot
  | .update => Update
  | .report => Report
  | .lesson => Lesson
  | .pair => Span × Span
  | .num2 => Int × Int
  | .spans => List Span

/-- Abstract values. 'undef' stands for any value. -/
inductive AV where
  | undef
  | bool (b : Bool)
  | int (k : IntKind) (n : Int)
  | agg (cs : List AV)
  | tuple (vs : List AV)
  | lst (t : ElT) (xs : List (El t))
  | nils
  | gro (b ver : Nat)
  | bsl (b n : Nat) (t : ElT)
  | eptr (cs : List AV)
  | ptr (b o : Nat)
  | nilp
  | fn (f : Fn) (first captured : List AV)
  | nilfn
  | iface (t : TypeId) (v : AV)
  | niliface
  deriving Inhabited

abbrev i64 (n : Int) : AV := .int .i64 n

@[reducible] def cSpan (s : Span) : List AV := [i64 s.lo, i64 s.hi]
@[reducible] def cBig (b : Big) : List AV := [.bool b.neg, .int .u64 b.hi, .int .u64 b.lo]
@[reducible] def cW (b : W) : List AV := [i64 b.h, .int .u64 b.l]
@[reducible] def cBox (b : Box) : List AV := [i64 b.x.lo, i64 b.x.hi, i64 b.y.lo, i64 b.y.hi, i64 b.z.lo, i64 b.z.hi]
@[reducible] def cPoint (p : Point) : List AV := [i64 p.pos, i64 p.val.lo, i64 p.val.hi]
@[reducible] def cPlanet (p : Planet) : List AV :=
  [i64 p.mu.lo, i64 p.mu.hi, i64 p.radius.lo, i64 p.radius.hi, i64 p.oblate.lo, i64 p.oblate.hi, i64 p.spin.lo, i64 p.spin.hi,
   i64 p.pull.x.lo, i64 p.pull.x.hi, i64 p.pull.y.lo, i64 p.pull.y.hi, i64 p.pull.z.lo, i64 p.pull.z.hi]
@[reducible] def cState (s : State) : List AV :=
  [i64 s.t, i64 s.p.x.lo, i64 s.p.x.hi, i64 s.p.y.lo, i64 s.p.y.hi, i64 s.p.z.lo, i64 s.p.z.hi,
   i64 s.v.x.lo, i64 s.v.x.hi, i64 s.v.y.lo, i64 s.v.y.hi, i64 s.v.z.lo, i64 s.v.z.hi, i64 s.m.lo, i64 s.m.hi]
@[reducible] def cArc (a : Arc) : List AV :=
  [i64 a.time, i64 a.step, i64 a.thrust.lo, i64 a.thrust.hi, i64 a.flow.lo, i64 a.flow.hi,
   i64 a.dir.x.lo, i64 a.dir.x.hi, i64 a.dir.y.lo, i64 a.dir.y.hi, i64 a.dir.z.lo, i64 a.dir.z.hi,
   .lst .point a.drag, i64 a.drop.lo, i64 a.drop.hi]
@[reducible] def cTube (s : Tube) : List AV :=
  [i64 s.fr, i64 s.to, i64 s.p.x.lo, i64 s.p.x.hi, i64 s.p.y.lo, i64 s.p.y.hi, i64 s.p.z.lo, i64 s.p.z.hi,
   i64 s.v.x.lo, i64 s.v.x.hi, i64 s.v.y.lo, i64 s.v.y.hi, i64 s.v.z.lo, i64 s.v.z.hi, i64 s.m.lo, i64 s.m.hi]
@[reducible] def cRadio (r : Radio) : List AV :=
  [i64 r.kind, i64 r.fr.x.lo, i64 r.fr.x.hi, i64 r.fr.y.lo, i64 r.fr.y.hi, i64 r.fr.z.lo, i64 r.fr.z.hi,
   i64 r.dir.x.lo, i64 r.dir.x.hi, i64 r.dir.y.lo, i64 r.dir.y.hi, i64 r.dir.z.lo, i64 r.dir.z.hi, i64 r.value.lo, i64 r.value.hi]
@[reducible] def cKnob (k : Knob) : List AV := [i64 k.pitch.lo, i64 k.pitch.hi, i64 k.level.lo, i64 k.level.hi]
@[reducible] def cPart (q : Part) : List AV :=
  [i64 q.arc.time, i64 q.arc.step, i64 q.arc.thrust.lo, i64 q.arc.thrust.hi, i64 q.arc.flow.lo, i64 q.arc.flow.hi,
   i64 q.arc.dir.x.lo, i64 q.arc.dir.x.hi, i64 q.arc.dir.y.lo, i64 q.arc.dir.y.hi, i64 q.arc.dir.z.lo, i64 q.arc.dir.z.hi,
   .lst .point q.arc.drag, i64 q.arc.drop.lo, i64 q.arc.drop.hi, i64 q.pitch.lo, i64 q.pitch.hi, i64 q.level.lo, i64 q.level.hi]
@[reducible] def cAscent (t : Ascent) : List AV :=
  [i64 t.planet.mu.lo, i64 t.planet.mu.hi, i64 t.planet.radius.lo, i64 t.planet.radius.hi, i64 t.planet.oblate.lo, i64 t.planet.oblate.hi, i64 t.planet.spin.lo, i64 t.planet.spin.hi,
   i64 t.planet.pull.x.lo, i64 t.planet.pull.x.hi, i64 t.planet.pull.y.lo, i64 t.planet.pull.y.hi, i64 t.planet.pull.z.lo, i64 t.planet.pull.z.hi,
   i64 t.start.t, i64 t.start.p.x.lo, i64 t.start.p.x.hi, i64 t.start.p.y.lo, i64 t.start.p.y.hi, i64 t.start.p.z.lo, i64 t.start.p.z.hi,
   i64 t.start.v.x.lo, i64 t.start.v.x.hi, i64 t.start.v.y.lo, i64 t.start.v.y.hi, i64 t.start.v.z.lo, i64 t.start.v.z.hi, i64 t.start.m.lo, i64 t.start.m.hi,
   i64 t.east.x.lo, i64 t.east.x.hi, i64 t.east.y.lo, i64 t.east.y.hi, i64 t.east.z.lo, i64 t.east.z.hi,
   i64 t.up.x.lo, i64 t.up.x.hi, i64 t.up.y.lo, i64 t.up.y.hi, i64 t.up.z.lo, i64 t.up.z.hi,
   .lst .part t.parts, .lst .point t.density, i64 t.axial, i64 t.bending, i64 t.height.lo, i64 t.height.hi, i64 t.speed.lo, i64 t.speed.hi,
   i64 t.climb.lo, i64 t.climb.hi, i64 t.gap]
@[reducible] def cWindow (w : Window) : List AV := [i64 w.period, i64 w.fr, i64 w.len]
@[reducible] def cSlot (s : Slot) : List AV := [i64 s.fr, i64 s.to]
@[reducible] def cUpdate (u : Update) : List AV :=
  [i64 u.h, i64 u.acc.x.lo, i64 u.acc.x.hi, i64 u.acc.y.lo, i64 u.acc.y.hi, i64 u.acc.z.lo, i64 u.acc.z.hi, .lst .radio u.heard]
@[reducible] def cReport (r : Report) : List AV :=
  [i64 r.node, i64 r.sensor, i64 r.heard.kind, i64 r.heard.fr.x.lo, i64 r.heard.fr.x.hi, i64 r.heard.fr.y.lo, i64 r.heard.fr.y.hi, i64 r.heard.fr.z.lo, i64 r.heard.fr.z.hi,
   i64 r.heard.dir.x.lo, i64 r.heard.dir.x.hi, i64 r.heard.dir.y.lo, i64 r.heard.dir.y.hi, i64 r.heard.dir.z.lo, i64 r.heard.dir.z.hi, i64 r.heard.value.lo, i64 r.heard.value.hi]
@[reducible] def cLesson (l : Lesson) : List AV := [i64 l.part.lo, i64 l.part.hi, .bool l.kept, i64 l.node]

/-- The cells of an element. -/
@[reducible] def enc : (t : ElT) → El t → List AV
  | .num, x => [i64 x]
  | .span, x => cSpan x
  | .big, x => cBig x
  | .w, x => cW x
  | .box, x => cBox x
  | .point, x => cPoint x
  | .arc, x => cArc x
  | .state, x => cState x
  | .tube, x => cTube x
  | .radio, x => cRadio x
  | .knob, x => cKnob x
  | .part, x => cPart x
  | .slot, x => cSlot x
  | .update, x => cUpdate x
  | .report, x => cReport x
  | .lesson, x => cLesson x
  | .pair, x => [i64 x.1.lo, i64 x.1.hi, i64 x.2.lo, i64 x.2.hi]
  | .num2, x => [i64 x.1, i64 x.2]
  | .spans, x => [.lst .span x]

@[reducible] def sz : ElT → Nat
  | .num => 1 | .span => 2 | .big => 3 | .w => 2 | .box => 6 | .point => 3 | .arc => 15 | .state => 15 | .tube => 16 | .radio => 15
  | .knob => 4 | .part => 19 | .slot => 2 | .update => 8 | .report => 17 | .lesson => 4 | .pair => 4 | .num2 => 2 | .spans => 1

/-- The cells of an element's zero. -/
@[reducible] def zeroE : ElT → List AV
  | .num => [i64 0]
  | .span => [i64 0, i64 0]
  | .big => [.bool false, .int .u64 0, .int .u64 0]
  | .w => [i64 0, .int .u64 0]
  | .box => List.replicate 6 (i64 0)
  | .point => List.replicate 3 (i64 0)
  | .arc => List.replicate 12 (i64 0) ++ [.nils, i64 0, i64 0]
  | .state => List.replicate 15 (i64 0)
  | .tube => List.replicate 16 (i64 0)
  | .radio => List.replicate 15 (i64 0)
  | .knob => List.replicate 4 (i64 0)
  | .part => List.replicate 12 (i64 0) ++ .nils :: List.replicate 6 (i64 0)
  | .slot => List.replicate 2 (i64 0)
  | .update => List.replicate 7 (i64 0) ++ [.nils]
  | .report => List.replicate 17 (i64 0)
  | .lesson => [i64 0, i64 0, .bool false, i64 0]
  | .pair => List.replicate 4 (i64 0)
  | .num2 => [i64 0, i64 0]
  | .spans => [.nils]

/-- Is an element one cell that is no aggregate? -/
@[reducible] def flat : ElT → Bool
  | .num => true | .spans => true | _ => false

theorem enc_length (t : ElT) (x : El t) : (enc t x).length = sz t := by cases t <;> rfl

/-- A slice of points (of spans, ..) as it stands in a cell. -/
@[reducible] def lstOf (t : ElT) : AV → Option (List (El t))
  | .lst t' xs => if h : t' = t then some (h ▸ xs) else none
  | .nils => some []
  | _ => none

end Go.Ull
