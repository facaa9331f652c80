/- The types of the program, as the evaluator reads them (printed by gentab.py). -/
import Derived.Test.YtmgdofgmidbddaaFrU
import Derived.Test.YtmgdofgmidbddaaChecked
namespace Go.Proofs.Ytmgdofgmidbddaa
open Go Go.Ull

abbrev zi : AV := .int .i64 0
abbrev zb : AV := .bool false

def tys : List (Nat × Ty) := [
  (2, .int .i64),
  (3, .int .i64),
  (4, .bool),
  (5, .int .u8),
  (20, .iface),
  (21, .int .i32),
  (23, .struct [(0, 1, false), (1, 1, false), (2, 1, false)] [zi, zi, zi]),
  (25, .int .i64),
  (31, .arr 3 1 false none [.int .i32 0, .int .i32 0, .int .i32 0]),
  (32, .int .u16),
  (33, .arr 6 1 false none [.int .u16 0, .int .u16 0, .int .u16 0, .int .u16 0, .int .u16 0, .int .u16 0]),
  (35, .struct [(0, 3, true), (3, 3, true), (6, 6, true)] [.int .i32 0, .int .i32 0, .int .i32 0, .int .i32 0, .int .i32 0, .int .i32 0, .int .u16 0, .int .u16 0, .int .u16 0, .int .u16 0, .int .u16 0, .int .u16 0]),
  (36, .slice .radio),
  (37, .int .i64),
  (39, .struct [(0, 1, false), (1, 1, false)] [zi, zi]),
  (41, .arr 3 2 true (some .span) [zi, zi, zi, zi, zi, zi]),
  (43, .struct [(0, 1, false), (1, 6, true), (7, 6, true), (13, 2, true)] [zi, zi, zi, zi, zi, zi, zi, zi, zi, zi, zi, zi, zi, zi, zi]),
  (49, .struct [(0, 1, false), (1, 6, true), (7, 6, true), (13, 2, true)] [zi, zi, zi, zi, zi, zi, zi, zi, zi, zi, zi, zi, zi, zi, zi]),
  (55, .struct [(0, 2, true), (2, 2, true), (4, 2, true), (6, 2, true), (8, 6, true)] [zi, zi, zi, zi, zi, zi, zi, zi, zi, zi, zi, zi, zi, zi]),
  (56, .slice .point),
  (58, .struct [(0, 1, false), (1, 1, false), (2, 2, true), (4, 2, true), (6, 6, true), (12, 1, false), (13, 2, true)] [zi, zi, zi, zi, zi, zi, zi, zi, zi, zi, zi, zi, .nils, zi, zi]),
  (69, .struct [(0, 1, false), (1, 1, false), (2, 6, true), (8, 6, true), (14, 2, true)] [zi, zi, zi, zi, zi, zi, zi, zi, zi, zi, zi, zi, zi, zi, zi, zi]),
  (72, .slice .state),
  (73, .slice .tube),
  (76, .slice .arc),
  (77, .slice .part),
  (79, .struct [(0, 14, true), (14, 15, true), (29, 6, true), (35, 6, true), (41, 1, false), (42, 1, false), (43, 1, false), (44, 1, false), (45, 2, true), (47, 2, true), (49, 2, true), (51, 1, false)] [zi, zi, zi, zi, zi, zi, zi, zi, zi, zi, zi, zi, zi, zi, zi, zi, zi, zi, zi, zi, zi, zi, zi, zi, zi, zi, zi, zi, zi, zi, zi, zi, zi, zi, zi, zi, zi, zi, zi, zi, zi, .nils, .nils, zi, zi, zi, zi, zi, zi, zi, zi, zi]),
  (81, .slice .knob),
  (97, .int .u64),
  (98, .int .u64),
  (113, .struct [(0, 1, false)] [zi]),
  (115, .struct [(0, 14, true), (14, 15, true)] [zi, zi, zi, zi, zi, zi, zi, zi, zi, zi, zi, zi, zi, zi, zi, zi, zi, zi, zi, zi, zi, zi, zi, zi, zi, zi, .nils, zi, zi]),
  (118, .arr 6 2 true (some .span) [zi, zi, zi, zi, zi, zi, zi, zi, zi, zi, zi, zi]),
  (124, .slice .span),
  (134, .struct [(0, 15, true), (15, 2, true), (17, 2, true)] [zi, zi, zi, zi, zi, zi, zi, zi, zi, zi, zi, zi, .nils, zi, zi, zi, zi, zi, zi]),
  (141, .iface),
  (154, .slice .box),
  (157, .slice .pair),
  (158, .arr 2 2 true (some .span) [zi, zi, zi, zi]),
  (163, .func),
  (171, .func),
  (177, .struct [(0, 2, true), (2, 2, true)] [zi, zi, zi, zi]),
  (179, .struct [(0, 1, false)] [zi]),
  (181, .struct [(0, 15, true)] [zi, zi, zi, zi, zi, zi, zi, zi, zi, zi, zi, zi, zi, zi, zi]),
  (182, .struct [(0, 15, true)] [zi, zi, zi, zi, zi, zi, zi, zi, zi, zi, zi, zi, zi, zi, zi]),
  (184, .struct [(0, 15, true)] [zi, zi, zi, zi, zi, zi, zi, zi, zi, zi, zi, zi, zi, zi, zi]),
  (185, .struct [(0, 15, true)] [zi, zi, zi, zi, zi, zi, zi, zi, zi, zi, zi, zi, zi, zi, zi]),
  (186, .arr 4 1 false none [.niliface, .niliface, .niliface, .niliface]),
  (191, .struct [(0, 1, false), (1, 2, true)] [zi, zi, zi]),
  (196, .slice .big),
  (197, .slice .num),
  (199, .struct [(0, 1, false), (1, 1, false), (2, 1, false)] [zb, .int .u64 0, .int .u64 0]),
  (204, .slice .spans),
  (238, .iface)]

def eqs : List (Nat × List Bool) := [
  (39, [true, true]),
  (41, [true, true, true, true, true, true]),
  (43, [true, true, true, true, true, true, true, true, true, true, true, true, true, true, true]),
  (118, [true, true, true, true, true, true, true, true, true, true, true, true])]

theorem tys_ok : (tys.all fun p => tyB Try.prog p.1 p.2) = true := by kernel_rfl
theorem eqs_ok : (eqs.all fun p => eqB Try.prog p.1 p.2) = true := by kernel_rfl
theorem mixed : Try.prog.follows .mixedOrders = true := by kernel_rfl
end Go.Proofs.Ytmgdofgmidbddaa
