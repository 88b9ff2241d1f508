/-
  Contracts of the functions that the law reaches.
-/
import Derived.Test.YtlamgfimgadnmaaGreatFwd
import Derived.Test.YtlamgfimgadnmaaGreatProg
import Derived.KernelRfl
import Derived.Test.YtlamgfimgadnmaaGreatFwc
set_option linter.unusedVariables false
set_option linter.unusedSimpArgs false
namespace Go.Proofs.YtlamgfimgadnmaaGreat
open Go Go.CL
noncomputable def tt : List (Nat × TI) := [
  (0, { size := 1, bytes := 0, isAgg := false, hz := false, zero := [CV.sc (Value.tuple { toList := [] })], fields := [], fok := false, elem := 0, sl := false, ik := none, conc := true, str := false, bl := false, ptr := false, ife := false, mkv := none }),
  (1, { size := 1, bytes := 8, isAgg := false, hz := true, zero := [CV.sc Value.nilFunc], fields := [], fok := false, elem := 0, sl := false, ik := none, conc := true, str := false, bl := false, ptr := false, ife := false, mkv := none }),
  (2, { size := 1, bytes := 8, isAgg := false, hz := true, zero := [CV.sc (Value.int IntKind.i64 0)], fields := [], fok := false, elem := 0, sl := false, ik := some IntKind.i64, conc := true, str := false, bl := false, ptr := false, ife := false, mkv := none }),
  (3, { size := 1, bytes := 8, isAgg := false, hz := true, zero := [CV.sc (Value.int IntKind.i64 0)], fields := [], fok := false, elem := 0, sl := false, ik := some IntKind.i64, conc := true, str := false, bl := false, ptr := false, ife := false, mkv := none }),
  (4, { size := 1, bytes := 1, isAgg := false, hz := true, zero := [CV.sc (Value.bool false)], fields := [], fok := false, elem := 0, sl := false, ik := none, conc := true, str := false, bl := true, ptr := false, ife := false, mkv := none }),
  (5, { size := 1, bytes := 1, isAgg := false, hz := true, zero := [CV.sc (Value.int IntKind.u8 0)], fields := [], fok := false, elem := 0, sl := false, ik := some IntKind.u8, conc := true, str := false, bl := false, ptr := false, ife := false, mkv := none }),
  (6, { size := 1, bytes := 1, isAgg := false, hz := true, zero := [CV.sc (Value.int IntKind.u8 0)], fields := [], fok := false, elem := 0, sl := false, ik := some IntKind.u8, conc := true, str := false, bl := false, ptr := false, ife := false, mkv := none }),
  (7, { size := 4, bytes := 24, isAgg := true, hz := true, zero := [CV.sc (Value.int IntKind.i64 0), CV.sc (Value.int IntKind.i64 0), CV.sc (Value.bool false), CV.sc (Value.int IntKind.u8 0)], fields := [(0, 2, 1), (1, 3, 1), (2, 4, 1), (3, 6, 1)], fok := true, elem := 0, sl := false, ik := none, conc := true, str := false, bl := false, ptr := false, ife := false, mkv := none }),
  (8, { size := 4, bytes := 24, isAgg := true, hz := true, zero := [CV.sc (Value.int IntKind.i64 0), CV.sc (Value.int IntKind.i64 0), CV.sc (Value.bool false), CV.sc (Value.int IntKind.u8 0)], fields := [(0, 2, 1), (1, 3, 1), (2, 4, 1), (3, 6, 1)], fok := true, elem := 0, sl := false, ik := none, conc := true, str := false, bl := false, ptr := false, ife := false, mkv := none }),
  (9, { size := 1, bytes := 16, isAgg := false, hz := true, zero := [CV.sc (Value.string { data := { toList := [] } })], fields := [], fok := false, elem := 0, sl := false, ik := none, conc := true, str := true, bl := false, ptr := false, ife := false, mkv := none }),
  (10, { size := 1, bytes := 16, isAgg := false, hz := true, zero := [CV.sc (Value.string { data := { toList := [] } })], fields := [], fok := false, elem := 0, sl := false, ik := none, conc := true, str := true, bl := false, ptr := false, ife := false, mkv := none }),
  (11, { size := 1, bytes := 16, isAgg := false, hz := true, zero := [CV.sc (Value.string { data := { toList := [] } })], fields := [], fok := false, elem := 0, sl := false, ik := none, conc := true, str := true, bl := false, ptr := false, ife := false, mkv := none }),
  (12, { size := 1, bytes := 8, isAgg := false, hz := true, zero := [CV.sc (Value.int IntKind.u64 0)], fields := [], fok := false, elem := 0, sl := false, ik := some IntKind.u64, conc := true, str := false, bl := false, ptr := false, ife := false, mkv := none }),
  (13, { size := 2, bytes := 24, isAgg := true, hz := true, zero := [CV.sc (Value.string { data := { toList := [] } }), CV.sc (Value.int IntKind.u64 0)], fields := [(0, 9, 1), (1, 12, 1)], fok := true, elem := 0, sl := false, ik := none, conc := true, str := false, bl := false, ptr := false, ife := false, mkv := none }),
  (14, { size := 2, bytes := 24, isAgg := true, hz := true, zero := [CV.sc (Value.string { data := { toList := [] } }), CV.sc (Value.int IntKind.u64 0)], fields := [(0, 9, 1), (1, 12, 1)], fok := true, elem := 0, sl := false, ik := none, conc := true, str := false, bl := false, ptr := false, ife := false, mkv := none }),
  (15, { size := 1, bytes := 8, isAgg := false, hz := true, zero := [CV.sc (Value.pointer none)], fields := [], fok := false, elem := 230, sl := false, ik := none, conc := true, str := false, bl := false, ptr := true, ife := false, mkv := none }),
  (16, { size := 1, bytes := 8, isAgg := false, hz := true, zero := [CV.sc (Value.pointer none)], fields := [], fok := false, elem := 233, sl := false, ik := none, conc := true, str := false, bl := false, ptr := true, ife := false, mkv := none }),
  (17, { size := 1, bytes := 8, isAgg := false, hz := true, zero := [CV.sc (Value.pointer none)], fields := [], fok := false, elem := 242, sl := false, ik := none, conc := true, str := false, bl := false, ptr := true, ife := false, mkv := none }),
  (18, { size := 1, bytes := 8, isAgg := true, hz := true, zero := [CV.sc (Value.pointer none)], fields := [(0, 17, 1)], fok := true, elem := 0, sl := false, ik := none, conc := true, str := false, bl := false, ptr := false, ife := false, mkv := none }),
  (19, { size := 1, bytes := 8, isAgg := true, hz := true, zero := [CV.sc (Value.pointer none)], fields := [(0, 17, 1)], fok := true, elem := 0, sl := false, ik := none, conc := true, str := false, bl := false, ptr := false, ife := false, mkv := none }),
  (20, { size := 1, bytes := 16, isAgg := false, hz := true, zero := [CV.sc Value.nilIface], fields := [], fok := false, elem := 0, sl := false, ik := none, conc := false, str := false, bl := false, ptr := false, ife := true, mkv := none }),
  (21, { size := 1, bytes := 4, isAgg := false, hz := true, zero := [CV.sc (Value.int IntKind.i32 0)], fields := [], fok := false, elem := 0, sl := false, ik := some IntKind.i32, conc := true, str := false, bl := false, ptr := false, ife := false, mkv := none }),
  (22, { size := 1, bytes := 24, isAgg := false, hz := true, zero := [CV.nil], fields := [], fok := false, elem := 5, sl := true, ik := none, conc := true, str := false, bl := false, ptr := false, ife := false, mkv := none }),
  (23, { size := 1, bytes := 24, isAgg := false, hz := true, zero := [CV.nil], fields := [], fok := false, elem := 79, sl := true, ik := none, conc := true, str := false, bl := false, ptr := false, ife := false, mkv := none }),
  (24, { size := 1, bytes := 24, isAgg := false, hz := true, zero := [CV.nil], fields := [], fok := false, elem := 32, sl := true, ik := none, conc := true, str := false, bl := false, ptr := false, ife := false, mkv := none }),
  (25, { size := 4, bytes := 64, isAgg := true, hz := true, zero := [CV.nil, CV.nil, CV.sc (Value.int IntKind.i64 0), CV.sc (Value.int IntKind.i64 0)], fields := [(0, 23, 1), (1, 24, 1), (2, 3, 1), (3, 3, 1)], fok := true, elem := 0, sl := false, ik := none, conc := true, str := false, bl := false, ptr := false, ife := false, mkv := none }),
  (26, { size := 4, bytes := 64, isAgg := true, hz := true, zero := [CV.nil, CV.nil, CV.sc (Value.int IntKind.i64 0), CV.sc (Value.int IntKind.i64 0)], fields := [(0, 23, 1), (1, 24, 1), (2, 3, 1), (3, 3, 1)], fok := true, elem := 0, sl := false, ik := none, conc := true, str := false, bl := false, ptr := false, ife := false, mkv := none }),
  (27, { size := 1, bytes := 0, isAgg := false, hz := false, zero := [CV.sc (Value.tuple { toList := [Value.agg { toList := [Value.slice none 0 0, Value.slice none 0 0, Value.int IntKind.i64 0, Value.int IntKind.i64 0] }, Value.int IntKind.i64 0, Value.int IntKind.i64 0, Value.string { data := { toList := [] } }] })], fields := [], fok := false, elem := 0, sl := false, ik := none, conc := true, str := false, bl := false, ptr := false, ife := false, mkv := none }),
  (28, { size := 1, bytes := 8, isAgg := false, hz := true, zero := [CV.sc Value.nilFunc], fields := [], fok := false, elem := 0, sl := false, ik := none, conc := true, str := false, bl := false, ptr := false, ife := false, mkv := none }),
  (29, { size := 1, bytes := 8, isAgg := false, hz := true, zero := [CV.sc Value.nilFunc], fields := [], fok := false, elem := 0, sl := false, ik := none, conc := true, str := false, bl := false, ptr := false, ife := false, mkv := none }),
  (30, { size := 1, bytes := 24, isAgg := false, hz := true, zero := [CV.nil], fields := [], fok := false, elem := 115, sl := true, ik := none, conc := true, str := false, bl := false, ptr := false, ife := false, mkv := none }),
  (31, { size := 5, bytes := 64, isAgg := true, hz := true, zero := [CV.sc (Value.int IntKind.i64 0), CV.sc (Value.string { data := { toList := [] } }), CV.sc (Value.int IntKind.i64 0), CV.sc (Value.int IntKind.i64 0), CV.nil], fields := [(0, 3, 1), (1, 9, 1), (2, 3, 1), (3, 3, 1), (4, 30, 1)], fok := true, elem := 0, sl := false, ik := none, conc := true, str := false, bl := false, ptr := false, ife := false, mkv := none }),
  (32, { size := 5, bytes := 64, isAgg := true, hz := true, zero := [CV.sc (Value.int IntKind.i64 0), CV.sc (Value.string { data := { toList := [] } }), CV.sc (Value.int IntKind.i64 0), CV.sc (Value.int IntKind.i64 0), CV.nil], fields := [(0, 3, 1), (1, 9, 1), (2, 3, 1), (3, 3, 1), (4, 30, 1)], fok := true, elem := 0, sl := false, ik := none, conc := true, str := false, bl := false, ptr := false, ife := false, mkv := none }),
  (33, { size := 1, bytes := 24, isAgg := false, hz := true, zero := [CV.nil], fields := [], fok := false, elem := 51, sl := true, ik := none, conc := true, str := false, bl := false, ptr := false, ife := false, mkv := none }),
  (34, { size := 1, bytes := 0, isAgg := false, hz := false, zero := [CV.sc (Value.tuple { toList := [Value.slice none 0 0, Value.int IntKind.i64 0] })], fields := [], fok := false, elem := 0, sl := false, ik := none, conc := true, str := false, bl := false, ptr := false, ife := false, mkv := none }),
  (35, { size := 1, bytes := 8, isAgg := false, hz := true, zero := [CV.sc Value.nilFunc], fields := [], fok := false, elem := 0, sl := false, ik := none, conc := true, str := false, bl := false, ptr := false, ife := false, mkv := none }),
  (36, { size := 1, bytes := 24, isAgg := false, hz := true, zero := [CV.nil], fields := [], fok := false, elem := 66, sl := true, ik := none, conc := true, str := false, bl := false, ptr := false, ife := false, mkv := none }),
  (37, { size := 3, bytes := 56, isAgg := true, hz := true, zero := [CV.sc (Value.string { data := { toList := [] } }), CV.sc (Value.string { data := { toList := [] } }), CV.nil], fields := [(0, 9, 1), (1, 9, 1), (2, 36, 1)], fok := true, elem := 0, sl := false, ik := none, conc := true, str := false, bl := false, ptr := false, ife := false, mkv := none }),
  (38, { size := 3, bytes := 56, isAgg := true, hz := true, zero := [CV.sc (Value.string { data := { toList := [] } }), CV.sc (Value.string { data := { toList := [] } }), CV.nil], fields := [(0, 9, 1), (1, 9, 1), (2, 36, 1)], fok := true, elem := 0, sl := false, ik := none, conc := true, str := false, bl := false, ptr := false, ife := false, mkv := none }),
  (39, { size := 6, bytes := 96, isAgg := true, hz := true, zero := [CV.sc (Value.string { data := { toList := [] } }), CV.sc (Value.string { data := { toList := [] } }), CV.sc (Value.int IntKind.i64 0), CV.sc (Value.string { data := { toList := [] } }), CV.sc (Value.string { data := { toList := [] } }), CV.nil], fields := [(0, 9, 1), (1, 9, 1), (2, 3, 1), (3, 38, 3)], fok := true, elem := 0, sl := false, ik := none, conc := true, str := false, bl := false, ptr := false, ife := false, mkv := none }),
  (40, { size := 6, bytes := 96, isAgg := true, hz := true, zero := [CV.sc (Value.string { data := { toList := [] } }), CV.sc (Value.string { data := { toList := [] } }), CV.sc (Value.int IntKind.i64 0), CV.sc (Value.string { data := { toList := [] } }), CV.sc (Value.string { data := { toList := [] } }), CV.nil], fields := [(0, 9, 1), (1, 9, 1), (2, 3, 1), (3, 38, 3)], fok := true, elem := 0, sl := false, ik := none, conc := true, str := false, bl := false, ptr := false, ife := false, mkv := none }),
  (41, { size := 1, bytes := 24, isAgg := false, hz := true, zero := [CV.nil], fields := [], fok := false, elem := 40, sl := true, ik := none, conc := true, str := false, bl := false, ptr := false, ife := false, mkv := none }),
  (42, { size := 4, bytes := 80, isAgg := true, hz := true, zero := [CV.sc (Value.string { data := { toList := [] } }), CV.sc (Value.string { data := { toList := [] } }), CV.nil, CV.nil], fields := [(0, 38, 3), (3, 41, 1)], fok := true, elem := 0, sl := false, ik := none, conc := true, str := false, bl := false, ptr := false, ife := false, mkv := none }),
  (43, { size := 4, bytes := 80, isAgg := true, hz := true, zero := [CV.sc (Value.string { data := { toList := [] } }), CV.sc (Value.string { data := { toList := [] } }), CV.nil, CV.nil], fields := [(0, 38, 3), (3, 41, 1)], fok := true, elem := 0, sl := false, ik := none, conc := true, str := false, bl := false, ptr := false, ife := false, mkv := none }),
  (44, { size := 1, bytes := 24, isAgg := false, hz := true, zero := [CV.nil], fields := [], fok := false, elem := 43, sl := true, ik := none, conc := true, str := false, bl := false, ptr := false, ife := false, mkv := none }),
  (45, { size := 1, bytes := 8, isAgg := false, hz := true, zero := [CV.sc Value.nilFunc], fields := [], fok := false, elem := 0, sl := false, ik := none, conc := true, str := false, bl := false, ptr := false, ife := false, mkv := none }),
  (46, { size := 1, bytes := 0, isAgg := false, hz := false, zero := [CV.sc (Value.tuple { toList := [Value.agg { toList := [Value.slice none 0 0, Value.slice none 0 0, Value.int IntKind.i64 0, Value.int IntKind.i64 0] }, Value.string { data := { toList := [] } }] })], fields := [], fok := false, elem := 0, sl := false, ik := none, conc := true, str := false, bl := false, ptr := false, ife := false, mkv := none }),
  (47, { size := 1, bytes := 8, isAgg := false, hz := true, zero := [CV.sc Value.nilFunc], fields := [], fok := false, elem := 0, sl := false, ik := none, conc := true, str := false, bl := false, ptr := false, ife := false, mkv := none }),
  (48, { size := 1, bytes := 24, isAgg := false, hz := true, zero := [CV.nil], fields := [], fok := false, elem := 3, sl := true, ik := none, conc := true, str := false, bl := false, ptr := false, ife := false, mkv := none }),
  (49, { size := 1, bytes := 8, isAgg := false, hz := true, zero := [CV.sc Value.nilFunc], fields := [], fok := false, elem := 0, sl := false, ik := none, conc := true, str := false, bl := false, ptr := false, ife := false, mkv := none }),
  (50, { size := 1, bytes := 8, isAgg := false, hz := true, zero := [CV.sc Value.nilFunc], fields := [], fok := false, elem := 0, sl := false, ik := none, conc := true, str := false, bl := false, ptr := false, ife := false, mkv := none }),
  (51, { size := 1, bytes := 24, isAgg := false, hz := true, zero := [CV.nil], fields := [], fok := false, elem := 57, sl := true, ik := none, conc := true, str := false, bl := false, ptr := false, ife := false, mkv := none }),
  (52, { size := 1, bytes := 8, isAgg := false, hz := true, zero := [CV.sc Value.nilFunc], fields := [], fok := false, elem := 0, sl := false, ik := none, conc := true, str := false, bl := false, ptr := false, ife := false, mkv := none }),
  (53, { size := 1, bytes := 24, isAgg := false, hz := true, zero := [CV.nil], fields := [], fok := false, elem := 55, sl := true, ik := none, conc := true, str := false, bl := false, ptr := false, ife := false, mkv := none }),
  (54, { size := 4, bytes := 56, isAgg := true, hz := true, zero := [CV.sc (Value.int IntKind.i64 0), CV.sc (Value.int IntKind.i64 0), CV.sc (Value.string { data := { toList := [] } }), CV.nil], fields := [(0, 3, 1), (1, 3, 1), (2, 9, 1), (3, 53, 1)], fok := true, elem := 0, sl := false, ik := none, conc := true, str := false, bl := false, ptr := false, ife := false, mkv := none }),
  (55, { size := 4, bytes := 56, isAgg := true, hz := true, zero := [CV.sc (Value.int IntKind.i64 0), CV.sc (Value.int IntKind.i64 0), CV.sc (Value.string { data := { toList := [] } }), CV.nil], fields := [(0, 3, 1), (1, 3, 1), (2, 9, 1), (3, 53, 1)], fok := true, elem := 0, sl := false, ik := none, conc := true, str := false, bl := false, ptr := false, ife := false, mkv := none }),
  (56, { size := 5, bytes := 72, isAgg := true, hz := true, zero := [CV.sc (Value.string { data := { toList := [] } }), CV.sc (Value.int IntKind.i64 0), CV.sc (Value.int IntKind.i64 0), CV.sc (Value.string { data := { toList := [] } }), CV.nil], fields := [(0, 9, 1), (1, 55, 4)], fok := true, elem := 0, sl := false, ik := none, conc := true, str := false, bl := false, ptr := false, ife := false, mkv := none }),
  (57, { size := 5, bytes := 72, isAgg := true, hz := true, zero := [CV.sc (Value.string { data := { toList := [] } }), CV.sc (Value.int IntKind.i64 0), CV.sc (Value.int IntKind.i64 0), CV.sc (Value.string { data := { toList := [] } }), CV.nil], fields := [(0, 9, 1), (1, 55, 4)], fok := true, elem := 0, sl := false, ik := none, conc := true, str := false, bl := false, ptr := false, ife := false, mkv := none }),
  (58, { size := 1, bytes := 0, isAgg := false, hz := false, zero := [CV.sc (Value.tuple { toList := [Value.agg { toList := [Value.slice none 0 0, Value.slice none 0 0, Value.int IntKind.i64 0, Value.int IntKind.i64 0] }, Value.string { data := { toList := [] } }, Value.string { data := { toList := [] } }, Value.agg { toList := [Value.int IntKind.i64 0, Value.int IntKind.i64 0, Value.string { data := { toList := [] } }, Value.slice none 0 0] }] })], fields := [], fok := false, elem := 0, sl := false, ik := none, conc := true, str := false, bl := false, ptr := false, ife := false, mkv := none }),
  (59, { size := 1, bytes := 8, isAgg := false, hz := true, zero := [CV.sc Value.nilFunc], fields := [], fok := false, elem := 0, sl := false, ik := none, conc := true, str := false, bl := false, ptr := false, ife := false, mkv := none }),
  (60, { size := 1, bytes := 8, isAgg := false, hz := true, zero := [CV.sc Value.nilFunc], fields := [], fok := false, elem := 0, sl := false, ik := none, conc := true, str := false, bl := false, ptr := false, ife := false, mkv := none }),
  (61, { size := 1, bytes := 24, isAgg := false, hz := true, zero := [CV.nil], fields := [], fok := false, elem := 63, sl := true, ik := none, conc := true, str := false, bl := false, ptr := false, ife := false, mkv := none }),
  (62, { size := 8, bytes := 120, isAgg := true, hz := true, zero := [CV.sc (Value.int IntKind.i64 0), CV.sc (Value.int IntKind.i64 0), CV.sc (Value.int IntKind.i64 0), CV.sc (Value.string { data := { toList := [] } }), CV.nil, CV.sc (Value.string { data := { toList := [] } }), CV.sc (Value.string { data := { toList := [] } }), CV.nil], fields := [(0, 3, 1), (1, 55, 4), (5, 9, 1), (6, 9, 1), (7, 61, 1)], fok := true, elem := 0, sl := false, ik := none, conc := true, str := false, bl := false, ptr := false, ife := false, mkv := none }),
  (63, { size := 8, bytes := 120, isAgg := true, hz := true, zero := [CV.sc (Value.int IntKind.i64 0), CV.sc (Value.int IntKind.i64 0), CV.sc (Value.int IntKind.i64 0), CV.sc (Value.string { data := { toList := [] } }), CV.nil, CV.sc (Value.string { data := { toList := [] } }), CV.sc (Value.string { data := { toList := [] } }), CV.nil], fields := [(0, 3, 1), (1, 55, 4), (5, 9, 1), (6, 9, 1), (7, 61, 1)], fok := true, elem := 0, sl := false, ik := none, conc := true, str := false, bl := false, ptr := false, ife := false, mkv := none }),
  (64, { size := 1, bytes := 8, isAgg := false, hz := true, zero := [CV.sc Value.nilFunc], fields := [], fok := false, elem := 0, sl := false, ik := none, conc := true, str := false, bl := false, ptr := false, ife := false, mkv := none }),
  (65, { size := 9, bytes := 136, isAgg := true, hz := true, zero := [CV.sc (Value.string { data := { toList := [] } }), CV.sc (Value.int IntKind.i64 0), CV.sc (Value.int IntKind.i64 0), CV.sc (Value.int IntKind.i64 0), CV.sc (Value.string { data := { toList := [] } }), CV.nil, CV.sc (Value.string { data := { toList := [] } }), CV.sc (Value.string { data := { toList := [] } }), CV.nil], fields := [(0, 9, 1), (1, 63, 8)], fok := true, elem := 0, sl := false, ik := none, conc := true, str := false, bl := false, ptr := false, ife := false, mkv := none }),
  (66, { size := 9, bytes := 136, isAgg := true, hz := true, zero := [CV.sc (Value.string { data := { toList := [] } }), CV.sc (Value.int IntKind.i64 0), CV.sc (Value.int IntKind.i64 0), CV.sc (Value.int IntKind.i64 0), CV.sc (Value.string { data := { toList := [] } }), CV.nil, CV.sc (Value.string { data := { toList := [] } }), CV.sc (Value.string { data := { toList := [] } }), CV.nil], fields := [(0, 9, 1), (1, 63, 8)], fok := true, elem := 0, sl := false, ik := none, conc := true, str := false, bl := false, ptr := false, ife := false, mkv := none }),
  (67, { size := 1, bytes := 8, isAgg := false, hz := true, zero := [CV.sc (Value.pointer none)], fields := [], fok := false, elem := 110, sl := false, ik := none, conc := true, str := false, bl := false, ptr := true, ife := false, mkv := none }),
  (68, { size := 1, bytes := 8, isAgg := false, hz := true, zero := [CV.sc Value.nilFunc], fields := [], fok := false, elem := 0, sl := false, ik := none, conc := true, str := false, bl := false, ptr := false, ife := false, mkv := none }),
  (69, { size := 1, bytes := 8, isAgg := false, hz := true, zero := [CV.sc Value.nilFunc], fields := [], fok := false, elem := 0, sl := false, ik := none, conc := true, str := false, bl := false, ptr := false, ife := false, mkv := none }),
  (70, { size := 1, bytes := 8, isAgg := false, hz := true, zero := [CV.sc Value.nilFunc], fields := [], fok := false, elem := 0, sl := false, ik := none, conc := true, str := false, bl := false, ptr := false, ife := false, mkv := none }),
  (71, { size := 1, bytes := 8, isAgg := false, hz := true, zero := [CV.sc Value.nilFunc], fields := [], fok := false, elem := 0, sl := false, ik := none, conc := true, str := false, bl := false, ptr := false, ife := false, mkv := none }),
  (72, { size := 1, bytes := 24, isAgg := false, hz := true, zero := [CV.nil], fields := [], fok := false, elem := 9, sl := true, ik := none, conc := true, str := false, bl := false, ptr := false, ife := false, mkv := none }),
  (73, { size := 1, bytes := 8, isAgg := false, hz := true, zero := [CV.sc Value.nilFunc], fields := [], fok := false, elem := 0, sl := false, ik := none, conc := true, str := false, bl := false, ptr := false, ife := false, mkv := none }),
  (74, { size := 2, bytes := 32, isAgg := true, hz := true, zero := [CV.nil, CV.sc Value.nilFunc], fields := [(0, 23, 1), (1, 73, 1)], fok := true, elem := 0, sl := false, ik := none, conc := true, str := false, bl := false, ptr := false, ife := false, mkv := none }),
  (75, { size := 2, bytes := 32, isAgg := true, hz := true, zero := [CV.nil, CV.sc Value.nilFunc], fields := [(0, 23, 1), (1, 73, 1)], fok := true, elem := 0, sl := false, ik := none, conc := true, str := false, bl := false, ptr := false, ife := false, mkv := none }),
  (76, { size := 1, bytes := 8, isAgg := false, hz := true, zero := [CV.sc Value.nilFunc], fields := [], fok := false, elem := 0, sl := false, ik := none, conc := true, str := false, bl := false, ptr := false, ife := false, mkv := none }),
  (77, { size := 1, bytes := 8, isAgg := false, hz := true, zero := [CV.sc Value.nilFunc], fields := [], fok := false, elem := 0, sl := false, ik := none, conc := true, str := false, bl := false, ptr := false, ife := false, mkv := none }),
  (78, { size := 3, bytes := 56, isAgg := true, hz := true, zero := [CV.sc (Value.int IntKind.i64 0), CV.nil, CV.nil], fields := [(0, 3, 1), (1, 72, 1), (2, 30, 1)], fok := true, elem := 0, sl := false, ik := none, conc := true, str := false, bl := false, ptr := false, ife := false, mkv := none }),
  (79, { size := 3, bytes := 56, isAgg := true, hz := true, zero := [CV.sc (Value.int IntKind.i64 0), CV.nil, CV.nil], fields := [(0, 3, 1), (1, 72, 1), (2, 30, 1)], fok := true, elem := 0, sl := false, ik := none, conc := true, str := false, bl := false, ptr := false, ife := false, mkv := none }),
  (80, { size := 1, bytes := 8, isAgg := false, hz := true, zero := [CV.sc Value.nilFunc], fields := [], fok := false, elem := 0, sl := false, ik := none, conc := true, str := false, bl := false, ptr := false, ife := false, mkv := none }),
  (81, { size := 2, bytes := 32, isAgg := true, hz := true, zero := [CV.nil, CV.sc Value.nilFunc], fields := [(0, 24, 1), (1, 80, 1)], fok := true, elem := 0, sl := false, ik := none, conc := true, str := false, bl := false, ptr := false, ife := false, mkv := none }),
  (82, { size := 2, bytes := 32, isAgg := true, hz := true, zero := [CV.nil, CV.sc Value.nilFunc], fields := [(0, 24, 1), (1, 80, 1)], fok := true, elem := 0, sl := false, ik := none, conc := true, str := false, bl := false, ptr := false, ife := false, mkv := none }),
  (83, { size := 1, bytes := 8, isAgg := false, hz := true, zero := [CV.sc Value.nilFunc], fields := [], fok := false, elem := 0, sl := false, ik := none, conc := true, str := false, bl := false, ptr := false, ife := false, mkv := none }),
  (84, { size := 1, bytes := 8, isAgg := false, hz := true, zero := [CV.sc Value.nilFunc], fields := [], fok := false, elem := 0, sl := false, ik := none, conc := true, str := false, bl := false, ptr := false, ife := false, mkv := none }),
  (85, { size := 1, bytes := 8, isAgg := false, hz := true, zero := [CV.sc Value.nilFunc], fields := [], fok := false, elem := 0, sl := false, ik := none, conc := true, str := false, bl := false, ptr := false, ife := false, mkv := none }),
  (86, { size := 1, bytes := 8, isAgg := false, hz := true, zero := [CV.sc Value.nilFunc], fields := [], fok := false, elem := 0, sl := false, ik := none, conc := true, str := false, bl := false, ptr := false, ife := false, mkv := none }),
  (87, { size := 1, bytes := 8, isAgg := false, hz := true, zero := [CV.sc Value.nilFunc], fields := [], fok := false, elem := 0, sl := false, ik := none, conc := true, str := false, bl := false, ptr := false, ife := false, mkv := none }),
  (88, { size := 1, bytes := 8, isAgg := false, hz := true, zero := [CV.sc Value.nilFunc], fields := [], fok := false, elem := 0, sl := false, ik := none, conc := true, str := false, bl := false, ptr := false, ife := false, mkv := none }),
  (89, { size := 1, bytes := 8, isAgg := false, hz := true, zero := [CV.sc Value.nilFunc], fields := [], fok := false, elem := 0, sl := false, ik := none, conc := true, str := false, bl := false, ptr := false, ife := false, mkv := none }),
  (90, { size := 1, bytes := 8, isAgg := false, hz := true, zero := [CV.sc Value.nilFunc], fields := [], fok := false, elem := 0, sl := false, ik := none, conc := true, str := false, bl := false, ptr := false, ife := false, mkv := none }),
  (91, { size := 1, bytes := 8, isAgg := false, hz := true, zero := [CV.sc (Value.map none)], fields := [], fok := false, elem := 0, sl := false, ik := none, conc := true, str := false, bl := false, ptr := false, ife := false, mkv := some (9, 3) }),
  (92, { size := 1, bytes := 8, isAgg := false, hz := true, zero := [CV.sc (Value.map none)], fields := [], fok := false, elem := 0, sl := false, ik := none, conc := true, str := false, bl := false, ptr := false, ife := false, mkv := some (9, 3) }),
  (93, { size := 1, bytes := 8, isAgg := false, hz := true, zero := [CV.sc Value.nilFunc], fields := [], fok := false, elem := 0, sl := false, ik := none, conc := true, str := false, bl := false, ptr := false, ife := false, mkv := none }),
  (94, { size := 1, bytes := 8, isAgg := false, hz := true, zero := [CV.sc Value.nilFunc], fields := [], fok := false, elem := 0, sl := false, ik := none, conc := true, str := false, bl := false, ptr := false, ife := false, mkv := none }),
  (95, { size := 1, bytes := 8, isAgg := false, hz := true, zero := [CV.sc Value.nilFunc], fields := [], fok := false, elem := 0, sl := false, ik := none, conc := true, str := false, bl := false, ptr := false, ife := false, mkv := none }),
  (96, { size := 1, bytes := 8, isAgg := false, hz := true, zero := [CV.sc Value.nilFunc], fields := [], fok := false, elem := 0, sl := false, ik := none, conc := true, str := false, bl := false, ptr := false, ife := false, mkv := none }),
  (97, { size := 1, bytes := 8, isAgg := false, hz := true, zero := [CV.sc Value.nilFunc], fields := [], fok := false, elem := 0, sl := false, ik := none, conc := true, str := false, bl := false, ptr := false, ife := false, mkv := none }),
  (98, { size := 1, bytes := 8, isAgg := false, hz := true, zero := [CV.sc Value.nilFunc], fields := [], fok := false, elem := 0, sl := false, ik := none, conc := true, str := false, bl := false, ptr := false, ife := false, mkv := none }),
  (99, { size := 1, bytes := 8, isAgg := false, hz := true, zero := [CV.sc (Value.pointer none)], fields := [], fok := false, elem := 129, sl := false, ik := none, conc := true, str := false, bl := false, ptr := true, ife := false, mkv := none }),
  (100, { size := 1, bytes := 8, isAgg := false, hz := true, zero := [CV.sc Value.nilFunc], fields := [], fok := false, elem := 0, sl := false, ik := none, conc := true, str := false, bl := false, ptr := false, ife := false, mkv := none }),
  (101, { size := 1, bytes := 8, isAgg := false, hz := true, zero := [CV.sc Value.nilFunc], fields := [], fok := false, elem := 0, sl := false, ik := none, conc := true, str := false, bl := false, ptr := false, ife := false, mkv := none }),
  (102, { size := 1, bytes := 8, isAgg := false, hz := true, zero := [CV.sc Value.nilFunc], fields := [], fok := false, elem := 0, sl := false, ik := none, conc := true, str := false, bl := false, ptr := false, ife := false, mkv := none }),
  (103, { size := 1, bytes := 8, isAgg := false, hz := true, zero := [CV.sc Value.nilFunc], fields := [], fok := false, elem := 0, sl := false, ik := none, conc := true, str := false, bl := false, ptr := false, ife := false, mkv := none }),
  (104, { size := 1, bytes := 8, isAgg := false, hz := true, zero := [CV.sc Value.nilFunc], fields := [], fok := false, elem := 0, sl := false, ik := none, conc := true, str := false, bl := false, ptr := false, ife := false, mkv := none }),
  (105, { size := 1, bytes := 8, isAgg := false, hz := true, zero := [CV.sc Value.nilFunc], fields := [], fok := false, elem := 0, sl := false, ik := none, conc := true, str := false, bl := false, ptr := false, ife := false, mkv := none }),
  (106, { size := 1, bytes := 8, isAgg := false, hz := true, zero := [CV.sc Value.nilFunc], fields := [], fok := false, elem := 0, sl := false, ik := none, conc := true, str := false, bl := false, ptr := false, ife := false, mkv := none }),
  (107, { size := 1, bytes := 8, isAgg := false, hz := true, zero := [CV.sc Value.nilFunc], fields := [], fok := false, elem := 0, sl := false, ik := none, conc := true, str := false, bl := false, ptr := false, ife := false, mkv := none }),
  (108, { size := 1, bytes := 8, isAgg := false, hz := true, zero := [CV.sc Value.nilFunc], fields := [], fok := false, elem := 0, sl := false, ik := none, conc := true, str := false, bl := false, ptr := false, ife := false, mkv := none }),
  (109, { size := 2, bytes := 32, isAgg := true, hz := true, zero := [CV.nil, CV.sc (Value.int IntKind.i64 0)], fields := [(0, 22, 1), (1, 3, 1)], fok := true, elem := 0, sl := false, ik := none, conc := true, str := false, bl := false, ptr := false, ife := false, mkv := none }),
  (110, { size := 2, bytes := 32, isAgg := true, hz := true, zero := [CV.nil, CV.sc (Value.int IntKind.i64 0)], fields := [(0, 22, 1), (1, 3, 1)], fok := true, elem := 0, sl := false, ik := none, conc := true, str := false, bl := false, ptr := false, ife := false, mkv := none }),
  (111, { size := 1, bytes := 8, isAgg := false, hz := true, zero := [CV.sc Value.nilFunc], fields := [], fok := false, elem := 0, sl := false, ik := none, conc := true, str := false, bl := false, ptr := false, ife := false, mkv := none }),
  (112, { size := 1, bytes := 8, isAgg := false, hz := true, zero := [CV.sc Value.nilFunc], fields := [], fok := false, elem := 0, sl := false, ik := none, conc := true, str := false, bl := false, ptr := false, ife := false, mkv := none }),
  (113, { size := 1, bytes := 8, isAgg := false, hz := true, zero := [CV.sc Value.nilFunc], fields := [], fok := false, elem := 0, sl := false, ik := none, conc := true, str := false, bl := false, ptr := false, ife := false, mkv := none }),
  (114, { size := 1, bytes := 8, isAgg := false, hz := true, zero := [CV.sc Value.nilFunc], fields := [], fok := false, elem := 0, sl := false, ik := none, conc := true, str := false, bl := false, ptr := false, ife := false, mkv := none }),
  (115, { size := 5, bytes := 72, isAgg := true, hz := true, zero := [CV.sc (Value.string { data := { toList := [] } }), CV.sc (Value.int IntKind.i64 0), CV.sc (Value.int IntKind.i64 0), CV.sc (Value.string { data := { toList := [] } }), CV.nil], fields := [(0, 9, 1), (1, 55, 4)], fok := true, elem := 0, sl := false, ik := none, conc := true, str := false, bl := false, ptr := false, ife := false, mkv := none }),
  (116, { size := 1, bytes := 8, isAgg := false, hz := true, zero := [CV.sc Value.nilFunc], fields := [], fok := false, elem := 0, sl := false, ik := none, conc := true, str := false, bl := false, ptr := false, ife := false, mkv := none }),
  (117, { size := 1, bytes := 8, isAgg := false, hz := true, zero := [CV.sc Value.nilFunc], fields := [], fok := false, elem := 0, sl := false, ik := none, conc := true, str := false, bl := false, ptr := false, ife := false, mkv := none }),
  (118, { size := 1, bytes := 8, isAgg := false, hz := true, zero := [CV.sc Value.nilFunc], fields := [], fok := false, elem := 0, sl := false, ik := none, conc := true, str := false, bl := false, ptr := false, ife := false, mkv := none }),
  (119, { size := 1, bytes := 8, isAgg := false, hz := true, zero := [CV.sc Value.nilFunc], fields := [], fok := false, elem := 0, sl := false, ik := none, conc := true, str := false, bl := false, ptr := false, ife := false, mkv := none }),
  (120, { size := 1, bytes := 8, isAgg := false, hz := true, zero := [CV.sc (Value.int IntKind.i64 0)], fields := [], fok := false, elem := 0, sl := false, ik := some IntKind.i64, conc := true, str := false, bl := false, ptr := false, ife := false, mkv := none }),
  (121, { size := 1, bytes := 0, isAgg := false, hz := false, zero := [CV.sc (Value.tuple { toList := [Value.int IntKind.i64 0, Value.bool false] })], fields := [], fok := false, elem := 0, sl := false, ik := none, conc := true, str := false, bl := false, ptr := false, ife := false, mkv := none }),
  (122, { size := 1, bytes := 8, isAgg := false, hz := true, zero := [CV.sc (Value.map none)], fields := [], fok := false, elem := 0, sl := false, ik := none, conc := true, str := false, bl := false, ptr := false, ife := false, mkv := some (3, 48) }),
  (123, { size := 1, bytes := 8, isAgg := false, hz := true, zero := [CV.sc (Value.map none)], fields := [], fok := false, elem := 0, sl := false, ik := none, conc := true, str := false, bl := false, ptr := false, ife := false, mkv := some (3, 48) }),
  (124, { size := 1, bytes := 8, isAgg := false, hz := true, zero := [CV.sc Value.nilFunc], fields := [], fok := false, elem := 0, sl := false, ik := none, conc := true, str := false, bl := false, ptr := false, ife := false, mkv := none }),
  (125, { size := 1, bytes := 24, isAgg := false, hz := true, zero := [CV.nil], fields := [], fok := false, elem := 146, sl := true, ik := none, conc := true, str := false, bl := false, ptr := false, ife := false, mkv := none }),
  (126, { size := 1, bytes := 8, isAgg := false, hz := true, zero := [CV.sc Value.nilFunc], fields := [], fok := false, elem := 0, sl := false, ik := none, conc := true, str := false, bl := false, ptr := false, ife := false, mkv := none }),
  (127, { size := 1, bytes := 8, isAgg := false, hz := true, zero := [CV.sc (Value.map none)], fields := [], fok := false, elem := 0, sl := false, ik := none, conc := true, str := false, bl := false, ptr := false, ife := false, mkv := some (3, 3) }),
  (128, { size := 8, bytes := 128, isAgg := true, hz := true, zero := [CV.nil, CV.nil, CV.sc (Value.int IntKind.i64 0), CV.sc (Value.int IntKind.i64 0), CV.sc (Value.map none), CV.nil, CV.nil, CV.sc (Value.map none)], fields := [(0, 26, 4), (4, 123, 1), (5, 51, 1), (6, 125, 1), (7, 127, 1)], fok := true, elem := 0, sl := false, ik := none, conc := true, str := false, bl := false, ptr := false, ife := false, mkv := none }),
  (129, { size := 8, bytes := 128, isAgg := true, hz := true, zero := [CV.nil, CV.nil, CV.sc (Value.int IntKind.i64 0), CV.sc (Value.int IntKind.i64 0), CV.sc (Value.map none), CV.nil, CV.nil, CV.sc (Value.map none)], fields := [(0, 26, 4), (4, 123, 1), (5, 51, 1), (6, 125, 1), (7, 127, 1)], fok := true, elem := 0, sl := false, ik := none, conc := true, str := false, bl := false, ptr := false, ife := false, mkv := none }),
  (130, { size := 1, bytes := 8, isAgg := false, hz := true, zero := [CV.sc Value.nilFunc], fields := [], fok := false, elem := 0, sl := false, ik := none, conc := true, str := false, bl := false, ptr := false, ife := false, mkv := none }),
  (131, { size := 1, bytes := 8, isAgg := false, hz := true, zero := [CV.sc Value.nilFunc], fields := [], fok := false, elem := 0, sl := false, ik := none, conc := true, str := false, bl := false, ptr := false, ife := false, mkv := none }),
  (132, { size := 1, bytes := 8, isAgg := false, hz := true, zero := [CV.sc Value.nilFunc], fields := [], fok := false, elem := 0, sl := false, ik := none, conc := true, str := false, bl := false, ptr := false, ife := false, mkv := none }),
  (133, { size := 1, bytes := 8, isAgg := false, hz := true, zero := [CV.sc Value.nilFunc], fields := [], fok := false, elem := 0, sl := false, ik := none, conc := true, str := false, bl := false, ptr := false, ife := false, mkv := none }),
  (134, { size := 1, bytes := 8, isAgg := false, hz := true, zero := [CV.sc Value.nilFunc], fields := [], fok := false, elem := 0, sl := false, ik := none, conc := true, str := false, bl := false, ptr := false, ife := false, mkv := none }),
  (135, { size := 1, bytes := 0, isAgg := false, hz := false, zero := [CV.sc (Value.tuple { toList := [Value.slice none 0 0, Value.bool false] })], fields := [], fok := false, elem := 0, sl := false, ik := none, conc := true, str := false, bl := false, ptr := false, ife := false, mkv := none }),
  (136, { size := 1, bytes := 8, isAgg := false, hz := true, zero := [CV.sc Value.nilFunc], fields := [], fok := false, elem := 0, sl := false, ik := none, conc := true, str := false, bl := false, ptr := false, ife := false, mkv := none }),
  (137, { size := 1, bytes := 8, isAgg := false, hz := true, zero := [CV.sc Value.nilFunc], fields := [], fok := false, elem := 0, sl := false, ik := none, conc := true, str := false, bl := false, ptr := false, ife := false, mkv := none }),
  (138, { size := 1, bytes := 8, isAgg := false, hz := true, zero := [CV.sc Value.nilFunc], fields := [], fok := false, elem := 0, sl := false, ik := none, conc := true, str := false, bl := false, ptr := false, ife := false, mkv := none }),
  (139, { size := 1, bytes := 0, isAgg := false, hz := false, zero := [CV.sc (Value.tuple { toList := [Value.agg { toList := [Value.slice none 0 0, Value.slice none 0 0, Value.int IntKind.i64 0, Value.int IntKind.i64 0] }, Value.bool false] })], fields := [], fok := false, elem := 0, sl := false, ik := none, conc := true, str := false, bl := false, ptr := false, ife := false, mkv := none }),
  (140, { size := 1, bytes := 8, isAgg := false, hz := true, zero := [CV.sc Value.nilFunc], fields := [], fok := false, elem := 0, sl := false, ik := none, conc := true, str := false, bl := false, ptr := false, ife := false, mkv := none }),
  (141, { size := 1, bytes := 8, isAgg := false, hz := true, zero := [CV.sc Value.nilFunc], fields := [], fok := false, elem := 0, sl := false, ik := none, conc := true, str := false, bl := false, ptr := false, ife := false, mkv := none }),
  (142, { size := 1, bytes := 8, isAgg := false, hz := true, zero := [CV.sc Value.nilFunc], fields := [], fok := false, elem := 0, sl := false, ik := none, conc := true, str := false, bl := false, ptr := false, ife := false, mkv := none }),
  (143, { size := 1, bytes := 8, isAgg := false, hz := true, zero := [CV.sc Value.nilFunc], fields := [], fok := false, elem := 0, sl := false, ik := none, conc := true, str := false, bl := false, ptr := false, ife := false, mkv := none }),
  (144, { size := 1, bytes := 24, isAgg := false, hz := true, zero := [CV.nil], fields := [], fok := false, elem := 164, sl := true, ik := none, conc := true, str := false, bl := false, ptr := false, ife := false, mkv := none }),
  (145, { size := 8, bytes := 128, isAgg := true, hz := true, zero := [CV.sc (Value.bool false), CV.sc (Value.string { data := { toList := [] } }), CV.sc (Value.string { data := { toList := [] } }), CV.sc (Value.int IntKind.i64 0), CV.sc (Value.string { data := { toList := [] } }), CV.sc (Value.string { data := { toList := [] } }), CV.nil, CV.nil], fields := [(0, 4, 1), (1, 9, 1), (2, 9, 1), (3, 3, 1), (4, 38, 3), (7, 144, 1)], fok := true, elem := 0, sl := false, ik := none, conc := true, str := false, bl := false, ptr := false, ife := false, mkv := none }),
  (146, { size := 8, bytes := 128, isAgg := true, hz := true, zero := [CV.sc (Value.bool false), CV.sc (Value.string { data := { toList := [] } }), CV.sc (Value.string { data := { toList := [] } }), CV.sc (Value.int IntKind.i64 0), CV.sc (Value.string { data := { toList := [] } }), CV.sc (Value.string { data := { toList := [] } }), CV.nil, CV.nil], fields := [(0, 4, 1), (1, 9, 1), (2, 9, 1), (3, 3, 1), (4, 38, 3), (7, 144, 1)], fok := true, elem := 0, sl := false, ik := none, conc := true, str := false, bl := false, ptr := false, ife := false, mkv := none }),
  (147, { size := 1, bytes := 8, isAgg := false, hz := true, zero := [CV.sc Value.nilFunc], fields := [], fok := false, elem := 0, sl := false, ik := none, conc := true, str := false, bl := false, ptr := false, ife := false, mkv := none }),
  (148, { size := 1, bytes := 8, isAgg := false, hz := true, zero := [CV.sc Value.nilFunc], fields := [], fok := false, elem := 0, sl := false, ik := none, conc := true, str := false, bl := false, ptr := false, ife := false, mkv := none }),
  (149, { size := 1, bytes := 8, isAgg := false, hz := true, zero := [CV.sc Value.nilFunc], fields := [], fok := false, elem := 0, sl := false, ik := none, conc := true, str := false, bl := false, ptr := false, ife := false, mkv := none }),
  (150, { size := 1, bytes := 8, isAgg := false, hz := true, zero := [CV.sc Value.nilFunc], fields := [], fok := false, elem := 0, sl := false, ik := none, conc := true, str := false, bl := false, ptr := false, ife := false, mkv := none }),
  (151, { size := 1, bytes := 8, isAgg := false, hz := true, zero := [CV.sc Value.nilFunc], fields := [], fok := false, elem := 0, sl := false, ik := none, conc := true, str := false, bl := false, ptr := false, ife := false, mkv := none }),
  (152, { size := 1, bytes := 8, isAgg := false, hz := true, zero := [CV.sc Value.nilFunc], fields := [], fok := false, elem := 0, sl := false, ik := none, conc := true, str := false, bl := false, ptr := false, ife := false, mkv := none }),
  (153, { size := 1, bytes := 8, isAgg := false, hz := true, zero := [CV.sc (Value.map none)], fields := [], fok := false, elem := 0, sl := false, ik := none, conc := true, str := false, bl := false, ptr := false, ife := false, mkv := some (172, 53) }),
  (154, { size := 1, bytes := 8, isAgg := false, hz := true, zero := [CV.sc Value.nilFunc], fields := [], fok := false, elem := 0, sl := false, ik := none, conc := true, str := false, bl := false, ptr := false, ife := false, mkv := none }),
  (155, { size := 1, bytes := 8, isAgg := false, hz := true, zero := [CV.sc Value.nilFunc], fields := [], fok := false, elem := 0, sl := false, ik := none, conc := true, str := false, bl := false, ptr := false, ife := false, mkv := none }),
  (156, { size := 1, bytes := 8, isAgg := false, hz := true, zero := [CV.sc Value.nilFunc], fields := [], fok := false, elem := 0, sl := false, ik := none, conc := true, str := false, bl := false, ptr := false, ife := false, mkv := none }),
  (157, { size := 1, bytes := 8, isAgg := false, hz := true, zero := [CV.sc Value.nilFunc], fields := [], fok := false, elem := 0, sl := false, ik := none, conc := true, str := false, bl := false, ptr := false, ife := false, mkv := none }),
  (158, { size := 1, bytes := 8, isAgg := false, hz := true, zero := [CV.sc Value.nilFunc], fields := [], fok := false, elem := 0, sl := false, ik := none, conc := true, str := false, bl := false, ptr := false, ife := false, mkv := none }),
  (159, { size := 1, bytes := 8, isAgg := false, hz := true, zero := [CV.sc Value.nilFunc], fields := [], fok := false, elem := 0, sl := false, ik := none, conc := true, str := false, bl := false, ptr := false, ife := false, mkv := none }),
  (160, { size := 1, bytes := 8, isAgg := false, hz := true, zero := [CV.sc Value.nilFunc], fields := [], fok := false, elem := 0, sl := false, ik := none, conc := true, str := false, bl := false, ptr := false, ife := false, mkv := none }),
  (161, { size := 1, bytes := 8, isAgg := false, hz := true, zero := [CV.sc Value.nilFunc], fields := [], fok := false, elem := 0, sl := false, ik := none, conc := true, str := false, bl := false, ptr := false, ife := false, mkv := none }),
  (162, { size := 1, bytes := 8, isAgg := false, hz := true, zero := [CV.sc Value.nilFunc], fields := [], fok := false, elem := 0, sl := false, ik := none, conc := true, str := false, bl := false, ptr := false, ife := false, mkv := none }),
  (163, { size := 2, bytes := 24, isAgg := true, hz := true, zero := [CV.sc (Value.string { data := { toList := [] } }), CV.sc Value.nilFunc], fields := [(0, 9, 1), (1, 161, 1)], fok := true, elem := 0, sl := false, ik := none, conc := true, str := false, bl := false, ptr := false, ife := false, mkv := none }),
  (164, { size := 2, bytes := 24, isAgg := true, hz := true, zero := [CV.sc (Value.string { data := { toList := [] } }), CV.sc Value.nilFunc], fields := [(0, 9, 1), (1, 161, 1)], fok := true, elem := 0, sl := false, ik := none, conc := true, str := false, bl := false, ptr := false, ife := false, mkv := none }),
  (165, { size := 1, bytes := 0, isAgg := false, hz := false, zero := [CV.sc (Value.tuple { toList := [Value.agg { toList := [Value.int IntKind.i64 0, Value.int IntKind.i64 0, Value.string { data := { toList := [] } }, Value.slice none 0 0] }, Value.bool false] })], fields := [], fok := false, elem := 0, sl := false, ik := none, conc := true, str := false, bl := false, ptr := false, ife := false, mkv := none }),
  (166, { size := 1, bytes := 8, isAgg := false, hz := true, zero := [CV.sc Value.nilFunc], fields := [], fok := false, elem := 0, sl := false, ik := none, conc := true, str := false, bl := false, ptr := false, ife := false, mkv := none }),
  (167, { size := 6, bytes := 112, isAgg := true, hz := true, zero := [CV.nil, CV.nil, CV.sc (Value.int IntKind.i64 0), CV.sc (Value.int IntKind.i64 0), CV.nil, CV.nil], fields := [(0, 26, 4), (4, 51, 1), (5, 51, 1)], fok := true, elem := 0, sl := false, ik := none, conc := true, str := false, bl := false, ptr := false, ife := false, mkv := none }),
  (168, { size := 6, bytes := 112, isAgg := true, hz := true, zero := [CV.nil, CV.nil, CV.sc (Value.int IntKind.i64 0), CV.sc (Value.int IntKind.i64 0), CV.nil, CV.nil], fields := [(0, 26, 4), (4, 51, 1), (5, 51, 1)], fok := true, elem := 0, sl := false, ik := none, conc := true, str := false, bl := false, ptr := false, ife := false, mkv := none }),
  (169, { size := 1, bytes := 8, isAgg := false, hz := true, zero := [CV.sc Value.nilFunc], fields := [], fok := false, elem := 0, sl := false, ik := none, conc := true, str := false, bl := false, ptr := false, ife := false, mkv := none }),
  (170, { size := 1, bytes := 8, isAgg := false, hz := true, zero := [CV.sc (Value.pointer none)], fields := [], fok := false, elem := 55, sl := false, ik := none, conc := true, str := false, bl := false, ptr := true, ife := false, mkv := none }),
  (171, { size := 2, bytes := 16, isAgg := true, hz := true, zero := [CV.sc (Value.pointer none), CV.sc (Value.int IntKind.i64 0)], fields := [(0, 170, 1), (1, 3, 1)], fok := true, elem := 0, sl := false, ik := none, conc := true, str := false, bl := false, ptr := false, ife := false, mkv := none }),
  (172, { size := 2, bytes := 16, isAgg := true, hz := true, zero := [CV.sc (Value.pointer none), CV.sc (Value.int IntKind.i64 0)], fields := [(0, 170, 1), (1, 3, 1)], fok := true, elem := 0, sl := false, ik := none, conc := true, str := false, bl := false, ptr := false, ife := false, mkv := none }),
  (173, { size := 1, bytes := 0, isAgg := false, hz := false, zero := [CV.sc (Value.tuple { toList := [Value.slice none 0 0, Value.bool false] })], fields := [], fok := false, elem := 0, sl := false, ik := none, conc := true, str := false, bl := false, ptr := false, ife := false, mkv := none }),
  (174, { size := 1, bytes := 8, isAgg := false, hz := true, zero := [CV.sc Value.nilFunc], fields := [], fok := false, elem := 0, sl := false, ik := none, conc := true, str := false, bl := false, ptr := false, ife := false, mkv := none }),
  (175, { size := 1, bytes := 8, isAgg := false, hz := true, zero := [CV.sc Value.nilFunc], fields := [], fok := false, elem := 0, sl := false, ik := none, conc := true, str := false, bl := false, ptr := false, ife := false, mkv := none }),
  (176, { size := 1, bytes := 8, isAgg := false, hz := true, zero := [CV.sc Value.nilFunc], fields := [], fok := false, elem := 0, sl := false, ik := none, conc := true, str := false, bl := false, ptr := false, ife := false, mkv := none }),
  (177, { size := 1, bytes := 8, isAgg := false, hz := true, zero := [CV.sc Value.nilFunc], fields := [], fok := false, elem := 0, sl := false, ik := none, conc := true, str := false, bl := false, ptr := false, ife := false, mkv := none }),
  (178, { size := 1, bytes := 8, isAgg := false, hz := true, zero := [CV.sc Value.nilFunc], fields := [], fok := false, elem := 0, sl := false, ik := none, conc := true, str := false, bl := false, ptr := false, ife := false, mkv := none }),
  (179, { size := 1, bytes := 8, isAgg := false, hz := true, zero := [CV.sc Value.nilFunc], fields := [], fok := false, elem := 0, sl := false, ik := none, conc := true, str := false, bl := false, ptr := false, ife := false, mkv := none }),
  (180, { size := 1, bytes := 24, isAgg := false, hz := true, zero := [CV.nil], fields := [], fok := false, elem := 161, sl := true, ik := none, conc := true, str := false, bl := false, ptr := false, ife := false, mkv := none }),
  (181, { size := 1, bytes := 8, isAgg := false, hz := true, zero := [CV.sc Value.nilFunc], fields := [], fok := false, elem := 0, sl := false, ik := none, conc := true, str := false, bl := false, ptr := false, ife := false, mkv := none }),
  (182, { size := 1, bytes := 8, isAgg := false, hz := true, zero := [CV.sc Value.nilFunc], fields := [], fok := false, elem := 0, sl := false, ik := none, conc := true, str := false, bl := false, ptr := false, ife := false, mkv := none }),
  (183, { size := 1, bytes := 8, isAgg := false, hz := true, zero := [CV.sc Value.nilFunc], fields := [], fok := false, elem := 0, sl := false, ik := none, conc := true, str := false, bl := false, ptr := false, ife := false, mkv := none }),
  (184, { size := 1, bytes := 8, isAgg := false, hz := true, zero := [CV.sc Value.nilFunc], fields := [], fok := false, elem := 0, sl := false, ik := none, conc := true, str := false, bl := false, ptr := false, ife := false, mkv := none }),
  (185, { size := 1, bytes := 8, isAgg := false, hz := true, zero := [CV.sc Value.nilFunc], fields := [], fok := false, elem := 0, sl := false, ik := none, conc := true, str := false, bl := false, ptr := false, ife := false, mkv := none }),
  (186, { size := 1, bytes := 8, isAgg := false, hz := true, zero := [CV.sc (Value.int IntKind.u64 0)], fields := [], fok := false, elem := 0, sl := false, ik := some IntKind.u64, conc := true, str := false, bl := false, ptr := false, ife := false, mkv := none }),
  (187, { size := 1, bytes := 8, isAgg := false, hz := true, zero := [CV.sc Value.nilFunc], fields := [], fok := false, elem := 0, sl := false, ik := none, conc := true, str := false, bl := false, ptr := false, ife := false, mkv := none }),
  (188, { size := 1, bytes := 8, isAgg := false, hz := true, zero := [CV.sc (Value.int IntKind.i64 0)], fields := [], fok := false, elem := 0, sl := false, ik := some IntKind.i64, conc := true, str := false, bl := false, ptr := false, ife := false, mkv := none }),
  (189, { size := 1, bytes := 0, isAgg := false, hz := false, zero := [CV.sc (Value.tuple { toList := [Value.int IntKind.i64 0, Value.int IntKind.i64 0] })], fields := [], fok := false, elem := 0, sl := false, ik := none, conc := true, str := false, bl := false, ptr := false, ife := false, mkv := none }),
  (190, { size := 1, bytes := 8, isAgg := false, hz := true, zero := [CV.sc Value.nilFunc], fields := [], fok := false, elem := 0, sl := false, ik := none, conc := true, str := false, bl := false, ptr := false, ife := false, mkv := none }),
  (191, { size := 1, bytes := 8, isAgg := false, hz := true, zero := [CV.sc Value.nilFunc], fields := [], fok := false, elem := 0, sl := false, ik := none, conc := true, str := false, bl := false, ptr := false, ife := false, mkv := none }),
  (192, { size := 1, bytes := 8, isAgg := false, hz := true, zero := [CV.sc Value.nilFunc], fields := [], fok := false, elem := 0, sl := false, ik := none, conc := true, str := false, bl := false, ptr := false, ife := false, mkv := none }),
  (193, { size := 1, bytes := 8, isAgg := false, hz := true, zero := [CV.sc Value.nilFunc], fields := [], fok := false, elem := 0, sl := false, ik := none, conc := true, str := false, bl := false, ptr := false, ife := false, mkv := none }),
  (194, { size := 1, bytes := 0, isAgg := false, hz := false, zero := [CV.sc (Value.tuple { toList := [Value.int IntKind.i64 0, Value.bool false] })], fields := [], fok := false, elem := 0, sl := false, ik := none, conc := true, str := false, bl := false, ptr := false, ife := false, mkv := none }),
  (195, { size := 1, bytes := 8, isAgg := false, hz := true, zero := [CV.sc Value.nilFunc], fields := [], fok := false, elem := 0, sl := false, ik := none, conc := true, str := false, bl := false, ptr := false, ife := false, mkv := none }),
  (196, { size := 1, bytes := 8, isAgg := false, hz := true, zero := [CV.sc Value.nilFunc], fields := [], fok := false, elem := 0, sl := false, ik := none, conc := true, str := false, bl := false, ptr := false, ife := false, mkv := none }),
  (197, { size := 1, bytes := 4, isAgg := false, hz := true, zero := [CV.sc (Value.int IntKind.u32 0)], fields := [], fok := false, elem := 0, sl := false, ik := some IntKind.u32, conc := true, str := false, bl := false, ptr := false, ife := false, mkv := none }),
  (198, { size := 1, bytes := 8, isAgg := false, hz := true, zero := [CV.sc Value.nilFunc], fields := [], fok := false, elem := 0, sl := false, ik := none, conc := true, str := false, bl := false, ptr := false, ife := false, mkv := none }),
  (199, { size := 1, bytes := 8, isAgg := false, hz := true, zero := [CV.sc (Value.int IntKind.u64 0)], fields := [], fok := false, elem := 0, sl := false, ik := some IntKind.u64, conc := true, str := false, bl := false, ptr := false, ife := false, mkv := none }),
  (200, { size := 1, bytes := 8, isAgg := false, hz := true, zero := [CV.sc (Value.pointer none)], fields := [], fok := false, elem := 30, sl := false, ik := none, conc := true, str := false, bl := false, ptr := true, ife := false, mkv := none }),
  (201, { size := 1, bytes := 8, isAgg := false, hz := true, zero := [CV.sc Value.nilFunc], fields := [], fok := false, elem := 0, sl := false, ik := none, conc := true, str := false, bl := false, ptr := false, ife := false, mkv := none }),
  (202, { size := 1, bytes := 8, isAgg := false, hz := true, zero := [CV.sc Value.nilFunc], fields := [], fok := false, elem := 0, sl := false, ik := none, conc := true, str := false, bl := false, ptr := false, ife := false, mkv := none }),
  (203, { size := 1, bytes := 8, isAgg := false, hz := true, zero := [CV.sc Value.nilFunc], fields := [], fok := false, elem := 0, sl := false, ik := none, conc := true, str := false, bl := false, ptr := false, ife := false, mkv := none }),
  (204, { size := 1, bytes := 8, isAgg := false, hz := true, zero := [CV.sc Value.nilFunc], fields := [], fok := false, elem := 0, sl := false, ik := none, conc := true, str := false, bl := false, ptr := false, ife := false, mkv := none }),
  (205, { size := 1, bytes := 8, isAgg := false, hz := true, zero := [CV.sc (Value.int IntKind.u64 0)], fields := [], fok := false, elem := 0, sl := false, ik := some IntKind.u64, conc := true, str := false, bl := false, ptr := false, ife := false, mkv := none }),
  (206, { size := 1, bytes := 8, isAgg := false, hz := true, zero := [CV.sc Value.nilFunc], fields := [], fok := false, elem := 0, sl := false, ik := none, conc := true, str := false, bl := false, ptr := false, ife := false, mkv := none }),
  (207, { size := 1, bytes := 8, isAgg := false, hz := true, zero := [CV.sc Value.nilFunc], fields := [], fok := false, elem := 0, sl := false, ik := none, conc := true, str := false, bl := false, ptr := false, ife := false, mkv := none }),
  (208, { size := 1, bytes := 8, isAgg := false, hz := true, zero := [CV.sc Value.nilFunc], fields := [], fok := false, elem := 0, sl := false, ik := none, conc := true, str := false, bl := false, ptr := false, ife := false, mkv := none }),
  (209, { size := 1, bytes := 8, isAgg := false, hz := true, zero := [CV.sc (Value.pointer none)], fields := [], fok := false, elem := 3, sl := false, ik := none, conc := true, str := false, bl := false, ptr := true, ife := false, mkv := none }),
  (210, { size := 1, bytes := 8, isAgg := false, hz := true, zero := [CV.sc Value.nilFunc], fields := [], fok := false, elem := 0, sl := false, ik := none, conc := true, str := false, bl := false, ptr := false, ife := false, mkv := none }),
  (211, { size := 1, bytes := 16, isAgg := false, hz := true, zero := [CV.sc Value.nilIface], fields := [], fok := false, elem := 0, sl := false, ik := none, conc := false, str := false, bl := false, ptr := false, ife := false, mkv := none }),
  (212, { size := 1, bytes := 16, isAgg := false, hz := true, zero := [CV.sc Value.nilIface], fields := [], fok := false, elem := 0, sl := false, ik := none, conc := false, str := false, bl := false, ptr := false, ife := false, mkv := none }),
  (213, { size := 1, bytes := 8, isAgg := false, hz := true, zero := [CV.sc Value.nilFunc], fields := [], fok := false, elem := 0, sl := false, ik := none, conc := true, str := false, bl := false, ptr := false, ife := false, mkv := none }),
  (214, { size := 1, bytes := 8, isAgg := false, hz := true, zero := [CV.sc Value.nilFunc], fields := [], fok := false, elem := 0, sl := false, ik := none, conc := true, str := false, bl := false, ptr := false, ife := false, mkv := none }),
  (215, { size := 1, bytes := 24, isAgg := false, hz := true, zero := [CV.nil], fields := [], fok := false, elem := 53, sl := true, ik := none, conc := true, str := false, bl := false, ptr := false, ife := false, mkv := none }),
  (216, { size := 1, bytes := 8, isAgg := false, hz := true, zero := [CV.sc Value.nilFunc], fields := [], fok := false, elem := 0, sl := false, ik := none, conc := true, str := false, bl := false, ptr := false, ife := false, mkv := none }),
  (217, { size := 1, bytes := 8, isAgg := false, hz := true, zero := [CV.sc (Value.pointer none)], fields := [], fok := false, elem := 205, sl := false, ik := none, conc := true, str := false, bl := false, ptr := true, ife := false, mkv := none }),
  (218, { size := 1, bytes := 0, isAgg := false, hz := false, zero := [CV.sc (Value.tuple { toList := [Value.int IntKind.i64 0, Value.int IntKind.i64 0] })], fields := [], fok := false, elem := 0, sl := false, ik := none, conc := true, str := false, bl := false, ptr := false, ife := false, mkv := none }),
  (219, { size := 1, bytes := 8, isAgg := false, hz := true, zero := [CV.sc Value.nilFunc], fields := [], fok := false, elem := 0, sl := false, ik := none, conc := true, str := false, bl := false, ptr := false, ife := false, mkv := none }),
  (220, { size := 1, bytes := 8, isAgg := false, hz := true, zero := [CV.sc (Value.int IntKind.i64 0)], fields := [], fok := false, elem := 0, sl := false, ik := some IntKind.i64, conc := true, str := false, bl := false, ptr := false, ife := false, mkv := none }),
  (221, { size := 1, bytes := 8, isAgg := false, hz := true, zero := [CV.sc (Value.int IntKind.i64 0)], fields := [], fok := false, elem := 0, sl := false, ik := some IntKind.i64, conc := true, str := false, bl := false, ptr := false, ife := false, mkv := none }),
  (222, { size := 1, bytes := 24, isAgg := false, hz := true, zero := [CV.nil], fields := [], fok := false, elem := 55, sl := true, ik := none, conc := true, str := false, bl := false, ptr := false, ife := false, mkv := none }),
  (223, { size := 1, bytes := 16, isAgg := false, hz := true, zero := [CV.sc (Value.string { data := { toList := [] } })], fields := [], fok := false, elem := 0, sl := false, ik := none, conc := true, str := true, bl := false, ptr := false, ife := false, mkv := none }),
  (224, { size := 1, bytes := 8, isAgg := false, hz := true, zero := [CV.sc (Value.int IntKind.i64 0)], fields := [], fok := false, elem := 0, sl := false, ik := some IntKind.i64, conc := true, str := false, bl := false, ptr := false, ife := false, mkv := none }),
  (225, { size := 1, bytes := 8, isAgg := false, hz := true, zero := [CV.sc (Value.int IntKind.i64 0)], fields := [], fok := false, elem := 0, sl := false, ik := some IntKind.i64, conc := true, str := false, bl := false, ptr := false, ife := false, mkv := none }),
  (226, { size := 0, bytes := 0, isAgg := true, hz := true, zero := [], fields := [], fok := true, elem := 0, sl := false, ik := none, conc := true, str := false, bl := false, ptr := false, ife := false, mkv := none }),
  (227, { size := 0, bytes := 0, isAgg := true, hz := true, zero := [], fields := [], fok := true, elem := 0, sl := false, ik := none, conc := true, str := false, bl := false, ptr := false, ife := false, mkv := none }),
  (228, { size := 1, bytes := 8, isAgg := false, hz := true, zero := [CV.sc Value.nilFunc], fields := [], fok := false, elem := 0, sl := false, ik := none, conc := true, str := false, bl := false, ptr := false, ife := false, mkv := none }),
  (229, { size := 4, bytes := 40, isAgg := true, hz := true, zero := [CV.sc (Value.pointer none), CV.sc (Value.pointer none), CV.sc (Value.pointer none), CV.sc (Value.string { data := { toList := [] } })], fields := [(0, 17, 1), (1, 17, 1), (2, 17, 1), (3, 9, 1)], fok := true, elem := 0, sl := false, ik := none, conc := true, str := false, bl := false, ptr := false, ife := false, mkv := none }),
  (230, { size := 4, bytes := 40, isAgg := true, hz := true, zero := [CV.sc (Value.pointer none), CV.sc (Value.pointer none), CV.sc (Value.pointer none), CV.sc (Value.string { data := { toList := [] } })], fields := [(0, 17, 1), (1, 17, 1), (2, 17, 1), (3, 9, 1)], fok := true, elem := 0, sl := false, ik := none, conc := true, str := false, bl := false, ptr := false, ife := false, mkv := none }),
  (231, { size := 0, bytes := 0, isAgg := true, hz := true, zero := [], fields := [], fok := false, elem := 16, sl := false, ik := none, conc := true, str := false, bl := false, ptr := false, ife := false, mkv := none }),
  (232, { size := 0, bytes := 0, isAgg := true, hz := true, zero := [], fields := [(0, 231, 0)], fok := true, elem := 0, sl := false, ik := none, conc := true, str := false, bl := false, ptr := false, ife := false, mkv := none }),
  (233, { size := 0, bytes := 0, isAgg := true, hz := true, zero := [], fields := [(0, 231, 0)], fok := true, elem := 0, sl := false, ik := none, conc := true, str := false, bl := false, ptr := false, ife := false, mkv := none }),
  (234, { size := 1, bytes := 8, isAgg := false, hz := true, zero := [CV.sc Value.nilFunc], fields := [], fok := false, elem := 0, sl := false, ik := none, conc := true, str := false, bl := false, ptr := false, ife := false, mkv := none }),
  (235, { size := 1, bytes := 1, isAgg := false, hz := true, zero := [CV.sc (Value.int IntKind.u8 0)], fields := [], fok := false, elem := 0, sl := false, ik := some IntKind.u8, conc := true, str := false, bl := false, ptr := false, ife := false, mkv := none }),
  (236, { size := 1, bytes := 1, isAgg := false, hz := true, zero := [CV.sc (Value.int IntKind.u8 0)], fields := [], fok := false, elem := 0, sl := false, ik := some IntKind.u8, conc := true, str := false, bl := false, ptr := false, ife := false, mkv := none }),
  (237, { size := 1, bytes := 8, isAgg := false, hz := true, zero := [CV.sc Value.nilFunc], fields := [], fok := false, elem := 0, sl := false, ik := none, conc := true, str := false, bl := false, ptr := false, ife := false, mkv := none }),
  (238, { size := 1, bytes := 8, isAgg := false, hz := true, zero := [CV.sc (Value.pointer none)], fields := [], fok := false, elem := 5, sl := false, ik := none, conc := true, str := false, bl := false, ptr := true, ife := false, mkv := none }),
  (239, { size := 1, bytes := 4, isAgg := false, hz := true, zero := [CV.sc (Value.int IntKind.i32 0)], fields := [], fok := false, elem := 0, sl := false, ik := some IntKind.i32, conc := true, str := false, bl := false, ptr := false, ife := false, mkv := none }),
  (240, { size := 1, bytes := 4, isAgg := false, hz := true, zero := [CV.sc (Value.int IntKind.i32 0)], fields := [], fok := false, elem := 0, sl := false, ik := some IntKind.i32, conc := true, str := false, bl := false, ptr := false, ife := false, mkv := none }),
  (241, { size := 11, bytes := 48, isAgg := true, hz := true, zero := [CV.sc (Value.int IntKind.u64 0), CV.sc (Value.int IntKind.u64 0), CV.sc (Value.int IntKind.u32 0), CV.sc (Value.int IntKind.u8 0), CV.sc (Value.int IntKind.u8 0), CV.sc (Value.int IntKind.u8 0), CV.sc (Value.int IntKind.u8 0), CV.sc Value.nilFunc, CV.sc (Value.pointer none), CV.sc (Value.int IntKind.i32 0), CV.sc (Value.int IntKind.i32 0)], fields := [(0, 12, 1), (1, 12, 1), (2, 197, 1), (3, 235, 1), (4, 5, 1), (5, 5, 1), (6, 236, 1), (7, 237, 1), (8, 238, 1), (9, 239, 1), (10, 240, 1)], fok := true, elem := 0, sl := false, ik := none, conc := true, str := false, bl := false, ptr := false, ife := false, mkv := none }),
  (242, { size := 11, bytes := 48, isAgg := true, hz := true, zero := [CV.sc (Value.int IntKind.u64 0), CV.sc (Value.int IntKind.u64 0), CV.sc (Value.int IntKind.u32 0), CV.sc (Value.int IntKind.u8 0), CV.sc (Value.int IntKind.u8 0), CV.sc (Value.int IntKind.u8 0), CV.sc (Value.int IntKind.u8 0), CV.sc Value.nilFunc, CV.sc (Value.pointer none), CV.sc (Value.int IntKind.i32 0), CV.sc (Value.int IntKind.i32 0)], fields := [(0, 12, 1), (1, 12, 1), (2, 197, 1), (3, 235, 1), (4, 5, 1), (5, 5, 1), (6, 236, 1), (7, 237, 1), (8, 238, 1), (9, 239, 1), (10, 240, 1)], fok := true, elem := 0, sl := false, ik := none, conc := true, str := false, bl := false, ptr := false, ife := false, mkv := none }),
  (243, { size := 1, bytes := 8, isAgg := false, hz := true, zero := [CV.sc Value.nilFunc], fields := [], fok := false, elem := 0, sl := false, ik := none, conc := true, str := false, bl := false, ptr := false, ife := false, mkv := none }),
  (244, { size := 1, bytes := 8, isAgg := false, hz := true, zero := [CV.sc Value.nilFunc], fields := [], fok := false, elem := 0, sl := false, ik := none, conc := true, str := false, bl := false, ptr := false, ife := false, mkv := none }),
  (245, { size := 1, bytes := 8, isAgg := false, hz := true, zero := [CV.sc Value.nilFunc], fields := [], fok := false, elem := 0, sl := false, ik := none, conc := true, str := false, bl := false, ptr := false, ife := false, mkv := none }),
  (246, { size := 1, bytes := 8, isAgg := false, hz := true, zero := [CV.sc Value.nilFunc], fields := [], fok := false, elem := 0, sl := false, ik := none, conc := true, str := false, bl := false, ptr := false, ife := false, mkv := none }),
  (247, { size := 1, bytes := 8, isAgg := false, hz := true, zero := [CV.sc Value.nilFunc], fields := [], fok := false, elem := 0, sl := false, ik := none, conc := true, str := false, bl := false, ptr := false, ife := false, mkv := none }),
  (248, { size := 1, bytes := 8, isAgg := false, hz := true, zero := [CV.sc Value.nilFunc], fields := [], fok := false, elem := 0, sl := false, ik := none, conc := true, str := false, bl := false, ptr := false, ife := false, mkv := none }),
  (249, { size := 1, bytes := 8, isAgg := false, hz := true, zero := [CV.sc Value.nilFunc], fields := [], fok := false, elem := 0, sl := false, ik := none, conc := true, str := false, bl := false, ptr := false, ife := false, mkv := none }),
  (250, { size := 1, bytes := 8, isAgg := false, hz := true, zero := [CV.sc Value.nilFunc], fields := [], fok := false, elem := 0, sl := false, ik := none, conc := true, str := false, bl := false, ptr := false, ife := false, mkv := none }),
  (251, { size := 1, bytes := 8, isAgg := false, hz := true, zero := [CV.sc Value.nilFunc], fields := [], fok := false, elem := 0, sl := false, ik := none, conc := true, str := false, bl := false, ptr := false, ife := false, mkv := none }),
  (252, { size := 1, bytes := 8, isAgg := false, hz := true, zero := [CV.sc Value.nilFunc], fields := [], fok := false, elem := 0, sl := false, ik := none, conc := true, str := false, bl := false, ptr := false, ife := false, mkv := none }),
  (253, { size := 1, bytes := 8, isAgg := false, hz := true, zero := [CV.sc Value.nilFunc], fields := [], fok := false, elem := 0, sl := false, ik := none, conc := true, str := false, bl := false, ptr := false, ife := false, mkv := none }),
  (254, { size := 1, bytes := 8, isAgg := false, hz := true, zero := [CV.sc (Value.pointer none)], fields := [], fok := false, elem := 0, sl := false, ik := none, conc := true, str := false, bl := false, ptr := false, ife := false, mkv := none })]
noncomputable def X : Ctx := { P := Tryz.prog, tt := tt, gl := fun _ => false, ord := fun _ => none }
set_option maxRecDepth 100000 in
theorem X_tt : (tt.map fun p => tiOf Tryz.prog p.1) = tt.map (fun p => some p.2) := by kernel_rfl
theorem X_ok : X.ok := Ctx.ok_of X_tt
theorem X_draw : X.P.follows .mixedOrders = true := by kernel_rfl
theorem X_sat : DrawSat X := drawSat X_ok X_draw
noncomputable def G (l : List Nat) : Ctx := { P := Tryz.prog, tt := tt, gl := fun n => l.contains n, ord := fun _ => none }
theorem G_ok (l : List Nat) : (G l).ok := X_ok
theorem G_sat (l : List Nat) : DrawSat (G l) := drawSat (G_ok l) X_draw
end Go.Proofs.YtlamgfimgadnmaaGreat
namespace Go.Proofs.YtlamgfimgadnmaaGreat
open Go Go.CL Go.Proofs Go.Shelf
set_option maxRecDepth 10000
def ren190 : Ren :=
  {
    f := fun x =>
      match x with
      | 190 => 126
      | 125 => 144
      | 258 => 143
      | 128 => 163
      | 129 => 164
      | 302 => 154
      | 303 => 155
      | 304 => 156
      | 305 => 157
      | 306 => 158
      | 307 => 159
      | 308 => 160
      | 309 => 161
      | 310 => 162
      | 333 => 169
      | 329 => 170
      | 330 => 171
      | 334 => 172
      | 335 => 173
      | 336 => 174
      | 344 => 178
      | n => n,
    t := fun x =>
      match x with
      | 31 => 72
      | 9 => 9
      | 3 => 3
      | 46 => 186
      | 0 => 0
      | 51 => 197
      | 53 => 199
      | 4 => 4
      | 183 => 189
      | 182 => 188
      | 131 => 194
      | 5 => 5
      | 218 => 205
      | 222 => 209
      | 228 => 217
      | 229 => 218
      | n => n,
    g := fun x =>
      have n := x;
      n }
theorem lays190 : Lays.n190 Tryz.prog ren190 :=
  { mixed := Eq.refl true, f125 := Eq.trans Tryz.func144 (congrArg some (Eq.refl (Body.n125 ren190))),
    f128 := Eq.trans Tryz.func163 (congrArg some (Eq.refl (Body.n128 ren190))),
    f129 := Eq.trans Tryz.func164 (congrArg some (Eq.refl (Body.n129 ren190))),
    f190 := Eq.trans Tryz.func126 (congrArg some (Eq.refl (Body.n190 ren190))),
    f258 := Eq.trans Tryz.func143 (congrArg some (Eq.refl (Body.n258 ren190))),
    f302 := Eq.trans Tryz.func154 (congrArg some (Eq.refl (Body.n302 ren190))),
    f303 := Eq.trans Tryz.func155 (congrArg some (Eq.refl (Body.n303 ren190))),
    f304 := Eq.trans Tryz.func156 (congrArg some (Eq.refl (Body.n304 ren190))),
    f305 := Eq.trans Tryz.func157 (congrArg some (Eq.refl (Body.n305 ren190))),
    f306 := Eq.trans Tryz.func158 (congrArg some (Eq.refl (Body.n306 ren190))),
    f307 := Eq.trans Tryz.func159 (congrArg some (Eq.refl (Body.n307 ren190))),
    f308 := Eq.trans Tryz.func160 (congrArg some (Eq.refl (Body.n308 ren190))),
    f309 := Eq.trans Tryz.func161 (congrArg some (Eq.refl (Body.n309 ren190))),
    f310 := Eq.trans Tryz.func162 (congrArg some (Eq.refl (Body.n310 ren190))),
    f329 := Eq.trans Tryz.func170 (congrArg some (Eq.refl (Body.n329 ren190))),
    f330 := Eq.trans Tryz.func171 (congrArg some (Eq.refl (Body.n330 ren190))),
    f333 := Eq.trans Tryz.func169 (congrArg some (Eq.refl (Body.n333 ren190))),
    f334 := Eq.trans Tryz.func172 (congrArg some (Eq.refl (Body.n334 ren190))),
    f335 := Eq.trans Tryz.func173 (congrArg some (Eq.refl (Body.n335 ren190))),
    f336 := Eq.trans Tryz.func174 (congrArg some (Eq.refl (Body.n336 ren190))),
    f344 := Eq.trans Tryz.func178 (congrArg some (Eq.refl (Body.n344 ren190))), t0 := Tryz.underlying0,
    a0 := Tryz.isAgg0, z0 := Tryz.sizeOf0, v0 := Tryz.zeroValue0, t3 := Tryz.underlying3, a3 := Tryz.isAgg3,
    z3 := Tryz.sizeOf3, v3 := Tryz.zeroValue3, t4 := Tryz.underlying4, a4 := Tryz.isAgg4, z4 := Tryz.sizeOf4,
    v4 := Tryz.zeroValue4, t5 := Tryz.underlying5, a5 := Tryz.isAgg5, z5 := Tryz.sizeOf5, v5 := Tryz.zeroValue5,
    t9 := Tryz.underlying9, a9 := Tryz.isAgg9, z9 := Tryz.sizeOf9, v9 := Tryz.zeroValue9, t31 := Tryz.underlying72,
    a31 := Tryz.isAgg72, z31 := Tryz.sizeOf72, v31 := Tryz.zeroValue72, t46 := Tryz.underlying186, a46 := Tryz.isAgg186,
    z46 := Tryz.sizeOf186, v46 := Tryz.zeroValue186, t51 := Tryz.underlying197, a51 := Tryz.isAgg197,
    z51 := Tryz.sizeOf197, v51 := Tryz.zeroValue197, t53 := Tryz.underlying199, a53 := Tryz.isAgg199,
    z53 := Tryz.sizeOf199, v53 := Tryz.zeroValue199, t131 := Tryz.underlying194, a131 := Tryz.isAgg194,
    z131 := Tryz.sizeOf194, v131 := Tryz.zeroValue194, t182 := Tryz.underlying188, a182 := Tryz.isAgg188,
    z182 := Tryz.sizeOf188, v182 := Tryz.zeroValue188, t183 := Tryz.underlying189, a183 := Tryz.isAgg189,
    z183 := Tryz.sizeOf189, v183 := Tryz.zeroValue189, t218 := Tryz.underlying205, a218 := Tryz.isAgg205,
    z218 := Tryz.sizeOf205, v218 := Tryz.zeroValue205, t222 := Tryz.underlying209, a222 := Tryz.isAgg209,
    z222 := Tryz.sizeOf209, v222 := Tryz.zeroValue209, t228 := Tryz.underlying217, a228 := Tryz.isAgg217,
    z228 := Tryz.sizeOf217, v228 := Tryz.zeroValue217, t229 := Tryz.underlying218, a229 := Tryz.isAgg218,
    z229 := Tryz.sizeOf218, v229 := Tryz.zeroValue218 }
def ren194 : Ren :=
  {
    f := fun x =>
      match x with
      | 194 => 127
      | n => n,
    t := fun x =>
      match x with
      | 31 => 72
      | 9 => 9
      | 3 => 3
      | 4 => 4
      | 0 => 0
      | n => n,
    g := fun x =>
      have n := x;
      n }
theorem lays194 : Lays.n194 Tryz.prog ren194 :=
  { mixed := Eq.refl true, f194 := Eq.trans Tryz.func127 (congrArg some (Eq.refl (Body.n194 ren194))),
    t0 := Tryz.underlying0, a0 := Tryz.isAgg0, z0 := Tryz.sizeOf0, v0 := Tryz.zeroValue0, t3 := Tryz.underlying3,
    a3 := Tryz.isAgg3, z3 := Tryz.sizeOf3, v3 := Tryz.zeroValue3, t4 := Tryz.underlying4, a4 := Tryz.isAgg4,
    z4 := Tryz.sizeOf4, v4 := Tryz.zeroValue4, t9 := Tryz.underlying9, a9 := Tryz.isAgg9, z9 := Tryz.sizeOf9,
    v9 := Tryz.zeroValue9, t31 := Tryz.underlying72, a31 := Tryz.isAgg72, z31 := Tryz.sizeOf72, v31 := Tryz.zeroValue72 }
end Go.Proofs.YtlamgfimgadnmaaGreat
namespace Go.Proofs.YtlamgfimgadnmaaGreat
open Go Go.CL
set_option maxRecDepth 10000
def i64 (n : Int) : CV := .sc (.int .i64 n)
def u8 (n : Int) : CV := .sc (.int .u8 n)
def bodyOf (f : Func) : Code := f.body.getD .skip
def getB (bs : List CV) (i : Nat) : Int := match bs[i]? with
  | some (.sc (.int _ b)) => b
  | _ => 0
def BytesOk (bs : List CV) : Prop := ∀ x ∈ bs, ∃ b, x = u8 b ∧ 0 ≤ b ∧ b ≤ 255
theorem BytesOk.get {bs : List CV} (h : BytesOk bs) {i : Nat} (hi : i < bs.length) : bs[i]? = some (u8 (getB bs i)) := by
  have h1 : bs[i]? = some bs[i] := List.getElem?_eq_getElem hi
  obtain ⟨b, hb, _⟩ := h bs[i] (List.getElem_mem hi)
  rw [hb] at h1
  simp only [getB, h1, u8]
theorem BytesOk.range {bs : List CV} (h : BytesOk bs) (i : Nat) : 0 ≤ getB bs i ∧ getB bs i ≤ 255 := by
  by_cases hi : i < bs.length
  · obtain ⟨b, hb, h2⟩ := h bs[i] (List.getElem_mem hi)
    have h1 : bs[i]? = some bs[i] := List.getElem?_eq_getElem hi
    rw [hb] at h1
    simp only [getB, h1, u8]; exact h2
  · simp [getB, List.getElem?_eq_none (show bs.length ≤ i by omega)]
def mixF (bs : List CV) (k : Int) : Int :=
  getB bs (k.tmod bs.length).toNat * 131 + getB bs ((k * 7 + 3).tmod bs.length).toNat * 1117 + k * 29 + k.tdiv bs.length * 53
def xorF (a b : Int) : Int := IntKind.i64.wrap (BitVec.ofInt IntKind.i64.bits a ^^^ BitVec.ofInt IntKind.i64.bits b).toNat
def pickF (bs : List CV) (p n : Int) : Int :=
  if n < 1 ∨ bs.length = 0 then 0
  else if p < bs.length then (getB bs (p + 1 - 1).toNat).tmod n
  else (xorF (mixF bs (p + 1 - 1)) ((mixF bs (p + 1 - 1)).tdiv 64)).tmod n
theorem xorF_nonneg {a b : Int} (ha : 0 ≤ a) (hb : 0 ≤ b) (ha' : a < 9223372036854775808) (hb' : b < 9223372036854775808) : 0 ≤ xorF a b := by
  obtain ⟨m, rfl⟩ := Int.eq_ofNat_of_zero_le ha
  obtain ⟨n, rfl⟩ := Int.eq_ofNat_of_zero_le hb
  unfold xorF
  have h1 : (BitVec.ofInt IntKind.i64.bits (m : Int) ^^^ BitVec.ofInt IntKind.i64.bits (n : Int)).toNat = m ^^^ n := by
    rw [BitVec.toNat_xor]
    have e1 : (BitVec.ofInt 64 (m : Int)).toNat = m := by rw [BitVec.ofInt_natCast, BitVec.toNat_ofNat]; omega
    have e2 : (BitVec.ofInt 64 (n : Int)).toNat = n := by rw [BitVec.ofInt_natCast, BitVec.toNat_ofNat]; omega
    show (BitVec.ofInt 64 (m : Int)).toNat ^^^ (BitVec.ofInt 64 (n : Int)).toNat = _
    rw [e1, e2]
  rw [h1]
  have h2 : m ^^^ n < 2 ^ 63 := Nat.xor_lt_two_pow (by omega) (by omega)
  have : IntKind.i64.wrap ((m ^^^ n : Nat) : Int) = ((m ^^^ n : Nat) : Int) := wrap_inR (by simp only [inR]; omega)
  rw [this]; omega
theorem pickF_range {bs : List CV} (hb : BytesOk bs) {p n : Int} (hp : 0 ≤ p) (hp' : p < 1099511627776) (hl : bs.length ≤ 2000) (hn : 1 ≤ n) : 0 ≤ pickF bs p n ∧ pickF bs p n < n := by
  unfold pickF
  split
  · omega
  · split
    · have := (hb.range (p + 1 - 1).toNat).1
      exact ⟨Int.tmod_nonneg _ this, Int.tmod_lt_of_pos _ (by omega)⟩
    · refine ⟨Int.tmod_nonneg _ ?_, Int.tmod_lt_of_pos _ (by omega)⟩
      have m1 := hb.range (((p + 1 - 1).tmod bs.length).toNat)
      have m2 := hb.range ((((p + 1 - 1) * 7 + 3).tmod bs.length).toNat)
      have m3 : 0 ≤ (p + 1 - 1).tdiv bs.length := Int.tdiv_nonneg (by omega) (by omega)
      have m4 : (p + 1 - 1).tdiv bs.length ≤ p + 1 - 1 := Int.tdiv_le_self _ (by omega)
      have m5 : 0 ≤ mixF bs (p + 1 - 1) ∧ mixF bs (p + 1 - 1) < 1125899906842624 := by unfold mixF; omega
      exact xorF_nonneg m5.1 (Int.tdiv_nonneg m5.1 (by omega)) (by omega) (by have := Int.tdiv_le_self 64 m5.1; omega)
def rd (σ : Heap) (l : Nat) (bs : List CV) (p : Int) : Heap := upd σ l (.cells [.vec bs, i64 p])
theorem pick_c {l : Nat} {σ : Heap} {bs : List CV} {p n : Int} (hb : BytesOk bs) (hp : 0 ≤ p) (hp' : p < 1099511627776) (hl : bs.length ≤ 2000) :
    CRun Tryz.prog 22 [.ptr (.g l) 0, i64 n] (rd σ l bs p) (· = .ret (i64 (pickF bs p n)) (rd σ l bs (p + 1))) := by
  have hs : rd σ l bs p l = some (.cells [.vec bs, i64 p]) := upd_same _ _ _
  rw [show rd σ l bs (p + 1) = upd (rd σ l bs p) l (.cells [.vec bs, i64 (p + 1)]) by simp only [rd, upd_upd]]
  generalize rd σ l bs p = σ at hs
  refine crun_of (X := G []) (G_ok _) (G_sat _) (body := bodyOf Tryz.f22) Tryz.func22 rfl (by kernel_rfl) (by kernel_rfl) ?_
  rw [Tryz.ntmps22]
  by_cases hn : n < 1
  · have e : pickF bs p n = 0 := by unfold pickF; rw [if_pos (.inl hn)]
    rw [e]
    conv => whnf
    repeat' (first | refine Fork.yp ?_ | refine GetN.go ?_ | refine Need.go ?_ | refine finGo ?_) <;> try (conv => whnf)
    rfl
  by_cases hz : bs.length = 0
  · have e : pickF bs p n = 0 := by unfold pickF; rw [if_pos (.inr hz)]
    rw [e]
    conv => whnf
    repeat' (first | refine Fork.yp ?_ | refine Fork.np ?_ | refine GetN.go ?_ | refine Need.go ?_ | refine finGo ?_) <;> try (conv => whnf)
    rfl
  by_cases hk : p < bs.length
  · have e : pickF bs p n = (getB bs (p + 1 - 1).toNat).tmod n := by unfold pickF; rw [if_neg (by omega), if_pos hk]
    rw [e]
    have m0 := hb.get (i := (p + 1 - 1).toNat) (by omega)
    have m1 := hb.range (p + 1 - 1).toNat
    conv => whnf
    repeat' (first | refine Fork.yp ?_ | refine Fork.np ?_ | refine GetN.go ?_ | refine Need.go ?_ | refine ElemN.go ?_ | refine finGo ?_) <;> try (conv => whnf)
    rfl
  · have e : pickF bs p n = (xorF (mixF bs (p + 1 - 1)) ((mixF bs (p + 1 - 1)).tdiv 64)).tmod n := by unfold pickF; rw [if_neg (by omega), if_neg hk]
    rw [e]
    have d1 : 0 ≤ (p + 1 - 1).tmod bs.length ∧ (p + 1 - 1).tmod bs.length < bs.length := ⟨Int.tmod_nonneg _ (by omega), Int.tmod_lt_of_pos _ (by omega)⟩
    have d2 : 0 ≤ ((p + 1 - 1) * 7 + 3).tmod bs.length ∧ ((p + 1 - 1) * 7 + 3).tmod bs.length < bs.length := ⟨Int.tmod_nonneg _ (by omega), Int.tmod_lt_of_pos _ (by omega)⟩
    have g1 := hb.get (i := ((p + 1 - 1).tmod bs.length).toNat) (by omega)
    have g2 := hb.get (i := (((p + 1 - 1) * 7 + 3).tmod bs.length).toNat) (by omega)
    have m1 := hb.range (((p + 1 - 1).tmod bs.length).toNat)
    have m2 := hb.range ((((p + 1 - 1) * 7 + 3).tmod bs.length).toNat)
    have m3 : 0 ≤ (p + 1 - 1).tdiv bs.length := Int.tdiv_nonneg (by omega) (by omega)
    have m4 : (p + 1 - 1).tdiv bs.length ≤ p + 1 - 1 := Int.tdiv_le_self _ (by omega)
    have m5 : 0 ≤ mixF bs (p + 1 - 1) ∧ mixF bs (p + 1 - 1) < 1125899906842624 := by unfold mixF; omega
    have m6 : 0 ≤ (mixF bs (p + 1 - 1)).tdiv 64 := Int.tdiv_nonneg m5.1 (by omega)
    have m7 := Int.tdiv_le_self 64 m5.1
    simp only [mixF] at m5 m6 m7
    conv => whnf
    repeat' (first | refine Fork.np ?_ | refine GetN.go ?_ | refine Need.go ?_ | refine Need.draw ?_ | refine ElemN.go ?_ | refine finGo ?_) <;> try (conv => whnf)
    rfl
theorem pick_n {l : Nat} {σ : Heap} {bs : List CV} {p n : Int} (hb : BytesOk bs) (hl : bs.length ≤ 2000) (hp : 0 ≤ p) (hp' : p < 1099511627776) :
    CRun Tryz.prog 22 [.ptr (.g l) 0, i64 n] (rd σ l bs p) (fun out => ∃ k, (1 ≤ n → 0 ≤ k ∧ k < n) ∧ (n < 1 → k = 0) ∧ out = .ret (i64 k) (rd σ l bs (p + 1))) :=
  (pick_c hb hp hp' hl).mono fun out h => ⟨pickF bs p n, fun hn => pickF_range hb hp hp' hl hn, fun hn => by unfold pickF; rw [if_pos (.inl hn)], h⟩
theorem one_c {l : Nat} {σ : Heap} {bs xs : List CV} {p lo hi : Int} (hb : BytesOk bs) (hl : bs.length ≤ 2000) (hp : 0 ≤ p) (hp' : p < 1099511627776) (hx : Each (fun x => ∃ n, x = i64 n ∧ lo ≤ n ∧ n ≤ hi) xs) (h1 : 1 ≤ xs.length) (h2 : xs.length ≤ 1000) :
    CRun Tryz.prog 59 [.ptr (.g l) 0, .vec xs] (rd σ l bs p) (fun out => ∃ k, lo ≤ k ∧ k ≤ hi ∧ out = .ret (i64 k) (rd σ l bs (p + 1))) := by
  refine crun_of (X := X) X_ok X_sat (body := bodyOf Tryz.f59) Tryz.func59 rfl (by kernel_rfl) (by kernel_rfl) ?_
  rw [Tryz.ntmps59]
  conv => whnf
  repeat' (first | (refine CallN.many (pick_n hb hl hp hp') ?_; rintro _ ⟨k, hk1, hk2, rfl⟩) | (refine ElemN.any hx.all (by omega) ?_; rintro _ ⟨n, rfl, hn1, hn2⟩) | refine Need.go ?_ | refine ExtN.wr ?_ | refine finGo ?_) <;> try (conv => whnf)
  exact ⟨_, hn1, hn2, rfl⟩
theorem of_c {l : Nat} {σ : Heap} {bs xs : List CV} {p : Int} {m : Nat} (hb : BytesOk bs) (hl : bs.length ≤ 2000) (hp : 0 ≤ p) (hp' : p < 1099511627776) (hx : Each (fun x => ∃ t : ByteArray, x = .sc (.string t) ∧ t.size ≤ m) xs) (h1 : 1 ≤ xs.length) (h2 : xs.length ≤ 1000) :
    CRun Tryz.prog 23 [.ptr (.g l) 0, .vec xs] (rd σ l bs p) (fun out => ∃ t : ByteArray, t.size ≤ m ∧ out = .ret (.sc (.string t)) (rd σ l bs (p + 1))) := by
  refine crun_of (X := X) X_ok X_sat (body := bodyOf Tryz.f23) Tryz.func23 rfl (by kernel_rfl) (by kernel_rfl) ?_
  rw [Tryz.ntmps23]
  conv => whnf
  repeat' (first | (refine CallN.many (pick_n hb hl hp hp') ?_; rintro _ ⟨k, hk1, hk2, rfl⟩) | (refine ElemN.any hx.all (by omega) ?_; rintro _ ⟨t, rfl, ht⟩) | refine Need.go ?_ | refine ExtN.wr ?_ | refine finGo ?_) <;> try (conv => whnf)
  exact ⟨_, ht, rfl⟩
theorem open_c {σ : Heap} {bs : List CV} (hb : BytesOk bs) (h2 : bs.length ≤ 1048576) :
    CRun Tryz.prog 20 [.vec bs] σ (fun out => ∃ l bs', BytesOk bs' ∧ bs'.length ≤ 2000 ∧ out = .ret (.ptr (.g l) 0) (rd σ l bs' 0)) := by
  refine crun_of (X := G [10]) (G_ok _) (G_sat _) (body := bodyOf Tryz.f20) Tryz.func20 rfl (by kernel_rfl) (by kernel_rfl) ?_
  rw [Tryz.ntmps20]
  conv => whnf
  repeat' (first | refine Fork.dp (fun h => ?_) (fun h => ?_) | refine Need.go ?_ | refine AllocN.go (fun l hl => ?_) | refine finGo ?_) <;> try (conv => whnf)
  · exact ⟨l, (bs.take 2000).drop 0, fun x hx => hb x (List.mem_of_mem_take (List.mem_of_mem_drop hx)), by simp; omega, rfl⟩
  · exact ⟨l, bs, hb, by omega, rfl⟩
inductive Val where
  | mk (k n : Int) (t : ByteArray) (l : List Val)
mutual
def Val.cv : Val → CV
  | .mk k n t l => .agg [i64 k, i64 n, .sc (.string t), .vec (Val.cvs l)]
def Val.cvs : List Val → List CV
  | [] => []
  | v :: r => v.cv :: Val.cvs r
end
inductive Tame : Val → Prop
  | mk {k n : Int} {t : ByteArray} {l : List Val} (hk : -100 ≤ k ∧ k ≤ 100) (hn : -2000000000 ≤ n ∧ n ≤ 2000000000) (ht : t.size ≤ 100) (hl : l.length ≤ 100) (h : ∀ v ∈ l, Tame v) : Tame (.mk k n t l)
theorem Tame.inv {k n : Int} {t : ByteArray} {l : List Val} (h : Tame (.mk k n t l)) : (-100 ≤ k ∧ k ≤ 100) ∧ (-2000000000 ≤ n ∧ n ≤ 2000000000) ∧ t.size ≤ 100 ∧ l.length ≤ 100 ∧ ∀ v ∈ l, Tame v := by
  cases h with
  | mk h1 h2 h3 h4 h5 => exact ⟨h1, h2, h3, h4, h5⟩
theorem cvs_map (l : List Val) : Val.cvs l = l.map Val.cv := by
  induction l with
  | nil => rfl
  | cons v r ih => simp [Val.cvs, ih]
theorem cvs_append (l m : List Val) : Val.cvs (l ++ m) = Val.cvs l ++ Val.cvs m := by simp [cvs_map]
theorem cvs_length (l : List Val) : (Val.cvs l).length = l.length := by simp [cvs_map]
theorem many_c {σ : Heap} {s : ByteArray} {n : Nat} (hs : s.size ≤ 1) (hn' : n ≤ 40) :
    CRun Tryz.prog 82 [.sc (.string s), i64 n] σ (fun out => ∃ t : ByteArray, t.size ≤ n ∧ out = .ret (.sc (.string t)) σ) := by
  refine crun_of (X := X) X_ok X_sat (body := bodyOf Tryz.f82) Tryz.func82 rfl (by kernel_rfl) (by kernel_rfl) ?_
  rw [Tryz.ntmps82]
  conv => whnf
  have hN : s.size * n ≤ n := by have := Nat.mul_le_mul_right n hs; omega
  refine LoopN.rule (α := ByteArray × Nat × ByteArray) (fun a => ⟨20, [(0, .sc (.string a.1)), (1, i64 a.2.1), (4, .sc (.string ⟨#[]⟩)), (5, .sc (.string a.2.2))], []⟩) (fun _ => σ) (fun a => a.2.1)
    (fun a => a.2.2.size + a.1.size * a.2.1 ≤ n ∧ a.2.1 ≤ 40) ?_ (s, n, ⟨#[]⟩) ⟨by show 0 + s.size * n ≤ n; omega, hn'⟩ ?_
  · rintro ⟨s, m, out⟩ K ⟨h1, h2⟩ hK
    dsimp only at h1 h2 ⊢
    by_cases hm : m = 0
    · subst hm
      conv => whnf
      repeat' (first | refine Fork.np ?_ | refine finGo ?_) <;> try (conv => whnf)
      exact ⟨out, by omega, rfl⟩
    · have e1 : s.size ≤ s.size * m := Nat.le_mul_of_pos_right _ (by omega)
      have e2 : s.size * m = (s.size + s.size) * (m / 2) + s.size * (m % 2) := by
        rw [← Nat.two_mul, Nat.mul_comm 2, Nat.mul_assoc, ← Nat.mul_add, Nat.div_add_mod]
      have e3 : (m : Int).tmod 2 = ((m % 2 : Nat) : Int) := rfl
      have e4 : (m : Int).tdiv 2 = ((m / 2 : Nat) : Int) := rfl
      conv => whnf
      repeat' (first | refine Fork.yp ?_ | refine Fork.dp (fun h => ?_) (fun h => ?_) | refine Need.go ?_) <;> try (conv => whnf)
      · have e5 : m % 2 = 1 := by omega
        rw [e5] at e2
        refine hK (s ++ s, m / 2, out ++ s) _ _ ⟨?_, ?_⟩ (by simp only; omega) ?_
        · simp only [ByteArray.size_append]; omega
        · simp only; omega
        · (refine ⟨rfl, ?_, ?_, Sub.refl _⟩ <;> repeat' (first | exact EnvLe.nil | exact LocsLe.nil | refine EnvLe.cons _ _ _ ?_ ?_ | refine LocsLe.cons _ _ _ ?_ ?_ | exact CVle.same _ rfl | exact CVle.vec _ _ | exact CVle.nil | exact CVle.tok _ _ _ rfl rfl | exact ObLe.tok _ _ rfl | exact CVles.nil | refine CVles.cons ?_ ?_ | exact ObLe.same _ rfl rfl | refine ObLe.cells rfl ?_))
      · have e5 : m % 2 = 0 := by omega
        rw [e5] at e2
        refine hK (s ++ s, m / 2, out) _ _ ⟨?_, ?_⟩ (by simp only; omega) ?_
        · simp only [ByteArray.size_append]; omega
        · simp only; omega
        · (refine ⟨rfl, ?_, ?_, Sub.refl _⟩ <;> repeat' (first | exact EnvLe.nil | exact LocsLe.nil | refine EnvLe.cons _ _ _ ?_ ?_ | refine LocsLe.cons _ _ _ ?_ ?_ | exact CVle.same _ rfl | exact CVle.vec _ _ | exact CVle.nil | exact CVle.tok _ _ _ rfl rfl | exact ObLe.tok _ _ rfl | exact CVles.nil | refine CVles.cons ?_ ?_ | exact ObLe.same _ rfl rfl | refine ObLe.cells rfl ?_))
  · (refine ⟨rfl, ?_, ?_, Sub.refl _⟩ <;> repeat' (first | exact EnvLe.nil | exact LocsLe.nil | refine EnvLe.cons _ _ _ ?_ ?_ | refine LocsLe.cons _ _ _ ?_ ?_ | exact CVle.same _ rfl | exact CVle.vec _ _ | exact CVle.nil | exact CVle.tok _ _ _ rfl rfl | exact ObLe.tok _ _ rfl | exact CVles.nil | refine CVles.cons ?_ ?_ | exact ObLe.same _ rfl rfl | refine ObLe.cells rfl ?_))
def boolV : Bool → Val
  | true => .mk 1 1 ⟨#[]⟩ []
  | false => .mk 1 0 ⟨#[]⟩ []
theorem bool_c {σ : Heap} {b : Bool} : CRun Tryz.prog 110 [.sc (.bool b)] σ (· = .ret (boolV b).cv σ) := by
  refine crun_of (X := X) X_ok X_sat (body := bodyOf Tryz.f110) Tryz.func110 rfl (by kernel_rfl) (by kernel_rfl) ?_
  rw [Tryz.ntmps110]
  cases b
  · conv => whnf
    repeat' (first | refine finGo ?_) <;> try (conv => whnf)
    rfl
  · conv => whnf
    repeat' (first | refine finGo ?_) <;> try (conv => whnf)
    rfl
def VPost (σ : Heap) (l : Nat) (bs : List CV) (p : Int) (N : Nat) (out : COut) : Prop := ∃ v p', Tame v ∧ p ≤ p' ∧ p' ≤ p + N ∧ out = .ret (Val.cv v) (rd σ l bs p')
def cost : Nat → Nat
  | 0 => 4
  | d + 1 => 4 + 4 * cost d
theorem plain_c {l : Nat} {σ : Heap} {bs : List CV} (hb : BytesOk bs) (hl : bs.length ≤ 2000) : ∀ (d : Nat) {deep p : Int}, deep ≤ d + 1 → -10 ≤ deep → deep ≤ 1000 → 0 ≤ p → p + cost d < 1099511627776 →
    CRun Tryz.prog 83 [.ptr (.g l) 0, i64 deep] (rd σ l bs p) (VPost σ l bs p (cost d)) := by
  intro d
  induction d with
  | zero =>
    intro deep p hd hd' hd'' hp hp'
    simp only [cost] at hp' ⊢
    refine crun_of (X := X) X_ok X_sat (body := bodyOf Tryz.f83) Tryz.func83 rfl (by kernel_rfl) (by kernel_rfl) ?_
    rw [Tryz.ntmps83]
    conv => whnf
    repeat' (first | (refine CallN.many (pick_n hb hl (by omega) (by omega)) ?_; rintro _ ⟨k, hk1, hk2, rfl⟩) | (refine CallN.one bool_c ?_) | (refine CallN.many (many_c (n := 16) (by decide) (by omega)) ?_; rintro _ ⟨t, ht, rfl⟩) | (refine CallN.many (of_c (m := 16) hb hl (by omega) (by omega) ?_ (Nat.le_of_ble_eq_true rfl) (Nat.le_of_ble_eq_true rfl)) ?_; (repeat' (first | exact (trivial : True) | refine And.intro ?_ ?_ | refine ⟨_, rfl, ?_⟩ | omega | decide)); rintro _ ⟨t, ht, rfl⟩) | (refine CallN.many (one_c (lo := -1) (hi := 1000000000) hb hl (by omega) (by omega) ?_ (Nat.le_of_ble_eq_true rfl) (Nat.le_of_ble_eq_true rfl)) ?_; (repeat' (first | exact (trivial : True) | refine And.intro ?_ ?_ | refine ⟨_, rfl, ?_⟩ | omega | decide)); rintro _ ⟨n, hn1, hn2, rfl⟩) | refine Fork.np ?_ | refine Fork.dp (fun h => ?_) (fun h => ?_) | refine ExtN.ext ?_ | refine ExtN.wr ?_ | refine finGo ?_) <;> try (conv => whnf)
    all_goals exact ⟨.mk _ _ _ [], _, .mk (by omega) (by omega) (by first | omega | decide) (by decide) (by simp), by omega, by omega, rfl⟩
  | succ d ih =>
    intro deep p hd hd' hd'' hp hp'
    simp only [cost] at hp' ⊢
    refine crun_of (X := X) X_ok X_sat (body := bodyOf Tryz.f83) Tryz.func83 rfl (by kernel_rfl) (by kernel_rfl) ?_
    rw [Tryz.ntmps83]
    conv => whnf
    repeat' (first | (refine CallN.many (pick_n hb hl (by omega) (by omega)) ?_; rintro _ ⟨k, hk1, hk2, rfl⟩) | (refine CallN.one bool_c ?_) | (refine CallN.many (many_c (n := 16) (by decide) (by omega)) ?_; rintro _ ⟨t, ht, rfl⟩) | (refine CallN.many (of_c (m := 16) hb hl (by omega) (by omega) ?_ (Nat.le_of_ble_eq_true rfl) (Nat.le_of_ble_eq_true rfl)) ?_; (repeat' (first | exact (trivial : True) | refine And.intro ?_ ?_ | refine ⟨_, rfl, ?_⟩ | omega | decide)); rintro _ ⟨t, ht, rfl⟩) | (refine CallN.many (one_c (lo := -1) (hi := 1000000000) hb hl (by omega) (by omega) ?_ (Nat.le_of_ble_eq_true rfl) (Nat.le_of_ble_eq_true rfl)) ?_; (repeat' (first | exact (trivial : True) | refine And.intro ?_ ?_ | refine ⟨_, rfl, ?_⟩ | omega | decide)); rintro _ ⟨n, hn1, hn2, rfl⟩) | refine Fork.dp (fun h => ?_) (fun h => ?_) | refine ExtN.ext ?_ | refine ExtN.wr ?_ | refine finGo ?_) <;> try (conv => whnf)
    all_goals try exact ⟨.mk _ _ _ [], _, .mk (by omega) (by omega) (by first | omega | decide) (by decide) (by simp), by omega, by omega, rfl⟩
    refine LoopN.rule (α := Int × List Val × Int) (fun a => ⟨48, [(0, .ptr (.g l) 0), (1, i64 deep), (4, .ptr (.f 4) 0), (5, .ptr (.f 5) 0), (6, i64 a.1)],
        [(4, .cells [i64 0, i64 0, .sc (.string ⟨#[]⟩), .nil]), (5, .cells [i64 4, i64 0, .sc (.string ⟨#[]⟩), .avec 41 (Val.cvs a.2.1)]), (41, .tok 55 4 (Val.cvs a.2.1).length)]⟩)
      (fun a => rd σ l bs a.2.2) (fun a => a.1.toNat) (fun a => 0 ≤ a.1 ∧ a.2.1.length + a.1 ≤ 3 ∧ (∀ v ∈ a.2.1, Tame v) ∧ p ≤ a.2.2 ∧ a.2.2 + a.1 * cost d ≤ p + 2 + 3 * cost d) ?_ (k, [], p + 1 + 1) ⟨by omega, by simp; omega, by simp, by simp only; omega, ?_⟩ ?_
    · rintro ⟨n, vs, q⟩ K ⟨h1, h2, h3, h4, h5⟩ hK
      dsimp only at h1 h2 h3 h4 h5 ⊢
      have e1 : (n - 1) * (cost d : Int) = n * cost d - cost d := by rw [Int.sub_mul, Int.one_mul]
      have e2 : 0 ≤ n * (cost d : Int) := Int.mul_nonneg h1 (by omega)
      have e3 := cvs_length vs
      conv => whnf
      repeat' (first | (refine CallN.many (ih (by omega) (by omega) (by omega) (by omega) (by omega)) ?_; rintro _ ⟨⟨vk, vn, vt, vl⟩, p', hv, hp1, hp2, rfl⟩) | refine OrdN.go ?_ | refine Fork.nb ?_ | refine Fork.dp (fun h => ?_) (fun h => ?_) | refine Need.ap1 ?_ | refine Need.go ?_ | refine Need.draw ?_ | refine ExtN.wr ?_ | refine finGo ?_) <;> try (conv => whnf)
      · refine hK (n - 1, vs ++ [.mk vk vn vt vl], p') _ _ ⟨by simp only; omega, by simp only [List.length_append, List.length_cons, List.length_nil]; omega, ?_, by simp only; omega, by simp only; omega⟩ (by simp only; omega) ?_
        · intro v h
          rcases List.mem_append.1 h with h | h
          · exact h3 v h
          · rcases List.mem_singleton.1 h with rfl; exact hv
        · dsimp only
          rw [cvs_append, List.length_append]
          (refine ⟨rfl, ?_, ?_, Sub.refl _⟩ <;> repeat' (first | exact EnvLe.nil | exact LocsLe.nil | refine EnvLe.cons _ _ _ ?_ ?_ | refine LocsLe.cons _ _ _ ?_ ?_ | exact CVle.same _ rfl | exact CVle.vec _ _ | exact CVle.nil | exact CVle.tok _ _ _ rfl rfl | exact ObLe.tok _ _ rfl | exact CVles.nil | refine CVles.cons ?_ ?_ | exact ObLe.same _ rfl rfl | refine ObLe.cells rfl ?_))
      · refine ⟨.mk 4 0 _ vs, q, .mk (by omega) (by omega) (by decide) (by omega) h3, by omega, by omega, rfl⟩
    · have e0 : k * (cost d : Int) ≤ 3 * cost d := Int.mul_le_mul_of_nonneg_right (by omega) (by omega)
      simp only; omega
    · (refine ⟨rfl, ?_, ?_, Sub.refl _⟩ <;> repeat' (first | exact EnvLe.nil | exact LocsLe.nil | refine EnvLe.cons _ _ _ ?_ ?_ | refine LocsLe.cons _ _ _ ?_ ?_ | exact CVle.same _ rfl | exact CVle.vec _ _ | exact CVle.nil | exact CVle.tok _ _ _ rfl rfl | exact ObLe.tok _ _ rfl | exact CVles.nil | refine CVles.cons ?_ ?_ | exact ObLe.same _ rfl rfl | refine ObLe.cells rfl ?_))
def costV : Nat → Nat
  | 0 => 8 + cost 0
  | d + 1 => 8 + cost (d + 1) + 4 * costV d
theorem value_c {l : Nat} {σ : Heap} {bs : List CV} (hb : BytesOk bs) (hl : bs.length ≤ 2000) : ∀ (d : Nat) {deep p : Int}, deep ≤ d + 1 → -10 ≤ deep → deep ≤ 1000 → 0 ≤ p → p + costV d < 1099511627776 →
    CRun Tryz.prog 81 [.ptr (.g l) 0, i64 deep] (rd σ l bs p) (VPost σ l bs p (costV d)) := by
  intro d
  induction d with
  | zero =>
    intro deep p hd hd' hd'' hp hp'
    simp only [costV] at hp' ⊢
    refine crun_of (X := X) X_ok X_sat (body := bodyOf Tryz.f81) Tryz.func81 rfl (by kernel_rfl) (by kernel_rfl) ?_
    rw [Tryz.ntmps81]
    conv => whnf
    repeat' (first | (refine CallN.many (pick_n hb hl (by omega) (by omega)) ?_; rintro _ ⟨k, hk1, hk2, rfl⟩) | (refine CallN.many (plain_c hb hl 0 (by omega) (by omega) (by omega) (by omega) (by omega)) ?_; rintro _ ⟨⟨vk, vn, vt, vl⟩, p', hv, hp1, hp2, rfl⟩) | refine Fork.np ?_ | refine Fork.dp (fun h => ?_) (fun h => ?_) | refine ExtN.wr ?_ | refine finGo ?_) <;> try (conv => whnf)
    all_goals first
      | exact ⟨.mk _ _ _ [], _, .mk (by omega) (by omega) (by first | omega | decide) (by decide) (by simp), by omega, by omega, rfl⟩
      | exact ⟨.mk vk vn vt vl, p', hv, by omega, by omega, rfl⟩
  | succ d ih =>
    intro deep p hd hd' hd'' hp hp'
    simp only [costV] at hp' ⊢
    refine crun_of (X := X) X_ok X_sat (body := bodyOf Tryz.f81) Tryz.func81 rfl (by kernel_rfl) (by kernel_rfl) ?_
    rw [Tryz.ntmps81]
    conv => whnf
    repeat' (first | (refine CallN.many (pick_n hb hl (by omega) (by omega)) ?_; rintro _ ⟨k, hk1, hk2, rfl⟩) | (refine CallN.many (plain_c hb hl (d + 1) (by omega) (by omega) (by omega) (by omega) (by omega)) ?_; rintro _ ⟨⟨vk, vn, vt, vl⟩, p', hv, hp1, hp2, rfl⟩) | refine Fork.dp (fun h => ?_) (fun h => ?_) | refine ExtN.wr ?_ | refine finGo ?_) <;> try (conv => whnf)
    all_goals try first
      | exact ⟨.mk _ _ _ [], _, .mk (by omega) (by omega) (by first | omega | decide) (by decide) (by simp), by omega, by omega, rfl⟩
      | exact ⟨.mk vk vn vt vl, p', hv, by omega, by omega, rfl⟩
    refine LoopN.rule (α := Int × List Val × Int) (fun a => ⟨46, [(0, .ptr (.g l) 0), (1, i64 deep), (4, .ptr (.f 4) 0), (5, .ptr (.f 5) 0), (6, i64 a.1)],
        [(4, .cells [i64 0, i64 0, .sc (.string ⟨#[]⟩), .nil]), (5, .cells [i64 4, i64 0, .sc (.string ⟨#[]⟩), .avec 40 (Val.cvs a.2.1)]), (40, .tok 55 4 (Val.cvs a.2.1).length)]⟩)
      (fun a => rd σ l bs a.2.2) (fun a => a.1.toNat) (fun a => 0 ≤ a.1 ∧ a.2.1.length + a.1 ≤ 3 ∧ (∀ v ∈ a.2.1, Tame v) ∧ p ≤ a.2.2 ∧ a.2.2 + a.1 * costV d ≤ p + 2 + 3 * costV d) ?_ (k, [], p + 1 + 1) ⟨by omega, by simp; omega, by simp, by simp only; omega, ?_⟩ ?_
    · rintro ⟨n, vs, q⟩ K ⟨h1, h2, h3, h4, h5⟩ hK
      dsimp only at h1 h2 h3 h4 h5 ⊢
      have e1 : (n - 1) * (costV d : Int) = n * costV d - costV d := by rw [Int.sub_mul, Int.one_mul]
      have e2 : 0 ≤ n * (costV d : Int) := Int.mul_nonneg h1 (by omega)
      have e3 := cvs_length vs
      conv => whnf
      repeat' (first | (refine CallN.many (ih (by omega) (by omega) (by omega) (by omega) (by omega)) ?_; rintro _ ⟨⟨vk, vn, vt, vl⟩, p', hv, hp1, hp2, rfl⟩) | refine OrdN.go ?_ | refine Fork.nb ?_ | refine Fork.dp (fun h => ?_) (fun h => ?_) | refine Need.ap1 ?_ | refine Need.go ?_ | refine Need.draw ?_ | refine ExtN.wr ?_ | refine finGo ?_) <;> try (conv => whnf)
      · refine hK (n - 1, vs ++ [.mk vk vn vt vl], p') _ _ ⟨by simp only; omega, by simp only [List.length_append, List.length_cons, List.length_nil]; omega, ?_, by simp only; omega, by simp only; omega⟩ (by simp only; omega) ?_
        · intro v h
          rcases List.mem_append.1 h with h | h
          · exact h3 v h
          · rcases List.mem_singleton.1 h with rfl; exact hv
        · dsimp only
          rw [cvs_append, List.length_append]
          (refine ⟨rfl, ?_, ?_, Sub.refl _⟩ <;> repeat' (first | exact EnvLe.nil | exact LocsLe.nil | refine EnvLe.cons _ _ _ ?_ ?_ | refine LocsLe.cons _ _ _ ?_ ?_ | exact CVle.same _ rfl | exact CVle.vec _ _ | exact CVle.nil | exact CVle.tok _ _ _ rfl rfl | exact ObLe.tok _ _ rfl | exact CVles.nil | refine CVles.cons ?_ ?_ | exact ObLe.same _ rfl rfl | refine ObLe.cells rfl ?_))
      · refine ⟨.mk 4 0 _ vs, q, .mk (by omega) (by omega) (by decide) (by omega) h3, by omega, by omega, rfl⟩
    · have e0 : k * (costV d : Int) ≤ 3 * costV d := Int.mul_le_mul_of_nonneg_right (by omega) (by omega)
      simp only; omega
    · (refine ⟨rfl, ?_, ?_, Sub.refl _⟩ <;> repeat' (first | exact EnvLe.nil | exact LocsLe.nil | refine EnvLe.cons _ _ _ ?_ ?_ | refine LocsLe.cons _ _ _ ?_ ?_ | exact CVle.same _ rfl | exact CVle.vec _ _ | exact CVle.nil | exact CVle.tok _ _ _ rfl rfl | exact ObLe.tok _ _ rfl | exact CVles.nil | refine CVles.cons ?_ ?_ | exact ObLe.same _ rfl rfl | refine ObLe.cells rfl ?_))
theorem any_c {l : Nat} {σ : Heap} {bs : List CV} (hb : BytesOk bs) (hl : bs.length ≤ 2000) {p : Int} (hp : 0 ≤ p) (hp' : p < 549755813888) :
    CRun Tryz.prog 49 [.ptr (.g l) 0] (rd σ l bs p) (VPost σ l bs p 500) := by
  have c2 : costV 2 = 396 := rfl
  have c0 : cost 0 = 4 := rfl
  refine crun_of (X := X) X_ok X_sat (body := bodyOf Tryz.f49) Tryz.func49 rfl (by kernel_rfl) (by kernel_rfl) ?_
  rw [Tryz.ntmps49]
  conv => whnf
  repeat' (first | (refine CallN.many (value_c hb hl 2 (by omega) (by omega) (by omega) (by omega) (by omega)) ?_; rintro _ ⟨⟨vk, vn, vt, vl⟩, p', hv, hp1, hp2, rfl⟩; have ⟨a1, a2, a3, a4, a5⟩ := hv.inv) | (refine CallN.many (pick_n hb hl (by omega) (by omega)) ?_; rintro _ ⟨k, hk1, hk2, rfl⟩) | (refine CallN.many (many_c (n := 17) (by decide) (by omega)) ?_; rintro _ ⟨t, ht, rfl⟩) | (refine CallN.many (of_c (m := 17) hb hl (by omega) (by omega) ?_ (Nat.le_of_ble_eq_true rfl) (Nat.le_of_ble_eq_true rfl)) ?_; (repeat' (first | exact (trivial : True) | refine And.intro ?_ ?_ | refine ⟨_, rfl, ?_⟩ | omega | decide)); rintro _ ⟨t, ht, rfl⟩) | (refine CallN.many (one_c (lo := -1000000001) (hi := 1000000001) hb hl (by omega) (by omega) ?_ (Nat.le_of_ble_eq_true rfl) (Nat.le_of_ble_eq_true rfl)) ?_; (repeat' (first | exact (trivial : True) | refine And.intro ?_ ?_ | refine ⟨_, rfl, ?_⟩ | omega | decide)); rintro _ ⟨n, hn1, hn2, rfl⟩) | refine Fork.dp (fun h => ?_) (fun h => ?_) | refine Need.go ?_ | refine ExtN.ext ?_ | refine ExtN.wr ?_ | refine finGo ?_) <;> try (conv => whnf)
  · exact ⟨.mk _ _ _ vl, _, .mk (by omega) (by omega) (by omega) a4 a5, by omega, by omega, rfl⟩
  · exact ⟨.mk _ _ _ vl, _, .mk (by omega) (by omega) (by omega) a4 a5, by omega, by omega, rfl⟩
  · exact ⟨.mk _ _ _ vl, _, .mk (by omega) (by omega) (by omega) a4 a5, by omega, by omega, rfl⟩
  · exact ⟨.mk 4 0 ⟨#[]⟩ [.mk vk vn vt vl], _, .mk (by omega) (by omega) (by decide) (by simp) (by simpa using hv), by omega, by omega, rfl⟩
  · refine LoopN.rule (α := Int × List Val × Int) (fun a => ⟨51, [(0, .ptr (.g l) 0), (2, .ptr (.f 2) 0), (3, .ptr (.f 3) 0), (4, i64 a.1)],
        [(2, .cells [i64 0, i64 0, .sc (.string ⟨#[]⟩), .nil]), (3, .cells [i64 4, i64 0, .sc (.string ⟨#[]⟩), .avec 48 (Val.cvs a.2.1)]), (48, .tok 55 4 (Val.cvs a.2.1).length)]⟩)
      (fun a => rd σ l bs a.2.2) (fun a => a.1.toNat) (fun a => 0 ≤ a.1 ∧ a.2.1.length + a.1 ≤ 8 ∧ (∀ v ∈ a.2.1, Tame v) ∧ p ≤ a.2.2 ∧ a.2.2 + a.1 * 4 ≤ p' + 2 + 32) ?_ (6 + k, [], p' + 1 + 1) ⟨by simp only; omega, by simp; omega, by simp, by simp only; omega, by simp only; omega⟩ ?_
    · rintro ⟨n, vs, q⟩ K ⟨h1, h2, h3, h4, h5⟩ hK
      dsimp only at h1 h2 h3 h4 h5 ⊢
      have e3 := cvs_length vs
      conv => whnf
      repeat' (first | (refine CallN.many (plain_c hb hl 0 (by omega) (by omega) (by omega) (by omega) (by omega)) ?_; rintro _ ⟨⟨vk, vn, vt, vl⟩, p', hv, hp1, hp2, rfl⟩) | refine OrdN.go ?_ | refine Fork.nb ?_ | refine Fork.dp (fun h => ?_) (fun h => ?_) | refine Need.ap1 ?_ | refine Need.go ?_ | refine Need.draw ?_ | refine ExtN.wr ?_ | refine finGo ?_) <;> try (conv => whnf)
      · refine hK (n - 1, vs ++ [.mk vk vn vt vl], p') _ _ ⟨by simp only; omega, by simp only [List.length_append, List.length_cons, List.length_nil]; omega, ?_, by simp only; omega, by simp only; omega⟩ (by simp only; omega) ?_
        · intro v h
          rcases List.mem_append.1 h with h | h
          · exact h3 v h
          · rcases List.mem_singleton.1 h with rfl; exact hv
        · dsimp only
          rw [cvs_append, List.length_append]
          (refine ⟨rfl, ?_, ?_, Sub.refl _⟩ <;> repeat' (first | exact EnvLe.nil | exact LocsLe.nil | refine EnvLe.cons _ _ _ ?_ ?_ | refine LocsLe.cons _ _ _ ?_ ?_ | exact CVle.same _ rfl | exact CVle.vec _ _ | exact CVle.nil | exact CVle.tok _ _ _ rfl rfl | exact ObLe.tok _ _ rfl | exact CVles.nil | refine CVles.cons ?_ ?_ | exact ObLe.same _ rfl rfl | refine ObLe.cells rfl ?_))
      · refine ⟨.mk 4 0 _ vs, q, .mk (by omega) (by omega) (by decide) (by omega) h3, by omega, by omega, rfl⟩
    · (refine ⟨rfl, ?_, ?_, Sub.refl _⟩ <;> repeat' (first | exact EnvLe.nil | exact LocsLe.nil | refine EnvLe.cons _ _ _ ?_ ?_ | refine LocsLe.cons _ _ _ ?_ ?_ | exact CVle.same _ rfl | exact CVle.vec _ _ | exact CVle.nil | exact CVle.tok _ _ _ rfl rfl | exact ObLe.tok _ _ rfl | exact CVles.nil | refine CVles.cons ?_ ?_ | exact ObLe.same _ rfl rfl | refine ObLe.cells rfl ?_))
  · exact ⟨.mk _ _ _ vl, _, .mk (by omega) (by omega) (by omega) a4 a5, by omega, by omega, rfl⟩
theorem cvs_get {l : List Val} {i : Nat} (hi : i < l.length) : ∃ v, v ∈ l ∧ (Val.cvs l)[i]? = some (Val.cv v) ∧ l.take (i + 1) = l.take i ++ [v] := by
  refine ⟨l[i], List.getElem_mem hi, ?_, by rw [List.take_add_one, List.getElem?_eq_getElem hi]; rfl⟩
  rw [cvs_map, List.getElem?_map, List.getElem?_eq_getElem hi]; rfl
theorem copy_c {σ : Heap} {v : Val} (hv : Tame v) : CRun Tryz.prog 85 [v.cv] σ (· = .ret v.cv σ) := by
  induction hv with
  | @mk vk vn vt vl hk hn ht hl h ih =>
    refine crun_of (X := X) X_ok X_sat (body := bodyOf Tryz.f85) Tryz.func85 rfl (by kernel_rfl) (by kernel_rfl) ?_
    rw [Tryz.ntmps85]
    conv => whnf
    refine LoopN.rule (α := Nat) (fun i => ⟨31, [(1, .ptr (.f 1) 0), (2, .ptr (.f 2) 0), (3, .ptr (.f 3) 0), (4, i64 i)],
        [(1, .cells [i64 vk, i64 vn, .sc (.string vt), .vec (Val.cvs vl)]), (2, .cells [i64 0, i64 0, .sc (.string ⟨#[]⟩), .nil]), (3, .cells [i64 vk, i64 vn, .sc (.string vt), .avec 28 (Val.cvs (vl.take i))]), (28, .tok 55 4 (Val.cvs (vl.take i)).length)]⟩)
      (fun _ => σ) (fun i => vl.length - i) (fun i => i ≤ vl.length) ?_ 0 (Nat.zero_le _) ?_
    · intro i K h1 hK
      dsimp only at h1 ⊢
      have e3 := cvs_length vl
      have e4 : (Val.cvs (vl.take i)).length = i := by rw [cvs_length, List.length_take]; omega
      by_cases hi : i < vl.length
      · obtain ⟨⟨wk, wn, wt, wl⟩, hm, hg, htk⟩ := cvs_get hi
        have hK := hK (i + 1)
        rw [htk, cvs_append, List.length_append] at hK
        conv => whnf
        repeat' (first | (refine CallN.one (ih _ hm) ?_) | refine OrdN.go ?_ | refine Fork.yp ?_ | refine Fork.nb ?_ | refine Need.ap1 ?_ | refine Need.go ?_ | refine Need.draw ?_ | refine ElemN.go ?_ | refine ExtN.ext ?_) <;> try (conv => whnf)
        refine hK _ _ (by omega) (by omega) ?_
        (refine ⟨rfl, ?_, ?_, Sub.refl _⟩ <;> repeat' (first | exact EnvLe.nil | exact LocsLe.nil | refine EnvLe.cons _ _ _ ?_ ?_ | refine LocsLe.cons _ _ _ ?_ ?_ | exact CVle.same _ rfl | exact CVle.vec _ _ | exact CVle.nil | exact CVle.tok _ _ _ rfl rfl | exact ObLe.tok _ _ rfl | exact CVles.nil | refine CVles.cons ?_ ?_ | exact ObLe.same _ rfl rfl | refine ObLe.cells rfl ?_))
      · conv => whnf
        repeat' (first | refine Fork.np ?_ | refine finGo ?_) <;> try (conv => whnf)
        have : vl.take i = vl := List.take_of_length_le (by omega)
        rw [this]
        rfl
    · (refine ⟨rfl, ?_, ?_, Sub.refl _⟩ <;> repeat' (first | exact EnvLe.nil | exact LocsLe.nil | refine EnvLe.cons _ _ _ ?_ ?_ | refine LocsLe.cons _ _ _ ?_ ?_ | exact CVle.same _ rfl | exact CVle.vec _ _ | exact CVle.nil | exact CVle.tok _ _ _ rfl rfl | exact ObLe.tok _ _ rfl | exact CVles.nil | refine CVles.cons ?_ ?_ | exact ObLe.same _ rfl rfl | refine ObLe.cells rfl ?_))
def byteOk (c : UInt8) : Bool := !(decide ((c.toNat : Int) < 32) || decide (126 < (c.toNat : Int)) || decide ((c.toNat : Int) = 39))
def textOk (t : ByteArray) : Bool := decide (t.size ≤ 16) && (List.range t.size).all fun i => byteOk (t.data.getD i 0)
theorem textOk_no {t : ByteArray} {i : Nat} (hi : i < t.size) (h : byteOk (t.data.getD i 0) = false) : textOk t = false := by
  unfold textOk
  rw [Bool.and_eq_false_iff]
  right
  rw [List.all_eq_false]
  exact ⟨i, List.mem_range.2 hi, by rw [h]; simp⟩
theorem textOk_yes {t : ByteArray} (hs : t.size ≤ 16) (h : ∀ i, i < t.size → byteOk (t.data.getD i 0) = true) : textOk t = true := by
  unfold textOk
  rw [Bool.and_eq_true, List.all_eq_true]
  exact ⟨decide_eq_true hs, fun i hi => h i (List.mem_range.1 hi)⟩
theorem ansB {b b' : Bool} {σ : Heap} (h : b' = b) : COut.ret (.sc (.bool b)) σ = .ret (.sc (.bool b')) σ := by rw [h]
theorem textFits_c {σ : Heap} {t : ByteArray} (ht : t.size ≤ 1000000000) : CRun Tryz.prog 112 [.sc (.string t)] σ (· = .ret (.sc (.bool (textOk t))) σ) := by
  refine crun_of (X := X) X_ok X_sat (body := bodyOf Tryz.f112) Tryz.func112 rfl (by kernel_rfl) (by kernel_rfl) ?_
  rw [Tryz.ntmps112]
  by_cases hs : t.size ≤ 16
  · conv => whnf
    repeat' (first | refine Fork.np ?_) <;> try (conv => whnf)
    refine LoopN.rule (α := Nat) (fun i => ⟨29, [(0, .sc (.string t)), (2, .sc (.bool false)), (3, i64 i)], []⟩)
      (fun _ => σ) (fun i => t.size - i) (fun i => i ≤ t.size ∧ ∀ j, j < i → byteOk (t.data.getD j 0) = true) ?_ 0 ⟨Nat.zero_le _, by omega⟩ ?_
    · rintro i K ⟨h1, h2⟩ hK
      dsimp only at h1 h2 ⊢
      by_cases hi : i < t.size
      · have hb : byteOk (t.data.getD i 0) = !(decide (((t.data.getD (i : Int).toNat 0).toNat : Int) < 32) || decide (126 < ((t.data.getD (i : Int).toNat 0).toNat : Int)) || decide (((t.data.getD (i : Int).toNat 0).toNat : Int) = 39)) := rfl
        conv => whnf
        repeat' (first | refine Fork.yp ?_ | refine Fork.dp (fun h => ?_) (fun h => ?_) | refine Need.go ?_ | refine finGo ?_) <;> try (conv => whnf)
        all_goals first
          | (refine hK (i + 1) _ _ ⟨by omega, fun j hj => ?_⟩ (by omega) ?_)
          | (exact ansB (textOk_no hi (by rw [hb]; simp only [Bool.not_eq_false', Bool.or_eq_true, decide_eq_true_eq]; omega)))
        · by_cases hj' : j < i
          · exact h2 j hj'
          · have : j = i := by omega
            rw [this, hb]; simp only [Bool.not_eq_true', Bool.or_eq_false_iff, decide_eq_false_iff_not]; omega
        · (refine ⟨rfl, ?_, ?_, Sub.refl _⟩ <;> repeat' (first | exact EnvLe.nil | exact LocsLe.nil | refine EnvLe.cons _ _ _ ?_ ?_ | refine LocsLe.cons _ _ _ ?_ ?_ | exact CVle.same _ rfl | exact CVle.vec _ _ | exact CVle.nil | exact CVle.tok _ _ _ rfl rfl | exact ObLe.tok _ _ rfl | exact CVles.nil | refine CVles.cons ?_ ?_ | exact ObLe.same _ rfl rfl | refine ObLe.cells rfl ?_))
      · conv => whnf
        repeat' (first | refine Fork.np ?_ | refine finGo ?_) <;> try (conv => whnf)
        exact ansB (textOk_yes hs (fun j hj => h2 j (by omega)))
    · (refine ⟨rfl, ?_, ?_, Sub.refl _⟩ <;> repeat' (first | exact EnvLe.nil | exact LocsLe.nil | refine EnvLe.cons _ _ _ ?_ ?_ | refine LocsLe.cons _ _ _ ?_ ?_ | exact CVle.same _ rfl | exact CVle.vec _ _ | exact CVle.nil | exact CVle.tok _ _ _ rfl rfl | exact ObLe.tok _ _ rfl | exact CVles.nil | refine CVles.cons ?_ ?_ | exact ObLe.same _ rfl rfl | refine ObLe.cells rfl ?_))
  · conv => whnf
    repeat' (first | refine Fork.yp ?_ | refine finGo ?_) <;> try (conv => whnf)
    have : textOk t = false := by unfold textOk; rw [decide_eq_false hs]; rfl
    exact ansB this
theorem textFits_v {σ : Heap} {t : ByteArray} {b : Bool} (hb : textOk t = b) (ht : t.size ≤ 1000000000) : CRun Tryz.prog 112 [.sc (.string t)] σ (· = .ret (.sc (.bool b)) σ) := hb ▸ textFits_c ht
theorem l1Text_c {σ : Heap} {t : ByteArray} (ht : t.size ≤ 1000000000) : CRun Tryz.prog 113 [.sc (.string t)] σ (· = .ret (.sc (.bool (textOk t))) σ) := by
  refine crun_of (X := X) X_ok X_sat (body := bodyOf Tryz.f113) Tryz.func113 rfl (by kernel_rfl) (by kernel_rfl) ?_
  rw [Tryz.ntmps113]
  conv => whnf
  refine LoopN.rule (α := Nat) (fun i => ⟨29, [(0, .sc (.string t)), (2, .sc (.bool false)), (3, i64 i)], []⟩)
    (fun _ => σ) (fun i => t.size - i) (fun i => i ≤ t.size ∧ ∀ j, j < i → byteOk (t.data.getD j 0) = true) ?_ 0 ⟨Nat.zero_le _, by omega⟩ ?_
  · rintro i K ⟨h1, h2⟩ hK
    dsimp only at h1 h2 ⊢
    by_cases hi : i < t.size
    · have hb : byteOk (t.data.getD i 0) = !(decide (((t.data.getD (i : Int).toNat 0).toNat : Int) < 32) || decide (126 < ((t.data.getD (i : Int).toNat 0).toNat : Int)) || decide (((t.data.getD (i : Int).toNat 0).toNat : Int) = 39)) := rfl
      conv => whnf
      repeat' (first | refine Fork.yp ?_ | refine Fork.dp (fun h => ?_) (fun h => ?_) | refine Need.go ?_ | refine finGo ?_) <;> try (conv => whnf)
      all_goals first
        | (refine hK (i + 1) _ _ ⟨by omega, fun j hj => ?_⟩ (by omega) ?_)
        | (exact ansB (textOk_no hi (by rw [hb]; simp only [Bool.not_eq_false', Bool.or_eq_true, decide_eq_true_eq]; omega)))
      · by_cases hj' : j < i
        · exact h2 j hj'
        · have : j = i := by omega
          rw [this, hb]; simp only [Bool.not_eq_true', Bool.or_eq_false_iff, decide_eq_false_iff_not]; omega
      · (refine ⟨rfl, ?_, ?_, Sub.refl _⟩ <;> repeat' (first | exact EnvLe.nil | exact LocsLe.nil | refine EnvLe.cons _ _ _ ?_ ?_ | refine LocsLe.cons _ _ _ ?_ ?_ | exact CVle.same _ rfl | exact CVle.vec _ _ | exact CVle.nil | exact CVle.tok _ _ _ rfl rfl | exact ObLe.tok _ _ rfl | exact CVles.nil | refine CVles.cons ?_ ?_ | exact ObLe.same _ rfl rfl | refine ObLe.cells rfl ?_))
    · conv => whnf
      repeat' (first | refine Fork.np ?_ | refine Fork.dp (fun h => ?_) (fun h => ?_) | refine finGo ?_) <;> try (conv => whnf)
      · exact ansB (textOk_yes (by omega) (fun j hj => h2 j (by omega)))
      · have : textOk t = false := by unfold textOk; rw [decide_eq_false (by omega)]; rfl
        exact ansB this
  · (refine ⟨rfl, ?_, ?_, Sub.refl _⟩ <;> repeat' (first | exact EnvLe.nil | exact LocsLe.nil | refine EnvLe.cons _ _ _ ?_ ?_ | refine LocsLe.cons _ _ _ ?_ ?_ | exact CVle.same _ rfl | exact CVle.vec _ _ | exact CVle.nil | exact CVle.tok _ _ _ rfl rfl | exact ObLe.tok _ _ rfl | exact CVles.nil | refine CVles.cons ?_ ?_ | exact ObLe.same _ rfl rfl | refine ObLe.cells rfl ?_))
theorem l1Text_v {σ : Heap} {t : ByteArray} {b : Bool} (hb : textOk t = b) (ht : t.size ≤ 1000000000) : CRun Tryz.prog 113 [.sc (.string t)] σ (· = .ret (.sc (.bool b)) σ) := hb ▸ l1Text_c ht
theorem in_c {σ : Heap} {n lo hi : Int} : CRun Tryz.prog 32 [i64 n, i64 lo, i64 hi] σ (· = .ret (.sc (.bool (decide (lo ≤ n ∧ n ≤ hi)))) σ) := by
  refine crun_of (X := X) X_ok X_sat (body := bodyOf Tryz.f32) Tryz.func32 rfl (by kernel_rfl) (by kernel_rfl) ?_
  rw [Tryz.ntmps32]
  conv => whnf
  repeat' (first | refine Fork.dp (fun h => ?_) (fun h => ?_) | refine finGo ?_) <;> try (conv => whnf)
  · rw [decide_eq_true (by omega)]
  · rw [decide_eq_false (by omega)]
  · rw [decide_eq_false (by omega)]
mutual
def okV : Int → Val → Bool
  | d, .mk k n t l => decide (1 ≤ d) && (
    if k = 0 then decide (n = 0) && decide (t = ⟨#[]⟩) && decide (l.length = 0)
    else if k = 1 then decide (0 ≤ n ∧ n ≤ 1) && decide (t = ⟨#[]⟩) && decide (l.length = 0)
    else if k = 2 then decide (-1000000000 ≤ n ∧ n ≤ 1000000000) && decide (t = ⟨#[]⟩) && decide (l.length = 0)
    else if k = 3 then decide (n = 0) && textOk t && decide (l.length = 0)
    else if k = 5 ∨ k = 6 then decide (0 ≤ n ∧ n ≤ 1000000000) && decide (t = ⟨#[]⟩) && decide (l.length = 0)
    else if k = 4 then decide (n = 0) && decide (t = ⟨#[]⟩) && decide (l.length ≤ 6) && okL (d - 1) l
    else false)
def okL : Int → List Val → Bool
  | _, [] => true
  | d, v :: r => okV d v && okL d r
end
theorem okL_all {d : Int} {l : List Val} : okL d l = l.all (okV d) := by
  induction l with
  | nil => rfl
  | cons v r ih => simp [okL, ih]
theorem fits_c {σ : Heap} {v : Val} (hv : Tame v) : ∀ {d : Int}, -10 ≤ d → d ≤ 1000 → CRun Tryz.prog 86 [v.cv, i64 d] σ (· = .ret (.sc (.bool (okV d v))) σ) := by
  induction hv with
  | @mk k n t l hk hn ht hl h ih =>
    intro d hd hd'
    have e3 := cvs_length l
    refine crun_of (X := X) X_ok X_sat (body := bodyOf Tryz.f86) Tryz.func86 rfl (by kernel_rfl) (by kernel_rfl) ?_
    rw [Tryz.ntmps86]
    have key : ∀ b, okV d (.mk k n t l) = b → COut.ret (.sc (.bool b)) σ = .ret (.sc (.bool (okV d (.mk k n t l)))) σ := fun b h => ansB h
    by_cases d1 : d < 1
    · conv => whnf
      repeat' (first | refine Fork.yp ?_ | refine finGo ?_) <;> try (conv => whnf)
      exact key _ (by simp only [okV]; rw [decide_eq_false (by omega)]; rfl)
    have d2 : decide (1 ≤ d) = true := decide_eq_true (by omega)
    by_cases k0 : k = 0
    · subst k0
      have okk : okV d (.mk 0 n t l) = (decide (n = 0) && decide (t = ⟨#[]⟩) && decide (l.length = 0)) := by simp only [okV, d2]; rfl
      conv => whnf
      repeat' (first | refine Fork.yp ?_ | refine Fork.np ?_ | refine Fork.dp (fun h => ?_) (fun h => ?_) | refine finGo ?_) <;> try (conv => whnf)
      all_goals first
        | exact key _ (by rw [okk]; simp only [Bool.and_eq_true, decide_eq_true_eq]; exact ⟨⟨by omega, by assumption⟩, by omega⟩)
        | exact key _ (by rw [okk]; simp only [Bool.and_eq_false_iff, decide_eq_false_iff_not]; first | exact .inl (.inl (by omega)) | exact .inl (.inr (by assumption)) | exact .inr (by omega))
    by_cases k1 : k = 1
    · subst k1
      have okk : okV d (.mk 1 n t l) = (decide (0 ≤ n ∧ n ≤ 1) && decide (t = ⟨#[]⟩) && decide (l.length = 0)) := by simp only [okV, d2]; rfl
      conv => whnf
      repeat' (first | refine Fork.yp ?_ | refine Fork.np ?_ | refine Fork.dp (fun h => ?_) (fun h => ?_) | refine finGo ?_) <;> try (conv => whnf)
      all_goals first
        | exact key _ (by rw [okk]; simp only [Bool.and_eq_true, decide_eq_true_eq]; exact ⟨⟨by omega, by assumption⟩, by omega⟩)
        | exact key _ (by rw [okk]; simp only [Bool.and_eq_false_iff, decide_eq_false_iff_not]; first | exact .inl (.inl (by omega)) | exact .inl (.inr (by assumption)) | exact .inr (by omega))
    by_cases k2 : k = 2
    · subst k2
      have okk : okV d (.mk 2 n t l) = (decide (-1000000000 ≤ n ∧ n ≤ 1000000000) && decide (t = ⟨#[]⟩) && decide (l.length = 0)) := by simp only [okV, d2]; rfl
      conv => whnf
      repeat' (first | refine Fork.yp ?_ | refine Fork.np ?_ | refine Fork.dp (fun h => ?_) (fun h => ?_) | refine finGo ?_) <;> try (conv => whnf)
      all_goals first
        | exact key _ (by rw [okk]; simp only [Bool.and_eq_true, decide_eq_true_eq]; exact ⟨⟨by omega, by assumption⟩, by omega⟩)
        | exact key _ (by rw [okk]; simp only [Bool.and_eq_false_iff, decide_eq_false_iff_not]; first | exact .inl (.inl (by omega)) | exact .inl (.inr (by assumption)) | exact .inr (by omega))
    by_cases k3 : k = 3
    · subst k3
      have okk : okV d (.mk 3 n t l) = (decide (n = 0) && textOk t && decide (l.length = 0)) := by simp only [okV, d2]; rfl
      cases htx : textOk t
      · conv => whnf
        repeat' (first | (refine CallN.one (textFits_v htx (by omega)) ?_) | refine Fork.yp ?_ | refine Fork.np ?_ | refine Fork.dp (fun h => ?_) (fun h => ?_) | refine ExtN.ext ?_ | refine finGo ?_) <;> try (conv => whnf)
        all_goals first
          | exact key _ (by rw [okk]; simp only [Bool.and_eq_true, decide_eq_true_eq]; exact ⟨⟨by omega, by assumption⟩, by omega⟩)
          | exact key _ (by rw [okk]; simp only [Bool.and_eq_false_iff, decide_eq_false_iff_not]; first | exact .inl (.inl (by omega)) | exact .inl (.inr (by assumption)) | exact .inr (by omega))
      · conv => whnf
        repeat' (first | (refine CallN.one (textFits_v htx (by omega)) ?_) | refine Fork.yp ?_ | refine Fork.np ?_ | refine Fork.dp (fun h => ?_) (fun h => ?_) | refine ExtN.ext ?_ | refine finGo ?_) <;> try (conv => whnf)
        all_goals first
          | exact key _ (by rw [okk]; simp only [Bool.and_eq_true, decide_eq_true_eq]; exact ⟨⟨by omega, by assumption⟩, by omega⟩)
          | exact key _ (by rw [okk]; simp only [Bool.and_eq_false_iff, decide_eq_false_iff_not]; first | exact .inl (.inl (by omega)) | exact .inl (.inr (by assumption)) | exact .inr (by omega))
    by_cases k5 : k = 5
    · subst k5
      have okk : okV d (.mk 5 n t l) = (decide (0 ≤ n ∧ n ≤ 1000000000) && decide (t = ⟨#[]⟩) && decide (l.length = 0)) := by simp only [okV, d2]; rfl
      conv => whnf
      repeat' (first | refine Fork.yp ?_ | refine Fork.np ?_ | refine Fork.dp (fun h => ?_) (fun h => ?_) | refine finGo ?_) <;> try (conv => whnf)
      all_goals first
        | exact key _ (by rw [okk]; simp only [Bool.and_eq_true, decide_eq_true_eq]; exact ⟨⟨by omega, by assumption⟩, by omega⟩)
        | exact key _ (by rw [okk]; simp only [Bool.and_eq_false_iff, decide_eq_false_iff_not]; first | exact .inl (.inl (by omega)) | exact .inl (.inr (by assumption)) | exact .inr (by omega))
    by_cases k6 : k = 6
    · subst k6
      have okk : okV d (.mk 6 n t l) = (decide (0 ≤ n ∧ n ≤ 1000000000) && decide (t = ⟨#[]⟩) && decide (l.length = 0)) := by simp only [okV, d2]; rfl
      conv => whnf
      repeat' (first | refine Fork.yp ?_ | refine Fork.np ?_ | refine Fork.dp (fun h => ?_) (fun h => ?_) | refine finGo ?_) <;> try (conv => whnf)
      all_goals first
        | exact key _ (by rw [okk]; simp only [Bool.and_eq_true, decide_eq_true_eq]; exact ⟨⟨by omega, by assumption⟩, by omega⟩)
        | exact key _ (by rw [okk]; simp only [Bool.and_eq_false_iff, decide_eq_false_iff_not]; first | exact .inl (.inl (by omega)) | exact .inl (.inr (by assumption)) | exact .inr (by omega))
    by_cases k4 : k = 4
    · subst k4
      have okk : okV d (.mk 4 n t l) = (decide (n = 0) && decide (t = ⟨#[]⟩) && decide (l.length ≤ 6) && okL (d - 1) l) := by simp only [okV, d2]; rfl
      by_cases hn0 : n = 0
      case neg =>
        conv => whnf
        repeat' (first | refine Fork.yp ?_ | refine Fork.np ?_ | refine Fork.ny ?_ | refine finGo ?_) <;> try (conv => whnf)
        exact key _ (by rw [okk, decide_eq_false hn0]; rfl)
      by_cases ht0 : t = ⟨#[]⟩
      case neg =>
        conv => whnf
        repeat' (first | refine Fork.yp ?_ | refine Fork.np ?_ | refine Fork.ny ?_ | refine Fork.nn ?_ | refine finGo ?_) <;> try (conv => whnf)
        exact key _ (by rw [okk, decide_eq_false ht0, Bool.and_false]; rfl)
      by_cases hl0 : l.length ≤ 6
      case neg =>
        conv => whnf
        repeat' (first | refine Fork.yp ?_ | refine Fork.np ?_ | refine Fork.nn ?_ | refine finGo ?_) <;> try (conv => whnf)
        exact key _ (by rw [okk, decide_eq_false hl0, Bool.and_false]; rfl)
      rw [decide_eq_true hn0, decide_eq_true ht0, decide_eq_true hl0, Bool.true_and, Bool.true_and, Bool.true_and, okL_all] at okk
      conv => whnf
      repeat' (first | refine Fork.yp ?_ | refine Fork.np ?_ | refine Fork.nn ?_) <;> try (conv => whnf)
      refine LoopN.rule (α := Nat) (fun i => ⟨136, [(1, i64 d), (2, .ptr (.f 2) 0), (4, .sc (.bool false)), (124, .vec (Val.cvs l)), (125, i64 (Val.cvs l).length), (126, i64 i)], [(2, .cells [i64 4, i64 n, .sc (.string t), .vec (Val.cvs l)])]⟩)
        (fun _ => σ) (fun i => l.length - i) (fun i => i ≤ l.length ∧ (l.take i).all (okV (d - 1)) = true) ?_ 0 ⟨Nat.zero_le _, rfl⟩ ?_
      · rintro i K ⟨h1, h2⟩ hK
        dsimp only at h1 h2 ⊢
        by_cases hi : i < l.length
        · obtain ⟨w, hm, hg, htk⟩ := cvs_get hi
          have hc := ih w hm (d := d - 1) (by omega) (by omega)
          have hK := hK (i + 1)
          cases hw : okV (d - 1) w with
          | true =>
            rw [hw] at hc
            obtain ⟨wk, wn, wt, wl⟩ := w
            conv => whnf
            repeat' (first | (refine CallN.one hc ?_) | refine Fork.yp ?_ | refine Need.go ?_ | refine ElemN.go ?_ | refine ExtN.ext ?_) <;> try (conv => whnf)
            refine hK _ _ ⟨by omega, by rw [htk, List.all_append, h2]; simp [hw]⟩ (by omega) ?_
            (refine ⟨rfl, ?_, ?_, Sub.refl _⟩ <;> repeat' (first | exact EnvLe.nil | exact LocsLe.nil | refine EnvLe.cons _ _ _ ?_ ?_ | refine LocsLe.cons _ _ _ ?_ ?_ | exact CVle.same _ rfl | exact CVle.vec _ _ | exact CVle.nil | exact CVle.tok _ _ _ rfl rfl | exact ObLe.tok _ _ rfl | exact CVles.nil | refine CVles.cons ?_ ?_ | exact ObLe.same _ rfl rfl | refine ObLe.cells rfl ?_))
          | false =>
            rw [hw] at hc
            have hno : okV d (.mk 4 n t l) = false := by rw [okk, List.all_eq_false]; exact ⟨w, hm, by simp [hw]⟩
            obtain ⟨wk, wn, wt, wl⟩ := w
            conv => whnf
            repeat' (first | (refine CallN.one hc ?_) | refine Fork.yp ?_ | refine Need.go ?_ | refine ElemN.go ?_ | refine ExtN.ext ?_ | refine finGo ?_) <;> try (conv => whnf)
            exact key _ hno
        · conv => whnf
          repeat' (first | refine Fork.np ?_ | refine finGo ?_) <;> try (conv => whnf)
          have : l.take i = l := List.take_of_length_le (by omega)
          rw [this] at h2
          exact key _ (by rw [okk, h2])
      · (refine ⟨rfl, ?_, ?_, Sub.refl _⟩ <;> repeat' (first | exact EnvLe.nil | exact LocsLe.nil | refine EnvLe.cons _ _ _ ?_ ?_ | refine LocsLe.cons _ _ _ ?_ ?_ | exact CVle.same _ rfl | exact CVle.vec _ _ | exact CVle.nil | exact CVle.tok _ _ _ rfl rfl | exact ObLe.tok _ _ rfl | exact CVles.nil | refine CVles.cons ?_ ?_ | exact ObLe.same _ rfl rfl | refine ObLe.cells rfl ?_))
    · conv => whnf
      repeat' (first | refine Fork.np ?_ | refine finGo ?_) <;> try (conv => whnf)
      all_goals exact key _ (by simp only [okV, d2]; rw [if_neg k0, if_neg k1, if_neg k2, if_neg k3, if_neg (by omega), if_neg k4]; rfl)
theorem okV_low {d : Int} {v : Val} (h : d < 1) : okV d v = false := by
  cases v
  simp only [okV]; rw [decide_eq_false (by omega)]; rfl
theorem in_n {σ : Heap} {n lo hi : Int} : CRun Tryz.prog 32 [i64 n, i64 lo, i64 hi] σ (fun out => ((lo ≤ n ∧ n ≤ hi) ∧ out = .ret (.sc (.bool true)) σ) ∨ (¬ (lo ≤ n ∧ n ≤ hi) ∧ out = .ret (.sc (.bool false)) σ)) :=
  in_c.mono fun out h => by
    by_cases hr : lo ≤ n ∧ n ≤ hi
    · rw [decide_eq_true hr] at h; exact .inl ⟨hr, h⟩
    · rw [decide_eq_false hr] at h; exact .inr ⟨hr, h⟩
theorem l1Ok_c {σ : Heap} {v : Val} (hv : Tame v) : ∀ {d : Int}, 1 ≤ d → d ≤ 1000 → CRun Tryz.prog 87 [v.cv, i64 d] σ (· = .ret (.sc (.bool (okV d v))) σ) := by
  induction hv with
  | @mk k n t l hk hn ht hl h ih =>
    intro d hd hd'
    have e3 := cvs_length l
    refine crun_of (X := X) X_ok X_sat (body := bodyOf Tryz.f87) Tryz.func87 rfl (by kernel_rfl) (by kernel_rfl) ?_
    rw [Tryz.ntmps87]
    have key : ∀ b, okV d (.mk k n t l) = b → COut.ret (.sc (.bool b)) σ = .ret (.sc (.bool (okV d (.mk k n t l)))) σ := fun b h => ansB h
    have d2 : decide (1 ≤ d) = true := decide_eq_true (by omega)
    by_cases k0 : k = 0
    · subst k0
      have okk : okV d (.mk 0 n t l) = (decide (n = 0) && decide (t = ⟨#[]⟩) && decide (l.length = 0)) := by simp only [okV, d2]; rfl
      conv => whnf
      repeat' (first | refine Fork.yp ?_ | refine Fork.dp (fun h => ?_) (fun h => ?_) | refine finGo ?_) <;> try (conv => whnf)
      all_goals first
        | exact key _ (by rw [okk]; simp only [Bool.and_eq_true, decide_eq_true_eq]; exact ⟨⟨by omega, by assumption⟩, by omega⟩)
        | exact key _ (by rw [okk]; simp only [Bool.and_eq_false_iff, decide_eq_false_iff_not]; first | exact .inl (.inl (by omega)) | exact .inl (.inr (by assumption)) | exact .inr (by omega))
    by_cases k1 : k = 1
    · subst k1
      have okk : okV d (.mk 1 n t l) = (decide (0 ≤ n ∧ n ≤ 1) && decide (t = ⟨#[]⟩) && decide (l.length = 0)) := by simp only [okV, d2]; rfl
      conv => whnf
      repeat' (first | (refine CallN.many in_n ?_; rintro _ (⟨hr, rfl⟩ | ⟨hr, rfl⟩)) | refine Fork.yp ?_ | refine Fork.np ?_ | refine Fork.dp (fun h => ?_) (fun h => ?_) | refine ExtN.ext ?_ | refine finGo ?_) <;> try (conv => whnf)
      all_goals first
        | exact key _ (by rw [okk]; simp only [Bool.and_eq_true, decide_eq_true_eq]; exact ⟨⟨by omega, by assumption⟩, by omega⟩)
        | exact key _ (by rw [okk]; simp only [Bool.and_eq_false_iff, decide_eq_false_iff_not]; first | exact .inl (.inl (by omega)) | exact .inl (.inr (by assumption)) | exact .inr (by omega))
    by_cases k2 : k = 2
    · subst k2
      have okk : okV d (.mk 2 n t l) = (decide (-1000000000 ≤ n ∧ n ≤ 1000000000) && decide (t = ⟨#[]⟩) && decide (l.length = 0)) := by simp only [okV, d2]; rfl
      conv => whnf
      repeat' (first | (refine CallN.many in_n ?_; rintro _ (⟨hr, rfl⟩ | ⟨hr, rfl⟩)) | refine Fork.yp ?_ | refine Fork.np ?_ | refine Fork.dp (fun h => ?_) (fun h => ?_) | refine ExtN.ext ?_ | refine finGo ?_) <;> try (conv => whnf)
      all_goals first
        | exact key _ (by rw [okk]; simp only [Bool.and_eq_true, decide_eq_true_eq]; exact ⟨⟨by omega, by assumption⟩, by omega⟩)
        | exact key _ (by rw [okk]; simp only [Bool.and_eq_false_iff, decide_eq_false_iff_not]; first | exact .inl (.inl (by omega)) | exact .inl (.inr (by assumption)) | exact .inr (by omega))
    by_cases k3 : k = 3
    · subst k3
      have okk : okV d (.mk 3 n t l) = (decide (n = 0) && textOk t && decide (l.length = 0)) := by simp only [okV, d2]; rfl
      cases htx : textOk t
      · conv => whnf
        repeat' (first | (refine CallN.one (l1Text_v htx (by omega)) ?_) | refine Fork.yp ?_ | refine Fork.np ?_ | refine Fork.dp (fun h => ?_) (fun h => ?_) | refine ExtN.ext ?_ | refine finGo ?_) <;> try (conv => whnf)
        all_goals first
          | exact key _ (by rw [okk]; simp only [Bool.and_eq_true, decide_eq_true_eq]; exact ⟨⟨by omega, by assumption⟩, by omega⟩)
          | exact key _ (by rw [okk]; simp only [Bool.and_eq_false_iff, decide_eq_false_iff_not]; first | exact .inl (.inl (by omega)) | exact .inl (.inr (by assumption)) | exact .inr (by omega))
      · conv => whnf
        repeat' (first | (refine CallN.one (l1Text_v htx (by omega)) ?_) | refine Fork.yp ?_ | refine Fork.np ?_ | refine Fork.dp (fun h => ?_) (fun h => ?_) | refine ExtN.ext ?_ | refine finGo ?_) <;> try (conv => whnf)
        all_goals first
          | exact key _ (by rw [okk]; simp only [Bool.and_eq_true, decide_eq_true_eq]; exact ⟨⟨by omega, by assumption⟩, by omega⟩)
          | exact key _ (by rw [okk]; simp only [Bool.and_eq_false_iff, decide_eq_false_iff_not]; first | exact .inl (.inl (by omega)) | exact .inl (.inr (by assumption)) | exact .inr (by omega))
    by_cases k5 : k = 5
    · subst k5
      have okk : okV d (.mk 5 n t l) = (decide (0 ≤ n ∧ n ≤ 1000000000) && decide (t = ⟨#[]⟩) && decide (l.length = 0)) := by simp only [okV, d2]; rfl
      conv => whnf
      repeat' (first | (refine CallN.many in_n ?_; rintro _ (⟨hr, rfl⟩ | ⟨hr, rfl⟩)) | refine Fork.yp ?_ | refine Fork.np ?_ | refine Fork.dp (fun h => ?_) (fun h => ?_) | refine ExtN.ext ?_ | refine finGo ?_) <;> try (conv => whnf)
      all_goals first
        | exact key _ (by rw [okk]; simp only [Bool.and_eq_true, decide_eq_true_eq]; exact ⟨⟨by omega, by assumption⟩, by omega⟩)
        | exact key _ (by rw [okk]; simp only [Bool.and_eq_false_iff, decide_eq_false_iff_not]; first | exact .inl (.inl (by omega)) | exact .inl (.inr (by assumption)) | exact .inr (by omega))
    by_cases k6 : k = 6
    · subst k6
      have okk : okV d (.mk 6 n t l) = (decide (0 ≤ n ∧ n ≤ 1000000000) && decide (t = ⟨#[]⟩) && decide (l.length = 0)) := by simp only [okV, d2]; rfl
      conv => whnf
      repeat' (first | (refine CallN.many in_n ?_; rintro _ (⟨hr, rfl⟩ | ⟨hr, rfl⟩)) | refine Fork.yp ?_ | refine Fork.np ?_ | refine Fork.dp (fun h => ?_) (fun h => ?_) | refine ExtN.ext ?_ | refine finGo ?_) <;> try (conv => whnf)
      all_goals first
        | exact key _ (by rw [okk]; simp only [Bool.and_eq_true, decide_eq_true_eq]; exact ⟨⟨by omega, by assumption⟩, by omega⟩)
        | exact key _ (by rw [okk]; simp only [Bool.and_eq_false_iff, decide_eq_false_iff_not]; first | exact .inl (.inl (by omega)) | exact .inl (.inr (by assumption)) | exact .inr (by omega))
    by_cases k4 : k = 4
    · subst k4
      have okk : okV d (.mk 4 n t l) = (decide (n = 0) && decide (t = ⟨#[]⟩) && decide (l.length ≤ 6) && okL (d - 1) l) := by simp only [okV, d2]; rfl
      rw [okL_all] at okk
      conv => whnf
      repeat' (first | refine Fork.yp ?_ | refine Fork.np ?_ | refine Fork.dp (fun h => ?_) (fun h => ?_)) <;> try (conv => whnf)
      all_goals
        refine LoopN.rule (α := Nat) (fun i => ⟨103, [(1, i64 d), (2, .ptr (.f 2) 0), (4, .sc (.bool false)), (6, i64 i)], [(2, .cells [i64 4, i64 n, .sc (.string t), .vec (Val.cvs l)])]⟩)
          (fun _ => σ) (fun i => l.length - i) (fun i => i ≤ l.length ∧ (l.take i).all (okV (d - 1)) = true) ?_ 0 ⟨Nat.zero_le _, rfl⟩ ?_
        rotate_left
        (refine ⟨rfl, ?_, ?_, Sub.refl _⟩ <;> repeat' (first | exact EnvLe.nil | exact LocsLe.nil | refine EnvLe.cons _ _ _ ?_ ?_ | refine LocsLe.cons _ _ _ ?_ ?_ | exact CVle.same _ rfl | exact CVle.vec _ _ | exact CVle.nil | exact CVle.tok _ _ _ rfl rfl | exact ObLe.tok _ _ rfl | exact CVles.nil | refine CVles.cons ?_ ?_ | exact ObLe.same _ rfl rfl | refine ObLe.cells rfl ?_))
      all_goals
        rintro i K ⟨h1, h2⟩ hK
        dsimp only at h1 h2 ⊢
        by_cases hi : i < l.length
        · obtain ⟨w, hm, hg, htk⟩ := cvs_get hi
          by_cases hd1 : d < 2
          · have hno : okV d (.mk 4 n t l) = false := by rw [okk, Bool.and_eq_false_iff, List.all_eq_false]; exact .inr ⟨w, hm, by rw [okV_low (by omega)]; simp⟩
            conv => whnf
            repeat' (first | refine Fork.yp ?_ | refine finGo ?_) <;> try (conv => whnf)
            all_goals exact key _ hno
          have hc := ih w hm (d := d - 1) (by omega) (by omega)
          have hK := hK (i + 1)
          cases hw : okV (d - 1) w with
          | true =>
            rw [hw] at hc
            obtain ⟨wk, wn, wt, wl⟩ := w
            conv => whnf
            repeat' (first | (refine CallN.one hc ?_) | refine Fork.yp ?_ | refine Fork.np ?_ | refine Need.go ?_ | refine ElemN.go ?_ | refine ExtN.ext ?_ | refine finGo ?_) <;> try (conv => whnf)
            all_goals first
              | (exfalso; omega)
              | (refine hK _ _ ⟨by omega, by rw [htk, List.all_append, h2]; simp [hw]⟩ (by omega) ?_)
            all_goals
              (refine ⟨rfl, ?_, ?_, Sub.refl _⟩ <;> repeat' (first | exact EnvLe.nil | exact LocsLe.nil | refine EnvLe.cons _ _ _ ?_ ?_ | refine LocsLe.cons _ _ _ ?_ ?_ | exact CVle.same _ rfl | exact CVle.vec _ _ | exact CVle.nil | exact CVle.tok _ _ _ rfl rfl | exact ObLe.tok _ _ rfl | exact CVles.nil | refine CVles.cons ?_ ?_ | exact ObLe.same _ rfl rfl | refine ObLe.cells rfl ?_))
          | false =>
            rw [hw] at hc
            have hno : okV d (.mk 4 n t l) = false := by rw [okk, Bool.and_eq_false_iff, List.all_eq_false]; exact .inr ⟨w, hm, by simp [hw]⟩
            obtain ⟨wk, wn, wt, wl⟩ := w
            conv => whnf
            repeat' (first | (refine CallN.one hc ?_) | refine Fork.yp ?_ | refine Fork.np ?_ | refine Need.go ?_ | refine ElemN.go ?_ | refine ExtN.ext ?_ | refine finGo ?_) <;> try (conv => whnf)
            all_goals first
              | (exfalso; omega)
              | exact key _ hno
        · have : l.take i = l := List.take_of_length_le (by omega)
          rw [this] at h2
          rw [h2, Bool.and_true] at okk
          conv => whnf
          repeat' (first | refine Fork.yp ?_ | refine Fork.np ?_ | refine Fork.dp (fun h => ?_) (fun h => ?_) | refine finGo ?_) <;> try (conv => whnf)
          all_goals first
            | exact key _ (by rw [okk]; simp only [Bool.and_eq_true, decide_eq_true_eq]; exact ⟨⟨by omega, by assumption⟩, by omega⟩)
            | exact key _ (by rw [okk]; simp only [Bool.and_eq_false_iff, decide_eq_false_iff_not]; first | exact .inl (.inl (by omega)) | exact .inl (.inr (by assumption)) | exact .inr (by omega))
    · conv => whnf
      repeat' (first | refine Fork.np ?_ | refine Fork.dp (fun h => ?_) (fun h => ?_) | refine finGo ?_) <;> try (conv => whnf)
      all_goals exact key _ (by simp only [okV, d2]; rw [if_neg k0, if_neg k1, if_neg k2, if_neg k3, if_neg (by omega), if_neg k4]; rfl)
theorem implOk_c {σ : Heap} {v : Val} (hv : Tame v) : CRun Tryz.prog 51 [v.cv] σ (· = .ret (.sc (.bool (okV 3 v))) σ) := by
  refine crun_of (X := X) X_ok X_sat (body := bodyOf Tryz.f51) Tryz.func51 rfl (by kernel_rfl) (by kernel_rfl) ?_
  rw [Tryz.ntmps51]
  have hc := fits_c (σ := σ) hv (d := 3) (by omega) (by omega)
  obtain ⟨k, n, t, l⟩ := v
  conv => whnf
  repeat' (first | (refine CallN.one hc ?_) | refine ExtN.ext ?_ | refine finGo ?_) <;> try (conv => whnf)
theorem specOk_c {σ : Heap} {v : Val} (hv : Tame v) : CRun Tryz.prog 54 [v.cv] σ (· = .ret (.sc (.bool (okV 3 v))) σ) := by
  refine crun_of (X := X) X_ok X_sat (body := bodyOf Tryz.f54) Tryz.func54 rfl (by kernel_rfl) (by kernel_rfl) ?_
  rw [Tryz.ntmps54]
  have hc := l1Ok_c (σ := σ) hv (d := 3) (by omega) (by omega)
  obtain ⟨k, n, t, l⟩ := v
  conv => whnf
  repeat' (first | (refine CallN.one hc ?_) | refine ExtN.ext ?_ | refine finGo ?_) <;> try (conv => whnf)
def intsF (a b : Int) : Int := if a < b then -1 else if b < a then 1 else 0
def rankF (k : Int) : Int := if k = 0 then 6 else if k = 1 then 4 else if k = 2 then 5 else if k = 3 then 3 else if k = 4 then 2 else if k = 5 then 0 else if k = 6 then 1 else 7
def textsF (s t : ByteArray) : Int := if Op.bytesLess s.toList t.toList = true then -1 else if (!(Op.bytesLess s.toList t.toList || decide (s = t))) = true then 1 else 0
theorem ansI {a b : Int} {σ : Heap} (h : b = a) : COut.ret (i64 a) σ = .ret (i64 b) σ := by rw [h]
mutual
def ordV : Val → Val → Int
  | .mk k n t l, .mk k' n' t' l' =>
    if k ≠ k' then intsF (rankF k) (rankF k')
    else if k = 3 then textsF t t'
    else if k = 4 then ordL l l'
    else intsF n n'
def ordL : List Val → List Val → Int
  | [], m => intsF 0 m.length
  | v :: r, [] => intsF (r.length + 1) 0
  | v :: r, w :: s => if ordV v w ≠ 0 then ordV v w else ordL r s
end
theorem cvs_at {l : List Val} {i : Nat} (hi : i < l.length) : ∃ v, v ∈ l ∧ l[i]? = some v ∧ (Val.cvs l)[i]? = some (Val.cv v) := by
  refine ⟨l[i], List.getElem_mem hi, List.getElem?_eq_getElem hi, ?_⟩
  rw [cvs_map, List.getElem?_map, List.getElem?_eq_getElem hi]; rfl
def nullV : Val := .mk 0 0 ⟨#[]⟩ []
def lessF (a b : Val) : Val := match a, b with
  | .mk k n t l, .mk k' n' t' l' => if k = k' ∧ (k = 2 ∨ k = 3 ∨ k = 1) then boolV (decide (ordV (.mk k n t l) (.mk k' n' t' l') < 0)) else nullV
theorem ansC {a b : CV} {σ : Heap} (h : b = a) : COut.ret a σ = .ret b σ := by rw [h]
end Go.Proofs.YtlamgfimgadnmaaGreat
namespace Go.Proofs.YtlamgfimgadnmaaGreat
open Go Go.CL
set_option maxRecDepth 100000
theorem MethN.of {P : Program} {t : TypeId} {name : String} {k : FuncId → Prop} {f : FuncId} (h : MethodIs P t name f) (hk : k f) : MethN P t name k := ⟨⟨f, h, hk⟩⟩
end Go.Proofs.YtlamgfimgadnmaaGreat
namespace Go.Proofs.YtlamgfimgadnmaaGreat
open Go Go.CL
set_option maxRecDepth 10000
theorem fin {f : FuncId} {args : List CV} {σ : Heap} {r q : Int} (h : CRun Tryz.prog f args σ (· = .ret (i64 r) σ)) (e : q = r) : CRun Tryz.prog f args σ (· = .ret (i64 q) σ) := e ▸ h
theorem okV_kind {d k n : Int} {t : ByteArray} {l : List Val} (h : okV d (.mk k n t l) = true) : (k = 0 ∧ n = 0) ∨ k = 1 ∨ k = 2 ∨ k = 3 ∨ k = 4 ∨ k = 5 ∨ k = 6 := by
  simp only [okV, Bool.and_eq_true] at h
  obtain ⟨_, h⟩ := h
  by_cases h0 : k = 0
  · subst h0
    rw [if_pos rfl] at h
    simp only [Bool.and_eq_true, decide_eq_true_eq] at h
    exact .inl ⟨rfl, h.1.1⟩
  by_cases h1 : k = 1
  · exact .inr (.inl h1)
  by_cases h2 : k = 2
  · exact .inr (.inr (.inl h2))
  by_cases h3 : k = 3
  · exact .inr (.inr (.inr (.inl h3)))
  by_cases h4 : k = 4
  · exact .inr (.inr (.inr (.inr (.inl h4))))
  by_cases h5 : k = 5
  · exact .inr (.inr (.inr (.inr (.inr (.inl h5)))))
  by_cases h6 : k = 6
  · exact .inr (.inr (.inr (.inr (.inr (.inr h6)))))
  · rw [if_neg h0, if_neg h1, if_neg h2, if_neg h3, if_neg (by omega), if_neg h4] at h
    cases h
theorem okV_list {d n : Int} {t : ByteArray} {l : List Val} (h : okV d (.mk 4 n t l) = true) : ∀ v ∈ l, okV (d - 1) v = true := by
  have okk : okV d (.mk 4 n t l) = (decide (1 ≤ d) && (decide (n = 0) && decide (t = ⟨#[]⟩) && decide (l.length ≤ 6) && okL (d - 1) l)) := by simp only [okV]; rfl
  rw [okk, okL_all] at h
  simp only [Bool.and_eq_true, List.all_eq_true] at h
  exact fun v hv => h.2.2 v hv
mutual
def sameV : Val → Val → Bool
  | .mk k n t l, .mk k' n' t' l' => decide (k = k' ∧ n = n' ∧ t = t') && sameL l l'
def sameL : List Val → List Val → Bool
  | [], [] => true
  | v :: r, w :: s => sameV v w && sameL r s
  | _, _ => false
end
theorem toList_inj {s t : ByteArray} (h : s.toList = t.toList) : s = t := by
  have e := bytes_toList_eq s t
  rw [h] at e
  simpa using e.symm
theorem okV_num {k : Int} {d n : Int} {t : ByteArray} {l : List Val} (ha : okV d (.mk k n t l) = true) (h3 : k ≠ 3) (h4 : k ≠ 4) : t = ⟨#[]⟩ ∧ l = [] := by
  simp only [okV, Bool.and_eq_true] at ha
  obtain ⟨_, h⟩ := ha
  by_cases h0 : k = 0
  · rw [if_pos h0] at h; simp only [Bool.and_eq_true, decide_eq_true_eq] at h; exact ⟨h.1.2, List.length_eq_zero_iff.1 h.2⟩
  rw [if_neg h0] at h
  by_cases h1 : k = 1
  · rw [if_pos h1] at h; simp only [Bool.and_eq_true, decide_eq_true_eq] at h; exact ⟨h.1.2, List.length_eq_zero_iff.1 h.2⟩
  rw [if_neg h1] at h
  by_cases h2 : k = 2
  · rw [if_pos h2] at h; simp only [Bool.and_eq_true, decide_eq_true_eq] at h; exact ⟨h.1.2, List.length_eq_zero_iff.1 h.2⟩
  rw [if_neg h2, if_neg h3] at h
  by_cases h5 : k = 5 ∨ k = 6
  · rw [if_pos h5] at h; simp only [Bool.and_eq_true, decide_eq_true_eq] at h; exact ⟨h.1.2, List.length_eq_zero_iff.1 h.2⟩
  · rw [if_neg h5, if_neg h4] at h; cases h
theorem okV_text {d n : Int} {t : ByteArray} {l : List Val} (ha : okV d (.mk 3 n t l) = true) : n = 0 ∧ l = [] := by
  have e : okV d (.mk 3 n t l) = (decide (1 ≤ d) && (decide (n = 0) && textOk t && decide (l.length = 0))) := by simp only [okV]; rfl
  rw [e] at ha
  simp only [Bool.and_eq_true, decide_eq_true_eq] at ha
  exact ⟨ha.2.1.1, List.length_eq_zero_iff.1 ha.2.2⟩
end Go.Proofs.YtlamgfimgadnmaaGreat
