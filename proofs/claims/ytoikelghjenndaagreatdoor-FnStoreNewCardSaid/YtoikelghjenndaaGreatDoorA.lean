/-
  Contracts of the functions that the law reaches.
-/
import Derived.Test.YtoikelghjenndaaGreatDoorFwb
import Derived.Test.YtoikelghjenndaaGreatDoorProg
import Derived.KernelRfl
set_option linter.unusedVariables false
set_option linter.unusedSimpArgs false
namespace Go.Proofs.YtoikelghjenndaaGreatDoor
open Go Go.CL
noncomputable def tt : List (Nat × TI) := [
  (0, { size := 1, bytes := 0, isAgg := false, hz := false, zero := [CV.sc (Value.tuple { toList := [] })], fields := [], fok := false, elem := 0, sl := false, ik := none, conc := true, str := false, bl := false, ptr := false, ife := false, mkv := none }),
  (1, { size := 1, bytes := 8, isAgg := false, hz := true, zero := [CV.sc Value.nilFunc], fields := [], fok := false, elem := 0, sl := false, ik := none, conc := true, str := false, bl := false, ptr := false, ife := false, mkv := none }),
  (2, { size := 1, bytes := 8, isAgg := false, hz := true, zero := [CV.sc (Value.int IntKind.i64 0)], fields := [], fok := false, elem := 0, sl := false, ik := some IntKind.i64, conc := true, str := false, bl := false, ptr := false, ife := false, mkv := none }),
  (3, { size := 1, bytes := 8, isAgg := false, hz := true, zero := [CV.sc (Value.int IntKind.i64 0)], fields := [], fok := false, elem := 0, sl := false, ik := some IntKind.i64, conc := true, str := false, bl := false, ptr := false, ife := false, mkv := none }),
  (4, { size := 1, bytes := 1, isAgg := false, hz := true, zero := [CV.sc (Value.bool false)], fields := [], fok := false, elem := 0, sl := false, ik := none, conc := true, str := false, bl := true, ptr := false, ife := false, mkv := none }),
  (5, { size := 1, bytes := 1, isAgg := false, hz := true, zero := [CV.sc (Value.int IntKind.u8 0)], fields := [], fok := false, elem := 0, sl := false, ik := some IntKind.u8, conc := true, str := false, bl := false, ptr := false, ife := false, mkv := none }),
  (6, { size := 1, bytes := 1, isAgg := false, hz := true, zero := [CV.sc (Value.int IntKind.u8 0)], fields := [], fok := false, elem := 0, sl := false, ik := some IntKind.u8, conc := true, str := false, bl := false, ptr := false, ife := false, mkv := none }),
  (7, { size := 4, bytes := 24, isAgg := true, hz := true, zero := [CV.sc (Value.int IntKind.i64 0), CV.sc (Value.int IntKind.i64 0), CV.sc (Value.bool false), CV.sc (Value.int IntKind.u8 0)], fields := [(0, 2, 1), (1, 3, 1), (2, 4, 1), (3, 6, 1)], fok := true, elem := 0, sl := false, ik := none, conc := true, str := false, bl := false, ptr := false, ife := false, mkv := none }),
  (8, { size := 4, bytes := 24, isAgg := true, hz := true, zero := [CV.sc (Value.int IntKind.i64 0), CV.sc (Value.int IntKind.i64 0), CV.sc (Value.bool false), CV.sc (Value.int IntKind.u8 0)], fields := [(0, 2, 1), (1, 3, 1), (2, 4, 1), (3, 6, 1)], fok := true, elem := 0, sl := false, ik := none, conc := true, str := false, bl := false, ptr := false, ife := false, mkv := none }),
  (9, { size := 1, bytes := 16, isAgg := false, hz := true, zero := [CV.sc (Value.string { data := { toList := [] } })], fields := [], fok := false, elem := 0, sl := false, ik := none, conc := true, str := true, bl := false, ptr := false, ife := false, mkv := none }),
  (10, { size := 1, bytes := 16, isAgg := false, hz := true, zero := [CV.sc (Value.string { data := { toList := [] } })], fields := [], fok := false, elem := 0, sl := false, ik := none, conc := true, str := true, bl := false, ptr := false, ife := false, mkv := none }),
  (11, { size := 1, bytes := 16, isAgg := false, hz := true, zero := [CV.sc (Value.string { data := { toList := [] } })], fields := [], fok := false, elem := 0, sl := false, ik := none, conc := true, str := true, bl := false, ptr := false, ife := false, mkv := none }),
  (12, { size := 1, bytes := 8, isAgg := false, hz := true, zero := [CV.sc (Value.int IntKind.u64 0)], fields := [], fok := false, elem := 0, sl := false, ik := some IntKind.u64, conc := true, str := false, bl := false, ptr := false, ife := false, mkv := none }),
  (13, { size := 2, bytes := 24, isAgg := true, hz := true, zero := [CV.sc (Value.string { data := { toList := [] } }), CV.sc (Value.int IntKind.u64 0)], fields := [(0, 9, 1), (1, 12, 1)], fok := true, elem := 0, sl := false, ik := none, conc := true, str := false, bl := false, ptr := false, ife := false, mkv := none }),
  (14, { size := 2, bytes := 24, isAgg := true, hz := true, zero := [CV.sc (Value.string { data := { toList := [] } }), CV.sc (Value.int IntKind.u64 0)], fields := [(0, 9, 1), (1, 12, 1)], fok := true, elem := 0, sl := false, ik := none, conc := true, str := false, bl := false, ptr := false, ife := false, mkv := none }),
  (15, { size := 1, bytes := 8, isAgg := false, hz := true, zero := [CV.sc (Value.pointer none)], fields := [], fok := false, elem := 391, sl := false, ik := none, conc := true, str := false, bl := false, ptr := true, ife := false, mkv := none }),
  (16, { size := 1, bytes := 8, isAgg := false, hz := true, zero := [CV.sc (Value.pointer none)], fields := [], fok := false, elem := 394, sl := false, ik := none, conc := true, str := false, bl := false, ptr := true, ife := false, mkv := none }),
  (17, { size := 1, bytes := 8, isAgg := false, hz := true, zero := [CV.sc (Value.pointer none)], fields := [], fok := false, elem := 401, sl := false, ik := none, conc := true, str := false, bl := false, ptr := true, ife := false, mkv := none }),
  (18, { size := 1, bytes := 8, isAgg := true, hz := true, zero := [CV.sc (Value.pointer none)], fields := [(0, 17, 1)], fok := true, elem := 0, sl := false, ik := none, conc := true, str := false, bl := false, ptr := false, ife := false, mkv := none }),
  (19, { size := 1, bytes := 8, isAgg := true, hz := true, zero := [CV.sc (Value.pointer none)], fields := [(0, 17, 1)], fok := true, elem := 0, sl := false, ik := none, conc := true, str := false, bl := false, ptr := false, ife := false, mkv := none }),
  (20, { size := 1, bytes := 16, isAgg := false, hz := true, zero := [CV.sc Value.nilIface], fields := [], fok := false, elem := 0, sl := false, ik := none, conc := false, str := false, bl := false, ptr := false, ife := true, mkv := none }),
  (21, { size := 1, bytes := 4, isAgg := false, hz := true, zero := [CV.sc (Value.int IntKind.i32 0)], fields := [], fok := false, elem := 0, sl := false, ik := some IntKind.i32, conc := true, str := false, bl := false, ptr := false, ife := false, mkv := none }),
  (22, { size := 1, bytes := 24, isAgg := false, hz := true, zero := [CV.nil], fields := [], fok := false, elem := 5, sl := true, ik := none, conc := true, str := false, bl := false, ptr := false, ife := false, mkv := none }),
  (23, { size := 1, bytes := 24, isAgg := false, hz := true, zero := [CV.nil], fields := [], fok := false, elem := 46, sl := true, ik := none, conc := true, str := false, bl := false, ptr := false, ife := false, mkv := none }),
  (24, { size := 1, bytes := 8, isAgg := false, hz := true, zero := [CV.sc Value.nilFunc], fields := [], fok := false, elem := 0, sl := false, ik := none, conc := true, str := false, bl := false, ptr := false, ife := false, mkv := none }),
  (25, { size := 1, bytes := 24, isAgg := false, hz := true, zero := [CV.nil], fields := [], fok := false, elem := 63, sl := true, ik := none, conc := true, str := false, bl := false, ptr := false, ife := false, mkv := none }),
  (26, { size := 1, bytes := 24, isAgg := false, hz := true, zero := [CV.nil], fields := [], fok := false, elem := 66, sl := true, ik := none, conc := true, str := false, bl := false, ptr := false, ife := false, mkv := none }),
  (27, { size := 4, bytes := 64, isAgg := true, hz := true, zero := [CV.nil, CV.nil, CV.sc (Value.int IntKind.i64 0), CV.sc (Value.int IntKind.i64 0)], fields := [(0, 25, 1), (1, 26, 1), (2, 3, 1), (3, 3, 1)], fok := true, elem := 0, sl := false, ik := none, conc := true, str := false, bl := false, ptr := false, ife := false, mkv := none }),
  (28, { size := 4, bytes := 64, isAgg := true, hz := true, zero := [CV.nil, CV.nil, CV.sc (Value.int IntKind.i64 0), CV.sc (Value.int IntKind.i64 0)], fields := [(0, 25, 1), (1, 26, 1), (2, 3, 1), (3, 3, 1)], fok := true, elem := 0, sl := false, ik := none, conc := true, str := false, bl := false, ptr := false, ife := false, mkv := none }),
  (29, { size := 1, bytes := 24, isAgg := false, hz := true, zero := [CV.nil], fields := [], fok := false, elem := 69, sl := true, ik := none, conc := true, str := false, bl := false, ptr := false, ife := false, mkv := none }),
  (30, { size := 1, bytes := 24, isAgg := false, hz := true, zero := [CV.nil], fields := [], fok := false, elem := 48, sl := true, ik := none, conc := true, str := false, bl := false, ptr := false, ife := false, mkv := none }),
  (31, { size := 9, bytes := 152, isAgg := true, hz := true, zero := [CV.nil, CV.nil, CV.sc (Value.int IntKind.i64 0), CV.sc (Value.int IntKind.i64 0), CV.nil, CV.sc (Value.int IntKind.i64 0), CV.nil, CV.nil, CV.sc (Value.int IntKind.i64 0)], fields := [(0, 28, 4), (4, 23, 1), (5, 3, 1), (6, 29, 1), (7, 30, 1), (8, 3, 1)], fok := true, elem := 0, sl := false, ik := none, conc := true, str := false, bl := false, ptr := false, ife := false, mkv := none }),
  (32, { size := 9, bytes := 152, isAgg := true, hz := true, zero := [CV.nil, CV.nil, CV.sc (Value.int IntKind.i64 0), CV.sc (Value.int IntKind.i64 0), CV.nil, CV.sc (Value.int IntKind.i64 0), CV.nil, CV.nil, CV.sc (Value.int IntKind.i64 0)], fields := [(0, 28, 4), (4, 23, 1), (5, 3, 1), (6, 29, 1), (7, 30, 1), (8, 3, 1)], fok := true, elem := 0, sl := false, ik := none, conc := true, str := false, bl := false, ptr := false, ife := false, mkv := none }),
  (33, { size := 1, bytes := 0, isAgg := false, hz := false, zero := [CV.sc (Value.tuple { toList := [Value.agg { toList := [Value.slice none 0 0, Value.slice none 0 0, Value.int IntKind.i64 0, Value.int IntKind.i64 0, Value.slice none 0 0, Value.int IntKind.i64 0, Value.slice none 0 0, Value.slice none 0 0, Value.int IntKind.i64 0] }, Value.bool false] })], fields := [], fok := false, elem := 0, sl := false, ik := none, conc := true, str := false, bl := false, ptr := false, ife := false, mkv := none }),
  (34, { size := 1, bytes := 8, isAgg := false, hz := true, zero := [CV.sc Value.nilFunc], fields := [], fok := false, elem := 0, sl := false, ik := none, conc := true, str := false, bl := false, ptr := false, ife := false, mkv := none }),
  (35, { size := 1, bytes := 8, isAgg := false, hz := true, zero := [CV.sc Value.nilFunc], fields := [], fok := false, elem := 0, sl := false, ik := none, conc := true, str := false, bl := false, ptr := false, ife := false, mkv := none }),
  (36, { size := 1, bytes := 8, isAgg := false, hz := true, zero := [CV.sc Value.nilFunc], fields := [], fok := false, elem := 0, sl := false, ik := none, conc := true, str := false, bl := false, ptr := false, ife := false, mkv := none }),
  (37, { size := 1, bytes := 8, isAgg := false, hz := true, zero := [CV.sc Value.nilFunc], fields := [], fok := false, elem := 0, sl := false, ik := none, conc := true, str := false, bl := false, ptr := false, ife := false, mkv := none }),
  (38, { size := 1, bytes := 8, isAgg := false, hz := true, zero := [CV.sc Value.nilFunc], fields := [], fok := false, elem := 0, sl := false, ik := none, conc := true, str := false, bl := false, ptr := false, ife := false, mkv := none }),
  (39, { size := 1, bytes := 8, isAgg := false, hz := true, zero := [CV.sc (Value.pointer none)], fields := [], fok := false, elem := 55, sl := false, ik := none, conc := true, str := false, bl := false, ptr := true, ife := false, mkv := none }),
  (40, { size := 1, bytes := 8, isAgg := false, hz := true, zero := [CV.sc Value.nilFunc], fields := [], fok := false, elem := 0, sl := false, ik := none, conc := true, str := false, bl := false, ptr := false, ife := false, mkv := none }),
  (41, { size := 1, bytes := 8, isAgg := false, hz := true, zero := [CV.sc Value.nilFunc], fields := [], fok := false, elem := 0, sl := false, ik := none, conc := true, str := false, bl := false, ptr := false, ife := false, mkv := none }),
  (42, { size := 1, bytes := 8, isAgg := false, hz := true, zero := [CV.sc Value.nilFunc], fields := [], fok := false, elem := 0, sl := false, ik := none, conc := true, str := false, bl := false, ptr := false, ife := false, mkv := none }),
  (43, { size := 1, bytes := 8, isAgg := false, hz := true, zero := [CV.sc Value.nilFunc], fields := [], fok := false, elem := 0, sl := false, ik := none, conc := true, str := false, bl := false, ptr := false, ife := false, mkv := none }),
  (44, { size := 1, bytes := 8, isAgg := false, hz := true, zero := [CV.sc Value.nilFunc], fields := [], fok := false, elem := 0, sl := false, ik := none, conc := true, str := false, bl := false, ptr := false, ife := false, mkv := none }),
  (45, { size := 2, bytes := 32, isAgg := true, hz := true, zero := [CV.sc (Value.string { data := { toList := [] } }), CV.sc (Value.string { data := { toList := [] } })], fields := [(0, 9, 1), (1, 9, 1)], fok := true, elem := 0, sl := false, ik := none, conc := true, str := false, bl := false, ptr := false, ife := false, mkv := none }),
  (46, { size := 2, bytes := 32, isAgg := true, hz := true, zero := [CV.sc (Value.string { data := { toList := [] } }), CV.sc (Value.string { data := { toList := [] } })], fields := [(0, 9, 1), (1, 9, 1)], fok := true, elem := 0, sl := false, ik := none, conc := true, str := false, bl := false, ptr := false, ife := false, mkv := none }),
  (47, { size := 7, bytes := 104, isAgg := true, hz := true, zero := [CV.sc (Value.int IntKind.i64 0), CV.sc (Value.int IntKind.i64 0), CV.nil, CV.nil, CV.sc (Value.int IntKind.i64 0), CV.sc (Value.int IntKind.i64 0), CV.nil], fields := [(0, 3, 1), (1, 3, 1), (2, 28, 4), (6, 29, 1)], fok := true, elem := 0, sl := false, ik := none, conc := true, str := false, bl := false, ptr := false, ife := false, mkv := none }),
  (48, { size := 7, bytes := 104, isAgg := true, hz := true, zero := [CV.sc (Value.int IntKind.i64 0), CV.sc (Value.int IntKind.i64 0), CV.nil, CV.nil, CV.sc (Value.int IntKind.i64 0), CV.sc (Value.int IntKind.i64 0), CV.nil], fields := [(0, 3, 1), (1, 3, 1), (2, 28, 4), (6, 29, 1)], fok := true, elem := 0, sl := false, ik := none, conc := true, str := false, bl := false, ptr := false, ife := false, mkv := none }),
  (49, { size := 1, bytes := 8, isAgg := false, hz := true, zero := [CV.sc Value.nilFunc], fields := [], fok := false, elem := 0, sl := false, ik := none, conc := true, str := false, bl := false, ptr := false, ife := false, mkv := none }),
  (50, { size := 1, bytes := 8, isAgg := false, hz := true, zero := [CV.sc Value.nilFunc], fields := [], fok := false, elem := 0, sl := false, ik := none, conc := true, str := false, bl := false, ptr := false, ife := false, mkv := none }),
  (51, { size := 1, bytes := 8, isAgg := false, hz := true, zero := [CV.sc Value.nilFunc], fields := [], fok := false, elem := 0, sl := false, ik := none, conc := true, str := false, bl := false, ptr := false, ife := false, mkv := none }),
  (52, { size := 1, bytes := 8, isAgg := false, hz := true, zero := [CV.sc Value.nilFunc], fields := [], fok := false, elem := 0, sl := false, ik := none, conc := true, str := false, bl := false, ptr := false, ife := false, mkv := none }),
  (53, { size := 1, bytes := 24, isAgg := false, hz := true, zero := [CV.nil], fields := [], fok := false, elem := 9, sl := true, ik := none, conc := true, str := false, bl := false, ptr := false, ife := false, mkv := none }),
  (54, { size := 2, bytes := 32, isAgg := true, hz := true, zero := [CV.nil, CV.sc (Value.int IntKind.i64 0)], fields := [(0, 22, 1), (1, 3, 1)], fok := true, elem := 0, sl := false, ik := none, conc := true, str := false, bl := false, ptr := false, ife := false, mkv := none }),
  (55, { size := 2, bytes := 32, isAgg := true, hz := true, zero := [CV.nil, CV.sc (Value.int IntKind.i64 0)], fields := [(0, 22, 1), (1, 3, 1)], fok := true, elem := 0, sl := false, ik := none, conc := true, str := false, bl := false, ptr := false, ife := false, mkv := none }),
  (56, { size := 1, bytes := 8, isAgg := false, hz := true, zero := [CV.sc Value.nilFunc], fields := [], fok := false, elem := 0, sl := false, ik := none, conc := true, str := false, bl := false, ptr := false, ife := false, mkv := none }),
  (57, { size := 1, bytes := 8, isAgg := false, hz := true, zero := [CV.sc Value.nilFunc], fields := [], fok := false, elem := 0, sl := false, ik := none, conc := true, str := false, bl := false, ptr := false, ife := false, mkv := none }),
  (58, { size := 1, bytes := 8, isAgg := false, hz := true, zero := [CV.sc Value.nilFunc], fields := [], fok := false, elem := 0, sl := false, ik := none, conc := true, str := false, bl := false, ptr := false, ife := false, mkv := none }),
  (59, { size := 1, bytes := 8, isAgg := false, hz := true, zero := [CV.sc Value.nilFunc], fields := [], fok := false, elem := 0, sl := false, ik := none, conc := true, str := false, bl := false, ptr := false, ife := false, mkv := none }),
  (60, { size := 1, bytes := 8, isAgg := false, hz := true, zero := [CV.sc Value.nilFunc], fields := [], fok := false, elem := 0, sl := false, ik := none, conc := true, str := false, bl := false, ptr := false, ife := false, mkv := none }),
  (61, { size := 1, bytes := 24, isAgg := false, hz := true, zero := [CV.nil], fields := [], fok := false, elem := 121, sl := true, ik := none, conc := true, str := false, bl := false, ptr := false, ife := false, mkv := none }),
  (62, { size := 3, bytes := 56, isAgg := true, hz := true, zero := [CV.sc (Value.int IntKind.i64 0), CV.nil, CV.nil], fields := [(0, 3, 1), (1, 53, 1), (2, 61, 1)], fok := true, elem := 0, sl := false, ik := none, conc := true, str := false, bl := false, ptr := false, ife := false, mkv := none }),
  (63, { size := 3, bytes := 56, isAgg := true, hz := true, zero := [CV.sc (Value.int IntKind.i64 0), CV.nil, CV.nil], fields := [(0, 3, 1), (1, 53, 1), (2, 61, 1)], fok := true, elem := 0, sl := false, ik := none, conc := true, str := false, bl := false, ptr := false, ife := false, mkv := none }),
  (64, { size := 1, bytes := 8, isAgg := false, hz := true, zero := [CV.sc Value.nilFunc], fields := [], fok := false, elem := 0, sl := false, ik := none, conc := true, str := false, bl := false, ptr := false, ife := false, mkv := none }),
  (65, { size := 5, bytes := 64, isAgg := true, hz := true, zero := [CV.sc (Value.int IntKind.i64 0), CV.sc (Value.string { data := { toList := [] } }), CV.sc (Value.int IntKind.i64 0), CV.sc (Value.int IntKind.i64 0), CV.nil], fields := [(0, 3, 1), (1, 9, 1), (2, 3, 1), (3, 3, 1), (4, 61, 1)], fok := true, elem := 0, sl := false, ik := none, conc := true, str := false, bl := false, ptr := false, ife := false, mkv := none }),
  (66, { size := 5, bytes := 64, isAgg := true, hz := true, zero := [CV.sc (Value.int IntKind.i64 0), CV.sc (Value.string { data := { toList := [] } }), CV.sc (Value.int IntKind.i64 0), CV.sc (Value.int IntKind.i64 0), CV.nil], fields := [(0, 3, 1), (1, 9, 1), (2, 3, 1), (3, 3, 1), (4, 61, 1)], fok := true, elem := 0, sl := false, ik := none, conc := true, str := false, bl := false, ptr := false, ife := false, mkv := none }),
  (67, { size := 1, bytes := 24, isAgg := false, hz := true, zero := [CV.nil], fields := [], fok := false, elem := 93, sl := true, ik := none, conc := true, str := false, bl := false, ptr := false, ife := false, mkv := none }),
  (68, { size := 2, bytes := 40, isAgg := true, hz := true, zero := [CV.sc (Value.string { data := { toList := [] } }), CV.nil], fields := [(0, 9, 1), (1, 67, 1)], fok := true, elem := 0, sl := false, ik := none, conc := true, str := false, bl := false, ptr := false, ife := false, mkv := none }),
  (69, { size := 2, bytes := 40, isAgg := true, hz := true, zero := [CV.sc (Value.string { data := { toList := [] } }), CV.nil], fields := [(0, 9, 1), (1, 67, 1)], fok := true, elem := 0, sl := false, ik := none, conc := true, str := false, bl := false, ptr := false, ife := false, mkv := none }),
  (70, { size := 1, bytes := 8, isAgg := false, hz := true, zero := [CV.sc Value.nilFunc], fields := [], fok := false, elem := 0, sl := false, ik := none, conc := true, str := false, bl := false, ptr := false, ife := false, mkv := none }),
  (71, { size := 1, bytes := 8, isAgg := false, hz := true, zero := [CV.sc Value.nilFunc], fields := [], fok := false, elem := 0, sl := false, ik := none, conc := true, str := false, bl := false, ptr := false, ife := false, mkv := none }),
  (72, { size := 1, bytes := 16, isAgg := false, hz := true, zero := [CV.sc Value.nilIface], fields := [], fok := false, elem := 0, sl := false, ik := none, conc := false, str := false, bl := false, ptr := false, ife := false, mkv := none }),
  (73, { size := 1, bytes := 16, isAgg := false, hz := true, zero := [CV.sc Value.nilIface], fields := [], fok := false, elem := 0, sl := false, ik := none, conc := false, str := false, bl := false, ptr := false, ife := false, mkv := none }),
  (74, { size := 1, bytes := 8, isAgg := false, hz := true, zero := [CV.sc Value.nilFunc], fields := [], fok := false, elem := 0, sl := false, ik := none, conc := true, str := false, bl := false, ptr := false, ife := false, mkv := none }),
  (75, { size := 1, bytes := 24, isAgg := false, hz := true, zero := [CV.nil], fields := [], fok := false, elem := 89, sl := true, ik := none, conc := true, str := false, bl := false, ptr := false, ife := false, mkv := none }),
  (76, { size := 2, bytes := 48, isAgg := true, hz := true, zero := [CV.nil, CV.nil], fields := [(0, 53, 1), (1, 75, 1)], fok := true, elem := 0, sl := false, ik := none, conc := true, str := false, bl := false, ptr := false, ife := false, mkv := none }),
  (77, { size := 2, bytes := 48, isAgg := true, hz := true, zero := [CV.nil, CV.nil], fields := [(0, 53, 1), (1, 75, 1)], fok := true, elem := 0, sl := false, ik := none, conc := true, str := false, bl := false, ptr := false, ife := false, mkv := none }),
  (78, { size := 8, bytes := 128, isAgg := true, hz := true, zero := [CV.nil, CV.nil, CV.sc (Value.int IntKind.i64 0), CV.sc (Value.int IntKind.i64 0), CV.nil, CV.nil, CV.sc (Value.int IntKind.i64 0), CV.sc (Value.bool false)], fields := [(0, 28, 4), (4, 77, 2), (6, 3, 1), (7, 4, 1)], fok := true, elem := 0, sl := false, ik := none, conc := true, str := false, bl := false, ptr := false, ife := false, mkv := none }),
  (79, { size := 8, bytes := 128, isAgg := true, hz := true, zero := [CV.nil, CV.nil, CV.sc (Value.int IntKind.i64 0), CV.sc (Value.int IntKind.i64 0), CV.nil, CV.nil, CV.sc (Value.int IntKind.i64 0), CV.sc (Value.bool false)], fields := [(0, 28, 4), (4, 77, 2), (6, 3, 1), (7, 4, 1)], fok := true, elem := 0, sl := false, ik := none, conc := true, str := false, bl := false, ptr := false, ife := false, mkv := none }),
  (80, { size := 1, bytes := 8, isAgg := false, hz := true, zero := [CV.sc Value.nilFunc], fields := [], fok := false, elem := 0, sl := false, ik := none, conc := true, str := false, bl := false, ptr := false, ife := false, mkv := none }),
  (81, { size := 1, bytes := 8, isAgg := false, hz := true, zero := [CV.sc Value.nilFunc], fields := [], fok := false, elem := 0, sl := false, ik := none, conc := true, str := false, bl := false, ptr := false, ife := false, mkv := none }),
  (82, { size := 1, bytes := 8, isAgg := false, hz := true, zero := [CV.sc Value.nilFunc], fields := [], fok := false, elem := 0, sl := false, ik := none, conc := true, str := false, bl := false, ptr := false, ife := false, mkv := none }),
  (83, { size := 1, bytes := 8, isAgg := false, hz := true, zero := [CV.sc Value.nilFunc], fields := [], fok := false, elem := 0, sl := false, ik := none, conc := true, str := false, bl := false, ptr := false, ife := false, mkv := none }),
  (84, { size := 1, bytes := 8, isAgg := false, hz := true, zero := [CV.sc Value.nilFunc], fields := [], fok := false, elem := 0, sl := false, ik := none, conc := true, str := false, bl := false, ptr := false, ife := false, mkv := none }),
  (85, { size := 1, bytes := 8, isAgg := false, hz := true, zero := [CV.sc Value.nilFunc], fields := [], fok := false, elem := 0, sl := false, ik := none, conc := true, str := false, bl := false, ptr := false, ife := false, mkv := none }),
  (86, { size := 1, bytes := 8, isAgg := false, hz := true, zero := [CV.sc Value.nilFunc], fields := [], fok := false, elem := 0, sl := false, ik := none, conc := true, str := false, bl := false, ptr := false, ife := false, mkv := none }),
  (87, { size := 1, bytes := 8, isAgg := false, hz := true, zero := [CV.sc Value.nilFunc], fields := [], fok := false, elem := 0, sl := false, ik := none, conc := true, str := false, bl := false, ptr := false, ife := false, mkv := none }),
  (88, { size := 1, bytes := 8, isAgg := false, hz := true, zero := [CV.sc Value.nilFunc], fields := [], fok := false, elem := 0, sl := false, ik := none, conc := true, str := false, bl := false, ptr := false, ife := false, mkv := none }),
  (89, { size := 1, bytes := 24, isAgg := false, hz := true, zero := [CV.nil], fields := [], fok := false, elem := 91, sl := true, ik := none, conc := true, str := false, bl := false, ptr := false, ife := false, mkv := none }),
  (90, { size := 4, bytes := 56, isAgg := true, hz := true, zero := [CV.sc (Value.int IntKind.i64 0), CV.sc (Value.int IntKind.i64 0), CV.sc (Value.string { data := { toList := [] } }), CV.nil], fields := [(0, 3, 1), (1, 3, 1), (2, 9, 1), (3, 89, 1)], fok := true, elem := 0, sl := false, ik := none, conc := true, str := false, bl := false, ptr := false, ife := false, mkv := none }),
  (91, { size := 4, bytes := 56, isAgg := true, hz := true, zero := [CV.sc (Value.int IntKind.i64 0), CV.sc (Value.int IntKind.i64 0), CV.sc (Value.string { data := { toList := [] } }), CV.nil], fields := [(0, 3, 1), (1, 3, 1), (2, 9, 1), (3, 89, 1)], fok := true, elem := 0, sl := false, ik := none, conc := true, str := false, bl := false, ptr := false, ife := false, mkv := none }),
  (92, { size := 5, bytes := 72, isAgg := true, hz := true, zero := [CV.sc (Value.string { data := { toList := [] } }), CV.sc (Value.int IntKind.i64 0), CV.sc (Value.int IntKind.i64 0), CV.sc (Value.string { data := { toList := [] } }), CV.nil], fields := [(0, 9, 1), (1, 91, 4)], fok := true, elem := 0, sl := false, ik := none, conc := true, str := false, bl := false, ptr := false, ife := false, mkv := none }),
  (93, { size := 5, bytes := 72, isAgg := true, hz := true, zero := [CV.sc (Value.string { data := { toList := [] } }), CV.sc (Value.int IntKind.i64 0), CV.sc (Value.int IntKind.i64 0), CV.sc (Value.string { data := { toList := [] } }), CV.nil], fields := [(0, 9, 1), (1, 91, 4)], fok := true, elem := 0, sl := false, ik := none, conc := true, str := false, bl := false, ptr := false, ife := false, mkv := none }),
  (94, { size := 1, bytes := 8, isAgg := false, hz := true, zero := [CV.sc Value.nilFunc], fields := [], fok := false, elem := 0, sl := false, ik := none, conc := true, str := false, bl := false, ptr := false, ife := false, mkv := none }),
  (95, { size := 1, bytes := 8, isAgg := false, hz := true, zero := [CV.sc Value.nilFunc], fields := [], fok := false, elem := 0, sl := false, ik := none, conc := true, str := false, bl := false, ptr := false, ife := false, mkv := none }),
  (96, { size := 2, bytes := 32, isAgg := true, hz := true, zero := [CV.nil, CV.sc Value.nilFunc], fields := [(0, 25, 1), (1, 95, 1)], fok := true, elem := 0, sl := false, ik := none, conc := true, str := false, bl := false, ptr := false, ife := false, mkv := none }),
  (97, { size := 2, bytes := 32, isAgg := true, hz := true, zero := [CV.nil, CV.sc Value.nilFunc], fields := [(0, 25, 1), (1, 95, 1)], fok := true, elem := 0, sl := false, ik := none, conc := true, str := false, bl := false, ptr := false, ife := false, mkv := none }),
  (98, { size := 1, bytes := 8, isAgg := false, hz := true, zero := [CV.sc Value.nilFunc], fields := [], fok := false, elem := 0, sl := false, ik := none, conc := true, str := false, bl := false, ptr := false, ife := false, mkv := none }),
  (99, { size := 1, bytes := 8, isAgg := false, hz := true, zero := [CV.sc Value.nilFunc], fields := [], fok := false, elem := 0, sl := false, ik := none, conc := true, str := false, bl := false, ptr := false, ife := false, mkv := none }),
  (100, { size := 1, bytes := 8, isAgg := false, hz := true, zero := [CV.sc Value.nilFunc], fields := [], fok := false, elem := 0, sl := false, ik := none, conc := true, str := false, bl := false, ptr := false, ife := false, mkv := none }),
  (101, { size := 2, bytes := 32, isAgg := true, hz := true, zero := [CV.nil, CV.sc Value.nilFunc], fields := [(0, 26, 1), (1, 100, 1)], fok := true, elem := 0, sl := false, ik := none, conc := true, str := false, bl := false, ptr := false, ife := false, mkv := none }),
  (102, { size := 2, bytes := 32, isAgg := true, hz := true, zero := [CV.nil, CV.sc Value.nilFunc], fields := [(0, 26, 1), (1, 100, 1)], fok := true, elem := 0, sl := false, ik := none, conc := true, str := false, bl := false, ptr := false, ife := false, mkv := none }),
  (103, { size := 1, bytes := 8, isAgg := false, hz := true, zero := [CV.sc Value.nilFunc], fields := [], fok := false, elem := 0, sl := false, ik := none, conc := true, str := false, bl := false, ptr := false, ife := false, mkv := none }),
  (104, { size := 1, bytes := 8, isAgg := false, hz := true, zero := [CV.sc Value.nilFunc], fields := [], fok := false, elem := 0, sl := false, ik := none, conc := true, str := false, bl := false, ptr := false, ife := false, mkv := none }),
  (105, { size := 1, bytes := 8, isAgg := false, hz := true, zero := [CV.sc Value.nilFunc], fields := [], fok := false, elem := 0, sl := false, ik := none, conc := true, str := false, bl := false, ptr := false, ife := false, mkv := none }),
  (106, { size := 1, bytes := 8, isAgg := false, hz := true, zero := [CV.sc (Value.map none)], fields := [], fok := false, elem := 0, sl := false, ik := none, conc := true, str := false, bl := false, ptr := false, ife := false, mkv := some (9, 3) }),
  (107, { size := 1, bytes := 8, isAgg := false, hz := true, zero := [CV.sc Value.nilFunc], fields := [], fok := false, elem := 0, sl := false, ik := none, conc := true, str := false, bl := false, ptr := false, ife := false, mkv := none }),
  (108, { size := 1, bytes := 0, isAgg := false, hz := false, zero := [CV.sc (Value.tuple { toList := [Value.int IntKind.i64 0, Value.bool false] })], fields := [], fok := false, elem := 0, sl := false, ik := none, conc := true, str := false, bl := false, ptr := false, ife := false, mkv := none }),
  (109, { size := 1, bytes := 8, isAgg := false, hz := true, zero := [CV.sc (Value.pointer none)], fields := [], fok := false, elem := 111, sl := false, ik := none, conc := true, str := false, bl := false, ptr := true, ife := false, mkv := none }),
  (110, { size := 3, bytes := 24, isAgg := true, hz := true, zero := [CV.sc (Value.int IntKind.i64 0), CV.sc (Value.int IntKind.i64 0), CV.sc (Value.int IntKind.i64 0)], fields := [(0, 3, 1), (1, 3, 1), (2, 3, 1)], fok := true, elem := 0, sl := false, ik := none, conc := true, str := false, bl := false, ptr := false, ife := false, mkv := none }),
  (111, { size := 3, bytes := 24, isAgg := true, hz := true, zero := [CV.sc (Value.int IntKind.i64 0), CV.sc (Value.int IntKind.i64 0), CV.sc (Value.int IntKind.i64 0)], fields := [(0, 3, 1), (1, 3, 1), (2, 3, 1)], fok := true, elem := 0, sl := false, ik := none, conc := true, str := false, bl := false, ptr := false, ife := false, mkv := none }),
  (112, { size := 1, bytes := 24, isAgg := false, hz := true, zero := [CV.nil], fields := [], fok := false, elem := 141, sl := true, ik := none, conc := true, str := false, bl := false, ptr := false, ife := false, mkv := none }),
  (113, { size := 1, bytes := 0, isAgg := false, hz := false, zero := [CV.sc (Value.tuple { toList := [Value.slice none 0 0, Value.bool false] })], fields := [], fok := false, elem := 0, sl := false, ik := none, conc := true, str := false, bl := false, ptr := false, ife := false, mkv := none }),
  (114, { size := 1, bytes := 8, isAgg := false, hz := true, zero := [CV.sc Value.nilFunc], fields := [], fok := false, elem := 0, sl := false, ik := none, conc := true, str := false, bl := false, ptr := false, ife := false, mkv := none }),
  (115, { size := 1, bytes := 8, isAgg := false, hz := true, zero := [CV.sc Value.nilFunc], fields := [], fok := false, elem := 0, sl := false, ik := none, conc := true, str := false, bl := false, ptr := false, ife := false, mkv := none }),
  (116, { size := 1, bytes := 0, isAgg := false, hz := false, zero := [CV.sc (Value.tuple { toList := [Value.agg { toList := [Value.slice none 0 0, Value.slice none 0 0, Value.int IntKind.i64 0, Value.int IntKind.i64 0] }, Value.agg { toList := [Value.slice none 0 0, Value.slice none 0 0] }, Value.int IntKind.i64 0] })], fields := [], fok := false, elem := 0, sl := false, ik := none, conc := true, str := false, bl := false, ptr := false, ife := false, mkv := none }),
  (117, { size := 1, bytes := 8, isAgg := false, hz := true, zero := [CV.sc Value.nilFunc], fields := [], fok := false, elem := 0, sl := false, ik := none, conc := true, str := false, bl := false, ptr := false, ife := false, mkv := none }),
  (118, { size := 1, bytes := 8, isAgg := false, hz := true, zero := [CV.sc Value.nilFunc], fields := [], fok := false, elem := 0, sl := false, ik := none, conc := true, str := false, bl := false, ptr := false, ife := false, mkv := none }),
  (119, { size := 1, bytes := 8, isAgg := false, hz := true, zero := [CV.sc Value.nilFunc], fields := [], fok := false, elem := 0, sl := false, ik := none, conc := true, str := false, bl := false, ptr := false, ife := false, mkv := none }),
  (120, { size := 1, bytes := 8, isAgg := false, hz := true, zero := [CV.sc Value.nilFunc], fields := [], fok := false, elem := 0, sl := false, ik := none, conc := true, str := false, bl := false, ptr := false, ife := false, mkv := none }),
  (121, { size := 5, bytes := 72, isAgg := true, hz := true, zero := [CV.sc (Value.string { data := { toList := [] } }), CV.sc (Value.int IntKind.i64 0), CV.sc (Value.int IntKind.i64 0), CV.sc (Value.string { data := { toList := [] } }), CV.nil], fields := [(0, 9, 1), (1, 91, 4)], fok := true, elem := 0, sl := false, ik := none, conc := true, str := false, bl := false, ptr := false, ife := false, mkv := none }),
  (122, { size := 1, bytes := 8, isAgg := false, hz := true, zero := [CV.sc Value.nilFunc], fields := [], fok := false, elem := 0, sl := false, ik := none, conc := true, str := false, bl := false, ptr := false, ife := false, mkv := none }),
  (123, { size := 1, bytes := 8, isAgg := false, hz := true, zero := [CV.sc Value.nilFunc], fields := [], fok := false, elem := 0, sl := false, ik := none, conc := true, str := false, bl := false, ptr := false, ife := false, mkv := none }),
  (124, { size := 1, bytes := 8, isAgg := false, hz := true, zero := [CV.sc Value.nilFunc], fields := [], fok := false, elem := 0, sl := false, ik := none, conc := true, str := false, bl := false, ptr := false, ife := false, mkv := none }),
  (125, { size := 1, bytes := 8, isAgg := false, hz := true, zero := [CV.sc Value.nilFunc], fields := [], fok := false, elem := 0, sl := false, ik := none, conc := true, str := false, bl := false, ptr := false, ife := false, mkv := none }),
  (126, { size := 1, bytes := 8, isAgg := false, hz := true, zero := [CV.sc Value.nilFunc], fields := [], fok := false, elem := 0, sl := false, ik := none, conc := true, str := false, bl := false, ptr := false, ife := false, mkv := none }),
  (127, { size := 1, bytes := 0, isAgg := false, hz := false, zero := [CV.sc (Value.tuple { toList := [Value.slice none 0 0, Value.bool false] })], fields := [], fok := false, elem := 0, sl := false, ik := none, conc := true, str := false, bl := false, ptr := false, ife := false, mkv := none }),
  (128, { size := 1, bytes := 8, isAgg := false, hz := true, zero := [CV.sc Value.nilFunc], fields := [], fok := false, elem := 0, sl := false, ik := none, conc := true, str := false, bl := false, ptr := false, ife := false, mkv := none }),
  (129, { size := 1, bytes := 8, isAgg := false, hz := true, zero := [CV.sc (Value.pointer none)], fields := [], fok := false, elem := 131, sl := false, ik := none, conc := true, str := false, bl := false, ptr := true, ife := false, mkv := none }),
  (130, { size := 3, bytes := 40, isAgg := true, hz := true, zero := [CV.nil, CV.sc (Value.int IntKind.i64 0), CV.sc (Value.bool false)], fields := [(0, 53, 1), (1, 3, 1), (2, 4, 1)], fok := true, elem := 0, sl := false, ik := none, conc := true, str := false, bl := false, ptr := false, ife := false, mkv := none }),
  (131, { size := 3, bytes := 40, isAgg := true, hz := true, zero := [CV.nil, CV.sc (Value.int IntKind.i64 0), CV.sc (Value.bool false)], fields := [(0, 53, 1), (1, 3, 1), (2, 4, 1)], fok := true, elem := 0, sl := false, ik := none, conc := true, str := false, bl := false, ptr := false, ife := false, mkv := none }),
  (132, { size := 1, bytes := 8, isAgg := false, hz := true, zero := [CV.sc Value.nilFunc], fields := [], fok := false, elem := 0, sl := false, ik := none, conc := true, str := false, bl := false, ptr := false, ife := false, mkv := none }),
  (133, { size := 1, bytes := 24, isAgg := false, hz := true, zero := [CV.nil], fields := [], fok := false, elem := 204, sl := true, ik := none, conc := true, str := false, bl := false, ptr := false, ife := false, mkv := none }),
  (134, { size := 1, bytes := 24, isAgg := false, hz := true, zero := [CV.nil], fields := [], fok := false, elem := 136, sl := true, ik := none, conc := true, str := false, bl := false, ptr := false, ife := false, mkv := none }),
  (135, { size := 8, bytes := 120, isAgg := true, hz := true, zero := [CV.sc (Value.int IntKind.i64 0), CV.sc (Value.int IntKind.i64 0), CV.sc (Value.int IntKind.i64 0), CV.sc (Value.string { data := { toList := [] } }), CV.nil, CV.sc (Value.string { data := { toList := [] } }), CV.sc (Value.string { data := { toList := [] } }), CV.nil], fields := [(0, 3, 1), (1, 91, 4), (5, 9, 1), (6, 9, 1), (7, 134, 1)], fok := true, elem := 0, sl := false, ik := none, conc := true, str := false, bl := false, ptr := false, ife := false, mkv := none }),
  (136, { size := 8, bytes := 120, isAgg := true, hz := true, zero := [CV.sc (Value.int IntKind.i64 0), CV.sc (Value.int IntKind.i64 0), CV.sc (Value.int IntKind.i64 0), CV.sc (Value.string { data := { toList := [] } }), CV.nil, CV.sc (Value.string { data := { toList := [] } }), CV.sc (Value.string { data := { toList := [] } }), CV.nil], fields := [(0, 3, 1), (1, 91, 4), (5, 9, 1), (6, 9, 1), (7, 134, 1)], fok := true, elem := 0, sl := false, ik := none, conc := true, str := false, bl := false, ptr := false, ife := false, mkv := none }),
  (137, { size := 1, bytes := 24, isAgg := false, hz := true, zero := [CV.nil], fields := [], fok := false, elem := 221, sl := true, ik := none, conc := true, str := false, bl := false, ptr := false, ife := false, mkv := none }),
  (138, { size := 1, bytes := 24, isAgg := false, hz := true, zero := [CV.nil], fields := [], fok := false, elem := 267, sl := true, ik := none, conc := true, str := false, bl := false, ptr := false, ife := false, mkv := none }),
  (139, { size := 1, bytes := 24, isAgg := false, hz := true, zero := [CV.nil], fields := [], fok := false, elem := 210, sl := true, ik := none, conc := true, str := false, bl := false, ptr := false, ife := false, mkv := none }),
  (140, { size := 19, bytes := 296, isAgg := true, hz := true, zero := [CV.sc (Value.int IntKind.i64 0), CV.nil, CV.sc (Value.int IntKind.i64 0), CV.sc (Value.int IntKind.i64 0), CV.sc (Value.int IntKind.i64 0), CV.sc (Value.string { data := { toList := [] } }), CV.nil, CV.sc (Value.string { data := { toList := [] } }), CV.sc (Value.string { data := { toList := [] } }), CV.nil, CV.sc (Value.string { data := { toList := [] } }), CV.nil, CV.sc (Value.bool false), CV.nil, CV.sc (Value.int IntKind.i64 0), CV.sc (Value.int IntKind.i64 0), CV.nil, CV.nil, CV.sc (Value.bool false)], fields := [(0, 3, 1), (1, 133, 1), (2, 136, 8), (10, 9, 1), (11, 137, 1), (12, 4, 1), (13, 138, 1), (14, 3, 1), (15, 3, 1), (16, 139, 1), (17, 53, 1), (18, 4, 1)], fok := true, elem := 0, sl := false, ik := none, conc := true, str := false, bl := false, ptr := false, ife := false, mkv := none }),
  (141, { size := 19, bytes := 296, isAgg := true, hz := true, zero := [CV.sc (Value.int IntKind.i64 0), CV.nil, CV.sc (Value.int IntKind.i64 0), CV.sc (Value.int IntKind.i64 0), CV.sc (Value.int IntKind.i64 0), CV.sc (Value.string { data := { toList := [] } }), CV.nil, CV.sc (Value.string { data := { toList := [] } }), CV.sc (Value.string { data := { toList := [] } }), CV.nil, CV.sc (Value.string { data := { toList := [] } }), CV.nil, CV.sc (Value.bool false), CV.nil, CV.sc (Value.int IntKind.i64 0), CV.sc (Value.int IntKind.i64 0), CV.nil, CV.nil, CV.sc (Value.bool false)], fields := [(0, 3, 1), (1, 133, 1), (2, 136, 8), (10, 9, 1), (11, 137, 1), (12, 4, 1), (13, 138, 1), (14, 3, 1), (15, 3, 1), (16, 139, 1), (17, 53, 1), (18, 4, 1)], fok := true, elem := 0, sl := false, ik := none, conc := true, str := false, bl := false, ptr := false, ife := false, mkv := none }),
  (142, { size := 1, bytes := 8, isAgg := false, hz := true, zero := [CV.sc Value.nilFunc], fields := [], fok := false, elem := 0, sl := false, ik := none, conc := true, str := false, bl := false, ptr := false, ife := false, mkv := none }),
  (143, { size := 1, bytes := 8, isAgg := false, hz := true, zero := [CV.sc Value.nilFunc], fields := [], fok := false, elem := 0, sl := false, ik := none, conc := true, str := false, bl := false, ptr := false, ife := false, mkv := none }),
  (144, { size := 1, bytes := 8, isAgg := false, hz := true, zero := [CV.sc (Value.pointer none)], fields := [], fok := false, elem := 146, sl := false, ik := none, conc := true, str := false, bl := false, ptr := true, ife := false, mkv := none }),
  (145, { size := 7, bytes := 136, isAgg := true, hz := true, zero := [CV.nil, CV.nil, CV.sc (Value.int IntKind.i64 0), CV.sc (Value.int IntKind.i64 0), CV.nil, CV.nil, CV.nil], fields := [(0, 28, 4), (4, 67, 1), (5, 77, 2)], fok := true, elem := 0, sl := false, ik := none, conc := true, str := false, bl := false, ptr := false, ife := false, mkv := none }),
  (146, { size := 7, bytes := 136, isAgg := true, hz := true, zero := [CV.nil, CV.nil, CV.sc (Value.int IntKind.i64 0), CV.sc (Value.int IntKind.i64 0), CV.nil, CV.nil, CV.nil], fields := [(0, 28, 4), (4, 67, 1), (5, 77, 2)], fok := true, elem := 0, sl := false, ik := none, conc := true, str := false, bl := false, ptr := false, ife := false, mkv := none }),
  (147, { size := 1, bytes := 8, isAgg := false, hz := true, zero := [CV.sc Value.nilFunc], fields := [], fok := false, elem := 0, sl := false, ik := none, conc := true, str := false, bl := false, ptr := false, ife := false, mkv := none }),
  (148, { size := 1, bytes := 8, isAgg := false, hz := true, zero := [CV.sc Value.nilFunc], fields := [], fok := false, elem := 0, sl := false, ik := none, conc := true, str := false, bl := false, ptr := false, ife := false, mkv := none }),
  (149, { size := 1, bytes := 8, isAgg := false, hz := true, zero := [CV.sc Value.nilFunc], fields := [], fok := false, elem := 0, sl := false, ik := none, conc := true, str := false, bl := false, ptr := false, ife := false, mkv := none }),
  (150, { size := 1, bytes := 8, isAgg := false, hz := true, zero := [CV.sc Value.nilFunc], fields := [], fok := false, elem := 0, sl := false, ik := none, conc := true, str := false, bl := false, ptr := false, ife := false, mkv := none }),
  (151, { size := 1, bytes := 8, isAgg := false, hz := true, zero := [CV.sc Value.nilFunc], fields := [], fok := false, elem := 0, sl := false, ik := none, conc := true, str := false, bl := false, ptr := false, ife := false, mkv := none }),
  (152, { size := 1, bytes := 8, isAgg := false, hz := true, zero := [CV.sc Value.nilFunc], fields := [], fok := false, elem := 0, sl := false, ik := none, conc := true, str := false, bl := false, ptr := false, ife := false, mkv := none }),
  (153, { size := 1, bytes := 8, isAgg := false, hz := true, zero := [CV.sc (Value.map none)], fields := [], fok := false, elem := 0, sl := false, ik := none, conc := true, str := false, bl := false, ptr := false, ife := false, mkv := some (177, 89) }),
  (154, { size := 1, bytes := 8, isAgg := false, hz := true, zero := [CV.sc Value.nilFunc], fields := [], fok := false, elem := 0, sl := false, ik := none, conc := true, str := false, bl := false, ptr := false, ife := false, mkv := none }),
  (155, { size := 1, bytes := 8, isAgg := false, hz := true, zero := [CV.sc Value.nilFunc], fields := [], fok := false, elem := 0, sl := false, ik := none, conc := true, str := false, bl := false, ptr := false, ife := false, mkv := none }),
  (156, { size := 1, bytes := 8, isAgg := false, hz := true, zero := [CV.sc Value.nilFunc], fields := [], fok := false, elem := 0, sl := false, ik := none, conc := true, str := false, bl := false, ptr := false, ife := false, mkv := none }),
  (157, { size := 1, bytes := 8, isAgg := false, hz := true, zero := [CV.sc Value.nilFunc], fields := [], fok := false, elem := 0, sl := false, ik := none, conc := true, str := false, bl := false, ptr := false, ife := false, mkv := none }),
  (158, { size := 1, bytes := 8, isAgg := false, hz := true, zero := [CV.sc Value.nilFunc], fields := [], fok := false, elem := 0, sl := false, ik := none, conc := true, str := false, bl := false, ptr := false, ife := false, mkv := none }),
  (159, { size := 1, bytes := 8, isAgg := false, hz := true, zero := [CV.sc Value.nilFunc], fields := [], fok := false, elem := 0, sl := false, ik := none, conc := true, str := false, bl := false, ptr := false, ife := false, mkv := none }),
  (160, { size := 1, bytes := 8, isAgg := false, hz := true, zero := [CV.sc Value.nilFunc], fields := [], fok := false, elem := 0, sl := false, ik := none, conc := true, str := false, bl := false, ptr := false, ife := false, mkv := none }),
  (161, { size := 1, bytes := 8, isAgg := false, hz := true, zero := [CV.sc Value.nilFunc], fields := [], fok := false, elem := 0, sl := false, ik := none, conc := true, str := false, bl := false, ptr := false, ife := false, mkv := none }),
  (162, { size := 1, bytes := 8, isAgg := false, hz := true, zero := [CV.sc Value.nilFunc], fields := [], fok := false, elem := 0, sl := false, ik := none, conc := true, str := false, bl := false, ptr := false, ife := false, mkv := none }),
  (163, { size := 1, bytes := 8, isAgg := false, hz := true, zero := [CV.sc Value.nilFunc], fields := [], fok := false, elem := 0, sl := false, ik := none, conc := true, str := false, bl := false, ptr := false, ife := false, mkv := none }),
  (164, { size := 1, bytes := 8, isAgg := false, hz := true, zero := [CV.sc Value.nilFunc], fields := [], fok := false, elem := 0, sl := false, ik := none, conc := true, str := false, bl := false, ptr := false, ife := false, mkv := none }),
  (165, { size := 1, bytes := 8, isAgg := false, hz := true, zero := [CV.sc (Value.pointer none)], fields := [], fok := false, elem := 141, sl := false, ik := none, conc := true, str := false, bl := false, ptr := true, ife := false, mkv := none }),
  (166, { size := 1, bytes := 8, isAgg := false, hz := true, zero := [CV.sc (Value.map none)], fields := [], fok := false, elem := 0, sl := false, ik := none, conc := true, str := false, bl := false, ptr := false, ife := false, mkv := some (9, 3) }),
  (167, { size := 1, bytes := 8, isAgg := false, hz := true, zero := [CV.sc Value.nilFunc], fields := [], fok := false, elem := 0, sl := false, ik := none, conc := true, str := false, bl := false, ptr := false, ife := false, mkv := none }),
  (168, { size := 1, bytes := 8, isAgg := false, hz := true, zero := [CV.sc Value.nilFunc], fields := [], fok := false, elem := 0, sl := false, ik := none, conc := true, str := false, bl := false, ptr := false, ife := false, mkv := none }),
  (169, { size := 1, bytes := 24, isAgg := false, hz := true, zero := [CV.nil], fields := [], fok := false, elem := 67, sl := true, ik := none, conc := true, str := false, bl := false, ptr := false, ife := false, mkv := none }),
  (170, { size := 1, bytes := 8, isAgg := false, hz := true, zero := [CV.sc Value.nilFunc], fields := [], fok := false, elem := 0, sl := false, ik := none, conc := true, str := false, bl := false, ptr := false, ife := false, mkv := none }),
  (171, { size := 1, bytes := 8, isAgg := false, hz := true, zero := [CV.sc Value.nilFunc], fields := [], fok := false, elem := 0, sl := false, ik := none, conc := true, str := false, bl := false, ptr := false, ife := false, mkv := none }),
  (172, { size := 1, bytes := 8, isAgg := false, hz := true, zero := [CV.sc Value.nilFunc], fields := [], fok := false, elem := 0, sl := false, ik := none, conc := true, str := false, bl := false, ptr := false, ife := false, mkv := none }),
  (173, { size := 1, bytes := 8, isAgg := false, hz := true, zero := [CV.sc Value.nilFunc], fields := [], fok := false, elem := 0, sl := false, ik := none, conc := true, str := false, bl := false, ptr := false, ife := false, mkv := none }),
  (174, { size := 1, bytes := 8, isAgg := false, hz := true, zero := [CV.sc Value.nilFunc], fields := [], fok := false, elem := 0, sl := false, ik := none, conc := true, str := false, bl := false, ptr := false, ife := false, mkv := none }),
  (175, { size := 1, bytes := 8, isAgg := false, hz := true, zero := [CV.sc (Value.pointer none)], fields := [], fok := false, elem := 91, sl := false, ik := none, conc := true, str := false, bl := false, ptr := true, ife := false, mkv := none }),
  (176, { size := 2, bytes := 16, isAgg := true, hz := true, zero := [CV.sc (Value.pointer none), CV.sc (Value.int IntKind.i64 0)], fields := [(0, 175, 1), (1, 3, 1)], fok := true, elem := 0, sl := false, ik := none, conc := true, str := false, bl := false, ptr := false, ife := false, mkv := none }),
  (177, { size := 2, bytes := 16, isAgg := true, hz := true, zero := [CV.sc (Value.pointer none), CV.sc (Value.int IntKind.i64 0)], fields := [(0, 175, 1), (1, 3, 1)], fok := true, elem := 0, sl := false, ik := none, conc := true, str := false, bl := false, ptr := false, ife := false, mkv := none }),
  (178, { size := 1, bytes := 0, isAgg := false, hz := false, zero := [CV.sc (Value.tuple { toList := [Value.slice none 0 0, Value.bool false] })], fields := [], fok := false, elem := 0, sl := false, ik := none, conc := true, str := false, bl := false, ptr := false, ife := false, mkv := none }),
  (179, { size := 1, bytes := 8, isAgg := false, hz := true, zero := [CV.sc Value.nilFunc], fields := [], fok := false, elem := 0, sl := false, ik := none, conc := true, str := false, bl := false, ptr := false, ife := false, mkv := none }),
  (180, { size := 1, bytes := 8, isAgg := false, hz := true, zero := [CV.sc Value.nilFunc], fields := [], fok := false, elem := 0, sl := false, ik := none, conc := true, str := false, bl := false, ptr := false, ife := false, mkv := none }),
  (181, { size := 1, bytes := 8, isAgg := false, hz := true, zero := [CV.sc Value.nilFunc], fields := [], fok := false, elem := 0, sl := false, ik := none, conc := true, str := false, bl := false, ptr := false, ife := false, mkv := none }),
  (182, { size := 1, bytes := 8, isAgg := false, hz := true, zero := [CV.sc Value.nilFunc], fields := [], fok := false, elem := 0, sl := false, ik := none, conc := true, str := false, bl := false, ptr := false, ife := false, mkv := none }),
  (183, { size := 1, bytes := 8, isAgg := false, hz := true, zero := [CV.sc Value.nilFunc], fields := [], fok := false, elem := 0, sl := false, ik := none, conc := true, str := false, bl := false, ptr := false, ife := false, mkv := none }),
  (184, { size := 1, bytes := 8, isAgg := false, hz := true, zero := [CV.sc Value.nilFunc], fields := [], fok := false, elem := 0, sl := false, ik := none, conc := true, str := false, bl := false, ptr := false, ife := false, mkv := none }),
  (185, { size := 1, bytes := 8, isAgg := false, hz := true, zero := [CV.sc Value.nilFunc], fields := [], fok := false, elem := 0, sl := false, ik := none, conc := true, str := false, bl := false, ptr := false, ife := false, mkv := none }),
  (186, { size := 1, bytes := 8, isAgg := false, hz := true, zero := [CV.sc Value.nilFunc], fields := [], fok := false, elem := 0, sl := false, ik := none, conc := true, str := false, bl := false, ptr := false, ife := false, mkv := none }),
  (187, { size := 1, bytes := 8, isAgg := false, hz := true, zero := [CV.sc Value.nilFunc], fields := [], fok := false, elem := 0, sl := false, ik := none, conc := true, str := false, bl := false, ptr := false, ife := false, mkv := none }),
  (188, { size := 1, bytes := 8, isAgg := false, hz := true, zero := [CV.sc (Value.int IntKind.i64 0)], fields := [], fok := false, elem := 0, sl := false, ik := some IntKind.i64, conc := true, str := false, bl := false, ptr := false, ife := false, mkv := none }),
  (189, { size := 1, bytes := 0, isAgg := false, hz := false, zero := [CV.sc (Value.tuple { toList := [Value.int IntKind.i64 0, Value.bool false] })], fields := [], fok := false, elem := 0, sl := false, ik := none, conc := true, str := false, bl := false, ptr := false, ife := false, mkv := none }),
  (190, { size := 1, bytes := 8, isAgg := false, hz := true, zero := [CV.sc Value.nilFunc], fields := [], fok := false, elem := 0, sl := false, ik := none, conc := true, str := false, bl := false, ptr := false, ife := false, mkv := none }),
  (191, { size := 1, bytes := 8, isAgg := false, hz := true, zero := [CV.sc (Value.pointer none)], fields := [], fok := false, elem := 193, sl := false, ik := none, conc := true, str := false, bl := false, ptr := true, ife := false, mkv := none }),
  (192, { size := 2, bytes := 32, isAgg := true, hz := true, zero := [CV.sc (Value.pointer none), CV.nil], fields := [(0, 191, 1), (1, 22, 1)], fok := true, elem := 0, sl := false, ik := none, conc := true, str := false, bl := false, ptr := false, ife := false, mkv := none }),
  (193, { size := 2, bytes := 32, isAgg := true, hz := true, zero := [CV.sc (Value.pointer none), CV.nil], fields := [(0, 191, 1), (1, 22, 1)], fok := true, elem := 0, sl := false, ik := none, conc := true, str := false, bl := false, ptr := false, ife := false, mkv := none }),
  (194, { size := 1, bytes := 8, isAgg := false, hz := true, zero := [CV.sc Value.nilFunc], fields := [], fok := false, elem := 0, sl := false, ik := none, conc := true, str := false, bl := false, ptr := false, ife := false, mkv := none }),
  (195, { size := 1, bytes := 0, isAgg := false, hz := false, zero := [CV.sc (Value.tuple { toList := [Value.int IntKind.i64 0, Value.nilIface] })], fields := [], fok := false, elem := 0, sl := false, ik := none, conc := true, str := false, bl := false, ptr := false, ife := false, mkv := none }),
  (196, { size := 1, bytes := 8, isAgg := false, hz := true, zero := [CV.sc Value.nilFunc], fields := [], fok := false, elem := 0, sl := false, ik := none, conc := true, str := false, bl := false, ptr := false, ife := false, mkv := none }),
  (197, { size := 1, bytes := 8, isAgg := false, hz := true, zero := [CV.sc Value.nilFunc], fields := [], fok := false, elem := 0, sl := false, ik := none, conc := true, str := false, bl := false, ptr := false, ife := false, mkv := none }),
  (198, { size := 1, bytes := 8, isAgg := false, hz := true, zero := [CV.sc Value.nilFunc], fields := [], fok := false, elem := 0, sl := false, ik := none, conc := true, str := false, bl := false, ptr := false, ife := false, mkv := none }),
  (199, { size := 1, bytes := 24, isAgg := false, hz := true, zero := [CV.nil], fields := [], fok := false, elem := 273, sl := true, ik := none, conc := true, str := false, bl := false, ptr := false, ife := false, mkv := none }),
  (200, { size := 3, bytes := 56, isAgg := true, hz := true, zero := [CV.sc (Value.string { data := { toList := [] } }), CV.sc (Value.string { data := { toList := [] } }), CV.nil], fields := [(0, 9, 1), (1, 9, 1), (2, 199, 1)], fok := true, elem := 0, sl := false, ik := none, conc := true, str := false, bl := false, ptr := false, ife := false, mkv := none }),
  (201, { size := 3, bytes := 56, isAgg := true, hz := true, zero := [CV.sc (Value.string { data := { toList := [] } }), CV.sc (Value.string { data := { toList := [] } }), CV.nil], fields := [(0, 9, 1), (1, 9, 1), (2, 199, 1)], fok := true, elem := 0, sl := false, ik := none, conc := true, str := false, bl := false, ptr := false, ife := false, mkv := none }),
  (202, { size := 1, bytes := 24, isAgg := false, hz := true, zero := [CV.nil], fields := [], fok := false, elem := 218, sl := true, ik := none, conc := true, str := false, bl := false, ptr := false, ife := false, mkv := none }),
  (203, { size := 4, bytes := 80, isAgg := true, hz := true, zero := [CV.sc (Value.string { data := { toList := [] } }), CV.sc (Value.string { data := { toList := [] } }), CV.nil, CV.nil], fields := [(0, 201, 3), (3, 202, 1)], fok := true, elem := 0, sl := false, ik := none, conc := true, str := false, bl := false, ptr := false, ife := false, mkv := none }),
  (204, { size := 4, bytes := 80, isAgg := true, hz := true, zero := [CV.sc (Value.string { data := { toList := [] } }), CV.sc (Value.string { data := { toList := [] } }), CV.nil, CV.nil], fields := [(0, 201, 3), (3, 202, 1)], fok := true, elem := 0, sl := false, ik := none, conc := true, str := false, bl := false, ptr := false, ife := false, mkv := none }),
  (205, { size := 1, bytes := 8, isAgg := false, hz := true, zero := [CV.sc Value.nilFunc], fields := [], fok := false, elem := 0, sl := false, ik := none, conc := true, str := false, bl := false, ptr := false, ife := false, mkv := none }),
  (206, { size := 1, bytes := 8, isAgg := false, hz := true, zero := [CV.sc Value.nilFunc], fields := [], fok := false, elem := 0, sl := false, ik := none, conc := true, str := false, bl := false, ptr := false, ife := false, mkv := none }),
  (207, { size := 1, bytes := 8, isAgg := false, hz := true, zero := [CV.sc Value.nilFunc], fields := [], fok := false, elem := 0, sl := false, ik := none, conc := true, str := false, bl := false, ptr := false, ife := false, mkv := none }),
  (208, { size := 1, bytes := 8, isAgg := false, hz := true, zero := [CV.sc Value.nilFunc], fields := [], fok := false, elem := 0, sl := false, ik := none, conc := true, str := false, bl := false, ptr := false, ife := false, mkv := none }),
  (209, { size := 10, bytes := 152, isAgg := true, hz := true, zero := [CV.sc (Value.string { data := { toList := [] } }), CV.sc (Value.string { data := { toList := [] } }), CV.sc (Value.int IntKind.i64 0), CV.sc (Value.int IntKind.i64 0), CV.sc (Value.int IntKind.i64 0), CV.sc (Value.string { data := { toList := [] } }), CV.nil, CV.sc (Value.string { data := { toList := [] } }), CV.sc (Value.string { data := { toList := [] } }), CV.nil], fields := [(0, 9, 1), (1, 9, 1), (2, 136, 8)], fok := true, elem := 0, sl := false, ik := none, conc := true, str := false, bl := false, ptr := false, ife := false, mkv := none }),
  (210, { size := 10, bytes := 152, isAgg := true, hz := true, zero := [CV.sc (Value.string { data := { toList := [] } }), CV.sc (Value.string { data := { toList := [] } }), CV.sc (Value.int IntKind.i64 0), CV.sc (Value.int IntKind.i64 0), CV.sc (Value.int IntKind.i64 0), CV.sc (Value.string { data := { toList := [] } }), CV.nil, CV.sc (Value.string { data := { toList := [] } }), CV.sc (Value.string { data := { toList := [] } }), CV.nil], fields := [(0, 9, 1), (1, 9, 1), (2, 136, 8)], fok := true, elem := 0, sl := false, ik := none, conc := true, str := false, bl := false, ptr := false, ife := false, mkv := none }),
  (211, { size := 1, bytes := 8, isAgg := false, hz := true, zero := [CV.sc Value.nilFunc], fields := [], fok := false, elem := 0, sl := false, ik := none, conc := true, str := false, bl := false, ptr := false, ife := false, mkv := none }),
  (212, { size := 1, bytes := 8, isAgg := false, hz := true, zero := [CV.sc Value.nilFunc], fields := [], fok := false, elem := 0, sl := false, ik := none, conc := true, str := false, bl := false, ptr := false, ife := false, mkv := none }),
  (213, { size := 1, bytes := 8, isAgg := false, hz := true, zero := [CV.sc Value.nilFunc], fields := [], fok := false, elem := 0, sl := false, ik := none, conc := true, str := false, bl := false, ptr := false, ife := false, mkv := none }),
  (214, { size := 1, bytes := 8, isAgg := false, hz := true, zero := [CV.sc Value.nilFunc], fields := [], fok := false, elem := 0, sl := false, ik := none, conc := true, str := false, bl := false, ptr := false, ife := false, mkv := none }),
  (215, { size := 1, bytes := 8, isAgg := false, hz := true, zero := [CV.sc Value.nilFunc], fields := [], fok := false, elem := 0, sl := false, ik := none, conc := true, str := false, bl := false, ptr := false, ife := false, mkv := none }),
  (216, { size := 1, bytes := 8, isAgg := false, hz := true, zero := [CV.sc Value.nilFunc], fields := [], fok := false, elem := 0, sl := false, ik := none, conc := true, str := false, bl := false, ptr := false, ife := false, mkv := none }),
  (217, { size := 6, bytes := 96, isAgg := true, hz := true, zero := [CV.sc (Value.string { data := { toList := [] } }), CV.sc (Value.string { data := { toList := [] } }), CV.sc (Value.int IntKind.i64 0), CV.sc (Value.string { data := { toList := [] } }), CV.sc (Value.string { data := { toList := [] } }), CV.nil], fields := [(0, 9, 1), (1, 9, 1), (2, 3, 1), (3, 201, 3)], fok := true, elem := 0, sl := false, ik := none, conc := true, str := false, bl := false, ptr := false, ife := false, mkv := none }),
  (218, { size := 6, bytes := 96, isAgg := true, hz := true, zero := [CV.sc (Value.string { data := { toList := [] } }), CV.sc (Value.string { data := { toList := [] } }), CV.sc (Value.int IntKind.i64 0), CV.sc (Value.string { data := { toList := [] } }), CV.sc (Value.string { data := { toList := [] } }), CV.nil], fields := [(0, 9, 1), (1, 9, 1), (2, 3, 1), (3, 201, 3)], fok := true, elem := 0, sl := false, ik := none, conc := true, str := false, bl := false, ptr := false, ife := false, mkv := none }),
  (219, { size := 1, bytes := 8, isAgg := false, hz := true, zero := [CV.sc Value.nilFunc], fields := [], fok := false, elem := 0, sl := false, ik := none, conc := true, str := false, bl := false, ptr := false, ife := false, mkv := none }),
  (220, { size := 9, bytes := 136, isAgg := true, hz := true, zero := [CV.sc (Value.int IntKind.i64 0), CV.sc (Value.int IntKind.i64 0), CV.sc (Value.int IntKind.i64 0), CV.sc (Value.string { data := { toList := [] } }), CV.nil, CV.sc (Value.string { data := { toList := [] } }), CV.sc (Value.string { data := { toList := [] } }), CV.nil, CV.sc (Value.string { data := { toList := [] } })], fields := [(0, 136, 8), (8, 9, 1)], fok := true, elem := 0, sl := false, ik := none, conc := true, str := false, bl := false, ptr := false, ife := false, mkv := none }),
  (221, { size := 9, bytes := 136, isAgg := true, hz := true, zero := [CV.sc (Value.int IntKind.i64 0), CV.sc (Value.int IntKind.i64 0), CV.sc (Value.int IntKind.i64 0), CV.sc (Value.string { data := { toList := [] } }), CV.nil, CV.sc (Value.string { data := { toList := [] } }), CV.sc (Value.string { data := { toList := [] } }), CV.nil, CV.sc (Value.string { data := { toList := [] } })], fields := [(0, 136, 8), (8, 9, 1)], fok := true, elem := 0, sl := false, ik := none, conc := true, str := false, bl := false, ptr := false, ife := false, mkv := none }),
  (222, { size := 1, bytes := 8, isAgg := false, hz := true, zero := [CV.sc Value.nilFunc], fields := [], fok := false, elem := 0, sl := false, ik := none, conc := true, str := false, bl := false, ptr := false, ife := false, mkv := none }),
  (223, { size := 1, bytes := 8, isAgg := false, hz := true, zero := [CV.sc (Value.pointer none)], fields := [], fok := false, elem := 283, sl := false, ik := none, conc := true, str := false, bl := false, ptr := true, ife := false, mkv := none }),
  (224, { size := 1, bytes := 8, isAgg := false, hz := true, zero := [CV.sc Value.nilFunc], fields := [], fok := false, elem := 0, sl := false, ik := none, conc := true, str := false, bl := false, ptr := false, ife := false, mkv := none }),
  (225, { size := 1, bytes := 8, isAgg := false, hz := true, zero := [CV.sc Value.nilFunc], fields := [], fok := false, elem := 0, sl := false, ik := none, conc := true, str := false, bl := false, ptr := false, ife := false, mkv := none }),
  (226, { size := 1, bytes := 8, isAgg := false, hz := true, zero := [CV.sc Value.nilFunc], fields := [], fok := false, elem := 0, sl := false, ik := none, conc := true, str := false, bl := false, ptr := false, ife := false, mkv := none }),
  (227, { size := 1, bytes := 8, isAgg := false, hz := true, zero := [CV.sc Value.nilFunc], fields := [], fok := false, elem := 0, sl := false, ik := none, conc := true, str := false, bl := false, ptr := false, ife := false, mkv := none }),
  (228, { size := 1, bytes := 8, isAgg := false, hz := true, zero := [CV.sc Value.nilFunc], fields := [], fok := false, elem := 0, sl := false, ik := none, conc := true, str := false, bl := false, ptr := false, ife := false, mkv := none }),
  (229, { size := 6, bytes := 112, isAgg := true, hz := true, zero := [CV.nil, CV.nil, CV.sc (Value.int IntKind.i64 0), CV.sc (Value.int IntKind.i64 0), CV.nil, CV.nil], fields := [(0, 28, 4), (4, 67, 1), (5, 67, 1)], fok := true, elem := 0, sl := false, ik := none, conc := true, str := false, bl := false, ptr := false, ife := false, mkv := none }),
  (230, { size := 6, bytes := 112, isAgg := true, hz := true, zero := [CV.nil, CV.nil, CV.sc (Value.int IntKind.i64 0), CV.sc (Value.int IntKind.i64 0), CV.nil, CV.nil], fields := [(0, 28, 4), (4, 67, 1), (5, 67, 1)], fok := true, elem := 0, sl := false, ik := none, conc := true, str := false, bl := false, ptr := false, ife := false, mkv := none }),
  (231, { size := 1, bytes := 8, isAgg := false, hz := true, zero := [CV.sc Value.nilFunc], fields := [], fok := false, elem := 0, sl := false, ik := none, conc := true, str := false, bl := false, ptr := false, ife := false, mkv := none }),
  (232, { size := 1, bytes := 8, isAgg := false, hz := true, zero := [CV.sc Value.nilFunc], fields := [], fok := false, elem := 0, sl := false, ik := none, conc := true, str := false, bl := false, ptr := false, ife := false, mkv := none }),
  (233, { size := 1, bytes := 8, isAgg := false, hz := true, zero := [CV.sc Value.nilFunc], fields := [], fok := false, elem := 0, sl := false, ik := none, conc := true, str := false, bl := false, ptr := false, ife := false, mkv := none }),
  (234, { size := 1, bytes := 8, isAgg := false, hz := true, zero := [CV.sc Value.nilFunc], fields := [], fok := false, elem := 0, sl := false, ik := none, conc := true, str := false, bl := false, ptr := false, ife := false, mkv := none }),
  (235, { size := 1, bytes := 24, isAgg := false, hz := true, zero := [CV.nil], fields := [], fok := false, elem := 227, sl := true, ik := none, conc := true, str := false, bl := false, ptr := false, ife := false, mkv := none }),
  (236, { size := 1, bytes := 8, isAgg := false, hz := true, zero := [CV.sc Value.nilFunc], fields := [], fok := false, elem := 0, sl := false, ik := none, conc := true, str := false, bl := false, ptr := false, ife := false, mkv := none }),
  (237, { size := 1, bytes := 8, isAgg := false, hz := true, zero := [CV.sc Value.nilFunc], fields := [], fok := false, elem := 0, sl := false, ik := none, conc := true, str := false, bl := false, ptr := false, ife := false, mkv := none }),
  (238, { size := 1, bytes := 8, isAgg := false, hz := true, zero := [CV.sc Value.nilFunc], fields := [], fok := false, elem := 0, sl := false, ik := none, conc := true, str := false, bl := false, ptr := false, ife := false, mkv := none }),
  (239, { size := 1, bytes := 8, isAgg := false, hz := true, zero := [CV.sc Value.nilFunc], fields := [], fok := false, elem := 0, sl := false, ik := none, conc := true, str := false, bl := false, ptr := false, ife := false, mkv := none }),
  (240, { size := 1, bytes := 8, isAgg := false, hz := true, zero := [CV.sc Value.nilFunc], fields := [], fok := false, elem := 0, sl := false, ik := none, conc := true, str := false, bl := false, ptr := false, ife := false, mkv := none }),
  (241, { size := 1, bytes := 24, isAgg := false, hz := true, zero := [CV.nil], fields := [], fok := false, elem := 245, sl := true, ik := none, conc := true, str := false, bl := false, ptr := false, ife := false, mkv := none }),
  (242, { size := 1, bytes := 8, isAgg := false, hz := true, zero := [CV.sc Value.nilFunc], fields := [], fok := false, elem := 0, sl := false, ik := none, conc := true, str := false, bl := false, ptr := false, ife := false, mkv := none }),
  (243, { size := 1, bytes := 24, isAgg := false, hz := true, zero := [CV.nil], fields := [], fok := false, elem := 307, sl := true, ik := none, conc := true, str := false, bl := false, ptr := false, ife := false, mkv := none }),
  (244, { size := 8, bytes := 128, isAgg := true, hz := true, zero := [CV.sc (Value.bool false), CV.sc (Value.string { data := { toList := [] } }), CV.sc (Value.string { data := { toList := [] } }), CV.sc (Value.int IntKind.i64 0), CV.sc (Value.string { data := { toList := [] } }), CV.sc (Value.string { data := { toList := [] } }), CV.nil, CV.nil], fields := [(0, 4, 1), (1, 9, 1), (2, 9, 1), (3, 3, 1), (4, 201, 3), (7, 243, 1)], fok := true, elem := 0, sl := false, ik := none, conc := true, str := false, bl := false, ptr := false, ife := false, mkv := none }),
  (245, { size := 8, bytes := 128, isAgg := true, hz := true, zero := [CV.sc (Value.bool false), CV.sc (Value.string { data := { toList := [] } }), CV.sc (Value.string { data := { toList := [] } }), CV.sc (Value.int IntKind.i64 0), CV.sc (Value.string { data := { toList := [] } }), CV.sc (Value.string { data := { toList := [] } }), CV.nil, CV.nil], fields := [(0, 4, 1), (1, 9, 1), (2, 9, 1), (3, 3, 1), (4, 201, 3), (7, 243, 1)], fok := true, elem := 0, sl := false, ik := none, conc := true, str := false, bl := false, ptr := false, ife := false, mkv := none }),
  (246, { size := 1, bytes := 0, isAgg := false, hz := false, zero := [CV.sc (Value.tuple { toList := [Value.int IntKind.i64 0, Value.slice none 0 0] })], fields := [], fok := false, elem := 0, sl := false, ik := none, conc := true, str := false, bl := false, ptr := false, ife := false, mkv := none }),
  (247, { size := 1, bytes := 8, isAgg := false, hz := true, zero := [CV.sc Value.nilFunc], fields := [], fok := false, elem := 0, sl := false, ik := none, conc := true, str := false, bl := false, ptr := false, ife := false, mkv := none }),
  (248, { size := 1, bytes := 8, isAgg := false, hz := true, zero := [CV.sc Value.nilFunc], fields := [], fok := false, elem := 0, sl := false, ik := none, conc := true, str := false, bl := false, ptr := false, ife := false, mkv := none }),
  (249, { size := 1, bytes := 8, isAgg := false, hz := true, zero := [CV.sc Value.nilFunc], fields := [], fok := false, elem := 0, sl := false, ik := none, conc := true, str := false, bl := false, ptr := false, ife := false, mkv := none }),
  (250, { size := 1, bytes := 8, isAgg := false, hz := true, zero := [CV.sc Value.nilFunc], fields := [], fok := false, elem := 0, sl := false, ik := none, conc := true, str := false, bl := false, ptr := false, ife := false, mkv := none }),
  (251, { size := 1, bytes := 8, isAgg := false, hz := true, zero := [CV.sc Value.nilFunc], fields := [], fok := false, elem := 0, sl := false, ik := none, conc := true, str := false, bl := false, ptr := false, ife := false, mkv := none }),
  (252, { size := 1, bytes := 8, isAgg := false, hz := true, zero := [CV.sc Value.nilFunc], fields := [], fok := false, elem := 0, sl := false, ik := none, conc := true, str := false, bl := false, ptr := false, ife := false, mkv := none }),
  (253, { size := 24, bytes := 24, isAgg := true, hz := true, zero := [CV.sc (Value.int IntKind.u8 0), CV.sc (Value.int IntKind.u8 0), CV.sc (Value.int IntKind.u8 0), CV.sc (Value.int IntKind.u8 0), CV.sc (Value.int IntKind.u8 0), CV.sc (Value.int IntKind.u8 0), CV.sc (Value.int IntKind.u8 0), CV.sc (Value.int IntKind.u8 0), CV.sc (Value.int IntKind.u8 0), CV.sc (Value.int IntKind.u8 0), CV.sc (Value.int IntKind.u8 0), CV.sc (Value.int IntKind.u8 0), CV.sc (Value.int IntKind.u8 0), CV.sc (Value.int IntKind.u8 0), CV.sc (Value.int IntKind.u8 0), CV.sc (Value.int IntKind.u8 0), CV.sc (Value.int IntKind.u8 0), CV.sc (Value.int IntKind.u8 0), CV.sc (Value.int IntKind.u8 0), CV.sc (Value.int IntKind.u8 0), CV.sc (Value.int IntKind.u8 0), CV.sc (Value.int IntKind.u8 0), CV.sc (Value.int IntKind.u8 0), CV.sc (Value.int IntKind.u8 0)], fields := [], fok := false, elem := 5, sl := false, ik := none, conc := true, str := false, bl := false, ptr := false, ife := false, mkv := none }),
  (254, { size := 1, bytes := 8, isAgg := false, hz := true, zero := [CV.sc (Value.int IntKind.u64 0)], fields := [], fok := false, elem := 0, sl := false, ik := some IntKind.u64, conc := true, str := false, bl := false, ptr := false, ife := false, mkv := none }),
  (255, { size := 1, bytes := 8, isAgg := false, hz := true, zero := [CV.sc Value.nilFunc], fields := [], fok := false, elem := 0, sl := false, ik := none, conc := true, str := false, bl := false, ptr := false, ife := false, mkv := none }),
  (256, { size := 1, bytes := 8, isAgg := false, hz := true, zero := [CV.sc Value.nilFunc], fields := [], fok := false, elem := 0, sl := false, ik := none, conc := true, str := false, bl := false, ptr := false, ife := false, mkv := none }),
  (257, { size := 1, bytes := 0, isAgg := false, hz := false, zero := [CV.sc (Value.tuple { toList := [Value.slice none 0 0, Value.string { data := { toList := [] } }] })], fields := [], fok := false, elem := 0, sl := false, ik := none, conc := true, str := false, bl := false, ptr := false, ife := false, mkv := none }),
  (258, { size := 1, bytes := 8, isAgg := false, hz := true, zero := [CV.sc Value.nilFunc], fields := [], fok := false, elem := 0, sl := false, ik := none, conc := true, str := false, bl := false, ptr := false, ife := false, mkv := none }),
  (259, { size := 1, bytes := 8, isAgg := false, hz := true, zero := [CV.sc (Value.pointer none)], fields := [], fok := false, elem := 5, sl := false, ik := none, conc := true, str := false, bl := false, ptr := true, ife := false, mkv := none }),
  (260, { size := 1, bytes := 8, isAgg := false, hz := true, zero := [CV.sc Value.nilFunc], fields := [], fok := false, elem := 0, sl := false, ik := none, conc := true, str := false, bl := false, ptr := false, ife := false, mkv := none }),
  (261, { size := 1, bytes := 8, isAgg := false, hz := true, zero := [CV.sc Value.nilFunc], fields := [], fok := false, elem := 0, sl := false, ik := none, conc := true, str := false, bl := false, ptr := false, ife := false, mkv := none }),
  (262, { size := 1, bytes := 8, isAgg := false, hz := true, zero := [CV.sc Value.nilFunc], fields := [], fok := false, elem := 0, sl := false, ik := none, conc := true, str := false, bl := false, ptr := false, ife := false, mkv := none }),
  (263, { size := 1, bytes := 8, isAgg := false, hz := true, zero := [CV.sc Value.nilFunc], fields := [], fok := false, elem := 0, sl := false, ik := none, conc := true, str := false, bl := false, ptr := false, ife := false, mkv := none }),
  (264, { size := 1, bytes := 8, isAgg := false, hz := true, zero := [CV.sc Value.nilFunc], fields := [], fok := false, elem := 0, sl := false, ik := none, conc := true, str := false, bl := false, ptr := false, ife := false, mkv := none }),
  (265, { size := 1, bytes := 8, isAgg := false, hz := true, zero := [CV.sc Value.nilFunc], fields := [], fok := false, elem := 0, sl := false, ik := none, conc := true, str := false, bl := false, ptr := false, ife := false, mkv := none }),
  (266, { size := 2, bytes := 24, isAgg := true, hz := true, zero := [CV.sc (Value.string { data := { toList := [] } }), CV.sc (Value.bool false)], fields := [(0, 9, 1), (1, 4, 1)], fok := true, elem := 0, sl := false, ik := none, conc := true, str := false, bl := false, ptr := false, ife := false, mkv := none }),
  (267, { size := 2, bytes := 24, isAgg := true, hz := true, zero := [CV.sc (Value.string { data := { toList := [] } }), CV.sc (Value.bool false)], fields := [(0, 9, 1), (1, 4, 1)], fok := true, elem := 0, sl := false, ik := none, conc := true, str := false, bl := false, ptr := false, ife := false, mkv := none }),
  (268, { size := 1, bytes := 8, isAgg := false, hz := true, zero := [CV.sc Value.nilFunc], fields := [], fok := false, elem := 0, sl := false, ik := none, conc := true, str := false, bl := false, ptr := false, ife := false, mkv := none }),
  (269, { size := 1, bytes := 8, isAgg := false, hz := true, zero := [CV.sc Value.nilFunc], fields := [], fok := false, elem := 0, sl := false, ik := none, conc := true, str := false, bl := false, ptr := false, ife := false, mkv := none }),
  (270, { size := 1, bytes := 8, isAgg := false, hz := true, zero := [CV.sc Value.nilFunc], fields := [], fok := false, elem := 0, sl := false, ik := none, conc := true, str := false, bl := false, ptr := false, ife := false, mkv := none }),
  (271, { size := 1, bytes := 8, isAgg := false, hz := true, zero := [CV.sc Value.nilFunc], fields := [], fok := false, elem := 0, sl := false, ik := none, conc := true, str := false, bl := false, ptr := false, ife := false, mkv := none }),
  (272, { size := 9, bytes := 136, isAgg := true, hz := true, zero := [CV.sc (Value.string { data := { toList := [] } }), CV.sc (Value.int IntKind.i64 0), CV.sc (Value.int IntKind.i64 0), CV.sc (Value.int IntKind.i64 0), CV.sc (Value.string { data := { toList := [] } }), CV.nil, CV.sc (Value.string { data := { toList := [] } }), CV.sc (Value.string { data := { toList := [] } }), CV.nil], fields := [(0, 9, 1), (1, 136, 8)], fok := true, elem := 0, sl := false, ik := none, conc := true, str := false, bl := false, ptr := false, ife := false, mkv := none }),
  (273, { size := 9, bytes := 136, isAgg := true, hz := true, zero := [CV.sc (Value.string { data := { toList := [] } }), CV.sc (Value.int IntKind.i64 0), CV.sc (Value.int IntKind.i64 0), CV.sc (Value.int IntKind.i64 0), CV.sc (Value.string { data := { toList := [] } }), CV.nil, CV.sc (Value.string { data := { toList := [] } }), CV.sc (Value.string { data := { toList := [] } }), CV.nil], fields := [(0, 9, 1), (1, 136, 8)], fok := true, elem := 0, sl := false, ik := none, conc := true, str := false, bl := false, ptr := false, ife := false, mkv := none }),
  (274, { size := 1, bytes := 8, isAgg := false, hz := true, zero := [CV.sc Value.nilFunc], fields := [], fok := false, elem := 0, sl := false, ik := none, conc := true, str := false, bl := false, ptr := false, ife := false, mkv := none }),
  (275, { size := 1, bytes := 8, isAgg := false, hz := true, zero := [CV.sc Value.nilFunc], fields := [], fok := false, elem := 0, sl := false, ik := none, conc := true, str := false, bl := false, ptr := false, ife := false, mkv := none }),
  (276, { size := 1, bytes := 8, isAgg := false, hz := true, zero := [CV.sc Value.nilFunc], fields := [], fok := false, elem := 0, sl := false, ik := none, conc := true, str := false, bl := false, ptr := false, ife := false, mkv := none }),
  (277, { size := 1, bytes := 8, isAgg := false, hz := true, zero := [CV.sc Value.nilFunc], fields := [], fok := false, elem := 0, sl := false, ik := none, conc := true, str := false, bl := false, ptr := false, ife := false, mkv := none }),
  (278, { size := 1, bytes := 8, isAgg := false, hz := true, zero := [CV.sc (Value.map none)], fields := [], fok := false, elem := 0, sl := false, ik := none, conc := true, str := false, bl := false, ptr := false, ife := false, mkv := some (3, 336) }),
  (279, { size := 1, bytes := 8, isAgg := false, hz := true, zero := [CV.sc (Value.map none)], fields := [], fok := false, elem := 0, sl := false, ik := none, conc := true, str := false, bl := false, ptr := false, ife := false, mkv := some (3, 336) }),
  (280, { size := 1, bytes := 8, isAgg := false, hz := true, zero := [CV.sc Value.nilFunc], fields := [], fok := false, elem := 0, sl := false, ik := none, conc := true, str := false, bl := false, ptr := false, ife := false, mkv := none }),
  (281, { size := 1, bytes := 8, isAgg := false, hz := true, zero := [CV.sc (Value.map none)], fields := [], fok := false, elem := 0, sl := false, ik := none, conc := true, str := false, bl := false, ptr := false, ife := false, mkv := some (3, 3) }),
  (282, { size := 8, bytes := 128, isAgg := true, hz := true, zero := [CV.nil, CV.nil, CV.sc (Value.int IntKind.i64 0), CV.sc (Value.int IntKind.i64 0), CV.sc (Value.map none), CV.nil, CV.nil, CV.sc (Value.map none)], fields := [(0, 28, 4), (4, 279, 1), (5, 67, 1), (6, 241, 1), (7, 281, 1)], fok := true, elem := 0, sl := false, ik := none, conc := true, str := false, bl := false, ptr := false, ife := false, mkv := none }),
  (283, { size := 8, bytes := 128, isAgg := true, hz := true, zero := [CV.nil, CV.nil, CV.sc (Value.int IntKind.i64 0), CV.sc (Value.int IntKind.i64 0), CV.sc (Value.map none), CV.nil, CV.nil, CV.sc (Value.map none)], fields := [(0, 28, 4), (4, 279, 1), (5, 67, 1), (6, 241, 1), (7, 281, 1)], fok := true, elem := 0, sl := false, ik := none, conc := true, str := false, bl := false, ptr := false, ife := false, mkv := none }),
  (284, { size := 1, bytes := 8, isAgg := false, hz := true, zero := [CV.sc Value.nilFunc], fields := [], fok := false, elem := 0, sl := false, ik := none, conc := true, str := false, bl := false, ptr := false, ife := false, mkv := none }),
  (285, { size := 1, bytes := 8, isAgg := false, hz := true, zero := [CV.sc Value.nilFunc], fields := [], fok := false, elem := 0, sl := false, ik := none, conc := true, str := false, bl := false, ptr := false, ife := false, mkv := none }),
  (286, { size := 1, bytes := 8, isAgg := false, hz := true, zero := [CV.sc Value.nilFunc], fields := [], fok := false, elem := 0, sl := false, ik := none, conc := true, str := false, bl := false, ptr := false, ife := false, mkv := none }),
  (287, { size := 1, bytes := 8, isAgg := false, hz := true, zero := [CV.sc Value.nilFunc], fields := [], fok := false, elem := 0, sl := false, ik := none, conc := true, str := false, bl := false, ptr := false, ife := false, mkv := none }),
  (288, { size := 1, bytes := 8, isAgg := false, hz := true, zero := [CV.sc Value.nilFunc], fields := [], fok := false, elem := 0, sl := false, ik := none, conc := true, str := false, bl := false, ptr := false, ife := false, mkv := none }),
  (289, { size := 1, bytes := 0, isAgg := false, hz := false, zero := [CV.sc (Value.tuple { toList := [Value.agg { toList := [Value.int IntKind.i64 0, Value.int IntKind.i64 0, Value.string { data := { toList := [] } }, Value.slice none 0 0] }, Value.bool false] })], fields := [], fok := false, elem := 0, sl := false, ik := none, conc := true, str := false, bl := false, ptr := false, ife := false, mkv := none }),
  (290, { size := 1, bytes := 8, isAgg := false, hz := true, zero := [CV.sc Value.nilFunc], fields := [], fok := false, elem := 0, sl := false, ik := none, conc := true, str := false, bl := false, ptr := false, ife := false, mkv := none }),
  (291, { size := 1, bytes := 8, isAgg := false, hz := true, zero := [CV.sc Value.nilFunc], fields := [], fok := false, elem := 0, sl := false, ik := none, conc := true, str := false, bl := false, ptr := false, ife := false, mkv := none }),
  (292, { size := 1, bytes := 8, isAgg := false, hz := true, zero := [CV.sc (Value.pointer none)], fields := [], fok := false, elem := 298, sl := false, ik := none, conc := true, str := false, bl := false, ptr := true, ife := false, mkv := none }),
  (293, { size := 1, bytes := 8, isAgg := false, hz := true, zero := [CV.sc Value.nilFunc], fields := [], fok := false, elem := 0, sl := false, ik := none, conc := true, str := false, bl := false, ptr := false, ife := false, mkv := none }),
  (294, { size := 1, bytes := 8, isAgg := false, hz := true, zero := [CV.sc Value.nilFunc], fields := [], fok := false, elem := 0, sl := false, ik := none, conc := true, str := false, bl := false, ptr := false, ife := false, mkv := none }),
  (295, { size := 1, bytes := 8, isAgg := false, hz := true, zero := [CV.sc Value.nilFunc], fields := [], fok := false, elem := 0, sl := false, ik := none, conc := true, str := false, bl := false, ptr := false, ife := false, mkv := none }),
  (296, { size := 1, bytes := 8, isAgg := false, hz := true, zero := [CV.sc Value.nilFunc], fields := [], fok := false, elem := 0, sl := false, ik := none, conc := true, str := false, bl := false, ptr := false, ife := false, mkv := none }),
  (297, { size := 2, bytes := 32, isAgg := true, hz := true, zero := [CV.sc (Value.map none), CV.nil], fields := [(0, 106, 1), (1, 75, 1)], fok := true, elem := 0, sl := false, ik := none, conc := true, str := false, bl := false, ptr := false, ife := false, mkv := none }),
  (298, { size := 2, bytes := 32, isAgg := true, hz := true, zero := [CV.sc (Value.map none), CV.nil], fields := [(0, 106, 1), (1, 75, 1)], fok := true, elem := 0, sl := false, ik := none, conc := true, str := false, bl := false, ptr := false, ife := false, mkv := none }),
  (299, { size := 1, bytes := 8, isAgg := false, hz := true, zero := [CV.sc Value.nilFunc], fields := [], fok := false, elem := 0, sl := false, ik := none, conc := true, str := false, bl := false, ptr := false, ife := false, mkv := none }),
  (300, { size := 1, bytes := 8, isAgg := false, hz := true, zero := [CV.sc Value.nilFunc], fields := [], fok := false, elem := 0, sl := false, ik := none, conc := true, str := false, bl := false, ptr := false, ife := false, mkv := none }),
  (301, { size := 1, bytes := 8, isAgg := false, hz := true, zero := [CV.sc Value.nilFunc], fields := [], fok := false, elem := 0, sl := false, ik := none, conc := true, str := false, bl := false, ptr := false, ife := false, mkv := none }),
  (302, { size := 1, bytes := 8, isAgg := false, hz := true, zero := [CV.sc Value.nilFunc], fields := [], fok := false, elem := 0, sl := false, ik := none, conc := true, str := false, bl := false, ptr := false, ife := false, mkv := none }),
  (303, { size := 1, bytes := 8, isAgg := false, hz := true, zero := [CV.sc Value.nilFunc], fields := [], fok := false, elem := 0, sl := false, ik := none, conc := true, str := false, bl := false, ptr := false, ife := false, mkv := none }),
  (304, { size := 1, bytes := 8, isAgg := false, hz := true, zero := [CV.sc (Value.pointer none)], fields := [], fok := false, elem := 61, sl := false, ik := none, conc := true, str := false, bl := false, ptr := true, ife := false, mkv := none }),
  (305, { size := 1, bytes := 8, isAgg := false, hz := true, zero := [CV.sc Value.nilFunc], fields := [], fok := false, elem := 0, sl := false, ik := none, conc := true, str := false, bl := false, ptr := false, ife := false, mkv := none }),
  (306, { size := 2, bytes := 24, isAgg := true, hz := true, zero := [CV.sc (Value.string { data := { toList := [] } }), CV.sc Value.nilFunc], fields := [(0, 9, 1), (1, 227, 1)], fok := true, elem := 0, sl := false, ik := none, conc := true, str := false, bl := false, ptr := false, ife := false, mkv := none }),
  (307, { size := 2, bytes := 24, isAgg := true, hz := true, zero := [CV.sc (Value.string { data := { toList := [] } }), CV.sc Value.nilFunc], fields := [(0, 9, 1), (1, 227, 1)], fok := true, elem := 0, sl := false, ik := none, conc := true, str := false, bl := false, ptr := false, ife := false, mkv := none }),
  (308, { size := 1, bytes := 8, isAgg := false, hz := true, zero := [CV.sc Value.nilFunc], fields := [], fok := false, elem := 0, sl := false, ik := none, conc := true, str := false, bl := false, ptr := false, ife := false, mkv := none }),
  (309, { size := 1, bytes := 8, isAgg := false, hz := true, zero := [CV.sc Value.nilFunc], fields := [], fok := false, elem := 0, sl := false, ik := none, conc := true, str := false, bl := false, ptr := false, ife := false, mkv := none }),
  (310, { size := 1, bytes := 8, isAgg := false, hz := true, zero := [CV.sc Value.nilFunc], fields := [], fok := false, elem := 0, sl := false, ik := none, conc := true, str := false, bl := false, ptr := false, ife := false, mkv := none }),
  (311, { size := 1, bytes := 0, isAgg := false, hz := false, zero := [CV.sc (Value.tuple { toList := [Value.agg { toList := [Value.slice none 0 0, Value.slice none 0 0, Value.int IntKind.i64 0, Value.int IntKind.i64 0] }, Value.int IntKind.i64 0, Value.bool false] })], fields := [], fok := false, elem := 0, sl := false, ik := none, conc := true, str := false, bl := false, ptr := false, ife := false, mkv := none }),
  (312, { size := 1, bytes := 8, isAgg := false, hz := true, zero := [CV.sc Value.nilFunc], fields := [], fok := false, elem := 0, sl := false, ik := none, conc := true, str := false, bl := false, ptr := false, ife := false, mkv := none }),
  (313, { size := 1, bytes := 8, isAgg := false, hz := true, zero := [CV.sc Value.nilFunc], fields := [], fok := false, elem := 0, sl := false, ik := none, conc := true, str := false, bl := false, ptr := false, ife := false, mkv := none }),
  (314, { size := 1, bytes := 0, isAgg := false, hz := false, zero := [CV.sc (Value.tuple { toList := [Value.agg { toList := [Value.slice none 0 0, Value.slice none 0 0, Value.int IntKind.i64 0, Value.int IntKind.i64 0] }, Value.bool false] })], fields := [], fok := false, elem := 0, sl := false, ik := none, conc := true, str := false, bl := false, ptr := false, ife := false, mkv := none }),
  (315, { size := 1, bytes := 8, isAgg := false, hz := true, zero := [CV.sc Value.nilFunc], fields := [], fok := false, elem := 0, sl := false, ik := none, conc := true, str := false, bl := false, ptr := false, ife := false, mkv := none }),
  (316, { size := 1, bytes := 8, isAgg := false, hz := true, zero := [CV.sc Value.nilFunc], fields := [], fok := false, elem := 0, sl := false, ik := none, conc := true, str := false, bl := false, ptr := false, ife := false, mkv := none }),
  (317, { size := 1, bytes := 8, isAgg := false, hz := true, zero := [CV.sc Value.nilFunc], fields := [], fok := false, elem := 0, sl := false, ik := none, conc := true, str := false, bl := false, ptr := false, ife := false, mkv := none }),
  (318, { size := 1, bytes := 8, isAgg := false, hz := true, zero := [CV.sc Value.nilFunc], fields := [], fok := false, elem := 0, sl := false, ik := none, conc := true, str := false, bl := false, ptr := false, ife := false, mkv := none }),
  (319, { size := 20, bytes := 160, isAgg := true, hz := true, zero := [CV.sc (Value.int IntKind.u64 0), CV.sc (Value.int IntKind.u64 0), CV.sc (Value.int IntKind.u64 0), CV.sc (Value.int IntKind.u64 0), CV.sc (Value.int IntKind.u64 0), CV.sc (Value.int IntKind.u64 0), CV.sc (Value.int IntKind.u64 0), CV.sc (Value.int IntKind.u64 0), CV.sc (Value.int IntKind.u64 0), CV.sc (Value.int IntKind.u64 0), CV.sc (Value.int IntKind.u64 0), CV.sc (Value.int IntKind.u64 0), CV.sc (Value.int IntKind.u64 0), CV.sc (Value.int IntKind.u64 0), CV.sc (Value.int IntKind.u64 0), CV.sc (Value.int IntKind.u64 0), CV.sc (Value.int IntKind.u64 0), CV.sc (Value.int IntKind.u64 0), CV.sc (Value.int IntKind.u64 0), CV.sc (Value.int IntKind.u64 0)], fields := [], fok := false, elem := 254, sl := false, ik := none, conc := true, str := false, bl := false, ptr := false, ife := false, mkv := none }),
  (320, { size := 1, bytes := 4, isAgg := false, hz := true, zero := [CV.sc (Value.int IntKind.u32 0)], fields := [], fok := false, elem := 0, sl := false, ik := some IntKind.u32, conc := true, str := false, bl := false, ptr := false, ife := false, mkv := none }),
  (322, { size := 1, bytes := 8, isAgg := false, hz := true, zero := [CV.sc (Value.int IntKind.u64 0)], fields := [], fok := false, elem := 0, sl := false, ik := some IntKind.u64, conc := true, str := false, bl := false, ptr := false, ife := false, mkv := none }),
  (323, { size := 1, bytes := 8, isAgg := false, hz := true, zero := [CV.sc Value.nilFunc], fields := [], fok := false, elem := 0, sl := false, ik := none, conc := true, str := false, bl := false, ptr := false, ife := false, mkv := none }),
  (324, { size := 1, bytes := 8, isAgg := false, hz := true, zero := [CV.sc (Value.pointer none)], fields := [], fok := false, elem := 0, sl := false, ik := none, conc := true, str := false, bl := false, ptr := false, ife := false, mkv := none }),
  (325, { size := 1, bytes := 8, isAgg := false, hz := true, zero := [CV.sc Value.nilFunc], fields := [], fok := false, elem := 0, sl := false, ik := none, conc := true, str := false, bl := false, ptr := false, ife := false, mkv := none }),
  (326, { size := 1, bytes := 8, isAgg := false, hz := true, zero := [CV.sc Value.nilFunc], fields := [], fok := false, elem := 0, sl := false, ik := none, conc := true, str := false, bl := false, ptr := false, ife := false, mkv := none }),
  (327, { size := 1, bytes := 8, isAgg := false, hz := true, zero := [CV.sc Value.nilFunc], fields := [], fok := false, elem := 0, sl := false, ik := none, conc := true, str := false, bl := false, ptr := false, ife := false, mkv := none }),
  (328, { size := 1, bytes := 8, isAgg := false, hz := true, zero := [CV.sc Value.nilFunc], fields := [], fok := false, elem := 0, sl := false, ik := none, conc := true, str := false, bl := false, ptr := false, ife := false, mkv := none }),
  (329, { size := 1, bytes := 8, isAgg := false, hz := true, zero := [CV.sc Value.nilFunc], fields := [], fok := false, elem := 0, sl := false, ik := none, conc := true, str := false, bl := false, ptr := false, ife := false, mkv := none }),
  (330, { size := 1, bytes := 8, isAgg := false, hz := true, zero := [CV.sc Value.nilFunc], fields := [], fok := false, elem := 0, sl := false, ik := none, conc := true, str := false, bl := false, ptr := false, ife := false, mkv := none }),
  (331, { size := 1, bytes := 8, isAgg := false, hz := true, zero := [CV.sc Value.nilFunc], fields := [], fok := false, elem := 0, sl := false, ik := none, conc := true, str := false, bl := false, ptr := false, ife := false, mkv := none }),
  (332, { size := 1, bytes := 0, isAgg := false, hz := false, zero := [CV.sc (Value.tuple { toList := [Value.int IntKind.i64 0, Value.int IntKind.i64 0] })], fields := [], fok := false, elem := 0, sl := false, ik := none, conc := true, str := false, bl := false, ptr := false, ife := false, mkv := none }),
  (333, { size := 1, bytes := 8, isAgg := false, hz := true, zero := [CV.sc Value.nilFunc], fields := [], fok := false, elem := 0, sl := false, ik := none, conc := true, str := false, bl := false, ptr := false, ife := false, mkv := none }),
  (334, { size := 1, bytes := 8, isAgg := false, hz := true, zero := [CV.sc Value.nilFunc], fields := [], fok := false, elem := 0, sl := false, ik := none, conc := true, str := false, bl := false, ptr := false, ife := false, mkv := none }),
  (335, { size := 1, bytes := 8, isAgg := false, hz := true, zero := [CV.sc Value.nilFunc], fields := [], fok := false, elem := 0, sl := false, ik := none, conc := true, str := false, bl := false, ptr := false, ife := false, mkv := none }),
  (336, { size := 1, bytes := 24, isAgg := false, hz := true, zero := [CV.nil], fields := [], fok := false, elem := 3, sl := true, ik := none, conc := true, str := false, bl := false, ptr := false, ife := false, mkv := none }),
  (337, { size := 1, bytes := 8, isAgg := false, hz := true, zero := [CV.sc Value.nilFunc], fields := [], fok := false, elem := 0, sl := false, ik := none, conc := true, str := false, bl := false, ptr := false, ife := false, mkv := none }),
  (338, { size := 1, bytes := 8, isAgg := false, hz := true, zero := [CV.sc Value.nilFunc], fields := [], fok := false, elem := 0, sl := false, ik := none, conc := true, str := false, bl := false, ptr := false, ife := false, mkv := none }),
  (339, { size := 1, bytes := 8, isAgg := false, hz := true, zero := [CV.sc Value.nilFunc], fields := [], fok := false, elem := 0, sl := false, ik := none, conc := true, str := false, bl := false, ptr := false, ife := false, mkv := none }),
  (340, { size := 1, bytes := 16, isAgg := false, hz := true, zero := [CV.sc Value.nilIface], fields := [], fok := false, elem := 0, sl := false, ik := none, conc := false, str := false, bl := false, ptr := false, ife := false, mkv := none }),
  (341, { size := 1, bytes := 16, isAgg := false, hz := true, zero := [CV.sc Value.nilIface], fields := [], fok := false, elem := 0, sl := false, ik := none, conc := false, str := false, bl := false, ptr := false, ife := false, mkv := none }),
  (342, { size := 1, bytes := 8, isAgg := false, hz := true, zero := [CV.sc Value.nilFunc], fields := [], fok := false, elem := 0, sl := false, ik := none, conc := true, str := false, bl := false, ptr := false, ife := false, mkv := none }),
  (343, { size := 1, bytes := 8, isAgg := false, hz := true, zero := [CV.sc Value.nilFunc], fields := [], fok := false, elem := 0, sl := false, ik := none, conc := true, str := false, bl := false, ptr := false, ife := false, mkv := none }),
  (344, { size := 1, bytes := 8, isAgg := false, hz := true, zero := [CV.sc Value.nilFunc], fields := [], fok := false, elem := 0, sl := false, ik := none, conc := true, str := false, bl := false, ptr := false, ife := false, mkv := none }),
  (345, { size := 1, bytes := 8, isAgg := false, hz := true, zero := [CV.sc Value.nilFunc], fields := [], fok := false, elem := 0, sl := false, ik := none, conc := true, str := false, bl := false, ptr := false, ife := false, mkv := none }),
  (346, { size := 1, bytes := 8, isAgg := false, hz := true, zero := [CV.sc Value.nilFunc], fields := [], fok := false, elem := 0, sl := false, ik := none, conc := true, str := false, bl := false, ptr := false, ife := false, mkv := none }),
  (347, { size := 1, bytes := 8, isAgg := false, hz := true, zero := [CV.sc Value.nilFunc], fields := [], fok := false, elem := 0, sl := false, ik := none, conc := true, str := false, bl := false, ptr := false, ife := false, mkv := none }),
  (348, { size := 1, bytes := 8, isAgg := false, hz := true, zero := [CV.sc Value.nilFunc], fields := [], fok := false, elem := 0, sl := false, ik := none, conc := true, str := false, bl := false, ptr := false, ife := false, mkv := none }),
  (349, { size := 1, bytes := 8, isAgg := false, hz := true, zero := [CV.sc Value.nilFunc], fields := [], fok := false, elem := 0, sl := false, ik := none, conc := true, str := false, bl := false, ptr := false, ife := false, mkv := none }),
  (350, { size := 1, bytes := 8, isAgg := false, hz := true, zero := [CV.sc Value.nilFunc], fields := [], fok := false, elem := 0, sl := false, ik := none, conc := true, str := false, bl := false, ptr := false, ife := false, mkv := none }),
  (351, { size := 1, bytes := 8, isAgg := false, hz := true, zero := [CV.sc Value.nilFunc], fields := [], fok := false, elem := 0, sl := false, ik := none, conc := true, str := false, bl := false, ptr := false, ife := false, mkv := none }),
  (352, { size := 1, bytes := 8, isAgg := false, hz := true, zero := [CV.sc (Value.int IntKind.i64 0)], fields := [], fok := false, elem := 0, sl := false, ik := some IntKind.i64, conc := true, str := false, bl := false, ptr := false, ife := false, mkv := none }),
  (353, { size := 1, bytes := 0, isAgg := false, hz := false, zero := [CV.sc (Value.tuple { toList := [Value.int IntKind.i64 0, Value.int IntKind.i64 0] })], fields := [], fok := false, elem := 0, sl := false, ik := none, conc := true, str := false, bl := false, ptr := false, ife := false, mkv := none }),
  (354, { size := 1, bytes := 8, isAgg := false, hz := true, zero := [CV.sc Value.nilFunc], fields := [], fok := false, elem := 0, sl := false, ik := none, conc := true, str := false, bl := false, ptr := false, ife := false, mkv := none }),
  (355, { size := 1, bytes := 8, isAgg := false, hz := true, zero := [CV.sc Value.nilFunc], fields := [], fok := false, elem := 0, sl := false, ik := none, conc := true, str := false, bl := false, ptr := false, ife := false, mkv := none }),
  (356, { size := 1, bytes := 8, isAgg := false, hz := true, zero := [CV.sc Value.nilFunc], fields := [], fok := false, elem := 0, sl := false, ik := none, conc := true, str := false, bl := false, ptr := false, ife := false, mkv := none }),
  (357, { size := 1, bytes := 8, isAgg := false, hz := true, zero := [CV.sc Value.nilFunc], fields := [], fok := false, elem := 0, sl := false, ik := none, conc := true, str := false, bl := false, ptr := false, ife := false, mkv := none }),
  (358, { size := 1, bytes := 8, isAgg := false, hz := true, zero := [CV.sc Value.nilFunc], fields := [], fok := false, elem := 0, sl := false, ik := none, conc := true, str := false, bl := false, ptr := false, ife := false, mkv := none }),
  (359, { size := 1, bytes := 8, isAgg := false, hz := true, zero := [CV.sc Value.nilFunc], fields := [], fok := false, elem := 0, sl := false, ik := none, conc := true, str := false, bl := false, ptr := false, ife := false, mkv := none }),
  (360, { size := 1, bytes := 8, isAgg := false, hz := true, zero := [CV.sc Value.nilFunc], fields := [], fok := false, elem := 0, sl := false, ik := none, conc := true, str := false, bl := false, ptr := false, ife := false, mkv := none }),
  (361, { size := 1, bytes := 8, isAgg := false, hz := true, zero := [CV.sc (Value.int IntKind.i64 0)], fields := [], fok := false, elem := 0, sl := false, ik := some IntKind.i64, conc := true, str := false, bl := false, ptr := false, ife := false, mkv := none }),
  (362, { size := 1, bytes := 8, isAgg := false, hz := true, zero := [CV.sc (Value.int IntKind.i64 0)], fields := [], fok := false, elem := 0, sl := false, ik := some IntKind.i64, conc := true, str := false, bl := false, ptr := false, ife := false, mkv := none }),
  (363, { size := 1, bytes := 24, isAgg := false, hz := true, zero := [CV.nil], fields := [], fok := false, elem := 91, sl := true, ik := none, conc := true, str := false, bl := false, ptr := false, ife := false, mkv := none }),
  (364, { size := 1, bytes := 16, isAgg := false, hz := true, zero := [CV.sc (Value.string { data := { toList := [] } })], fields := [], fok := false, elem := 0, sl := false, ik := none, conc := true, str := true, bl := false, ptr := false, ife := false, mkv := none }),
  (365, { size := 1, bytes := 8, isAgg := false, hz := true, zero := [CV.sc (Value.int IntKind.i64 0)], fields := [], fok := false, elem := 0, sl := false, ik := some IntKind.i64, conc := true, str := false, bl := false, ptr := false, ife := false, mkv := none }),
  (366, { size := 1, bytes := 8, isAgg := false, hz := true, zero := [CV.sc (Value.int IntKind.i64 0)], fields := [], fok := false, elem := 0, sl := false, ik := some IntKind.i64, conc := true, str := false, bl := false, ptr := false, ife := false, mkv := none }),
  (367, { size := 0, bytes := 0, isAgg := true, hz := true, zero := [], fields := [], fok := true, elem := 0, sl := false, ik := none, conc := true, str := false, bl := false, ptr := false, ife := false, mkv := none }),
  (368, { size := 0, bytes := 0, isAgg := true, hz := true, zero := [], fields := [], fok := true, elem := 0, sl := false, ik := none, conc := true, str := false, bl := false, ptr := false, ife := false, mkv := none }),
  (369, { size := 1, bytes := 8, isAgg := false, hz := true, zero := [CV.sc Value.nilFunc], fields := [], fok := false, elem := 0, sl := false, ik := none, conc := true, str := false, bl := false, ptr := false, ife := false, mkv := none }),
  (370, { size := 1, bytes := 8, isAgg := false, hz := true, zero := [CV.sc Value.nilFunc], fields := [], fok := false, elem := 0, sl := false, ik := none, conc := true, str := false, bl := false, ptr := false, ife := false, mkv := none }),
  (371, { size := 1, bytes := 8, isAgg := false, hz := true, zero := [CV.sc Value.nilFunc], fields := [], fok := false, elem := 0, sl := false, ik := none, conc := true, str := false, bl := false, ptr := false, ife := false, mkv := none }),
  (372, { size := 1, bytes := 8, isAgg := false, hz := true, zero := [CV.sc Value.nilFunc], fields := [], fok := false, elem := 0, sl := false, ik := none, conc := true, str := false, bl := false, ptr := false, ife := false, mkv := none }),
  (373, { size := 1, bytes := 8, isAgg := false, hz := true, zero := [CV.sc Value.nilFunc], fields := [], fok := false, elem := 0, sl := false, ik := none, conc := true, str := false, bl := false, ptr := false, ife := false, mkv := none }),
  (374, { size := 1, bytes := 8, isAgg := false, hz := true, zero := [CV.sc Value.nilFunc], fields := [], fok := false, elem := 0, sl := false, ik := none, conc := true, str := false, bl := false, ptr := false, ife := false, mkv := none }),
  (375, { size := 32, bytes := 32, isAgg := true, hz := true, zero := [CV.sc (Value.int IntKind.u8 0), CV.sc (Value.int IntKind.u8 0), CV.sc (Value.int IntKind.u8 0), CV.sc (Value.int IntKind.u8 0), CV.sc (Value.int IntKind.u8 0), CV.sc (Value.int IntKind.u8 0), CV.sc (Value.int IntKind.u8 0), CV.sc (Value.int IntKind.u8 0), CV.sc (Value.int IntKind.u8 0), CV.sc (Value.int IntKind.u8 0), CV.sc (Value.int IntKind.u8 0), CV.sc (Value.int IntKind.u8 0), CV.sc (Value.int IntKind.u8 0), CV.sc (Value.int IntKind.u8 0), CV.sc (Value.int IntKind.u8 0), CV.sc (Value.int IntKind.u8 0), CV.sc (Value.int IntKind.u8 0), CV.sc (Value.int IntKind.u8 0), CV.sc (Value.int IntKind.u8 0), CV.sc (Value.int IntKind.u8 0), CV.sc (Value.int IntKind.u8 0), CV.sc (Value.int IntKind.u8 0), CV.sc (Value.int IntKind.u8 0), CV.sc (Value.int IntKind.u8 0), CV.sc (Value.int IntKind.u8 0), CV.sc (Value.int IntKind.u8 0), CV.sc (Value.int IntKind.u8 0), CV.sc (Value.int IntKind.u8 0), CV.sc (Value.int IntKind.u8 0), CV.sc (Value.int IntKind.u8 0), CV.sc (Value.int IntKind.u8 0), CV.sc (Value.int IntKind.u8 0)], fields := [], fok := false, elem := 5, sl := false, ik := none, conc := true, str := false, bl := false, ptr := false, ife := false, mkv := none }),
  (377, { size := 1, bytes := 8, isAgg := false, hz := true, zero := [CV.sc (Value.int IntKind.u64 0)], fields := [], fok := false, elem := 0, sl := false, ik := some IntKind.u64, conc := true, str := false, bl := false, ptr := false, ife := false, mkv := none }),
  (378, { size := 1, bytes := 8, isAgg := false, hz := true, zero := [CV.sc Value.nilFunc], fields := [], fok := false, elem := 0, sl := false, ik := none, conc := true, str := false, bl := false, ptr := false, ife := false, mkv := none }),
  (379, { size := 1, bytes := 8, isAgg := false, hz := true, zero := [CV.sc Value.nilFunc], fields := [], fok := false, elem := 0, sl := false, ik := none, conc := true, str := false, bl := false, ptr := false, ife := false, mkv := none }),
  (380, { size := 1, bytes := 8, isAgg := false, hz := true, zero := [CV.sc Value.nilFunc], fields := [], fok := false, elem := 0, sl := false, ik := none, conc := true, str := false, bl := false, ptr := false, ife := false, mkv := none }),
  (381, { size := 1, bytes := 8, isAgg := false, hz := true, zero := [CV.sc (Value.pointer none)], fields := [], fok := false, elem := 3, sl := false, ik := none, conc := true, str := false, bl := false, ptr := true, ife := false, mkv := none }),
  (382, { size := 1, bytes := 8, isAgg := false, hz := true, zero := [CV.sc Value.nilFunc], fields := [], fok := false, elem := 0, sl := false, ik := none, conc := true, str := false, bl := false, ptr := false, ife := false, mkv := none }),
  (383, { size := 1, bytes := 8, isAgg := false, hz := true, zero := [CV.sc Value.nilFunc], fields := [], fok := false, elem := 0, sl := false, ik := none, conc := true, str := false, bl := false, ptr := false, ife := false, mkv := none }),
  (384, { size := 1, bytes := 8, isAgg := false, hz := true, zero := [CV.sc Value.nilFunc], fields := [], fok := false, elem := 0, sl := false, ik := none, conc := true, str := false, bl := false, ptr := false, ife := false, mkv := none }),
  (385, { size := 1, bytes := 8, isAgg := false, hz := true, zero := [CV.sc Value.nilFunc], fields := [], fok := false, elem := 0, sl := false, ik := none, conc := true, str := false, bl := false, ptr := false, ife := false, mkv := none }),
  (386, { size := 1, bytes := 8, isAgg := false, hz := true, zero := [CV.sc (Value.pointer none)], fields := [], fok := false, elem := 377, sl := false, ik := none, conc := true, str := false, bl := false, ptr := true, ife := false, mkv := none }),
  (387, { size := 1, bytes := 8, isAgg := false, hz := true, zero := [CV.sc Value.nilFunc], fields := [], fok := false, elem := 0, sl := false, ik := none, conc := true, str := false, bl := false, ptr := false, ife := false, mkv := none }),
  (388, { size := 1, bytes := 8, isAgg := false, hz := true, zero := [CV.sc Value.nilFunc], fields := [], fok := false, elem := 0, sl := false, ik := none, conc := true, str := false, bl := false, ptr := false, ife := false, mkv := none }),
  (389, { size := 1, bytes := 8, isAgg := false, hz := true, zero := [CV.sc Value.nilFunc], fields := [], fok := false, elem := 0, sl := false, ik := none, conc := true, str := false, bl := false, ptr := false, ife := false, mkv := none }),
  (390, { size := 4, bytes := 40, isAgg := true, hz := true, zero := [CV.sc (Value.pointer none), CV.sc (Value.pointer none), CV.sc (Value.pointer none), CV.sc (Value.string { data := { toList := [] } })], fields := [(0, 17, 1), (1, 17, 1), (2, 17, 1), (3, 9, 1)], fok := true, elem := 0, sl := false, ik := none, conc := true, str := false, bl := false, ptr := false, ife := false, mkv := none }),
  (391, { size := 4, bytes := 40, isAgg := true, hz := true, zero := [CV.sc (Value.pointer none), CV.sc (Value.pointer none), CV.sc (Value.pointer none), CV.sc (Value.string { data := { toList := [] } })], fields := [(0, 17, 1), (1, 17, 1), (2, 17, 1), (3, 9, 1)], fok := true, elem := 0, sl := false, ik := none, conc := true, str := false, bl := false, ptr := false, ife := false, mkv := none }),
  (392, { size := 0, bytes := 0, isAgg := true, hz := true, zero := [], fields := [], fok := false, elem := 16, sl := false, ik := none, conc := true, str := false, bl := false, ptr := false, ife := false, mkv := none }),
  (393, { size := 0, bytes := 0, isAgg := true, hz := true, zero := [], fields := [(0, 392, 0)], fok := true, elem := 0, sl := false, ik := none, conc := true, str := false, bl := false, ptr := false, ife := false, mkv := none }),
  (394, { size := 0, bytes := 0, isAgg := true, hz := true, zero := [], fields := [(0, 392, 0)], fok := true, elem := 0, sl := false, ik := none, conc := true, str := false, bl := false, ptr := false, ife := false, mkv := none }),
  (395, { size := 1, bytes := 1, isAgg := false, hz := true, zero := [CV.sc (Value.int IntKind.u8 0)], fields := [], fok := false, elem := 0, sl := false, ik := some IntKind.u8, conc := true, str := false, bl := false, ptr := false, ife := false, mkv := none }),
  (396, { size := 1, bytes := 1, isAgg := false, hz := true, zero := [CV.sc (Value.int IntKind.u8 0)], fields := [], fok := false, elem := 0, sl := false, ik := some IntKind.u8, conc := true, str := false, bl := false, ptr := false, ife := false, mkv := none }),
  (397, { size := 1, bytes := 8, isAgg := false, hz := true, zero := [CV.sc Value.nilFunc], fields := [], fok := false, elem := 0, sl := false, ik := none, conc := true, str := false, bl := false, ptr := false, ife := false, mkv := none }),
  (398, { size := 1, bytes := 4, isAgg := false, hz := true, zero := [CV.sc (Value.int IntKind.i32 0)], fields := [], fok := false, elem := 0, sl := false, ik := some IntKind.i32, conc := true, str := false, bl := false, ptr := false, ife := false, mkv := none }),
  (399, { size := 1, bytes := 4, isAgg := false, hz := true, zero := [CV.sc (Value.int IntKind.i32 0)], fields := [], fok := false, elem := 0, sl := false, ik := some IntKind.i32, conc := true, str := false, bl := false, ptr := false, ife := false, mkv := none }),
  (400, { size := 11, bytes := 48, isAgg := true, hz := true, zero := [CV.sc (Value.int IntKind.u64 0), CV.sc (Value.int IntKind.u64 0), CV.sc (Value.int IntKind.u32 0), CV.sc (Value.int IntKind.u8 0), CV.sc (Value.int IntKind.u8 0), CV.sc (Value.int IntKind.u8 0), CV.sc (Value.int IntKind.u8 0), CV.sc Value.nilFunc, CV.sc (Value.pointer none), CV.sc (Value.int IntKind.i32 0), CV.sc (Value.int IntKind.i32 0)], fields := [(0, 12, 1), (1, 12, 1), (2, 320, 1), (3, 395, 1), (4, 5, 1), (5, 5, 1), (6, 396, 1), (7, 397, 1), (8, 259, 1), (9, 398, 1), (10, 399, 1)], fok := true, elem := 0, sl := false, ik := none, conc := true, str := false, bl := false, ptr := false, ife := false, mkv := none }),
  (401, { size := 11, bytes := 48, isAgg := true, hz := true, zero := [CV.sc (Value.int IntKind.u64 0), CV.sc (Value.int IntKind.u64 0), CV.sc (Value.int IntKind.u32 0), CV.sc (Value.int IntKind.u8 0), CV.sc (Value.int IntKind.u8 0), CV.sc (Value.int IntKind.u8 0), CV.sc (Value.int IntKind.u8 0), CV.sc Value.nilFunc, CV.sc (Value.pointer none), CV.sc (Value.int IntKind.i32 0), CV.sc (Value.int IntKind.i32 0)], fields := [(0, 12, 1), (1, 12, 1), (2, 320, 1), (3, 395, 1), (4, 5, 1), (5, 5, 1), (6, 396, 1), (7, 397, 1), (8, 259, 1), (9, 398, 1), (10, 399, 1)], fok := true, elem := 0, sl := false, ik := none, conc := true, str := false, bl := false, ptr := false, ife := false, mkv := none }),
  (402, { size := 1, bytes := 8, isAgg := false, hz := true, zero := [CV.sc Value.nilFunc], fields := [], fok := false, elem := 0, sl := false, ik := none, conc := true, str := false, bl := false, ptr := false, ife := false, mkv := none }),
  (403, { size := 1, bytes := 8, isAgg := false, hz := true, zero := [CV.sc Value.nilFunc], fields := [], fok := false, elem := 0, sl := false, ik := none, conc := true, str := false, bl := false, ptr := false, ife := false, mkv := none }),
  (404, { size := 1, bytes := 8, isAgg := false, hz := true, zero := [CV.sc Value.nilFunc], fields := [], fok := false, elem := 0, sl := false, ik := none, conc := true, str := false, bl := false, ptr := false, ife := false, mkv := none }),
  (405, { size := 1, bytes := 8, isAgg := false, hz := true, zero := [CV.sc Value.nilFunc], fields := [], fok := false, elem := 0, sl := false, ik := none, conc := true, str := false, bl := false, ptr := false, ife := false, mkv := none }),
  (406, { size := 1, bytes := 8, isAgg := false, hz := true, zero := [CV.sc Value.nilFunc], fields := [], fok := false, elem := 0, sl := false, ik := none, conc := true, str := false, bl := false, ptr := false, ife := false, mkv := none }),
  (407, { size := 1, bytes := 8, isAgg := false, hz := true, zero := [CV.sc Value.nilFunc], fields := [], fok := false, elem := 0, sl := false, ik := none, conc := true, str := false, bl := false, ptr := false, ife := false, mkv := none }),
  (408, { size := 1, bytes := 8, isAgg := false, hz := true, zero := [CV.sc Value.nilFunc], fields := [], fok := false, elem := 0, sl := false, ik := none, conc := true, str := false, bl := false, ptr := false, ife := false, mkv := none }),
  (409, { size := 1, bytes := 8, isAgg := false, hz := true, zero := [CV.sc Value.nilFunc], fields := [], fok := false, elem := 0, sl := false, ik := none, conc := true, str := false, bl := false, ptr := false, ife := false, mkv := none }),
  (410, { size := 1, bytes := 8, isAgg := false, hz := true, zero := [CV.sc Value.nilFunc], fields := [], fok := false, elem := 0, sl := false, ik := none, conc := true, str := false, bl := false, ptr := false, ife := false, mkv := none }),
  (411, { size := 1, bytes := 8, isAgg := false, hz := true, zero := [CV.sc Value.nilFunc], fields := [], fok := false, elem := 0, sl := false, ik := none, conc := true, str := false, bl := false, ptr := false, ife := false, mkv := none }),
  (412, { size := 1, bytes := 8, isAgg := false, hz := true, zero := [CV.sc Value.nilFunc], fields := [], fok := false, elem := 0, sl := false, ik := none, conc := true, str := false, bl := false, ptr := false, ife := false, mkv := none })]
noncomputable def X : Ctx := { P := Tryz.prog, tt := tt, gl := fun _ => false, ord := fun _ => none }
set_option maxRecDepth 100000 in
theorem X_tt : (tt.map fun p => tiOf Tryz.prog p.1) = tt.map (fun p => some p.2) := by kernel_rfl
theorem X_ok : X.ok := Ctx.ok_of X_tt
theorem X_draw : X.P.follows .mixedOrders = true := by kernel_rfl
theorem X_sat : DrawSat X := drawSat X_ok X_draw
noncomputable def G (l : List Nat) : Ctx := { P := Tryz.prog, tt := tt, gl := fun n => l.contains n, ord := fun _ => none }
theorem G_ok (l : List Nat) : (G l).ok := X_ok
theorem G_sat (l : List Nat) : DrawSat (G l) := drawSat (G_ok l) X_draw
end Go.Proofs.YtoikelghjenndaaGreatDoor
namespace Go.Proofs.YtoikelghjenndaaGreatDoor
open Go Go.CL
set_option maxRecDepth 10000
def i64 (n : Int) : CV := .sc (.int .i64 n)
def u8 (n : Int) : CV := .sc (.int .u8 n)
def bodyOf (f : Func) : Code := f.body.getD .skip
def getB (bs : List CV) (i : Nat) : Int := match bs[i]? with
  | some (.sc (.int _ b)) => b
  | _ => 0
def BytesOk (bs : List CV) : Prop := ∀ x ∈ bs, ∃ b, x = u8 b ∧ 0 ≤ b ∧ b ≤ 255
theorem BytesOk.get {bs : List CV} (h : BytesOk bs) {i : Nat} (hi : i < bs.length) : bs[i]? = some (u8 (getB bs i)) := by
  have h1 : bs[i]? = some bs[i] := List.getElem?_eq_getElem hi
  obtain ⟨b, hb, _⟩ := h bs[i] (List.getElem_mem hi)
  rw [hb] at h1
  simp only [getB, h1, u8]
theorem BytesOk.range {bs : List CV} (h : BytesOk bs) (i : Nat) : 0 ≤ getB bs i ∧ getB bs i ≤ 255 := by
  by_cases hi : i < bs.length
  · obtain ⟨b, hb, h2⟩ := h bs[i] (List.getElem_mem hi)
    have h1 : bs[i]? = some bs[i] := List.getElem?_eq_getElem hi
    rw [hb] at h1
    simp only [getB, h1, u8]; exact h2
  · simp [getB, List.getElem?_eq_none (show bs.length ≤ i by omega)]
def mixF (bs : List CV) (k : Int) : Int :=
  getB bs (k.tmod bs.length).toNat * 131 + getB bs ((k * 7 + 3).tmod bs.length).toNat * 1117 + k * 29 + k.tdiv bs.length * 53
def xorF (a b : Int) : Int := IntKind.i64.wrap (BitVec.ofInt IntKind.i64.bits a ^^^ BitVec.ofInt IntKind.i64.bits b).toNat
def pickF (bs : List CV) (p n : Int) : Int :=
  if n < 1 ∨ bs.length = 0 then 0
  else if p < bs.length then (getB bs (p + 1 - 1).toNat).tmod n
  else (xorF (mixF bs (p + 1 - 1)) ((mixF bs (p + 1 - 1)).tdiv 64)).tmod n
theorem xorF_nonneg {a b : Int} (ha : 0 ≤ a) (hb : 0 ≤ b) (ha' : a < 9223372036854775808) (hb' : b < 9223372036854775808) : 0 ≤ xorF a b := by
  obtain ⟨m, rfl⟩ := Int.eq_ofNat_of_zero_le ha
  obtain ⟨n, rfl⟩ := Int.eq_ofNat_of_zero_le hb
  unfold xorF
  have h1 : (BitVec.ofInt IntKind.i64.bits (m : Int) ^^^ BitVec.ofInt IntKind.i64.bits (n : Int)).toNat = m ^^^ n := by
    rw [BitVec.toNat_xor]
    have e1 : (BitVec.ofInt 64 (m : Int)).toNat = m := by rw [BitVec.ofInt_natCast, BitVec.toNat_ofNat]; omega
    have e2 : (BitVec.ofInt 64 (n : Int)).toNat = n := by rw [BitVec.ofInt_natCast, BitVec.toNat_ofNat]; omega
    show (BitVec.ofInt 64 (m : Int)).toNat ^^^ (BitVec.ofInt 64 (n : Int)).toNat = _
    rw [e1, e2]
  rw [h1]
  have h2 : m ^^^ n < 2 ^ 63 := Nat.xor_lt_two_pow (by omega) (by omega)
  have : IntKind.i64.wrap ((m ^^^ n : Nat) : Int) = ((m ^^^ n : Nat) : Int) := wrap_inR (by simp only [inR]; omega)
  rw [this]; omega
theorem pickF_range {bs : List CV} (hb : BytesOk bs) {p n : Int} (hp : 0 ≤ p) (hp' : p < 1099511627776) (hl : bs.length ≤ 2000) (hn : 1 ≤ n) : 0 ≤ pickF bs p n ∧ pickF bs p n < n := by
  unfold pickF
  split
  · omega
  · split
    · have := (hb.range (p + 1 - 1).toNat).1
      exact ⟨Int.tmod_nonneg _ this, Int.tmod_lt_of_pos _ (by omega)⟩
    · refine ⟨Int.tmod_nonneg _ ?_, Int.tmod_lt_of_pos _ (by omega)⟩
      have m1 := hb.range (((p + 1 - 1).tmod bs.length).toNat)
      have m2 := hb.range ((((p + 1 - 1) * 7 + 3).tmod bs.length).toNat)
      have m3 : 0 ≤ (p + 1 - 1).tdiv bs.length := Int.tdiv_nonneg (by omega) (by omega)
      have m4 : (p + 1 - 1).tdiv bs.length ≤ p + 1 - 1 := Int.tdiv_le_self _ (by omega)
      have m5 : 0 ≤ mixF bs (p + 1 - 1) ∧ mixF bs (p + 1 - 1) < 1125899906842624 := by unfold mixF; omega
      exact xorF_nonneg m5.1 (Int.tdiv_nonneg m5.1 (by omega)) (by omega) (by have := Int.tdiv_le_self 64 m5.1; omega)
def rd (σ : Heap) (l : Nat) (bs : List CV) (p : Int) : Heap := upd σ l (.cells [.vec bs, i64 p])
theorem pick_c {l : Nat} {σ : Heap} {bs : List CV} {p n : Int} (hb : BytesOk bs) (hp : 0 ≤ p) (hp' : p < 1099511627776) (hl : bs.length ≤ 2000) :
    CRun Tryz.prog 19 [.ptr (.g l) 0, i64 n] (rd σ l bs p) (· = .ret (i64 (pickF bs p n)) (rd σ l bs (p + 1))) := by
  have hs : rd σ l bs p l = some (.cells [.vec bs, i64 p]) := upd_same _ _ _
  rw [show rd σ l bs (p + 1) = upd (rd σ l bs p) l (.cells [.vec bs, i64 (p + 1)]) by simp only [rd, upd_upd]]
  generalize rd σ l bs p = σ at hs
  refine crun_of (X := G []) (G_ok _) (G_sat _) (body := bodyOf Tryz.f19) Tryz.func19 rfl (by kernel_rfl) (by kernel_rfl) ?_
  rw [Tryz.ntmps19]
  by_cases hn : n < 1
  · have e : pickF bs p n = 0 := by unfold pickF; rw [if_pos (.inl hn)]
    rw [e]
    conv => whnf
    repeat' (first | refine OrdN.one ?_ | refine Fork.yp ?_ | refine Fork.np ?_ | refine Fork.ny ?_ | refine Fork.nn ?_ | refine Fork.yb ?_ | refine Fork.nb ?_ | refine Fork.dp (fun h => ?_) (fun h => ?_) | refine Fork.dn (fun h => ?_) (fun h => ?_) | (refine Fork.mk (fun h => ?_) (fun h => ?_) <;> simp only [decide_eq_true_eq, decide_eq_false_iff_not, Bool.not_eq_true', Bool.not_eq_false', Bool.or_eq_true, Bool.or_eq_false_iff] at h) | refine GetN.go ?_ | refine Need.ap1 ?_ | refine Need.ap0 ?_ | refine Need.go ?_ | refine Need.draw ?_ | refine ElemN.go ?_ | refine ExtN.ext ?_ | refine ExtN.wr ?_ | refine AllocN.go (fun l hl => ?_) | refine finGo ?_) <;> try (conv => whnf)
    rfl
  by_cases hz : bs.length = 0
  · have e : pickF bs p n = 0 := by unfold pickF; rw [if_pos (.inr hz)]
    rw [e]
    conv => whnf
    repeat' (first | refine OrdN.one ?_ | refine Fork.yp ?_ | refine Fork.np ?_ | refine Fork.ny ?_ | refine Fork.nn ?_ | refine Fork.yb ?_ | refine Fork.nb ?_ | refine Fork.dp (fun h => ?_) (fun h => ?_) | refine Fork.dn (fun h => ?_) (fun h => ?_) | (refine Fork.mk (fun h => ?_) (fun h => ?_) <;> simp only [decide_eq_true_eq, decide_eq_false_iff_not, Bool.not_eq_true', Bool.not_eq_false', Bool.or_eq_true, Bool.or_eq_false_iff] at h) | refine GetN.go ?_ | refine Need.ap1 ?_ | refine Need.ap0 ?_ | refine Need.go ?_ | refine Need.draw ?_ | refine ElemN.go ?_ | refine ExtN.ext ?_ | refine ExtN.wr ?_ | refine AllocN.go (fun l hl => ?_) | refine finGo ?_) <;> try (conv => whnf)
    rfl
  by_cases hk : p < bs.length
  · have e : pickF bs p n = (getB bs (p + 1 - 1).toNat).tmod n := by unfold pickF; rw [if_neg (by omega), if_pos hk]
    rw [e]
    have m0 := hb.get (i := (p + 1 - 1).toNat) (by omega)
    have m1 := hb.range (p + 1 - 1).toNat
    conv => whnf
    repeat' (first | refine OrdN.one ?_ | refine Fork.yp ?_ | refine Fork.np ?_ | refine Fork.ny ?_ | refine Fork.nn ?_ | refine Fork.yb ?_ | refine Fork.nb ?_ | refine Fork.dp (fun h => ?_) (fun h => ?_) | refine Fork.dn (fun h => ?_) (fun h => ?_) | (refine Fork.mk (fun h => ?_) (fun h => ?_) <;> simp only [decide_eq_true_eq, decide_eq_false_iff_not, Bool.not_eq_true', Bool.not_eq_false', Bool.or_eq_true, Bool.or_eq_false_iff] at h) | refine GetN.go ?_ | refine Need.ap1 ?_ | refine Need.ap0 ?_ | refine Need.go ?_ | refine Need.draw ?_ | refine ElemN.go ?_ | refine ExtN.ext ?_ | refine ExtN.wr ?_ | refine AllocN.go (fun l hl => ?_) | refine finGo ?_) <;> try (conv => whnf)
    rfl
  · have e : pickF bs p n = (xorF (mixF bs (p + 1 - 1)) ((mixF bs (p + 1 - 1)).tdiv 64)).tmod n := by unfold pickF; rw [if_neg (by omega), if_neg hk]
    rw [e]
    have d1 : 0 ≤ (p + 1 - 1).tmod bs.length ∧ (p + 1 - 1).tmod bs.length < bs.length := ⟨Int.tmod_nonneg _ (by omega), Int.tmod_lt_of_pos _ (by omega)⟩
    have d2 : 0 ≤ ((p + 1 - 1) * 7 + 3).tmod bs.length ∧ ((p + 1 - 1) * 7 + 3).tmod bs.length < bs.length := ⟨Int.tmod_nonneg _ (by omega), Int.tmod_lt_of_pos _ (by omega)⟩
    have g1 := hb.get (i := ((p + 1 - 1).tmod bs.length).toNat) (by omega)
    have g2 := hb.get (i := (((p + 1 - 1) * 7 + 3).tmod bs.length).toNat) (by omega)
    have m1 := hb.range (((p + 1 - 1).tmod bs.length).toNat)
    have m2 := hb.range ((((p + 1 - 1) * 7 + 3).tmod bs.length).toNat)
    have m3 : 0 ≤ (p + 1 - 1).tdiv bs.length := Int.tdiv_nonneg (by omega) (by omega)
    have m4 : (p + 1 - 1).tdiv bs.length ≤ p + 1 - 1 := Int.tdiv_le_self _ (by omega)
    have m5 : 0 ≤ mixF bs (p + 1 - 1) ∧ mixF bs (p + 1 - 1) < 1125899906842624 := by unfold mixF; omega
    have m6 : 0 ≤ (mixF bs (p + 1 - 1)).tdiv 64 := Int.tdiv_nonneg m5.1 (by omega)
    have m7 := Int.tdiv_le_self 64 m5.1
    simp only [mixF] at m5 m6 m7
    conv => whnf
    repeat' (first | refine OrdN.one ?_ | refine Fork.yp ?_ | refine Fork.np ?_ | refine Fork.ny ?_ | refine Fork.nn ?_ | refine Fork.yb ?_ | refine Fork.nb ?_ | refine Fork.dp (fun h => ?_) (fun h => ?_) | refine Fork.dn (fun h => ?_) (fun h => ?_) | (refine Fork.mk (fun h => ?_) (fun h => ?_) <;> simp only [decide_eq_true_eq, decide_eq_false_iff_not, Bool.not_eq_true', Bool.not_eq_false', Bool.or_eq_true, Bool.or_eq_false_iff] at h) | refine GetN.go ?_ | refine Need.ap1 ?_ | refine Need.ap0 ?_ | refine Need.go ?_ | refine Need.draw ?_ | refine ElemN.go ?_ | refine ExtN.ext ?_ | refine ExtN.wr ?_ | refine AllocN.go (fun l hl => ?_) | refine finGo ?_) <;> try (conv => whnf)
    rfl
theorem pick_n {l : Nat} {σ : Heap} {bs : List CV} {p n : Int} (hb : BytesOk bs) (hl : bs.length ≤ 2000) (hp : 0 ≤ p) (hp' : p < 1099511627776) :
    CRun Tryz.prog 19 [.ptr (.g l) 0, i64 n] (rd σ l bs p) (fun out => ∃ k, (1 ≤ n → 0 ≤ k ∧ k < n) ∧ (n < 1 → k = 0) ∧ out = .ret (i64 k) (rd σ l bs (p + 1))) :=
  (pick_c hb hp hp' hl).mono fun out h => ⟨pickF bs p n, fun hn => pickF_range hb hp hp' hl hn, fun hn => by unfold pickF; rw [if_pos (.inl hn)], h⟩
theorem of_c {l : Nat} {σ : Heap} {bs xs : List CV} {p : Int} {m : Nat} (hb : BytesOk bs) (hl : bs.length ≤ 2000) (hp : 0 ≤ p) (hp' : p < 1099511627776) (hx : Each (fun x => ∃ t : ByteArray, x = .sc (.string t) ∧ t.size ≤ m) xs) (h1 : 1 ≤ xs.length) (h2 : xs.length ≤ 1000) :
    CRun Tryz.prog 20 [.ptr (.g l) 0, .vec xs] (rd σ l bs p) (fun out => ∃ t : ByteArray, t.size ≤ m ∧ out = .ret (.sc (.string t)) (rd σ l bs (p + 1))) := by
  refine crun_of (X := X) X_ok X_sat (body := bodyOf Tryz.f20) Tryz.func20 rfl (by kernel_rfl) (by kernel_rfl) ?_
  rw [Tryz.ntmps20]
  conv => whnf
  repeat' (first | (refine CallN.many (pick_n hb hl hp hp') ?_; rintro _ ⟨k, hk1, hk2, rfl⟩) | (refine ElemN.any hx.all (by omega) ?_; rintro _ ⟨t, rfl, ht⟩) | refine OrdN.one ?_ | refine Fork.yp ?_ | refine Fork.np ?_ | refine Fork.ny ?_ | refine Fork.nn ?_ | refine Fork.yb ?_ | refine Fork.nb ?_ | refine Fork.dp (fun h => ?_) (fun h => ?_) | refine Fork.dn (fun h => ?_) (fun h => ?_) | (refine Fork.mk (fun h => ?_) (fun h => ?_) <;> simp only [decide_eq_true_eq, decide_eq_false_iff_not, Bool.not_eq_true', Bool.not_eq_false', Bool.or_eq_true, Bool.or_eq_false_iff] at h) | refine GetN.go ?_ | refine Need.ap1 ?_ | refine Need.ap0 ?_ | refine Need.go ?_ | refine Need.draw ?_ | refine ElemN.go ?_ | refine ExtN.ext ?_ | refine ExtN.wr ?_ | refine AllocN.go (fun l hl => ?_) | refine finGo ?_) <;> try (conv => whnf)
  exact ⟨_, ht, rfl⟩
theorem open_c {σ : Heap} {bs : List CV} (hb : BytesOk bs) (h2 : bs.length ≤ 1048576) :
    CRun Tryz.prog 10 [.vec bs] σ (fun out => ∃ l bs', BytesOk bs' ∧ bs'.length ≤ 2000 ∧ out = .ret (.ptr (.g l) 0) (rd σ l bs' 0)) := by
  refine crun_of (X := G [10]) (G_ok _) (G_sat _) (body := bodyOf Tryz.f10) Tryz.func10 rfl (by kernel_rfl) (by kernel_rfl) ?_
  rw [Tryz.ntmps10]
  conv => whnf
  repeat' (first | refine OrdN.one ?_ | refine Fork.yp ?_ | refine Fork.np ?_ | refine Fork.ny ?_ | refine Fork.nn ?_ | refine Fork.yb ?_ | refine Fork.nb ?_ | refine Fork.dp (fun h => ?_) (fun h => ?_) | refine Fork.dn (fun h => ?_) (fun h => ?_) | (refine Fork.mk (fun h => ?_) (fun h => ?_) <;> simp only [decide_eq_true_eq, decide_eq_false_iff_not, Bool.not_eq_true', Bool.not_eq_false', Bool.or_eq_true, Bool.or_eq_false_iff] at h) | refine GetN.go ?_ | refine Need.ap1 ?_ | refine Need.ap0 ?_ | refine Need.go ?_ | refine Need.draw ?_ | refine ElemN.go ?_ | refine ExtN.ext ?_ | refine ExtN.wr ?_ | refine AllocN.go (fun l hl => ?_) | refine finGo ?_) <;> try (conv => whnf)
  · exact ⟨l, (bs.take 2000).drop 0, fun x hx => hb x (List.mem_of_mem_take (List.mem_of_mem_drop hx)), by simp; omega, rfl⟩
  · exact ⟨l, bs, hb, by omega, rfl⟩
inductive Val where
  | mk (k n : Int) (t : ByteArray) (l : List Val)
mutual
def Val.cv : Val → CV
  | .mk k n t l => .agg [i64 k, i64 n, .sc (.string t), .vec (Val.cvs l)]
def Val.cvs : List Val → List CV
  | [] => []
  | v :: r => v.cv :: Val.cvs r
end
inductive Tame : Val → Prop
  | mk {k n : Int} {t : ByteArray} {l : List Val} (hk : -100 ≤ k ∧ k ≤ 100) (hn : -2000000000 ≤ n ∧ n ≤ 2000000000) (ht : t.size ≤ 100) (hl : l.length ≤ 100) (h : ∀ v ∈ l, Tame v) : Tame (.mk k n t l)
theorem cvs_map (l : List Val) : Val.cvs l = l.map Val.cv := by
  induction l with
  | nil => rfl
  | cons v r ih => simp [Val.cvs, ih]
theorem cvs_length (l : List Val) : (Val.cvs l).length = l.length := by simp [cvs_map]
theorem cvs_get {l : List Val} {i : Nat} (hi : i < l.length) : ∃ v, v ∈ l ∧ (Val.cvs l)[i]? = some (Val.cv v) ∧ l.take (i + 1) = l.take i ++ [v] := by
  refine ⟨l[i], List.getElem_mem hi, ?_, by rw [List.take_add_one, List.getElem?_eq_getElem hi]; rfl⟩
  rw [cvs_map, List.getElem?_map, List.getElem?_eq_getElem hi]; rfl
def byteOk (c : UInt8) : Bool := !(decide ((c.toNat : Int) < 32) || decide (126 < (c.toNat : Int)) || decide ((c.toNat : Int) = 39))
def textOk (t : ByteArray) : Bool := decide (t.size ≤ 16) && (List.range t.size).all fun i => byteOk (t.data.getD i 0)
theorem textOk_no {t : ByteArray} {i : Nat} (hi : i < t.size) (h : byteOk (t.data.getD i 0) = false) : textOk t = false := by
  unfold textOk
  rw [Bool.and_eq_false_iff]
  right
  rw [List.all_eq_false]
  exact ⟨i, List.mem_range.2 hi, by rw [h]; simp⟩
theorem textOk_yes {t : ByteArray} (hs : t.size ≤ 16) (h : ∀ i, i < t.size → byteOk (t.data.getD i 0) = true) : textOk t = true := by
  unfold textOk
  rw [Bool.and_eq_true, List.all_eq_true]
  exact ⟨decide_eq_true hs, fun i hi => h i (List.mem_range.1 hi)⟩
theorem ansB {b b' : Bool} {σ : Heap} (h : b' = b) : COut.ret (.sc (.bool b)) σ = .ret (.sc (.bool b')) σ := by rw [h]
theorem textFits_c {σ : Heap} {t : ByteArray} (ht : t.size ≤ 1000000000) : CRun Tryz.prog 125 [.sc (.string t)] σ (· = .ret (.sc (.bool (textOk t))) σ) := by
  refine crun_of (X := X) X_ok X_sat (body := bodyOf Tryz.f125) Tryz.func125 rfl (by kernel_rfl) (by kernel_rfl) ?_
  rw [Tryz.ntmps125]
  by_cases hs : t.size ≤ 16
  · conv => whnf
    repeat' (first | refine OrdN.one ?_ | refine Fork.yp ?_ | refine Fork.np ?_ | refine Fork.ny ?_ | refine Fork.nn ?_ | refine Fork.yb ?_ | refine Fork.nb ?_ | refine Fork.dp (fun h => ?_) (fun h => ?_) | refine Fork.dn (fun h => ?_) (fun h => ?_) | (refine Fork.mk (fun h => ?_) (fun h => ?_) <;> simp only [decide_eq_true_eq, decide_eq_false_iff_not, Bool.not_eq_true', Bool.not_eq_false', Bool.or_eq_true, Bool.or_eq_false_iff] at h) | refine GetN.go ?_ | refine Need.ap1 ?_ | refine Need.ap0 ?_ | refine Need.go ?_ | refine Need.draw ?_ | refine ElemN.go ?_ | refine ExtN.ext ?_ | refine ExtN.wr ?_ | refine AllocN.go (fun l hl => ?_) | refine finGo ?_) <;> try (conv => whnf)
    refine LoopN.rule (α := Nat) (fun i => ⟨29, [(0, .sc (.string t)), (2, .sc (.bool false)), (3, i64 i)], []⟩)
      (fun _ => σ) (fun i => t.size - i) (fun i => i ≤ t.size ∧ ∀ j, j < i → byteOk (t.data.getD j 0) = true) ?_ 0 ⟨Nat.zero_le _, by omega⟩ ?_
    · rintro i K ⟨h1, h2⟩ hK
      dsimp only at h1 h2 ⊢
      by_cases hi : i < t.size
      · have hb : byteOk (t.data.getD i 0) = !(decide (((t.data.getD (i : Int).toNat 0).toNat : Int) < 32) || decide (126 < ((t.data.getD (i : Int).toNat 0).toNat : Int)) || decide (((t.data.getD (i : Int).toNat 0).toNat : Int) = 39)) := rfl
        conv => whnf
        repeat' (first | refine OrdN.one ?_ | refine Fork.yp ?_ | refine Fork.np ?_ | refine Fork.ny ?_ | refine Fork.nn ?_ | refine Fork.yb ?_ | refine Fork.nb ?_ | refine Fork.dp (fun h => ?_) (fun h => ?_) | refine Fork.dn (fun h => ?_) (fun h => ?_) | (refine Fork.mk (fun h => ?_) (fun h => ?_) <;> simp only [decide_eq_true_eq, decide_eq_false_iff_not, Bool.not_eq_true', Bool.not_eq_false', Bool.or_eq_true, Bool.or_eq_false_iff] at h) | refine GetN.go ?_ | refine Need.ap1 ?_ | refine Need.ap0 ?_ | refine Need.go ?_ | refine Need.draw ?_ | refine ElemN.go ?_ | refine ExtN.ext ?_ | refine ExtN.wr ?_ | refine AllocN.go (fun l hl => ?_) | refine finGo ?_) <;> try (conv => whnf)
        all_goals first
          | (refine hK (i + 1) _ _ ⟨by omega, fun j hj => ?_⟩ (by omega) ?_)
          | (exact ansB (textOk_no hi (by rw [hb]; simp only [Bool.not_eq_false', Bool.or_eq_true, decide_eq_true_eq]; omega)))
        · by_cases hj' : j < i
          · exact h2 j hj'
          · have : j = i := by omega
            rw [this, hb]; simp only [Bool.not_eq_true', Bool.or_eq_false_iff, decide_eq_false_iff_not]; omega
        · (refine ⟨rfl, ?_, ?_, Sub.refl _⟩ <;> repeat' (first | exact EnvLe.nil | exact LocsLe.nil | refine EnvLe.cons _ _ _ ?_ ?_ | refine LocsLe.cons _ _ _ ?_ ?_ | exact CVle.same _ rfl | exact CVle.vec _ _ | exact CVle.nil | exact CVle.tok _ _ _ rfl rfl | exact ObLe.tok _ _ rfl | exact CVles.nil | refine CVles.cons ?_ ?_ | exact ObLe.same _ rfl rfl | refine ObLe.cells rfl ?_))
      · conv => whnf
        repeat' (first | refine OrdN.one ?_ | refine Fork.yp ?_ | refine Fork.np ?_ | refine Fork.ny ?_ | refine Fork.nn ?_ | refine Fork.yb ?_ | refine Fork.nb ?_ | refine Fork.dp (fun h => ?_) (fun h => ?_) | refine Fork.dn (fun h => ?_) (fun h => ?_) | (refine Fork.mk (fun h => ?_) (fun h => ?_) <;> simp only [decide_eq_true_eq, decide_eq_false_iff_not, Bool.not_eq_true', Bool.not_eq_false', Bool.or_eq_true, Bool.or_eq_false_iff] at h) | refine GetN.go ?_ | refine Need.ap1 ?_ | refine Need.ap0 ?_ | refine Need.go ?_ | refine Need.draw ?_ | refine ElemN.go ?_ | refine ExtN.ext ?_ | refine ExtN.wr ?_ | refine AllocN.go (fun l hl => ?_) | refine finGo ?_) <;> try (conv => whnf)
        exact ansB (textOk_yes hs (fun j hj => h2 j (by omega)))
    · (refine ⟨rfl, ?_, ?_, Sub.refl _⟩ <;> repeat' (first | exact EnvLe.nil | exact LocsLe.nil | refine EnvLe.cons _ _ _ ?_ ?_ | refine LocsLe.cons _ _ _ ?_ ?_ | exact CVle.same _ rfl | exact CVle.vec _ _ | exact CVle.nil | exact CVle.tok _ _ _ rfl rfl | exact ObLe.tok _ _ rfl | exact CVles.nil | refine CVles.cons ?_ ?_ | exact ObLe.same _ rfl rfl | refine ObLe.cells rfl ?_))
  · conv => whnf
    repeat' (first | refine OrdN.one ?_ | refine Fork.yp ?_ | refine Fork.np ?_ | refine Fork.ny ?_ | refine Fork.nn ?_ | refine Fork.yb ?_ | refine Fork.nb ?_ | refine Fork.dp (fun h => ?_) (fun h => ?_) | refine Fork.dn (fun h => ?_) (fun h => ?_) | (refine Fork.mk (fun h => ?_) (fun h => ?_) <;> simp only [decide_eq_true_eq, decide_eq_false_iff_not, Bool.not_eq_true', Bool.not_eq_false', Bool.or_eq_true, Bool.or_eq_false_iff] at h) | refine GetN.go ?_ | refine Need.ap1 ?_ | refine Need.ap0 ?_ | refine Need.go ?_ | refine Need.draw ?_ | refine ElemN.go ?_ | refine ExtN.ext ?_ | refine ExtN.wr ?_ | refine AllocN.go (fun l hl => ?_) | refine finGo ?_) <;> try (conv => whnf)
    have : textOk t = false := by unfold textOk; rw [decide_eq_false hs]; rfl
    exact ansB this
theorem textFits_v {σ : Heap} {t : ByteArray} {b : Bool} (hb : textOk t = b) (ht : t.size ≤ 1000000000) : CRun Tryz.prog 125 [.sc (.string t)] σ (· = .ret (.sc (.bool b)) σ) := hb ▸ textFits_c ht
theorem in_c {σ : Heap} {n lo hi : Int} : CRun Tryz.prog 40 [i64 n, i64 lo, i64 hi] σ (· = .ret (.sc (.bool (decide (lo ≤ n ∧ n ≤ hi)))) σ) := by
  refine crun_of (X := X) X_ok X_sat (body := bodyOf Tryz.f40) Tryz.func40 rfl (by kernel_rfl) (by kernel_rfl) ?_
  rw [Tryz.ntmps40]
  conv => whnf
  repeat' (first | refine OrdN.one ?_ | refine Fork.yp ?_ | refine Fork.np ?_ | refine Fork.ny ?_ | refine Fork.nn ?_ | refine Fork.yb ?_ | refine Fork.nb ?_ | refine Fork.dp (fun h => ?_) (fun h => ?_) | refine Fork.dn (fun h => ?_) (fun h => ?_) | (refine Fork.mk (fun h => ?_) (fun h => ?_) <;> simp only [decide_eq_true_eq, decide_eq_false_iff_not, Bool.not_eq_true', Bool.not_eq_false', Bool.or_eq_true, Bool.or_eq_false_iff] at h) | refine GetN.go ?_ | refine Need.ap1 ?_ | refine Need.ap0 ?_ | refine Need.go ?_ | refine Need.draw ?_ | refine ElemN.go ?_ | refine ExtN.ext ?_ | refine ExtN.wr ?_ | refine AllocN.go (fun l hl => ?_) | refine finGo ?_) <;> try (conv => whnf)
  · rw [decide_eq_true (by omega)]
  · rw [decide_eq_false (by omega)]
  · rw [decide_eq_false (by omega)]
mutual
def okV : Int → Val → Bool
  | d, .mk k n t l => decide (1 ≤ d) && (
    if k = 0 then decide (n = 0) && decide (t = ⟨#[]⟩) && decide (l.length = 0)
    else if k = 1 then decide (0 ≤ n ∧ n ≤ 1) && decide (t = ⟨#[]⟩) && decide (l.length = 0)
    else if k = 2 then decide (-1000000000 ≤ n ∧ n ≤ 1000000000) && decide (t = ⟨#[]⟩) && decide (l.length = 0)
    else if k = 3 then decide (n = 0) && textOk t && decide (l.length = 0)
    else if k = 5 ∨ k = 6 then decide (0 ≤ n ∧ n ≤ 1000000000) && decide (t = ⟨#[]⟩) && decide (l.length = 0)
    else if k = 4 then decide (n = 0) && decide (t = ⟨#[]⟩) && decide (l.length ≤ 6) && okL (d - 1) l
    else false)
def okL : Int → List Val → Bool
  | _, [] => true
  | d, v :: r => okV d v && okL d r
end
theorem okL_all {d : Int} {l : List Val} : okL d l = l.all (okV d) := by
  induction l with
  | nil => rfl
  | cons v r ih => simp [okL, ih]
theorem fits_c {σ : Heap} {v : Val} (hv : Tame v) : ∀ {d : Int}, -10 ≤ d → d ≤ 1000 → CRun Tryz.prog 95 [v.cv, i64 d] σ (· = .ret (.sc (.bool (okV d v))) σ) := by
  induction hv with
  | @mk k n t l hk hn ht hl h ih =>
    intro d hd hd'
    have e3 := cvs_length l
    refine crun_of (X := X) X_ok X_sat (body := bodyOf Tryz.f95) Tryz.func95 rfl (by kernel_rfl) (by kernel_rfl) ?_
    rw [Tryz.ntmps95]
    have key : ∀ b, okV d (.mk k n t l) = b → COut.ret (.sc (.bool b)) σ = .ret (.sc (.bool (okV d (.mk k n t l)))) σ := fun b h => ansB h
    by_cases d1 : d < 1
    · conv => whnf
      repeat' (first | refine OrdN.one ?_ | refine Fork.yp ?_ | refine Fork.np ?_ | refine Fork.ny ?_ | refine Fork.nn ?_ | refine Fork.yb ?_ | refine Fork.nb ?_ | refine Fork.dp (fun h => ?_) (fun h => ?_) | refine Fork.dn (fun h => ?_) (fun h => ?_) | (refine Fork.mk (fun h => ?_) (fun h => ?_) <;> simp only [decide_eq_true_eq, decide_eq_false_iff_not, Bool.not_eq_true', Bool.not_eq_false', Bool.or_eq_true, Bool.or_eq_false_iff] at h) | refine GetN.go ?_ | refine Need.ap1 ?_ | refine Need.ap0 ?_ | refine Need.go ?_ | refine Need.draw ?_ | refine ElemN.go ?_ | refine ExtN.ext ?_ | refine ExtN.wr ?_ | refine AllocN.go (fun l hl => ?_) | refine finGo ?_) <;> try (conv => whnf)
      exact key _ (by simp only [okV]; rw [decide_eq_false (by omega)]; rfl)
    have d2 : decide (1 ≤ d) = true := decide_eq_true (by omega)
    by_cases k0 : k = 0
    · subst k0
      have okk : okV d (.mk 0 n t l) = (decide (n = 0) && decide (t = ⟨#[]⟩) && decide (l.length = 0)) := by simp only [okV, d2]; rfl
      conv => whnf
      repeat' (first | refine OrdN.one ?_ | refine Fork.yp ?_ | refine Fork.np ?_ | refine Fork.ny ?_ | refine Fork.nn ?_ | refine Fork.yb ?_ | refine Fork.nb ?_ | refine Fork.dp (fun h => ?_) (fun h => ?_) | refine Fork.dn (fun h => ?_) (fun h => ?_) | (refine Fork.mk (fun h => ?_) (fun h => ?_) <;> simp only [decide_eq_true_eq, decide_eq_false_iff_not, Bool.not_eq_true', Bool.not_eq_false', Bool.or_eq_true, Bool.or_eq_false_iff] at h) | refine GetN.go ?_ | refine Need.ap1 ?_ | refine Need.ap0 ?_ | refine Need.go ?_ | refine Need.draw ?_ | refine ElemN.go ?_ | refine ExtN.ext ?_ | refine ExtN.wr ?_ | refine AllocN.go (fun l hl => ?_) | refine finGo ?_) <;> try (conv => whnf)
      all_goals first
        | exact key _ (by rw [okk]; simp only [Bool.and_eq_true, decide_eq_true_eq]; exact ⟨⟨by omega, by assumption⟩, by omega⟩)
        | exact key _ (by rw [okk]; simp only [Bool.and_eq_false_iff, decide_eq_false_iff_not]; first | exact .inl (.inl (by omega)) | exact .inl (.inr (by assumption)) | exact .inr (by omega))
    by_cases k1 : k = 1
    · subst k1
      have okk : okV d (.mk 1 n t l) = (decide (0 ≤ n ∧ n ≤ 1) && decide (t = ⟨#[]⟩) && decide (l.length = 0)) := by simp only [okV, d2]; rfl
      conv => whnf
      repeat' (first | refine OrdN.one ?_ | refine Fork.yp ?_ | refine Fork.np ?_ | refine Fork.ny ?_ | refine Fork.nn ?_ | refine Fork.yb ?_ | refine Fork.nb ?_ | refine Fork.dp (fun h => ?_) (fun h => ?_) | refine Fork.dn (fun h => ?_) (fun h => ?_) | (refine Fork.mk (fun h => ?_) (fun h => ?_) <;> simp only [decide_eq_true_eq, decide_eq_false_iff_not, Bool.not_eq_true', Bool.not_eq_false', Bool.or_eq_true, Bool.or_eq_false_iff] at h) | refine GetN.go ?_ | refine Need.ap1 ?_ | refine Need.ap0 ?_ | refine Need.go ?_ | refine Need.draw ?_ | refine ElemN.go ?_ | refine ExtN.ext ?_ | refine ExtN.wr ?_ | refine AllocN.go (fun l hl => ?_) | refine finGo ?_) <;> try (conv => whnf)
      all_goals first
        | exact key _ (by rw [okk]; simp only [Bool.and_eq_true, decide_eq_true_eq]; exact ⟨⟨by omega, by assumption⟩, by omega⟩)
        | exact key _ (by rw [okk]; simp only [Bool.and_eq_false_iff, decide_eq_false_iff_not]; first | exact .inl (.inl (by omega)) | exact .inl (.inr (by assumption)) | exact .inr (by omega))
    by_cases k2 : k = 2
    · subst k2
      have okk : okV d (.mk 2 n t l) = (decide (-1000000000 ≤ n ∧ n ≤ 1000000000) && decide (t = ⟨#[]⟩) && decide (l.length = 0)) := by simp only [okV, d2]; rfl
      conv => whnf
      repeat' (first | refine OrdN.one ?_ | refine Fork.yp ?_ | refine Fork.np ?_ | refine Fork.ny ?_ | refine Fork.nn ?_ | refine Fork.yb ?_ | refine Fork.nb ?_ | refine Fork.dp (fun h => ?_) (fun h => ?_) | refine Fork.dn (fun h => ?_) (fun h => ?_) | (refine Fork.mk (fun h => ?_) (fun h => ?_) <;> simp only [decide_eq_true_eq, decide_eq_false_iff_not, Bool.not_eq_true', Bool.not_eq_false', Bool.or_eq_true, Bool.or_eq_false_iff] at h) | refine GetN.go ?_ | refine Need.ap1 ?_ | refine Need.ap0 ?_ | refine Need.go ?_ | refine Need.draw ?_ | refine ElemN.go ?_ | refine ExtN.ext ?_ | refine ExtN.wr ?_ | refine AllocN.go (fun l hl => ?_) | refine finGo ?_) <;> try (conv => whnf)
      all_goals first
        | exact key _ (by rw [okk]; simp only [Bool.and_eq_true, decide_eq_true_eq]; exact ⟨⟨by omega, by assumption⟩, by omega⟩)
        | exact key _ (by rw [okk]; simp only [Bool.and_eq_false_iff, decide_eq_false_iff_not]; first | exact .inl (.inl (by omega)) | exact .inl (.inr (by assumption)) | exact .inr (by omega))
    by_cases k3 : k = 3
    · subst k3
      have okk : okV d (.mk 3 n t l) = (decide (n = 0) && textOk t && decide (l.length = 0)) := by simp only [okV, d2]; rfl
      cases htx : textOk t
      · conv => whnf
        repeat' (first | (refine CallN.one (textFits_v htx (by omega)) ?_) | refine OrdN.one ?_ | refine Fork.yp ?_ | refine Fork.np ?_ | refine Fork.ny ?_ | refine Fork.nn ?_ | refine Fork.yb ?_ | refine Fork.nb ?_ | refine Fork.dp (fun h => ?_) (fun h => ?_) | refine Fork.dn (fun h => ?_) (fun h => ?_) | (refine Fork.mk (fun h => ?_) (fun h => ?_) <;> simp only [decide_eq_true_eq, decide_eq_false_iff_not, Bool.not_eq_true', Bool.not_eq_false', Bool.or_eq_true, Bool.or_eq_false_iff] at h) | refine GetN.go ?_ | refine Need.ap1 ?_ | refine Need.ap0 ?_ | refine Need.go ?_ | refine Need.draw ?_ | refine ElemN.go ?_ | refine ExtN.ext ?_ | refine ExtN.wr ?_ | refine AllocN.go (fun l hl => ?_) | refine finGo ?_) <;> try (conv => whnf)
        all_goals first
          | exact key _ (by rw [okk]; simp only [Bool.and_eq_true, decide_eq_true_eq]; exact ⟨⟨by omega, by assumption⟩, by omega⟩)
          | exact key _ (by rw [okk]; simp only [Bool.and_eq_false_iff, decide_eq_false_iff_not]; first | exact .inl (.inl (by omega)) | exact .inl (.inr (by assumption)) | exact .inr (by omega))
      · conv => whnf
        repeat' (first | (refine CallN.one (textFits_v htx (by omega)) ?_) | refine OrdN.one ?_ | refine Fork.yp ?_ | refine Fork.np ?_ | refine Fork.ny ?_ | refine Fork.nn ?_ | refine Fork.yb ?_ | refine Fork.nb ?_ | refine Fork.dp (fun h => ?_) (fun h => ?_) | refine Fork.dn (fun h => ?_) (fun h => ?_) | (refine Fork.mk (fun h => ?_) (fun h => ?_) <;> simp only [decide_eq_true_eq, decide_eq_false_iff_not, Bool.not_eq_true', Bool.not_eq_false', Bool.or_eq_true, Bool.or_eq_false_iff] at h) | refine GetN.go ?_ | refine Need.ap1 ?_ | refine Need.ap0 ?_ | refine Need.go ?_ | refine Need.draw ?_ | refine ElemN.go ?_ | refine ExtN.ext ?_ | refine ExtN.wr ?_ | refine AllocN.go (fun l hl => ?_) | refine finGo ?_) <;> try (conv => whnf)
        all_goals first
          | exact key _ (by rw [okk]; simp only [Bool.and_eq_true, decide_eq_true_eq]; exact ⟨⟨by omega, by assumption⟩, by omega⟩)
          | exact key _ (by rw [okk]; simp only [Bool.and_eq_false_iff, decide_eq_false_iff_not]; first | exact .inl (.inl (by omega)) | exact .inl (.inr (by assumption)) | exact .inr (by omega))
    by_cases k5 : k = 5
    · subst k5
      have okk : okV d (.mk 5 n t l) = (decide (0 ≤ n ∧ n ≤ 1000000000) && decide (t = ⟨#[]⟩) && decide (l.length = 0)) := by simp only [okV, d2]; rfl
      conv => whnf
      repeat' (first | refine OrdN.one ?_ | refine Fork.yp ?_ | refine Fork.np ?_ | refine Fork.ny ?_ | refine Fork.nn ?_ | refine Fork.yb ?_ | refine Fork.nb ?_ | refine Fork.dp (fun h => ?_) (fun h => ?_) | refine Fork.dn (fun h => ?_) (fun h => ?_) | (refine Fork.mk (fun h => ?_) (fun h => ?_) <;> simp only [decide_eq_true_eq, decide_eq_false_iff_not, Bool.not_eq_true', Bool.not_eq_false', Bool.or_eq_true, Bool.or_eq_false_iff] at h) | refine GetN.go ?_ | refine Need.ap1 ?_ | refine Need.ap0 ?_ | refine Need.go ?_ | refine Need.draw ?_ | refine ElemN.go ?_ | refine ExtN.ext ?_ | refine ExtN.wr ?_ | refine AllocN.go (fun l hl => ?_) | refine finGo ?_) <;> try (conv => whnf)
      all_goals first
        | exact key _ (by rw [okk]; simp only [Bool.and_eq_true, decide_eq_true_eq]; exact ⟨⟨by omega, by assumption⟩, by omega⟩)
        | exact key _ (by rw [okk]; simp only [Bool.and_eq_false_iff, decide_eq_false_iff_not]; first | exact .inl (.inl (by omega)) | exact .inl (.inr (by assumption)) | exact .inr (by omega))
    by_cases k6 : k = 6
    · subst k6
      have okk : okV d (.mk 6 n t l) = (decide (0 ≤ n ∧ n ≤ 1000000000) && decide (t = ⟨#[]⟩) && decide (l.length = 0)) := by simp only [okV, d2]; rfl
      conv => whnf
      repeat' (first | refine OrdN.one ?_ | refine Fork.yp ?_ | refine Fork.np ?_ | refine Fork.ny ?_ | refine Fork.nn ?_ | refine Fork.yb ?_ | refine Fork.nb ?_ | refine Fork.dp (fun h => ?_) (fun h => ?_) | refine Fork.dn (fun h => ?_) (fun h => ?_) | (refine Fork.mk (fun h => ?_) (fun h => ?_) <;> simp only [decide_eq_true_eq, decide_eq_false_iff_not, Bool.not_eq_true', Bool.not_eq_false', Bool.or_eq_true, Bool.or_eq_false_iff] at h) | refine GetN.go ?_ | refine Need.ap1 ?_ | refine Need.ap0 ?_ | refine Need.go ?_ | refine Need.draw ?_ | refine ElemN.go ?_ | refine ExtN.ext ?_ | refine ExtN.wr ?_ | refine AllocN.go (fun l hl => ?_) | refine finGo ?_) <;> try (conv => whnf)
      all_goals first
        | exact key _ (by rw [okk]; simp only [Bool.and_eq_true, decide_eq_true_eq]; exact ⟨⟨by omega, by assumption⟩, by omega⟩)
        | exact key _ (by rw [okk]; simp only [Bool.and_eq_false_iff, decide_eq_false_iff_not]; first | exact .inl (.inl (by omega)) | exact .inl (.inr (by assumption)) | exact .inr (by omega))
    by_cases k4 : k = 4
    · subst k4
      have okk : okV d (.mk 4 n t l) = (decide (n = 0) && decide (t = ⟨#[]⟩) && decide (l.length ≤ 6) && okL (d - 1) l) := by simp only [okV, d2]; rfl
      by_cases hn0 : n = 0
      case neg =>
        conv => whnf
        repeat' (first | refine OrdN.one ?_ | refine Fork.yp ?_ | refine Fork.np ?_ | refine Fork.ny ?_ | refine Fork.nn ?_ | refine Fork.yb ?_ | refine Fork.nb ?_ | refine Fork.dp (fun h => ?_) (fun h => ?_) | refine Fork.dn (fun h => ?_) (fun h => ?_) | (refine Fork.mk (fun h => ?_) (fun h => ?_) <;> simp only [decide_eq_true_eq, decide_eq_false_iff_not, Bool.not_eq_true', Bool.not_eq_false', Bool.or_eq_true, Bool.or_eq_false_iff] at h) | refine GetN.go ?_ | refine Need.ap1 ?_ | refine Need.ap0 ?_ | refine Need.go ?_ | refine Need.draw ?_ | refine ElemN.go ?_ | refine ExtN.ext ?_ | refine ExtN.wr ?_ | refine AllocN.go (fun l hl => ?_) | refine finGo ?_) <;> try (conv => whnf)
        exact key _ (by rw [okk, decide_eq_false hn0]; rfl)
      by_cases ht0 : t = ⟨#[]⟩
      case neg =>
        conv => whnf
        repeat' (first | refine OrdN.one ?_ | refine Fork.yp ?_ | refine Fork.np ?_ | refine Fork.ny ?_ | refine Fork.nn ?_ | refine Fork.yb ?_ | refine Fork.nb ?_ | refine Fork.dp (fun h => ?_) (fun h => ?_) | refine Fork.dn (fun h => ?_) (fun h => ?_) | (refine Fork.mk (fun h => ?_) (fun h => ?_) <;> simp only [decide_eq_true_eq, decide_eq_false_iff_not, Bool.not_eq_true', Bool.not_eq_false', Bool.or_eq_true, Bool.or_eq_false_iff] at h) | refine GetN.go ?_ | refine Need.ap1 ?_ | refine Need.ap0 ?_ | refine Need.go ?_ | refine Need.draw ?_ | refine ElemN.go ?_ | refine ExtN.ext ?_ | refine ExtN.wr ?_ | refine AllocN.go (fun l hl => ?_) | refine finGo ?_) <;> try (conv => whnf)
        exact key _ (by rw [okk, decide_eq_false ht0, Bool.and_false]; rfl)
      by_cases hl0 : l.length ≤ 6
      case neg =>
        conv => whnf
        repeat' (first | refine OrdN.one ?_ | refine Fork.yp ?_ | refine Fork.np ?_ | refine Fork.ny ?_ | refine Fork.nn ?_ | refine Fork.yb ?_ | refine Fork.nb ?_ | refine Fork.dp (fun h => ?_) (fun h => ?_) | refine Fork.dn (fun h => ?_) (fun h => ?_) | (refine Fork.mk (fun h => ?_) (fun h => ?_) <;> simp only [decide_eq_true_eq, decide_eq_false_iff_not, Bool.not_eq_true', Bool.not_eq_false', Bool.or_eq_true, Bool.or_eq_false_iff] at h) | refine GetN.go ?_ | refine Need.ap1 ?_ | refine Need.ap0 ?_ | refine Need.go ?_ | refine Need.draw ?_ | refine ElemN.go ?_ | refine ExtN.ext ?_ | refine ExtN.wr ?_ | refine AllocN.go (fun l hl => ?_) | refine finGo ?_) <;> try (conv => whnf)
        exact key _ (by rw [okk, decide_eq_false hl0, Bool.and_false]; rfl)
      rw [decide_eq_true hn0, decide_eq_true ht0, decide_eq_true hl0, Bool.true_and, Bool.true_and, Bool.true_and, okL_all] at okk
      conv => whnf
      repeat' (first | refine OrdN.one ?_ | refine Fork.yp ?_ | refine Fork.np ?_ | refine Fork.ny ?_ | refine Fork.nn ?_ | refine Fork.yb ?_ | refine Fork.nb ?_ | refine Fork.dp (fun h => ?_) (fun h => ?_) | refine Fork.dn (fun h => ?_) (fun h => ?_) | (refine Fork.mk (fun h => ?_) (fun h => ?_) <;> simp only [decide_eq_true_eq, decide_eq_false_iff_not, Bool.not_eq_true', Bool.not_eq_false', Bool.or_eq_true, Bool.or_eq_false_iff] at h) | refine GetN.go ?_ | refine Need.ap1 ?_ | refine Need.ap0 ?_ | refine Need.go ?_ | refine Need.draw ?_ | refine ElemN.go ?_ | refine ExtN.ext ?_ | refine ExtN.wr ?_ | refine AllocN.go (fun l hl => ?_) | refine finGo ?_) <;> try (conv => whnf)
      refine LoopN.rule (α := Nat) (fun i => ⟨136, [(1, i64 d), (2, .ptr (.f 2) 0), (4, .sc (.bool false)), (124, .vec (Val.cvs l)), (125, i64 (Val.cvs l).length), (126, i64 i)], [(2, .cells [i64 4, i64 n, .sc (.string t), .vec (Val.cvs l)])]⟩)
        (fun _ => σ) (fun i => l.length - i) (fun i => i ≤ l.length ∧ (l.take i).all (okV (d - 1)) = true) ?_ 0 ⟨Nat.zero_le _, rfl⟩ ?_
      · rintro i K ⟨h1, h2⟩ hK
        dsimp only at h1 h2 ⊢
        by_cases hi : i < l.length
        · obtain ⟨w, hm, hg, htk⟩ := cvs_get hi
          have hc := ih w hm (d := d - 1) (by omega) (by omega)
          have hK := hK (i + 1)
          cases hw : okV (d - 1) w with
          | true =>
            rw [hw] at hc
            obtain ⟨wk, wn, wt, wl⟩ := w
            conv => whnf
            repeat' (first | (refine CallN.one hc ?_) | refine OrdN.one ?_ | refine Fork.yp ?_ | refine Fork.np ?_ | refine Fork.ny ?_ | refine Fork.nn ?_ | refine Fork.yb ?_ | refine Fork.nb ?_ | refine Fork.dp (fun h => ?_) (fun h => ?_) | refine Fork.dn (fun h => ?_) (fun h => ?_) | (refine Fork.mk (fun h => ?_) (fun h => ?_) <;> simp only [decide_eq_true_eq, decide_eq_false_iff_not, Bool.not_eq_true', Bool.not_eq_false', Bool.or_eq_true, Bool.or_eq_false_iff] at h) | refine GetN.go ?_ | refine Need.ap1 ?_ | refine Need.ap0 ?_ | refine Need.go ?_ | refine Need.draw ?_ | refine ElemN.go ?_ | refine ExtN.ext ?_ | refine ExtN.wr ?_ | refine AllocN.go (fun l hl => ?_) | refine finGo ?_) <;> try (conv => whnf)
            refine hK _ _ ⟨by omega, by rw [htk, List.all_append, h2]; simp [hw]⟩ (by omega) ?_
            (refine ⟨rfl, ?_, ?_, Sub.refl _⟩ <;> repeat' (first | exact EnvLe.nil | exact LocsLe.nil | refine EnvLe.cons _ _ _ ?_ ?_ | refine LocsLe.cons _ _ _ ?_ ?_ | exact CVle.same _ rfl | exact CVle.vec _ _ | exact CVle.nil | exact CVle.tok _ _ _ rfl rfl | exact ObLe.tok _ _ rfl | exact CVles.nil | refine CVles.cons ?_ ?_ | exact ObLe.same _ rfl rfl | refine ObLe.cells rfl ?_))
          | false =>
            rw [hw] at hc
            have hno : okV d (.mk 4 n t l) = false := by rw [okk, List.all_eq_false]; exact ⟨w, hm, by simp [hw]⟩
            obtain ⟨wk, wn, wt, wl⟩ := w
            conv => whnf
            repeat' (first | (refine CallN.one hc ?_) | refine OrdN.one ?_ | refine Fork.yp ?_ | refine Fork.np ?_ | refine Fork.ny ?_ | refine Fork.nn ?_ | refine Fork.yb ?_ | refine Fork.nb ?_ | refine Fork.dp (fun h => ?_) (fun h => ?_) | refine Fork.dn (fun h => ?_) (fun h => ?_) | (refine Fork.mk (fun h => ?_) (fun h => ?_) <;> simp only [decide_eq_true_eq, decide_eq_false_iff_not, Bool.not_eq_true', Bool.not_eq_false', Bool.or_eq_true, Bool.or_eq_false_iff] at h) | refine GetN.go ?_ | refine Need.ap1 ?_ | refine Need.ap0 ?_ | refine Need.go ?_ | refine Need.draw ?_ | refine ElemN.go ?_ | refine ExtN.ext ?_ | refine ExtN.wr ?_ | refine AllocN.go (fun l hl => ?_) | refine finGo ?_) <;> try (conv => whnf)
            exact key _ hno
        · conv => whnf
          repeat' (first | refine OrdN.one ?_ | refine Fork.yp ?_ | refine Fork.np ?_ | refine Fork.ny ?_ | refine Fork.nn ?_ | refine Fork.yb ?_ | refine Fork.nb ?_ | refine Fork.dp (fun h => ?_) (fun h => ?_) | refine Fork.dn (fun h => ?_) (fun h => ?_) | (refine Fork.mk (fun h => ?_) (fun h => ?_) <;> simp only [decide_eq_true_eq, decide_eq_false_iff_not, Bool.not_eq_true', Bool.not_eq_false', Bool.or_eq_true, Bool.or_eq_false_iff] at h) | refine GetN.go ?_ | refine Need.ap1 ?_ | refine Need.ap0 ?_ | refine Need.go ?_ | refine Need.draw ?_ | refine ElemN.go ?_ | refine ExtN.ext ?_ | refine ExtN.wr ?_ | refine AllocN.go (fun l hl => ?_) | refine finGo ?_) <;> try (conv => whnf)
          have : l.take i = l := List.take_of_length_le (by omega)
          rw [this] at h2
          exact key _ (by rw [okk, h2])
      · (refine ⟨rfl, ?_, ?_, Sub.refl _⟩ <;> repeat' (first | exact EnvLe.nil | exact LocsLe.nil | refine EnvLe.cons _ _ _ ?_ ?_ | refine LocsLe.cons _ _ _ ?_ ?_ | exact CVle.same _ rfl | exact CVle.vec _ _ | exact CVle.nil | exact CVle.tok _ _ _ rfl rfl | exact ObLe.tok _ _ rfl | exact CVles.nil | refine CVles.cons ?_ ?_ | exact ObLe.same _ rfl rfl | refine ObLe.cells rfl ?_))
    · conv => whnf
      repeat' (first | refine OrdN.one ?_ | refine Fork.yp ?_ | refine Fork.np ?_ | refine Fork.ny ?_ | refine Fork.nn ?_ | refine Fork.yb ?_ | refine Fork.nb ?_ | refine Fork.dp (fun h => ?_) (fun h => ?_) | refine Fork.dn (fun h => ?_) (fun h => ?_) | (refine Fork.mk (fun h => ?_) (fun h => ?_) <;> simp only [decide_eq_true_eq, decide_eq_false_iff_not, Bool.not_eq_true', Bool.not_eq_false', Bool.or_eq_true, Bool.or_eq_false_iff] at h) | refine GetN.go ?_ | refine Need.ap1 ?_ | refine Need.ap0 ?_ | refine Need.go ?_ | refine Need.draw ?_ | refine ElemN.go ?_ | refine ExtN.ext ?_ | refine ExtN.wr ?_ | refine AllocN.go (fun l hl => ?_) | refine finGo ?_) <;> try (conv => whnf)
      all_goals exact key _ (by simp only [okV, d2]; rw [if_neg k0, if_neg k1, if_neg k2, if_neg k3, if_neg (by omega), if_neg k4]; rfl)
theorem in_n {σ : Heap} {n lo hi : Int} : CRun Tryz.prog 40 [i64 n, i64 lo, i64 hi] σ (fun out => ((lo ≤ n ∧ n ≤ hi) ∧ out = .ret (.sc (.bool true)) σ) ∨ (¬ (lo ≤ n ∧ n ≤ hi) ∧ out = .ret (.sc (.bool false)) σ)) :=
  in_c.mono fun out h => by
    by_cases hr : lo ≤ n ∧ n ≤ hi
    · rw [decide_eq_true hr] at h; exact .inl ⟨hr, h⟩
    · rw [decide_eq_false hr] at h; exact .inr ⟨hr, h⟩
theorem implOk_c {σ : Heap} {v : Val} (hv : Tame v) : CRun Tryz.prog 74 [v.cv] σ (· = .ret (.sc (.bool (okV 3 v))) σ) := by
  refine crun_of (X := X) X_ok X_sat (body := bodyOf Tryz.f74) Tryz.func74 rfl (by kernel_rfl) (by kernel_rfl) ?_
  rw [Tryz.ntmps74]
  have hc := fits_c (σ := σ) hv (d := 3) (by omega) (by omega)
  obtain ⟨k, n, t, l⟩ := v
  conv => whnf
  repeat' (first | (refine CallN.one hc ?_) | refine OrdN.one ?_ | refine Fork.yp ?_ | refine Fork.np ?_ | refine Fork.ny ?_ | refine Fork.nn ?_ | refine Fork.yb ?_ | refine Fork.nb ?_ | refine Fork.dp (fun h => ?_) (fun h => ?_) | refine Fork.dn (fun h => ?_) (fun h => ?_) | (refine Fork.mk (fun h => ?_) (fun h => ?_) <;> simp only [decide_eq_true_eq, decide_eq_false_iff_not, Bool.not_eq_true', Bool.not_eq_false', Bool.or_eq_true, Bool.or_eq_false_iff] at h) | refine GetN.go ?_ | refine Need.ap1 ?_ | refine Need.ap0 ?_ | refine Need.go ?_ | refine Need.draw ?_ | refine ElemN.go ?_ | refine ExtN.ext ?_ | refine ExtN.wr ?_ | refine AllocN.go (fun l hl => ?_) | refine finGo ?_) <;> try (conv => whnf)
theorem ansI {a b : Int} {σ : Heap} (h : b = a) : COut.ret (i64 a) σ = .ret (i64 b) σ := by rw [h]
theorem cvs_at {l : List Val} {i : Nat} (hi : i < l.length) : ∃ v, v ∈ l ∧ l[i]? = some v ∧ (Val.cvs l)[i]? = some (Val.cv v) := by
  refine ⟨l[i], List.getElem_mem hi, List.getElem?_eq_getElem hi, ?_⟩
  rw [cvs_map, List.getElem?_map, List.getElem?_eq_getElem hi]; rfl
end Go.Proofs.YtoikelghjenndaaGreatDoor
namespace Go.Proofs.YtoikelghjenndaaGreatDoor
open Go Go.CL
set_option maxRecDepth 100000
theorem MethN.of {P : Program} {t : TypeId} {name : String} {k : FuncId → Prop} {f : FuncId} (h : MethodIs P t name f) (hk : k f) : MethN P t name k := ⟨⟨f, h, hk⟩⟩
end Go.Proofs.YtoikelghjenndaaGreatDoor
namespace Go.Proofs.YtoikelghjenndaaGreatDoor
open Go Go.CL
set_option maxRecDepth 10000
theorem fin {f : FuncId} {args : List CV} {σ : Heap} {r q : Int} (h : CRun Tryz.prog f args σ (· = .ret (i64 r) σ)) (e : q = r) : CRun Tryz.prog f args σ (· = .ret (i64 q) σ) := e ▸ h
theorem okV_kind {d k n : Int} {t : ByteArray} {l : List Val} (h : okV d (.mk k n t l) = true) : (k = 0 ∧ n = 0) ∨ k = 1 ∨ k = 2 ∨ k = 3 ∨ k = 4 ∨ k = 5 ∨ k = 6 := by
  simp only [okV, Bool.and_eq_true] at h
  obtain ⟨_, h⟩ := h
  by_cases h0 : k = 0
  · subst h0
    rw [if_pos rfl] at h
    simp only [Bool.and_eq_true, decide_eq_true_eq] at h
    exact .inl ⟨rfl, h.1.1⟩
  by_cases h1 : k = 1
  · exact .inr (.inl h1)
  by_cases h2 : k = 2
  · exact .inr (.inr (.inl h2))
  by_cases h3 : k = 3
  · exact .inr (.inr (.inr (.inl h3)))
  by_cases h4 : k = 4
  · exact .inr (.inr (.inr (.inr (.inl h4))))
  by_cases h5 : k = 5
  · exact .inr (.inr (.inr (.inr (.inr (.inl h5)))))
  by_cases h6 : k = 6
  · exact .inr (.inr (.inr (.inr (.inr (.inr h6)))))
  · rw [if_neg h0, if_neg h1, if_neg h2, if_neg h3, if_neg (by omega), if_neg h4] at h
    cases h
theorem okV_list {d n : Int} {t : ByteArray} {l : List Val} (h : okV d (.mk 4 n t l) = true) : ∀ v ∈ l, okV (d - 1) v = true := by
  have okk : okV d (.mk 4 n t l) = (decide (1 ≤ d) && (decide (n = 0) && decide (t = ⟨#[]⟩) && decide (l.length ≤ 6) && okL (d - 1) l)) := by simp only [okV]; rfl
  rw [okk, okL_all] at h
  simp only [Bool.and_eq_true, List.all_eq_true] at h
  exact fun v hv => h.2.2 v hv
theorem toList_inj {s t : ByteArray} (h : s.toList = t.toList) : s = t := by
  have e := bytes_toList_eq s t
  rw [h] at e
  simpa using e.symm
theorem okV_num {k : Int} {d n : Int} {t : ByteArray} {l : List Val} (ha : okV d (.mk k n t l) = true) (h3 : k ≠ 3) (h4 : k ≠ 4) : t = ⟨#[]⟩ ∧ l = [] := by
  simp only [okV, Bool.and_eq_true] at ha
  obtain ⟨_, h⟩ := ha
  by_cases h0 : k = 0
  · rw [if_pos h0] at h; simp only [Bool.and_eq_true, decide_eq_true_eq] at h; exact ⟨h.1.2, List.length_eq_zero_iff.1 h.2⟩
  rw [if_neg h0] at h
  by_cases h1 : k = 1
  · rw [if_pos h1] at h; simp only [Bool.and_eq_true, decide_eq_true_eq] at h; exact ⟨h.1.2, List.length_eq_zero_iff.1 h.2⟩
  rw [if_neg h1] at h
  by_cases h2 : k = 2
  · rw [if_pos h2] at h; simp only [Bool.and_eq_true, decide_eq_true_eq] at h; exact ⟨h.1.2, List.length_eq_zero_iff.1 h.2⟩
  rw [if_neg h2, if_neg h3] at h
  by_cases h5 : k = 5 ∨ k = 6
  · rw [if_pos h5] at h; simp only [Bool.and_eq_true, decide_eq_true_eq] at h; exact ⟨h.1.2, List.length_eq_zero_iff.1 h.2⟩
  · rw [if_neg h5, if_neg h4] at h; cases h
theorem okV_text {d n : Int} {t : ByteArray} {l : List Val} (ha : okV d (.mk 3 n t l) = true) : n = 0 ∧ l = [] := by
  have e : okV d (.mk 3 n t l) = (decide (1 ≤ d) && (decide (n = 0) && textOk t && decide (l.length = 0))) := by simp only [okV]; rfl
  rw [e] at ha
  simp only [Bool.and_eq_true, decide_eq_true_eq] at ha
  exact ⟨ha.2.1.1, List.length_eq_zero_iff.1 ha.2.2⟩
end Go.Proofs.YtoikelghjenndaaGreatDoor
