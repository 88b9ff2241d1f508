/-
  Contracts of the functions that the law reaches.
-/
import Derived.Test.YthllnbfkfobcjaaGreatFwa
import Derived.Test.YthllnbfkfobcjaaGreatProg
import Derived.KernelRfl
import Derived.Test.YthllnbfkfobcjaaGreatFwb
set_option linter.unusedVariables false
set_option linter.unusedSimpArgs false
namespace Go.Proofs.YthllnbfkfobcjaaGreat
open Go Go.CL
noncomputable def tt : List (Nat × TI) := [
  (0, { size := 1, bytes := 0, isAgg := false, hz := false, zero := [CV.sc (Value.tuple { toList := [] })], fields := [], fok := false, elem := 0, sl := false, ik := none, conc := true, str := false, bl := false, ptr := false, ife := false, mkv := none }),
  (1, { size := 1, bytes := 8, isAgg := false, hz := true, zero := [CV.sc Value.nilFunc], fields := [], fok := false, elem := 0, sl := false, ik := none, conc := true, str := false, bl := false, ptr := false, ife := false, mkv := none }),
  (2, { size := 1, bytes := 8, isAgg := false, hz := true, zero := [CV.sc (Value.int IntKind.i64 0)], fields := [], fok := false, elem := 0, sl := false, ik := some IntKind.i64, conc := true, str := false, bl := false, ptr := false, ife := false, mkv := none }),
  (3, { size := 1, bytes := 8, isAgg := false, hz := true, zero := [CV.sc (Value.int IntKind.i64 0)], fields := [], fok := false, elem := 0, sl := false, ik := some IntKind.i64, conc := true, str := false, bl := false, ptr := false, ife := false, mkv := none }),
  (4, { size := 1, bytes := 1, isAgg := false, hz := true, zero := [CV.sc (Value.bool false)], fields := [], fok := false, elem := 0, sl := false, ik := none, conc := true, str := false, bl := true, ptr := false, ife := false, mkv := none }),
  (5, { size := 1, bytes := 1, isAgg := false, hz := true, zero := [CV.sc (Value.int IntKind.u8 0)], fields := [], fok := false, elem := 0, sl := false, ik := some IntKind.u8, conc := true, str := false, bl := false, ptr := false, ife := false, mkv := none }),
  (6, { size := 1, bytes := 1, isAgg := false, hz := true, zero := [CV.sc (Value.int IntKind.u8 0)], fields := [], fok := false, elem := 0, sl := false, ik := some IntKind.u8, conc := true, str := false, bl := false, ptr := false, ife := false, mkv := none }),
  (7, { size := 4, bytes := 24, isAgg := true, hz := true, zero := [CV.sc (Value.int IntKind.i64 0), CV.sc (Value.int IntKind.i64 0), CV.sc (Value.bool false), CV.sc (Value.int IntKind.u8 0)], fields := [(0, 2, 1), (1, 3, 1), (2, 4, 1), (3, 6, 1)], fok := true, elem := 0, sl := false, ik := none, conc := true, str := false, bl := false, ptr := false, ife := false, mkv := none }),
  (8, { size := 4, bytes := 24, isAgg := true, hz := true, zero := [CV.sc (Value.int IntKind.i64 0), CV.sc (Value.int IntKind.i64 0), CV.sc (Value.bool false), CV.sc (Value.int IntKind.u8 0)], fields := [(0, 2, 1), (1, 3, 1), (2, 4, 1), (3, 6, 1)], fok := true, elem := 0, sl := false, ik := none, conc := true, str := false, bl := false, ptr := false, ife := false, mkv := none }),
  (9, { size := 1, bytes := 16, isAgg := false, hz := true, zero := [CV.sc (Value.string { data := { toList := [] } })], fields := [], fok := false, elem := 0, sl := false, ik := none, conc := true, str := true, bl := false, ptr := false, ife := false, mkv := none }),
  (10, { size := 1, bytes := 16, isAgg := false, hz := true, zero := [CV.sc (Value.string { data := { toList := [] } })], fields := [], fok := false, elem := 0, sl := false, ik := none, conc := true, str := true, bl := false, ptr := false, ife := false, mkv := none }),
  (11, { size := 1, bytes := 16, isAgg := false, hz := true, zero := [CV.sc (Value.string { data := { toList := [] } })], fields := [], fok := false, elem := 0, sl := false, ik := none, conc := true, str := true, bl := false, ptr := false, ife := false, mkv := none }),
  (12, { size := 1, bytes := 8, isAgg := false, hz := true, zero := [CV.sc (Value.int IntKind.u64 0)], fields := [], fok := false, elem := 0, sl := false, ik := some IntKind.u64, conc := true, str := false, bl := false, ptr := false, ife := false, mkv := none }),
  (13, { size := 2, bytes := 24, isAgg := true, hz := true, zero := [CV.sc (Value.string { data := { toList := [] } }), CV.sc (Value.int IntKind.u64 0)], fields := [(0, 9, 1), (1, 12, 1)], fok := true, elem := 0, sl := false, ik := none, conc := true, str := false, bl := false, ptr := false, ife := false, mkv := none }),
  (14, { size := 2, bytes := 24, isAgg := true, hz := true, zero := [CV.sc (Value.string { data := { toList := [] } }), CV.sc (Value.int IntKind.u64 0)], fields := [(0, 9, 1), (1, 12, 1)], fok := true, elem := 0, sl := false, ik := none, conc := true, str := false, bl := false, ptr := false, ife := false, mkv := none }),
  (15, { size := 1, bytes := 8, isAgg := false, hz := true, zero := [CV.sc (Value.pointer none)], fields := [], fok := false, elem := 255, sl := false, ik := none, conc := true, str := false, bl := false, ptr := true, ife := false, mkv := none }),
  (16, { size := 1, bytes := 8, isAgg := false, hz := true, zero := [CV.sc (Value.pointer none)], fields := [], fok := false, elem := 258, sl := false, ik := none, conc := true, str := false, bl := false, ptr := true, ife := false, mkv := none }),
  (17, { size := 1, bytes := 8, isAgg := false, hz := true, zero := [CV.sc (Value.pointer none)], fields := [], fok := false, elem := 267, sl := false, ik := none, conc := true, str := false, bl := false, ptr := true, ife := false, mkv := none }),
  (18, { size := 1, bytes := 8, isAgg := true, hz := true, zero := [CV.sc (Value.pointer none)], fields := [(0, 17, 1)], fok := true, elem := 0, sl := false, ik := none, conc := true, str := false, bl := false, ptr := false, ife := false, mkv := none }),
  (19, { size := 1, bytes := 8, isAgg := true, hz := true, zero := [CV.sc (Value.pointer none)], fields := [(0, 17, 1)], fok := true, elem := 0, sl := false, ik := none, conc := true, str := false, bl := false, ptr := false, ife := false, mkv := none }),
  (20, { size := 1, bytes := 16, isAgg := false, hz := true, zero := [CV.sc Value.nilIface], fields := [], fok := false, elem := 0, sl := false, ik := none, conc := false, str := false, bl := false, ptr := false, ife := true, mkv := none }),
  (21, { size := 1, bytes := 4, isAgg := false, hz := true, zero := [CV.sc (Value.int IntKind.i32 0)], fields := [], fok := false, elem := 0, sl := false, ik := some IntKind.i32, conc := true, str := false, bl := false, ptr := false, ife := false, mkv := none }),
  (22, { size := 1, bytes := 24, isAgg := false, hz := true, zero := [CV.nil], fields := [], fok := false, elem := 5, sl := true, ik := none, conc := true, str := false, bl := false, ptr := false, ife := false, mkv := none }),
  (23, { size := 1, bytes := 24, isAgg := false, hz := true, zero := [CV.nil], fields := [], fok := false, elem := 110, sl := true, ik := none, conc := true, str := false, bl := false, ptr := false, ife := false, mkv := none }),
  (24, { size := 1, bytes := 24, isAgg := false, hz := true, zero := [CV.nil], fields := [], fok := false, elem := 107, sl := true, ik := none, conc := true, str := false, bl := false, ptr := false, ife := false, mkv := none }),
  (25, { size := 4, bytes := 64, isAgg := true, hz := true, zero := [CV.nil, CV.nil, CV.sc (Value.int IntKind.i64 0), CV.sc (Value.int IntKind.i64 0)], fields := [(0, 23, 1), (1, 24, 1), (2, 3, 1), (3, 3, 1)], fok := true, elem := 0, sl := false, ik := none, conc := true, str := false, bl := false, ptr := false, ife := false, mkv := none }),
  (26, { size := 4, bytes := 64, isAgg := true, hz := true, zero := [CV.nil, CV.nil, CV.sc (Value.int IntKind.i64 0), CV.sc (Value.int IntKind.i64 0)], fields := [(0, 23, 1), (1, 24, 1), (2, 3, 1), (3, 3, 1)], fok := true, elem := 0, sl := false, ik := none, conc := true, str := false, bl := false, ptr := false, ife := false, mkv := none }),
  (27, { size := 1, bytes := 24, isAgg := false, hz := true, zero := [CV.nil], fields := [], fok := false, elem := 44, sl := true, ik := none, conc := true, str := false, bl := false, ptr := false, ife := false, mkv := none }),
  (28, { size := 1, bytes := 24, isAgg := false, hz := true, zero := [CV.nil], fields := [], fok := false, elem := 30, sl := true, ik := none, conc := true, str := false, bl := false, ptr := false, ife := false, mkv := none }),
  (29, { size := 4, bytes := 56, isAgg := true, hz := true, zero := [CV.sc (Value.int IntKind.i64 0), CV.sc (Value.int IntKind.i64 0), CV.sc (Value.string { data := { toList := [] } }), CV.nil], fields := [(0, 3, 1), (1, 3, 1), (2, 9, 1), (3, 28, 1)], fok := true, elem := 0, sl := false, ik := none, conc := true, str := false, bl := false, ptr := false, ife := false, mkv := none }),
  (30, { size := 4, bytes := 56, isAgg := true, hz := true, zero := [CV.sc (Value.int IntKind.i64 0), CV.sc (Value.int IntKind.i64 0), CV.sc (Value.string { data := { toList := [] } }), CV.nil], fields := [(0, 3, 1), (1, 3, 1), (2, 9, 1), (3, 28, 1)], fok := true, elem := 0, sl := false, ik := none, conc := true, str := false, bl := false, ptr := false, ife := false, mkv := none }),
  (31, { size := 1, bytes := 24, isAgg := false, hz := true, zero := [CV.nil], fields := [], fok := false, elem := 33, sl := true, ik := none, conc := true, str := false, bl := false, ptr := false, ife := false, mkv := none }),
  (32, { size := 8, bytes := 120, isAgg := true, hz := true, zero := [CV.sc (Value.int IntKind.i64 0), CV.sc (Value.int IntKind.i64 0), CV.sc (Value.int IntKind.i64 0), CV.sc (Value.string { data := { toList := [] } }), CV.nil, CV.sc (Value.string { data := { toList := [] } }), CV.sc (Value.string { data := { toList := [] } }), CV.nil], fields := [(0, 3, 1), (1, 30, 4), (5, 9, 1), (6, 9, 1), (7, 31, 1)], fok := true, elem := 0, sl := false, ik := none, conc := true, str := false, bl := false, ptr := false, ife := false, mkv := none }),
  (33, { size := 8, bytes := 120, isAgg := true, hz := true, zero := [CV.sc (Value.int IntKind.i64 0), CV.sc (Value.int IntKind.i64 0), CV.sc (Value.int IntKind.i64 0), CV.sc (Value.string { data := { toList := [] } }), CV.nil, CV.sc (Value.string { data := { toList := [] } }), CV.sc (Value.string { data := { toList := [] } }), CV.nil], fields := [(0, 3, 1), (1, 30, 4), (5, 9, 1), (6, 9, 1), (7, 31, 1)], fok := true, elem := 0, sl := false, ik := none, conc := true, str := false, bl := false, ptr := false, ife := false, mkv := none }),
  (34, { size := 1, bytes := 0, isAgg := false, hz := false, zero := [CV.sc (Value.tuple { toList := [Value.agg { toList := [Value.slice none 0 0, Value.slice none 0 0, Value.int IntKind.i64 0, Value.int IntKind.i64 0] }, Value.slice none 0 0, Value.slice none 0 0, Value.agg { toList := [Value.int IntKind.i64 0, Value.int IntKind.i64 0, Value.int IntKind.i64 0, Value.string { data := { toList := [] } }, Value.slice none 0 0, Value.string { data := { toList := [] } }, Value.string { data := { toList := [] } }, Value.slice none 0 0] }] })], fields := [], fok := false, elem := 0, sl := false, ik := none, conc := true, str := false, bl := false, ptr := false, ife := false, mkv := none }),
  (35, { size := 1, bytes := 8, isAgg := false, hz := true, zero := [CV.sc Value.nilFunc], fields := [], fok := false, elem := 0, sl := false, ik := none, conc := true, str := false, bl := false, ptr := false, ife := false, mkv := none }),
  (36, { size := 1, bytes := 24, isAgg := false, hz := true, zero := [CV.nil], fields := [], fok := false, elem := 9, sl := true, ik := none, conc := true, str := false, bl := false, ptr := false, ife := false, mkv := none }),
  (38, { size := 1, bytes := 0, isAgg := false, hz := false, zero := [CV.sc (Value.tuple { toList := [Value.agg { toList := [Value.int IntKind.i64 0, Value.int IntKind.i64 0, Value.string { data := { toList := [] } }, Value.slice none 0 0] }, Value.int IntKind.i64 0] })], fields := [], fok := false, elem := 0, sl := false, ik := none, conc := true, str := false, bl := false, ptr := false, ife := false, mkv := none }),
  (39, { size := 1, bytes := 8, isAgg := false, hz := true, zero := [CV.sc Value.nilFunc], fields := [], fok := false, elem := 0, sl := false, ik := none, conc := true, str := false, bl := false, ptr := false, ife := false, mkv := none }),
  (41, { size := 1, bytes := 8, isAgg := false, hz := true, zero := [CV.sc Value.nilFunc], fields := [], fok := false, elem := 0, sl := false, ik := none, conc := true, str := false, bl := false, ptr := false, ife := false, mkv := none }),
  (43, { size := 5, bytes := 72, isAgg := true, hz := true, zero := [CV.sc (Value.string { data := { toList := [] } }), CV.sc (Value.int IntKind.i64 0), CV.sc (Value.int IntKind.i64 0), CV.sc (Value.string { data := { toList := [] } }), CV.nil], fields := [(0, 9, 1), (1, 30, 4)], fok := true, elem := 0, sl := false, ik := none, conc := true, str := false, bl := false, ptr := false, ife := false, mkv := none }),
  (44, { size := 5, bytes := 72, isAgg := true, hz := true, zero := [CV.sc (Value.string { data := { toList := [] } }), CV.sc (Value.int IntKind.i64 0), CV.sc (Value.int IntKind.i64 0), CV.sc (Value.string { data := { toList := [] } }), CV.nil], fields := [(0, 9, 1), (1, 30, 4)], fok := true, elem := 0, sl := false, ik := none, conc := true, str := false, bl := false, ptr := false, ife := false, mkv := none }),
  (45, { size := 1, bytes := 8, isAgg := false, hz := true, zero := [CV.sc Value.nilFunc], fields := [], fok := false, elem := 0, sl := false, ik := none, conc := true, str := false, bl := false, ptr := false, ife := false, mkv := none }),
  (46, { size := 1, bytes := 8, isAgg := false, hz := true, zero := [CV.sc Value.nilFunc], fields := [], fok := false, elem := 0, sl := false, ik := none, conc := true, str := false, bl := false, ptr := false, ife := false, mkv := none }),
  (60, { size := 1, bytes := 8, isAgg := false, hz := true, zero := [CV.sc Value.nilFunc], fields := [], fok := false, elem := 0, sl := false, ik := none, conc := true, str := false, bl := false, ptr := false, ife := false, mkv := none }),
  (61, { size := 1, bytes := 8, isAgg := false, hz := true, zero := [CV.sc (Value.pointer none)], fields := [], fok := false, elem := 100, sl := false, ik := none, conc := true, str := false, bl := false, ptr := true, ife := false, mkv := none }),
  (62, { size := 1, bytes := 8, isAgg := false, hz := true, zero := [CV.sc Value.nilFunc], fields := [], fok := false, elem := 0, sl := false, ik := none, conc := true, str := false, bl := false, ptr := false, ife := false, mkv := none }),
  (63, { size := 1, bytes := 8, isAgg := false, hz := true, zero := [CV.sc Value.nilFunc], fields := [], fok := false, elem := 0, sl := false, ik := none, conc := true, str := false, bl := false, ptr := false, ife := false, mkv := none }),
  (64, { size := 1, bytes := 8, isAgg := false, hz := true, zero := [CV.sc Value.nilFunc], fields := [], fok := false, elem := 0, sl := false, ik := none, conc := true, str := false, bl := false, ptr := false, ife := false, mkv := none }),
  (65, { size := 1, bytes := 8, isAgg := false, hz := true, zero := [CV.sc Value.nilFunc], fields := [], fok := false, elem := 0, sl := false, ik := none, conc := true, str := false, bl := false, ptr := false, ife := false, mkv := none }),
  (66, { size := 1, bytes := 8, isAgg := false, hz := true, zero := [CV.sc Value.nilFunc], fields := [], fok := false, elem := 0, sl := false, ik := none, conc := true, str := false, bl := false, ptr := false, ife := false, mkv := none }),
  (67, { size := 1, bytes := 8, isAgg := false, hz := true, zero := [CV.sc Value.nilFunc], fields := [], fok := false, elem := 0, sl := false, ik := none, conc := true, str := false, bl := false, ptr := false, ife := false, mkv := none }),
  (68, { size := 1, bytes := 8, isAgg := false, hz := true, zero := [CV.sc Value.nilFunc], fields := [], fok := false, elem := 0, sl := false, ik := none, conc := true, str := false, bl := false, ptr := false, ife := false, mkv := none }),
  (69, { size := 1, bytes := 8, isAgg := false, hz := true, zero := [CV.sc Value.nilFunc], fields := [], fok := false, elem := 0, sl := false, ik := none, conc := true, str := false, bl := false, ptr := false, ife := false, mkv := none }),
  (70, { size := 1, bytes := 8, isAgg := false, hz := true, zero := [CV.sc Value.nilFunc], fields := [], fok := false, elem := 0, sl := false, ik := none, conc := true, str := false, bl := false, ptr := false, ife := false, mkv := none }),
  (71, { size := 1, bytes := 8, isAgg := false, hz := true, zero := [CV.sc Value.nilFunc], fields := [], fok := false, elem := 0, sl := false, ik := none, conc := true, str := false, bl := false, ptr := false, ife := false, mkv := none }),
  (72, { size := 1, bytes := 8, isAgg := false, hz := true, zero := [CV.sc Value.nilFunc], fields := [], fok := false, elem := 0, sl := false, ik := none, conc := true, str := false, bl := false, ptr := false, ife := false, mkv := none }),
  (73, { size := 1, bytes := 8, isAgg := false, hz := true, zero := [CV.sc Value.nilFunc], fields := [], fok := false, elem := 0, sl := false, ik := none, conc := true, str := false, bl := false, ptr := false, ife := false, mkv := none }),
  (74, { size := 6, bytes := 112, isAgg := true, hz := true, zero := [CV.nil, CV.nil, CV.sc (Value.int IntKind.i64 0), CV.sc (Value.int IntKind.i64 0), CV.nil, CV.nil], fields := [(0, 26, 4), (4, 27, 1), (5, 27, 1)], fok := true, elem := 0, sl := false, ik := none, conc := true, str := false, bl := false, ptr := false, ife := false, mkv := none }),
  (75, { size := 6, bytes := 112, isAgg := true, hz := true, zero := [CV.nil, CV.nil, CV.sc (Value.int IntKind.i64 0), CV.sc (Value.int IntKind.i64 0), CV.nil, CV.nil], fields := [(0, 26, 4), (4, 27, 1), (5, 27, 1)], fok := true, elem := 0, sl := false, ik := none, conc := true, str := false, bl := false, ptr := false, ife := false, mkv := none }),
  (77, { size := 1, bytes := 8, isAgg := false, hz := true, zero := [CV.sc Value.nilFunc], fields := [], fok := false, elem := 0, sl := false, ik := none, conc := true, str := false, bl := false, ptr := false, ife := false, mkv := none }),
  (79, { size := 1, bytes := 8, isAgg := false, hz := true, zero := [CV.sc (Value.map none)], fields := [], fok := false, elem := 0, sl := false, ik := none, conc := true, str := false, bl := false, ptr := false, ife := false, mkv := some (9, 3) }),
  (82, { size := 1, bytes := 8, isAgg := false, hz := true, zero := [CV.sc Value.nilFunc], fields := [], fok := false, elem := 0, sl := false, ik := none, conc := true, str := false, bl := false, ptr := false, ife := false, mkv := none }),
  (84, { size := 1, bytes := 8, isAgg := false, hz := true, zero := [CV.sc Value.nilFunc], fields := [], fok := false, elem := 0, sl := false, ik := none, conc := true, str := false, bl := false, ptr := false, ife := false, mkv := none }),
  (98, { size := 1, bytes := 8, isAgg := false, hz := true, zero := [CV.sc Value.nilFunc], fields := [], fok := false, elem := 0, sl := false, ik := none, conc := true, str := false, bl := false, ptr := false, ife := false, mkv := none }),
  (99, { size := 2, bytes := 32, isAgg := true, hz := true, zero := [CV.nil, CV.sc (Value.int IntKind.i64 0)], fields := [(0, 22, 1), (1, 3, 1)], fok := true, elem := 0, sl := false, ik := none, conc := true, str := false, bl := false, ptr := false, ife := false, mkv := none }),
  (100, { size := 2, bytes := 32, isAgg := true, hz := true, zero := [CV.nil, CV.sc (Value.int IntKind.i64 0)], fields := [(0, 22, 1), (1, 3, 1)], fok := true, elem := 0, sl := false, ik := none, conc := true, str := false, bl := false, ptr := false, ife := false, mkv := none }),
  (101, { size := 1, bytes := 8, isAgg := false, hz := true, zero := [CV.sc Value.nilFunc], fields := [], fok := false, elem := 0, sl := false, ik := none, conc := true, str := false, bl := false, ptr := false, ife := false, mkv := none }),
  (102, { size := 1, bytes := 8, isAgg := false, hz := true, zero := [CV.sc Value.nilFunc], fields := [], fok := false, elem := 0, sl := false, ik := none, conc := true, str := false, bl := false, ptr := false, ife := false, mkv := none }),
  (103, { size := 1, bytes := 8, isAgg := false, hz := true, zero := [CV.sc Value.nilFunc], fields := [], fok := false, elem := 0, sl := false, ik := none, conc := true, str := false, bl := false, ptr := false, ife := false, mkv := none }),
  (104, { size := 1, bytes := 24, isAgg := false, hz := true, zero := [CV.nil], fields := [], fok := false, elem := 3, sl := true, ik := none, conc := true, str := false, bl := false, ptr := false, ife := false, mkv := none }),
  (105, { size := 1, bytes := 24, isAgg := false, hz := true, zero := [CV.nil], fields := [], fok := false, elem := 178, sl := true, ik := none, conc := true, str := false, bl := false, ptr := false, ife := false, mkv := none }),
  (106, { size := 5, bytes := 64, isAgg := true, hz := true, zero := [CV.sc (Value.int IntKind.i64 0), CV.sc (Value.string { data := { toList := [] } }), CV.sc (Value.int IntKind.i64 0), CV.sc (Value.int IntKind.i64 0), CV.nil], fields := [(0, 3, 1), (1, 9, 1), (2, 3, 1), (3, 3, 1), (4, 105, 1)], fok := true, elem := 0, sl := false, ik := none, conc := true, str := false, bl := false, ptr := false, ife := false, mkv := none }),
  (107, { size := 5, bytes := 64, isAgg := true, hz := true, zero := [CV.sc (Value.int IntKind.i64 0), CV.sc (Value.string { data := { toList := [] } }), CV.sc (Value.int IntKind.i64 0), CV.sc (Value.int IntKind.i64 0), CV.nil], fields := [(0, 3, 1), (1, 9, 1), (2, 3, 1), (3, 3, 1), (4, 105, 1)], fok := true, elem := 0, sl := false, ik := none, conc := true, str := false, bl := false, ptr := false, ife := false, mkv := none }),
  (108, { size := 1, bytes := 8, isAgg := false, hz := true, zero := [CV.sc Value.nilFunc], fields := [], fok := false, elem := 0, sl := false, ik := none, conc := true, str := false, bl := false, ptr := false, ife := false, mkv := none }),
  (109, { size := 3, bytes := 56, isAgg := true, hz := true, zero := [CV.sc (Value.int IntKind.i64 0), CV.nil, CV.nil], fields := [(0, 3, 1), (1, 36, 1), (2, 105, 1)], fok := true, elem := 0, sl := false, ik := none, conc := true, str := false, bl := false, ptr := false, ife := false, mkv := none }),
  (110, { size := 3, bytes := 56, isAgg := true, hz := true, zero := [CV.sc (Value.int IntKind.i64 0), CV.nil, CV.nil], fields := [(0, 3, 1), (1, 36, 1), (2, 105, 1)], fok := true, elem := 0, sl := false, ik := none, conc := true, str := false, bl := false, ptr := false, ife := false, mkv := none }),
  (111, { size := 1, bytes := 8, isAgg := false, hz := true, zero := [CV.sc Value.nilFunc], fields := [], fok := false, elem := 0, sl := false, ik := none, conc := true, str := false, bl := false, ptr := false, ife := false, mkv := none }),
  (112, { size := 1, bytes := 8, isAgg := false, hz := true, zero := [CV.sc Value.nilFunc], fields := [], fok := false, elem := 0, sl := false, ik := none, conc := true, str := false, bl := false, ptr := false, ife := false, mkv := none }),
  (113, { size := 1, bytes := 8, isAgg := false, hz := true, zero := [CV.sc Value.nilFunc], fields := [], fok := false, elem := 0, sl := false, ik := none, conc := true, str := false, bl := false, ptr := false, ife := false, mkv := none }),
  (114, { size := 1, bytes := 8, isAgg := false, hz := true, zero := [CV.sc Value.nilFunc], fields := [], fok := false, elem := 0, sl := false, ik := none, conc := true, str := false, bl := false, ptr := false, ife := false, mkv := none }),
  (115, { size := 1, bytes := 8, isAgg := false, hz := true, zero := [CV.sc Value.nilFunc], fields := [], fok := false, elem := 0, sl := false, ik := none, conc := true, str := false, bl := false, ptr := false, ife := false, mkv := none }),
  (116, { size := 1, bytes := 8, isAgg := false, hz := true, zero := [CV.sc Value.nilFunc], fields := [], fok := false, elem := 0, sl := false, ik := none, conc := true, str := false, bl := false, ptr := false, ife := false, mkv := none }),
  (117, { size := 1, bytes := 8, isAgg := false, hz := true, zero := [CV.sc Value.nilFunc], fields := [], fok := false, elem := 0, sl := false, ik := none, conc := true, str := false, bl := false, ptr := false, ife := false, mkv := none }),
  (118, { size := 2, bytes := 32, isAgg := true, hz := true, zero := [CV.nil, CV.sc Value.nilFunc], fields := [(0, 23, 1), (1, 117, 1)], fok := true, elem := 0, sl := false, ik := none, conc := true, str := false, bl := false, ptr := false, ife := false, mkv := none }),
  (119, { size := 2, bytes := 32, isAgg := true, hz := true, zero := [CV.nil, CV.sc Value.nilFunc], fields := [(0, 23, 1), (1, 117, 1)], fok := true, elem := 0, sl := false, ik := none, conc := true, str := false, bl := false, ptr := false, ife := false, mkv := none }),
  (120, { size := 1, bytes := 8, isAgg := false, hz := true, zero := [CV.sc Value.nilFunc], fields := [], fok := false, elem := 0, sl := false, ik := none, conc := true, str := false, bl := false, ptr := false, ife := false, mkv := none }),
  (121, { size := 1, bytes := 8, isAgg := false, hz := true, zero := [CV.sc Value.nilFunc], fields := [], fok := false, elem := 0, sl := false, ik := none, conc := true, str := false, bl := false, ptr := false, ife := false, mkv := none }),
  (122, { size := 2, bytes := 32, isAgg := true, hz := true, zero := [CV.nil, CV.sc Value.nilFunc], fields := [(0, 24, 1), (1, 121, 1)], fok := true, elem := 0, sl := false, ik := none, conc := true, str := false, bl := false, ptr := false, ife := false, mkv := none }),
  (123, { size := 2, bytes := 32, isAgg := true, hz := true, zero := [CV.nil, CV.sc Value.nilFunc], fields := [(0, 24, 1), (1, 121, 1)], fok := true, elem := 0, sl := false, ik := none, conc := true, str := false, bl := false, ptr := false, ife := false, mkv := none }),
  (124, { size := 1, bytes := 8, isAgg := false, hz := true, zero := [CV.sc Value.nilFunc], fields := [], fok := false, elem := 0, sl := false, ik := none, conc := true, str := false, bl := false, ptr := false, ife := false, mkv := none }),
  (125, { size := 1, bytes := 8, isAgg := false, hz := true, zero := [CV.sc Value.nilFunc], fields := [], fok := false, elem := 0, sl := false, ik := none, conc := true, str := false, bl := false, ptr := false, ife := false, mkv := none }),
  (126, { size := 1, bytes := 8, isAgg := false, hz := true, zero := [CV.sc Value.nilFunc], fields := [], fok := false, elem := 0, sl := false, ik := none, conc := true, str := false, bl := false, ptr := false, ife := false, mkv := none }),
  (127, { size := 1, bytes := 8, isAgg := false, hz := true, zero := [CV.sc (Value.int IntKind.i64 0)], fields := [], fok := false, elem := 0, sl := false, ik := some IntKind.i64, conc := true, str := false, bl := false, ptr := false, ife := false, mkv := none }),
  (128, { size := 1, bytes := 0, isAgg := false, hz := false, zero := [CV.sc (Value.tuple { toList := [Value.int IntKind.i64 0, Value.bool false] })], fields := [], fok := false, elem := 0, sl := false, ik := none, conc := true, str := false, bl := false, ptr := false, ife := false, mkv := none }),
  (129, { size := 1, bytes := 8, isAgg := false, hz := true, zero := [CV.sc Value.nilFunc], fields := [], fok := false, elem := 0, sl := false, ik := none, conc := true, str := false, bl := false, ptr := false, ife := false, mkv := none }),
  (130, { size := 1, bytes := 8, isAgg := false, hz := true, zero := [CV.sc (Value.map none)], fields := [], fok := false, elem := 0, sl := false, ik := none, conc := true, str := false, bl := false, ptr := false, ife := false, mkv := some (182, 28) }),
  (131, { size := 1, bytes := 8, isAgg := false, hz := true, zero := [CV.sc Value.nilFunc], fields := [], fok := false, elem := 0, sl := false, ik := none, conc := true, str := false, bl := false, ptr := false, ife := false, mkv := none }),
  (132, { size := 1, bytes := 8, isAgg := false, hz := true, zero := [CV.sc Value.nilFunc], fields := [], fok := false, elem := 0, sl := false, ik := none, conc := true, str := false, bl := false, ptr := false, ife := false, mkv := none }),
  (133, { size := 1, bytes := 8, isAgg := false, hz := true, zero := [CV.sc Value.nilFunc], fields := [], fok := false, elem := 0, sl := false, ik := none, conc := true, str := false, bl := false, ptr := false, ife := false, mkv := none }),
  (134, { size := 1, bytes := 24, isAgg := false, hz := true, zero := [CV.nil], fields := [], fok := false, elem := 72, sl := true, ik := none, conc := true, str := false, bl := false, ptr := false, ife := false, mkv := none }),
  (135, { size := 1, bytes := 8, isAgg := false, hz := true, zero := [CV.sc Value.nilFunc], fields := [], fok := false, elem := 0, sl := false, ik := none, conc := true, str := false, bl := false, ptr := false, ife := false, mkv := none }),
  (136, { size := 1, bytes := 8, isAgg := false, hz := true, zero := [CV.sc Value.nilFunc], fields := [], fok := false, elem := 0, sl := false, ik := none, conc := true, str := false, bl := false, ptr := false, ife := false, mkv := none }),
  (137, { size := 1, bytes := 8, isAgg := false, hz := true, zero := [CV.sc Value.nilFunc], fields := [], fok := false, elem := 0, sl := false, ik := none, conc := true, str := false, bl := false, ptr := false, ife := false, mkv := none }),
  (138, { size := 1, bytes := 8, isAgg := false, hz := true, zero := [CV.sc Value.nilFunc], fields := [], fok := false, elem := 0, sl := false, ik := none, conc := true, str := false, bl := false, ptr := false, ife := false, mkv := none }),
  (139, { size := 1, bytes := 8, isAgg := false, hz := true, zero := [CV.sc Value.nilFunc], fields := [], fok := false, elem := 0, sl := false, ik := none, conc := true, str := false, bl := false, ptr := false, ife := false, mkv := none }),
  (140, { size := 1, bytes := 8, isAgg := false, hz := true, zero := [CV.sc Value.nilFunc], fields := [], fok := false, elem := 0, sl := false, ik := none, conc := true, str := false, bl := false, ptr := false, ife := false, mkv := none }),
  (141, { size := 1, bytes := 8, isAgg := false, hz := true, zero := [CV.sc Value.nilFunc], fields := [], fok := false, elem := 0, sl := false, ik := none, conc := true, str := false, bl := false, ptr := false, ife := false, mkv := none }),
  (144, { size := 1, bytes := 8, isAgg := false, hz := true, zero := [CV.sc Value.nilFunc], fields := [], fok := false, elem := 0, sl := false, ik := none, conc := true, str := false, bl := false, ptr := false, ife := false, mkv := none }),
  (172, { size := 1, bytes := 8, isAgg := false, hz := true, zero := [CV.sc (Value.int IntKind.u64 0)], fields := [], fok := false, elem := 0, sl := false, ik := some IntKind.u64, conc := true, str := false, bl := false, ptr := false, ife := false, mkv := none }),
  (173, { size := 1, bytes := 8, isAgg := false, hz := true, zero := [CV.sc Value.nilFunc], fields := [], fok := false, elem := 0, sl := false, ik := none, conc := true, str := false, bl := false, ptr := false, ife := false, mkv := none }),
  (174, { size := 1, bytes := 0, isAgg := false, hz := false, zero := [CV.sc (Value.tuple { toList := [Value.agg { toList := [Value.slice none 0 0, Value.slice none 0 0, Value.int IntKind.i64 0, Value.int IntKind.i64 0] }, Value.bool false] })], fields := [], fok := false, elem := 0, sl := false, ik := none, conc := true, str := false, bl := false, ptr := false, ife := false, mkv := none }),
  (175, { size := 1, bytes := 8, isAgg := false, hz := true, zero := [CV.sc Value.nilFunc], fields := [], fok := false, elem := 0, sl := false, ik := none, conc := true, str := false, bl := false, ptr := false, ife := false, mkv := none }),
  (176, { size := 1, bytes := 8, isAgg := false, hz := true, zero := [CV.sc Value.nilFunc], fields := [], fok := false, elem := 0, sl := false, ik := none, conc := true, str := false, bl := false, ptr := false, ife := false, mkv := none }),
  (177, { size := 1, bytes := 8, isAgg := false, hz := true, zero := [CV.sc Value.nilFunc], fields := [], fok := false, elem := 0, sl := false, ik := none, conc := true, str := false, bl := false, ptr := false, ife := false, mkv := none }),
  (178, { size := 5, bytes := 72, isAgg := true, hz := true, zero := [CV.sc (Value.string { data := { toList := [] } }), CV.sc (Value.int IntKind.i64 0), CV.sc (Value.int IntKind.i64 0), CV.sc (Value.string { data := { toList := [] } }), CV.nil], fields := [(0, 9, 1), (1, 30, 4)], fok := true, elem := 0, sl := false, ik := none, conc := true, str := false, bl := false, ptr := false, ife := false, mkv := none }),
  (179, { size := 1, bytes := 8, isAgg := false, hz := true, zero := [CV.sc Value.nilFunc], fields := [], fok := false, elem := 0, sl := false, ik := none, conc := true, str := false, bl := false, ptr := false, ife := false, mkv := none }),
  (180, { size := 1, bytes := 8, isAgg := false, hz := true, zero := [CV.sc (Value.pointer none)], fields := [], fok := false, elem := 30, sl := false, ik := none, conc := true, str := false, bl := false, ptr := true, ife := false, mkv := none }),
  (181, { size := 2, bytes := 16, isAgg := true, hz := true, zero := [CV.sc (Value.pointer none), CV.sc (Value.int IntKind.i64 0)], fields := [(0, 180, 1), (1, 3, 1)], fok := true, elem := 0, sl := false, ik := none, conc := true, str := false, bl := false, ptr := false, ife := false, mkv := none }),
  (182, { size := 2, bytes := 16, isAgg := true, hz := true, zero := [CV.sc (Value.pointer none), CV.sc (Value.int IntKind.i64 0)], fields := [(0, 180, 1), (1, 3, 1)], fok := true, elem := 0, sl := false, ik := none, conc := true, str := false, bl := false, ptr := false, ife := false, mkv := none }),
  (183, { size := 1, bytes := 0, isAgg := false, hz := false, zero := [CV.sc (Value.tuple { toList := [Value.slice none 0 0, Value.bool false] })], fields := [], fok := false, elem := 0, sl := false, ik := none, conc := true, str := false, bl := false, ptr := false, ife := false, mkv := none }),
  (184, { size := 1, bytes := 0, isAgg := false, hz := false, zero := [CV.sc (Value.tuple { toList := [Value.agg { toList := [Value.int IntKind.i64 0, Value.int IntKind.i64 0, Value.string { data := { toList := [] } }, Value.slice none 0 0] }, Value.bool false] })], fields := [], fok := false, elem := 0, sl := false, ik := none, conc := true, str := false, bl := false, ptr := false, ife := false, mkv := none }),
  (185, { size := 1, bytes := 8, isAgg := false, hz := true, zero := [CV.sc Value.nilFunc], fields := [], fok := false, elem := 0, sl := false, ik := none, conc := true, str := false, bl := false, ptr := false, ife := false, mkv := none }),
  (186, { size := 1, bytes := 8, isAgg := false, hz := true, zero := [CV.sc Value.nilFunc], fields := [], fok := false, elem := 0, sl := false, ik := none, conc := true, str := false, bl := false, ptr := false, ife := false, mkv := none }),
  (210, { size := 1, bytes := 4, isAgg := false, hz := true, zero := [CV.sc (Value.int IntKind.u32 0)], fields := [], fok := false, elem := 0, sl := false, ik := some IntKind.u32, conc := true, str := false, bl := false, ptr := false, ife := false, mkv := none }),
  (212, { size := 1, bytes := 8, isAgg := false, hz := true, zero := [CV.sc (Value.int IntKind.u64 0)], fields := [], fok := false, elem := 0, sl := false, ik := some IntKind.u64, conc := true, str := false, bl := false, ptr := false, ife := false, mkv := none }),
  (213, { size := 1, bytes := 8, isAgg := false, hz := true, zero := [CV.sc Value.nilFunc], fields := [], fok := false, elem := 0, sl := false, ik := none, conc := true, str := false, bl := false, ptr := false, ife := false, mkv := none }),
  (214, { size := 1, bytes := 8, isAgg := false, hz := true, zero := [CV.sc Value.nilFunc], fields := [], fok := false, elem := 0, sl := false, ik := none, conc := true, str := false, bl := false, ptr := false, ife := false, mkv := none }),
  (215, { size := 1, bytes := 8, isAgg := false, hz := true, zero := [CV.sc (Value.pointer none)], fields := [], fok := false, elem := 105, sl := false, ik := none, conc := true, str := false, bl := false, ptr := true, ife := false, mkv := none }),
  (216, { size := 1, bytes := 8, isAgg := false, hz := true, zero := [CV.sc Value.nilFunc], fields := [], fok := false, elem := 0, sl := false, ik := none, conc := true, str := false, bl := false, ptr := false, ife := false, mkv := none }),
  (217, { size := 1, bytes := 8, isAgg := false, hz := true, zero := [CV.sc Value.nilFunc], fields := [], fok := false, elem := 0, sl := false, ik := none, conc := true, str := false, bl := false, ptr := false, ife := false, mkv := none }),
  (218, { size := 1, bytes := 8, isAgg := false, hz := true, zero := [CV.sc Value.nilFunc], fields := [], fok := false, elem := 0, sl := false, ik := none, conc := true, str := false, bl := false, ptr := false, ife := false, mkv := none }),
  (219, { size := 1, bytes := 8, isAgg := false, hz := true, zero := [CV.sc Value.nilFunc], fields := [], fok := false, elem := 0, sl := false, ik := none, conc := true, str := false, bl := false, ptr := false, ife := false, mkv := none }),
  (220, { size := 1, bytes := 8, isAgg := false, hz := true, zero := [CV.sc Value.nilFunc], fields := [], fok := false, elem := 0, sl := false, ik := none, conc := true, str := false, bl := false, ptr := false, ife := false, mkv := none }),
  (221, { size := 1, bytes := 0, isAgg := false, hz := false, zero := [CV.sc (Value.tuple { toList := [Value.slice none 0 0, Value.bool false] })], fields := [], fok := false, elem := 0, sl := false, ik := none, conc := true, str := false, bl := false, ptr := false, ife := false, mkv := none }),
  (222, { size := 1, bytes := 8, isAgg := false, hz := true, zero := [CV.sc Value.nilFunc], fields := [], fok := false, elem := 0, sl := false, ik := none, conc := true, str := false, bl := false, ptr := false, ife := false, mkv := none }),
  (223, { size := 1, bytes := 8, isAgg := false, hz := true, zero := [CV.sc Value.nilFunc], fields := [], fok := false, elem := 0, sl := false, ik := none, conc := true, str := false, bl := false, ptr := false, ife := false, mkv := none }),
  (233, { size := 1, bytes := 16, isAgg := false, hz := true, zero := [CV.sc Value.nilIface], fields := [], fok := false, elem := 0, sl := false, ik := none, conc := false, str := false, bl := false, ptr := false, ife := false, mkv := none }),
  (234, { size := 1, bytes := 16, isAgg := false, hz := true, zero := [CV.sc Value.nilIface], fields := [], fok := false, elem := 0, sl := false, ik := none, conc := false, str := false, bl := false, ptr := false, ife := false, mkv := none }),
  (235, { size := 1, bytes := 8, isAgg := false, hz := true, zero := [CV.sc Value.nilFunc], fields := [], fok := false, elem := 0, sl := false, ik := none, conc := true, str := false, bl := false, ptr := false, ife := false, mkv := none }),
  (236, { size := 1, bytes := 8, isAgg := false, hz := true, zero := [CV.sc Value.nilFunc], fields := [], fok := false, elem := 0, sl := false, ik := none, conc := true, str := false, bl := false, ptr := false, ife := false, mkv := none }),
  (237, { size := 1, bytes := 24, isAgg := false, hz := true, zero := [CV.nil], fields := [], fok := false, elem := 28, sl := true, ik := none, conc := true, str := false, bl := false, ptr := false, ife := false, mkv := none }),
  (238, { size := 1, bytes := 8, isAgg := false, hz := true, zero := [CV.sc Value.nilFunc], fields := [], fok := false, elem := 0, sl := false, ik := none, conc := true, str := false, bl := false, ptr := false, ife := false, mkv := none }),
  (239, { size := 1, bytes := 8, isAgg := false, hz := true, zero := [CV.sc Value.nilFunc], fields := [], fok := false, elem := 0, sl := false, ik := none, conc := true, str := false, bl := false, ptr := false, ife := false, mkv := none }),
  (245, { size := 1, bytes := 8, isAgg := false, hz := true, zero := [CV.sc (Value.int IntKind.i64 0)], fields := [], fok := false, elem := 0, sl := false, ik := some IntKind.i64, conc := true, str := false, bl := false, ptr := false, ife := false, mkv := none }),
  (246, { size := 1, bytes := 8, isAgg := false, hz := true, zero := [CV.sc (Value.int IntKind.i64 0)], fields := [], fok := false, elem := 0, sl := false, ik := some IntKind.i64, conc := true, str := false, bl := false, ptr := false, ife := false, mkv := none }),
  (247, { size := 1, bytes := 24, isAgg := false, hz := true, zero := [CV.nil], fields := [], fok := false, elem := 30, sl := true, ik := none, conc := true, str := false, bl := false, ptr := false, ife := false, mkv := none }),
  (248, { size := 1, bytes := 16, isAgg := false, hz := true, zero := [CV.sc (Value.string { data := { toList := [] } })], fields := [], fok := false, elem := 0, sl := false, ik := none, conc := true, str := true, bl := false, ptr := false, ife := false, mkv := none }),
  (249, { size := 1, bytes := 8, isAgg := false, hz := true, zero := [CV.sc (Value.int IntKind.i64 0)], fields := [], fok := false, elem := 0, sl := false, ik := some IntKind.i64, conc := true, str := false, bl := false, ptr := false, ife := false, mkv := none }),
  (250, { size := 1, bytes := 8, isAgg := false, hz := true, zero := [CV.sc (Value.int IntKind.i64 0)], fields := [], fok := false, elem := 0, sl := false, ik := some IntKind.i64, conc := true, str := false, bl := false, ptr := false, ife := false, mkv := none }),
  (251, { size := 0, bytes := 0, isAgg := true, hz := true, zero := [], fields := [], fok := true, elem := 0, sl := false, ik := none, conc := true, str := false, bl := false, ptr := false, ife := false, mkv := none }),
  (252, { size := 0, bytes := 0, isAgg := true, hz := true, zero := [], fields := [], fok := true, elem := 0, sl := false, ik := none, conc := true, str := false, bl := false, ptr := false, ife := false, mkv := none }),
  (254, { size := 4, bytes := 40, isAgg := true, hz := true, zero := [CV.sc (Value.pointer none), CV.sc (Value.pointer none), CV.sc (Value.pointer none), CV.sc (Value.string { data := { toList := [] } })], fields := [(0, 17, 1), (1, 17, 1), (2, 17, 1), (3, 9, 1)], fok := true, elem := 0, sl := false, ik := none, conc := true, str := false, bl := false, ptr := false, ife := false, mkv := none }),
  (255, { size := 4, bytes := 40, isAgg := true, hz := true, zero := [CV.sc (Value.pointer none), CV.sc (Value.pointer none), CV.sc (Value.pointer none), CV.sc (Value.string { data := { toList := [] } })], fields := [(0, 17, 1), (1, 17, 1), (2, 17, 1), (3, 9, 1)], fok := true, elem := 0, sl := false, ik := none, conc := true, str := false, bl := false, ptr := false, ife := false, mkv := none }),
  (256, { size := 0, bytes := 0, isAgg := true, hz := true, zero := [], fields := [], fok := false, elem := 16, sl := false, ik := none, conc := true, str := false, bl := false, ptr := false, ife := false, mkv := none }),
  (257, { size := 0, bytes := 0, isAgg := true, hz := true, zero := [], fields := [(0, 256, 0)], fok := true, elem := 0, sl := false, ik := none, conc := true, str := false, bl := false, ptr := false, ife := false, mkv := none }),
  (258, { size := 0, bytes := 0, isAgg := true, hz := true, zero := [], fields := [(0, 256, 0)], fok := true, elem := 0, sl := false, ik := none, conc := true, str := false, bl := false, ptr := false, ife := false, mkv := none }),
  (259, { size := 1, bytes := 8, isAgg := false, hz := true, zero := [CV.sc Value.nilFunc], fields := [], fok := false, elem := 0, sl := false, ik := none, conc := true, str := false, bl := false, ptr := false, ife := false, mkv := none }),
  (260, { size := 1, bytes := 1, isAgg := false, hz := true, zero := [CV.sc (Value.int IntKind.u8 0)], fields := [], fok := false, elem := 0, sl := false, ik := some IntKind.u8, conc := true, str := false, bl := false, ptr := false, ife := false, mkv := none }),
  (261, { size := 1, bytes := 1, isAgg := false, hz := true, zero := [CV.sc (Value.int IntKind.u8 0)], fields := [], fok := false, elem := 0, sl := false, ik := some IntKind.u8, conc := true, str := false, bl := false, ptr := false, ife := false, mkv := none }),
  (262, { size := 1, bytes := 8, isAgg := false, hz := true, zero := [CV.sc Value.nilFunc], fields := [], fok := false, elem := 0, sl := false, ik := none, conc := true, str := false, bl := false, ptr := false, ife := false, mkv := none }),
  (263, { size := 1, bytes := 8, isAgg := false, hz := true, zero := [CV.sc (Value.pointer none)], fields := [], fok := false, elem := 5, sl := false, ik := none, conc := true, str := false, bl := false, ptr := true, ife := false, mkv := none }),
  (264, { size := 1, bytes := 4, isAgg := false, hz := true, zero := [CV.sc (Value.int IntKind.i32 0)], fields := [], fok := false, elem := 0, sl := false, ik := some IntKind.i32, conc := true, str := false, bl := false, ptr := false, ife := false, mkv := none }),
  (265, { size := 1, bytes := 4, isAgg := false, hz := true, zero := [CV.sc (Value.int IntKind.i32 0)], fields := [], fok := false, elem := 0, sl := false, ik := some IntKind.i32, conc := true, str := false, bl := false, ptr := false, ife := false, mkv := none }),
  (266, { size := 11, bytes := 48, isAgg := true, hz := true, zero := [CV.sc (Value.int IntKind.u64 0), CV.sc (Value.int IntKind.u64 0), CV.sc (Value.int IntKind.u32 0), CV.sc (Value.int IntKind.u8 0), CV.sc (Value.int IntKind.u8 0), CV.sc (Value.int IntKind.u8 0), CV.sc (Value.int IntKind.u8 0), CV.sc Value.nilFunc, CV.sc (Value.pointer none), CV.sc (Value.int IntKind.i32 0), CV.sc (Value.int IntKind.i32 0)], fields := [(0, 12, 1), (1, 12, 1), (2, 210, 1), (3, 260, 1), (4, 5, 1), (5, 5, 1), (6, 261, 1), (7, 262, 1), (8, 263, 1), (9, 264, 1), (10, 265, 1)], fok := true, elem := 0, sl := false, ik := none, conc := true, str := false, bl := false, ptr := false, ife := false, mkv := none }),
  (267, { size := 11, bytes := 48, isAgg := true, hz := true, zero := [CV.sc (Value.int IntKind.u64 0), CV.sc (Value.int IntKind.u64 0), CV.sc (Value.int IntKind.u32 0), CV.sc (Value.int IntKind.u8 0), CV.sc (Value.int IntKind.u8 0), CV.sc (Value.int IntKind.u8 0), CV.sc (Value.int IntKind.u8 0), CV.sc Value.nilFunc, CV.sc (Value.pointer none), CV.sc (Value.int IntKind.i32 0), CV.sc (Value.int IntKind.i32 0)], fields := [(0, 12, 1), (1, 12, 1), (2, 210, 1), (3, 260, 1), (4, 5, 1), (5, 5, 1), (6, 261, 1), (7, 262, 1), (8, 263, 1), (9, 264, 1), (10, 265, 1)], fok := true, elem := 0, sl := false, ik := none, conc := true, str := false, bl := false, ptr := false, ife := false, mkv := none }),
  (268, { size := 1, bytes := 8, isAgg := false, hz := true, zero := [CV.sc Value.nilFunc], fields := [], fok := false, elem := 0, sl := false, ik := none, conc := true, str := false, bl := false, ptr := false, ife := false, mkv := none }),
  (269, { size := 1, bytes := 8, isAgg := false, hz := true, zero := [CV.sc Value.nilFunc], fields := [], fok := false, elem := 0, sl := false, ik := none, conc := true, str := false, bl := false, ptr := false, ife := false, mkv := none }),
  (270, { size := 1, bytes := 8, isAgg := false, hz := true, zero := [CV.sc Value.nilFunc], fields := [], fok := false, elem := 0, sl := false, ik := none, conc := true, str := false, bl := false, ptr := false, ife := false, mkv := none }),
  (271, { size := 1, bytes := 8, isAgg := false, hz := true, zero := [CV.sc Value.nilFunc], fields := [], fok := false, elem := 0, sl := false, ik := none, conc := true, str := false, bl := false, ptr := false, ife := false, mkv := none }),
  (272, { size := 1, bytes := 8, isAgg := false, hz := true, zero := [CV.sc Value.nilFunc], fields := [], fok := false, elem := 0, sl := false, ik := none, conc := true, str := false, bl := false, ptr := false, ife := false, mkv := none }),
  (273, { size := 1, bytes := 8, isAgg := false, hz := true, zero := [CV.sc Value.nilFunc], fields := [], fok := false, elem := 0, sl := false, ik := none, conc := true, str := false, bl := false, ptr := false, ife := false, mkv := none }),
  (274, { size := 1, bytes := 8, isAgg := false, hz := true, zero := [CV.sc Value.nilFunc], fields := [], fok := false, elem := 0, sl := false, ik := none, conc := true, str := false, bl := false, ptr := false, ife := false, mkv := none }),
  (275, { size := 1, bytes := 8, isAgg := false, hz := true, zero := [CV.sc Value.nilFunc], fields := [], fok := false, elem := 0, sl := false, ik := none, conc := true, str := false, bl := false, ptr := false, ife := false, mkv := none }),
  (276, { size := 1, bytes := 8, isAgg := false, hz := true, zero := [CV.sc Value.nilFunc], fields := [], fok := false, elem := 0, sl := false, ik := none, conc := true, str := false, bl := false, ptr := false, ife := false, mkv := none }),
  (277, { size := 1, bytes := 8, isAgg := false, hz := true, zero := [CV.sc Value.nilFunc], fields := [], fok := false, elem := 0, sl := false, ik := none, conc := true, str := false, bl := false, ptr := false, ife := false, mkv := none }),
  (278, { size := 1, bytes := 8, isAgg := false, hz := true, zero := [CV.sc (Value.pointer none)], fields := [], fok := false, elem := 0, sl := false, ik := none, conc := true, str := false, bl := false, ptr := false, ife := false, mkv := none })]
noncomputable def X : Ctx := { P := Tryz.prog, tt := tt, gl := fun _ => false, ord := fun _ => none }
set_option maxRecDepth 100000 in
theorem X_tt : (tt.map fun p => tiOf Tryz.prog p.1) = tt.map (fun p => some p.2) := by kernel_rfl
theorem X_ok : X.ok := Ctx.ok_of X_tt
theorem X_draw : X.P.follows .mixedOrders = true := by kernel_rfl
theorem X_sat : DrawSat X := drawSat X_ok X_draw
noncomputable def G (l : List Nat) : Ctx := { P := Tryz.prog, tt := tt, gl := fun n => l.contains n, ord := fun _ => none }
theorem G_ok (l : List Nat) : (G l).ok := X_ok
theorem G_sat (l : List Nat) : DrawSat (G l) := drawSat (G_ok l) X_draw
end Go.Proofs.YthllnbfkfobcjaaGreat
namespace Go.Proofs.YthllnbfkfobcjaaGreat
open Go Go.CL
set_option maxRecDepth 10000
def i64 (n : Int) : CV := .sc (.int .i64 n)
def u8 (n : Int) : CV := .sc (.int .u8 n)
def bodyOf (f : Func) : Code := f.body.getD .skip
def getB (bs : List CV) (i : Nat) : Int := match bs[i]? with
  | some (.sc (.int _ b)) => b
  | _ => 0
def BytesOk (bs : List CV) : Prop := ∀ x ∈ bs, ∃ b, x = u8 b ∧ 0 ≤ b ∧ b ≤ 255
theorem BytesOk.get {bs : List CV} (h : BytesOk bs) {i : Nat} (hi : i < bs.length) : bs[i]? = some (u8 (getB bs i)) := by
  have h1 : bs[i]? = some bs[i] := List.getElem?_eq_getElem hi
  obtain ⟨b, hb, _⟩ := h bs[i] (List.getElem_mem hi)
  rw [hb] at h1
  simp only [getB, h1, u8]
theorem BytesOk.range {bs : List CV} (h : BytesOk bs) (i : Nat) : 0 ≤ getB bs i ∧ getB bs i ≤ 255 := by
  by_cases hi : i < bs.length
  · obtain ⟨b, hb, h2⟩ := h bs[i] (List.getElem_mem hi)
    have h1 : bs[i]? = some bs[i] := List.getElem?_eq_getElem hi
    rw [hb] at h1
    simp only [getB, h1, u8]; exact h2
  · simp [getB, List.getElem?_eq_none (show bs.length ≤ i by omega)]
def mixF (bs : List CV) (k : Int) : Int :=
  getB bs (k.tmod bs.length).toNat * 131 + getB bs ((k * 7 + 3).tmod bs.length).toNat * 1117 + k * 29 + k.tdiv bs.length * 53
def xorF (a b : Int) : Int := IntKind.i64.wrap (BitVec.ofInt IntKind.i64.bits a ^^^ BitVec.ofInt IntKind.i64.bits b).toNat
def pickF (bs : List CV) (p n : Int) : Int :=
  if n < 1 ∨ bs.length = 0 then 0
  else if p < bs.length then (getB bs (p + 1 - 1).toNat).tmod n
  else (xorF (mixF bs (p + 1 - 1)) ((mixF bs (p + 1 - 1)).tdiv 64)).tmod n
theorem xorF_nonneg {a b : Int} (ha : 0 ≤ a) (hb : 0 ≤ b) (ha' : a < 9223372036854775808) (hb' : b < 9223372036854775808) : 0 ≤ xorF a b := by
  obtain ⟨m, rfl⟩ := Int.eq_ofNat_of_zero_le ha
  obtain ⟨n, rfl⟩ := Int.eq_ofNat_of_zero_le hb
  unfold xorF
  have h1 : (BitVec.ofInt IntKind.i64.bits (m : Int) ^^^ BitVec.ofInt IntKind.i64.bits (n : Int)).toNat = m ^^^ n := by
    rw [BitVec.toNat_xor]
    have e1 : (BitVec.ofInt 64 (m : Int)).toNat = m := by rw [BitVec.ofInt_natCast, BitVec.toNat_ofNat]; omega
    have e2 : (BitVec.ofInt 64 (n : Int)).toNat = n := by rw [BitVec.ofInt_natCast, BitVec.toNat_ofNat]; omega
    show (BitVec.ofInt 64 (m : Int)).toNat ^^^ (BitVec.ofInt 64 (n : Int)).toNat = _
    rw [e1, e2]
  rw [h1]
  have h2 : m ^^^ n < 2 ^ 63 := Nat.xor_lt_two_pow (by omega) (by omega)
  have : IntKind.i64.wrap ((m ^^^ n : Nat) : Int) = ((m ^^^ n : Nat) : Int) := wrap_inR (by simp only [inR]; omega)
  rw [this]; omega
theorem pickF_range {bs : List CV} (hb : BytesOk bs) {p n : Int} (hp : 0 ≤ p) (hp' : p < 1099511627776) (hl : bs.length ≤ 2000) (hn : 1 ≤ n) : 0 ≤ pickF bs p n ∧ pickF bs p n < n := by
  unfold pickF
  split
  · omega
  · split
    · have := (hb.range (p + 1 - 1).toNat).1
      exact ⟨Int.tmod_nonneg _ this, Int.tmod_lt_of_pos _ (by omega)⟩
    · refine ⟨Int.tmod_nonneg _ ?_, Int.tmod_lt_of_pos _ (by omega)⟩
      have m1 := hb.range (((p + 1 - 1).tmod bs.length).toNat)
      have m2 := hb.range ((((p + 1 - 1) * 7 + 3).tmod bs.length).toNat)
      have m3 : 0 ≤ (p + 1 - 1).tdiv bs.length := Int.tdiv_nonneg (by omega) (by omega)
      have m4 : (p + 1 - 1).tdiv bs.length ≤ p + 1 - 1 := Int.tdiv_le_self _ (by omega)
      have m5 : 0 ≤ mixF bs (p + 1 - 1) ∧ mixF bs (p + 1 - 1) < 1125899906842624 := by unfold mixF; omega
      exact xorF_nonneg m5.1 (Int.tdiv_nonneg m5.1 (by omega)) (by omega) (by have := Int.tdiv_le_self 64 m5.1; omega)
def rd (σ : Heap) (l : Nat) (bs : List CV) (p : Int) : Heap := upd σ l (.cells [.vec bs, i64 p])
theorem pick_c {l : Nat} {σ : Heap} {bs : List CV} {p n : Int} (hb : BytesOk bs) (hp : 0 ≤ p) (hp' : p < 1099511627776) (hl : bs.length ≤ 2000) :
    CRun Tryz.prog 70 [.ptr (.g l) 0, i64 n] (rd σ l bs p) (· = .ret (i64 (pickF bs p n)) (rd σ l bs (p + 1))) := by
  have hs : rd σ l bs p l = some (.cells [.vec bs, i64 p]) := upd_same _ _ _
  rw [show rd σ l bs (p + 1) = upd (rd σ l bs p) l (.cells [.vec bs, i64 (p + 1)]) by simp only [rd, upd_upd]]
  generalize rd σ l bs p = σ at hs
  refine crun_of (X := G []) (G_ok _) (G_sat _) (body := bodyOf Tryz.f70) Tryz.func70 rfl (by kernel_rfl) (by kernel_rfl) ?_
  rw [Tryz.ntmps70]
  by_cases hn : n < 1
  · have e : pickF bs p n = 0 := by unfold pickF; rw [if_pos (.inl hn)]
    rw [e]
    conv => whnf
    repeat' (first | refine Fork.yp ?_ | refine GetN.go ?_ | refine Need.go ?_ | refine finGo ?_) <;> try (conv => whnf)
    rfl
  by_cases hz : bs.length = 0
  · have e : pickF bs p n = 0 := by unfold pickF; rw [if_pos (.inr hz)]
    rw [e]
    conv => whnf
    repeat' (first | refine Fork.yp ?_ | refine Fork.np ?_ | refine GetN.go ?_ | refine Need.go ?_ | refine finGo ?_) <;> try (conv => whnf)
    rfl
  by_cases hk : p < bs.length
  · have e : pickF bs p n = (getB bs (p + 1 - 1).toNat).tmod n := by unfold pickF; rw [if_neg (by omega), if_pos hk]
    rw [e]
    have m0 := hb.get (i := (p + 1 - 1).toNat) (by omega)
    have m1 := hb.range (p + 1 - 1).toNat
    conv => whnf
    repeat' (first | refine Fork.yp ?_ | refine Fork.np ?_ | refine GetN.go ?_ | refine Need.go ?_ | refine ElemN.go ?_ | refine finGo ?_) <;> try (conv => whnf)
    rfl
  · have e : pickF bs p n = (xorF (mixF bs (p + 1 - 1)) ((mixF bs (p + 1 - 1)).tdiv 64)).tmod n := by unfold pickF; rw [if_neg (by omega), if_neg hk]
    rw [e]
    have d1 : 0 ≤ (p + 1 - 1).tmod bs.length ∧ (p + 1 - 1).tmod bs.length < bs.length := ⟨Int.tmod_nonneg _ (by omega), Int.tmod_lt_of_pos _ (by omega)⟩
    have d2 : 0 ≤ ((p + 1 - 1) * 7 + 3).tmod bs.length ∧ ((p + 1 - 1) * 7 + 3).tmod bs.length < bs.length := ⟨Int.tmod_nonneg _ (by omega), Int.tmod_lt_of_pos _ (by omega)⟩
    have g1 := hb.get (i := ((p + 1 - 1).tmod bs.length).toNat) (by omega)
    have g2 := hb.get (i := (((p + 1 - 1) * 7 + 3).tmod bs.length).toNat) (by omega)
    have m1 := hb.range (((p + 1 - 1).tmod bs.length).toNat)
    have m2 := hb.range ((((p + 1 - 1) * 7 + 3).tmod bs.length).toNat)
    have m3 : 0 ≤ (p + 1 - 1).tdiv bs.length := Int.tdiv_nonneg (by omega) (by omega)
    have m4 : (p + 1 - 1).tdiv bs.length ≤ p + 1 - 1 := Int.tdiv_le_self _ (by omega)
    have m5 : 0 ≤ mixF bs (p + 1 - 1) ∧ mixF bs (p + 1 - 1) < 1125899906842624 := by unfold mixF; omega
    have m6 : 0 ≤ (mixF bs (p + 1 - 1)).tdiv 64 := Int.tdiv_nonneg m5.1 (by omega)
    have m7 := Int.tdiv_le_self 64 m5.1
    simp only [mixF] at m5 m6 m7
    conv => whnf
    repeat' (first | refine Fork.np ?_ | refine GetN.go ?_ | refine Need.go ?_ | refine Need.draw ?_ | refine ElemN.go ?_ | refine finGo ?_) <;> try (conv => whnf)
    rfl
theorem pick_n {l : Nat} {σ : Heap} {bs : List CV} {p n : Int} (hb : BytesOk bs) (hl : bs.length ≤ 2000) (hp : 0 ≤ p) (hp' : p < 1099511627776) :
    CRun Tryz.prog 70 [.ptr (.g l) 0, i64 n] (rd σ l bs p) (fun out => ∃ k, (1 ≤ n → 0 ≤ k ∧ k < n) ∧ (n < 1 → k = 0) ∧ out = .ret (i64 k) (rd σ l bs (p + 1))) :=
  (pick_c hb hp hp' hl).mono fun out h => ⟨pickF bs p n, fun hn => pickF_range hb hp hp' hl hn, fun hn => by unfold pickF; rw [if_pos (.inl hn)], h⟩
theorem one_c {l : Nat} {σ : Heap} {bs xs : List CV} {p lo hi : Int} (hb : BytesOk bs) (hl : bs.length ≤ 2000) (hp : 0 ≤ p) (hp' : p < 1099511627776) (hx : Each (fun x => ∃ n, x = i64 n ∧ lo ≤ n ∧ n ≤ hi) xs) (h1 : 1 ≤ xs.length) (h2 : xs.length ≤ 1000) :
    CRun Tryz.prog 71 [.ptr (.g l) 0, .vec xs] (rd σ l bs p) (fun out => ∃ k, lo ≤ k ∧ k ≤ hi ∧ out = .ret (i64 k) (rd σ l bs (p + 1))) := by
  refine crun_of (X := X) X_ok X_sat (body := bodyOf Tryz.f71) Tryz.func71 rfl (by kernel_rfl) (by kernel_rfl) ?_
  rw [Tryz.ntmps71]
  conv => whnf
  repeat' (first | (refine CallN.many (pick_n hb hl hp hp') ?_; rintro _ ⟨k, hk1, hk2, rfl⟩) | (refine ElemN.any hx.all (by omega) ?_; rintro _ ⟨n, rfl, hn1, hn2⟩) | refine Need.go ?_ | refine ExtN.wr ?_ | refine finGo ?_) <;> try (conv => whnf)
  exact ⟨_, hn1, hn2, rfl⟩
theorem of_c {l : Nat} {σ : Heap} {bs xs : List CV} {p : Int} {m : Nat} (hb : BytesOk bs) (hl : bs.length ≤ 2000) (hp : 0 ≤ p) (hp' : p < 1099511627776) (hx : Each (fun x => ∃ t : ByteArray, x = .sc (.string t) ∧ t.size ≤ m) xs) (h1 : 1 ≤ xs.length) (h2 : xs.length ≤ 1000) :
    CRun Tryz.prog 77 [.ptr (.g l) 0, .vec xs] (rd σ l bs p) (fun out => ∃ t : ByteArray, t.size ≤ m ∧ out = .ret (.sc (.string t)) (rd σ l bs (p + 1))) := by
  refine crun_of (X := X) X_ok X_sat (body := bodyOf Tryz.f77) Tryz.func77 rfl (by kernel_rfl) (by kernel_rfl) ?_
  rw [Tryz.ntmps77]
  conv => whnf
  repeat' (first | (refine CallN.many (pick_n hb hl hp hp') ?_; rintro _ ⟨k, hk1, hk2, rfl⟩) | (refine ElemN.any hx.all (by omega) ?_; rintro _ ⟨t, rfl, ht⟩) | refine Need.go ?_ | refine ExtN.wr ?_ | refine finGo ?_) <;> try (conv => whnf)
  exact ⟨_, ht, rfl⟩
theorem open_c {σ : Heap} {bs : List CV} (hb : BytesOk bs) (h2 : bs.length ≤ 1048576) :
    CRun Tryz.prog 31 [.vec bs] σ (fun out => ∃ l bs', BytesOk bs' ∧ bs'.length ≤ 2000 ∧ out = .ret (.ptr (.g l) 0) (rd σ l bs' 0)) := by
  refine crun_of (X := G [10]) (G_ok _) (G_sat _) (body := bodyOf Tryz.f31) Tryz.func31 rfl (by kernel_rfl) (by kernel_rfl) ?_
  rw [Tryz.ntmps31]
  conv => whnf
  repeat' (first | refine Fork.dp (fun h => ?_) (fun h => ?_) | refine Need.go ?_ | refine AllocN.go (fun l hl => ?_) | refine finGo ?_) <;> try (conv => whnf)
  · exact ⟨l, (bs.take 2000).drop 0, fun x hx => hb x (List.mem_of_mem_take (List.mem_of_mem_drop hx)), by simp; omega, rfl⟩
  · exact ⟨l, bs, hb, by omega, rfl⟩
inductive Val where
  | mk (k n : Int) (t : ByteArray) (l : List Val)
mutual
def Val.cv : Val → CV
  | .mk k n t l => .agg [i64 k, i64 n, .sc (.string t), .vec (Val.cvs l)]
def Val.cvs : List Val → List CV
  | [] => []
  | v :: r => v.cv :: Val.cvs r
end
inductive Tame : Val → Prop
  | mk {k n : Int} {t : ByteArray} {l : List Val} (hk : -100 ≤ k ∧ k ≤ 100) (hn : -2000000000 ≤ n ∧ n ≤ 2000000000) (ht : t.size ≤ 100) (hl : l.length ≤ 100) (h : ∀ v ∈ l, Tame v) : Tame (.mk k n t l)
theorem Tame.inv {k n : Int} {t : ByteArray} {l : List Val} (h : Tame (.mk k n t l)) : (-100 ≤ k ∧ k ≤ 100) ∧ (-2000000000 ≤ n ∧ n ≤ 2000000000) ∧ t.size ≤ 100 ∧ l.length ≤ 100 ∧ ∀ v ∈ l, Tame v := by
  cases h with
  | mk h1 h2 h3 h4 h5 => exact ⟨h1, h2, h3, h4, h5⟩
theorem cvs_map (l : List Val) : Val.cvs l = l.map Val.cv := by
  induction l with
  | nil => rfl
  | cons v r ih => simp [Val.cvs, ih]
theorem cvs_append (l m : List Val) : Val.cvs (l ++ m) = Val.cvs l ++ Val.cvs m := by simp [cvs_map]
theorem cvs_length (l : List Val) : (Val.cvs l).length = l.length := by simp [cvs_map]
theorem many_c {σ : Heap} {s : ByteArray} {n : Nat} (hs : s.size ≤ 1) (hn' : n ≤ 40) :
    CRun Tryz.prog 150 [.sc (.string s), i64 n] σ (fun out => ∃ t : ByteArray, t.size ≤ n ∧ out = .ret (.sc (.string t)) σ) := by
  refine crun_of (X := X) X_ok X_sat (body := bodyOf Tryz.f150) Tryz.func150 rfl (by kernel_rfl) (by kernel_rfl) ?_
  rw [Tryz.ntmps150]
  conv => whnf
  have hN : s.size * n ≤ n := by have := Nat.mul_le_mul_right n hs; omega
  refine LoopN.rule (α := ByteArray × Nat × ByteArray) (fun a => ⟨20, [(0, .sc (.string a.1)), (1, i64 a.2.1), (4, .sc (.string ⟨#[]⟩)), (5, .sc (.string a.2.2))], []⟩) (fun _ => σ) (fun a => a.2.1)
    (fun a => a.2.2.size + a.1.size * a.2.1 ≤ n ∧ a.2.1 ≤ 40) ?_ (s, n, ⟨#[]⟩) ⟨by show 0 + s.size * n ≤ n; omega, hn'⟩ ?_
  · rintro ⟨s, m, out⟩ K ⟨h1, h2⟩ hK
    dsimp only at h1 h2 ⊢
    by_cases hm : m = 0
    · subst hm
      conv => whnf
      repeat' (first | refine Fork.np ?_ | refine finGo ?_) <;> try (conv => whnf)
      exact ⟨out, by omega, rfl⟩
    · have e1 : s.size ≤ s.size * m := Nat.le_mul_of_pos_right _ (by omega)
      have e2 : s.size * m = (s.size + s.size) * (m / 2) + s.size * (m % 2) := by
        rw [← Nat.two_mul, Nat.mul_comm 2, Nat.mul_assoc, ← Nat.mul_add, Nat.div_add_mod]
      have e3 : (m : Int).tmod 2 = ((m % 2 : Nat) : Int) := rfl
      have e4 : (m : Int).tdiv 2 = ((m / 2 : Nat) : Int) := rfl
      conv => whnf
      repeat' (first | refine Fork.yp ?_ | refine Fork.dp (fun h => ?_) (fun h => ?_) | refine Need.go ?_) <;> try (conv => whnf)
      · have e5 : m % 2 = 1 := by omega
        rw [e5] at e2
        refine hK (s ++ s, m / 2, out ++ s) _ _ ⟨?_, ?_⟩ (by simp only; omega) ?_
        · simp only [ByteArray.size_append]; omega
        · simp only; omega
        · (refine ⟨rfl, ?_, ?_, Sub.refl _⟩ <;> repeat' (first | exact EnvLe.nil | exact LocsLe.nil | refine EnvLe.cons _ _ _ ?_ ?_ | refine LocsLe.cons _ _ _ ?_ ?_ | exact CVle.same _ rfl | exact CVle.vec _ _ | exact CVle.nil | exact CVle.tok _ _ _ rfl rfl | exact ObLe.tok _ _ rfl | exact CVles.nil | refine CVles.cons ?_ ?_ | exact ObLe.same _ rfl rfl | refine ObLe.cells rfl ?_))
      · have e5 : m % 2 = 0 := by omega
        rw [e5] at e2
        refine hK (s ++ s, m / 2, out) _ _ ⟨?_, ?_⟩ (by simp only; omega) ?_
        · simp only [ByteArray.size_append]; omega
        · simp only; omega
        · (refine ⟨rfl, ?_, ?_, Sub.refl _⟩ <;> repeat' (first | exact EnvLe.nil | exact LocsLe.nil | refine EnvLe.cons _ _ _ ?_ ?_ | refine LocsLe.cons _ _ _ ?_ ?_ | exact CVle.same _ rfl | exact CVle.vec _ _ | exact CVle.nil | exact CVle.tok _ _ _ rfl rfl | exact ObLe.tok _ _ rfl | exact CVles.nil | refine CVles.cons ?_ ?_ | exact ObLe.same _ rfl rfl | refine ObLe.cells rfl ?_))
  · (refine ⟨rfl, ?_, ?_, Sub.refl _⟩ <;> repeat' (first | exact EnvLe.nil | exact LocsLe.nil | refine EnvLe.cons _ _ _ ?_ ?_ | refine LocsLe.cons _ _ _ ?_ ?_ | exact CVle.same _ rfl | exact CVle.vec _ _ | exact CVle.nil | exact CVle.tok _ _ _ rfl rfl | exact ObLe.tok _ _ rfl | exact CVles.nil | refine CVles.cons ?_ ?_ | exact ObLe.same _ rfl rfl | refine ObLe.cells rfl ?_))
def boolV : Bool → Val
  | true => .mk 1 1 ⟨#[]⟩ []
  | false => .mk 1 0 ⟨#[]⟩ []
theorem bool_c {σ : Heap} {b : Bool} : CRun Tryz.prog 115 [.sc (.bool b)] σ (· = .ret (boolV b).cv σ) := by
  refine crun_of (X := X) X_ok X_sat (body := bodyOf Tryz.f115) Tryz.func115 rfl (by kernel_rfl) (by kernel_rfl) ?_
  rw [Tryz.ntmps115]
  cases b
  · conv => whnf
    repeat' (first | refine finGo ?_) <;> try (conv => whnf)
    rfl
  · conv => whnf
    repeat' (first | refine finGo ?_) <;> try (conv => whnf)
    rfl
def VPost (σ : Heap) (l : Nat) (bs : List CV) (p : Int) (N : Nat) (out : COut) : Prop := ∃ v p', Tame v ∧ p ≤ p' ∧ p' ≤ p + N ∧ out = .ret (Val.cv v) (rd σ l bs p')
def cost : Nat → Nat
  | 0 => 4
  | d + 1 => 4 + 4 * cost d
theorem plain_c {l : Nat} {σ : Heap} {bs : List CV} (hb : BytesOk bs) (hl : bs.length ≤ 2000) : ∀ (d : Nat) {deep p : Int}, deep ≤ d + 1 → -10 ≤ deep → deep ≤ 1000 → 0 ≤ p → p + cost d < 1099511627776 →
    CRun Tryz.prog 149 [.ptr (.g l) 0, i64 deep] (rd σ l bs p) (VPost σ l bs p (cost d)) := by
  intro d
  induction d with
  | zero =>
    intro deep p hd hd' hd'' hp hp'
    simp only [cost] at hp' ⊢
    refine crun_of (X := X) X_ok X_sat (body := bodyOf Tryz.f149) Tryz.func149 rfl (by kernel_rfl) (by kernel_rfl) ?_
    rw [Tryz.ntmps149]
    conv => whnf
    repeat' (first | (refine CallN.many (pick_n hb hl (by omega) (by omega)) ?_; rintro _ ⟨k, hk1, hk2, rfl⟩) | (refine CallN.one bool_c ?_) | (refine CallN.many (many_c (n := 16) (by decide) (by omega)) ?_; rintro _ ⟨t, ht, rfl⟩) | (refine CallN.many (of_c (m := 16) hb hl (by omega) (by omega) ?_ (Nat.le_of_ble_eq_true rfl) (Nat.le_of_ble_eq_true rfl)) ?_; (repeat' (first | exact (trivial : True) | refine And.intro ?_ ?_ | refine ⟨_, rfl, ?_⟩ | omega | decide)); rintro _ ⟨t, ht, rfl⟩) | (refine CallN.many (one_c (lo := -1) (hi := 1000000000) hb hl (by omega) (by omega) ?_ (Nat.le_of_ble_eq_true rfl) (Nat.le_of_ble_eq_true rfl)) ?_; (repeat' (first | exact (trivial : True) | refine And.intro ?_ ?_ | refine ⟨_, rfl, ?_⟩ | omega | decide)); rintro _ ⟨n, hn1, hn2, rfl⟩) | refine Fork.np ?_ | refine Fork.dp (fun h => ?_) (fun h => ?_) | refine ExtN.ext ?_ | refine ExtN.wr ?_ | refine finGo ?_) <;> try (conv => whnf)
    all_goals exact ⟨.mk _ _ _ [], _, .mk (by omega) (by omega) (by first | omega | decide) (by decide) (by simp), by omega, by omega, rfl⟩
  | succ d ih =>
    intro deep p hd hd' hd'' hp hp'
    simp only [cost] at hp' ⊢
    refine crun_of (X := X) X_ok X_sat (body := bodyOf Tryz.f149) Tryz.func149 rfl (by kernel_rfl) (by kernel_rfl) ?_
    rw [Tryz.ntmps149]
    conv => whnf
    repeat' (first | (refine CallN.many (pick_n hb hl (by omega) (by omega)) ?_; rintro _ ⟨k, hk1, hk2, rfl⟩) | (refine CallN.one bool_c ?_) | (refine CallN.many (many_c (n := 16) (by decide) (by omega)) ?_; rintro _ ⟨t, ht, rfl⟩) | (refine CallN.many (of_c (m := 16) hb hl (by omega) (by omega) ?_ (Nat.le_of_ble_eq_true rfl) (Nat.le_of_ble_eq_true rfl)) ?_; (repeat' (first | exact (trivial : True) | refine And.intro ?_ ?_ | refine ⟨_, rfl, ?_⟩ | omega | decide)); rintro _ ⟨t, ht, rfl⟩) | (refine CallN.many (one_c (lo := -1) (hi := 1000000000) hb hl (by omega) (by omega) ?_ (Nat.le_of_ble_eq_true rfl) (Nat.le_of_ble_eq_true rfl)) ?_; (repeat' (first | exact (trivial : True) | refine And.intro ?_ ?_ | refine ⟨_, rfl, ?_⟩ | omega | decide)); rintro _ ⟨n, hn1, hn2, rfl⟩) | refine Fork.dp (fun h => ?_) (fun h => ?_) | refine ExtN.ext ?_ | refine ExtN.wr ?_ | refine finGo ?_) <;> try (conv => whnf)
    all_goals try exact ⟨.mk _ _ _ [], _, .mk (by omega) (by omega) (by first | omega | decide) (by decide) (by simp), by omega, by omega, rfl⟩
    refine LoopN.rule (α := Int × List Val × Int) (fun a => ⟨48, [(0, .ptr (.g l) 0), (1, i64 deep), (4, .ptr (.f 4) 0), (5, .ptr (.f 5) 0), (6, i64 a.1)],
        [(4, .cells [i64 0, i64 0, .sc (.string ⟨#[]⟩), .nil]), (5, .cells [i64 4, i64 0, .sc (.string ⟨#[]⟩), .avec 41 (Val.cvs a.2.1)]), (41, .tok 30 4 (Val.cvs a.2.1).length)]⟩)
      (fun a => rd σ l bs a.2.2) (fun a => a.1.toNat) (fun a => 0 ≤ a.1 ∧ a.2.1.length + a.1 ≤ 3 ∧ (∀ v ∈ a.2.1, Tame v) ∧ p ≤ a.2.2 ∧ a.2.2 + a.1 * cost d ≤ p + 2 + 3 * cost d) ?_ (k, [], p + 1 + 1) ⟨by omega, by simp; omega, by simp, by simp only; omega, ?_⟩ ?_
    · rintro ⟨n, vs, q⟩ K ⟨h1, h2, h3, h4, h5⟩ hK
      dsimp only at h1 h2 h3 h4 h5 ⊢
      have e1 : (n - 1) * (cost d : Int) = n * cost d - cost d := by rw [Int.sub_mul, Int.one_mul]
      have e2 : 0 ≤ n * (cost d : Int) := Int.mul_nonneg h1 (by omega)
      have e3 := cvs_length vs
      conv => whnf
      repeat' (first | (refine CallN.many (ih (by omega) (by omega) (by omega) (by omega) (by omega)) ?_; rintro _ ⟨⟨vk, vn, vt, vl⟩, p', hv, hp1, hp2, rfl⟩) | refine OrdN.go ?_ | refine Fork.nb ?_ | refine Fork.dp (fun h => ?_) (fun h => ?_) | refine Need.ap1 ?_ | refine Need.go ?_ | refine Need.draw ?_ | refine ExtN.wr ?_ | refine finGo ?_) <;> try (conv => whnf)
      · refine hK (n - 1, vs ++ [.mk vk vn vt vl], p') _ _ ⟨by simp only; omega, by simp only [List.length_append, List.length_cons, List.length_nil]; omega, ?_, by simp only; omega, by simp only; omega⟩ (by simp only; omega) ?_
        · intro v h
          rcases List.mem_append.1 h with h | h
          · exact h3 v h
          · rcases List.mem_singleton.1 h with rfl; exact hv
        · dsimp only
          rw [cvs_append, List.length_append]
          (refine ⟨rfl, ?_, ?_, Sub.refl _⟩ <;> repeat' (first | exact EnvLe.nil | exact LocsLe.nil | refine EnvLe.cons _ _ _ ?_ ?_ | refine LocsLe.cons _ _ _ ?_ ?_ | exact CVle.same _ rfl | exact CVle.vec _ _ | exact CVle.nil | exact CVle.tok _ _ _ rfl rfl | exact ObLe.tok _ _ rfl | exact CVles.nil | refine CVles.cons ?_ ?_ | exact ObLe.same _ rfl rfl | refine ObLe.cells rfl ?_))
      · refine ⟨.mk 4 0 _ vs, q, .mk (by omega) (by omega) (by decide) (by omega) h3, by omega, by omega, rfl⟩
    · have e0 : k * (cost d : Int) ≤ 3 * cost d := Int.mul_le_mul_of_nonneg_right (by omega) (by omega)
      simp only; omega
    · (refine ⟨rfl, ?_, ?_, Sub.refl _⟩ <;> repeat' (first | exact EnvLe.nil | exact LocsLe.nil | refine EnvLe.cons _ _ _ ?_ ?_ | refine LocsLe.cons _ _ _ ?_ ?_ | exact CVle.same _ rfl | exact CVle.vec _ _ | exact CVle.nil | exact CVle.tok _ _ _ rfl rfl | exact ObLe.tok _ _ rfl | exact CVles.nil | refine CVles.cons ?_ ?_ | exact ObLe.same _ rfl rfl | refine ObLe.cells rfl ?_))
def costV : Nat → Nat
  | 0 => 8 + cost 0
  | d + 1 => 8 + cost (d + 1) + 4 * costV d
theorem value_c {l : Nat} {σ : Heap} {bs : List CV} (hb : BytesOk bs) (hl : bs.length ≤ 2000) : ∀ (d : Nat) {deep p : Int}, deep ≤ d + 1 → -10 ≤ deep → deep ≤ 1000 → 0 ≤ p → p + costV d < 1099511627776 →
    CRun Tryz.prog 75 [.ptr (.g l) 0, i64 deep] (rd σ l bs p) (VPost σ l bs p (costV d)) := by
  intro d
  induction d with
  | zero =>
    intro deep p hd hd' hd'' hp hp'
    simp only [costV] at hp' ⊢
    refine crun_of (X := X) X_ok X_sat (body := bodyOf Tryz.f75) Tryz.func75 rfl (by kernel_rfl) (by kernel_rfl) ?_
    rw [Tryz.ntmps75]
    conv => whnf
    repeat' (first | (refine CallN.many (pick_n hb hl (by omega) (by omega)) ?_; rintro _ ⟨k, hk1, hk2, rfl⟩) | (refine CallN.many (plain_c hb hl 0 (by omega) (by omega) (by omega) (by omega) (by omega)) ?_; rintro _ ⟨⟨vk, vn, vt, vl⟩, p', hv, hp1, hp2, rfl⟩) | refine Fork.np ?_ | refine Fork.dp (fun h => ?_) (fun h => ?_) | refine ExtN.wr ?_ | refine finGo ?_) <;> try (conv => whnf)
    all_goals first
      | exact ⟨.mk _ _ _ [], _, .mk (by omega) (by omega) (by first | omega | decide) (by decide) (by simp), by omega, by omega, rfl⟩
      | exact ⟨.mk vk vn vt vl, p', hv, by omega, by omega, rfl⟩
  | succ d ih =>
    intro deep p hd hd' hd'' hp hp'
    simp only [costV] at hp' ⊢
    refine crun_of (X := X) X_ok X_sat (body := bodyOf Tryz.f75) Tryz.func75 rfl (by kernel_rfl) (by kernel_rfl) ?_
    rw [Tryz.ntmps75]
    conv => whnf
    repeat' (first | (refine CallN.many (pick_n hb hl (by omega) (by omega)) ?_; rintro _ ⟨k, hk1, hk2, rfl⟩) | (refine CallN.many (plain_c hb hl (d + 1) (by omega) (by omega) (by omega) (by omega) (by omega)) ?_; rintro _ ⟨⟨vk, vn, vt, vl⟩, p', hv, hp1, hp2, rfl⟩) | refine Fork.dp (fun h => ?_) (fun h => ?_) | refine ExtN.wr ?_ | refine finGo ?_) <;> try (conv => whnf)
    all_goals try first
      | exact ⟨.mk _ _ _ [], _, .mk (by omega) (by omega) (by first | omega | decide) (by decide) (by simp), by omega, by omega, rfl⟩
      | exact ⟨.mk vk vn vt vl, p', hv, by omega, by omega, rfl⟩
    refine LoopN.rule (α := Int × List Val × Int) (fun a => ⟨46, [(0, .ptr (.g l) 0), (1, i64 deep), (4, .ptr (.f 4) 0), (5, .ptr (.f 5) 0), (6, i64 a.1)],
        [(4, .cells [i64 0, i64 0, .sc (.string ⟨#[]⟩), .nil]), (5, .cells [i64 4, i64 0, .sc (.string ⟨#[]⟩), .avec 40 (Val.cvs a.2.1)]), (40, .tok 30 4 (Val.cvs a.2.1).length)]⟩)
      (fun a => rd σ l bs a.2.2) (fun a => a.1.toNat) (fun a => 0 ≤ a.1 ∧ a.2.1.length + a.1 ≤ 3 ∧ (∀ v ∈ a.2.1, Tame v) ∧ p ≤ a.2.2 ∧ a.2.2 + a.1 * costV d ≤ p + 2 + 3 * costV d) ?_ (k, [], p + 1 + 1) ⟨by omega, by simp; omega, by simp, by simp only; omega, ?_⟩ ?_
    · rintro ⟨n, vs, q⟩ K ⟨h1, h2, h3, h4, h5⟩ hK
      dsimp only at h1 h2 h3 h4 h5 ⊢
      have e1 : (n - 1) * (costV d : Int) = n * costV d - costV d := by rw [Int.sub_mul, Int.one_mul]
      have e2 : 0 ≤ n * (costV d : Int) := Int.mul_nonneg h1 (by omega)
      have e3 := cvs_length vs
      conv => whnf
      repeat' (first | (refine CallN.many (ih (by omega) (by omega) (by omega) (by omega) (by omega)) ?_; rintro _ ⟨⟨vk, vn, vt, vl⟩, p', hv, hp1, hp2, rfl⟩) | refine OrdN.go ?_ | refine Fork.nb ?_ | refine Fork.dp (fun h => ?_) (fun h => ?_) | refine Need.ap1 ?_ | refine Need.go ?_ | refine Need.draw ?_ | refine ExtN.wr ?_ | refine finGo ?_) <;> try (conv => whnf)
      · refine hK (n - 1, vs ++ [.mk vk vn vt vl], p') _ _ ⟨by simp only; omega, by simp only [List.length_append, List.length_cons, List.length_nil]; omega, ?_, by simp only; omega, by simp only; omega⟩ (by simp only; omega) ?_
        · intro v h
          rcases List.mem_append.1 h with h | h
          · exact h3 v h
          · rcases List.mem_singleton.1 h with rfl; exact hv
        · dsimp only
          rw [cvs_append, List.length_append]
          (refine ⟨rfl, ?_, ?_, Sub.refl _⟩ <;> repeat' (first | exact EnvLe.nil | exact LocsLe.nil | refine EnvLe.cons _ _ _ ?_ ?_ | refine LocsLe.cons _ _ _ ?_ ?_ | exact CVle.same _ rfl | exact CVle.vec _ _ | exact CVle.nil | exact CVle.tok _ _ _ rfl rfl | exact ObLe.tok _ _ rfl | exact CVles.nil | refine CVles.cons ?_ ?_ | exact ObLe.same _ rfl rfl | refine ObLe.cells rfl ?_))
      · refine ⟨.mk 4 0 _ vs, q, .mk (by omega) (by omega) (by decide) (by omega) h3, by omega, by omega, rfl⟩
    · have e0 : k * (costV d : Int) ≤ 3 * costV d := Int.mul_le_mul_of_nonneg_right (by omega) (by omega)
      simp only; omega
    · (refine ⟨rfl, ?_, ?_, Sub.refl _⟩ <;> repeat' (first | exact EnvLe.nil | exact LocsLe.nil | refine EnvLe.cons _ _ _ ?_ ?_ | refine LocsLe.cons _ _ _ ?_ ?_ | exact CVle.same _ rfl | exact CVle.vec _ _ | exact CVle.nil | exact CVle.tok _ _ _ rfl rfl | exact ObLe.tok _ _ rfl | exact CVles.nil | refine CVles.cons ?_ ?_ | exact ObLe.same _ rfl rfl | refine ObLe.cells rfl ?_))
theorem any_c {l : Nat} {σ : Heap} {bs : List CV} (hb : BytesOk bs) (hl : bs.length ≤ 2000) {p : Int} (hp : 0 ≤ p) (hp' : p < 549755813888) :
    CRun Tryz.prog 78 [.ptr (.g l) 0] (rd σ l bs p) (VPost σ l bs p 500) := by
  have c2 : costV 2 = 396 := rfl
  have c0 : cost 0 = 4 := rfl
  refine crun_of (X := X) X_ok X_sat (body := bodyOf Tryz.f78) Tryz.func78 rfl (by kernel_rfl) (by kernel_rfl) ?_
  rw [Tryz.ntmps78]
  conv => whnf
  repeat' (first | (refine CallN.many (value_c hb hl 2 (by omega) (by omega) (by omega) (by omega) (by omega)) ?_; rintro _ ⟨⟨vk, vn, vt, vl⟩, p', hv, hp1, hp2, rfl⟩; have ⟨a1, a2, a3, a4, a5⟩ := hv.inv) | (refine CallN.many (pick_n hb hl (by omega) (by omega)) ?_; rintro _ ⟨k, hk1, hk2, rfl⟩) | (refine CallN.many (many_c (n := 17) (by decide) (by omega)) ?_; rintro _ ⟨t, ht, rfl⟩) | (refine CallN.many (of_c (m := 17) hb hl (by omega) (by omega) ?_ (Nat.le_of_ble_eq_true rfl) (Nat.le_of_ble_eq_true rfl)) ?_; (repeat' (first | exact (trivial : True) | refine And.intro ?_ ?_ | refine ⟨_, rfl, ?_⟩ | omega | decide)); rintro _ ⟨t, ht, rfl⟩) | (refine CallN.many (one_c (lo := -1000000001) (hi := 1000000001) hb hl (by omega) (by omega) ?_ (Nat.le_of_ble_eq_true rfl) (Nat.le_of_ble_eq_true rfl)) ?_; (repeat' (first | exact (trivial : True) | refine And.intro ?_ ?_ | refine ⟨_, rfl, ?_⟩ | omega | decide)); rintro _ ⟨n, hn1, hn2, rfl⟩) | refine Fork.dp (fun h => ?_) (fun h => ?_) | refine Need.go ?_ | refine ExtN.ext ?_ | refine ExtN.wr ?_ | refine finGo ?_) <;> try (conv => whnf)
  · exact ⟨.mk _ _ _ vl, _, .mk (by omega) (by omega) (by omega) a4 a5, by omega, by omega, rfl⟩
  · exact ⟨.mk _ _ _ vl, _, .mk (by omega) (by omega) (by omega) a4 a5, by omega, by omega, rfl⟩
  · exact ⟨.mk _ _ _ vl, _, .mk (by omega) (by omega) (by omega) a4 a5, by omega, by omega, rfl⟩
  · exact ⟨.mk 4 0 ⟨#[]⟩ [.mk vk vn vt vl], _, .mk (by omega) (by omega) (by decide) (by simp) (by simpa using hv), by omega, by omega, rfl⟩
  · refine LoopN.rule (α := Int × List Val × Int) (fun a => ⟨51, [(0, .ptr (.g l) 0), (2, .ptr (.f 2) 0), (3, .ptr (.f 3) 0), (4, i64 a.1)],
        [(2, .cells [i64 0, i64 0, .sc (.string ⟨#[]⟩), .nil]), (3, .cells [i64 4, i64 0, .sc (.string ⟨#[]⟩), .avec 48 (Val.cvs a.2.1)]), (48, .tok 30 4 (Val.cvs a.2.1).length)]⟩)
      (fun a => rd σ l bs a.2.2) (fun a => a.1.toNat) (fun a => 0 ≤ a.1 ∧ a.2.1.length + a.1 ≤ 8 ∧ (∀ v ∈ a.2.1, Tame v) ∧ p ≤ a.2.2 ∧ a.2.2 + a.1 * 4 ≤ p' + 2 + 32) ?_ (6 + k, [], p' + 1 + 1) ⟨by simp only; omega, by simp; omega, by simp, by simp only; omega, by simp only; omega⟩ ?_
    · rintro ⟨n, vs, q⟩ K ⟨h1, h2, h3, h4, h5⟩ hK
      dsimp only at h1 h2 h3 h4 h5 ⊢
      have e3 := cvs_length vs
      conv => whnf
      repeat' (first | (refine CallN.many (plain_c hb hl 0 (by omega) (by omega) (by omega) (by omega) (by omega)) ?_; rintro _ ⟨⟨vk, vn, vt, vl⟩, p', hv, hp1, hp2, rfl⟩) | refine OrdN.go ?_ | refine Fork.nb ?_ | refine Fork.dp (fun h => ?_) (fun h => ?_) | refine Need.ap1 ?_ | refine Need.go ?_ | refine Need.draw ?_ | refine ExtN.wr ?_ | refine finGo ?_) <;> try (conv => whnf)
      · refine hK (n - 1, vs ++ [.mk vk vn vt vl], p') _ _ ⟨by simp only; omega, by simp only [List.length_append, List.length_cons, List.length_nil]; omega, ?_, by simp only; omega, by simp only; omega⟩ (by simp only; omega) ?_
        · intro v h
          rcases List.mem_append.1 h with h | h
          · exact h3 v h
          · rcases List.mem_singleton.1 h with rfl; exact hv
        · dsimp only
          rw [cvs_append, List.length_append]
          (refine ⟨rfl, ?_, ?_, Sub.refl _⟩ <;> repeat' (first | exact EnvLe.nil | exact LocsLe.nil | refine EnvLe.cons _ _ _ ?_ ?_ | refine LocsLe.cons _ _ _ ?_ ?_ | exact CVle.same _ rfl | exact CVle.vec _ _ | exact CVle.nil | exact CVle.tok _ _ _ rfl rfl | exact ObLe.tok _ _ rfl | exact CVles.nil | refine CVles.cons ?_ ?_ | exact ObLe.same _ rfl rfl | refine ObLe.cells rfl ?_))
      · refine ⟨.mk 4 0 _ vs, q, .mk (by omega) (by omega) (by decide) (by omega) h3, by omega, by omega, rfl⟩
    · (refine ⟨rfl, ?_, ?_, Sub.refl _⟩ <;> repeat' (first | exact EnvLe.nil | exact LocsLe.nil | refine EnvLe.cons _ _ _ ?_ ?_ | refine LocsLe.cons _ _ _ ?_ ?_ | exact CVle.same _ rfl | exact CVle.vec _ _ | exact CVle.nil | exact CVle.tok _ _ _ rfl rfl | exact ObLe.tok _ _ rfl | exact CVles.nil | refine CVles.cons ?_ ?_ | exact ObLe.same _ rfl rfl | refine ObLe.cells rfl ?_))
  · exact ⟨.mk _ _ _ vl, _, .mk (by omega) (by omega) (by omega) a4 a5, by omega, by omega, rfl⟩
theorem cvs_get {l : List Val} {i : Nat} (hi : i < l.length) : ∃ v, v ∈ l ∧ (Val.cvs l)[i]? = some (Val.cv v) ∧ l.take (i + 1) = l.take i ++ [v] := by
  refine ⟨l[i], List.getElem_mem hi, ?_, by rw [List.take_add_one, List.getElem?_eq_getElem hi]; rfl⟩
  rw [cvs_map, List.getElem?_map, List.getElem?_eq_getElem hi]; rfl
theorem copy_c {σ : Heap} {v : Val} (hv : Tame v) : CRun Tryz.prog 176 [v.cv] σ (· = .ret v.cv σ) := by
  induction hv with
  | @mk vk vn vt vl hk hn ht hl h ih =>
    refine crun_of (X := X) X_ok X_sat (body := bodyOf Tryz.f176) Tryz.func176 rfl (by kernel_rfl) (by kernel_rfl) ?_
    rw [Tryz.ntmps176]
    conv => whnf
    refine LoopN.rule (α := Nat) (fun i => ⟨31, [(1, .ptr (.f 1) 0), (2, .ptr (.f 2) 0), (3, .ptr (.f 3) 0), (4, i64 i)],
        [(1, .cells [i64 vk, i64 vn, .sc (.string vt), .vec (Val.cvs vl)]), (2, .cells [i64 0, i64 0, .sc (.string ⟨#[]⟩), .nil]), (3, .cells [i64 vk, i64 vn, .sc (.string vt), .avec 28 (Val.cvs (vl.take i))]), (28, .tok 30 4 (Val.cvs (vl.take i)).length)]⟩)
      (fun _ => σ) (fun i => vl.length - i) (fun i => i ≤ vl.length) ?_ 0 (Nat.zero_le _) ?_
    · intro i K h1 hK
      dsimp only at h1 ⊢
      have e3 := cvs_length vl
      have e4 : (Val.cvs (vl.take i)).length = i := by rw [cvs_length, List.length_take]; omega
      by_cases hi : i < vl.length
      · obtain ⟨⟨wk, wn, wt, wl⟩, hm, hg, htk⟩ := cvs_get hi
        have hK := hK (i + 1)
        rw [htk, cvs_append, List.length_append] at hK
        conv => whnf
        repeat' (first | (refine CallN.one (ih _ hm) ?_) | refine OrdN.go ?_ | refine Fork.yp ?_ | refine Fork.nb ?_ | refine Need.ap1 ?_ | refine Need.go ?_ | refine Need.draw ?_ | refine ElemN.go ?_ | refine ExtN.ext ?_) <;> try (conv => whnf)
        refine hK _ _ (by omega) (by omega) ?_
        (refine ⟨rfl, ?_, ?_, Sub.refl _⟩ <;> repeat' (first | exact EnvLe.nil | exact LocsLe.nil | refine EnvLe.cons _ _ _ ?_ ?_ | refine LocsLe.cons _ _ _ ?_ ?_ | exact CVle.same _ rfl | exact CVle.vec _ _ | exact CVle.nil | exact CVle.tok _ _ _ rfl rfl | exact ObLe.tok _ _ rfl | exact CVles.nil | refine CVles.cons ?_ ?_ | exact ObLe.same _ rfl rfl | refine ObLe.cells rfl ?_))
      · conv => whnf
        repeat' (first | refine Fork.np ?_ | refine finGo ?_) <;> try (conv => whnf)
        have : vl.take i = vl := List.take_of_length_le (by omega)
        rw [this]
        rfl
    · (refine ⟨rfl, ?_, ?_, Sub.refl _⟩ <;> repeat' (first | exact EnvLe.nil | exact LocsLe.nil | refine EnvLe.cons _ _ _ ?_ ?_ | refine LocsLe.cons _ _ _ ?_ ?_ | exact CVle.same _ rfl | exact CVle.vec _ _ | exact CVle.nil | exact CVle.tok _ _ _ rfl rfl | exact ObLe.tok _ _ rfl | exact CVles.nil | refine CVles.cons ?_ ?_ | exact ObLe.same _ rfl rfl | refine ObLe.cells rfl ?_))
def Two (out : COut) : Prop := ∃ a b σ', Tame a ∧ Tame b ∧ out = .ret (.tup [Val.cv a, Val.cv b]) σ'
def byteOk (c : UInt8) : Bool := !(decide ((c.toNat : Int) < 32) || decide (126 < (c.toNat : Int)) || decide ((c.toNat : Int) = 39))
def textOk (t : ByteArray) : Bool := decide (t.size ≤ 16) && (List.range t.size).all fun i => byteOk (t.data.getD i 0)
theorem textOk_no {t : ByteArray} {i : Nat} (hi : i < t.size) (h : byteOk (t.data.getD i 0) = false) : textOk t = false := by
  unfold textOk
  rw [Bool.and_eq_false_iff]
  right
  rw [List.all_eq_false]
  exact ⟨i, List.mem_range.2 hi, by rw [h]; simp⟩
theorem textOk_yes {t : ByteArray} (hs : t.size ≤ 16) (h : ∀ i, i < t.size → byteOk (t.data.getD i 0) = true) : textOk t = true := by
  unfold textOk
  rw [Bool.and_eq_true, List.all_eq_true]
  exact ⟨decide_eq_true hs, fun i hi => h i (List.mem_range.1 hi)⟩
theorem ansB {b b' : Bool} {σ : Heap} (h : b' = b) : COut.ret (.sc (.bool b)) σ = .ret (.sc (.bool b')) σ := by rw [h]
theorem textFits_c {σ : Heap} {t : ByteArray} (ht : t.size ≤ 1000000000) : CRun Tryz.prog 112 [.sc (.string t)] σ (· = .ret (.sc (.bool (textOk t))) σ) := by
  refine crun_of (X := X) X_ok X_sat (body := bodyOf Tryz.f112) Tryz.func112 rfl (by kernel_rfl) (by kernel_rfl) ?_
  rw [Tryz.ntmps112]
  by_cases hs : t.size ≤ 16
  · conv => whnf
    repeat' (first | refine Fork.np ?_) <;> try (conv => whnf)
    refine LoopN.rule (α := Nat) (fun i => ⟨29, [(0, .sc (.string t)), (2, .sc (.bool false)), (3, i64 i)], []⟩)
      (fun _ => σ) (fun i => t.size - i) (fun i => i ≤ t.size ∧ ∀ j, j < i → byteOk (t.data.getD j 0) = true) ?_ 0 ⟨Nat.zero_le _, by omega⟩ ?_
    · rintro i K ⟨h1, h2⟩ hK
      dsimp only at h1 h2 ⊢
      by_cases hi : i < t.size
      · have hb : byteOk (t.data.getD i 0) = !(decide (((t.data.getD (i : Int).toNat 0).toNat : Int) < 32) || decide (126 < ((t.data.getD (i : Int).toNat 0).toNat : Int)) || decide (((t.data.getD (i : Int).toNat 0).toNat : Int) = 39)) := rfl
        conv => whnf
        repeat' (first | refine Fork.yp ?_ | refine Fork.dp (fun h => ?_) (fun h => ?_) | refine Need.go ?_ | refine finGo ?_) <;> try (conv => whnf)
        all_goals first
          | (refine hK (i + 1) _ _ ⟨by omega, fun j hj => ?_⟩ (by omega) ?_)
          | (exact ansB (textOk_no hi (by rw [hb]; simp only [Bool.not_eq_false', Bool.or_eq_true, decide_eq_true_eq]; omega)))
        · by_cases hj' : j < i
          · exact h2 j hj'
          · have : j = i := by omega
            rw [this, hb]; simp only [Bool.not_eq_true', Bool.or_eq_false_iff, decide_eq_false_iff_not]; omega
        · (refine ⟨rfl, ?_, ?_, Sub.refl _⟩ <;> repeat' (first | exact EnvLe.nil | exact LocsLe.nil | refine EnvLe.cons _ _ _ ?_ ?_ | refine LocsLe.cons _ _ _ ?_ ?_ | exact CVle.same _ rfl | exact CVle.vec _ _ | exact CVle.nil | exact CVle.tok _ _ _ rfl rfl | exact ObLe.tok _ _ rfl | exact CVles.nil | refine CVles.cons ?_ ?_ | exact ObLe.same _ rfl rfl | refine ObLe.cells rfl ?_))
      · conv => whnf
        repeat' (first | refine Fork.np ?_ | refine finGo ?_) <;> try (conv => whnf)
        exact ansB (textOk_yes hs (fun j hj => h2 j (by omega)))
    · (refine ⟨rfl, ?_, ?_, Sub.refl _⟩ <;> repeat' (first | exact EnvLe.nil | exact LocsLe.nil | refine EnvLe.cons _ _ _ ?_ ?_ | refine LocsLe.cons _ _ _ ?_ ?_ | exact CVle.same _ rfl | exact CVle.vec _ _ | exact CVle.nil | exact CVle.tok _ _ _ rfl rfl | exact ObLe.tok _ _ rfl | exact CVles.nil | refine CVles.cons ?_ ?_ | exact ObLe.same _ rfl rfl | refine ObLe.cells rfl ?_))
  · conv => whnf
    repeat' (first | refine Fork.yp ?_ | refine finGo ?_) <;> try (conv => whnf)
    have : textOk t = false := by unfold textOk; rw [decide_eq_false hs]; rfl
    exact ansB this
theorem textFits_v {σ : Heap} {t : ByteArray} {b : Bool} (hb : textOk t = b) (ht : t.size ≤ 1000000000) : CRun Tryz.prog 112 [.sc (.string t)] σ (· = .ret (.sc (.bool b)) σ) := hb ▸ textFits_c ht
theorem l1Text_c {σ : Heap} {t : ByteArray} (ht : t.size ≤ 1000000000) : CRun Tryz.prog 223 [.sc (.string t)] σ (· = .ret (.sc (.bool (textOk t))) σ) := by
  refine crun_of (X := X) X_ok X_sat (body := bodyOf Tryz.f223) Tryz.func223 rfl (by kernel_rfl) (by kernel_rfl) ?_
  rw [Tryz.ntmps223]
  conv => whnf
  refine LoopN.rule (α := Nat) (fun i => ⟨29, [(0, .sc (.string t)), (2, .sc (.bool false)), (3, i64 i)], []⟩)
    (fun _ => σ) (fun i => t.size - i) (fun i => i ≤ t.size ∧ ∀ j, j < i → byteOk (t.data.getD j 0) = true) ?_ 0 ⟨Nat.zero_le _, by omega⟩ ?_
  · rintro i K ⟨h1, h2⟩ hK
    dsimp only at h1 h2 ⊢
    by_cases hi : i < t.size
    · have hb : byteOk (t.data.getD i 0) = !(decide (((t.data.getD (i : Int).toNat 0).toNat : Int) < 32) || decide (126 < ((t.data.getD (i : Int).toNat 0).toNat : Int)) || decide (((t.data.getD (i : Int).toNat 0).toNat : Int) = 39)) := rfl
      conv => whnf
      repeat' (first | refine Fork.yp ?_ | refine Fork.dp (fun h => ?_) (fun h => ?_) | refine Need.go ?_ | refine finGo ?_) <;> try (conv => whnf)
      all_goals first
        | (refine hK (i + 1) _ _ ⟨by omega, fun j hj => ?_⟩ (by omega) ?_)
        | (exact ansB (textOk_no hi (by rw [hb]; simp only [Bool.not_eq_false', Bool.or_eq_true, decide_eq_true_eq]; omega)))
      · by_cases hj' : j < i
        · exact h2 j hj'
        · have : j = i := by omega
          rw [this, hb]; simp only [Bool.not_eq_true', Bool.or_eq_false_iff, decide_eq_false_iff_not]; omega
      · (refine ⟨rfl, ?_, ?_, Sub.refl _⟩ <;> repeat' (first | exact EnvLe.nil | exact LocsLe.nil | refine EnvLe.cons _ _ _ ?_ ?_ | refine LocsLe.cons _ _ _ ?_ ?_ | exact CVle.same _ rfl | exact CVle.vec _ _ | exact CVle.nil | exact CVle.tok _ _ _ rfl rfl | exact ObLe.tok _ _ rfl | exact CVles.nil | refine CVles.cons ?_ ?_ | exact ObLe.same _ rfl rfl | refine ObLe.cells rfl ?_))
    · conv => whnf
      repeat' (first | refine Fork.np ?_ | refine Fork.dp (fun h => ?_) (fun h => ?_) | refine finGo ?_) <;> try (conv => whnf)
      · exact ansB (textOk_yes (by omega) (fun j hj => h2 j (by omega)))
      · have : textOk t = false := by unfold textOk; rw [decide_eq_false (by omega)]; rfl
        exact ansB this
  · (refine ⟨rfl, ?_, ?_, Sub.refl _⟩ <;> repeat' (first | exact EnvLe.nil | exact LocsLe.nil | refine EnvLe.cons _ _ _ ?_ ?_ | refine LocsLe.cons _ _ _ ?_ ?_ | exact CVle.same _ rfl | exact CVle.vec _ _ | exact CVle.nil | exact CVle.tok _ _ _ rfl rfl | exact ObLe.tok _ _ rfl | exact CVles.nil | refine CVles.cons ?_ ?_ | exact ObLe.same _ rfl rfl | refine ObLe.cells rfl ?_))
theorem l1Text_v {σ : Heap} {t : ByteArray} {b : Bool} (hb : textOk t = b) (ht : t.size ≤ 1000000000) : CRun Tryz.prog 223 [.sc (.string t)] σ (· = .ret (.sc (.bool b)) σ) := hb ▸ l1Text_c ht
theorem in_c {σ : Heap} {n lo hi : Int} : CRun Tryz.prog 54 [i64 n, i64 lo, i64 hi] σ (· = .ret (.sc (.bool (decide (lo ≤ n ∧ n ≤ hi)))) σ) := by
  refine crun_of (X := X) X_ok X_sat (body := bodyOf Tryz.f54) Tryz.func54 rfl (by kernel_rfl) (by kernel_rfl) ?_
  rw [Tryz.ntmps54]
  conv => whnf
  repeat' (first | refine Fork.dp (fun h => ?_) (fun h => ?_) | refine finGo ?_) <;> try (conv => whnf)
  · rw [decide_eq_true (by omega)]
  · rw [decide_eq_false (by omega)]
  · rw [decide_eq_false (by omega)]
mutual
def okV : Int → Val → Bool
  | d, .mk k n t l => decide (1 ≤ d) && (
    if k = 0 then decide (n = 0) && decide (t = ⟨#[]⟩) && decide (l.length = 0)
    else if k = 1 then decide (0 ≤ n ∧ n ≤ 1) && decide (t = ⟨#[]⟩) && decide (l.length = 0)
    else if k = 2 then decide (-1000000000 ≤ n ∧ n ≤ 1000000000) && decide (t = ⟨#[]⟩) && decide (l.length = 0)
    else if k = 3 then decide (n = 0) && textOk t && decide (l.length = 0)
    else if k = 5 ∨ k = 6 then decide (0 ≤ n ∧ n ≤ 1000000000) && decide (t = ⟨#[]⟩) && decide (l.length = 0)
    else if k = 4 then decide (n = 0) && decide (t = ⟨#[]⟩) && decide (l.length ≤ 6) && okL (d - 1) l
    else false)
def okL : Int → List Val → Bool
  | _, [] => true
  | d, v :: r => okV d v && okL d r
end
theorem okL_all {d : Int} {l : List Val} : okL d l = l.all (okV d) := by
  induction l with
  | nil => rfl
  | cons v r ih => simp [okL, ih]
theorem fits_c {σ : Heap} {v : Val} (hv : Tame v) : ∀ {d : Int}, -10 ≤ d → d ≤ 1000 → CRun Tryz.prog 49 [v.cv, i64 d] σ (· = .ret (.sc (.bool (okV d v))) σ) := by
  induction hv with
  | @mk k n t l hk hn ht hl h ih =>
    intro d hd hd'
    have e3 := cvs_length l
    refine crun_of (X := X) X_ok X_sat (body := bodyOf Tryz.f49) Tryz.func49 rfl (by kernel_rfl) (by kernel_rfl) ?_
    rw [Tryz.ntmps49]
    have key : ∀ b, okV d (.mk k n t l) = b → COut.ret (.sc (.bool b)) σ = .ret (.sc (.bool (okV d (.mk k n t l)))) σ := fun b h => ansB h
    by_cases d1 : d < 1
    · conv => whnf
      repeat' (first | refine Fork.yp ?_ | refine finGo ?_) <;> try (conv => whnf)
      exact key _ (by simp only [okV]; rw [decide_eq_false (by omega)]; rfl)
    have d2 : decide (1 ≤ d) = true := decide_eq_true (by omega)
    by_cases k0 : k = 0
    · subst k0
      have okk : okV d (.mk 0 n t l) = (decide (n = 0) && decide (t = ⟨#[]⟩) && decide (l.length = 0)) := by simp only [okV, d2]; rfl
      conv => whnf
      repeat' (first | refine Fork.yp ?_ | refine Fork.np ?_ | refine Fork.dp (fun h => ?_) (fun h => ?_) | refine finGo ?_) <;> try (conv => whnf)
      all_goals first
        | exact key _ (by rw [okk]; simp only [Bool.and_eq_true, decide_eq_true_eq]; exact ⟨⟨by omega, by assumption⟩, by omega⟩)
        | exact key _ (by rw [okk]; simp only [Bool.and_eq_false_iff, decide_eq_false_iff_not]; first | exact .inl (.inl (by omega)) | exact .inl (.inr (by assumption)) | exact .inr (by omega))
    by_cases k1 : k = 1
    · subst k1
      have okk : okV d (.mk 1 n t l) = (decide (0 ≤ n ∧ n ≤ 1) && decide (t = ⟨#[]⟩) && decide (l.length = 0)) := by simp only [okV, d2]; rfl
      conv => whnf
      repeat' (first | refine Fork.yp ?_ | refine Fork.np ?_ | refine Fork.dp (fun h => ?_) (fun h => ?_) | refine finGo ?_) <;> try (conv => whnf)
      all_goals first
        | exact key _ (by rw [okk]; simp only [Bool.and_eq_true, decide_eq_true_eq]; exact ⟨⟨by omega, by assumption⟩, by omega⟩)
        | exact key _ (by rw [okk]; simp only [Bool.and_eq_false_iff, decide_eq_false_iff_not]; first | exact .inl (.inl (by omega)) | exact .inl (.inr (by assumption)) | exact .inr (by omega))
    by_cases k2 : k = 2
    · subst k2
      have okk : okV d (.mk 2 n t l) = (decide (-1000000000 ≤ n ∧ n ≤ 1000000000) && decide (t = ⟨#[]⟩) && decide (l.length = 0)) := by simp only [okV, d2]; rfl
      conv => whnf
      repeat' (first | refine Fork.yp ?_ | refine Fork.np ?_ | refine Fork.dp (fun h => ?_) (fun h => ?_) | refine finGo ?_) <;> try (conv => whnf)
      all_goals first
        | exact key _ (by rw [okk]; simp only [Bool.and_eq_true, decide_eq_true_eq]; exact ⟨⟨by omega, by assumption⟩, by omega⟩)
        | exact key _ (by rw [okk]; simp only [Bool.and_eq_false_iff, decide_eq_false_iff_not]; first | exact .inl (.inl (by omega)) | exact .inl (.inr (by assumption)) | exact .inr (by omega))
    by_cases k3 : k = 3
    · subst k3
      have okk : okV d (.mk 3 n t l) = (decide (n = 0) && textOk t && decide (l.length = 0)) := by simp only [okV, d2]; rfl
      cases htx : textOk t
      · conv => whnf
        repeat' (first | (refine CallN.one (textFits_v htx (by omega)) ?_) | refine Fork.yp ?_ | refine Fork.np ?_ | refine Fork.dp (fun h => ?_) (fun h => ?_) | refine ExtN.ext ?_ | refine finGo ?_) <;> try (conv => whnf)
        all_goals first
          | exact key _ (by rw [okk]; simp only [Bool.and_eq_true, decide_eq_true_eq]; exact ⟨⟨by omega, by assumption⟩, by omega⟩)
          | exact key _ (by rw [okk]; simp only [Bool.and_eq_false_iff, decide_eq_false_iff_not]; first | exact .inl (.inl (by omega)) | exact .inl (.inr (by assumption)) | exact .inr (by omega))
      · conv => whnf
        repeat' (first | (refine CallN.one (textFits_v htx (by omega)) ?_) | refine Fork.yp ?_ | refine Fork.np ?_ | refine Fork.dp (fun h => ?_) (fun h => ?_) | refine ExtN.ext ?_ | refine finGo ?_) <;> try (conv => whnf)
        all_goals first
          | exact key _ (by rw [okk]; simp only [Bool.and_eq_true, decide_eq_true_eq]; exact ⟨⟨by omega, by assumption⟩, by omega⟩)
          | exact key _ (by rw [okk]; simp only [Bool.and_eq_false_iff, decide_eq_false_iff_not]; first | exact .inl (.inl (by omega)) | exact .inl (.inr (by assumption)) | exact .inr (by omega))
    by_cases k5 : k = 5
    · subst k5
      have okk : okV d (.mk 5 n t l) = (decide (0 ≤ n ∧ n ≤ 1000000000) && decide (t = ⟨#[]⟩) && decide (l.length = 0)) := by simp only [okV, d2]; rfl
      conv => whnf
      repeat' (first | refine Fork.yp ?_ | refine Fork.np ?_ | refine Fork.dp (fun h => ?_) (fun h => ?_) | refine finGo ?_) <;> try (conv => whnf)
      all_goals first
        | exact key _ (by rw [okk]; simp only [Bool.and_eq_true, decide_eq_true_eq]; exact ⟨⟨by omega, by assumption⟩, by omega⟩)
        | exact key _ (by rw [okk]; simp only [Bool.and_eq_false_iff, decide_eq_false_iff_not]; first | exact .inl (.inl (by omega)) | exact .inl (.inr (by assumption)) | exact .inr (by omega))
    by_cases k6 : k = 6
    · subst k6
      have okk : okV d (.mk 6 n t l) = (decide (0 ≤ n ∧ n ≤ 1000000000) && decide (t = ⟨#[]⟩) && decide (l.length = 0)) := by simp only [okV, d2]; rfl
      conv => whnf
      repeat' (first | refine Fork.yp ?_ | refine Fork.np ?_ | refine Fork.dp (fun h => ?_) (fun h => ?_) | refine finGo ?_) <;> try (conv => whnf)
      all_goals first
        | exact key _ (by rw [okk]; simp only [Bool.and_eq_true, decide_eq_true_eq]; exact ⟨⟨by omega, by assumption⟩, by omega⟩)
        | exact key _ (by rw [okk]; simp only [Bool.and_eq_false_iff, decide_eq_false_iff_not]; first | exact .inl (.inl (by omega)) | exact .inl (.inr (by assumption)) | exact .inr (by omega))
    by_cases k4 : k = 4
    · subst k4
      have okk : okV d (.mk 4 n t l) = (decide (n = 0) && decide (t = ⟨#[]⟩) && decide (l.length ≤ 6) && okL (d - 1) l) := by simp only [okV, d2]; rfl
      by_cases hn0 : n = 0
      case neg =>
        conv => whnf
        repeat' (first | refine Fork.yp ?_ | refine Fork.np ?_ | refine Fork.ny ?_ | refine finGo ?_) <;> try (conv => whnf)
        exact key _ (by rw [okk, decide_eq_false hn0]; rfl)
      by_cases ht0 : t = ⟨#[]⟩
      case neg =>
        conv => whnf
        repeat' (first | refine Fork.yp ?_ | refine Fork.np ?_ | refine Fork.ny ?_ | refine Fork.nn ?_ | refine finGo ?_) <;> try (conv => whnf)
        exact key _ (by rw [okk, decide_eq_false ht0, Bool.and_false]; rfl)
      by_cases hl0 : l.length ≤ 6
      case neg =>
        conv => whnf
        repeat' (first | refine Fork.yp ?_ | refine Fork.np ?_ | refine Fork.nn ?_ | refine finGo ?_) <;> try (conv => whnf)
        exact key _ (by rw [okk, decide_eq_false hl0, Bool.and_false]; rfl)
      rw [decide_eq_true hn0, decide_eq_true ht0, decide_eq_true hl0, Bool.true_and, Bool.true_and, Bool.true_and, okL_all] at okk
      conv => whnf
      repeat' (first | refine Fork.yp ?_ | refine Fork.np ?_ | refine Fork.nn ?_) <;> try (conv => whnf)
      refine LoopN.rule (α := Nat) (fun i => ⟨136, [(1, i64 d), (2, .ptr (.f 2) 0), (4, .sc (.bool false)), (124, .vec (Val.cvs l)), (125, i64 (Val.cvs l).length), (126, i64 i)], [(2, .cells [i64 4, i64 n, .sc (.string t), .vec (Val.cvs l)])]⟩)
        (fun _ => σ) (fun i => l.length - i) (fun i => i ≤ l.length ∧ (l.take i).all (okV (d - 1)) = true) ?_ 0 ⟨Nat.zero_le _, rfl⟩ ?_
      · rintro i K ⟨h1, h2⟩ hK
        dsimp only at h1 h2 ⊢
        by_cases hi : i < l.length
        · obtain ⟨w, hm, hg, htk⟩ := cvs_get hi
          have hc := ih w hm (d := d - 1) (by omega) (by omega)
          have hK := hK (i + 1)
          cases hw : okV (d - 1) w with
          | true =>
            rw [hw] at hc
            obtain ⟨wk, wn, wt, wl⟩ := w
            conv => whnf
            repeat' (first | (refine CallN.one hc ?_) | refine Fork.yp ?_ | refine Need.go ?_ | refine ElemN.go ?_ | refine ExtN.ext ?_) <;> try (conv => whnf)
            refine hK _ _ ⟨by omega, by rw [htk, List.all_append, h2]; simp [hw]⟩ (by omega) ?_
            (refine ⟨rfl, ?_, ?_, Sub.refl _⟩ <;> repeat' (first | exact EnvLe.nil | exact LocsLe.nil | refine EnvLe.cons _ _ _ ?_ ?_ | refine LocsLe.cons _ _ _ ?_ ?_ | exact CVle.same _ rfl | exact CVle.vec _ _ | exact CVle.nil | exact CVle.tok _ _ _ rfl rfl | exact ObLe.tok _ _ rfl | exact CVles.nil | refine CVles.cons ?_ ?_ | exact ObLe.same _ rfl rfl | refine ObLe.cells rfl ?_))
          | false =>
            rw [hw] at hc
            have hno : okV d (.mk 4 n t l) = false := by rw [okk, List.all_eq_false]; exact ⟨w, hm, by simp [hw]⟩
            obtain ⟨wk, wn, wt, wl⟩ := w
            conv => whnf
            repeat' (first | (refine CallN.one hc ?_) | refine Fork.yp ?_ | refine Need.go ?_ | refine ElemN.go ?_ | refine ExtN.ext ?_ | refine finGo ?_) <;> try (conv => whnf)
            exact key _ hno
        · conv => whnf
          repeat' (first | refine Fork.np ?_ | refine finGo ?_) <;> try (conv => whnf)
          have : l.take i = l := List.take_of_length_le (by omega)
          rw [this] at h2
          exact key _ (by rw [okk, h2])
      · (refine ⟨rfl, ?_, ?_, Sub.refl _⟩ <;> repeat' (first | exact EnvLe.nil | exact LocsLe.nil | refine EnvLe.cons _ _ _ ?_ ?_ | refine LocsLe.cons _ _ _ ?_ ?_ | exact CVle.same _ rfl | exact CVle.vec _ _ | exact CVle.nil | exact CVle.tok _ _ _ rfl rfl | exact ObLe.tok _ _ rfl | exact CVles.nil | refine CVles.cons ?_ ?_ | exact ObLe.same _ rfl rfl | refine ObLe.cells rfl ?_))
    · conv => whnf
      repeat' (first | refine Fork.np ?_ | refine finGo ?_) <;> try (conv => whnf)
      all_goals exact key _ (by simp only [okV, d2]; rw [if_neg k0, if_neg k1, if_neg k2, if_neg k3, if_neg (by omega), if_neg k4]; rfl)
theorem okV_low {d : Int} {v : Val} (h : d < 1) : okV d v = false := by
  cases v
  simp only [okV]; rw [decide_eq_false (by omega)]; rfl
theorem in_n {σ : Heap} {n lo hi : Int} : CRun Tryz.prog 54 [i64 n, i64 lo, i64 hi] σ (fun out => ((lo ≤ n ∧ n ≤ hi) ∧ out = .ret (.sc (.bool true)) σ) ∨ (¬ (lo ≤ n ∧ n ≤ hi) ∧ out = .ret (.sc (.bool false)) σ)) :=
  in_c.mono fun out h => by
    by_cases hr : lo ≤ n ∧ n ≤ hi
    · rw [decide_eq_true hr] at h; exact .inl ⟨hr, h⟩
    · rw [decide_eq_false hr] at h; exact .inr ⟨hr, h⟩
theorem l1Ok_c {σ : Heap} {v : Val} (hv : Tame v) : ∀ {d : Int}, 1 ≤ d → d ≤ 1000 → CRun Tryz.prog 173 [v.cv, i64 d] σ (· = .ret (.sc (.bool (okV d v))) σ) := by
  induction hv with
  | @mk k n t l hk hn ht hl h ih =>
    intro d hd hd'
    have e3 := cvs_length l
    refine crun_of (X := X) X_ok X_sat (body := bodyOf Tryz.f173) Tryz.func173 rfl (by kernel_rfl) (by kernel_rfl) ?_
    rw [Tryz.ntmps173]
    have key : ∀ b, okV d (.mk k n t l) = b → COut.ret (.sc (.bool b)) σ = .ret (.sc (.bool (okV d (.mk k n t l)))) σ := fun b h => ansB h
    have d2 : decide (1 ≤ d) = true := decide_eq_true (by omega)
    by_cases k0 : k = 0
    · subst k0
      have okk : okV d (.mk 0 n t l) = (decide (n = 0) && decide (t = ⟨#[]⟩) && decide (l.length = 0)) := by simp only [okV, d2]; rfl
      conv => whnf
      repeat' (first | refine Fork.yp ?_ | refine Fork.dp (fun h => ?_) (fun h => ?_) | refine finGo ?_) <;> try (conv => whnf)
      all_goals first
        | exact key _ (by rw [okk]; simp only [Bool.and_eq_true, decide_eq_true_eq]; exact ⟨⟨by omega, by assumption⟩, by omega⟩)
        | exact key _ (by rw [okk]; simp only [Bool.and_eq_false_iff, decide_eq_false_iff_not]; first | exact .inl (.inl (by omega)) | exact .inl (.inr (by assumption)) | exact .inr (by omega))
    by_cases k1 : k = 1
    · subst k1
      have okk : okV d (.mk 1 n t l) = (decide (0 ≤ n ∧ n ≤ 1) && decide (t = ⟨#[]⟩) && decide (l.length = 0)) := by simp only [okV, d2]; rfl
      conv => whnf
      repeat' (first | (refine CallN.many in_n ?_; rintro _ (⟨hr, rfl⟩ | ⟨hr, rfl⟩)) | refine Fork.yp ?_ | refine Fork.np ?_ | refine Fork.dp (fun h => ?_) (fun h => ?_) | refine ExtN.ext ?_ | refine finGo ?_) <;> try (conv => whnf)
      all_goals first
        | exact key _ (by rw [okk]; simp only [Bool.and_eq_true, decide_eq_true_eq]; exact ⟨⟨by omega, by assumption⟩, by omega⟩)
        | exact key _ (by rw [okk]; simp only [Bool.and_eq_false_iff, decide_eq_false_iff_not]; first | exact .inl (.inl (by omega)) | exact .inl (.inr (by assumption)) | exact .inr (by omega))
    by_cases k2 : k = 2
    · subst k2
      have okk : okV d (.mk 2 n t l) = (decide (-1000000000 ≤ n ∧ n ≤ 1000000000) && decide (t = ⟨#[]⟩) && decide (l.length = 0)) := by simp only [okV, d2]; rfl
      conv => whnf
      repeat' (first | (refine CallN.many in_n ?_; rintro _ (⟨hr, rfl⟩ | ⟨hr, rfl⟩)) | refine Fork.yp ?_ | refine Fork.np ?_ | refine Fork.dp (fun h => ?_) (fun h => ?_) | refine ExtN.ext ?_ | refine finGo ?_) <;> try (conv => whnf)
      all_goals first
        | exact key _ (by rw [okk]; simp only [Bool.and_eq_true, decide_eq_true_eq]; exact ⟨⟨by omega, by assumption⟩, by omega⟩)
        | exact key _ (by rw [okk]; simp only [Bool.and_eq_false_iff, decide_eq_false_iff_not]; first | exact .inl (.inl (by omega)) | exact .inl (.inr (by assumption)) | exact .inr (by omega))
    by_cases k3 : k = 3
    · subst k3
      have okk : okV d (.mk 3 n t l) = (decide (n = 0) && textOk t && decide (l.length = 0)) := by simp only [okV, d2]; rfl
      cases htx : textOk t
      · conv => whnf
        repeat' (first | (refine CallN.one (l1Text_v htx (by omega)) ?_) | refine Fork.yp ?_ | refine Fork.np ?_ | refine Fork.dp (fun h => ?_) (fun h => ?_) | refine ExtN.ext ?_ | refine finGo ?_) <;> try (conv => whnf)
        all_goals first
          | exact key _ (by rw [okk]; simp only [Bool.and_eq_true, decide_eq_true_eq]; exact ⟨⟨by omega, by assumption⟩, by omega⟩)
          | exact key _ (by rw [okk]; simp only [Bool.and_eq_false_iff, decide_eq_false_iff_not]; first | exact .inl (.inl (by omega)) | exact .inl (.inr (by assumption)) | exact .inr (by omega))
      · conv => whnf
        repeat' (first | (refine CallN.one (l1Text_v htx (by omega)) ?_) | refine Fork.yp ?_ | refine Fork.np ?_ | refine Fork.dp (fun h => ?_) (fun h => ?_) | refine ExtN.ext ?_ | refine finGo ?_) <;> try (conv => whnf)
        all_goals first
          | exact key _ (by rw [okk]; simp only [Bool.and_eq_true, decide_eq_true_eq]; exact ⟨⟨by omega, by assumption⟩, by omega⟩)
          | exact key _ (by rw [okk]; simp only [Bool.and_eq_false_iff, decide_eq_false_iff_not]; first | exact .inl (.inl (by omega)) | exact .inl (.inr (by assumption)) | exact .inr (by omega))
    by_cases k5 : k = 5
    · subst k5
      have okk : okV d (.mk 5 n t l) = (decide (0 ≤ n ∧ n ≤ 1000000000) && decide (t = ⟨#[]⟩) && decide (l.length = 0)) := by simp only [okV, d2]; rfl
      conv => whnf
      repeat' (first | (refine CallN.many in_n ?_; rintro _ (⟨hr, rfl⟩ | ⟨hr, rfl⟩)) | refine Fork.yp ?_ | refine Fork.np ?_ | refine Fork.dp (fun h => ?_) (fun h => ?_) | refine ExtN.ext ?_ | refine finGo ?_) <;> try (conv => whnf)
      all_goals first
        | exact key _ (by rw [okk]; simp only [Bool.and_eq_true, decide_eq_true_eq]; exact ⟨⟨by omega, by assumption⟩, by omega⟩)
        | exact key _ (by rw [okk]; simp only [Bool.and_eq_false_iff, decide_eq_false_iff_not]; first | exact .inl (.inl (by omega)) | exact .inl (.inr (by assumption)) | exact .inr (by omega))
    by_cases k6 : k = 6
    · subst k6
      have okk : okV d (.mk 6 n t l) = (decide (0 ≤ n ∧ n ≤ 1000000000) && decide (t = ⟨#[]⟩) && decide (l.length = 0)) := by simp only [okV, d2]; rfl
      conv => whnf
      repeat' (first | (refine CallN.many in_n ?_; rintro _ (⟨hr, rfl⟩ | ⟨hr, rfl⟩)) | refine Fork.yp ?_ | refine Fork.np ?_ | refine Fork.dp (fun h => ?_) (fun h => ?_) | refine ExtN.ext ?_ | refine finGo ?_) <;> try (conv => whnf)
      all_goals first
        | exact key _ (by rw [okk]; simp only [Bool.and_eq_true, decide_eq_true_eq]; exact ⟨⟨by omega, by assumption⟩, by omega⟩)
        | exact key _ (by rw [okk]; simp only [Bool.and_eq_false_iff, decide_eq_false_iff_not]; first | exact .inl (.inl (by omega)) | exact .inl (.inr (by assumption)) | exact .inr (by omega))
    by_cases k4 : k = 4
    · subst k4
      have okk : okV d (.mk 4 n t l) = (decide (n = 0) && decide (t = ⟨#[]⟩) && decide (l.length ≤ 6) && okL (d - 1) l) := by simp only [okV, d2]; rfl
      rw [okL_all] at okk
      conv => whnf
      repeat' (first | refine Fork.yp ?_ | refine Fork.np ?_ | refine Fork.dp (fun h => ?_) (fun h => ?_)) <;> try (conv => whnf)
      all_goals
        refine LoopN.rule (α := Nat) (fun i => ⟨103, [(1, i64 d), (2, .ptr (.f 2) 0), (4, .sc (.bool false)), (6, i64 i)], [(2, .cells [i64 4, i64 n, .sc (.string t), .vec (Val.cvs l)])]⟩)
          (fun _ => σ) (fun i => l.length - i) (fun i => i ≤ l.length ∧ (l.take i).all (okV (d - 1)) = true) ?_ 0 ⟨Nat.zero_le _, rfl⟩ ?_
        rotate_left
        (refine ⟨rfl, ?_, ?_, Sub.refl _⟩ <;> repeat' (first | exact EnvLe.nil | exact LocsLe.nil | refine EnvLe.cons _ _ _ ?_ ?_ | refine LocsLe.cons _ _ _ ?_ ?_ | exact CVle.same _ rfl | exact CVle.vec _ _ | exact CVle.nil | exact CVle.tok _ _ _ rfl rfl | exact ObLe.tok _ _ rfl | exact CVles.nil | refine CVles.cons ?_ ?_ | exact ObLe.same _ rfl rfl | refine ObLe.cells rfl ?_))
      all_goals
        rintro i K ⟨h1, h2⟩ hK
        dsimp only at h1 h2 ⊢
        by_cases hi : i < l.length
        · obtain ⟨w, hm, hg, htk⟩ := cvs_get hi
          by_cases hd1 : d < 2
          · have hno : okV d (.mk 4 n t l) = false := by rw [okk, Bool.and_eq_false_iff, List.all_eq_false]; exact .inr ⟨w, hm, by rw [okV_low (by omega)]; simp⟩
            conv => whnf
            repeat' (first | refine Fork.yp ?_ | refine finGo ?_) <;> try (conv => whnf)
            all_goals exact key _ hno
          have hc := ih w hm (d := d - 1) (by omega) (by omega)
          have hK := hK (i + 1)
          cases hw : okV (d - 1) w with
          | true =>
            rw [hw] at hc
            obtain ⟨wk, wn, wt, wl⟩ := w
            conv => whnf
            repeat' (first | (refine CallN.one hc ?_) | refine Fork.yp ?_ | refine Fork.np ?_ | refine Need.go ?_ | refine ElemN.go ?_ | refine ExtN.ext ?_ | refine finGo ?_) <;> try (conv => whnf)
            all_goals first
              | (exfalso; omega)
              | (refine hK _ _ ⟨by omega, by rw [htk, List.all_append, h2]; simp [hw]⟩ (by omega) ?_)
            all_goals
              (refine ⟨rfl, ?_, ?_, Sub.refl _⟩ <;> repeat' (first | exact EnvLe.nil | exact LocsLe.nil | refine EnvLe.cons _ _ _ ?_ ?_ | refine LocsLe.cons _ _ _ ?_ ?_ | exact CVle.same _ rfl | exact CVle.vec _ _ | exact CVle.nil | exact CVle.tok _ _ _ rfl rfl | exact ObLe.tok _ _ rfl | exact CVles.nil | refine CVles.cons ?_ ?_ | exact ObLe.same _ rfl rfl | refine ObLe.cells rfl ?_))
          | false =>
            rw [hw] at hc
            have hno : okV d (.mk 4 n t l) = false := by rw [okk, Bool.and_eq_false_iff, List.all_eq_false]; exact .inr ⟨w, hm, by simp [hw]⟩
            obtain ⟨wk, wn, wt, wl⟩ := w
            conv => whnf
            repeat' (first | (refine CallN.one hc ?_) | refine Fork.yp ?_ | refine Fork.np ?_ | refine Need.go ?_ | refine ElemN.go ?_ | refine ExtN.ext ?_ | refine finGo ?_) <;> try (conv => whnf)
            all_goals first
              | (exfalso; omega)
              | exact key _ hno
        · have : l.take i = l := List.take_of_length_le (by omega)
          rw [this] at h2
          rw [h2, Bool.and_true] at okk
          conv => whnf
          repeat' (first | refine Fork.yp ?_ | refine Fork.np ?_ | refine Fork.dp (fun h => ?_) (fun h => ?_) | refine finGo ?_) <;> try (conv => whnf)
          all_goals first
            | exact key _ (by rw [okk]; simp only [Bool.and_eq_true, decide_eq_true_eq]; exact ⟨⟨by omega, by assumption⟩, by omega⟩)
            | exact key _ (by rw [okk]; simp only [Bool.and_eq_false_iff, decide_eq_false_iff_not]; first | exact .inl (.inl (by omega)) | exact .inl (.inr (by assumption)) | exact .inr (by omega))
    · conv => whnf
      repeat' (first | refine Fork.np ?_ | refine Fork.dp (fun h => ?_) (fun h => ?_) | refine finGo ?_) <;> try (conv => whnf)
      all_goals exact key _ (by simp only [okV, d2]; rw [if_neg k0, if_neg k1, if_neg k2, if_neg k3, if_neg (by omega), if_neg k4]; rfl)
theorem implOk_c {σ : Heap} {v : Val} (hv : Tame v) : CRun Tryz.prog 16 [v.cv] σ (· = .ret (.sc (.bool (okV 3 v))) σ) := by
  refine crun_of (X := X) X_ok X_sat (body := bodyOf Tryz.f16) Tryz.func16 rfl (by kernel_rfl) (by kernel_rfl) ?_
  rw [Tryz.ntmps16]
  have hc := fits_c (σ := σ) hv (d := 3) (by omega) (by omega)
  obtain ⟨k, n, t, l⟩ := v
  conv => whnf
  repeat' (first | (refine CallN.one hc ?_) | refine ExtN.ext ?_ | refine finGo ?_) <;> try (conv => whnf)
theorem specOk_c {σ : Heap} {v : Val} (hv : Tame v) : CRun Tryz.prog 105 [v.cv] σ (· = .ret (.sc (.bool (okV 3 v))) σ) := by
  refine crun_of (X := X) X_ok X_sat (body := bodyOf Tryz.f105) Tryz.func105 rfl (by kernel_rfl) (by kernel_rfl) ?_
  rw [Tryz.ntmps105]
  have hc := l1Ok_c (σ := σ) hv (d := 3) (by omega) (by omega)
  obtain ⟨k, n, t, l⟩ := v
  conv => whnf
  repeat' (first | (refine CallN.one hc ?_) | refine ExtN.ext ?_ | refine finGo ?_) <;> try (conv => whnf)
def intsF (a b : Int) : Int := if a < b then -1 else if b < a then 1 else 0
def rankF (k : Int) : Int := if k = 0 then 6 else if k = 1 then 4 else if k = 2 then 5 else if k = 3 then 3 else if k = 4 then 2 else if k = 5 then 0 else if k = 6 then 1 else 7
def textsF (s t : ByteArray) : Int := if Op.bytesLess s.toList t.toList = true then -1 else if (!(Op.bytesLess s.toList t.toList || decide (s = t))) = true then 1 else 0
theorem ansI {a b : Int} {σ : Heap} (h : b = a) : COut.ret (i64 a) σ = .ret (i64 b) σ := by rw [h]
theorem ints_c {σ : Heap} {a b : Int} : CRun Tryz.prog 243 [i64 a, i64 b] σ (· = .ret (i64 (intsF a b)) σ) := by
  refine crun_of (X := X) X_ok X_sat (body := bodyOf Tryz.f243) Tryz.func243 rfl (by kernel_rfl) (by kernel_rfl) ?_
  rw [Tryz.ntmps243]
  conv => whnf
  repeat' (first | refine Fork.dp (fun h => ?_) (fun h => ?_) | refine finGo ?_) <;> try (conv => whnf)
  all_goals first
    | exact ansI (if_pos (by assumption))
    | exact ansI ((if_neg (by assumption)).trans (if_pos (by assumption)))
    | exact ansI ((if_neg (by assumption)).trans (if_neg (by assumption)))
theorem rank_c {σ : Heap} {k : Int} : CRun Tryz.prog 244 [i64 k] σ (· = .ret (i64 (rankF k)) σ) := by
  refine crun_of (X := X) X_ok X_sat (body := bodyOf Tryz.f244) Tryz.func244 rfl (by kernel_rfl) (by kernel_rfl) ?_
  rw [Tryz.ntmps244]
  by_cases hk : 0 ≤ k ∧ k ≤ 6
  · have : k = 0 ∨ k = 1 ∨ k = 2 ∨ k = 3 ∨ k = 4 ∨ k = 5 ∨ k = 6 := by omega
    rcases this with rfl | rfl | rfl | rfl | rfl | rfl | rfl
    all_goals
      conv => whnf
      repeat' (first | (refine CallN.many in_n ?_; rintro _ (⟨hr, rfl⟩ | ⟨hr, rfl⟩)) | refine Need.go ?_ | refine ElemN.go ?_ | refine ExtN.ext ?_ | refine finGo ?_) <;> try (conv => whnf)
      all_goals first
        | (exfalso; omega)
        | exact ansI rfl
  · conv => whnf
    repeat' (first | (refine CallN.many in_n ?_; rintro _ (⟨hr, rfl⟩ | ⟨hr, rfl⟩)) | refine Need.go ?_ | refine ExtN.ext ?_ | refine finGo ?_) <;> try (conv => whnf)
    all_goals first
      | (exfalso; omega)
      | exact ansI (by unfold rankF; rw [if_neg (by omega), if_neg (by omega), if_neg (by omega), if_neg (by omega), if_neg (by omega), if_neg (by omega), if_neg (by omega)])
mutual
def ordV : Val → Val → Int
  | .mk k n t l, .mk k' n' t' l' =>
    if k ≠ k' then intsF (rankF k) (rankF k')
    else if k = 3 then textsF t t'
    else if k = 4 then ordL l l'
    else intsF n n'
def ordL : List Val → List Val → Int
  | [], m => intsF 0 m.length
  | v :: r, [] => intsF (r.length + 1) 0
  | v :: r, w :: s => if ordV v w ≠ 0 then ordV v w else ordL r s
end
theorem ordL_none {l m : List Val} (h : l = [] ∨ m = []) : ordL l m = intsF l.length m.length := by
  rcases h with rfl | rfl
  · cases m <;> simp [ordL]
  · cases l <;> simp [ordL]
theorem drop_get {l : List Val} {i : Nat} {v : Val} (h : l[i]? = some v) : l.drop i = v :: l.drop (i + 1) := by
  obtain ⟨hi, rfl⟩ := List.getElem?_eq_some_iff.1 h
  exact List.drop_eq_getElem_cons hi
theorem cvs_at {l : List Val} {i : Nat} (hi : i < l.length) : ∃ v, v ∈ l ∧ l[i]? = some v ∧ (Val.cvs l)[i]? = some (Val.cv v) := by
  refine ⟨l[i], List.getElem_mem hi, List.getElem?_eq_getElem hi, ?_⟩
  rw [cvs_map, List.getElem?_map, List.getElem?_eq_getElem hi]; rfl
theorem intsF_add (a b c : Int) : intsF (a + c) (b + c) = intsF a b := by
  unfold intsF
  by_cases h1 : a < b
  · rw [if_pos h1, if_pos (by omega)]
  · rw [if_neg h1, if_neg (by omega)]
    by_cases h2 : b < a
    · rw [if_pos h2, if_pos (by omega)]
    · rw [if_neg h2, if_neg (by omega)]
theorem l1Order_c {σ : Heap} {v : Val} (hv : Tame v) : ∀ {v' : Val}, Tame v' → CRun Tryz.prog 225 [v.cv, v'.cv] σ (· = .ret (i64 (ordV v v')) σ) := by
  induction hv with
  | @mk k n t l hk hn ht hl h ih =>
    intro v' hv'
    obtain ⟨k', n', t', l'⟩ := v'
    obtain ⟨b1, b2, b3, b4, b5⟩ := hv'.inv
    have e3 := cvs_length l
    have e4 := cvs_length l'
    refine crun_of (X := X) X_ok X_sat (body := bodyOf Tryz.f225) Tryz.func225 rfl (by kernel_rfl) (by kernel_rfl) ?_
    rw [Tryz.ntmps225]
    by_cases hkk : k = k'
    case neg =>
      have o : ordV (.mk k n t l) (.mk k' n' t' l') = intsF (rankF k) (rankF k') := by simp only [ordV]; rw [if_pos hkk]
      conv => whnf
      repeat' (first | (refine CallN.one rank_c ?_) | (refine CallN.one ints_c ?_) | refine OrdN.one ?_ | refine Fork.ny ?_ | refine Need.draw ?_ | refine ExtN.ext ?_ | refine finGo ?_) <;> try (conv => whnf)
      exact ansI o
    subst hkk
    by_cases k3 : k = 3
    · subst k3
      have o : ordV (.mk 3 n t l) (.mk 3 n' t' l') = textsF t t' := by simp only [ordV]; rfl
      by_cases t1 : Op.bytesLess t.toList t'.toList = true
      · conv => whnf
        repeat' (first | refine Fork.yp ?_ | refine Fork.nn ?_ | refine Fork.yb ?_ | refine finGo ?_) <;> try (conv => whnf)
        exact ansI (o.trans (if_pos t1))
      have t1' : Op.bytesLess t.toList t'.toList = false := by simpa using t1
      by_cases t2 : (!(Op.bytesLess t.toList t'.toList || decide (t = t'))) = true
      · conv => whnf
        repeat' (first | refine Fork.yp ?_ | refine Fork.nn ?_ | refine Fork.yb ?_ | refine Fork.nb ?_ | refine finGo ?_) <;> try (conv => whnf)
        exact ansI (o.trans ((if_neg t1).trans (if_pos t2)))
      · have t2' : (!(Op.bytesLess t.toList t'.toList || decide (t = t'))) = false := Bool.eq_false_iff.mpr t2
        conv => whnf
        repeat' (first | refine Fork.yp ?_ | refine Fork.nn ?_ | refine Fork.nb ?_ | refine finGo ?_) <;> try (conv => whnf)
        exact ansI (o.trans ((if_neg t1).trans (if_neg t2)))
    by_cases k4 : k = 4
    · subst k4
      have o : ordV (.mk 4 n t l) (.mk 4 n' t' l') = ordL l l' := by simp only [ordV]; rfl
      conv => whnf
      repeat' (first | refine Fork.yp ?_ | refine Fork.np ?_) <;> try (conv => whnf)
      refine LoopN.rule (α := Nat) (fun i => ⟨75, [(2, .ptr (.f 2) 0), (3, .ptr (.f 3) 0), (4, i64 0), (5, i64 i)], [(2, .cells [i64 4, i64 n, .sc (.string t), .vec (Val.cvs l)]), (3, .cells [i64 4, i64 n', .sc (.string t'), .vec (Val.cvs l')])]⟩)
        (fun _ => σ) (fun i => l.length - i) (fun i => i ≤ l.length ∧ i ≤ l'.length ∧ ordL l l' = ordL (l.drop i) (l'.drop i)) ?_ 0 ⟨Nat.zero_le _, Nat.zero_le _, rfl⟩ ?_
      · rintro i K ⟨h1, h2, h3⟩ hK
        dsimp only at h1 h2 h3 ⊢
        by_cases hi : i < l.length ∧ i < l'.length
        · obtain ⟨w, hm, hw, hg⟩ := cvs_at hi.1
          obtain ⟨w', hm', hw', hg'⟩ := cvs_at hi.2
          have hc := ih w hm (b5 w' hm')
          have hK := hK (i + 1)
          rw [drop_get hw, drop_get hw'] at h3
          simp only [ordL] at h3
          by_cases hz : ordV w w' = 0
          · rw [hz] at hc
            rw [if_neg (by simp [hz])] at h3
            obtain ⟨wk, wn, wt, wl⟩ := w
            obtain ⟨wk', wn', wt', wl'⟩ := w'
            conv => whnf
            repeat' (first | (refine CallN.one hc ?_) | refine OrdN.one ?_ | refine Fork.yp ?_ | refine Fork.np ?_ | refine Need.go ?_ | refine Need.draw ?_ | refine ElemN.go ?_ | refine ExtN.ext ?_) <;> try (conv => whnf)
            refine hK _ _ ⟨by omega, by omega, h3⟩ (by omega) ?_
            (refine ⟨rfl, ?_, ?_, Sub.refl _⟩ <;> repeat' (first | exact EnvLe.nil | exact LocsLe.nil | refine EnvLe.cons _ _ _ ?_ ?_ | refine LocsLe.cons _ _ _ ?_ ?_ | exact CVle.same _ rfl | exact CVle.vec _ _ | exact CVle.nil | exact CVle.tok _ _ _ rfl rfl | exact ObLe.tok _ _ rfl | exact CVles.nil | refine CVles.cons ?_ ?_ | exact ObLe.same _ rfl rfl | refine ObLe.cells rfl ?_))
          · rw [if_pos hz] at h3
            generalize ordV w w' = z at *
            obtain ⟨wk, wn, wt, wl⟩ := w
            obtain ⟨wk', wn', wt', wl'⟩ := w'
            conv => whnf
            repeat' (first | (refine CallN.one hc ?_) | refine OrdN.one ?_ | refine Fork.yp ?_ | refine Fork.ny ?_ | refine Need.go ?_ | refine Need.draw ?_ | refine ElemN.go ?_ | refine ExtN.ext ?_ | refine finGo ?_) <;> try (conv => whnf)
            exact ansI (o.trans h3)
        · have h4 : l.drop i = [] ∨ l'.drop i = [] := by
            rcases Nat.lt_or_ge i l.length with h5 | h5
            · right; exact List.drop_eq_nil_of_le (by omega)
            · left; exact List.drop_eq_nil_of_le h5
          rw [ordL_none h4, List.length_drop, List.length_drop] at h3
          have h5 : intsF ((l.length - i : Nat) : Int) ((l'.length - i : Nat) : Int) = intsF (Val.cvs l).length (Val.cvs l').length := by
            rw [e3, e4, ← intsF_add _ _ i]
            congr 1 <;> omega
          conv => whnf
          repeat' (first | (refine CallN.one ints_c ?_) | refine Fork.np ?_ | refine Fork.dp (fun h => ?_) (fun h => ?_) | refine ExtN.ext ?_ | refine finGo ?_) <;> try (conv => whnf)
          all_goals exact ansI (o.trans (h3.trans h5))
      · (refine ⟨rfl, ?_, ?_, Sub.refl _⟩ <;> repeat' (first | exact EnvLe.nil | exact LocsLe.nil | refine EnvLe.cons _ _ _ ?_ ?_ | refine LocsLe.cons _ _ _ ?_ ?_ | exact CVle.same _ rfl | exact CVle.vec _ _ | exact CVle.nil | exact CVle.tok _ _ _ rfl rfl | exact ObLe.tok _ _ rfl | exact CVles.nil | refine CVles.cons ?_ ?_ | exact ObLe.same _ rfl rfl | refine ObLe.cells rfl ?_))
    · have o : ordV (.mk k n t l) (.mk k n' t' l') = intsF n n' := by simp only [ordV]; rw [if_neg (by simp), if_neg k3, if_neg k4]
      conv => whnf
      repeat' (first | (refine CallN.one ints_c ?_) | refine Fork.np ?_ | refine Fork.nn ?_ | refine ExtN.ext ?_ | refine finGo ?_) <;> try (conv => whnf)
      exact ansI o
def orderF (a b : Val) : Int := if okV 3 a = true ∧ okV 3 b = true then ordV a b else 0
def nullV : Val := .mk 0 0 ⟨#[]⟩ []
def lessF (a b : Val) : Val := match a, b with
  | .mk k n t l, .mk k' n' t' l' => if k = k' ∧ (k = 2 ∨ k = 3 ∨ k = 1) then boolV (decide (ordV (.mk k n t l) (.mk k' n' t' l') < 0)) else nullV
def lessV (a b : Val) : Val := if okV 3 a = true ∧ okV 3 b = true then lessF a b else nullV
theorem okC {σ : Heap} {v : Val} {b : Bool} (hb : okV 3 v = b) (h : CRun Tryz.prog 105 [v.cv] σ (· = .ret (.sc (.bool (okV 3 v))) σ)) : CRun Tryz.prog 105 [v.cv] σ (· = .ret (.sc (.bool b)) σ) := hb ▸ h
theorem nan_node {σ : Heap} {a : Int} : CRun Tryz.prog 268 [i64 a] σ (· = .ret (.sc (.bool false)) σ) := by
  refine crun_of (X := X) X_ok X_sat (body := bodyOf Tryz.f268) Tryz.func268 rfl (by kernel_rfl) (by kernel_rfl) ?_
  rw [Tryz.ntmps268]
  conv => whnf
  repeat' (first | refine Fork.nn ?_ | refine finGo ?_) <;> try (conv => whnf)
theorem cmp_node {σ : Heap} {a b : Int} : CRun Tryz.prog 266 [i64 a, i64 b] σ (· = .ret (i64 (intsF a b)) σ) := by
  refine crun_of (X := X) X_ok X_sat (body := bodyOf Tryz.f266) Tryz.func266 rfl (by kernel_rfl) (by kernel_rfl) ?_
  rw [Tryz.ntmps266]
  conv => whnf
  repeat' (first | (refine CallN.one nan_node ?_) | refine Fork.dp (fun h => ?_) (fun h => ?_) | refine ExtN.ext ?_ | refine finGo ?_) <;> try (conv => whnf)
  all_goals first
    | exact ansI (if_pos (by assumption))
    | exact ansI ((if_neg (by assumption)).trans (if_pos (by assumption)))
    | exact ansI ((if_neg (by assumption)).trans (if_neg (by assumption)))
theorem nan_int {σ : Heap} {a : Int} : CRun Tryz.prog 269 [i64 a] σ (· = .ret (.sc (.bool false)) σ) := by
  refine crun_of (X := X) X_ok X_sat (body := bodyOf Tryz.f269) Tryz.func269 rfl (by kernel_rfl) (by kernel_rfl) ?_
  rw [Tryz.ntmps269]
  conv => whnf
  repeat' (first | refine Fork.nn ?_ | refine finGo ?_) <;> try (conv => whnf)
theorem cmp_int {σ : Heap} {a b : Int} : CRun Tryz.prog 267 [i64 a, i64 b] σ (· = .ret (i64 (intsF a b)) σ) := by
  refine crun_of (X := X) X_ok X_sat (body := bodyOf Tryz.f267) Tryz.func267 rfl (by kernel_rfl) (by kernel_rfl) ?_
  rw [Tryz.ntmps267]
  conv => whnf
  repeat' (first | (refine CallN.one nan_int ?_) | refine Fork.dp (fun h => ?_) (fun h => ?_) | refine ExtN.ext ?_ | refine finGo ?_) <;> try (conv => whnf)
  all_goals first
    | exact ansI (if_pos (by assumption))
    | exact ansI ((if_neg (by assumption)).trans (if_pos (by assumption)))
    | exact ansI ((if_neg (by assumption)).trans (if_neg (by assumption)))
theorem nan_edge {σ : Heap} {a : Int} : CRun Tryz.prog 273 [i64 a] σ (· = .ret (.sc (.bool false)) σ) := by
  refine crun_of (X := X) X_ok X_sat (body := bodyOf Tryz.f273) Tryz.func273 rfl (by kernel_rfl) (by kernel_rfl) ?_
  rw [Tryz.ntmps273]
  conv => whnf
  repeat' (first | refine Fork.nn ?_ | refine finGo ?_) <;> try (conv => whnf)
theorem cmp_edge {σ : Heap} {a b : Int} : CRun Tryz.prog 272 [i64 a, i64 b] σ (· = .ret (i64 (intsF a b)) σ) := by
  refine crun_of (X := X) X_ok X_sat (body := bodyOf Tryz.f272) Tryz.func272 rfl (by kernel_rfl) (by kernel_rfl) ?_
  rw [Tryz.ntmps272]
  conv => whnf
  repeat' (first | (refine CallN.one nan_edge ?_) | refine Fork.dp (fun h => ?_) (fun h => ?_) | refine ExtN.ext ?_ | refine finGo ?_) <;> try (conv => whnf)
  all_goals first
    | exact ansI (if_pos (by assumption))
    | exact ansI ((if_neg (by assumption)).trans (if_pos (by assumption)))
    | exact ansI ((if_neg (by assumption)).trans (if_neg (by assumption)))
theorem nan_bool {σ : Heap} {a : Int} : CRun Tryz.prog 283 [i64 a] σ (· = .ret (.sc (.bool false)) σ) := by
  refine crun_of (X := X) X_ok X_sat (body := bodyOf Tryz.f283) Tryz.func283 rfl (by kernel_rfl) (by kernel_rfl) ?_
  rw [Tryz.ntmps283]
  conv => whnf
  repeat' (first | refine Fork.nn ?_ | refine finGo ?_) <;> try (conv => whnf)
theorem cmp_bool {σ : Heap} {a b : Int} : CRun Tryz.prog 282 [i64 a, i64 b] σ (· = .ret (i64 (intsF a b)) σ) := by
  refine crun_of (X := X) X_ok X_sat (body := bodyOf Tryz.f282) Tryz.func282 rfl (by kernel_rfl) (by kernel_rfl) ?_
  rw [Tryz.ntmps282]
  conv => whnf
  repeat' (first | (refine CallN.one nan_bool ?_) | refine Fork.dp (fun h => ?_) (fun h => ?_) | refine ExtN.ext ?_ | refine finGo ?_) <;> try (conv => whnf)
  all_goals first
    | exact ansI (if_pos (by assumption))
    | exact ansI ((if_neg (by assumption)).trans (if_pos (by assumption)))
    | exact ansI ((if_neg (by assumption)).trans (if_neg (by assumption)))
theorem nan_num {σ : Heap} {a : Int} : CRun Tryz.prog 287 [i64 a] σ (· = .ret (.sc (.bool false)) σ) := by
  refine crun_of (X := X) X_ok X_sat (body := bodyOf Tryz.f287) Tryz.func287 rfl (by kernel_rfl) (by kernel_rfl) ?_
  rw [Tryz.ntmps287]
  conv => whnf
  repeat' (first | refine Fork.nn ?_ | refine finGo ?_) <;> try (conv => whnf)
theorem cmp_num {σ : Heap} {a b : Int} : CRun Tryz.prog 286 [i64 a, i64 b] σ (· = .ret (i64 (intsF a b)) σ) := by
  refine crun_of (X := X) X_ok X_sat (body := bodyOf Tryz.f286) Tryz.func286 rfl (by kernel_rfl) (by kernel_rfl) ?_
  rw [Tryz.ntmps286]
  conv => whnf
  repeat' (first | (refine CallN.one nan_num ?_) | refine Fork.dp (fun h => ?_) (fun h => ?_) | refine ExtN.ext ?_ | refine finGo ?_) <;> try (conv => whnf)
  all_goals first
    | exact ansI (if_pos (by assumption))
    | exact ansI ((if_neg (by assumption)).trans (if_pos (by assumption)))
    | exact ansI ((if_neg (by assumption)).trans (if_neg (by assumption)))
theorem nan_text {σ : Heap} {a : ByteArray} : CRun Tryz.prog 279 [.sc (.string a)] σ (· = .ret (.sc (.bool false)) σ) := by
  refine crun_of (X := X) X_ok X_sat (body := bodyOf Tryz.f279) Tryz.func279 rfl (by kernel_rfl) (by kernel_rfl) ?_
  rw [Tryz.ntmps279]
  have h : (!decide (a = a)) = false := by simp
  conv => whnf
  repeat' (first | refine Fork.nb ?_ | refine finGo ?_) <;> try (conv => whnf)
theorem cmp_text {σ : Heap} {t t' : ByteArray} : CRun Tryz.prog 278 [.sc (.string t), .sc (.string t')] σ (· = .ret (i64 (textsF t t')) σ) := by
  refine crun_of (X := X) X_ok X_sat (body := bodyOf Tryz.f278) Tryz.func278 rfl (by kernel_rfl) (by kernel_rfl) ?_
  rw [Tryz.ntmps278]
  by_cases t1 : Op.bytesLess t.toList t'.toList = true
  · conv => whnf
    repeat' (first | (refine CallN.one nan_text ?_) | refine Fork.yb ?_ | refine ExtN.ext ?_ | refine finGo ?_) <;> try (conv => whnf)
    exact ansI (if_pos t1)
  have t1' : Op.bytesLess t.toList t'.toList = false := by simpa using t1
  by_cases t2 : (!(Op.bytesLess t.toList t'.toList || decide (t = t'))) = true
  · conv => whnf
    repeat' (first | (refine CallN.one nan_text ?_) | refine Fork.yb ?_ | refine Fork.nb ?_ | refine ExtN.ext ?_ | refine finGo ?_) <;> try (conv => whnf)
    exact ansI ((if_neg t1).trans (if_pos t2))
  · have t2' : (!(Op.bytesLess t.toList t'.toList || decide (t = t'))) = false := Bool.eq_false_iff.mpr t2
    conv => whnf
    repeat' (first | (refine CallN.one nan_text ?_) | refine Fork.nb ?_ | refine ExtN.ext ?_ | refine finGo ?_) <;> try (conv => whnf)
    exact ansI ((if_neg t1).trans (if_neg t2))
theorem rank_node {σ : Heap} {x : CV} : CRun Tryz.prog 265 [x] σ (· = .ret (i64 0) σ) := by
  refine crun_of (X := X) X_ok X_sat (body := bodyOf Tryz.f265) Tryz.func265 rfl (by kernel_rfl) (by kernel_rfl) ?_
  rw [Tryz.ntmps265]
  conv => whnf
  repeat' (first | refine finGo ?_) <;> try (conv => whnf)
  rfl
theorem rank_edge {σ : Heap} {x : CV} : CRun Tryz.prog 271 [x] σ (· = .ret (i64 1) σ) := by
  refine crun_of (X := X) X_ok X_sat (body := bodyOf Tryz.f271) Tryz.func271 rfl (by kernel_rfl) (by kernel_rfl) ?_
  rw [Tryz.ntmps271]
  conv => whnf
  repeat' (first | refine finGo ?_) <;> try (conv => whnf)
  rfl
theorem rank_list {σ : Heap} {x : CV} : CRun Tryz.prog 275 [x] σ (· = .ret (i64 2) σ) := by
  refine crun_of (X := X) X_ok X_sat (body := bodyOf Tryz.f275) Tryz.func275 rfl (by kernel_rfl) (by kernel_rfl) ?_
  rw [Tryz.ntmps275]
  conv => whnf
  repeat' (first | refine finGo ?_) <;> try (conv => whnf)
  rfl
theorem rank_text {σ : Heap} {x : CV} : CRun Tryz.prog 277 [x] σ (· = .ret (i64 3) σ) := by
  refine crun_of (X := X) X_ok X_sat (body := bodyOf Tryz.f277) Tryz.func277 rfl (by kernel_rfl) (by kernel_rfl) ?_
  rw [Tryz.ntmps277]
  conv => whnf
  repeat' (first | refine finGo ?_) <;> try (conv => whnf)
  rfl
theorem rank_bool {σ : Heap} {x : CV} : CRun Tryz.prog 281 [x] σ (· = .ret (i64 4) σ) := by
  refine crun_of (X := X) X_ok X_sat (body := bodyOf Tryz.f281) Tryz.func281 rfl (by kernel_rfl) (by kernel_rfl) ?_
  rw [Tryz.ntmps281]
  conv => whnf
  repeat' (first | refine finGo ?_) <;> try (conv => whnf)
  rfl
theorem rank_num {σ : Heap} {x : CV} : CRun Tryz.prog 285 [x] σ (· = .ret (i64 5) σ) := by
  refine crun_of (X := X) X_ok X_sat (body := bodyOf Tryz.f285) Tryz.func285 rfl (by kernel_rfl) (by kernel_rfl) ?_
  rw [Tryz.ntmps285]
  conv => whnf
  repeat' (first | refine finGo ?_) <;> try (conv => whnf)
  rfl
theorem rank_null {σ : Heap} : CRun Tryz.prog 289 [.agg []] σ (· = .ret (i64 6) σ) := by
  refine crun_of (X := X) X_ok X_sat (body := bodyOf Tryz.f289) Tryz.func289 rfl (by kernel_rfl) (by kernel_rfl) ?_
  rw [Tryz.ntmps289]
  conv => whnf
  repeat' (first | refine finGo ?_) <;> try (conv => whnf)
  rfl
def termV : Val → CV
  | .mk k n t l => if k = 5 then .iface 245 (i64 n) else if k = 6 then .iface 246 (i64 n) else if k = 4 then .iface 247 (.vec (Val.cvs l)) else if k = 3 then .iface 248 (.sc (.string t))
    else if k = 1 then .iface 249 (i64 n) else if k = 2 then .iface 250 (i64 n) else .iface 252 (.agg [])
theorem ansC {a b : CV} {σ : Heap} (h : b = a) : COut.ret a σ = .ret b σ := by rw [h]
theorem term_c {σ : Heap} {v : Val} : CRun Tryz.prog 240 [v.cv] σ (· = .ret (termV v) σ) := by
  obtain ⟨k, n, t, l⟩ := v
  refine crun_of (X := X) X_ok X_sat (body := bodyOf Tryz.f240) Tryz.func240 rfl (by kernel_rfl) (by kernel_rfl) ?_
  rw [Tryz.ntmps240]
  by_cases h5 : k = 5
  · conv => whnf
    repeat' (first | refine Fork.yp ?_ | refine finGo ?_) <;> try (conv => whnf)
    exact ansC (if_pos h5)
  by_cases h6 : k = 6
  · conv => whnf
    repeat' (first | refine Fork.yp ?_ | refine Fork.np ?_ | refine finGo ?_) <;> try (conv => whnf)
    exact ansC ((if_neg h5).trans (if_pos h6))
  by_cases h4 : k = 4
  · conv => whnf
    repeat' (first | refine Fork.yp ?_ | refine Fork.np ?_ | refine finGo ?_) <;> try (conv => whnf)
    exact ansC ((if_neg h5).trans ((if_neg h6).trans (if_pos h4)))
  by_cases h3 : k = 3
  · conv => whnf
    repeat' (first | refine Fork.yp ?_ | refine Fork.np ?_ | refine finGo ?_) <;> try (conv => whnf)
    exact ansC ((if_neg h5).trans ((if_neg h6).trans ((if_neg h4).trans (if_pos h3))))
  by_cases h1 : k = 1
  · conv => whnf
    repeat' (first | refine Fork.yp ?_ | refine Fork.np ?_ | refine finGo ?_) <;> try (conv => whnf)
    exact ansC ((if_neg h5).trans ((if_neg h6).trans ((if_neg h4).trans ((if_neg h3).trans (if_pos h1)))))
  by_cases h2 : k = 2
  · conv => whnf
    repeat' (first | refine Fork.yp ?_ | refine Fork.np ?_ | refine finGo ?_) <;> try (conv => whnf)
    exact ansC ((if_neg h5).trans ((if_neg h6).trans ((if_neg h4).trans ((if_neg h3).trans ((if_neg h1).trans (if_pos h2))))))
  · conv => whnf
    repeat' (first | refine Fork.np ?_ | refine finGo ?_) <;> try (conv => whnf)
    exact ansC ((if_neg h5).trans ((if_neg h6).trans ((if_neg h4).trans ((if_neg h3).trans ((if_neg h1).trans (if_neg h2))))))
end Go.Proofs.YthllnbfkfobcjaaGreat
namespace Go.Proofs.YthllnbfkfobcjaaGreat
open Go Go.CL
set_option maxRecDepth 100000
theorem MethN.of {P : Program} {t : TypeId} {name : String} {k : FuncId → Prop} {f : FuncId} (h : MethodIs P t name f) (hk : k f) : MethN P t name k := ⟨⟨f, h, hk⟩⟩
def rankI (k : Int) : Int := if k = 5 then 0 else if k = 6 then 1 else if k = 4 then 2 else if k = 3 then 3 else if k = 1 then 4 else if k = 2 then 5 else 6
theorem m_node_order : MethodIs Tryz.prog 245 "loop.example/ashlar/impl.order" 264 := fun v w => by
  show (method (Tryz.prog.types.size + Made.depth) 245 v "loop.example/ashlar/impl.order").run Tryz.prog w = _
  kernel_rfl
theorem m_node_rank : MethodIs Tryz.prog 245 "loop.example/ashlar/impl.rank" 265 := fun v w => by
  show (method (Tryz.prog.types.size + Made.depth) 245 v "loop.example/ashlar/impl.rank").run Tryz.prog w = _
  kernel_rfl
theorem n_node_order : NilIs Tryz.prog 245 "loop.example/ashlar/impl.order" := fun v w => by
  show (nilAhead (Tryz.prog.types.size + Made.depth) 245 v "loop.example/ashlar/impl.order").run Tryz.prog w = _
  kernel_rfl
theorem m_edge_order : MethodIs Tryz.prog 246 "loop.example/ashlar/impl.order" 270 := fun v w => by
  show (method (Tryz.prog.types.size + Made.depth) 246 v "loop.example/ashlar/impl.order").run Tryz.prog w = _
  kernel_rfl
theorem m_edge_rank : MethodIs Tryz.prog 246 "loop.example/ashlar/impl.rank" 271 := fun v w => by
  show (method (Tryz.prog.types.size + Made.depth) 246 v "loop.example/ashlar/impl.rank").run Tryz.prog w = _
  kernel_rfl
theorem n_edge_order : NilIs Tryz.prog 246 "loop.example/ashlar/impl.order" := fun v w => by
  show (nilAhead (Tryz.prog.types.size + Made.depth) 246 v "loop.example/ashlar/impl.order").run Tryz.prog w = _
  kernel_rfl
theorem m_list_order : MethodIs Tryz.prog 247 "loop.example/ashlar/impl.order" 274 := fun v w => by
  show (method (Tryz.prog.types.size + Made.depth) 247 v "loop.example/ashlar/impl.order").run Tryz.prog w = _
  kernel_rfl
theorem m_list_rank : MethodIs Tryz.prog 247 "loop.example/ashlar/impl.rank" 275 := fun v w => by
  show (method (Tryz.prog.types.size + Made.depth) 247 v "loop.example/ashlar/impl.rank").run Tryz.prog w = _
  kernel_rfl
theorem n_list_order : NilIs Tryz.prog 247 "loop.example/ashlar/impl.order" := fun v w => by
  show (nilAhead (Tryz.prog.types.size + Made.depth) 247 v "loop.example/ashlar/impl.order").run Tryz.prog w = _
  kernel_rfl
theorem m_text_order : MethodIs Tryz.prog 248 "loop.example/ashlar/impl.order" 276 := fun v w => by
  show (method (Tryz.prog.types.size + Made.depth) 248 v "loop.example/ashlar/impl.order").run Tryz.prog w = _
  kernel_rfl
theorem m_text_rank : MethodIs Tryz.prog 248 "loop.example/ashlar/impl.rank" 277 := fun v w => by
  show (method (Tryz.prog.types.size + Made.depth) 248 v "loop.example/ashlar/impl.rank").run Tryz.prog w = _
  kernel_rfl
theorem n_text_order : NilIs Tryz.prog 248 "loop.example/ashlar/impl.order" := fun v w => by
  show (nilAhead (Tryz.prog.types.size + Made.depth) 248 v "loop.example/ashlar/impl.order").run Tryz.prog w = _
  kernel_rfl
theorem m_bool_order : MethodIs Tryz.prog 249 "loop.example/ashlar/impl.order" 280 := fun v w => by
  show (method (Tryz.prog.types.size + Made.depth) 249 v "loop.example/ashlar/impl.order").run Tryz.prog w = _
  kernel_rfl
theorem m_bool_rank : MethodIs Tryz.prog 249 "loop.example/ashlar/impl.rank" 281 := fun v w => by
  show (method (Tryz.prog.types.size + Made.depth) 249 v "loop.example/ashlar/impl.rank").run Tryz.prog w = _
  kernel_rfl
theorem n_bool_order : NilIs Tryz.prog 249 "loop.example/ashlar/impl.order" := fun v w => by
  show (nilAhead (Tryz.prog.types.size + Made.depth) 249 v "loop.example/ashlar/impl.order").run Tryz.prog w = _
  kernel_rfl
theorem m_num_order : MethodIs Tryz.prog 250 "loop.example/ashlar/impl.order" 284 := fun v w => by
  show (method (Tryz.prog.types.size + Made.depth) 250 v "loop.example/ashlar/impl.order").run Tryz.prog w = _
  kernel_rfl
theorem m_num_rank : MethodIs Tryz.prog 250 "loop.example/ashlar/impl.rank" 285 := fun v w => by
  show (method (Tryz.prog.types.size + Made.depth) 250 v "loop.example/ashlar/impl.rank").run Tryz.prog w = _
  kernel_rfl
theorem n_num_order : NilIs Tryz.prog 250 "loop.example/ashlar/impl.order" := fun v w => by
  show (nilAhead (Tryz.prog.types.size + Made.depth) 250 v "loop.example/ashlar/impl.order").run Tryz.prog w = _
  kernel_rfl
theorem m_null_order : MethodIs Tryz.prog 252 "loop.example/ashlar/impl.order" 288 := fun v w => by
  show (method (Tryz.prog.types.size + Made.depth) 252 v "loop.example/ashlar/impl.order").run Tryz.prog w = _
  kernel_rfl
theorem m_null_rank : MethodIs Tryz.prog 252 "loop.example/ashlar/impl.rank" 289 := fun v w => by
  show (method (Tryz.prog.types.size + Made.depth) 252 v "loop.example/ashlar/impl.rank").run Tryz.prog w = _
  kernel_rfl
theorem n_null_order : NilIs Tryz.prog 252 "loop.example/ashlar/impl.order" := fun v w => by
  show (nilAhead (Tryz.prog.types.size + Made.depth) 252 v "loop.example/ashlar/impl.order").run Tryz.prog w = _
  kernel_rfl
theorem ord_node_node {σ : Heap} {a b : Int} {s0 s : ByteArray} {m : List CV} : CRun Tryz.prog 264 [i64 a, .iface 245 (i64 b)] σ (· = .ret (i64 (intsF a b)) σ) := by
  refine crun_of (X := X) X_ok X_sat (body := bodyOf Tryz.f264) Tryz.func264 rfl (by kernel_rfl) (by kernel_rfl) ?_
  rw [Tryz.ntmps264]
  conv => whnf
  repeat' (first | (refine CallN.one cmp_node ?_) | refine ExtN.ext ?_ | refine finGo ?_) <;> try (conv => whnf)
  rfl
theorem ord_node_edge {σ : Heap} {a b : Int} {s0 s : ByteArray} {m : List CV} : CRun Tryz.prog 264 [i64 a, .iface 246 (i64 b)] σ (· = .ret (i64 (intsF 0 1)) σ) := by
  refine crun_of (X := X) X_ok X_sat (body := bodyOf Tryz.f264) Tryz.func264 rfl (by kernel_rfl) (by kernel_rfl) ?_
  rw [Tryz.ntmps264]
  conv => whnf
  repeat' (first | (refine MethN.of m_edge_rank ?_) | (refine CallN.one rank_node ?_) | (refine CallN.one rank_edge ?_) | (refine CallN.one cmp_int ?_) | refine ExtN.ext ?_ | refine finGo ?_) <;> try (conv => whnf)
  rfl
theorem ord_node_list {σ : Heap} {a b : Int} {s0 s : ByteArray} {m : List CV} : CRun Tryz.prog 264 [i64 a, .iface 247 (.vec m)] σ (· = .ret (i64 (intsF 0 2)) σ) := by
  refine crun_of (X := X) X_ok X_sat (body := bodyOf Tryz.f264) Tryz.func264 rfl (by kernel_rfl) (by kernel_rfl) ?_
  rw [Tryz.ntmps264]
  conv => whnf
  repeat' (first | (refine MethN.of m_list_rank ?_) | (refine CallN.one rank_node ?_) | (refine CallN.one rank_list ?_) | (refine CallN.one cmp_int ?_) | refine ExtN.ext ?_ | refine finGo ?_) <;> try (conv => whnf)
  rfl
theorem ord_node_text {σ : Heap} {a b : Int} {s0 s : ByteArray} {m : List CV} : CRun Tryz.prog 264 [i64 a, .iface 248 (.sc (.string s))] σ (· = .ret (i64 (intsF 0 3)) σ) := by
  refine crun_of (X := X) X_ok X_sat (body := bodyOf Tryz.f264) Tryz.func264 rfl (by kernel_rfl) (by kernel_rfl) ?_
  rw [Tryz.ntmps264]
  conv => whnf
  repeat' (first | (refine MethN.of m_text_rank ?_) | (refine CallN.one rank_node ?_) | (refine CallN.one rank_text ?_) | (refine CallN.one cmp_int ?_) | refine ExtN.ext ?_ | refine finGo ?_) <;> try (conv => whnf)
  rfl
theorem ord_node_bool {σ : Heap} {a b : Int} {s0 s : ByteArray} {m : List CV} : CRun Tryz.prog 264 [i64 a, .iface 249 (i64 b)] σ (· = .ret (i64 (intsF 0 4)) σ) := by
  refine crun_of (X := X) X_ok X_sat (body := bodyOf Tryz.f264) Tryz.func264 rfl (by kernel_rfl) (by kernel_rfl) ?_
  rw [Tryz.ntmps264]
  conv => whnf
  repeat' (first | (refine MethN.of m_bool_rank ?_) | (refine CallN.one rank_node ?_) | (refine CallN.one rank_bool ?_) | (refine CallN.one cmp_int ?_) | refine ExtN.ext ?_ | refine finGo ?_) <;> try (conv => whnf)
  rfl
theorem ord_node_num {σ : Heap} {a b : Int} {s0 s : ByteArray} {m : List CV} : CRun Tryz.prog 264 [i64 a, .iface 250 (i64 b)] σ (· = .ret (i64 (intsF 0 5)) σ) := by
  refine crun_of (X := X) X_ok X_sat (body := bodyOf Tryz.f264) Tryz.func264 rfl (by kernel_rfl) (by kernel_rfl) ?_
  rw [Tryz.ntmps264]
  conv => whnf
  repeat' (first | (refine MethN.of m_num_rank ?_) | (refine CallN.one rank_node ?_) | (refine CallN.one rank_num ?_) | (refine CallN.one cmp_int ?_) | refine ExtN.ext ?_ | refine finGo ?_) <;> try (conv => whnf)
  rfl
theorem ord_node_null {σ : Heap} {a b : Int} {s0 s : ByteArray} {m : List CV} : CRun Tryz.prog 264 [i64 a, .iface 252 (.agg [])] σ (· = .ret (i64 (intsF 0 6)) σ) := by
  refine crun_of (X := X) X_ok X_sat (body := bodyOf Tryz.f264) Tryz.func264 rfl (by kernel_rfl) (by kernel_rfl) ?_
  rw [Tryz.ntmps264]
  conv => whnf
  repeat' (first | (refine MethN.of m_null_rank ?_) | (refine CallN.one rank_node ?_) | (refine CallN.one rank_null ?_) | (refine CallN.one cmp_int ?_) | refine ExtN.ext ?_ | refine finGo ?_) <;> try (conv => whnf)
  rfl
theorem ord_edge_node {σ : Heap} {a b : Int} {s0 s : ByteArray} {m : List CV} : CRun Tryz.prog 270 [i64 a, .iface 245 (i64 b)] σ (· = .ret (i64 (intsF 1 0)) σ) := by
  refine crun_of (X := X) X_ok X_sat (body := bodyOf Tryz.f270) Tryz.func270 rfl (by kernel_rfl) (by kernel_rfl) ?_
  rw [Tryz.ntmps270]
  conv => whnf
  repeat' (first | (refine MethN.of m_node_rank ?_) | (refine CallN.one rank_edge ?_) | (refine CallN.one rank_node ?_) | (refine CallN.one cmp_int ?_) | refine ExtN.ext ?_ | refine finGo ?_) <;> try (conv => whnf)
  rfl
theorem ord_edge_edge {σ : Heap} {a b : Int} {s0 s : ByteArray} {m : List CV} : CRun Tryz.prog 270 [i64 a, .iface 246 (i64 b)] σ (· = .ret (i64 (intsF a b)) σ) := by
  refine crun_of (X := X) X_ok X_sat (body := bodyOf Tryz.f270) Tryz.func270 rfl (by kernel_rfl) (by kernel_rfl) ?_
  rw [Tryz.ntmps270]
  conv => whnf
  repeat' (first | (refine CallN.one cmp_edge ?_) | refine ExtN.ext ?_ | refine finGo ?_) <;> try (conv => whnf)
  rfl
theorem ord_edge_list {σ : Heap} {a b : Int} {s0 s : ByteArray} {m : List CV} : CRun Tryz.prog 270 [i64 a, .iface 247 (.vec m)] σ (· = .ret (i64 (intsF 1 2)) σ) := by
  refine crun_of (X := X) X_ok X_sat (body := bodyOf Tryz.f270) Tryz.func270 rfl (by kernel_rfl) (by kernel_rfl) ?_
  rw [Tryz.ntmps270]
  conv => whnf
  repeat' (first | (refine MethN.of m_list_rank ?_) | (refine CallN.one rank_edge ?_) | (refine CallN.one rank_list ?_) | (refine CallN.one cmp_int ?_) | refine ExtN.ext ?_ | refine finGo ?_) <;> try (conv => whnf)
  rfl
theorem ord_edge_text {σ : Heap} {a b : Int} {s0 s : ByteArray} {m : List CV} : CRun Tryz.prog 270 [i64 a, .iface 248 (.sc (.string s))] σ (· = .ret (i64 (intsF 1 3)) σ) := by
  refine crun_of (X := X) X_ok X_sat (body := bodyOf Tryz.f270) Tryz.func270 rfl (by kernel_rfl) (by kernel_rfl) ?_
  rw [Tryz.ntmps270]
  conv => whnf
  repeat' (first | (refine MethN.of m_text_rank ?_) | (refine CallN.one rank_edge ?_) | (refine CallN.one rank_text ?_) | (refine CallN.one cmp_int ?_) | refine ExtN.ext ?_ | refine finGo ?_) <;> try (conv => whnf)
  rfl
theorem ord_edge_bool {σ : Heap} {a b : Int} {s0 s : ByteArray} {m : List CV} : CRun Tryz.prog 270 [i64 a, .iface 249 (i64 b)] σ (· = .ret (i64 (intsF 1 4)) σ) := by
  refine crun_of (X := X) X_ok X_sat (body := bodyOf Tryz.f270) Tryz.func270 rfl (by kernel_rfl) (by kernel_rfl) ?_
  rw [Tryz.ntmps270]
  conv => whnf
  repeat' (first | (refine MethN.of m_bool_rank ?_) | (refine CallN.one rank_edge ?_) | (refine CallN.one rank_bool ?_) | (refine CallN.one cmp_int ?_) | refine ExtN.ext ?_ | refine finGo ?_) <;> try (conv => whnf)
  rfl
theorem ord_edge_num {σ : Heap} {a b : Int} {s0 s : ByteArray} {m : List CV} : CRun Tryz.prog 270 [i64 a, .iface 250 (i64 b)] σ (· = .ret (i64 (intsF 1 5)) σ) := by
  refine crun_of (X := X) X_ok X_sat (body := bodyOf Tryz.f270) Tryz.func270 rfl (by kernel_rfl) (by kernel_rfl) ?_
  rw [Tryz.ntmps270]
  conv => whnf
  repeat' (first | (refine MethN.of m_num_rank ?_) | (refine CallN.one rank_edge ?_) | (refine CallN.one rank_num ?_) | (refine CallN.one cmp_int ?_) | refine ExtN.ext ?_ | refine finGo ?_) <;> try (conv => whnf)
  rfl
theorem ord_edge_null {σ : Heap} {a b : Int} {s0 s : ByteArray} {m : List CV} : CRun Tryz.prog 270 [i64 a, .iface 252 (.agg [])] σ (· = .ret (i64 (intsF 1 6)) σ) := by
  refine crun_of (X := X) X_ok X_sat (body := bodyOf Tryz.f270) Tryz.func270 rfl (by kernel_rfl) (by kernel_rfl) ?_
  rw [Tryz.ntmps270]
  conv => whnf
  repeat' (first | (refine MethN.of m_null_rank ?_) | (refine CallN.one rank_edge ?_) | (refine CallN.one rank_null ?_) | (refine CallN.one cmp_int ?_) | refine ExtN.ext ?_ | refine finGo ?_) <;> try (conv => whnf)
  rfl
theorem ord_text_node {σ : Heap} {a b : Int} {s0 s : ByteArray} {m : List CV} : CRun Tryz.prog 276 [.sc (.string s0), .iface 245 (i64 b)] σ (· = .ret (i64 (intsF 3 0)) σ) := by
  refine crun_of (X := X) X_ok X_sat (body := bodyOf Tryz.f276) Tryz.func276 rfl (by kernel_rfl) (by kernel_rfl) ?_
  rw [Tryz.ntmps276]
  conv => whnf
  repeat' (first | (refine MethN.of m_node_rank ?_) | (refine CallN.one rank_text ?_) | (refine CallN.one rank_node ?_) | (refine CallN.one cmp_int ?_) | refine ExtN.ext ?_ | refine finGo ?_) <;> try (conv => whnf)
  rfl
theorem ord_text_edge {σ : Heap} {a b : Int} {s0 s : ByteArray} {m : List CV} : CRun Tryz.prog 276 [.sc (.string s0), .iface 246 (i64 b)] σ (· = .ret (i64 (intsF 3 1)) σ) := by
  refine crun_of (X := X) X_ok X_sat (body := bodyOf Tryz.f276) Tryz.func276 rfl (by kernel_rfl) (by kernel_rfl) ?_
  rw [Tryz.ntmps276]
  conv => whnf
  repeat' (first | (refine MethN.of m_edge_rank ?_) | (refine CallN.one rank_text ?_) | (refine CallN.one rank_edge ?_) | (refine CallN.one cmp_int ?_) | refine ExtN.ext ?_ | refine finGo ?_) <;> try (conv => whnf)
  rfl
theorem ord_text_list {σ : Heap} {a b : Int} {s0 s : ByteArray} {m : List CV} : CRun Tryz.prog 276 [.sc (.string s0), .iface 247 (.vec m)] σ (· = .ret (i64 (intsF 3 2)) σ) := by
  refine crun_of (X := X) X_ok X_sat (body := bodyOf Tryz.f276) Tryz.func276 rfl (by kernel_rfl) (by kernel_rfl) ?_
  rw [Tryz.ntmps276]
  conv => whnf
  repeat' (first | (refine MethN.of m_list_rank ?_) | (refine CallN.one rank_text ?_) | (refine CallN.one rank_list ?_) | (refine CallN.one cmp_int ?_) | refine ExtN.ext ?_ | refine finGo ?_) <;> try (conv => whnf)
  rfl
theorem ord_text_text {σ : Heap} {a b : Int} {s0 s : ByteArray} {m : List CV} : CRun Tryz.prog 276 [.sc (.string s0), .iface 248 (.sc (.string s))] σ (· = .ret (i64 (textsF s0 s)) σ) := by
  refine crun_of (X := X) X_ok X_sat (body := bodyOf Tryz.f276) Tryz.func276 rfl (by kernel_rfl) (by kernel_rfl) ?_
  rw [Tryz.ntmps276]
  conv => whnf
  repeat' (first | (refine CallN.one cmp_text ?_) | refine ExtN.ext ?_ | refine finGo ?_) <;> try (conv => whnf)
  rfl
theorem ord_text_bool {σ : Heap} {a b : Int} {s0 s : ByteArray} {m : List CV} : CRun Tryz.prog 276 [.sc (.string s0), .iface 249 (i64 b)] σ (· = .ret (i64 (intsF 3 4)) σ) := by
  refine crun_of (X := X) X_ok X_sat (body := bodyOf Tryz.f276) Tryz.func276 rfl (by kernel_rfl) (by kernel_rfl) ?_
  rw [Tryz.ntmps276]
  conv => whnf
  repeat' (first | (refine MethN.of m_bool_rank ?_) | (refine CallN.one rank_text ?_) | (refine CallN.one rank_bool ?_) | (refine CallN.one cmp_int ?_) | refine ExtN.ext ?_ | refine finGo ?_) <;> try (conv => whnf)
  rfl
theorem ord_text_num {σ : Heap} {a b : Int} {s0 s : ByteArray} {m : List CV} : CRun Tryz.prog 276 [.sc (.string s0), .iface 250 (i64 b)] σ (· = .ret (i64 (intsF 3 5)) σ) := by
  refine crun_of (X := X) X_ok X_sat (body := bodyOf Tryz.f276) Tryz.func276 rfl (by kernel_rfl) (by kernel_rfl) ?_
  rw [Tryz.ntmps276]
  conv => whnf
  repeat' (first | (refine MethN.of m_num_rank ?_) | (refine CallN.one rank_text ?_) | (refine CallN.one rank_num ?_) | (refine CallN.one cmp_int ?_) | refine ExtN.ext ?_ | refine finGo ?_) <;> try (conv => whnf)
  rfl
theorem ord_text_null {σ : Heap} {a b : Int} {s0 s : ByteArray} {m : List CV} : CRun Tryz.prog 276 [.sc (.string s0), .iface 252 (.agg [])] σ (· = .ret (i64 (intsF 3 6)) σ) := by
  refine crun_of (X := X) X_ok X_sat (body := bodyOf Tryz.f276) Tryz.func276 rfl (by kernel_rfl) (by kernel_rfl) ?_
  rw [Tryz.ntmps276]
  conv => whnf
  repeat' (first | (refine MethN.of m_null_rank ?_) | (refine CallN.one rank_text ?_) | (refine CallN.one rank_null ?_) | (refine CallN.one cmp_int ?_) | refine ExtN.ext ?_ | refine finGo ?_) <;> try (conv => whnf)
  rfl
theorem ord_bool_node {σ : Heap} {a b : Int} {s0 s : ByteArray} {m : List CV} : CRun Tryz.prog 280 [i64 a, .iface 245 (i64 b)] σ (· = .ret (i64 (intsF 4 0)) σ) := by
  refine crun_of (X := X) X_ok X_sat (body := bodyOf Tryz.f280) Tryz.func280 rfl (by kernel_rfl) (by kernel_rfl) ?_
  rw [Tryz.ntmps280]
  conv => whnf
  repeat' (first | (refine MethN.of m_node_rank ?_) | (refine CallN.one rank_bool ?_) | (refine CallN.one rank_node ?_) | (refine CallN.one cmp_int ?_) | refine ExtN.ext ?_ | refine finGo ?_) <;> try (conv => whnf)
  rfl
theorem ord_bool_edge {σ : Heap} {a b : Int} {s0 s : ByteArray} {m : List CV} : CRun Tryz.prog 280 [i64 a, .iface 246 (i64 b)] σ (· = .ret (i64 (intsF 4 1)) σ) := by
  refine crun_of (X := X) X_ok X_sat (body := bodyOf Tryz.f280) Tryz.func280 rfl (by kernel_rfl) (by kernel_rfl) ?_
  rw [Tryz.ntmps280]
  conv => whnf
  repeat' (first | (refine MethN.of m_edge_rank ?_) | (refine CallN.one rank_bool ?_) | (refine CallN.one rank_edge ?_) | (refine CallN.one cmp_int ?_) | refine ExtN.ext ?_ | refine finGo ?_) <;> try (conv => whnf)
  rfl
theorem ord_bool_list {σ : Heap} {a b : Int} {s0 s : ByteArray} {m : List CV} : CRun Tryz.prog 280 [i64 a, .iface 247 (.vec m)] σ (· = .ret (i64 (intsF 4 2)) σ) := by
  refine crun_of (X := X) X_ok X_sat (body := bodyOf Tryz.f280) Tryz.func280 rfl (by kernel_rfl) (by kernel_rfl) ?_
  rw [Tryz.ntmps280]
  conv => whnf
  repeat' (first | (refine MethN.of m_list_rank ?_) | (refine CallN.one rank_bool ?_) | (refine CallN.one rank_list ?_) | (refine CallN.one cmp_int ?_) | refine ExtN.ext ?_ | refine finGo ?_) <;> try (conv => whnf)
  rfl
theorem ord_bool_text {σ : Heap} {a b : Int} {s0 s : ByteArray} {m : List CV} : CRun Tryz.prog 280 [i64 a, .iface 248 (.sc (.string s))] σ (· = .ret (i64 (intsF 4 3)) σ) := by
  refine crun_of (X := X) X_ok X_sat (body := bodyOf Tryz.f280) Tryz.func280 rfl (by kernel_rfl) (by kernel_rfl) ?_
  rw [Tryz.ntmps280]
  conv => whnf
  repeat' (first | (refine MethN.of m_text_rank ?_) | (refine CallN.one rank_bool ?_) | (refine CallN.one rank_text ?_) | (refine CallN.one cmp_int ?_) | refine ExtN.ext ?_ | refine finGo ?_) <;> try (conv => whnf)
  rfl
theorem ord_bool_bool {σ : Heap} {a b : Int} {s0 s : ByteArray} {m : List CV} : CRun Tryz.prog 280 [i64 a, .iface 249 (i64 b)] σ (· = .ret (i64 (intsF a b)) σ) := by
  refine crun_of (X := X) X_ok X_sat (body := bodyOf Tryz.f280) Tryz.func280 rfl (by kernel_rfl) (by kernel_rfl) ?_
  rw [Tryz.ntmps280]
  conv => whnf
  repeat' (first | (refine CallN.one cmp_bool ?_) | refine ExtN.ext ?_ | refine finGo ?_) <;> try (conv => whnf)
  rfl
theorem ord_bool_num {σ : Heap} {a b : Int} {s0 s : ByteArray} {m : List CV} : CRun Tryz.prog 280 [i64 a, .iface 250 (i64 b)] σ (· = .ret (i64 (intsF 4 5)) σ) := by
  refine crun_of (X := X) X_ok X_sat (body := bodyOf Tryz.f280) Tryz.func280 rfl (by kernel_rfl) (by kernel_rfl) ?_
  rw [Tryz.ntmps280]
  conv => whnf
  repeat' (first | (refine MethN.of m_num_rank ?_) | (refine CallN.one rank_bool ?_) | (refine CallN.one rank_num ?_) | (refine CallN.one cmp_int ?_) | refine ExtN.ext ?_ | refine finGo ?_) <;> try (conv => whnf)
  rfl
theorem ord_bool_null {σ : Heap} {a b : Int} {s0 s : ByteArray} {m : List CV} : CRun Tryz.prog 280 [i64 a, .iface 252 (.agg [])] σ (· = .ret (i64 (intsF 4 6)) σ) := by
  refine crun_of (X := X) X_ok X_sat (body := bodyOf Tryz.f280) Tryz.func280 rfl (by kernel_rfl) (by kernel_rfl) ?_
  rw [Tryz.ntmps280]
  conv => whnf
  repeat' (first | (refine MethN.of m_null_rank ?_) | (refine CallN.one rank_bool ?_) | (refine CallN.one rank_null ?_) | (refine CallN.one cmp_int ?_) | refine ExtN.ext ?_ | refine finGo ?_) <;> try (conv => whnf)
  rfl
theorem ord_num_node {σ : Heap} {a b : Int} {s0 s : ByteArray} {m : List CV} : CRun Tryz.prog 284 [i64 a, .iface 245 (i64 b)] σ (· = .ret (i64 (intsF 5 0)) σ) := by
  refine crun_of (X := X) X_ok X_sat (body := bodyOf Tryz.f284) Tryz.func284 rfl (by kernel_rfl) (by kernel_rfl) ?_
  rw [Tryz.ntmps284]
  conv => whnf
  repeat' (first | (refine MethN.of m_node_rank ?_) | (refine CallN.one rank_num ?_) | (refine CallN.one rank_node ?_) | (refine CallN.one cmp_int ?_) | refine ExtN.ext ?_ | refine finGo ?_) <;> try (conv => whnf)
  rfl
theorem ord_num_edge {σ : Heap} {a b : Int} {s0 s : ByteArray} {m : List CV} : CRun Tryz.prog 284 [i64 a, .iface 246 (i64 b)] σ (· = .ret (i64 (intsF 5 1)) σ) := by
  refine crun_of (X := X) X_ok X_sat (body := bodyOf Tryz.f284) Tryz.func284 rfl (by kernel_rfl) (by kernel_rfl) ?_
  rw [Tryz.ntmps284]
  conv => whnf
  repeat' (first | (refine MethN.of m_edge_rank ?_) | (refine CallN.one rank_num ?_) | (refine CallN.one rank_edge ?_) | (refine CallN.one cmp_int ?_) | refine ExtN.ext ?_ | refine finGo ?_) <;> try (conv => whnf)
  rfl
theorem ord_num_list {σ : Heap} {a b : Int} {s0 s : ByteArray} {m : List CV} : CRun Tryz.prog 284 [i64 a, .iface 247 (.vec m)] σ (· = .ret (i64 (intsF 5 2)) σ) := by
  refine crun_of (X := X) X_ok X_sat (body := bodyOf Tryz.f284) Tryz.func284 rfl (by kernel_rfl) (by kernel_rfl) ?_
  rw [Tryz.ntmps284]
  conv => whnf
  repeat' (first | (refine MethN.of m_list_rank ?_) | (refine CallN.one rank_num ?_) | (refine CallN.one rank_list ?_) | (refine CallN.one cmp_int ?_) | refine ExtN.ext ?_ | refine finGo ?_) <;> try (conv => whnf)
  rfl
theorem ord_num_text {σ : Heap} {a b : Int} {s0 s : ByteArray} {m : List CV} : CRun Tryz.prog 284 [i64 a, .iface 248 (.sc (.string s))] σ (· = .ret (i64 (intsF 5 3)) σ) := by
  refine crun_of (X := X) X_ok X_sat (body := bodyOf Tryz.f284) Tryz.func284 rfl (by kernel_rfl) (by kernel_rfl) ?_
  rw [Tryz.ntmps284]
  conv => whnf
  repeat' (first | (refine MethN.of m_text_rank ?_) | (refine CallN.one rank_num ?_) | (refine CallN.one rank_text ?_) | (refine CallN.one cmp_int ?_) | refine ExtN.ext ?_ | refine finGo ?_) <;> try (conv => whnf)
  rfl
theorem ord_num_bool {σ : Heap} {a b : Int} {s0 s : ByteArray} {m : List CV} : CRun Tryz.prog 284 [i64 a, .iface 249 (i64 b)] σ (· = .ret (i64 (intsF 5 4)) σ) := by
  refine crun_of (X := X) X_ok X_sat (body := bodyOf Tryz.f284) Tryz.func284 rfl (by kernel_rfl) (by kernel_rfl) ?_
  rw [Tryz.ntmps284]
  conv => whnf
  repeat' (first | (refine MethN.of m_bool_rank ?_) | (refine CallN.one rank_num ?_) | (refine CallN.one rank_bool ?_) | (refine CallN.one cmp_int ?_) | refine ExtN.ext ?_ | refine finGo ?_) <;> try (conv => whnf)
  rfl
theorem ord_num_num {σ : Heap} {a b : Int} {s0 s : ByteArray} {m : List CV} : CRun Tryz.prog 284 [i64 a, .iface 250 (i64 b)] σ (· = .ret (i64 (intsF a b)) σ) := by
  refine crun_of (X := X) X_ok X_sat (body := bodyOf Tryz.f284) Tryz.func284 rfl (by kernel_rfl) (by kernel_rfl) ?_
  rw [Tryz.ntmps284]
  conv => whnf
  repeat' (first | (refine CallN.one cmp_num ?_) | refine ExtN.ext ?_ | refine finGo ?_) <;> try (conv => whnf)
  rfl
theorem ord_num_null {σ : Heap} {a b : Int} {s0 s : ByteArray} {m : List CV} : CRun Tryz.prog 284 [i64 a, .iface 252 (.agg [])] σ (· = .ret (i64 (intsF 5 6)) σ) := by
  refine crun_of (X := X) X_ok X_sat (body := bodyOf Tryz.f284) Tryz.func284 rfl (by kernel_rfl) (by kernel_rfl) ?_
  rw [Tryz.ntmps284]
  conv => whnf
  repeat' (first | (refine MethN.of m_null_rank ?_) | (refine CallN.one rank_num ?_) | (refine CallN.one rank_null ?_) | (refine CallN.one cmp_int ?_) | refine ExtN.ext ?_ | refine finGo ?_) <;> try (conv => whnf)
  rfl
theorem ord_null_node {σ : Heap} {a b : Int} {s0 s : ByteArray} {m : List CV} : CRun Tryz.prog 288 [.agg [], .iface 245 (i64 b)] σ (· = .ret (i64 (intsF 6 0)) σ) := by
  refine crun_of (X := X) X_ok X_sat (body := bodyOf Tryz.f288) Tryz.func288 rfl (by kernel_rfl) (by kernel_rfl) ?_
  rw [Tryz.ntmps288]
  conv => whnf
  repeat' (first | (refine MethN.of m_node_rank ?_) | (refine CallN.one rank_null ?_) | (refine CallN.one rank_node ?_) | (refine CallN.one cmp_int ?_) | refine ExtN.ext ?_ | refine finGo ?_) <;> try (conv => whnf)
  rfl
theorem ord_null_edge {σ : Heap} {a b : Int} {s0 s : ByteArray} {m : List CV} : CRun Tryz.prog 288 [.agg [], .iface 246 (i64 b)] σ (· = .ret (i64 (intsF 6 1)) σ) := by
  refine crun_of (X := X) X_ok X_sat (body := bodyOf Tryz.f288) Tryz.func288 rfl (by kernel_rfl) (by kernel_rfl) ?_
  rw [Tryz.ntmps288]
  conv => whnf
  repeat' (first | (refine MethN.of m_edge_rank ?_) | (refine CallN.one rank_null ?_) | (refine CallN.one rank_edge ?_) | (refine CallN.one cmp_int ?_) | refine ExtN.ext ?_ | refine finGo ?_) <;> try (conv => whnf)
  rfl
theorem ord_null_list {σ : Heap} {a b : Int} {s0 s : ByteArray} {m : List CV} : CRun Tryz.prog 288 [.agg [], .iface 247 (.vec m)] σ (· = .ret (i64 (intsF 6 2)) σ) := by
  refine crun_of (X := X) X_ok X_sat (body := bodyOf Tryz.f288) Tryz.func288 rfl (by kernel_rfl) (by kernel_rfl) ?_
  rw [Tryz.ntmps288]
  conv => whnf
  repeat' (first | (refine MethN.of m_list_rank ?_) | (refine CallN.one rank_null ?_) | (refine CallN.one rank_list ?_) | (refine CallN.one cmp_int ?_) | refine ExtN.ext ?_ | refine finGo ?_) <;> try (conv => whnf)
  rfl
theorem ord_null_text {σ : Heap} {a b : Int} {s0 s : ByteArray} {m : List CV} : CRun Tryz.prog 288 [.agg [], .iface 248 (.sc (.string s))] σ (· = .ret (i64 (intsF 6 3)) σ) := by
  refine crun_of (X := X) X_ok X_sat (body := bodyOf Tryz.f288) Tryz.func288 rfl (by kernel_rfl) (by kernel_rfl) ?_
  rw [Tryz.ntmps288]
  conv => whnf
  repeat' (first | (refine MethN.of m_text_rank ?_) | (refine CallN.one rank_null ?_) | (refine CallN.one rank_text ?_) | (refine CallN.one cmp_int ?_) | refine ExtN.ext ?_ | refine finGo ?_) <;> try (conv => whnf)
  rfl
theorem ord_null_bool {σ : Heap} {a b : Int} {s0 s : ByteArray} {m : List CV} : CRun Tryz.prog 288 [.agg [], .iface 249 (i64 b)] σ (· = .ret (i64 (intsF 6 4)) σ) := by
  refine crun_of (X := X) X_ok X_sat (body := bodyOf Tryz.f288) Tryz.func288 rfl (by kernel_rfl) (by kernel_rfl) ?_
  rw [Tryz.ntmps288]
  conv => whnf
  repeat' (first | (refine MethN.of m_bool_rank ?_) | (refine CallN.one rank_null ?_) | (refine CallN.one rank_bool ?_) | (refine CallN.one cmp_int ?_) | refine ExtN.ext ?_ | refine finGo ?_) <;> try (conv => whnf)
  rfl
theorem ord_null_num {σ : Heap} {a b : Int} {s0 s : ByteArray} {m : List CV} : CRun Tryz.prog 288 [.agg [], .iface 250 (i64 b)] σ (· = .ret (i64 (intsF 6 5)) σ) := by
  refine crun_of (X := X) X_ok X_sat (body := bodyOf Tryz.f288) Tryz.func288 rfl (by kernel_rfl) (by kernel_rfl) ?_
  rw [Tryz.ntmps288]
  conv => whnf
  repeat' (first | (refine MethN.of m_num_rank ?_) | (refine CallN.one rank_null ?_) | (refine CallN.one rank_num ?_) | (refine CallN.one cmp_int ?_) | refine ExtN.ext ?_ | refine finGo ?_) <;> try (conv => whnf)
  rfl
theorem ord_null_null {σ : Heap} {a b : Int} {s0 s : ByteArray} {m : List CV} : CRun Tryz.prog 288 [.agg [], .iface 252 (.agg [])] σ (· = .ret (i64 (intsF 6 6)) σ) := by
  refine crun_of (X := X) X_ok X_sat (body := bodyOf Tryz.f288) Tryz.func288 rfl (by kernel_rfl) (by kernel_rfl) ?_
  rw [Tryz.ntmps288]
  conv => whnf
  repeat' (first | (refine MethN.of m_null_rank ?_) | (refine CallN.one rank_null ?_) | (refine CallN.one cmp_int ?_) | refine ExtN.ext ?_ | refine finGo ?_) <;> try (conv => whnf)
  rfl
end Go.Proofs.YthllnbfkfobcjaaGreat
namespace Go.Proofs.YthllnbfkfobcjaaGreat
open Go Go.CL
set_option maxRecDepth 10000
mutual
def ordI : Val → Val → Int
  | .mk k n t l, .mk k' n' t' l' =>
    if rankI k ≠ rankI k' then intsF (rankI k) (rankI k')
    else if k = 4 then ordIL l l'
    else if k = 3 then textsF t t'
    else if rankI k = 6 then 0
    else intsF n n'
def ordIL : List Val → List Val → Int
  | [], m => intsF 0 m.length
  | v :: r, [] => intsF (r.length + 1) 0
  | v :: r, w :: s => if ordI v w ≠ 0 then ordI v w else ordIL r s
end
theorem ordIL_none {l m : List Val} (h : l = [] ∨ m = []) : ordIL l m = intsF l.length m.length := by
  rcases h with rfl | rfl
  · cases m <;> simp [ordIL]
  · cases l <;> simp [ordIL]
theorem ord_list_list {σ : Heap} {l l' : List Val} (hl : l.length ≤ 100) (hl' : l'.length ≤ 100) (ht : ∀ w ∈ l', Tame w) (ih : ∀ w ∈ l, ∀ {w' : Val}, Tame w' → CRun Tryz.prog 220 [w.cv, w'.cv] σ (· = .ret (i64 (ordI w w')) σ)) :
    CRun Tryz.prog 274 [.vec (Val.cvs l), .iface 247 (.vec (Val.cvs l'))] σ (· = .ret (i64 (ordIL l l')) σ) := by
  have e3 := cvs_length l
  have e4 := cvs_length l'
  refine crun_of (X := X) X_ok X_sat (body := bodyOf Tryz.f274) Tryz.func274 rfl (by kernel_rfl) (by kernel_rfl) ?_
  rw [Tryz.ntmps274]
  conv => whnf
  repeat' (first | refine OrdN.one ?_ | refine Fork.yp ?_ | refine Fork.np ?_ | refine Fork.ny ?_ | refine Fork.nn ?_ | refine Fork.yb ?_ | refine Fork.nb ?_ | refine Fork.dp (fun h => ?_) (fun h => ?_) | refine Fork.dn (fun h => ?_) (fun h => ?_) | (refine Fork.mk (fun h => ?_) (fun h => ?_) <;> simp only [decide_eq_true_eq, decide_eq_false_iff_not, Bool.not_eq_true', Bool.not_eq_false', Bool.or_eq_true, Bool.or_eq_false_iff] at h) | refine GetN.go ?_ | refine Need.ap1 ?_ | refine Need.ap0 ?_ | refine Need.go ?_ | refine Need.draw ?_ | refine ElemN.go ?_ | refine ExtN.ext ?_ | refine ExtN.wr ?_ | refine AllocN.go (fun l hl => ?_) | refine finGo ?_) <;> try (conv => whnf)
  refine LoopN.rule (α := Nat) (fun i => ⟨46, [(0, .vec (Val.cvs l)), (4, i64 0), (5, .vec (Val.cvs l')), (6, i64 i)], []⟩)
    (fun _ => σ) (fun i => l.length - i) (fun i => i ≤ l.length ∧ i ≤ l'.length ∧ ordIL l l' = ordIL (l.drop i) (l'.drop i)) ?_ 0 ⟨Nat.zero_le _, Nat.zero_le _, rfl⟩ ?_
  · rintro i K ⟨h1, h2, h3⟩ hK
    dsimp only at h1 h2 h3 ⊢
    by_cases hi : i < l.length ∧ i < l'.length
    · obtain ⟨w, hm, hw, hg⟩ := cvs_at hi.1
      obtain ⟨w', hm', hw', hg'⟩ := cvs_at hi.2
      have hc := ih w hm (ht w' hm')
      have hK := hK (i + 1)
      rw [drop_get hw, drop_get hw'] at h3
      simp only [ordIL] at h3
      by_cases hz : ordI w w' = 0
      · rw [hz] at hc
        rw [if_neg (by simp [hz])] at h3
        obtain ⟨wk, wn, wt, wl⟩ := w
        obtain ⟨wk', wn', wt', wl'⟩ := w'
        conv => whnf
        repeat' (first | (refine CallN.one hc ?_) | refine OrdN.one ?_ | refine Fork.yp ?_ | refine Fork.nn ?_ | refine Need.go ?_ | refine Need.draw ?_ | refine ElemN.go ?_ | refine ExtN.ext ?_) <;> try (conv => whnf)
        refine hK _ _ ⟨by omega, by omega, h3⟩ (by omega) ?_
        (refine ⟨rfl, ?_, ?_, Sub.refl _⟩ <;> repeat' (first | exact EnvLe.nil | exact LocsLe.nil | refine EnvLe.cons _ _ _ ?_ ?_ | refine LocsLe.cons _ _ _ ?_ ?_ | exact CVle.same _ rfl | exact CVle.vec _ _ | exact CVle.nil | exact CVle.tok _ _ _ rfl rfl | exact ObLe.tok _ _ rfl | exact CVles.nil | refine CVles.cons ?_ ?_ | exact ObLe.same _ rfl rfl | refine ObLe.cells rfl ?_))
      · rw [if_pos hz] at h3
        generalize ordI w w' = z at *
        obtain ⟨wk, wn, wt, wl⟩ := w
        obtain ⟨wk', wn', wt', wl'⟩ := w'
        conv => whnf
        repeat' (first | (refine CallN.one hc ?_) | refine OrdN.one ?_ | refine Fork.yp ?_ | refine Fork.ny ?_ | refine Need.go ?_ | refine Need.draw ?_ | refine ElemN.go ?_ | refine ExtN.ext ?_ | refine finGo ?_) <;> try (conv => whnf)
        exact ansI h3
    · have h4 : l.drop i = [] ∨ l'.drop i = [] := by
        rcases Nat.lt_or_ge i l.length with h5 | h5
        · right; exact List.drop_eq_nil_of_le (by omega)
        · left; exact List.drop_eq_nil_of_le h5
      rw [ordIL_none h4, List.length_drop, List.length_drop] at h3
      have h5 : intsF ((l.length - i : Nat) : Int) ((l'.length - i : Nat) : Int) = intsF (Val.cvs l).length (Val.cvs l').length := by
        rw [e3, e4, ← intsF_add _ _ i]
        congr 1 <;> omega
      conv => whnf
      repeat' (first | (refine CallN.one cmp_int ?_) | refine Fork.np ?_ | refine Fork.dp (fun h => ?_) (fun h => ?_) | refine ExtN.ext ?_ | refine finGo ?_) <;> try (conv => whnf)
      all_goals exact ansI (h3.trans h5)
  · (refine ⟨rfl, ?_, ?_, Sub.refl _⟩ <;> repeat' (first | exact EnvLe.nil | exact LocsLe.nil | refine EnvLe.cons _ _ _ ?_ ?_ | refine LocsLe.cons _ _ _ ?_ ?_ | exact CVle.same _ rfl | exact CVle.vec _ _ | exact CVle.nil | exact CVle.tok _ _ _ rfl rfl | exact ObLe.tok _ _ rfl | exact CVles.nil | refine CVles.cons ?_ ?_ | exact ObLe.same _ rfl rfl | refine ObLe.cells rfl ?_))
theorem ord_list_node {σ : Heap} {b : Int} {s : ByteArray} {m : List CV} : CRun Tryz.prog 274 [.vec m, .iface 245 (i64 b)] σ (· = .ret (i64 (intsF 2 0)) σ) := by
  refine crun_of (X := X) X_ok X_sat (body := bodyOf Tryz.f274) Tryz.func274 rfl (by kernel_rfl) (by kernel_rfl) ?_
  rw [Tryz.ntmps274]
  conv => whnf
  repeat' (first | (refine MethN.of m_node_rank ?_) | (refine CallN.one rank_list ?_) | (refine CallN.one rank_node ?_) | (refine CallN.one cmp_int ?_) | refine ExtN.ext ?_ | refine finGo ?_) <;> try (conv => whnf)
  rfl
theorem ord_list_edge {σ : Heap} {b : Int} {s : ByteArray} {m : List CV} : CRun Tryz.prog 274 [.vec m, .iface 246 (i64 b)] σ (· = .ret (i64 (intsF 2 1)) σ) := by
  refine crun_of (X := X) X_ok X_sat (body := bodyOf Tryz.f274) Tryz.func274 rfl (by kernel_rfl) (by kernel_rfl) ?_
  rw [Tryz.ntmps274]
  conv => whnf
  repeat' (first | (refine MethN.of m_edge_rank ?_) | (refine CallN.one rank_list ?_) | (refine CallN.one rank_edge ?_) | (refine CallN.one cmp_int ?_) | refine ExtN.ext ?_ | refine finGo ?_) <;> try (conv => whnf)
  rfl
theorem ord_list_text {σ : Heap} {b : Int} {s : ByteArray} {m : List CV} : CRun Tryz.prog 274 [.vec m, .iface 248 (.sc (.string s))] σ (· = .ret (i64 (intsF 2 3)) σ) := by
  refine crun_of (X := X) X_ok X_sat (body := bodyOf Tryz.f274) Tryz.func274 rfl (by kernel_rfl) (by kernel_rfl) ?_
  rw [Tryz.ntmps274]
  conv => whnf
  repeat' (first | (refine MethN.of m_text_rank ?_) | (refine CallN.one rank_list ?_) | (refine CallN.one rank_text ?_) | (refine CallN.one cmp_int ?_) | refine ExtN.ext ?_ | refine finGo ?_) <;> try (conv => whnf)
  rfl
theorem ord_list_bool {σ : Heap} {b : Int} {s : ByteArray} {m : List CV} : CRun Tryz.prog 274 [.vec m, .iface 249 (i64 b)] σ (· = .ret (i64 (intsF 2 4)) σ) := by
  refine crun_of (X := X) X_ok X_sat (body := bodyOf Tryz.f274) Tryz.func274 rfl (by kernel_rfl) (by kernel_rfl) ?_
  rw [Tryz.ntmps274]
  conv => whnf
  repeat' (first | (refine MethN.of m_bool_rank ?_) | (refine CallN.one rank_list ?_) | (refine CallN.one rank_bool ?_) | (refine CallN.one cmp_int ?_) | refine ExtN.ext ?_ | refine finGo ?_) <;> try (conv => whnf)
  rfl
theorem ord_list_num {σ : Heap} {b : Int} {s : ByteArray} {m : List CV} : CRun Tryz.prog 274 [.vec m, .iface 250 (i64 b)] σ (· = .ret (i64 (intsF 2 5)) σ) := by
  refine crun_of (X := X) X_ok X_sat (body := bodyOf Tryz.f274) Tryz.func274 rfl (by kernel_rfl) (by kernel_rfl) ?_
  rw [Tryz.ntmps274]
  conv => whnf
  repeat' (first | (refine MethN.of m_num_rank ?_) | (refine CallN.one rank_list ?_) | (refine CallN.one rank_num ?_) | (refine CallN.one cmp_int ?_) | refine ExtN.ext ?_ | refine finGo ?_) <;> try (conv => whnf)
  rfl
theorem ord_list_null {σ : Heap} {b : Int} {s : ByteArray} {m : List CV} : CRun Tryz.prog 274 [.vec m, .iface 252 (.agg [])] σ (· = .ret (i64 (intsF 2 6)) σ) := by
  refine crun_of (X := X) X_ok X_sat (body := bodyOf Tryz.f274) Tryz.func274 rfl (by kernel_rfl) (by kernel_rfl) ?_
  rw [Tryz.ntmps274]
  conv => whnf
  repeat' (first | (refine MethN.of m_null_rank ?_) | (refine CallN.one rank_list ?_) | (refine CallN.one rank_null ?_) | (refine CallN.one cmp_int ?_) | refine ExtN.ext ?_ | refine finGo ?_) <;> try (conv => whnf)
  rfl
theorem oo_node_node {σ : Heap} {v v' : Val} {n n' r : Int} {s s' : ByteArray} {m m' : List CV} (hv : termV v = .iface 245 (i64 n)) (hv' : termV v' = .iface 245 (i64 n')) : CRun Tryz.prog 220 [v.cv, v'.cv] σ (· = .ret (i64 (intsF n n')) σ) := by
  refine crun_of (X := X) X_ok X_sat (body := bodyOf Tryz.f220) Tryz.func220 rfl (by kernel_rfl) (by kernel_rfl) ?_
  rw [Tryz.ntmps220]
  have t1 : CRun Tryz.prog 240 [v.cv] σ (· = .ret (.iface 245 (i64 n)) σ) := hv ▸ term_c
  have t2 : CRun Tryz.prog 240 [v'.cv] σ (· = .ret (.iface 245 (i64 n')) σ) := hv' ▸ term_c
  clear hv hv'
  obtain ⟨vk, vn, vt, vl⟩ := v
  obtain ⟨vk', vn', vt', vl'⟩ := v'
  conv => whnf
  repeat' (first | (refine CallN.one t1 ?_) | (refine CallN.one t2 ?_) | (refine Need.mk n_node_order ?_) | (refine MethN.of m_node_order ?_) | (refine CallN.one (ord_node_node (a := n) (b := n') (s0 := s) (s := s') (m := m')) ?_) | refine OrdN.one ?_ | refine Need.draw ?_ | refine ExtN.ext ?_ | refine finGo ?_) <;> try (conv => whnf)
  rfl
theorem oo_node_edge {σ : Heap} {v v' : Val} {n n' r : Int} {s s' : ByteArray} {m m' : List CV} (hv : termV v = .iface 245 (i64 n)) (hv' : termV v' = .iface 246 (i64 n')) : CRun Tryz.prog 220 [v.cv, v'.cv] σ (· = .ret (i64 (intsF 0 1)) σ) := by
  refine crun_of (X := X) X_ok X_sat (body := bodyOf Tryz.f220) Tryz.func220 rfl (by kernel_rfl) (by kernel_rfl) ?_
  rw [Tryz.ntmps220]
  have t1 : CRun Tryz.prog 240 [v.cv] σ (· = .ret (.iface 245 (i64 n)) σ) := hv ▸ term_c
  have t2 : CRun Tryz.prog 240 [v'.cv] σ (· = .ret (.iface 246 (i64 n')) σ) := hv' ▸ term_c
  clear hv hv'
  obtain ⟨vk, vn, vt, vl⟩ := v
  obtain ⟨vk', vn', vt', vl'⟩ := v'
  conv => whnf
  repeat' (first | (refine CallN.one t1 ?_) | (refine CallN.one t2 ?_) | (refine Need.mk n_node_order ?_) | (refine MethN.of m_node_order ?_) | (refine CallN.one (ord_node_edge (a := n) (b := n') (s0 := s) (s := s') (m := m')) ?_) | refine OrdN.one ?_ | refine Need.draw ?_ | refine ExtN.ext ?_ | refine finGo ?_) <;> try (conv => whnf)
  rfl
theorem oo_node_list {σ : Heap} {v v' : Val} {n n' r : Int} {s s' : ByteArray} {m m' : List CV} (hv : termV v = .iface 245 (i64 n)) (hv' : termV v' = .iface 247 (.vec m')) : CRun Tryz.prog 220 [v.cv, v'.cv] σ (· = .ret (i64 (intsF 0 2)) σ) := by
  refine crun_of (X := X) X_ok X_sat (body := bodyOf Tryz.f220) Tryz.func220 rfl (by kernel_rfl) (by kernel_rfl) ?_
  rw [Tryz.ntmps220]
  have t1 : CRun Tryz.prog 240 [v.cv] σ (· = .ret (.iface 245 (i64 n)) σ) := hv ▸ term_c
  have t2 : CRun Tryz.prog 240 [v'.cv] σ (· = .ret (.iface 247 (.vec m')) σ) := hv' ▸ term_c
  clear hv hv'
  obtain ⟨vk, vn, vt, vl⟩ := v
  obtain ⟨vk', vn', vt', vl'⟩ := v'
  conv => whnf
  repeat' (first | (refine CallN.one t1 ?_) | (refine CallN.one t2 ?_) | (refine Need.mk n_node_order ?_) | (refine MethN.of m_node_order ?_) | (refine CallN.one (ord_node_list (a := n) (b := n') (s0 := s) (s := s') (m := m')) ?_) | refine OrdN.one ?_ | refine Need.draw ?_ | refine ExtN.ext ?_ | refine finGo ?_) <;> try (conv => whnf)
  rfl
theorem oo_node_text {σ : Heap} {v v' : Val} {n n' r : Int} {s s' : ByteArray} {m m' : List CV} (hv : termV v = .iface 245 (i64 n)) (hv' : termV v' = .iface 248 (.sc (.string s'))) : CRun Tryz.prog 220 [v.cv, v'.cv] σ (· = .ret (i64 (intsF 0 3)) σ) := by
  refine crun_of (X := X) X_ok X_sat (body := bodyOf Tryz.f220) Tryz.func220 rfl (by kernel_rfl) (by kernel_rfl) ?_
  rw [Tryz.ntmps220]
  have t1 : CRun Tryz.prog 240 [v.cv] σ (· = .ret (.iface 245 (i64 n)) σ) := hv ▸ term_c
  have t2 : CRun Tryz.prog 240 [v'.cv] σ (· = .ret (.iface 248 (.sc (.string s'))) σ) := hv' ▸ term_c
  clear hv hv'
  obtain ⟨vk, vn, vt, vl⟩ := v
  obtain ⟨vk', vn', vt', vl'⟩ := v'
  conv => whnf
  repeat' (first | (refine CallN.one t1 ?_) | (refine CallN.one t2 ?_) | (refine Need.mk n_node_order ?_) | (refine MethN.of m_node_order ?_) | (refine CallN.one (ord_node_text (a := n) (b := n') (s0 := s) (s := s') (m := m')) ?_) | refine OrdN.one ?_ | refine Need.draw ?_ | refine ExtN.ext ?_ | refine finGo ?_) <;> try (conv => whnf)
  rfl
theorem oo_node_bool {σ : Heap} {v v' : Val} {n n' r : Int} {s s' : ByteArray} {m m' : List CV} (hv : termV v = .iface 245 (i64 n)) (hv' : termV v' = .iface 249 (i64 n')) : CRun Tryz.prog 220 [v.cv, v'.cv] σ (· = .ret (i64 (intsF 0 4)) σ) := by
  refine crun_of (X := X) X_ok X_sat (body := bodyOf Tryz.f220) Tryz.func220 rfl (by kernel_rfl) (by kernel_rfl) ?_
  rw [Tryz.ntmps220]
  have t1 : CRun Tryz.prog 240 [v.cv] σ (· = .ret (.iface 245 (i64 n)) σ) := hv ▸ term_c
  have t2 : CRun Tryz.prog 240 [v'.cv] σ (· = .ret (.iface 249 (i64 n')) σ) := hv' ▸ term_c
  clear hv hv'
  obtain ⟨vk, vn, vt, vl⟩ := v
  obtain ⟨vk', vn', vt', vl'⟩ := v'
  conv => whnf
  repeat' (first | (refine CallN.one t1 ?_) | (refine CallN.one t2 ?_) | (refine Need.mk n_node_order ?_) | (refine MethN.of m_node_order ?_) | (refine CallN.one (ord_node_bool (a := n) (b := n') (s0 := s) (s := s') (m := m')) ?_) | refine OrdN.one ?_ | refine Need.draw ?_ | refine ExtN.ext ?_ | refine finGo ?_) <;> try (conv => whnf)
  rfl
theorem oo_node_num {σ : Heap} {v v' : Val} {n n' r : Int} {s s' : ByteArray} {m m' : List CV} (hv : termV v = .iface 245 (i64 n)) (hv' : termV v' = .iface 250 (i64 n')) : CRun Tryz.prog 220 [v.cv, v'.cv] σ (· = .ret (i64 (intsF 0 5)) σ) := by
  refine crun_of (X := X) X_ok X_sat (body := bodyOf Tryz.f220) Tryz.func220 rfl (by kernel_rfl) (by kernel_rfl) ?_
  rw [Tryz.ntmps220]
  have t1 : CRun Tryz.prog 240 [v.cv] σ (· = .ret (.iface 245 (i64 n)) σ) := hv ▸ term_c
  have t2 : CRun Tryz.prog 240 [v'.cv] σ (· = .ret (.iface 250 (i64 n')) σ) := hv' ▸ term_c
  clear hv hv'
  obtain ⟨vk, vn, vt, vl⟩ := v
  obtain ⟨vk', vn', vt', vl'⟩ := v'
  conv => whnf
  repeat' (first | (refine CallN.one t1 ?_) | (refine CallN.one t2 ?_) | (refine Need.mk n_node_order ?_) | (refine MethN.of m_node_order ?_) | (refine CallN.one (ord_node_num (a := n) (b := n') (s0 := s) (s := s') (m := m')) ?_) | refine OrdN.one ?_ | refine Need.draw ?_ | refine ExtN.ext ?_ | refine finGo ?_) <;> try (conv => whnf)
  rfl
theorem oo_node_null {σ : Heap} {v v' : Val} {n n' r : Int} {s s' : ByteArray} {m m' : List CV} (hv : termV v = .iface 245 (i64 n)) (hv' : termV v' = .iface 252 (.agg [])) : CRun Tryz.prog 220 [v.cv, v'.cv] σ (· = .ret (i64 (intsF 0 6)) σ) := by
  refine crun_of (X := X) X_ok X_sat (body := bodyOf Tryz.f220) Tryz.func220 rfl (by kernel_rfl) (by kernel_rfl) ?_
  rw [Tryz.ntmps220]
  have t1 : CRun Tryz.prog 240 [v.cv] σ (· = .ret (.iface 245 (i64 n)) σ) := hv ▸ term_c
  have t2 : CRun Tryz.prog 240 [v'.cv] σ (· = .ret (.iface 252 (.agg [])) σ) := hv' ▸ term_c
  clear hv hv'
  obtain ⟨vk, vn, vt, vl⟩ := v
  obtain ⟨vk', vn', vt', vl'⟩ := v'
  conv => whnf
  repeat' (first | (refine CallN.one t1 ?_) | (refine CallN.one t2 ?_) | (refine Need.mk n_node_order ?_) | (refine MethN.of m_node_order ?_) | (refine CallN.one (ord_node_null (a := n) (b := n') (s0 := s) (s := s') (m := m')) ?_) | refine OrdN.one ?_ | refine Need.draw ?_ | refine ExtN.ext ?_ | refine finGo ?_) <;> try (conv => whnf)
  rfl
theorem oo_edge_node {σ : Heap} {v v' : Val} {n n' r : Int} {s s' : ByteArray} {m m' : List CV} (hv : termV v = .iface 246 (i64 n)) (hv' : termV v' = .iface 245 (i64 n')) : CRun Tryz.prog 220 [v.cv, v'.cv] σ (· = .ret (i64 (intsF 1 0)) σ) := by
  refine crun_of (X := X) X_ok X_sat (body := bodyOf Tryz.f220) Tryz.func220 rfl (by kernel_rfl) (by kernel_rfl) ?_
  rw [Tryz.ntmps220]
  have t1 : CRun Tryz.prog 240 [v.cv] σ (· = .ret (.iface 246 (i64 n)) σ) := hv ▸ term_c
  have t2 : CRun Tryz.prog 240 [v'.cv] σ (· = .ret (.iface 245 (i64 n')) σ) := hv' ▸ term_c
  clear hv hv'
  obtain ⟨vk, vn, vt, vl⟩ := v
  obtain ⟨vk', vn', vt', vl'⟩ := v'
  conv => whnf
  repeat' (first | (refine CallN.one t1 ?_) | (refine CallN.one t2 ?_) | (refine Need.mk n_edge_order ?_) | (refine MethN.of m_edge_order ?_) | (refine CallN.one (ord_edge_node (a := n) (b := n') (s0 := s) (s := s') (m := m')) ?_) | refine OrdN.one ?_ | refine Need.draw ?_ | refine ExtN.ext ?_ | refine finGo ?_) <;> try (conv => whnf)
  rfl
theorem oo_edge_edge {σ : Heap} {v v' : Val} {n n' r : Int} {s s' : ByteArray} {m m' : List CV} (hv : termV v = .iface 246 (i64 n)) (hv' : termV v' = .iface 246 (i64 n')) : CRun Tryz.prog 220 [v.cv, v'.cv] σ (· = .ret (i64 (intsF n n')) σ) := by
  refine crun_of (X := X) X_ok X_sat (body := bodyOf Tryz.f220) Tryz.func220 rfl (by kernel_rfl) (by kernel_rfl) ?_
  rw [Tryz.ntmps220]
  have t1 : CRun Tryz.prog 240 [v.cv] σ (· = .ret (.iface 246 (i64 n)) σ) := hv ▸ term_c
  have t2 : CRun Tryz.prog 240 [v'.cv] σ (· = .ret (.iface 246 (i64 n')) σ) := hv' ▸ term_c
  clear hv hv'
  obtain ⟨vk, vn, vt, vl⟩ := v
  obtain ⟨vk', vn', vt', vl'⟩ := v'
  conv => whnf
  repeat' (first | (refine CallN.one t1 ?_) | (refine CallN.one t2 ?_) | (refine Need.mk n_edge_order ?_) | (refine MethN.of m_edge_order ?_) | (refine CallN.one (ord_edge_edge (a := n) (b := n') (s0 := s) (s := s') (m := m')) ?_) | refine OrdN.one ?_ | refine Need.draw ?_ | refine ExtN.ext ?_ | refine finGo ?_) <;> try (conv => whnf)
  rfl
theorem oo_edge_list {σ : Heap} {v v' : Val} {n n' r : Int} {s s' : ByteArray} {m m' : List CV} (hv : termV v = .iface 246 (i64 n)) (hv' : termV v' = .iface 247 (.vec m')) : CRun Tryz.prog 220 [v.cv, v'.cv] σ (· = .ret (i64 (intsF 1 2)) σ) := by
  refine crun_of (X := X) X_ok X_sat (body := bodyOf Tryz.f220) Tryz.func220 rfl (by kernel_rfl) (by kernel_rfl) ?_
  rw [Tryz.ntmps220]
  have t1 : CRun Tryz.prog 240 [v.cv] σ (· = .ret (.iface 246 (i64 n)) σ) := hv ▸ term_c
  have t2 : CRun Tryz.prog 240 [v'.cv] σ (· = .ret (.iface 247 (.vec m')) σ) := hv' ▸ term_c
  clear hv hv'
  obtain ⟨vk, vn, vt, vl⟩ := v
  obtain ⟨vk', vn', vt', vl'⟩ := v'
  conv => whnf
  repeat' (first | (refine CallN.one t1 ?_) | (refine CallN.one t2 ?_) | (refine Need.mk n_edge_order ?_) | (refine MethN.of m_edge_order ?_) | (refine CallN.one (ord_edge_list (a := n) (b := n') (s0 := s) (s := s') (m := m')) ?_) | refine OrdN.one ?_ | refine Need.draw ?_ | refine ExtN.ext ?_ | refine finGo ?_) <;> try (conv => whnf)
  rfl
theorem oo_edge_text {σ : Heap} {v v' : Val} {n n' r : Int} {s s' : ByteArray} {m m' : List CV} (hv : termV v = .iface 246 (i64 n)) (hv' : termV v' = .iface 248 (.sc (.string s'))) : CRun Tryz.prog 220 [v.cv, v'.cv] σ (· = .ret (i64 (intsF 1 3)) σ) := by
  refine crun_of (X := X) X_ok X_sat (body := bodyOf Tryz.f220) Tryz.func220 rfl (by kernel_rfl) (by kernel_rfl) ?_
  rw [Tryz.ntmps220]
  have t1 : CRun Tryz.prog 240 [v.cv] σ (· = .ret (.iface 246 (i64 n)) σ) := hv ▸ term_c
  have t2 : CRun Tryz.prog 240 [v'.cv] σ (· = .ret (.iface 248 (.sc (.string s'))) σ) := hv' ▸ term_c
  clear hv hv'
  obtain ⟨vk, vn, vt, vl⟩ := v
  obtain ⟨vk', vn', vt', vl'⟩ := v'
  conv => whnf
  repeat' (first | (refine CallN.one t1 ?_) | (refine CallN.one t2 ?_) | (refine Need.mk n_edge_order ?_) | (refine MethN.of m_edge_order ?_) | (refine CallN.one (ord_edge_text (a := n) (b := n') (s0 := s) (s := s') (m := m')) ?_) | refine OrdN.one ?_ | refine Need.draw ?_ | refine ExtN.ext ?_ | refine finGo ?_) <;> try (conv => whnf)
  rfl
theorem oo_edge_bool {σ : Heap} {v v' : Val} {n n' r : Int} {s s' : ByteArray} {m m' : List CV} (hv : termV v = .iface 246 (i64 n)) (hv' : termV v' = .iface 249 (i64 n')) : CRun Tryz.prog 220 [v.cv, v'.cv] σ (· = .ret (i64 (intsF 1 4)) σ) := by
  refine crun_of (X := X) X_ok X_sat (body := bodyOf Tryz.f220) Tryz.func220 rfl (by kernel_rfl) (by kernel_rfl) ?_
  rw [Tryz.ntmps220]
  have t1 : CRun Tryz.prog 240 [v.cv] σ (· = .ret (.iface 246 (i64 n)) σ) := hv ▸ term_c
  have t2 : CRun Tryz.prog 240 [v'.cv] σ (· = .ret (.iface 249 (i64 n')) σ) := hv' ▸ term_c
  clear hv hv'
  obtain ⟨vk, vn, vt, vl⟩ := v
  obtain ⟨vk', vn', vt', vl'⟩ := v'
  conv => whnf
  repeat' (first | (refine CallN.one t1 ?_) | (refine CallN.one t2 ?_) | (refine Need.mk n_edge_order ?_) | (refine MethN.of m_edge_order ?_) | (refine CallN.one (ord_edge_bool (a := n) (b := n') (s0 := s) (s := s') (m := m')) ?_) | refine OrdN.one ?_ | refine Need.draw ?_ | refine ExtN.ext ?_ | refine finGo ?_) <;> try (conv => whnf)
  rfl
theorem oo_edge_num {σ : Heap} {v v' : Val} {n n' r : Int} {s s' : ByteArray} {m m' : List CV} (hv : termV v = .iface 246 (i64 n)) (hv' : termV v' = .iface 250 (i64 n')) : CRun Tryz.prog 220 [v.cv, v'.cv] σ (· = .ret (i64 (intsF 1 5)) σ) := by
  refine crun_of (X := X) X_ok X_sat (body := bodyOf Tryz.f220) Tryz.func220 rfl (by kernel_rfl) (by kernel_rfl) ?_
  rw [Tryz.ntmps220]
  have t1 : CRun Tryz.prog 240 [v.cv] σ (· = .ret (.iface 246 (i64 n)) σ) := hv ▸ term_c
  have t2 : CRun Tryz.prog 240 [v'.cv] σ (· = .ret (.iface 250 (i64 n')) σ) := hv' ▸ term_c
  clear hv hv'
  obtain ⟨vk, vn, vt, vl⟩ := v
  obtain ⟨vk', vn', vt', vl'⟩ := v'
  conv => whnf
  repeat' (first | (refine CallN.one t1 ?_) | (refine CallN.one t2 ?_) | (refine Need.mk n_edge_order ?_) | (refine MethN.of m_edge_order ?_) | (refine CallN.one (ord_edge_num (a := n) (b := n') (s0 := s) (s := s') (m := m')) ?_) | refine OrdN.one ?_ | refine Need.draw ?_ | refine ExtN.ext ?_ | refine finGo ?_) <;> try (conv => whnf)
  rfl
theorem oo_edge_null {σ : Heap} {v v' : Val} {n n' r : Int} {s s' : ByteArray} {m m' : List CV} (hv : termV v = .iface 246 (i64 n)) (hv' : termV v' = .iface 252 (.agg [])) : CRun Tryz.prog 220 [v.cv, v'.cv] σ (· = .ret (i64 (intsF 1 6)) σ) := by
  refine crun_of (X := X) X_ok X_sat (body := bodyOf Tryz.f220) Tryz.func220 rfl (by kernel_rfl) (by kernel_rfl) ?_
  rw [Tryz.ntmps220]
  have t1 : CRun Tryz.prog 240 [v.cv] σ (· = .ret (.iface 246 (i64 n)) σ) := hv ▸ term_c
  have t2 : CRun Tryz.prog 240 [v'.cv] σ (· = .ret (.iface 252 (.agg [])) σ) := hv' ▸ term_c
  clear hv hv'
  obtain ⟨vk, vn, vt, vl⟩ := v
  obtain ⟨vk', vn', vt', vl'⟩ := v'
  conv => whnf
  repeat' (first | (refine CallN.one t1 ?_) | (refine CallN.one t2 ?_) | (refine Need.mk n_edge_order ?_) | (refine MethN.of m_edge_order ?_) | (refine CallN.one (ord_edge_null (a := n) (b := n') (s0 := s) (s := s') (m := m')) ?_) | refine OrdN.one ?_ | refine Need.draw ?_ | refine ExtN.ext ?_ | refine finGo ?_) <;> try (conv => whnf)
  rfl
theorem oo_list_node {σ : Heap} {v v' : Val} {n n' r : Int} {s s' : ByteArray} {m m' : List CV} (hv : termV v = .iface 247 (.vec m)) (hv' : termV v' = .iface 245 (i64 n')) : CRun Tryz.prog 220 [v.cv, v'.cv] σ (· = .ret (i64 (intsF 2 0)) σ) := by
  refine crun_of (X := X) X_ok X_sat (body := bodyOf Tryz.f220) Tryz.func220 rfl (by kernel_rfl) (by kernel_rfl) ?_
  rw [Tryz.ntmps220]
  have t1 : CRun Tryz.prog 240 [v.cv] σ (· = .ret (.iface 247 (.vec m)) σ) := hv ▸ term_c
  have t2 : CRun Tryz.prog 240 [v'.cv] σ (· = .ret (.iface 245 (i64 n')) σ) := hv' ▸ term_c
  clear hv hv'
  obtain ⟨vk, vn, vt, vl⟩ := v
  obtain ⟨vk', vn', vt', vl'⟩ := v'
  conv => whnf
  repeat' (first | (refine CallN.one t1 ?_) | (refine CallN.one t2 ?_) | (refine Need.mk n_list_order ?_) | (refine MethN.of m_list_order ?_) | (refine CallN.one (ord_list_node (b := n') (s := s') (m := m)) ?_) | refine OrdN.one ?_ | refine Need.draw ?_ | refine ExtN.ext ?_ | refine finGo ?_) <;> try (conv => whnf)
  rfl
theorem oo_list_edge {σ : Heap} {v v' : Val} {n n' r : Int} {s s' : ByteArray} {m m' : List CV} (hv : termV v = .iface 247 (.vec m)) (hv' : termV v' = .iface 246 (i64 n')) : CRun Tryz.prog 220 [v.cv, v'.cv] σ (· = .ret (i64 (intsF 2 1)) σ) := by
  refine crun_of (X := X) X_ok X_sat (body := bodyOf Tryz.f220) Tryz.func220 rfl (by kernel_rfl) (by kernel_rfl) ?_
  rw [Tryz.ntmps220]
  have t1 : CRun Tryz.prog 240 [v.cv] σ (· = .ret (.iface 247 (.vec m)) σ) := hv ▸ term_c
  have t2 : CRun Tryz.prog 240 [v'.cv] σ (· = .ret (.iface 246 (i64 n')) σ) := hv' ▸ term_c
  clear hv hv'
  obtain ⟨vk, vn, vt, vl⟩ := v
  obtain ⟨vk', vn', vt', vl'⟩ := v'
  conv => whnf
  repeat' (first | (refine CallN.one t1 ?_) | (refine CallN.one t2 ?_) | (refine Need.mk n_list_order ?_) | (refine MethN.of m_list_order ?_) | (refine CallN.one (ord_list_edge (b := n') (s := s') (m := m)) ?_) | refine OrdN.one ?_ | refine Need.draw ?_ | refine ExtN.ext ?_ | refine finGo ?_) <;> try (conv => whnf)
  rfl
theorem oo_list_list {σ : Heap} {v v' : Val} {n n' r : Int} {s s' : ByteArray} {m m' : List CV} (hv : termV v = .iface 247 (.vec m)) (hv' : termV v' = .iface 247 (.vec m')) (hc : CRun Tryz.prog 274 [.vec m, .iface 247 (.vec m')] σ (· = .ret (i64 r) σ)) : CRun Tryz.prog 220 [v.cv, v'.cv] σ (· = .ret (i64 (r)) σ) := by
  refine crun_of (X := X) X_ok X_sat (body := bodyOf Tryz.f220) Tryz.func220 rfl (by kernel_rfl) (by kernel_rfl) ?_
  rw [Tryz.ntmps220]
  have t1 : CRun Tryz.prog 240 [v.cv] σ (· = .ret (.iface 247 (.vec m)) σ) := hv ▸ term_c
  have t2 : CRun Tryz.prog 240 [v'.cv] σ (· = .ret (.iface 247 (.vec m')) σ) := hv' ▸ term_c
  clear hv hv'
  obtain ⟨vk, vn, vt, vl⟩ := v
  obtain ⟨vk', vn', vt', vl'⟩ := v'
  conv => whnf
  repeat' (first | (refine CallN.one t1 ?_) | (refine CallN.one t2 ?_) | (refine Need.mk n_list_order ?_) | (refine MethN.of m_list_order ?_) | (refine CallN.one hc ?_) | refine OrdN.one ?_ | refine Need.draw ?_ | refine ExtN.ext ?_ | refine finGo ?_) <;> try (conv => whnf)
  rfl
theorem oo_list_text {σ : Heap} {v v' : Val} {n n' r : Int} {s s' : ByteArray} {m m' : List CV} (hv : termV v = .iface 247 (.vec m)) (hv' : termV v' = .iface 248 (.sc (.string s'))) : CRun Tryz.prog 220 [v.cv, v'.cv] σ (· = .ret (i64 (intsF 2 3)) σ) := by
  refine crun_of (X := X) X_ok X_sat (body := bodyOf Tryz.f220) Tryz.func220 rfl (by kernel_rfl) (by kernel_rfl) ?_
  rw [Tryz.ntmps220]
  have t1 : CRun Tryz.prog 240 [v.cv] σ (· = .ret (.iface 247 (.vec m)) σ) := hv ▸ term_c
  have t2 : CRun Tryz.prog 240 [v'.cv] σ (· = .ret (.iface 248 (.sc (.string s'))) σ) := hv' ▸ term_c
  clear hv hv'
  obtain ⟨vk, vn, vt, vl⟩ := v
  obtain ⟨vk', vn', vt', vl'⟩ := v'
  conv => whnf
  repeat' (first | (refine CallN.one t1 ?_) | (refine CallN.one t2 ?_) | (refine Need.mk n_list_order ?_) | (refine MethN.of m_list_order ?_) | (refine CallN.one (ord_list_text (b := n') (s := s') (m := m)) ?_) | refine OrdN.one ?_ | refine Need.draw ?_ | refine ExtN.ext ?_ | refine finGo ?_) <;> try (conv => whnf)
  rfl
theorem oo_list_bool {σ : Heap} {v v' : Val} {n n' r : Int} {s s' : ByteArray} {m m' : List CV} (hv : termV v = .iface 247 (.vec m)) (hv' : termV v' = .iface 249 (i64 n')) : CRun Tryz.prog 220 [v.cv, v'.cv] σ (· = .ret (i64 (intsF 2 4)) σ) := by
  refine crun_of (X := X) X_ok X_sat (body := bodyOf Tryz.f220) Tryz.func220 rfl (by kernel_rfl) (by kernel_rfl) ?_
  rw [Tryz.ntmps220]
  have t1 : CRun Tryz.prog 240 [v.cv] σ (· = .ret (.iface 247 (.vec m)) σ) := hv ▸ term_c
  have t2 : CRun Tryz.prog 240 [v'.cv] σ (· = .ret (.iface 249 (i64 n')) σ) := hv' ▸ term_c
  clear hv hv'
  obtain ⟨vk, vn, vt, vl⟩ := v
  obtain ⟨vk', vn', vt', vl'⟩ := v'
  conv => whnf
  repeat' (first | (refine CallN.one t1 ?_) | (refine CallN.one t2 ?_) | (refine Need.mk n_list_order ?_) | (refine MethN.of m_list_order ?_) | (refine CallN.one (ord_list_bool (b := n') (s := s') (m := m)) ?_) | refine OrdN.one ?_ | refine Need.draw ?_ | refine ExtN.ext ?_ | refine finGo ?_) <;> try (conv => whnf)
  rfl
theorem oo_list_num {σ : Heap} {v v' : Val} {n n' r : Int} {s s' : ByteArray} {m m' : List CV} (hv : termV v = .iface 247 (.vec m)) (hv' : termV v' = .iface 250 (i64 n')) : CRun Tryz.prog 220 [v.cv, v'.cv] σ (· = .ret (i64 (intsF 2 5)) σ) := by
  refine crun_of (X := X) X_ok X_sat (body := bodyOf Tryz.f220) Tryz.func220 rfl (by kernel_rfl) (by kernel_rfl) ?_
  rw [Tryz.ntmps220]
  have t1 : CRun Tryz.prog 240 [v.cv] σ (· = .ret (.iface 247 (.vec m)) σ) := hv ▸ term_c
  have t2 : CRun Tryz.prog 240 [v'.cv] σ (· = .ret (.iface 250 (i64 n')) σ) := hv' ▸ term_c
  clear hv hv'
  obtain ⟨vk, vn, vt, vl⟩ := v
  obtain ⟨vk', vn', vt', vl'⟩ := v'
  conv => whnf
  repeat' (first | (refine CallN.one t1 ?_) | (refine CallN.one t2 ?_) | (refine Need.mk n_list_order ?_) | (refine MethN.of m_list_order ?_) | (refine CallN.one (ord_list_num (b := n') (s := s') (m := m)) ?_) | refine OrdN.one ?_ | refine Need.draw ?_ | refine ExtN.ext ?_ | refine finGo ?_) <;> try (conv => whnf)
  rfl
theorem oo_list_null {σ : Heap} {v v' : Val} {n n' r : Int} {s s' : ByteArray} {m m' : List CV} (hv : termV v = .iface 247 (.vec m)) (hv' : termV v' = .iface 252 (.agg [])) : CRun Tryz.prog 220 [v.cv, v'.cv] σ (· = .ret (i64 (intsF 2 6)) σ) := by
  refine crun_of (X := X) X_ok X_sat (body := bodyOf Tryz.f220) Tryz.func220 rfl (by kernel_rfl) (by kernel_rfl) ?_
  rw [Tryz.ntmps220]
  have t1 : CRun Tryz.prog 240 [v.cv] σ (· = .ret (.iface 247 (.vec m)) σ) := hv ▸ term_c
  have t2 : CRun Tryz.prog 240 [v'.cv] σ (· = .ret (.iface 252 (.agg [])) σ) := hv' ▸ term_c
  clear hv hv'
  obtain ⟨vk, vn, vt, vl⟩ := v
  obtain ⟨vk', vn', vt', vl'⟩ := v'
  conv => whnf
  repeat' (first | (refine CallN.one t1 ?_) | (refine CallN.one t2 ?_) | (refine Need.mk n_list_order ?_) | (refine MethN.of m_list_order ?_) | (refine CallN.one (ord_list_null (b := n') (s := s') (m := m)) ?_) | refine OrdN.one ?_ | refine Need.draw ?_ | refine ExtN.ext ?_ | refine finGo ?_) <;> try (conv => whnf)
  rfl
theorem oo_text_node {σ : Heap} {v v' : Val} {n n' r : Int} {s s' : ByteArray} {m m' : List CV} (hv : termV v = .iface 248 (.sc (.string s))) (hv' : termV v' = .iface 245 (i64 n')) : CRun Tryz.prog 220 [v.cv, v'.cv] σ (· = .ret (i64 (intsF 3 0)) σ) := by
  refine crun_of (X := X) X_ok X_sat (body := bodyOf Tryz.f220) Tryz.func220 rfl (by kernel_rfl) (by kernel_rfl) ?_
  rw [Tryz.ntmps220]
  have t1 : CRun Tryz.prog 240 [v.cv] σ (· = .ret (.iface 248 (.sc (.string s))) σ) := hv ▸ term_c
  have t2 : CRun Tryz.prog 240 [v'.cv] σ (· = .ret (.iface 245 (i64 n')) σ) := hv' ▸ term_c
  clear hv hv'
  obtain ⟨vk, vn, vt, vl⟩ := v
  obtain ⟨vk', vn', vt', vl'⟩ := v'
  conv => whnf
  repeat' (first | (refine CallN.one t1 ?_) | (refine CallN.one t2 ?_) | (refine Need.mk n_text_order ?_) | (refine MethN.of m_text_order ?_) | (refine CallN.one (ord_text_node (a := 0) (b := n') (s0 := s) (s := s) (m := m')) ?_) | refine OrdN.one ?_ | refine Need.draw ?_ | refine ExtN.ext ?_ | refine finGo ?_) <;> try (conv => whnf)
  rfl
theorem oo_text_edge {σ : Heap} {v v' : Val} {n n' r : Int} {s s' : ByteArray} {m m' : List CV} (hv : termV v = .iface 248 (.sc (.string s))) (hv' : termV v' = .iface 246 (i64 n')) : CRun Tryz.prog 220 [v.cv, v'.cv] σ (· = .ret (i64 (intsF 3 1)) σ) := by
  refine crun_of (X := X) X_ok X_sat (body := bodyOf Tryz.f220) Tryz.func220 rfl (by kernel_rfl) (by kernel_rfl) ?_
  rw [Tryz.ntmps220]
  have t1 : CRun Tryz.prog 240 [v.cv] σ (· = .ret (.iface 248 (.sc (.string s))) σ) := hv ▸ term_c
  have t2 : CRun Tryz.prog 240 [v'.cv] σ (· = .ret (.iface 246 (i64 n')) σ) := hv' ▸ term_c
  clear hv hv'
  obtain ⟨vk, vn, vt, vl⟩ := v
  obtain ⟨vk', vn', vt', vl'⟩ := v'
  conv => whnf
  repeat' (first | (refine CallN.one t1 ?_) | (refine CallN.one t2 ?_) | (refine Need.mk n_text_order ?_) | (refine MethN.of m_text_order ?_) | (refine CallN.one (ord_text_edge (a := 0) (b := n') (s0 := s) (s := s) (m := m')) ?_) | refine OrdN.one ?_ | refine Need.draw ?_ | refine ExtN.ext ?_ | refine finGo ?_) <;> try (conv => whnf)
  rfl
theorem oo_text_list {σ : Heap} {v v' : Val} {n n' r : Int} {s s' : ByteArray} {m m' : List CV} (hv : termV v = .iface 248 (.sc (.string s))) (hv' : termV v' = .iface 247 (.vec m')) : CRun Tryz.prog 220 [v.cv, v'.cv] σ (· = .ret (i64 (intsF 3 2)) σ) := by
  refine crun_of (X := X) X_ok X_sat (body := bodyOf Tryz.f220) Tryz.func220 rfl (by kernel_rfl) (by kernel_rfl) ?_
  rw [Tryz.ntmps220]
  have t1 : CRun Tryz.prog 240 [v.cv] σ (· = .ret (.iface 248 (.sc (.string s))) σ) := hv ▸ term_c
  have t2 : CRun Tryz.prog 240 [v'.cv] σ (· = .ret (.iface 247 (.vec m')) σ) := hv' ▸ term_c
  clear hv hv'
  obtain ⟨vk, vn, vt, vl⟩ := v
  obtain ⟨vk', vn', vt', vl'⟩ := v'
  conv => whnf
  repeat' (first | (refine CallN.one t1 ?_) | (refine CallN.one t2 ?_) | (refine Need.mk n_text_order ?_) | (refine MethN.of m_text_order ?_) | (refine CallN.one (ord_text_list (a := 0) (b := 0) (s0 := s) (s := s) (m := m')) ?_) | refine OrdN.one ?_ | refine Need.draw ?_ | refine ExtN.ext ?_ | refine finGo ?_) <;> try (conv => whnf)
  rfl
theorem oo_text_text {σ : Heap} {v v' : Val} {n n' r : Int} {s s' : ByteArray} {m m' : List CV} (hv : termV v = .iface 248 (.sc (.string s))) (hv' : termV v' = .iface 248 (.sc (.string s'))) : CRun Tryz.prog 220 [v.cv, v'.cv] σ (· = .ret (i64 (textsF s s')) σ) := by
  refine crun_of (X := X) X_ok X_sat (body := bodyOf Tryz.f220) Tryz.func220 rfl (by kernel_rfl) (by kernel_rfl) ?_
  rw [Tryz.ntmps220]
  have t1 : CRun Tryz.prog 240 [v.cv] σ (· = .ret (.iface 248 (.sc (.string s))) σ) := hv ▸ term_c
  have t2 : CRun Tryz.prog 240 [v'.cv] σ (· = .ret (.iface 248 (.sc (.string s'))) σ) := hv' ▸ term_c
  clear hv hv'
  obtain ⟨vk, vn, vt, vl⟩ := v
  obtain ⟨vk', vn', vt', vl'⟩ := v'
  conv => whnf
  repeat' (first | (refine CallN.one t1 ?_) | (refine CallN.one t2 ?_) | (refine Need.mk n_text_order ?_) | (refine MethN.of m_text_order ?_) | (refine CallN.one (ord_text_text (a := 0) (b := 0) (s0 := s) (s := s') (m := m')) ?_) | refine OrdN.one ?_ | refine Need.draw ?_ | refine ExtN.ext ?_ | refine finGo ?_) <;> try (conv => whnf)
  rfl
theorem oo_text_bool {σ : Heap} {v v' : Val} {n n' r : Int} {s s' : ByteArray} {m m' : List CV} (hv : termV v = .iface 248 (.sc (.string s))) (hv' : termV v' = .iface 249 (i64 n')) : CRun Tryz.prog 220 [v.cv, v'.cv] σ (· = .ret (i64 (intsF 3 4)) σ) := by
  refine crun_of (X := X) X_ok X_sat (body := bodyOf Tryz.f220) Tryz.func220 rfl (by kernel_rfl) (by kernel_rfl) ?_
  rw [Tryz.ntmps220]
  have t1 : CRun Tryz.prog 240 [v.cv] σ (· = .ret (.iface 248 (.sc (.string s))) σ) := hv ▸ term_c
  have t2 : CRun Tryz.prog 240 [v'.cv] σ (· = .ret (.iface 249 (i64 n')) σ) := hv' ▸ term_c
  clear hv hv'
  obtain ⟨vk, vn, vt, vl⟩ := v
  obtain ⟨vk', vn', vt', vl'⟩ := v'
  conv => whnf
  repeat' (first | (refine CallN.one t1 ?_) | (refine CallN.one t2 ?_) | (refine Need.mk n_text_order ?_) | (refine MethN.of m_text_order ?_) | (refine CallN.one (ord_text_bool (a := 0) (b := n') (s0 := s) (s := s) (m := m')) ?_) | refine OrdN.one ?_ | refine Need.draw ?_ | refine ExtN.ext ?_ | refine finGo ?_) <;> try (conv => whnf)
  rfl
theorem oo_text_num {σ : Heap} {v v' : Val} {n n' r : Int} {s s' : ByteArray} {m m' : List CV} (hv : termV v = .iface 248 (.sc (.string s))) (hv' : termV v' = .iface 250 (i64 n')) : CRun Tryz.prog 220 [v.cv, v'.cv] σ (· = .ret (i64 (intsF 3 5)) σ) := by
  refine crun_of (X := X) X_ok X_sat (body := bodyOf Tryz.f220) Tryz.func220 rfl (by kernel_rfl) (by kernel_rfl) ?_
  rw [Tryz.ntmps220]
  have t1 : CRun Tryz.prog 240 [v.cv] σ (· = .ret (.iface 248 (.sc (.string s))) σ) := hv ▸ term_c
  have t2 : CRun Tryz.prog 240 [v'.cv] σ (· = .ret (.iface 250 (i64 n')) σ) := hv' ▸ term_c
  clear hv hv'
  obtain ⟨vk, vn, vt, vl⟩ := v
  obtain ⟨vk', vn', vt', vl'⟩ := v'
  conv => whnf
  repeat' (first | (refine CallN.one t1 ?_) | (refine CallN.one t2 ?_) | (refine Need.mk n_text_order ?_) | (refine MethN.of m_text_order ?_) | (refine CallN.one (ord_text_num (a := 0) (b := n') (s0 := s) (s := s) (m := m')) ?_) | refine OrdN.one ?_ | refine Need.draw ?_ | refine ExtN.ext ?_ | refine finGo ?_) <;> try (conv => whnf)
  rfl
theorem oo_text_null {σ : Heap} {v v' : Val} {n n' r : Int} {s s' : ByteArray} {m m' : List CV} (hv : termV v = .iface 248 (.sc (.string s))) (hv' : termV v' = .iface 252 (.agg [])) : CRun Tryz.prog 220 [v.cv, v'.cv] σ (· = .ret (i64 (intsF 3 6)) σ) := by
  refine crun_of (X := X) X_ok X_sat (body := bodyOf Tryz.f220) Tryz.func220 rfl (by kernel_rfl) (by kernel_rfl) ?_
  rw [Tryz.ntmps220]
  have t1 : CRun Tryz.prog 240 [v.cv] σ (· = .ret (.iface 248 (.sc (.string s))) σ) := hv ▸ term_c
  have t2 : CRun Tryz.prog 240 [v'.cv] σ (· = .ret (.iface 252 (.agg [])) σ) := hv' ▸ term_c
  clear hv hv'
  obtain ⟨vk, vn, vt, vl⟩ := v
  obtain ⟨vk', vn', vt', vl'⟩ := v'
  conv => whnf
  repeat' (first | (refine CallN.one t1 ?_) | (refine CallN.one t2 ?_) | (refine Need.mk n_text_order ?_) | (refine MethN.of m_text_order ?_) | (refine CallN.one (ord_text_null (a := 0) (b := 0) (s0 := s) (s := s) (m := m')) ?_) | refine OrdN.one ?_ | refine Need.draw ?_ | refine ExtN.ext ?_ | refine finGo ?_) <;> try (conv => whnf)
  rfl
theorem oo_bool_node {σ : Heap} {v v' : Val} {n n' r : Int} {s s' : ByteArray} {m m' : List CV} (hv : termV v = .iface 249 (i64 n)) (hv' : termV v' = .iface 245 (i64 n')) : CRun Tryz.prog 220 [v.cv, v'.cv] σ (· = .ret (i64 (intsF 4 0)) σ) := by
  refine crun_of (X := X) X_ok X_sat (body := bodyOf Tryz.f220) Tryz.func220 rfl (by kernel_rfl) (by kernel_rfl) ?_
  rw [Tryz.ntmps220]
  have t1 : CRun Tryz.prog 240 [v.cv] σ (· = .ret (.iface 249 (i64 n)) σ) := hv ▸ term_c
  have t2 : CRun Tryz.prog 240 [v'.cv] σ (· = .ret (.iface 245 (i64 n')) σ) := hv' ▸ term_c
  clear hv hv'
  obtain ⟨vk, vn, vt, vl⟩ := v
  obtain ⟨vk', vn', vt', vl'⟩ := v'
  conv => whnf
  repeat' (first | (refine CallN.one t1 ?_) | (refine CallN.one t2 ?_) | (refine Need.mk n_bool_order ?_) | (refine MethN.of m_bool_order ?_) | (refine CallN.one (ord_bool_node (a := n) (b := n') (s0 := s) (s := s') (m := m')) ?_) | refine OrdN.one ?_ | refine Need.draw ?_ | refine ExtN.ext ?_ | refine finGo ?_) <;> try (conv => whnf)
  rfl
theorem oo_bool_edge {σ : Heap} {v v' : Val} {n n' r : Int} {s s' : ByteArray} {m m' : List CV} (hv : termV v = .iface 249 (i64 n)) (hv' : termV v' = .iface 246 (i64 n')) : CRun Tryz.prog 220 [v.cv, v'.cv] σ (· = .ret (i64 (intsF 4 1)) σ) := by
  refine crun_of (X := X) X_ok X_sat (body := bodyOf Tryz.f220) Tryz.func220 rfl (by kernel_rfl) (by kernel_rfl) ?_
  rw [Tryz.ntmps220]
  have t1 : CRun Tryz.prog 240 [v.cv] σ (· = .ret (.iface 249 (i64 n)) σ) := hv ▸ term_c
  have t2 : CRun Tryz.prog 240 [v'.cv] σ (· = .ret (.iface 246 (i64 n')) σ) := hv' ▸ term_c
  clear hv hv'
  obtain ⟨vk, vn, vt, vl⟩ := v
  obtain ⟨vk', vn', vt', vl'⟩ := v'
  conv => whnf
  repeat' (first | (refine CallN.one t1 ?_) | (refine CallN.one t2 ?_) | (refine Need.mk n_bool_order ?_) | (refine MethN.of m_bool_order ?_) | (refine CallN.one (ord_bool_edge (a := n) (b := n') (s0 := s) (s := s') (m := m')) ?_) | refine OrdN.one ?_ | refine Need.draw ?_ | refine ExtN.ext ?_ | refine finGo ?_) <;> try (conv => whnf)
  rfl
theorem oo_bool_list {σ : Heap} {v v' : Val} {n n' r : Int} {s s' : ByteArray} {m m' : List CV} (hv : termV v = .iface 249 (i64 n)) (hv' : termV v' = .iface 247 (.vec m')) : CRun Tryz.prog 220 [v.cv, v'.cv] σ (· = .ret (i64 (intsF 4 2)) σ) := by
  refine crun_of (X := X) X_ok X_sat (body := bodyOf Tryz.f220) Tryz.func220 rfl (by kernel_rfl) (by kernel_rfl) ?_
  rw [Tryz.ntmps220]
  have t1 : CRun Tryz.prog 240 [v.cv] σ (· = .ret (.iface 249 (i64 n)) σ) := hv ▸ term_c
  have t2 : CRun Tryz.prog 240 [v'.cv] σ (· = .ret (.iface 247 (.vec m')) σ) := hv' ▸ term_c
  clear hv hv'
  obtain ⟨vk, vn, vt, vl⟩ := v
  obtain ⟨vk', vn', vt', vl'⟩ := v'
  conv => whnf
  repeat' (first | (refine CallN.one t1 ?_) | (refine CallN.one t2 ?_) | (refine Need.mk n_bool_order ?_) | (refine MethN.of m_bool_order ?_) | (refine CallN.one (ord_bool_list (a := n) (b := n') (s0 := s) (s := s') (m := m')) ?_) | refine OrdN.one ?_ | refine Need.draw ?_ | refine ExtN.ext ?_ | refine finGo ?_) <;> try (conv => whnf)
  rfl
theorem oo_bool_text {σ : Heap} {v v' : Val} {n n' r : Int} {s s' : ByteArray} {m m' : List CV} (hv : termV v = .iface 249 (i64 n)) (hv' : termV v' = .iface 248 (.sc (.string s'))) : CRun Tryz.prog 220 [v.cv, v'.cv] σ (· = .ret (i64 (intsF 4 3)) σ) := by
  refine crun_of (X := X) X_ok X_sat (body := bodyOf Tryz.f220) Tryz.func220 rfl (by kernel_rfl) (by kernel_rfl) ?_
  rw [Tryz.ntmps220]
  have t1 : CRun Tryz.prog 240 [v.cv] σ (· = .ret (.iface 249 (i64 n)) σ) := hv ▸ term_c
  have t2 : CRun Tryz.prog 240 [v'.cv] σ (· = .ret (.iface 248 (.sc (.string s'))) σ) := hv' ▸ term_c
  clear hv hv'
  obtain ⟨vk, vn, vt, vl⟩ := v
  obtain ⟨vk', vn', vt', vl'⟩ := v'
  conv => whnf
  repeat' (first | (refine CallN.one t1 ?_) | (refine CallN.one t2 ?_) | (refine Need.mk n_bool_order ?_) | (refine MethN.of m_bool_order ?_) | (refine CallN.one (ord_bool_text (a := n) (b := n') (s0 := s) (s := s') (m := m')) ?_) | refine OrdN.one ?_ | refine Need.draw ?_ | refine ExtN.ext ?_ | refine finGo ?_) <;> try (conv => whnf)
  rfl
theorem oo_bool_bool {σ : Heap} {v v' : Val} {n n' r : Int} {s s' : ByteArray} {m m' : List CV} (hv : termV v = .iface 249 (i64 n)) (hv' : termV v' = .iface 249 (i64 n')) : CRun Tryz.prog 220 [v.cv, v'.cv] σ (· = .ret (i64 (intsF n n')) σ) := by
  refine crun_of (X := X) X_ok X_sat (body := bodyOf Tryz.f220) Tryz.func220 rfl (by kernel_rfl) (by kernel_rfl) ?_
  rw [Tryz.ntmps220]
  have t1 : CRun Tryz.prog 240 [v.cv] σ (· = .ret (.iface 249 (i64 n)) σ) := hv ▸ term_c
  have t2 : CRun Tryz.prog 240 [v'.cv] σ (· = .ret (.iface 249 (i64 n')) σ) := hv' ▸ term_c
  clear hv hv'
  obtain ⟨vk, vn, vt, vl⟩ := v
  obtain ⟨vk', vn', vt', vl'⟩ := v'
  conv => whnf
  repeat' (first | (refine CallN.one t1 ?_) | (refine CallN.one t2 ?_) | (refine Need.mk n_bool_order ?_) | (refine MethN.of m_bool_order ?_) | (refine CallN.one (ord_bool_bool (a := n) (b := n') (s0 := s) (s := s') (m := m')) ?_) | refine OrdN.one ?_ | refine Need.draw ?_ | refine ExtN.ext ?_ | refine finGo ?_) <;> try (conv => whnf)
  rfl
theorem oo_bool_num {σ : Heap} {v v' : Val} {n n' r : Int} {s s' : ByteArray} {m m' : List CV} (hv : termV v = .iface 249 (i64 n)) (hv' : termV v' = .iface 250 (i64 n')) : CRun Tryz.prog 220 [v.cv, v'.cv] σ (· = .ret (i64 (intsF 4 5)) σ) := by
  refine crun_of (X := X) X_ok X_sat (body := bodyOf Tryz.f220) Tryz.func220 rfl (by kernel_rfl) (by kernel_rfl) ?_
  rw [Tryz.ntmps220]
  have t1 : CRun Tryz.prog 240 [v.cv] σ (· = .ret (.iface 249 (i64 n)) σ) := hv ▸ term_c
  have t2 : CRun Tryz.prog 240 [v'.cv] σ (· = .ret (.iface 250 (i64 n')) σ) := hv' ▸ term_c
  clear hv hv'
  obtain ⟨vk, vn, vt, vl⟩ := v
  obtain ⟨vk', vn', vt', vl'⟩ := v'
  conv => whnf
  repeat' (first | (refine CallN.one t1 ?_) | (refine CallN.one t2 ?_) | (refine Need.mk n_bool_order ?_) | (refine MethN.of m_bool_order ?_) | (refine CallN.one (ord_bool_num (a := n) (b := n') (s0 := s) (s := s') (m := m')) ?_) | refine OrdN.one ?_ | refine Need.draw ?_ | refine ExtN.ext ?_ | refine finGo ?_) <;> try (conv => whnf)
  rfl
theorem oo_bool_null {σ : Heap} {v v' : Val} {n n' r : Int} {s s' : ByteArray} {m m' : List CV} (hv : termV v = .iface 249 (i64 n)) (hv' : termV v' = .iface 252 (.agg [])) : CRun Tryz.prog 220 [v.cv, v'.cv] σ (· = .ret (i64 (intsF 4 6)) σ) := by
  refine crun_of (X := X) X_ok X_sat (body := bodyOf Tryz.f220) Tryz.func220 rfl (by kernel_rfl) (by kernel_rfl) ?_
  rw [Tryz.ntmps220]
  have t1 : CRun Tryz.prog 240 [v.cv] σ (· = .ret (.iface 249 (i64 n)) σ) := hv ▸ term_c
  have t2 : CRun Tryz.prog 240 [v'.cv] σ (· = .ret (.iface 252 (.agg [])) σ) := hv' ▸ term_c
  clear hv hv'
  obtain ⟨vk, vn, vt, vl⟩ := v
  obtain ⟨vk', vn', vt', vl'⟩ := v'
  conv => whnf
  repeat' (first | (refine CallN.one t1 ?_) | (refine CallN.one t2 ?_) | (refine Need.mk n_bool_order ?_) | (refine MethN.of m_bool_order ?_) | (refine CallN.one (ord_bool_null (a := n) (b := n') (s0 := s) (s := s') (m := m')) ?_) | refine OrdN.one ?_ | refine Need.draw ?_ | refine ExtN.ext ?_ | refine finGo ?_) <;> try (conv => whnf)
  rfl
theorem oo_num_node {σ : Heap} {v v' : Val} {n n' r : Int} {s s' : ByteArray} {m m' : List CV} (hv : termV v = .iface 250 (i64 n)) (hv' : termV v' = .iface 245 (i64 n')) : CRun Tryz.prog 220 [v.cv, v'.cv] σ (· = .ret (i64 (intsF 5 0)) σ) := by
  refine crun_of (X := X) X_ok X_sat (body := bodyOf Tryz.f220) Tryz.func220 rfl (by kernel_rfl) (by kernel_rfl) ?_
  rw [Tryz.ntmps220]
  have t1 : CRun Tryz.prog 240 [v.cv] σ (· = .ret (.iface 250 (i64 n)) σ) := hv ▸ term_c
  have t2 : CRun Tryz.prog 240 [v'.cv] σ (· = .ret (.iface 245 (i64 n')) σ) := hv' ▸ term_c
  clear hv hv'
  obtain ⟨vk, vn, vt, vl⟩ := v
  obtain ⟨vk', vn', vt', vl'⟩ := v'
  conv => whnf
  repeat' (first | (refine CallN.one t1 ?_) | (refine CallN.one t2 ?_) | (refine Need.mk n_num_order ?_) | (refine MethN.of m_num_order ?_) | (refine CallN.one (ord_num_node (a := n) (b := n') (s0 := s) (s := s') (m := m')) ?_) | refine OrdN.one ?_ | refine Need.draw ?_ | refine ExtN.ext ?_ | refine finGo ?_) <;> try (conv => whnf)
  rfl
theorem oo_num_edge {σ : Heap} {v v' : Val} {n n' r : Int} {s s' : ByteArray} {m m' : List CV} (hv : termV v = .iface 250 (i64 n)) (hv' : termV v' = .iface 246 (i64 n')) : CRun Tryz.prog 220 [v.cv, v'.cv] σ (· = .ret (i64 (intsF 5 1)) σ) := by
  refine crun_of (X := X) X_ok X_sat (body := bodyOf Tryz.f220) Tryz.func220 rfl (by kernel_rfl) (by kernel_rfl) ?_
  rw [Tryz.ntmps220]
  have t1 : CRun Tryz.prog 240 [v.cv] σ (· = .ret (.iface 250 (i64 n)) σ) := hv ▸ term_c
  have t2 : CRun Tryz.prog 240 [v'.cv] σ (· = .ret (.iface 246 (i64 n')) σ) := hv' ▸ term_c
  clear hv hv'
  obtain ⟨vk, vn, vt, vl⟩ := v
  obtain ⟨vk', vn', vt', vl'⟩ := v'
  conv => whnf
  repeat' (first | (refine CallN.one t1 ?_) | (refine CallN.one t2 ?_) | (refine Need.mk n_num_order ?_) | (refine MethN.of m_num_order ?_) | (refine CallN.one (ord_num_edge (a := n) (b := n') (s0 := s) (s := s') (m := m')) ?_) | refine OrdN.one ?_ | refine Need.draw ?_ | refine ExtN.ext ?_ | refine finGo ?_) <;> try (conv => whnf)
  rfl
theorem oo_num_list {σ : Heap} {v v' : Val} {n n' r : Int} {s s' : ByteArray} {m m' : List CV} (hv : termV v = .iface 250 (i64 n)) (hv' : termV v' = .iface 247 (.vec m')) : CRun Tryz.prog 220 [v.cv, v'.cv] σ (· = .ret (i64 (intsF 5 2)) σ) := by
  refine crun_of (X := X) X_ok X_sat (body := bodyOf Tryz.f220) Tryz.func220 rfl (by kernel_rfl) (by kernel_rfl) ?_
  rw [Tryz.ntmps220]
  have t1 : CRun Tryz.prog 240 [v.cv] σ (· = .ret (.iface 250 (i64 n)) σ) := hv ▸ term_c
  have t2 : CRun Tryz.prog 240 [v'.cv] σ (· = .ret (.iface 247 (.vec m')) σ) := hv' ▸ term_c
  clear hv hv'
  obtain ⟨vk, vn, vt, vl⟩ := v
  obtain ⟨vk', vn', vt', vl'⟩ := v'
  conv => whnf
  repeat' (first | (refine CallN.one t1 ?_) | (refine CallN.one t2 ?_) | (refine Need.mk n_num_order ?_) | (refine MethN.of m_num_order ?_) | (refine CallN.one (ord_num_list (a := n) (b := n') (s0 := s) (s := s') (m := m')) ?_) | refine OrdN.one ?_ | refine Need.draw ?_ | refine ExtN.ext ?_ | refine finGo ?_) <;> try (conv => whnf)
  rfl
theorem oo_num_text {σ : Heap} {v v' : Val} {n n' r : Int} {s s' : ByteArray} {m m' : List CV} (hv : termV v = .iface 250 (i64 n)) (hv' : termV v' = .iface 248 (.sc (.string s'))) : CRun Tryz.prog 220 [v.cv, v'.cv] σ (· = .ret (i64 (intsF 5 3)) σ) := by
  refine crun_of (X := X) X_ok X_sat (body := bodyOf Tryz.f220) Tryz.func220 rfl (by kernel_rfl) (by kernel_rfl) ?_
  rw [Tryz.ntmps220]
  have t1 : CRun Tryz.prog 240 [v.cv] σ (· = .ret (.iface 250 (i64 n)) σ) := hv ▸ term_c
  have t2 : CRun Tryz.prog 240 [v'.cv] σ (· = .ret (.iface 248 (.sc (.string s'))) σ) := hv' ▸ term_c
  clear hv hv'
  obtain ⟨vk, vn, vt, vl⟩ := v
  obtain ⟨vk', vn', vt', vl'⟩ := v'
  conv => whnf
  repeat' (first | (refine CallN.one t1 ?_) | (refine CallN.one t2 ?_) | (refine Need.mk n_num_order ?_) | (refine MethN.of m_num_order ?_) | (refine CallN.one (ord_num_text (a := n) (b := n') (s0 := s) (s := s') (m := m')) ?_) | refine OrdN.one ?_ | refine Need.draw ?_ | refine ExtN.ext ?_ | refine finGo ?_) <;> try (conv => whnf)
  rfl
theorem oo_num_bool {σ : Heap} {v v' : Val} {n n' r : Int} {s s' : ByteArray} {m m' : List CV} (hv : termV v = .iface 250 (i64 n)) (hv' : termV v' = .iface 249 (i64 n')) : CRun Tryz.prog 220 [v.cv, v'.cv] σ (· = .ret (i64 (intsF 5 4)) σ) := by
  refine crun_of (X := X) X_ok X_sat (body := bodyOf Tryz.f220) Tryz.func220 rfl (by kernel_rfl) (by kernel_rfl) ?_
  rw [Tryz.ntmps220]
  have t1 : CRun Tryz.prog 240 [v.cv] σ (· = .ret (.iface 250 (i64 n)) σ) := hv ▸ term_c
  have t2 : CRun Tryz.prog 240 [v'.cv] σ (· = .ret (.iface 249 (i64 n')) σ) := hv' ▸ term_c
  clear hv hv'
  obtain ⟨vk, vn, vt, vl⟩ := v
  obtain ⟨vk', vn', vt', vl'⟩ := v'
  conv => whnf
  repeat' (first | (refine CallN.one t1 ?_) | (refine CallN.one t2 ?_) | (refine Need.mk n_num_order ?_) | (refine MethN.of m_num_order ?_) | (refine CallN.one (ord_num_bool (a := n) (b := n') (s0 := s) (s := s') (m := m')) ?_) | refine OrdN.one ?_ | refine Need.draw ?_ | refine ExtN.ext ?_ | refine finGo ?_) <;> try (conv => whnf)
  rfl
theorem oo_num_num {σ : Heap} {v v' : Val} {n n' r : Int} {s s' : ByteArray} {m m' : List CV} (hv : termV v = .iface 250 (i64 n)) (hv' : termV v' = .iface 250 (i64 n')) : CRun Tryz.prog 220 [v.cv, v'.cv] σ (· = .ret (i64 (intsF n n')) σ) := by
  refine crun_of (X := X) X_ok X_sat (body := bodyOf Tryz.f220) Tryz.func220 rfl (by kernel_rfl) (by kernel_rfl) ?_
  rw [Tryz.ntmps220]
  have t1 : CRun Tryz.prog 240 [v.cv] σ (· = .ret (.iface 250 (i64 n)) σ) := hv ▸ term_c
  have t2 : CRun Tryz.prog 240 [v'.cv] σ (· = .ret (.iface 250 (i64 n')) σ) := hv' ▸ term_c
  clear hv hv'
  obtain ⟨vk, vn, vt, vl⟩ := v
  obtain ⟨vk', vn', vt', vl'⟩ := v'
  conv => whnf
  repeat' (first | (refine CallN.one t1 ?_) | (refine CallN.one t2 ?_) | (refine Need.mk n_num_order ?_) | (refine MethN.of m_num_order ?_) | (refine CallN.one (ord_num_num (a := n) (b := n') (s0 := s) (s := s') (m := m')) ?_) | refine OrdN.one ?_ | refine Need.draw ?_ | refine ExtN.ext ?_ | refine finGo ?_) <;> try (conv => whnf)
  rfl
theorem oo_num_null {σ : Heap} {v v' : Val} {n n' r : Int} {s s' : ByteArray} {m m' : List CV} (hv : termV v = .iface 250 (i64 n)) (hv' : termV v' = .iface 252 (.agg [])) : CRun Tryz.prog 220 [v.cv, v'.cv] σ (· = .ret (i64 (intsF 5 6)) σ) := by
  refine crun_of (X := X) X_ok X_sat (body := bodyOf Tryz.f220) Tryz.func220 rfl (by kernel_rfl) (by kernel_rfl) ?_
  rw [Tryz.ntmps220]
  have t1 : CRun Tryz.prog 240 [v.cv] σ (· = .ret (.iface 250 (i64 n)) σ) := hv ▸ term_c
  have t2 : CRun Tryz.prog 240 [v'.cv] σ (· = .ret (.iface 252 (.agg [])) σ) := hv' ▸ term_c
  clear hv hv'
  obtain ⟨vk, vn, vt, vl⟩ := v
  obtain ⟨vk', vn', vt', vl'⟩ := v'
  conv => whnf
  repeat' (first | (refine CallN.one t1 ?_) | (refine CallN.one t2 ?_) | (refine Need.mk n_num_order ?_) | (refine MethN.of m_num_order ?_) | (refine CallN.one (ord_num_null (a := n) (b := n') (s0 := s) (s := s') (m := m')) ?_) | refine OrdN.one ?_ | refine Need.draw ?_ | refine ExtN.ext ?_ | refine finGo ?_) <;> try (conv => whnf)
  rfl
theorem oo_null_node {σ : Heap} {v v' : Val} {n n' r : Int} {s s' : ByteArray} {m m' : List CV} (hv : termV v = .iface 252 (.agg [])) (hv' : termV v' = .iface 245 (i64 n')) : CRun Tryz.prog 220 [v.cv, v'.cv] σ (· = .ret (i64 (intsF 6 0)) σ) := by
  refine crun_of (X := X) X_ok X_sat (body := bodyOf Tryz.f220) Tryz.func220 rfl (by kernel_rfl) (by kernel_rfl) ?_
  rw [Tryz.ntmps220]
  have t1 : CRun Tryz.prog 240 [v.cv] σ (· = .ret (.iface 252 (.agg [])) σ) := hv ▸ term_c
  have t2 : CRun Tryz.prog 240 [v'.cv] σ (· = .ret (.iface 245 (i64 n')) σ) := hv' ▸ term_c
  clear hv hv'
  obtain ⟨vk, vn, vt, vl⟩ := v
  obtain ⟨vk', vn', vt', vl'⟩ := v'
  conv => whnf
  repeat' (first | (refine CallN.one t1 ?_) | (refine CallN.one t2 ?_) | (refine Need.mk n_null_order ?_) | (refine MethN.of m_null_order ?_) | (refine CallN.one (ord_null_node (a := n) (b := n') (s0 := s) (s := s') (m := m')) ?_) | refine OrdN.one ?_ | refine Need.draw ?_ | refine ExtN.ext ?_ | refine finGo ?_) <;> try (conv => whnf)
  rfl
theorem oo_null_edge {σ : Heap} {v v' : Val} {n n' r : Int} {s s' : ByteArray} {m m' : List CV} (hv : termV v = .iface 252 (.agg [])) (hv' : termV v' = .iface 246 (i64 n')) : CRun Tryz.prog 220 [v.cv, v'.cv] σ (· = .ret (i64 (intsF 6 1)) σ) := by
  refine crun_of (X := X) X_ok X_sat (body := bodyOf Tryz.f220) Tryz.func220 rfl (by kernel_rfl) (by kernel_rfl) ?_
  rw [Tryz.ntmps220]
  have t1 : CRun Tryz.prog 240 [v.cv] σ (· = .ret (.iface 252 (.agg [])) σ) := hv ▸ term_c
  have t2 : CRun Tryz.prog 240 [v'.cv] σ (· = .ret (.iface 246 (i64 n')) σ) := hv' ▸ term_c
  clear hv hv'
  obtain ⟨vk, vn, vt, vl⟩ := v
  obtain ⟨vk', vn', vt', vl'⟩ := v'
  conv => whnf
  repeat' (first | (refine CallN.one t1 ?_) | (refine CallN.one t2 ?_) | (refine Need.mk n_null_order ?_) | (refine MethN.of m_null_order ?_) | (refine CallN.one (ord_null_edge (a := n) (b := n') (s0 := s) (s := s') (m := m')) ?_) | refine OrdN.one ?_ | refine Need.draw ?_ | refine ExtN.ext ?_ | refine finGo ?_) <;> try (conv => whnf)
  rfl
theorem oo_null_list {σ : Heap} {v v' : Val} {n n' r : Int} {s s' : ByteArray} {m m' : List CV} (hv : termV v = .iface 252 (.agg [])) (hv' : termV v' = .iface 247 (.vec m')) : CRun Tryz.prog 220 [v.cv, v'.cv] σ (· = .ret (i64 (intsF 6 2)) σ) := by
  refine crun_of (X := X) X_ok X_sat (body := bodyOf Tryz.f220) Tryz.func220 rfl (by kernel_rfl) (by kernel_rfl) ?_
  rw [Tryz.ntmps220]
  have t1 : CRun Tryz.prog 240 [v.cv] σ (· = .ret (.iface 252 (.agg [])) σ) := hv ▸ term_c
  have t2 : CRun Tryz.prog 240 [v'.cv] σ (· = .ret (.iface 247 (.vec m')) σ) := hv' ▸ term_c
  clear hv hv'
  obtain ⟨vk, vn, vt, vl⟩ := v
  obtain ⟨vk', vn', vt', vl'⟩ := v'
  conv => whnf
  repeat' (first | (refine CallN.one t1 ?_) | (refine CallN.one t2 ?_) | (refine Need.mk n_null_order ?_) | (refine MethN.of m_null_order ?_) | (refine CallN.one (ord_null_list (a := n) (b := n') (s0 := s) (s := s') (m := m')) ?_) | refine OrdN.one ?_ | refine Need.draw ?_ | refine ExtN.ext ?_ | refine finGo ?_) <;> try (conv => whnf)
  rfl
theorem oo_null_text {σ : Heap} {v v' : Val} {n n' r : Int} {s s' : ByteArray} {m m' : List CV} (hv : termV v = .iface 252 (.agg [])) (hv' : termV v' = .iface 248 (.sc (.string s'))) : CRun Tryz.prog 220 [v.cv, v'.cv] σ (· = .ret (i64 (intsF 6 3)) σ) := by
  refine crun_of (X := X) X_ok X_sat (body := bodyOf Tryz.f220) Tryz.func220 rfl (by kernel_rfl) (by kernel_rfl) ?_
  rw [Tryz.ntmps220]
  have t1 : CRun Tryz.prog 240 [v.cv] σ (· = .ret (.iface 252 (.agg [])) σ) := hv ▸ term_c
  have t2 : CRun Tryz.prog 240 [v'.cv] σ (· = .ret (.iface 248 (.sc (.string s'))) σ) := hv' ▸ term_c
  clear hv hv'
  obtain ⟨vk, vn, vt, vl⟩ := v
  obtain ⟨vk', vn', vt', vl'⟩ := v'
  conv => whnf
  repeat' (first | (refine CallN.one t1 ?_) | (refine CallN.one t2 ?_) | (refine Need.mk n_null_order ?_) | (refine MethN.of m_null_order ?_) | (refine CallN.one (ord_null_text (a := n) (b := n') (s0 := s) (s := s') (m := m')) ?_) | refine OrdN.one ?_ | refine Need.draw ?_ | refine ExtN.ext ?_ | refine finGo ?_) <;> try (conv => whnf)
  rfl
theorem oo_null_bool {σ : Heap} {v v' : Val} {n n' r : Int} {s s' : ByteArray} {m m' : List CV} (hv : termV v = .iface 252 (.agg [])) (hv' : termV v' = .iface 249 (i64 n')) : CRun Tryz.prog 220 [v.cv, v'.cv] σ (· = .ret (i64 (intsF 6 4)) σ) := by
  refine crun_of (X := X) X_ok X_sat (body := bodyOf Tryz.f220) Tryz.func220 rfl (by kernel_rfl) (by kernel_rfl) ?_
  rw [Tryz.ntmps220]
  have t1 : CRun Tryz.prog 240 [v.cv] σ (· = .ret (.iface 252 (.agg [])) σ) := hv ▸ term_c
  have t2 : CRun Tryz.prog 240 [v'.cv] σ (· = .ret (.iface 249 (i64 n')) σ) := hv' ▸ term_c
  clear hv hv'
  obtain ⟨vk, vn, vt, vl⟩ := v
  obtain ⟨vk', vn', vt', vl'⟩ := v'
  conv => whnf
  repeat' (first | (refine CallN.one t1 ?_) | (refine CallN.one t2 ?_) | (refine Need.mk n_null_order ?_) | (refine MethN.of m_null_order ?_) | (refine CallN.one (ord_null_bool (a := n) (b := n') (s0 := s) (s := s') (m := m')) ?_) | refine OrdN.one ?_ | refine Need.draw ?_ | refine ExtN.ext ?_ | refine finGo ?_) <;> try (conv => whnf)
  rfl
theorem oo_null_num {σ : Heap} {v v' : Val} {n n' r : Int} {s s' : ByteArray} {m m' : List CV} (hv : termV v = .iface 252 (.agg [])) (hv' : termV v' = .iface 250 (i64 n')) : CRun Tryz.prog 220 [v.cv, v'.cv] σ (· = .ret (i64 (intsF 6 5)) σ) := by
  refine crun_of (X := X) X_ok X_sat (body := bodyOf Tryz.f220) Tryz.func220 rfl (by kernel_rfl) (by kernel_rfl) ?_
  rw [Tryz.ntmps220]
  have t1 : CRun Tryz.prog 240 [v.cv] σ (· = .ret (.iface 252 (.agg [])) σ) := hv ▸ term_c
  have t2 : CRun Tryz.prog 240 [v'.cv] σ (· = .ret (.iface 250 (i64 n')) σ) := hv' ▸ term_c
  clear hv hv'
  obtain ⟨vk, vn, vt, vl⟩ := v
  obtain ⟨vk', vn', vt', vl'⟩ := v'
  conv => whnf
  repeat' (first | (refine CallN.one t1 ?_) | (refine CallN.one t2 ?_) | (refine Need.mk n_null_order ?_) | (refine MethN.of m_null_order ?_) | (refine CallN.one (ord_null_num (a := n) (b := n') (s0 := s) (s := s') (m := m')) ?_) | refine OrdN.one ?_ | refine Need.draw ?_ | refine ExtN.ext ?_ | refine finGo ?_) <;> try (conv => whnf)
  rfl
theorem oo_null_null {σ : Heap} {v v' : Val} {n n' r : Int} {s s' : ByteArray} {m m' : List CV} (hv : termV v = .iface 252 (.agg [])) (hv' : termV v' = .iface 252 (.agg [])) : CRun Tryz.prog 220 [v.cv, v'.cv] σ (· = .ret (i64 (intsF 6 6)) σ) := by
  refine crun_of (X := X) X_ok X_sat (body := bodyOf Tryz.f220) Tryz.func220 rfl (by kernel_rfl) (by kernel_rfl) ?_
  rw [Tryz.ntmps220]
  have t1 : CRun Tryz.prog 240 [v.cv] σ (· = .ret (.iface 252 (.agg [])) σ) := hv ▸ term_c
  have t2 : CRun Tryz.prog 240 [v'.cv] σ (· = .ret (.iface 252 (.agg [])) σ) := hv' ▸ term_c
  clear hv hv'
  obtain ⟨vk, vn, vt, vl⟩ := v
  obtain ⟨vk', vn', vt', vl'⟩ := v'
  conv => whnf
  repeat' (first | (refine CallN.one t1 ?_) | (refine CallN.one t2 ?_) | (refine Need.mk n_null_order ?_) | (refine MethN.of m_null_order ?_) | (refine CallN.one (ord_null_null (a := n) (b := n') (s0 := s) (s := s') (m := m')) ?_) | refine OrdN.one ?_ | refine Need.draw ?_ | refine ExtN.ext ?_ | refine finGo ?_) <;> try (conv => whnf)
  rfl
end Go.Proofs.YthllnbfkfobcjaaGreat
namespace Go.Proofs.YthllnbfkfobcjaaGreat
open Go Go.CL Go.Proofs Go.Shelf
set_option maxRecDepth 10000
def ren190 : Ren :=
  {
    f := fun x =>
      match x with
      | 190 => 62
      | 125 => 142
      | 258 => 141
      | 128 => 211
      | 129 => 212
      | 302 => 202
      | 303 => 203
      | 304 => 204
      | 305 => 205
      | 306 => 206
      | 307 => 207
      | 308 => 208
      | 309 => 209
      | 310 => 210
      | 333 => 233
      | 329 => 234
      | 330 => 235
      | 334 => 236
      | 335 => 237
      | 336 => 238
      | 344 => 247
      | n => n,
    t := fun x =>
      match x with
      | 31 => 36
      | 9 => 9
      | 3 => 3
      | 46 => 172
      | 0 => 0
      | 51 => 210
      | 53 => 212
      | 4 => 4
      | 183 => 202
      | 182 => 201
      | 131 => 207
      | 5 => 5
      | 218 => 227
      | 222 => 231
      | 228 => 242
      | 229 => 243
      | n => n,
    g := fun x =>
      have n := x;
      n }
theorem lays190 : Lays.n190 Tryz.prog ren190 :=
  { mixed := Eq.refl true, f125 := Eq.trans Tryz.func142 (congrArg some (Eq.refl (Body.n125 ren190))),
    f128 := Eq.trans Tryz.func211 (congrArg some (Eq.refl (Body.n128 ren190))),
    f129 := Eq.trans Tryz.func212 (congrArg some (Eq.refl (Body.n129 ren190))),
    f190 := Eq.trans Tryz.func62 (congrArg some (Eq.refl (Body.n190 ren190))),
    f258 := Eq.trans Tryz.func141 (congrArg some (Eq.refl (Body.n258 ren190))),
    f302 := Eq.trans Tryz.func202 (congrArg some (Eq.refl (Body.n302 ren190))),
    f303 := Eq.trans Tryz.func203 (congrArg some (Eq.refl (Body.n303 ren190))),
    f304 := Eq.trans Tryz.func204 (congrArg some (Eq.refl (Body.n304 ren190))),
    f305 := Eq.trans Tryz.func205 (congrArg some (Eq.refl (Body.n305 ren190))),
    f306 := Eq.trans Tryz.func206 (congrArg some (Eq.refl (Body.n306 ren190))),
    f307 := Eq.trans Tryz.func207 (congrArg some (Eq.refl (Body.n307 ren190))),
    f308 := Eq.trans Tryz.func208 (congrArg some (Eq.refl (Body.n308 ren190))),
    f309 := Eq.trans Tryz.func209 (congrArg some (Eq.refl (Body.n309 ren190))),
    f310 := Eq.trans Tryz.func210 (congrArg some (Eq.refl (Body.n310 ren190))),
    f329 := Eq.trans Tryz.func234 (congrArg some (Eq.refl (Body.n329 ren190))),
    f330 := Eq.trans Tryz.func235 (congrArg some (Eq.refl (Body.n330 ren190))),
    f333 := Eq.trans Tryz.func233 (congrArg some (Eq.refl (Body.n333 ren190))),
    f334 := Eq.trans Tryz.func236 (congrArg some (Eq.refl (Body.n334 ren190))),
    f335 := Eq.trans Tryz.func237 (congrArg some (Eq.refl (Body.n335 ren190))),
    f336 := Eq.trans Tryz.func238 (congrArg some (Eq.refl (Body.n336 ren190))),
    f344 := Eq.trans Tryz.func247 (congrArg some (Eq.refl (Body.n344 ren190))), t0 := Tryz.underlying0,
    a0 := Tryz.isAgg0, z0 := Tryz.sizeOf0, v0 := Tryz.zeroValue0, t3 := Tryz.underlying3, a3 := Tryz.isAgg3,
    z3 := Tryz.sizeOf3, v3 := Tryz.zeroValue3, t4 := Tryz.underlying4, a4 := Tryz.isAgg4, z4 := Tryz.sizeOf4,
    v4 := Tryz.zeroValue4, t5 := Tryz.underlying5, a5 := Tryz.isAgg5, z5 := Tryz.sizeOf5, v5 := Tryz.zeroValue5,
    t9 := Tryz.underlying9, a9 := Tryz.isAgg9, z9 := Tryz.sizeOf9, v9 := Tryz.zeroValue9, t31 := Tryz.underlying36,
    a31 := Tryz.isAgg36, z31 := Tryz.sizeOf36, v31 := Tryz.zeroValue36, t46 := Tryz.underlying172, a46 := Tryz.isAgg172,
    z46 := Tryz.sizeOf172, v46 := Tryz.zeroValue172, t51 := Tryz.underlying210, a51 := Tryz.isAgg210,
    z51 := Tryz.sizeOf210, v51 := Tryz.zeroValue210, t53 := Tryz.underlying212, a53 := Tryz.isAgg212,
    z53 := Tryz.sizeOf212, v53 := Tryz.zeroValue212, t131 := Tryz.underlying207, a131 := Tryz.isAgg207,
    z131 := Tryz.sizeOf207, v131 := Tryz.zeroValue207, t182 := Tryz.underlying201, a182 := Tryz.isAgg201,
    z182 := Tryz.sizeOf201, v182 := Tryz.zeroValue201, t183 := Tryz.underlying202, a183 := Tryz.isAgg202,
    z183 := Tryz.sizeOf202, v183 := Tryz.zeroValue202, t218 := Tryz.underlying227, a218 := Tryz.isAgg227,
    z218 := Tryz.sizeOf227, v218 := Tryz.zeroValue227, t222 := Tryz.underlying231, a222 := Tryz.isAgg231,
    z222 := Tryz.sizeOf231, v222 := Tryz.zeroValue231, t228 := Tryz.underlying242, a228 := Tryz.isAgg242,
    z228 := Tryz.sizeOf242, v228 := Tryz.zeroValue242, t229 := Tryz.underlying243, a229 := Tryz.isAgg243,
    z229 := Tryz.sizeOf243, v229 := Tryz.zeroValue243 }
def ren194 : Ren :=
  {
    f := fun x =>
      match x with
      | 194 => 63
      | n => n,
    t := fun x =>
      match x with
      | 31 => 36
      | 9 => 9
      | 3 => 3
      | 4 => 4
      | 0 => 0
      | n => n,
    g := fun x =>
      have n := x;
      n }
theorem lays194 : Lays.n194 Tryz.prog ren194 :=
  { mixed := Eq.refl true, f194 := Eq.trans Tryz.func63 (congrArg some (Eq.refl (Body.n194 ren194))),
    t0 := Tryz.underlying0, a0 := Tryz.isAgg0, z0 := Tryz.sizeOf0, v0 := Tryz.zeroValue0, t3 := Tryz.underlying3,
    a3 := Tryz.isAgg3, z3 := Tryz.sizeOf3, v3 := Tryz.zeroValue3, t4 := Tryz.underlying4, a4 := Tryz.isAgg4,
    z4 := Tryz.sizeOf4, v4 := Tryz.zeroValue4, t9 := Tryz.underlying9, a9 := Tryz.isAgg9, z9 := Tryz.sizeOf9,
    v9 := Tryz.zeroValue9, t31 := Tryz.underlying36, a31 := Tryz.isAgg36, z31 := Tryz.sizeOf36, v31 := Tryz.zeroValue36 }
  
end Go.Proofs.YthllnbfkfobcjaaGreat
namespace Go.Proofs.YthllnbfkfobcjaaGreat
open Go Go.CL
set_option maxRecDepth 10000
theorem term_cases (k n : Int) (t : ByteArray) (l : List Val) :
    (k = 5 ∧ rankI k = 0 ∧ termV (.mk k n t l) = .iface 245 (i64 n)) ∨
    (k = 6 ∧ rankI k = 1 ∧ termV (.mk k n t l) = .iface 246 (i64 n)) ∨
    (k = 4 ∧ rankI k = 2 ∧ termV (.mk k n t l) = .iface 247 (.vec (Val.cvs l))) ∨
    (k = 3 ∧ rankI k = 3 ∧ termV (.mk k n t l) = .iface 248 (.sc (.string t))) ∨
    (k = 1 ∧ rankI k = 4 ∧ termV (.mk k n t l) = .iface 249 (i64 n)) ∨
    (k = 2 ∧ rankI k = 5 ∧ termV (.mk k n t l) = .iface 250 (i64 n)) ∨
    ((k ≠ 4 ∧ k ≠ 3) ∧ rankI k = 6 ∧ termV (.mk k n t l) = .iface 252 (.agg [])) := by
  by_cases h5 : k = 5
  · subst h5; exact .inl ⟨rfl, rfl, rfl⟩
  by_cases h6 : k = 6
  · subst h6; exact .inr (.inl ⟨rfl, rfl, rfl⟩)
  by_cases h4 : k = 4
  · subst h4; exact .inr (.inr (.inl ⟨rfl, rfl, rfl⟩))
  by_cases h3 : k = 3
  · subst h3; exact .inr (.inr (.inr (.inl ⟨rfl, rfl, rfl⟩)))
  by_cases h1 : k = 1
  · subst h1; exact .inr (.inr (.inr (.inr (.inl ⟨rfl, rfl, rfl⟩))))
  by_cases h2 : k = 2
  · subst h2; exact .inr (.inr (.inr (.inr (.inr (.inl ⟨rfl, rfl, rfl⟩)))))
  · refine .inr (.inr (.inr (.inr (.inr (.inr ⟨⟨h4, h3⟩, ?_, ?_⟩)))))
    · unfold rankI; rw [if_neg h5, if_neg h6, if_neg h4, if_neg h3, if_neg h1, if_neg h2]
    · simp only [termV]; rw [if_neg h5, if_neg h6, if_neg h4, if_neg h3, if_neg h1, if_neg h2]
theorem fin {f : FuncId} {args : List CV} {σ : Heap} {r q : Int} (h : CRun Tryz.prog f args σ (· = .ret (i64 r) σ)) (e : q = r) : CRun Tryz.prog f args σ (· = .ret (i64 q) σ) := e ▸ h
theorem orderOf_c {σ : Heap} {v : Val} (hv : Tame v) : ∀ {v' : Val}, Tame v' → CRun Tryz.prog 220 [v.cv, v'.cv] σ (· = .ret (i64 (ordI v v')) σ) := by
  induction hv with
  | @mk k n t l hk hn ht hl h ih =>
    intro v' hv'
    obtain ⟨k', n', t', l'⟩ := v'
    obtain ⟨b1, b2, b3, b4, b5⟩ := hv'.inv
    have hll := ord_list_list hl b4 b5 ih
    rcases term_cases k n t l with ⟨e1, r1, h1⟩ | ⟨e1, r1, h1⟩ | ⟨e1, r1, h1⟩ | ⟨e1, r1, h1⟩ | ⟨e1, r1, h1⟩ | ⟨e1, r1, h1⟩ | ⟨e1, r1, h1⟩
    · rcases term_cases k' n' t' l' with ⟨e2, r2, h2⟩ | ⟨e2, r2, h2⟩ | ⟨e2, r2, h2⟩ | ⟨e2, r2, h2⟩ | ⟨e2, r2, h2⟩ | ⟨e2, r2, h2⟩ | ⟨e2, r2, h2⟩
      · exact fin (oo_node_node (n := n) (n' := n') (r := ordIL l l') (s := t) (s' := t') (m := Val.cvs l) (m' := Val.cvs l') h1 h2) (by simp only [ordI]; rw [if_neg (by rw [r1, r2]; simp), if_neg (by omega), if_neg (by omega), if_neg (by rw [r1]; decide)])
      · exact fin (oo_node_edge (n := n) (n' := n') (r := ordIL l l') (s := t) (s' := t') (m := Val.cvs l) (m' := Val.cvs l') h1 h2) (by simp only [ordI]; rw [if_pos (by rw [r1, r2]; decide), r1, r2])
      · exact fin (oo_node_list (n := n) (n' := n') (r := ordIL l l') (s := t) (s' := t') (m := Val.cvs l) (m' := Val.cvs l') h1 h2) (by simp only [ordI]; rw [if_pos (by rw [r1, r2]; decide), r1, r2])
      · exact fin (oo_node_text (n := n) (n' := n') (r := ordIL l l') (s := t) (s' := t') (m := Val.cvs l) (m' := Val.cvs l') h1 h2) (by simp only [ordI]; rw [if_pos (by rw [r1, r2]; decide), r1, r2])
      · exact fin (oo_node_bool (n := n) (n' := n') (r := ordIL l l') (s := t) (s' := t') (m := Val.cvs l) (m' := Val.cvs l') h1 h2) (by simp only [ordI]; rw [if_pos (by rw [r1, r2]; decide), r1, r2])
      · exact fin (oo_node_num (n := n) (n' := n') (r := ordIL l l') (s := t) (s' := t') (m := Val.cvs l) (m' := Val.cvs l') h1 h2) (by simp only [ordI]; rw [if_pos (by rw [r1, r2]; decide), r1, r2])
      · exact fin (oo_node_null (n := n) (n' := n') (r := ordIL l l') (s := t) (s' := t') (m := Val.cvs l) (m' := Val.cvs l') h1 h2) (by simp only [ordI]; rw [if_pos (by rw [r1, r2]; decide), r1, r2])
    · rcases term_cases k' n' t' l' with ⟨e2, r2, h2⟩ | ⟨e2, r2, h2⟩ | ⟨e2, r2, h2⟩ | ⟨e2, r2, h2⟩ | ⟨e2, r2, h2⟩ | ⟨e2, r2, h2⟩ | ⟨e2, r2, h2⟩
      · exact fin (oo_edge_node (n := n) (n' := n') (r := ordIL l l') (s := t) (s' := t') (m := Val.cvs l) (m' := Val.cvs l') h1 h2) (by simp only [ordI]; rw [if_pos (by rw [r1, r2]; decide), r1, r2])
      · exact fin (oo_edge_edge (n := n) (n' := n') (r := ordIL l l') (s := t) (s' := t') (m := Val.cvs l) (m' := Val.cvs l') h1 h2) (by simp only [ordI]; rw [if_neg (by rw [r1, r2]; simp), if_neg (by omega), if_neg (by omega), if_neg (by rw [r1]; decide)])
      · exact fin (oo_edge_list (n := n) (n' := n') (r := ordIL l l') (s := t) (s' := t') (m := Val.cvs l) (m' := Val.cvs l') h1 h2) (by simp only [ordI]; rw [if_pos (by rw [r1, r2]; decide), r1, r2])
      · exact fin (oo_edge_text (n := n) (n' := n') (r := ordIL l l') (s := t) (s' := t') (m := Val.cvs l) (m' := Val.cvs l') h1 h2) (by simp only [ordI]; rw [if_pos (by rw [r1, r2]; decide), r1, r2])
      · exact fin (oo_edge_bool (n := n) (n' := n') (r := ordIL l l') (s := t) (s' := t') (m := Val.cvs l) (m' := Val.cvs l') h1 h2) (by simp only [ordI]; rw [if_pos (by rw [r1, r2]; decide), r1, r2])
      · exact fin (oo_edge_num (n := n) (n' := n') (r := ordIL l l') (s := t) (s' := t') (m := Val.cvs l) (m' := Val.cvs l') h1 h2) (by simp only [ordI]; rw [if_pos (by rw [r1, r2]; decide), r1, r2])
      · exact fin (oo_edge_null (n := n) (n' := n') (r := ordIL l l') (s := t) (s' := t') (m := Val.cvs l) (m' := Val.cvs l') h1 h2) (by simp only [ordI]; rw [if_pos (by rw [r1, r2]; decide), r1, r2])
    · rcases term_cases k' n' t' l' with ⟨e2, r2, h2⟩ | ⟨e2, r2, h2⟩ | ⟨e2, r2, h2⟩ | ⟨e2, r2, h2⟩ | ⟨e2, r2, h2⟩ | ⟨e2, r2, h2⟩ | ⟨e2, r2, h2⟩
      · exact fin (oo_list_node (n := n) (n' := n') (r := ordIL l l') (s := t) (s' := t') (m := Val.cvs l) (m' := Val.cvs l') h1 h2) (by simp only [ordI]; rw [if_pos (by rw [r1, r2]; decide), r1, r2])
      · exact fin (oo_list_edge (n := n) (n' := n') (r := ordIL l l') (s := t) (s' := t') (m := Val.cvs l) (m' := Val.cvs l') h1 h2) (by simp only [ordI]; rw [if_pos (by rw [r1, r2]; decide), r1, r2])
      · exact fin (oo_list_list (n := n) (n' := n') (r := ordIL l l') (s := t) (s' := t') (m := Val.cvs l) (m' := Val.cvs l') h1 h2 hll) (by simp only [ordI]; rw [if_neg (by rw [r1, r2]; simp), if_pos e1])
      · exact fin (oo_list_text (n := n) (n' := n') (r := ordIL l l') (s := t) (s' := t') (m := Val.cvs l) (m' := Val.cvs l') h1 h2) (by simp only [ordI]; rw [if_pos (by rw [r1, r2]; decide), r1, r2])
      · exact fin (oo_list_bool (n := n) (n' := n') (r := ordIL l l') (s := t) (s' := t') (m := Val.cvs l) (m' := Val.cvs l') h1 h2) (by simp only [ordI]; rw [if_pos (by rw [r1, r2]; decide), r1, r2])
      · exact fin (oo_list_num (n := n) (n' := n') (r := ordIL l l') (s := t) (s' := t') (m := Val.cvs l) (m' := Val.cvs l') h1 h2) (by simp only [ordI]; rw [if_pos (by rw [r1, r2]; decide), r1, r2])
      · exact fin (oo_list_null (n := n) (n' := n') (r := ordIL l l') (s := t) (s' := t') (m := Val.cvs l) (m' := Val.cvs l') h1 h2) (by simp only [ordI]; rw [if_pos (by rw [r1, r2]; decide), r1, r2])
    · rcases term_cases k' n' t' l' with ⟨e2, r2, h2⟩ | ⟨e2, r2, h2⟩ | ⟨e2, r2, h2⟩ | ⟨e2, r2, h2⟩ | ⟨e2, r2, h2⟩ | ⟨e2, r2, h2⟩ | ⟨e2, r2, h2⟩
      · exact fin (oo_text_node (n := n) (n' := n') (r := ordIL l l') (s := t) (s' := t') (m := Val.cvs l) (m' := Val.cvs l') h1 h2) (by simp only [ordI]; rw [if_pos (by rw [r1, r2]; decide), r1, r2])
      · exact fin (oo_text_edge (n := n) (n' := n') (r := ordIL l l') (s := t) (s' := t') (m := Val.cvs l) (m' := Val.cvs l') h1 h2) (by simp only [ordI]; rw [if_pos (by rw [r1, r2]; decide), r1, r2])
      · exact fin (oo_text_list (n := n) (n' := n') (r := ordIL l l') (s := t) (s' := t') (m := Val.cvs l) (m' := Val.cvs l') h1 h2) (by simp only [ordI]; rw [if_pos (by rw [r1, r2]; decide), r1, r2])
      · exact fin (oo_text_text (n := n) (n' := n') (r := ordIL l l') (s := t) (s' := t') (m := Val.cvs l) (m' := Val.cvs l') h1 h2) (by simp only [ordI]; rw [if_neg (by rw [r1, r2]; simp), if_neg (by omega), if_pos e1])
      · exact fin (oo_text_bool (n := n) (n' := n') (r := ordIL l l') (s := t) (s' := t') (m := Val.cvs l) (m' := Val.cvs l') h1 h2) (by simp only [ordI]; rw [if_pos (by rw [r1, r2]; decide), r1, r2])
      · exact fin (oo_text_num (n := n) (n' := n') (r := ordIL l l') (s := t) (s' := t') (m := Val.cvs l) (m' := Val.cvs l') h1 h2) (by simp only [ordI]; rw [if_pos (by rw [r1, r2]; decide), r1, r2])
      · exact fin (oo_text_null (n := n) (n' := n') (r := ordIL l l') (s := t) (s' := t') (m := Val.cvs l) (m' := Val.cvs l') h1 h2) (by simp only [ordI]; rw [if_pos (by rw [r1, r2]; decide), r1, r2])
    · rcases term_cases k' n' t' l' with ⟨e2, r2, h2⟩ | ⟨e2, r2, h2⟩ | ⟨e2, r2, h2⟩ | ⟨e2, r2, h2⟩ | ⟨e2, r2, h2⟩ | ⟨e2, r2, h2⟩ | ⟨e2, r2, h2⟩
      · exact fin (oo_bool_node (n := n) (n' := n') (r := ordIL l l') (s := t) (s' := t') (m := Val.cvs l) (m' := Val.cvs l') h1 h2) (by simp only [ordI]; rw [if_pos (by rw [r1, r2]; decide), r1, r2])
      · exact fin (oo_bool_edge (n := n) (n' := n') (r := ordIL l l') (s := t) (s' := t') (m := Val.cvs l) (m' := Val.cvs l') h1 h2) (by simp only [ordI]; rw [if_pos (by rw [r1, r2]; decide), r1, r2])
      · exact fin (oo_bool_list (n := n) (n' := n') (r := ordIL l l') (s := t) (s' := t') (m := Val.cvs l) (m' := Val.cvs l') h1 h2) (by simp only [ordI]; rw [if_pos (by rw [r1, r2]; decide), r1, r2])
      · exact fin (oo_bool_text (n := n) (n' := n') (r := ordIL l l') (s := t) (s' := t') (m := Val.cvs l) (m' := Val.cvs l') h1 h2) (by simp only [ordI]; rw [if_pos (by rw [r1, r2]; decide), r1, r2])
      · exact fin (oo_bool_bool (n := n) (n' := n') (r := ordIL l l') (s := t) (s' := t') (m := Val.cvs l) (m' := Val.cvs l') h1 h2) (by simp only [ordI]; rw [if_neg (by rw [r1, r2]; simp), if_neg (by omega), if_neg (by omega), if_neg (by rw [r1]; decide)])
      · exact fin (oo_bool_num (n := n) (n' := n') (r := ordIL l l') (s := t) (s' := t') (m := Val.cvs l) (m' := Val.cvs l') h1 h2) (by simp only [ordI]; rw [if_pos (by rw [r1, r2]; decide), r1, r2])
      · exact fin (oo_bool_null (n := n) (n' := n') (r := ordIL l l') (s := t) (s' := t') (m := Val.cvs l) (m' := Val.cvs l') h1 h2) (by simp only [ordI]; rw [if_pos (by rw [r1, r2]; decide), r1, r2])
    · rcases term_cases k' n' t' l' with ⟨e2, r2, h2⟩ | ⟨e2, r2, h2⟩ | ⟨e2, r2, h2⟩ | ⟨e2, r2, h2⟩ | ⟨e2, r2, h2⟩ | ⟨e2, r2, h2⟩ | ⟨e2, r2, h2⟩
      · exact fin (oo_num_node (n := n) (n' := n') (r := ordIL l l') (s := t) (s' := t') (m := Val.cvs l) (m' := Val.cvs l') h1 h2) (by simp only [ordI]; rw [if_pos (by rw [r1, r2]; decide), r1, r2])
      · exact fin (oo_num_edge (n := n) (n' := n') (r := ordIL l l') (s := t) (s' := t') (m := Val.cvs l) (m' := Val.cvs l') h1 h2) (by simp only [ordI]; rw [if_pos (by rw [r1, r2]; decide), r1, r2])
      · exact fin (oo_num_list (n := n) (n' := n') (r := ordIL l l') (s := t) (s' := t') (m := Val.cvs l) (m' := Val.cvs l') h1 h2) (by simp only [ordI]; rw [if_pos (by rw [r1, r2]; decide), r1, r2])
      · exact fin (oo_num_text (n := n) (n' := n') (r := ordIL l l') (s := t) (s' := t') (m := Val.cvs l) (m' := Val.cvs l') h1 h2) (by simp only [ordI]; rw [if_pos (by rw [r1, r2]; decide), r1, r2])
      · exact fin (oo_num_bool (n := n) (n' := n') (r := ordIL l l') (s := t) (s' := t') (m := Val.cvs l) (m' := Val.cvs l') h1 h2) (by simp only [ordI]; rw [if_pos (by rw [r1, r2]; decide), r1, r2])
      · exact fin (oo_num_num (n := n) (n' := n') (r := ordIL l l') (s := t) (s' := t') (m := Val.cvs l) (m' := Val.cvs l') h1 h2) (by simp only [ordI]; rw [if_neg (by rw [r1, r2]; simp), if_neg (by omega), if_neg (by omega), if_neg (by rw [r1]; decide)])
      · exact fin (oo_num_null (n := n) (n' := n') (r := ordIL l l') (s := t) (s' := t') (m := Val.cvs l) (m' := Val.cvs l') h1 h2) (by simp only [ordI]; rw [if_pos (by rw [r1, r2]; decide), r1, r2])
    · rcases term_cases k' n' t' l' with ⟨e2, r2, h2⟩ | ⟨e2, r2, h2⟩ | ⟨e2, r2, h2⟩ | ⟨e2, r2, h2⟩ | ⟨e2, r2, h2⟩ | ⟨e2, r2, h2⟩ | ⟨e2, r2, h2⟩
      · exact fin (oo_null_node (n := n) (n' := n') (r := ordIL l l') (s := t) (s' := t') (m := Val.cvs l) (m' := Val.cvs l') h1 h2) (by simp only [ordI]; rw [if_pos (by rw [r1, r2]; decide), r1, r2])
      · exact fin (oo_null_edge (n := n) (n' := n') (r := ordIL l l') (s := t) (s' := t') (m := Val.cvs l) (m' := Val.cvs l') h1 h2) (by simp only [ordI]; rw [if_pos (by rw [r1, r2]; decide), r1, r2])
      · exact fin (oo_null_list (n := n) (n' := n') (r := ordIL l l') (s := t) (s' := t') (m := Val.cvs l) (m' := Val.cvs l') h1 h2) (by simp only [ordI]; rw [if_pos (by rw [r1, r2]; decide), r1, r2])
      · exact fin (oo_null_text (n := n) (n' := n') (r := ordIL l l') (s := t) (s' := t') (m := Val.cvs l) (m' := Val.cvs l') h1 h2) (by simp only [ordI]; rw [if_pos (by rw [r1, r2]; decide), r1, r2])
      · exact fin (oo_null_bool (n := n) (n' := n') (r := ordIL l l') (s := t) (s' := t') (m := Val.cvs l) (m' := Val.cvs l') h1 h2) (by simp only [ordI]; rw [if_pos (by rw [r1, r2]; decide), r1, r2])
      · exact fin (oo_null_num (n := n) (n' := n') (r := ordIL l l') (s := t) (s' := t') (m := Val.cvs l) (m' := Val.cvs l') h1 h2) (by simp only [ordI]; rw [if_pos (by rw [r1, r2]; decide), r1, r2])
      · exact fin (oo_null_null (n := n) (n' := n') (r := ordIL l l') (s := t) (s' := t') (m := Val.cvs l) (m' := Val.cvs l') h1 h2) (by simp only [ordI]; rw [if_neg (by rw [r1, r2]; simp), if_neg e1.1, if_neg e1.2, if_pos r1]; rfl)
theorem rankI_F {k : Int} (h : k = 0 ∨ k = 1 ∨ k = 2 ∨ k = 3 ∨ k = 4 ∨ k = 5 ∨ k = 6) : rankI k = rankF k := by
  rcases h with rfl | rfl | rfl | rfl | rfl | rfl | rfl <;> rfl
theorem okV_kind {d k n : Int} {t : ByteArray} {l : List Val} (h : okV d (.mk k n t l) = true) : (k = 0 ∧ n = 0) ∨ k = 1 ∨ k = 2 ∨ k = 3 ∨ k = 4 ∨ k = 5 ∨ k = 6 := by
  simp only [okV, Bool.and_eq_true] at h
  obtain ⟨_, h⟩ := h
  by_cases h0 : k = 0
  · subst h0
    rw [if_pos rfl] at h
    simp only [Bool.and_eq_true, decide_eq_true_eq] at h
    exact .inl ⟨rfl, h.1.1⟩
  by_cases h1 : k = 1
  · exact .inr (.inl h1)
  by_cases h2 : k = 2
  · exact .inr (.inr (.inl h2))
  by_cases h3 : k = 3
  · exact .inr (.inr (.inr (.inl h3)))
  by_cases h4 : k = 4
  · exact .inr (.inr (.inr (.inr (.inl h4))))
  by_cases h5 : k = 5
  · exact .inr (.inr (.inr (.inr (.inr (.inl h5)))))
  by_cases h6 : k = 6
  · exact .inr (.inr (.inr (.inr (.inr (.inr h6)))))
  · rw [if_neg h0, if_neg h1, if_neg h2, if_neg h3, if_neg (by omega), if_neg h4] at h
    cases h
theorem okV_list {d n : Int} {t : ByteArray} {l : List Val} (h : okV d (.mk 4 n t l) = true) : ∀ v ∈ l, okV (d - 1) v = true := by
  have okk : okV d (.mk 4 n t l) = (decide (1 ≤ d) && (decide (n = 0) && decide (t = ⟨#[]⟩) && decide (l.length ≤ 6) && okL (d - 1) l)) := by simp only [okV]; rfl
  rw [okk, okL_all] at h
  simp only [Bool.and_eq_true, List.all_eq_true] at h
  exact fun v hv => h.2.2 v hv
theorem rankF_inj {k k' : Int} (h : k = 0 ∨ k = 1 ∨ k = 2 ∨ k = 3 ∨ k = 4 ∨ k = 5 ∨ k = 6) (h' : k' = 0 ∨ k' = 1 ∨ k' = 2 ∨ k' = 3 ∨ k' = 4 ∨ k' = 5 ∨ k' = 6) (e : rankF k = rankF k') : k = k' := by
  rcases h with rfl | rfl | rfl | rfl | rfl | rfl | rfl <;> rcases h' with rfl | rfl | rfl | rfl | rfl | rfl | rfl <;> first | rfl | (exfalso; revert e; decide)
mutual
theorem ordI_V : ∀ (a b : Val) {d d' : Int}, okV d a = true → okV d' b = true → ordI a b = ordV a b
  | .mk k n t l, .mk k' n' t' l', d, d', ha, hb => by
    have ka := okV_kind ha
    have kb := okV_kind hb
    have ra := rankI_F (k := k) (by omega)
    have rb := rankI_F (k := k') (by omega)
    simp only [ordI, ordV]
    rw [ra, rb]
    by_cases e : k = k'
    · subst e
      rw [if_neg (show ¬ (rankF k ≠ rankF k) by simp), if_neg (show ¬ (k ≠ k) by simp)]
      by_cases h4 : k = 4
      · subst h4
        rw [if_pos (rfl : (4 : Int) = 4), if_neg (show ¬ (4 : Int) = 3 by decide), if_pos (rfl : (4 : Int) = 4)]
        exact ordIL_L l l' (okV_list ha) (okV_list hb)
      · rw [if_neg h4]
        by_cases h3 : k = 3
        · rw [if_pos h3, if_pos h3]
        · rw [if_neg h3, if_neg h3, if_neg h4]
          by_cases h0 : k = 0
          · subst h0
            have : n = 0 := by omega
            have : n' = 0 := by omega
            subst n; subst n'
            rfl
          · rw [if_neg]
            intro hr
            have := rankF_inj (k := k) (k' := 0) (by omega) (by omega) hr
            exact h0 this
    · rw [if_pos e, if_pos (fun h => e (rankF_inj (by omega) (by omega) h))]
theorem ordIL_L : ∀ (l m : List Val) {d d' : Int}, (∀ v ∈ l, okV d v = true) → (∀ v ∈ m, okV d' v = true) → ordIL l m = ordL l m
  | [], m, d, d', _, _ => by cases m <;> rfl
  | v :: r, [], d, d', _, _ => rfl
  | v :: r, w :: s, d, d', h, h' => by
    simp only [ordIL, ordL]
    rw [ordI_V v w (h v (by simp)) (h' w (by simp)), ordIL_L r s (fun x hx => h x (by simp [hx])) (fun x hx => h' x (by simp [hx]))]
end
theorem ansV {a b : Val} {σ : Heap} (h : b = a) : COut.ret a.cv σ = .ret b.cv σ := by rw [h]
theorem yes_c {σ : Heap} {b : Bool} : CRun Tryz.prog 163 [.sc (.bool b)] σ (· = .ret (boolV b).cv σ) := by
  refine crun_of (X := X) X_ok X_sat (body := bodyOf Tryz.f163) Tryz.func163 rfl (by kernel_rfl) (by kernel_rfl) ?_
  rw [Tryz.ntmps163]
  cases b
  · conv => whnf
    repeat' (first | refine finGo ?_) <;> try (conv => whnf)
    rfl
  · conv => whnf
    repeat' (first | refine finGo ?_) <;> try (conv => whnf)
    rfl
theorem lessF_yes {a b : Int} {n n' : Int} {t t' : ByteArray} {l l' : List Val} (h : a = b ∧ (a = 2 ∨ a = 3 ∨ a = 1)) {z : Bool} (hz : decide (ordV (.mk a n t l) (.mk b n' t' l') < 0) = z) : lessF (.mk a n t l) (.mk b n' t' l') = boolV z := by
  simp only [lessF]; rw [if_pos h, hz]
theorem lessF_no {a b : Int} {n n' : Int} {t t' : ByteArray} {l l' : List Val} (h : ¬ (a = b ∧ (a = 2 ∨ a = 3 ∨ a = 1))) : lessF (.mk a n t l) (.mk b n' t' l') = nullV := by
  simp only [lessF]; rw [if_neg h]
theorem specLess0 {σ : Heap} {a b : Val} (ha : Tame a) (hb : Tame b) : CRun Tryz.prog 181 [a.cv, b.cv] σ (· = .ret (lessF a b).cv σ) := by
  have co : CRun Tryz.prog 225 [a.cv, b.cv] σ (· = .ret (i64 (ordV a b)) σ) := l1Order_c (σ := σ) ha hb
  obtain ⟨ak, an, at', al⟩ := a
  obtain ⟨bk, bn, bt, bl⟩ := b
  by_cases hk : ak = bk ∧ (ak = 2 ∨ ak = 3 ∨ ak = 1)
  · have key := fun z h => lessF_yes (n := an) (n' := bn) (t := at') (t' := bt) (l := al) (l' := bl) hk (z := z) h
    refine crun_of (X := X) X_ok X_sat (body := bodyOf Tryz.f181) Tryz.func181 rfl (by kernel_rfl) (by kernel_rfl) ?_
    rw [Tryz.ntmps181]
    generalize ordV (.mk ak an at' al) (.mk bk bn bt bl) = z at co key
    by_cases hz : z < 0
    · conv => whnf
      repeat' (first | (refine CallN.one co ?_) | (refine CallN.one (bool_c (b := true)) ?_) | refine Fork.yp ?_ | refine Fork.nn ?_ | refine Fork.dn (fun h => ?_) (fun h => ?_) | refine ExtN.ext ?_ | refine finGo ?_) <;> try (conv => whnf)
      all_goals exact ansV (key true (decide_eq_true hz))
    · conv => whnf
      repeat' (first | (refine CallN.one co ?_) | (refine CallN.one (bool_c (b := false)) ?_) | refine Fork.np ?_ | refine Fork.nn ?_ | refine Fork.dn (fun h => ?_) (fun h => ?_) | refine ExtN.ext ?_ | refine finGo ?_) <;> try (conv => whnf)
      all_goals exact ansV (key false (decide_eq_false hz))
  · have key := lessF_no (n := an) (n' := bn) (t := at') (t' := bt) (l := al) (l' := bl) hk
    refine crun_of (X := X) X_ok X_sat (body := bodyOf Tryz.f181) Tryz.func181 rfl (by kernel_rfl) (by kernel_rfl) ?_
    rw [Tryz.ntmps181]
    conv => whnf
    repeat' (first | refine Fork.ny ?_ | refine Fork.dn (fun h => ?_) (fun h => ?_) | refine finGo ?_) <;> try (conv => whnf)
    all_goals first
      | exact ansV key
      | (exfalso; omega)
theorem implLess0 {σ : Heap} {a b : Val} (ha : Tame a) (hb : Tame b) (hoa : okV 3 a = true) (hob : okV 3 b = true) : CRun Tryz.prog 165 [a.cv, b.cv] σ (· = .ret (lessF a b).cv σ) := by
  have co : CRun Tryz.prog 220 [a.cv, b.cv] σ (· = .ret (i64 (ordV a b)) σ) := (ordI_V a b hoa hob) ▸ orderOf_c (σ := σ) ha hb
  obtain ⟨ak, an, at', al⟩ := a
  obtain ⟨bk, bn, bt, bl⟩ := b
  by_cases hk : ak = bk ∧ (ak = 2 ∨ ak = 3 ∨ ak = 1)
  · have key := fun z h => lessF_yes (n := an) (n' := bn) (t := at') (t' := bt) (l := al) (l' := bl) hk (z := z) h
    refine crun_of (X := X) X_ok X_sat (body := bodyOf Tryz.f165) Tryz.func165 rfl (by kernel_rfl) (by kernel_rfl) ?_
    rw [Tryz.ntmps165]
    generalize ordV (.mk ak an at' al) (.mk bk bn bt bl) = z at co key
    by_cases hz : z < 0
    · conv => whnf
      repeat' (first | (refine CallN.one co ?_) | (refine CallN.one (yes_c (b := true)) ?_) | refine Fork.yp ?_ | refine Fork.nn ?_ | refine Fork.dn (fun h => ?_) (fun h => ?_) | refine ExtN.ext ?_ | refine finGo ?_) <;> try (conv => whnf)
      all_goals exact ansV (key true (decide_eq_true hz))
    · conv => whnf
      repeat' (first | (refine CallN.one co ?_) | (refine CallN.one (yes_c (b := false)) ?_) | refine Fork.np ?_ | refine Fork.nn ?_ | refine Fork.dn (fun h => ?_) (fun h => ?_) | refine ExtN.ext ?_ | refine finGo ?_) <;> try (conv => whnf)
      all_goals exact ansV (key false (decide_eq_false hz))
  · have key := lessF_no (n := an) (n' := bn) (t := at') (t' := bt) (l := al) (l' := bl) hk
    refine crun_of (X := X) X_ok X_sat (body := bodyOf Tryz.f165) Tryz.func165 rfl (by kernel_rfl) (by kernel_rfl) ?_
    rw [Tryz.ntmps165]
    conv => whnf
    repeat' (first | refine Fork.ny ?_ | refine Fork.dn (fun h => ?_) (fun h => ?_) | refine finGo ?_) <;> try (conv => whnf)
    all_goals first
      | exact ansV key
      | (exfalso; omega)
end Go.Proofs.YthllnbfkfobcjaaGreat
